/- Part of the proof that card_holds ends in: an evaluator of closed runs over abstract memories, and that what it says holds of the model. -/
import Derived.Test.YtkobceanlhlmcaaGreatDoorA03
import Derived.Laws.IdiomCopy
set_option linter.all false
section
namespace Go.Ev
noncomputable def fBSlice0 (bytes : Bool) (ty : TypeId) (e : Nat) : Al := fun vs h K => match vs with
  | [] => newK bytes (ty, false) [] h fun _ h' => K (.slice h.next 0 0 e (some 0)) h'
  | _ => false
theorem fBSlice0_sound {P : Program} {t el : TypeId} {ie : TypeInfo} (bytes : Bool) (hu : P.underlying t = some (.slice el)) (hie : P.info? el = some ie) : AlSound P (.buildSlice t 0 #[]) (fBSlice0 bytes el ie.size) := by
  intro o ho vs h K hk
  unfold fBSlice0 at hk
  split at hk
  · obtain ⟨d, h', ha, h2, h3⟩ := newK_true hk
    refine ⟨_, _, h', ha, h2, fun B φ h2 w ρ hr hv hn hb hg => ?_⟩
    refine al_cells (fr := (0, 0)) (elem := el) (c := #[]) hr hn hb hg (h3 φ [] .nil) (w' := { w with heap := w.heap.push (.cells #[] el) }) (x := .slice (some ⟨w.heap.size, 0, none⟩) 0 0) ?_ rfl rfl rfl rfl (open00 _) ?_
    · simp only [execOp, ho, Instr.buildSlice, Sem.run_bind, run_underlying hu, Result.andThen_ok, run_sizeOf hie]
      simp [Sem.run_pure, Instr.fill, newRow, run_newObj]
      have e0 : Array.range 0 = #[] := by apply Array.ext' ; simp
      rw [e0]; simp
    · have := VR.slice (φ := φ.put h.next ⟨w.heap.size, 0, 0⟩) (b := h.next) (off := 0) (len := 0) (e := ie.size) (cap := 0) (oc := some 0) (Phi.put_self φ h.next ⟨w.heap.size, 0, 0⟩) (by simp) (Nat.le_refl 0) (fun c hc => by simpa using hc)
      simpa using this
  · exact absurd hk (by simp)
theorem zerosK_true {z : V} : ∀ {n : Nat} {K : List V → Bool}, zerosK [z] n K = true → K (List.replicate n z) = true
  | 0, K, h => h
  | n + 1, K, h => by
    have h' : (zerosK [z] n fun l => K ([z] ++ l)) = true := h
    have := zerosK_true h'
    rw [List.replicate_succ]; exact this
theorem VRs.replicate {φ : Phi} {v : V} {x : Value} (h : VR φ v x) : ∀ n, VRs φ (List.replicate n v) (List.replicate n x)
  | 0 => .nil
  | n + 1 => .cons h (VRs.replicate h n)
theorem range_zero (z : Value) (n : Nat) (hz : z.cells = #[z]) : ((Array.range n).map (z.cells[· % z.cells.size]!)).toList = List.replicate n z := by
  rw [hz]
  simp only [Array.toList_map, Array.toList_range]
  apply List.ext_getElem?
  intro i
  by_cases h : i < n
  · simp [h, Nat.mod_one]
  · simp [h]
noncomputable def fMkSlice (bytes : Bool) (ty : TypeId) (z : V) : Al := fun vs h K => match vs with
  | [.int _ (.ofNat l), .int _ (.ofNat c)] => bif Nat.ble l c && Nat.ble c 1000000 then
      Bool.rec (motive := fun _ => Bool) (zerosK [z] c fun r => newK false (ty, false) r h fun _ h' => K (.slice h.next 0 l 1 (some c)) h')
        (addK h c (.bytes 0) (some (ty, false)) fun h' => K (.slice h.next 0 l 1 (some c)) h') bytes else false
  | _ => false
theorem dec_zero : ∀ n, dec n 0 = List.replicate n 0
  | 0 => rfl
  | n + 1 => by simp [dec, List.replicate_succ]; exact dec_zero n
theorem fMkSlice_sound {P : Program} {t el : TypeId} {ie : TypeInfo} {a b : Operand} {z : Value} {zv : V} (bytes : Bool) (hu : P.underlying t = some (.slice el)) (hie : P.info? el = some ie) (hz : ie.zero = some z) (hsz : ie.size = 1)
    (hby : ie.bytes ≤ 100) (hzv : ∀ φ, VR φ zv z) (hzc : z.cells = #[z]) (hb8 : bytes = true → z = .int .u8 0) : AlSound P (.makeSlice t a b) (fMkSlice bytes el zv) := by
  intro o ho vs h K hk
  unfold fMkSlice at hk
  split at hk
  · rename_i k l k' c
    obtain ⟨h1, hk⟩ := bif_true hk
    obtain ⟨h1, h1'⟩ := Bool.and_eq_true_iff.1 h1
    have hlc := ble_of h1
    have hc6 := ble_of h1'
    have key : ∃ d h', Added h ⟨h.next, 0, c, d, some (el, false)⟩ h' ∧ K (.slice h.next 0 l 1 (some c)) h' = true ∧ ∀ φ, DatOf φ c d (List.replicate c z) := by
      cases bytes with
      | true =>
        obtain ⟨h', ha, h2⟩ := addK_true hk
        refine ⟨_, h', ha, h2, fun φ => ⟨by simp, Nat.pow_pos (by decide), ?_⟩⟩
        rw [hb8 rfl, List.take_of_length_le (by simp), dec_zero, List.map_replicate]
        rfl
      | false =>
        have h2 := zerosK_true hk
        obtain ⟨d, h', ha, h3, h4⟩ := newK_true h2
        simp only [List.length_replicate] at ha h3 h4
        exact ⟨d, h', ha, h3, fun φ => h4 φ _ (VRs.replicate (hzv φ) c)⟩
    obtain ⟨d, h', ha, h2, h3⟩ := key
    refine ⟨_, _, h', ha, h2, fun B φ h2 w ρ hr hv hn hb hg => ?_⟩
    obtain ⟨p, q, e, hp, hq⟩ := hv.two
    simp only [Op.operands, List.map_cons, List.map_nil, List.cons.injEq, and_true] at e
    have hp := hp.int_inv
    have hq := hq.int_inv
    have hwl : IntKind.i64.wrap (Int.ofNat l) = (l : Int) := IntWalk.i64_in _ (by simp; omega)
    have hwc : IntKind.i64.wrap (Int.ofNat c) = (c : Int) := IntWalk.i64_in _ (by simp; omega)
    have hbc : ie.bytes * c ≤ 100 * 1000000 := Nat.mul_le_mul hby hc6
    have hcells : ((Array.range c).map (z.cells[· % z.cells.size]!)).size = c := by simp
    refine al_cells (fr := (0, 0)) (elem := el) (c := (Array.range c).map (z.cells[· % z.cells.size]!)) hr hn hb hg (by rw [range_zero z c hzc]; exact h3 φ)
      (w' := { w with heap := w.heap.push (.cells ((Array.range c).map (z.cells[· % z.cells.size]!)) el) }) (x := .slice (some ⟨w.heap.size, 0, none⟩) l c) ?_ rfl rfl rfl rfl (open00 _) ?_
    · simp only [execOp, ho, e.1, e.2, hp, hq, Instr.makeSlice, Sem.run_bind, run_underlying hu, Result.andThen_ok, asInt, asIntOf, Sem.run_pure, run_typeInfo hie, hwl, hwc]
      have hbi : (ie.bytes : Int) * (c : Int) ≤ ((100 * 1000000 : Nat) : Int) := by have := Int.ofNat_le.2 hbc; rw [Int.natCast_mul] at this; exact this
      rw [if_neg (by
        intro hcon
        simp only [Bool.or_eq_true, decide_eq_true_eq] at hcon
        rcases hcon with ((hcon | hcon) | hcon) | hcon <;> omega)]
      simp only [Sem.run_bind, run_askRoom, Result.andThen_ok, run_sizeOf hie, hsz, Nat.mul_one, Int.toNat_natCast]
      by_cases h0 : c = 0
      · subst h0
        simp [Sem.run_pure, newRow, run_newObj]
        have e0 : Array.range 0 = #[] := by apply Array.ext' ; simp
        rw [e0]; simp
      · rw [if_neg h0]
        simp only [Sem.run_bind, run_zeroValue hie hz, Result.andThen_ok, Sem.run_pure, newRow, run_newObj]
    · rw [hcells]
      have := VR.slice (φ := φ.put h.next ⟨w.heap.size, 0, c⟩) (b := h.next) (off := 0) (len := l) (e := 1) (cap := c) (oc := some c) (Phi.put_self φ h.next ⟨w.heap.size, 0, c⟩) (by simp) hlc (fun c hc => by simpa using hc)
      simpa using this
  · exact absurd hk (by simp)
end Go.Ev
end
section
namespace Go.Ev
theorem modify_push {α : Type} (a : Array α) (x : α) (f : α → α) : (a.push x).modify a.size f = a.push (f x) := by
  apply Array.ext_getElem?
  intro i
  rw [Array.getElem?_modify, Array.getElem?_push, Array.getElem?_push]
  by_cases h : i = a.size
  · subst h; simp
  · rw [if_neg h, if_neg (fun e => h e.symm), if_neg h]
def s2bCells (u : ByteArray) (cap : Nat) : Array Value := (u.data.map fun (b : UInt8) => Value.int .u8 b.toNat) ++ Array.replicate (cap - u.size) (Value.int .u8 0)
theorem s2bCells_size (u : ByteArray) (cap : Nat) (h : u.size ≤ cap) : (s2bCells u cap).size = cap := by
  unfold s2bCells
  rw [Array.size_append, Array.size_map, Array.size_replicate]
  have : u.data.size = u.size := rfl
  omega
theorem run_s2b {P : Program} (w : World) (el : TypeId) (u : ByteArray) : ∃ cap, u.size ≤ cap ∧
    (Conv.stringToBytes el u).run P w = .ok (.slice (some ⟨w.heap.size, 0, none⟩) u.size cap) { w.drew with heap := w.heap.push (.cells (s2bCells u cap) el (cap, cap + 1)) } := by
  have hle : u.size ≤ u.size + (w.tape w.drawn (.appendCap u.size 0 el)) % (2 ^ 63 - u.size) := by omega
  refine ⟨u.size + (w.tape w.drawn (.appendCap u.size 0 el)) % (2 ^ 63 - u.size), hle, ?_⟩
  have hch : (choose (.appendCap u.size 0 el)).run P w = .ok (u.size + (w.tape w.drawn (.appendCap u.size 0 el)) % (2 ^ 63 - u.size)) w.drew := by
    rw [run_choose]; rfl
  generalize u.size + (w.tape w.drawn (.appendCap u.size 0 el)) % (2 ^ 63 - u.size) = cap at *
  have hsh : ∀ W : World, W.heap = w.heap.push (.cells (s2bCells u cap) el) → W.shape? w.heap.size = some (el, (s2bCells u cap).size) := by
    intro W hW; unfold World.shape?; rw [hW]; simp
  have hcs : (s2bCells u cap).size = cap := s2bCells_size u cap (by assumption)
  unfold Conv.stringToBytes markStringish
  simp only [Sem.run_bind, hch, Result.andThen_ok, newRow, run_newObj, Sem.run_pure, run_shape]
  show ((Sem.run P (match ({ w.drew with heap := w.heap.push (.cells (s2bCells u cap) el) } : World).shape? w.heap.size with
    | some (_, n) => freeze { block := w.heap.size, off := n } 1
    | _ => pure ()) { w.drew with heap := w.heap.push (.cells (s2bCells u cap) el) }).andThen fun a w' => Result.ok (Value.slice (some { block := w.heap.size, off := 0 }) u.size cap) w') = _
  rw [hsh _ rfl]
  simp only [run_freeze, Result.andThen_ok, hcs]
  congr 1
  unfold World.freeze
  rw [if_neg (by decide)]
  simp only []
  congr 1
  rw [modify_push]
  simp
noncomputable def fS2B (ty : TypeId) : Al := fun vs h K => match vs with
  | [.str n c] => addK h n (.bytes c) (some (ty, false)) fun h' => K (.slice h.next 0 n 1 none) h'
  | _ => false
theorem fS2B_sound {P : Program} {s t el : TypeId} {x : Operand} {ds : TypeDesc} (hs : P.underlying s = some ds) (ht : P.underlying t = some (.slice el)) (he : P.underlying el = some (.int .u8)) : AlSound P (.convert s t x) (fS2B el) := by
  intro o ho vs h K hk
  unfold fS2B at hk
  split at hk
  · rename_i n c
    obtain ⟨h', ha, h2⟩ := addK_true hk
    refine ⟨_, _, h', ha, h2, fun B φ h2 w ρ hr hv hn hb hg => ?_⟩
    obtain ⟨p, e, hp⟩ := hv.one
    simp only [Op.operands, List.map_cons, List.map_nil, List.cons.injEq, and_true] at e
    obtain ⟨u, rfl, hu, hu'⟩ := hp.str_inv
    have hsz := size_of_dec hu
    obtain ⟨cap, hcap, hrun⟩ := run_s2b (P := P) w el u
    have hcs := s2bCells_size u cap hcap
    have hd : DatOf φ n (.bytes c) (s2bCells u cap).toList := by
      refine ⟨by rw [Array.length_toList, hcs]; omega, hu', ?_⟩
      unfold s2bCells
      rw [Array.toList_append, Array.toList_map, hu, List.take_left' (by simp [dec_length])]
      rfl
    refine al_cells (fr := (cap, cap + 1)) (elem := el) (c := s2bCells u cap) hr hn hb hg hd (w' := { w.drew with heap := w.heap.push (.cells (s2bCells u cap) el (cap, cap + 1)) }) (x := .slice (some ⟨w.heap.size, 0, none⟩) n cap) ?_ rfl rfl rfl rfl ?_ ?_
    · simp only [execOp, ho, e, convert, Sem.run_bind, run_underlying hs, run_underlying ht, Result.andThen_ok]
      rw [← hsz]
      cases ds <;> (simp only [Sem.run_bind, run_underlying he, Result.andThen_ok, hrun, Sem.run_pure])
    · intro q hq; rw [hcs] at hq; simp only []; omega
    · rw [hcs]
      have := VR.slice (φ := φ.put h.next ⟨w.heap.size, 0, cap⟩) (b := h.next) (off := 0) (len := n) (e := 1) (cap := cap) (oc := none) (Phi.put_self φ h.next ⟨w.heap.size, 0, cap⟩) (by simp) (by omega) (fun c hc => by simp at hc)
      simpa using this
  · exact absurd hk (by simp)
end Go.Ev
end
section
namespace Go.Ev
abbrev Ef := List V → H → (V → H → Bool) → Bool
def EfSound (P : Program) (op : Op) (f : Ef) : Prop :=
  ∀ (o : Oper), o.op = op → ∀ B φ h w ρ vs K, HR B φ h w → VRs φ vs (op.operands.toList.map ρ) → f vs h K = true →
    ∃ v h' φ' x w', ((execOp ρ o).run P w = .ok (.value x) w' ∨ (x = undef ∧ (execOp ρ o).run P w = .ok .skip w')) ∧ Ext φ φ' ∧ VR φ' v x ∧ HR B φ' h' w' ∧ Below B w w' ∧ K v h' = true
theorem AlSound.ef {P : Program} {op : Op} {f : Al} (hf : AlSound P op f) : EfSound P op f := by
  intro o ho B φ h w ρ vs K hr hv hk
  obtain ⟨k, v, h', ha, hK, hrun⟩ := hf o ho vs h K hk
  obtain ⟨x, w', L, h1, h2, h3, h4⟩ := hrun B φ h' w ρ (hr.added ha) hv ⟨hr.unmapped (Nat.le_refl _), hr.noU (Nat.le_refl _)⟩ (by rw [ha.bl, if_pos rfl]) (by
    rw [ha.gr]
    cases hg : h.gr.get h.next with
    | none => rfl
    | some G => exact absurd (hr.grn _ _ hg) (Nat.lt_irrefl _))
  exact ⟨v, h', _, x, w', .inl h1, Phi.ext_put (hr.unmapped (Nat.le_refl _)), h2, h3, h4, hK⟩
def undefV : V := .tup []
theorem undefV_rel (φ : Phi) : VR φ undefV undef := .tup .nil
noncomputable def wrK (h : H) (b : Nat) (k : Blk) (d : Dat) (K : H → Bool) : Bool :=
  h.bl.setK b ⟨k.g, k.pos, k.n, d, k.ty⟩ fun bl => h.gr.optK k.g (K ⟨h.next, bl, h.gr⟩) fun G => bif Nat.beq G.last b then (h.gr.setK k.g ⟨b, G.maxe, G.last⟩ fun gr => K ⟨h.next, bl, gr⟩) else false
theorem wrK_true {h : H} {b : Nat} {k : Blk} {d : Dat} {K : H → Bool} (hb : h.bl.get b = some k) (hk : wrK h b k d K = true) : ∃ h', Wrote h b k k.n d h' ∧ K h' = true := by
  obtain ⟨bl, h1, h2⟩ := T.setK_true _ _ _ _ hk
  rw [T.optK_eq] at h2
  cases hg : h.gr.get k.g with
  | none =>
    rw [hg] at h2
    exact ⟨⟨h.next, bl, h.gr⟩, ⟨rfl, hb, h1, .inl ⟨hg, rfl, Nat.le_refl _⟩⟩, h2⟩
  | some G =>
    rw [hg] at h2
    obtain ⟨h3, h4⟩ := bif_true h2
    obtain ⟨gr, h5, h6⟩ := T.setK_true _ _ _ _ h4
    exact ⟨⟨h.next, bl, gr⟩, ⟨rfl, hb, h1, .inr ⟨G, hg, Nat.eq_of_beq_eq_true h3, Nat.le_refl _, h5⟩⟩, h6⟩
theorem setCells_heap (b : Nat) : ∀ (vs : List Value) (o : Nat) (w : World) (c : Array Value) (elem : TypeId) (fr : Nat × Nat), w.heap[b]? = some (.cells c elem fr) → o + vs.length ≤ c.size →
    ∃ c', (w.setCells b o vs).heap[b]? = some (.cells c' elem fr) ∧ c'.size = c.size ∧ (∀ i, c'[i]? = if o ≤ i ∧ i < o + vs.length then vs[i - o]? else c[i]?) ∧
      (∀ x, x ≠ b → (w.setCells b o vs).heap[x]? = w.heap[x]?) ∧ (w.setCells b o vs).heap.size = w.heap.size ∧ (w.setCells b o vs).os = w.os ∧ (w.setCells b o vs).tape = w.tape ∧ (w.setCells b o vs).output = w.output
  | [], o, w, c, elem, fr, h, hl => ⟨c, h, rfl, fun i => by rw [if_neg (by simp)], fun _ _ => rfl, rfl, rfl, rfl, rfl⟩
  | v :: vs, o, w, c, elem, fr, h, hl => by
    simp only [List.length_cons] at hl
    have h1 : (w.setCell ⟨b, o, none⟩ v).heap[b]? = some (.cells (c.setIfInBounds o v) elem fr) := by
      unfold World.setCell
      simp only [Array.getElem?_modify, if_true, h, Option.map_some]
      simp
    obtain ⟨c', g1, g2, g3, g4, g5, g6, g7, g8⟩ := setCells_heap b vs (o + 1) (w.setCell ⟨b, o, none⟩ v) (c.setIfInBounds o v) elem fr h1 (by simp; omega)
    refine ⟨c', g1, by simpa using g2, fun i => ?_, fun x hx => ?_, ?_, g6, g7, g8⟩
    · rw [g3]
      simp only [List.length_cons]
      by_cases e1 : o + 1 ≤ i ∧ i < o + 1 + vs.length
      · rw [if_pos e1, if_pos (by omega), show i - o = (i - (o + 1)) + 1 by omega, List.getElem?_cons_succ]
      · rw [if_neg e1]
        by_cases e2 : i = o
        · subst e2
          rw [if_pos (by omega), Nat.sub_self, List.getElem?_cons_zero, Array.getElem?_setIfInBounds_self, if_pos (by omega)]
        · rw [if_neg (by omega), Array.getElem?_setIfInBounds_ne (fun e => e2 e.symm)]
    · show ((w.setCell ⟨b, o, none⟩ v).setCells b (o + 1) vs).heap[x]? = _
      rw [g4 x hx]
      unfold World.setCell
      simp only [Array.getElem?_modify, if_neg (fun e : b = x => hx e.symm)]
    · show ((w.setCell ⟨b, o, none⟩ v).setCells b (o + 1) vs).heap.size = _
      rw [g5]
      unfold World.setCell
      simp
def oneV : V → Bool | .agg _ | .tup _ => false | _ => true
theorem VR.one {φ : Phi} {v : V} {x : Value} (h : VR φ v x) (ho : oneV v = true) : x.oneCell' = true := by
  cases h <;> first | rfl | exact absurd ho (by simp [oneV])
noncomputable def onesK (l : List V) (K : Bool) : Bool := List.rec (motive := fun _ => Bool) K (fun v _ ih => bif oneV v then ih else false) l
theorem onesK_true {φ : Phi} : ∀ {l : List V} {xs : List Value} {K : Bool}, VRs φ l xs → onesK l K = true → (∀ v ∈ xs, v.oneCell' = true) ∧ K = true
  | [], xs, K, hv, h => by cases hv; exact ⟨by simp, h⟩
  | v :: l, xs, K, hv, h => by
    cases hv with | cons hx hxs =>
    have h' : (bif oneV v then onesK l K else false) = true := h
    obtain ⟨h1, h2⟩ := bif_true h'
    obtain ⟨h3, h4⟩ := onesK_true hxs h2
    refine ⟨fun u hu => ?_, h4⟩
    rcases List.mem_cons.1 hu with rfl | hu
    · exact hx.one h1
    · exact h3 u hu
noncomputable def layK (n : Nat) (d : Dat) (off : Nat) (l : List V) (K : Dat → Bool) : Bool :=
  match d with
  | .cells t => listK l off t fun t => K (.cells t)
  | .bytes c => lenK l 0 fun m => bif Nat.ble (off + m) n then (packK l 0 fun p =>
      natK (c / 256 ^ (n - off) * 256 ^ (n - off) + p * 256 ^ (n - (off + m)) + c % 256 ^ (n - (off + m))) fun c => K (.bytes c)) else false
  | _ => false
theorem layK_sound {φ : Phi} {w w' : World} {L : Loc} {n off : Nat} {d : Dat} {l : List V} {xs : List Value} {K : Dat → Bool} {c c' : Array Value} {elem : TypeId} {fr : Nat × Nat} (hh : Holds φ w L n d) (hv : VRs φ l xs)
    (ho : off + l.length ≤ n) (h1 : w.heap[L.blk]? = some (.cells c elem fr)) (h2 : w'.heap[L.blk]? = some (.cells c' elem fr)) (hs : c'.size = c.size)
    (hc : ∀ i, c'[i]? = if L.base + off ≤ i ∧ i < L.base + off + xs.length then xs[i - (L.base + off)]? else c[i]?) (h : layK n d off l K = true) : ∃ d', Holds φ w' L n d' ∧ K d' = true := by
  unfold layK at h
  have hlen := hv.length
  split at h
  · rename_i t
    obtain ⟨c0, e0, f0, a1, a2, a3, a4, a5⟩ := hh
    rw [h1] at a1; simp only [Option.some.injEq, Obj.cells.injEq] at a1
    obtain ⟨rfl, rfl, rfl⟩ := a1
    obtain ⟨s, g1, g2⟩ := listK_true h
    refine ⟨.cells s, ⟨c', elem, fr, h2, hs.trans a2, a3, a4, fun j v hj hv' => ?_⟩, g2⟩
    rw [g1] at hv'
    rw [hc]
    by_cases e : off ≤ j ∧ j < off + l.length
    · rw [if_pos e] at hv'
      rw [if_pos (by omega), show L.base + j - (L.base + off) = j - off by omega]
      exact hv.get hv'
    · rw [if_neg e] at hv'
      rw [if_neg (by omega)]
      exact a5 j v hj hv'
  · rename_i cd
    obtain ⟨c0, e0, f0, a1, a2, a3, a4, a5, a6⟩ := hh
    rw [h1] at a1; simp only [Option.some.injEq, Obj.cells.injEq] at a1
    obtain ⟨rfl, rfl, rfl⟩ := a1
    rw [lenK_eq, Nat.zero_add] at h
    obtain ⟨g1, g2⟩ := bif_true h
    obtain ⟨p, g3, g4⟩ := packK_true' g2
    rw [natK_eq] at g3
    obtain ⟨p', g5, g6, g7⟩ := packK_true (c := 0) (K := fun c' => Nat.beq c' p) (m := 0) (by simp) hv (by rw [g4]; simp)
    have g5 := Nat.eq_of_beq_eq_true g5; subst g5
    simp only [Nat.zero_add, dec, List.map_nil, List.nil_append] at g6 g7
    generalize hm : l.length = m at *
    obtain ⟨r, rfl⟩ : ∃ r, n = off + (m + r) := ⟨n - (off + m), by omega⟩
    rw [show off + (m + r) - off = m + r by omega, show off + (m + r) - (off + m) = r by omega] at g3
    have hhi : cd / 256 ^ (m + r) < 256 ^ off := by rw [Nat.div_lt_iff_lt_mul (Nat.pow_pos (by decide)), ← Nat.pow_add]; exact a5
    have hlo : cd % 256 ^ r < 256 ^ r := Nat.mod_lt _ (Nat.pow_pos (by decide))
    have hmid : p' * 256 ^ r + cd % 256 ^ r < 256 ^ (m + r) := by
      rw [Nat.pow_add]
      have : (p' + 1) * 256 ^ r ≤ 256 ^ m * 256 ^ r := Nat.mul_le_mul_right _ g6
      rw [Nat.succ_mul] at this; omega
    have hdec : dec (off + (m + r)) (cd / 256 ^ (m + r) * 256 ^ (m + r) + (p' * 256 ^ r + cd % 256 ^ r)) = dec off (cd / 256 ^ (m + r)) ++ (dec m p' ++ dec r (cd % 256 ^ r)) := by
      rw [dec_append off (m + r) _ _ hmid, dec_append m r _ _ hlo]
    have hold : dec (off + (m + r)) cd = dec off (cd / 256 ^ (m + r)) ++ (dec m (cd % 256 ^ (m + r) / 256 ^ r) ++ dec r (cd % 256 ^ r)) := by
      rw [dec_split off (m + r), dec_split m r]
      congr 2
      congr 1
      rw [Nat.pow_add, Nat.mul_comm, Nat.mod_mul_right_mod]
    refine ⟨.bytes _, ⟨c', elem, fr, h2, hs.trans a2, a3, a4, ?_, ?_⟩, g3⟩
    · rw [Nat.pow_add 256 off, Nat.add_assoc]
      have : (cd / 256 ^ (m + r) + 1) * 256 ^ (m + r) ≤ 256 ^ off * 256 ^ (m + r) := Nat.mul_le_mul_right _ hhi
      rw [Nat.succ_mul] at this; omega
    · rw [Nat.add_assoc, hdec]
      rw [hold] at a6
      simp only [List.map_append] at a6 ⊢
      rw [g7]
      apply List.ext_getElem?
      intro j
      rw [List.getElem?_take, List.getElem?_drop, Array.getElem?_toList]
      have b6 := congrArg (·[j]?) a6
      simp only [List.getElem?_take, List.getElem?_drop, Array.getElem?_toList] at b6
      by_cases hj : j < off + (m + r)
      · rw [if_pos hj, hc]
        rw [if_pos hj] at b6
        by_cases e : off ≤ j ∧ j < off + xs.length
        · rw [if_pos (by omega), List.getElem?_append_right (by simp [dec_length]; omega), List.getElem?_append_left (by simp [dec_length]; omega)]
          simp [dec_length]
          congr 1; omega
        · rw [if_neg (by omega), b6]
          by_cases e2 : j < off
          · rw [List.getElem?_append_left (by simp [dec_length]; omega), List.getElem?_append_left (by simp [dec_length]; omega)]
          · rw [List.getElem?_append_right (by simp [dec_length]; omega), List.getElem?_append_right (by simp [dec_length]; omega)]
            rw [List.getElem?_append_right (by simp [dec_length]; omega), List.getElem?_append_right (by simp [dec_length]; omega)]
            simp [dec_length, ← hlen]
      · rw [if_neg hj]
        rw [if_neg hj] at b6
        have : (List.map byteVal (dec off (cd / 256 ^ (m + r))) ++ (xs ++ List.map byteVal (dec r (cd % 256 ^ r)))).length = off + (m + r) := by
          simp [dec_length, ← hlen]
        rw [List.getElem?_eq_none (by omega)]
  · exact absurd h (by simp)
theorem Holds.cells {φ : Phi} {w : World} {L : Loc} {n : Nat} {d : Dat} (h : Holds φ w L n d) (hd : d.isMap = false) : ∃ c elem fr, w.heap[L.blk]? = some (.cells c elem fr) ∧ c.size = L.cs ∧ Open fr L.cs ∧ L.base + n ≤ L.cs := by
  cases d with
  | cells t => obtain ⟨c, elem, fr, h1, h2, h3, h4, _⟩ := h; exact ⟨c, elem, fr, h1, h2, h3, h4⟩
  | bytes t => obtain ⟨c, elem, fr, h1, h2, h3, h4, _⟩ := h; exact ⟨c, elem, fr, h1, h2, h3, h4⟩
  | map es clock => simp [Dat.isMap] at hd
  | mit _ _ _ _ => simp [Dat.isMap] at hd
  | lrec _ _ _ _ _ _ _ => simp [Dat.isMap] at hd
theorem frozen_of {w : World} {B o : Nat} {c : Array Value} {elem : TypeId} {fr : Nat × Nat} (h : w.heap[B]? = some (.cells c elem fr)) (hf : ¬ (fr.1 ≤ o ∧ o < fr.2)) : w.frozen? ⟨B, o, none⟩ = false := by
  unfold World.frozen?
  rw [h]
  obtain ⟨lo, hi⟩ := fr
  simp only [] at hf ⊢
  rw [Bool.eq_false_iff]; simp; omega
noncomputable def putK (h : H) (b off : Nat) (l : List V) (K : H → Bool) : Bool :=
  blkK h b fun k => lenK l 0 fun m => bif !k.d.isMap && Nat.ble (off + m) k.n then onesK l (layK k.n k.d off l fun d => wrK h b k d K) else false
theorem putK_sound {P : Program} {B : Bd} {φ : Phi} {h : H} {w : World} {b off : Nat} {l : List V} {xs : List Value} {L : Loc} {K : H → Bool} (hr : HR B φ h w) (hL : φ b = some L) (hv : VRs φ l xs) (hk : putK h b off l K = true) :
    ∃ h' w', (storeCells ⟨L.blk, L.base + off, none⟩ xs).run P w = .ok () w' ∧ HR B φ h' w' ∧ Below B w w' ∧ K h' = true := by
  unfold putK at hk
  obtain ⟨k, hb, hl, hk⟩ := blkK_true hk
  rw [lenK_eq, Nat.zero_add] at hk
  obtain ⟨h1, h2⟩ := bif_true hk
  obtain ⟨h1, h3⟩ := Bool.and_eq_true_iff.1 h1
  have h1 : k.d.isMap = false := by simpa using h1
  have h3 := ble_of h3
  obtain ⟨hone, h4⟩ := onesK_true hv h2
  have hh := hr.hold b L k hL hb hl
  obtain ⟨c, elem, fr, g1, g2, g3, g4⟩ := hh.cells h1
  have hlen := hv.length
  obtain ⟨c', e1, e2, e3, e4, e5, e6, e7, e8⟩ := setCells_heap L.blk xs (L.base + off) w c elem fr g1 (by omega)
  obtain ⟨d', e9, e10⟩ := layK_sound (w' := w.setCells L.blk (L.base + off) xs) hh hv h3 g1 e1 e2 e3 h4
  obtain ⟨h', e11, e12⟩ := wrK_true hb e10
  refine ⟨h', w.setCells L.blk (L.base + off) xs, ?_, hr.wrote e11 hl hL e5 e4 (fun c0 e0 fr0 h0 => by rw [g1] at h0; simp only [Option.some.injEq, Obj.cells.injEq] at h0; obtain ⟨hcc, rfl, _⟩ := h0; exact ⟨c', fr, e1, by rw [e2, hcc]⟩) e9, Below.of_set (hr.dom b L hL).2.1 e6 e7 e8 e5 e4 g1 (fun ds e => by cases e), e12⟩
  have := run_storeCells_cells (P := P) L.blk (L.base + off) xs 0 w (fun j hj => by
      rw [Nat.add_zero, cell_of g1]
      have : L.base + off + j < c.size := by omega
      simp [this]) (fun j hj => by
      rw [Nat.add_zero]
      exact frozen_of g1 (g3 _ (by omega))) hone
  simpa using this
noncomputable def fStore (n : Nat) : Ef := fun vs h K => match vs with
  | [.ptr b off, v] => lenK (cellsV v) 0 fun m => bif Nat.beq m n then putK h b off (cellsV v) fun h' => K undefV h' else false
  | _ => false
theorem fStore_sound {P : Program} {t : TypeId} {a x : Operand} {i : TypeInfo} (hi : P.info? t = some i) : EfSound P (.store t a x) (fStore i.size) := by
  intro o ho B φ h w ρ vs K hr hv hk
  unfold fStore at hk
  split at hk
  · rename_i b off v
    obtain ⟨p, q, e, hp, hq⟩ := hv.two
    simp only [Op.operands, List.map_cons, List.map_nil, List.cons.injEq, and_true] at e
    rw [lenK_eq, Nat.zero_add] at hk
    obtain ⟨h1, h2⟩ := bif_true hk
    have h1 := Nat.eq_of_beq_eq_true h1
    obtain ⟨L, hL, rfl⟩ := hp.ptr_inv
    obtain ⟨h', w', h3, h4, h5, h6⟩ := putK_sound (P := P) hr hL hq.cells h2
    refine ⟨undefV, h', φ, undef, w', .inr ⟨rfl, ?_⟩, Ext.refl φ, undefV_rel φ, h4, h5, h6⟩
    have hsz : q.cells.size = i.size := by have := hq.cells.length; rw [h1] at this; simpa using this.symm
    simp only [execOp, ho, e.1, e.2, Instr.storeAt, Instr.sureAddr, storeVar, Sem.run_bind, Sem.run_pure, Result.andThen_ok, run_sizeOf hi]
    rw [if_neg (by simp [hsz])]
    simp only [Sem.run_bind, h3, Result.andThen_ok, Sem.run_pure]
  · exact absurd hk (by simp)
end Go.Ev
end
section
namespace Go.Ev
theorem growBy_le (newLen : Nat) : ∀ (r c : Nat), c ≤ 2 * newLen + 1000 → Builtin.growBy newLen r c ≤ 2 * newLen + 1000
  | 0, c, h => h
  | r + 1, c, h => by
    simp only [Builtin.growBy]
    split
    · exact h
    · exact growBy_le newLen r _ (by omega)
theorem nextslicecap_le (need old : Nat) (h : old < need) : Builtin.nextslicecap need old ≤ 2 * need + 1000 := by
  unfold Builtin.nextslicecap
  split
  · omega
  · split
    · omega
    · exact growBy_le need 4 old (by omega)
structure Src (P : Program) (w : World) (size n : Nat) (x : Value) (xs : Array Value) : Prop where
  len : (Builtin.lenOf x).run P w = .ok n w
  cells : ∀ W : World, W.heap = w.heap → (Builtin.firstCells size n x).run P W = .ok xs W
  size : xs.size = n * size
structure SrcA (P : Program) (w : World) (zr : Bool) (z : Value) (size n : Nat) (x : Value) (xs : Array Value) : Prop where
  plain : zr = false → Src P w size n x xs
  zeros : zr = true → x = .int .i64 n ∧ n ≤ 1000000 ∧ xs = Builtin.zeroCells z.cells n
  size : xs.size = n * size
theorem Src.toA {P : Program} {w : World} {z : Value} {size n : Nat} {x : Value} {xs : Array Value} (h : Src P w size n x xs) : SrcA P w false z size n x xs := ⟨fun _ => h, fun h => absurd h (by simp), h.size⟩
def appOk (P : Program) (argTypes : Array TypeId) (el : TypeId) (ie : TypeInfo) (z : Value) (zr : Bool := false) : Prop :=
  ∃ st xt xd, argTypes[0]? = some st ∧ P.underlying st = some (.slice el) ∧ P.info? el = some ie ∧ ie.zero = some z ∧ z.cells.size = ie.size ∧ ie.bytes ≤ 1000 ∧ ie.bytes ≠ 0 ∧
    argTypes[1]? = some xt ∧ P.underlying xt = some xd ∧ (zr = false → ∀ k, xd ≠ .int k) ∧ (zr = true → ∃ k, xd = .int k)
def growsTo (w : World) (el : TypeId) (old xs : Array Value) (rest : Array Value) : World := { w.drew with heap := w.heap.push (.cells (old ++ xs ++ rest) el) }
theorem wrap_lil {n : Nat} (h : n ≤ 1000000) : IntKind.i64.wrap (n : Int) = n := by rw [IntKind.wrap_i64]; omega
theorem run_append_in {P : Program} {w : World} {argTypes : Array TypeId} {ty : TypeId} {el : TypeId} {ie : TypeInfo} {z : Value} {zr : Bool} (hok : appOk P argTypes el ie z zr) {base : Option Addr} {len cap n : Nat} {x : Value} {xs : Array Value}
    (hx : SrcA P w zr z ie.size n x xs) (hle : len + n ≤ cap) :
    (Builtin.append_ argTypes ty #[.slice base len cap, x]).run P w = ((match base with | some a => storeCells (a.add (len * ie.size)) xs.toList | none => pure ()).run P w).andThen fun _ w' => .ok (.slice base (len + n) cap) w' := by
  obtain ⟨st, xt, xd, h0, hst, hie, hz, hzs, hb, hb0, h1, hxt, hxd, hxz⟩ := hok
  unfold Builtin.append_
  simp only [h0, List.getElem?_toArray, List.getElem?_cons_zero, List.getElem?_cons_succ, Sem.run_bind, run_underlying hst, Result.andThen_ok, run_sizeOf hie, h1, run_underlying hxt]
  cases zr with
  | false =>
    have hx := hx.plain rfl
    cases xd
    case int k => exact absurd rfl (hxd rfl k)
    all_goals
      simp only [Sem.run_pure, Result.andThen_ok, Bool.false_eq_true, if_false, Sem.run_bind, hx.len, hle, if_true, Bool.not_false, hx.cells w rfl]
      cases base <;> simp [Sem.run_bind, Sem.run_pure]
  | true =>
    obtain ⟨hx1, hx2, hx3⟩ := hx.zeros rfl
    obtain ⟨k, rfl⟩ := hxz rfl
    subst hx1
    have hbb : n * ie.bytes ≤ 1000000 * 1000 := Nat.mul_le_mul hx2 hb
    have hbb' : ¬ ((n : Int) * (ie.bytes : Int) > 2 ^ 48) := by rw [← Int.natCast_mul]; omega
    have hn0 : ¬ ((n : Int) < 0) := by omega
    simp only [Sem.run_pure, Result.andThen_ok, if_true, Sem.run_bind, asInt, asIntOf, wrap_lil hx2]
    rw [if_neg hn0]
    simp only [Sem.run_pure, Sem.run_bind, Result.andThen_ok, run_typeInfo hie]
    rw [if_neg hbb']
    simp only [Sem.run_pure, Sem.run_bind, Result.andThen_ok, Int.toNat_natCast, hle, if_true, Bool.not_true, Bool.false_eq_true, if_false]
    by_cases hz0 : n * ie.size = 0
    · have hxs : xs = #[] := by have := hx.size; rw [hz0] at this; exact Array.size_eq_zero_iff.1 this
      rw [if_pos hz0, hxs]
      cases base <;> simp [Sem.run_bind, Sem.run_pure]
    · rw [if_neg hz0, hx3]
      cases base <;> simp [Sem.run_bind, Sem.run_pure, run_zeroValue hie hz]
theorem run_append_out {P : Program} {w : World} {argTypes : Array TypeId} {ty : TypeId} {el : TypeId} {ie : TypeInfo} {z : Value} {zr : Bool} (hok : appOk P argTypes el ie z zr) {base : Option Addr} {len cap n : Nat} {x : Value} {xs old : Array Value}
    (hx : SrcA P w zr z ie.size n x xs) (hold : ∀ W : World, W.heap = w.heap → (Builtin.firstCells ie.size len (.slice base len cap)).run P W = .ok old W) (hn : len + n ≤ 1000000) (h : cap < len + n) :
    ∃ newCap rest, len + n ≤ newCap ∧ rest.size = (newCap - (len + n)) * ie.size ∧
      (Builtin.append_ argTypes ty #[.slice base len cap, x]).run P w = .ok (.slice (some ⟨w.heap.size, 0, none⟩) (len + n) newCap) (growsTo w el old xs rest) := by
  obtain ⟨st, xt, xd, h0, hst, hie, hz, hzs, hb, hb0, h1, hxt, hxd, hxz⟩ := hok
  have hch : (choose (.appendCap (len + n) cap el)).run P w = .ok (len + n + (w.tape w.drawn (.appendCap (len + n) cap el)) % (2 ^ 63 - (len + n))) w.drew := by
    rw [run_choose]; rfl
  refine ⟨len + n + (w.tape w.drawn (.appendCap (len + n) cap el)) % (2 ^ 63 - (len + n)), Builtin.zeroCells z.cells (len + n + (w.tape w.drawn (.appendCap (len + n) cap el)) % (2 ^ 63 - (len + n)) - (len + n)), by omega, ?_, ?_⟩
  · unfold Builtin.zeroCells; simp [hzs]
  · generalize len + n + (w.tape w.drawn (.appendCap (len + n) cap el)) % (2 ^ 63 - (len + n)) = newCap at *
    have hnc := nextslicecap_le (len + n) cap h
    have hbb : Builtin.nextslicecap (len + n) cap * ie.bytes ≤ 2001000 * 1000 := Nat.mul_le_mul (by omega) hb
    unfold Builtin.append_
    simp only [h0, List.getElem?_toArray, List.getElem?_cons_zero, List.getElem?_cons_succ, Sem.run_bind, run_underlying hst, Result.andThen_ok, run_sizeOf hie, h1, run_underlying hxt]
    cases zr with
    | false =>
      have hx := hx.plain rfl
      cases xd
      case int k => exact absurd rfl (hxd rfl k)
      all_goals
        simp only [Sem.run_pure, Result.andThen_ok, Bool.false_eq_true, if_false, Sem.run_bind, hx.len]
        rw [if_neg (by omega)]
        simp only [Sem.run_bind, run_typeInfo hie, Result.andThen_ok]
        rw [if_neg (by simp [hb0])]
        simp only [Sem.run_bind, run_typeInfo hie, Result.andThen_ok, Sem.run_pure]
        rw [if_neg (by omega)]
        simp only [Sem.run_bind, hch, run_typeInfo hie, Result.andThen_ok, Sem.run_pure, run_askRoom, Bool.not_false, if_true]
        simp only [hold w.drew rfl, hx.cells w.drew rfl, Result.andThen_ok, Sem.run_bind, run_zeroValue hie hz, newRow, run_newObj, Sem.run_pure]
        rfl
    | true =>
      obtain ⟨hx1, hx2, hx3⟩ := hx.zeros rfl
      obtain ⟨k, rfl⟩ := hxz rfl
      subst hx1
      have hb2 : n * ie.bytes ≤ 1000000 * 1000 := Nat.mul_le_mul hx2 hb
      have hbb' : ¬ ((n : Int) * (ie.bytes : Int) > 2 ^ 48) := by rw [← Int.natCast_mul]; omega
      have hn0 : ¬ ((n : Int) < 0) := by omega
      have hmax : ¬ (((len + n : Nat) : Int) > IntKind.i64.max) := by rw [show IntKind.i64.max = 9223372036854775807 from rfl]; omega
      simp only [Sem.run_pure, Result.andThen_ok, if_true, Sem.run_bind, asInt, asIntOf, wrap_lil hx2]
      rw [if_neg hn0]
      simp only [Sem.run_pure, Sem.run_bind, Result.andThen_ok, run_typeInfo hie]
      rw [if_neg hbb']
      simp only [Sem.run_pure, Sem.run_bind, Result.andThen_ok, Int.toNat_natCast, Bool.not_true, Bool.false_eq_true, if_false]
      rw [if_neg (by omega)]
      simp only [Sem.run_bind, run_typeInfo hie, Result.andThen_ok]
      rw [if_neg (fun e => hmax e.1)]
      simp only [Sem.run_bind, run_typeInfo hie, Result.andThen_ok, Sem.run_pure]
      rw [if_neg (by omega)]
      simp only [Sem.run_bind, hch, run_typeInfo hie, Result.andThen_ok, Sem.run_pure, run_askRoom]
      simp only [hold w.drew rfl, Result.andThen_ok]
      by_cases hz0 : n * ie.size = 0
      · have hxs : xs = #[] := by have := hx.size; rw [hz0] at this; exact Array.size_eq_zero_iff.1 this
        rw [if_pos hz0, hxs]
        simp only [Result.andThen_ok, Sem.run_bind, run_zeroValue hie hz, newRow, run_newObj, Sem.run_pure]
        rfl
      · rw [if_neg hz0, hx3]
        simp only [Result.andThen_ok, Sem.run_bind, run_zeroValue hie hz, newRow, run_newObj, Sem.run_pure]
        rfl
end Go.Ev
end
section
namespace Go.Ev
noncomputable def tyK (el : TypeId) (o : Option (TypeId × Bool)) : Option (TypeId × Bool) := Option.rec (motive := fun _ => Option (TypeId × Bool)) none (fun e => Bool.rec (motive := fun _ => Option (TypeId × Bool)) none (some (el, false)) (Nat.beq e.1 el)) o
theorem tyK_true {el : TypeId} {e : TypeId × Bool} {o : Option (TypeId × Bool)} (h : tyK el o = some e) : e = (el, false) ∧ ∃ x, o = some (el, x) := by
  cases o with
  | none => exact absurd h (by simp [tyK])
  | some a =>
    have h' : (Bool.rec (motive := fun _ => Option (TypeId × Bool)) none (some (el, false)) (Nat.beq a.1 el)) = some e := h
    cases hb : Nat.beq a.1 el with
    | true => rw [hb] at h'; simp at h'; have := Nat.eq_of_beq_eq_true hb; subst this; exact ⟨h'.symm, a.2, rfl⟩
    | false => rw [hb] at h'; simp at h'
noncomputable def grewK (h : H) (k : Blk) (off m n : Nat) (d : Dat) (ty : Option (TypeId × Bool)) (K : H → Bool) : Bool :=
  natK (k.pos + off) fun pos => natK (m + n) fun sz => natK (pos + sz) fun me =>
  h.bl.setK h.next ⟨k.g, pos, sz, d, ty⟩ fun bl =>
  (h.gr.optK k.g (Bool.rec (motive := fun _ => Bool) (h.gr.setK k.g ⟨h.next, me, h.next⟩ fun gr => natK (Nat.succ h.next) fun nx => K ⟨nx, bl, gr⟩) (h.gr.setK k.g ⟨0, me, h.next⟩ fun gr => natK (Nat.succ h.next) fun nx => K ⟨nx, bl, gr⟩) (Nat.ble k.n (off + m)))
    fun G => Bool.rec (motive := fun _ => Bool) (h.gr.setK k.g ⟨h.next, me, h.next⟩ fun gr => natK (Nat.succ h.next) fun nx => K ⟨nx, bl, gr⟩) (h.gr.setK k.g ⟨G.minv, me, h.next⟩ fun gr => natK (Nat.succ h.next) fun nx => K ⟨nx, bl, gr⟩) (Nat.ble G.maxe (pos + m)))
theorem grewK_true {h : H} {b : Nat} {k : Blk} {off m n : Nat} {d : Dat} {ty : Option (TypeId × Bool)} {K : H → Bool} (hb : h.bl.get b = some k) (hk : grewK h k off m n d ty K = true) : ∃ h', Grew h b k off m n d ty h' ∧ K h' = true := by
  unfold grewK at hk
  rw [natK_eq, natK_eq, natK_eq] at hk
  obtain ⟨bl, h1, h2⟩ := T.setK_true _ _ _ _ hk
  rw [T.optK_eq] at h2
  have fin : ∀ mv, (h.gr.setK k.g ⟨mv, k.pos + off + (m + n), h.next⟩ fun gr => natK (Nat.succ h.next) fun nx => K ⟨nx, bl, gr⟩) = true →
      ((mv = 0 ∧ h.gr.get k.g = none ∧ k.n ≤ off + m) ∨ (∃ G, h.gr.get k.g = some G ∧ mv = G.minv ∧ G.maxe ≤ k.pos + off + m) ∨ mv = h.next) → ∃ h', Grew h b k off m n d ty h' ∧ K h' = true := by
    intro mv h3 h4
    obtain ⟨gr, h5, h6⟩ := T.setK_true _ _ _ _ h3
    rw [natK_eq] at h6
    refine ⟨⟨h.next + 1, bl, gr⟩, ⟨rfl, hb, h1, mv, fun j => ?_, h4⟩, h6⟩
    rw [h5, Nat.add_assoc (k.pos + off)]
  cases hg : h.gr.get k.g with
  | none =>
    rw [hg] at h2
    simp only [] at h2
    cases hc : Nat.ble k.n (off + m) with
    | true => rw [hc] at h2; exact fin 0 h2 (.inl ⟨rfl, hg, ble_of hc⟩)
    | false => rw [hc] at h2; exact fin h.next h2 (.inr (.inr rfl))
  | some G =>
    rw [hg] at h2
    simp only [] at h2
    cases hc : Nat.ble G.maxe (k.pos + off + m) with
    | true => rw [hc] at h2; exact fin G.minv h2 (.inr (.inl ⟨G, hg, rfl, ble_of hc⟩))
    | false => rw [hc] at h2; exact fin h.next h2 (.inr (.inr rfl))
theorem DatOf.at_ {φ : Phi} {n : Nat} {d : Dat} {xs : List Value} {w : World} {L : Loc} {c : Array Value} {elem : TypeId} {fr : Nat × Nat} (h : DatOf φ n d xs) (hb : w.heap[L.blk]? = some (.cells c elem fr)) (hs : c.size = L.cs) (hf : Open fr L.cs)
    (hn : L.base + n ≤ L.cs) (hc : ∀ i, i < n → c[L.base + i]? = xs[i]?) : Holds φ w L n d := by
  obtain ⟨hl, h⟩ := h
  cases d with
  | cells t => exact ⟨c, elem, fr, hb, hs, hf, hn, fun j v hj hv => by rw [hc j hj]; exact h j v hj hv⟩
  | bytes cd =>
    refine ⟨c, elem, fr, hb, hs, hf, hn, h.1, ?_⟩
    rw [← h.2]
    apply List.ext_getElem?
    intro i
    rw [List.getElem?_take, List.getElem?_take]
    split
    · rw [List.getElem?_drop, Array.getElem?_toList]; exact hc i (by assumption)
    · rfl
  | map _ _ => exact h.elim
  | mit _ _ _ _ => exact h.elim
  | lrec _ _ _ _ _ _ _ => exact h.elim
theorem DatOf.more {φ : Phi} {n : Nat} {d : Dat} {xs : List Value} (h : DatOf φ n d xs) (ys : List Value) : DatOf φ n d (xs ++ ys) := by
  obtain ⟨hl, h⟩ := h
  refine ⟨by rw [List.length_append]; omega, ?_⟩
  cases d with
  | cells t => exact fun j v hj hv => let ⟨x, h1, h2⟩ := h j v hj hv; ⟨x, by rw [List.getElem?_append_left (by omega)]; exact h1, h2⟩
  | bytes c => exact ⟨h.1, by rw [List.take_append_of_le_length hl]; exact h.2⟩
  | map _ _ => exact h
  | mit _ _ _ _ => exact h
  | lrec _ _ _ _ _ _ _ => exact h
noncomputable def appK (el : TypeId) (e n : Nat) (cat : Blk → Nat → Nat → (Dat → Bool) → Bool) (new : (Dat → Bool) → Bool) (put : Nat → Nat → (H → Bool) → Bool) (s : V) (h : H) (K : V → H → Bool) : Bool :=
  match s with
  | .nils => Bool.rec (motive := fun _ => Bool) (bif Nat.ble n 1000000 then new fun d => addK h (n * e) d (some (el, false)) fun h' => K (.slice h.next 0 n e none) h' else false) (K .nils h) (Nat.beq n 0)
  | .slice b off len ee oc => Bool.rec (motive := fun _ => Bool)
      (bif Nat.beq ee e && Nat.ble (len + n) 1000000 then
        (match oc with
        | some c => Bool.rec (motive := fun _ => Bool)
            (blkK h b fun k => bif !k.d.isMap && Nat.ble (off + len * e) k.n then cat k off (len * e) fun d => addK h (len * e + n * e) d (some (el, false)) fun h' => natK (len + n) fun nn => K (.slice h.next 0 nn e none) h' else false)
            (put b (off + len * e) fun h' => natK (len + n) fun nn => K (.slice b off nn e (some c)) h') (Nat.ble (len + n) c)
        | none => blkK h b fun k => bif !k.d.isMap && Nat.ble (off + len * e) k.n then cat k off (len * e) fun d => grewK h k off (len * e) (n * e) d (tyK el k.ty) fun h' => natK (len + n) fun nn => K (.slice h.next 0 nn e none) h' else false)
      else false) (K s h) (Nat.beq n 0)
  | _ => false
theorem al_cells' {B : Bd} {φ : Phi} {h2 : H} {w w' : World} {b : Nat} {k : Blk} {c : Array Value} {elem : TypeId} {fr : Nat × Nat}
    (hr : HR B φ h2 w) (hn : φ b = none ∧ B.U b = none) (hb : h2.bl.get b = some k) (hre : ∀ G, h2.gr.get k.g = some G → k.pos + k.n ≤ G.maxe) (hlo : h2.gr.get k.g = none → b = k.g) (hty : ∀ e, k.ty = some e → e = (elem, false)) (hd : DatOf φ k.n k.d c.toList)
    (hh : w'.heap = w.heap.push (.cells c elem fr)) (ho : w'.os = w.os) (ht : w'.tape = w.tape) (hu : w'.output = w.output) (hf : Open fr c.size) :
    HR B (φ.put b ⟨w.heap.size, 0, c.size⟩) h2 w' ∧ Below B w w' :=
  ⟨hr.mapped hn.2 hn.1 hb hre hlo hh (fun e he => ⟨c, fr, by rw [hty e he], fun h1 => by rw [hty e he] at h1; exact absurd h1 (by simp)⟩) (hd.holds (elem := elem) (fr := fr) (by rw [hh]; simp) hf), Below.of_push hr.size hh ho ht hu⟩
theorem appK_sound {P : Program} {B : Bd} {φ : Phi} {h : H} {w : World} {argTypes : Array TypeId} {ty el : TypeId} {ie : TypeInfo} {z : Value} {zr : Bool} (hok : appOk P argTypes el ie z zr) (hr : HR B φ h w)
    {n : Nat} {x : Value} {xs : Array Value} (hx : SrcA P w zr z ie.size n x xs) {cat : Blk → Nat → Nat → (Dat → Bool) → Bool} {new : (Dat → Bool) → Bool} {put : Nat → Nat → (H → Bool) → Bool} {s : V} {sv : Value} {K : V → H → Bool}
    (hcat : ∀ b L k off m K, φ b = some L → Holds φ w L k.n k.d → off + m ≤ k.n → cat k off m K = true → ∃ d, K d = true ∧ ∀ old : List Value, old.length = m → (∀ i, i < m → w.cell? ⟨L.blk, L.base + off + i, none⟩ = old[i]?) → DatOf φ (m + n * ie.size) d (old ++ xs.toList))
    (hnew : ∀ K, new K = true → ∃ d, K d = true ∧ DatOf φ (n * ie.size) d xs.toList)
    (hput : ∀ b o L K, φ b = some L → put b o K = true → ∃ h' w', (storeCells ⟨L.blk, L.base + o, none⟩ xs.toList).run P w = .ok () w' ∧ HR B φ h' w' ∧ Below B w w' ∧ K h' = true)
    (hone : ∀ v ∈ xs.toList, v.oneCell' = true)
    (hs : VR φ s sv) (hk : appK el ie.size n cat new put s h K = true) :
    ∃ v h' φ' r w', (Builtin.append_ argTypes ty #[sv, x]).run P w = .ok r w' ∧ Ext φ φ' ∧ VR φ' v r ∧ HR B φ' h' w' ∧ Below B w w' ∧ K v h' = true := by
  have hxs : n = 0 → xs = #[] := fun h0 => by
    have := hx.size; subst h0; simpa using this
  have hsz : ∀ newCap, n ≤ newCap → n * ie.size + (newCap - n) * ie.size = newCap * ie.size := fun newCap hle => by rw [← Nat.add_mul]; congr 1; omega
  unfold appK at hk
  split at hk
  ·
    have := hs.nils_inv; subst this
    cases hz : Nat.beq n 0 with
    | true =>
      rw [hz] at hk
      have h0 := Nat.eq_of_beq_eq_true hz
      have hr0 := run_append_in (ty := ty) hok (base := none) (len := 0) (cap := 0) hx (by omega)
      refine ⟨.nils, h, φ, .slice none 0 0, w, ?_, Ext.refl φ, .nils, hr, Below.refl _ _, hk⟩
      rw [hr0, h0]; rfl
    | false =>
      rw [hz] at hk
      have hn0 : n ≠ 0 := fun e => by rw [e] at hz; simp at hz
      obtain ⟨h1, h2⟩ := bif_true hk
      have h1 := ble_of h1
      obtain ⟨d, h3, h4⟩ := hnew _ h2
      obtain ⟨h', ha, h5⟩ := addK_true h3
      obtain ⟨newCap, rest, g1, g2, g3⟩ := run_append_out (ty := ty) hok (base := none) (len := 0) (cap := 0) (old := #[]) hx (fun W _ => rfl) (by omega) (by omega)
      rw [Nat.zero_add] at g1 g2
      have hDat : DatOf φ (n * ie.size) d (#[] ++ xs ++ rest).toList := by
        rw [Array.toList_append, Array.toList_append]; exact h4.more _
      obtain ⟨h6, h7⟩ := al_cells' (c := #[] ++ xs ++ rest) (elem := el) (fr := (0, 0)) (w' := growsTo w el #[] xs rest) (hr.added ha) ⟨hr.unmapped (Nat.le_refl _), hr.noU (Nat.le_refl _)⟩ (by rw [ha.bl, if_pos rfl]) (fun G hG => by
        simp only [] at hG; rw [ha.gr] at hG; exact absurd (hr.grn _ _ hG) (Nat.lt_irrefl _)) (fun _ => rfl) (fun e he => by simp only [Option.some.injEq] at he; exact he.symm) hDat rfl rfl rfl rfl (open00 _)
      refine ⟨_, h', _, _, _, g3, Phi.ext_put (hr.unmapped (Nat.le_refl _)), ?_, h6, h7, h5⟩
      rw [Nat.zero_add]
      have := VR.slice (φ := φ.put h.next ⟨w.heap.size, 0, (#[] ++ xs ++ rest).size⟩) (b := h.next) (off := 0) (e := ie.size) (oc := none) (L := ⟨w.heap.size, 0, (#[] ++ xs ++ rest).size⟩) (Phi.put_self _ _ _) (cap := newCap) (len := n) (by
        simp only [Array.size_append, hx.size, g2, Array.size_empty]
        rw [← hsz newCap g1]; omega) g1 (fun c hc => by simp at hc)
      simpa using this
  ·
    rename_i b off len ee oc
    cases hz : Nat.beq n 0 with
    | true =>
      rw [hz] at hk
      have h0 := Nat.eq_of_beq_eq_true hz
      rcases hs.slice_inv with ⟨L, cap, hL, hcs, hlen, hoc, rfl⟩ | ⟨a, L, hL, hl0, hoc, rfl⟩
      · have hr0 := run_append_in (ty := ty) hok (base := some ⟨L.blk, L.base + off, none⟩) (len := len) (cap := cap) hx (by omega)
        refine ⟨_, h, φ, _, w, ?_, Ext.refl φ, hs, hr, Below.refl _ _, hk⟩
        rw [hr0, h0, hxs h0]; rfl
      · have hr0 := run_append_in (ty := ty) hok (base := some a) (len := 0) (cap := 0) hx (by omega)
        refine ⟨_, h, φ, _, w, ?_, Ext.refl φ, hs, hr, Below.refl _ _, hk⟩
        rw [hr0, h0, hxs h0]; rfl
    | false =>
      rw [hz] at hk
      have hn0 : n ≠ 0 := fun e => by rw [e] at hz; simp at hz
      obtain ⟨h1, hk2⟩ := bif_true hk
      clear hk
      have hk := hk2
      clear hk2
      obtain ⟨h1, h1'⟩ := Bool.and_eq_true_iff.1 h1
      have h1 := Nat.eq_of_beq_eq_true h1; subst h1
      have h1' := ble_of h1'
      obtain ⟨A, cap, L, hL, hsv, hlen, hoc, hbase⟩ : ∃ A cap L, φ b = some L ∧ sv = .slice (some A) len cap ∧ len ≤ cap ∧ (∀ c, oc = some c → cap = c) ∧
          ((A = ⟨L.blk, L.base + off, none⟩ ∧ L.base + off + cap * ie.size ≤ L.cs) ∨ (len = 0 ∧ cap = 0)) := by
        rcases hs.slice_inv with ⟨L, cap, hL, hcs, hlen, hoc, rfl⟩ | ⟨a, L, hL, hl0, hoc, rfl⟩
        · exact ⟨_, cap, L, hL, rfl, hlen, hoc, .inl ⟨rfl, hcs⟩⟩
        · subst hl0; exact ⟨a, 0, L, hL, rfl, Nat.le_refl _, fun c hc => (hoc c hc).symm, .inr ⟨rfl, rfl⟩⟩
      subst hsv
      have moved : cap < len + n → ∀ k, h.bl.get b = some k → Live h b k → k.d.isMap = false → off + len * ie.size ≤ k.n → ∀ K', cat k off (len * ie.size) K' = true → ∃ d, K' d = true ∧
          ∃ old : Array Value, old.size = len * ie.size ∧ (∀ i, i < len * ie.size → w.cell? ⟨L.blk, L.base + off + i, none⟩ = old.toList[i]?) ∧ DatOf φ (len * ie.size + n * ie.size) d (old.toList ++ xs.toList) ∧
          ∃ newCap rest, len + n ≤ newCap ∧ rest.size = (newCap - (len + n)) * ie.size ∧
            (Builtin.append_ argTypes ty #[.slice (some A) len cap, x]).run P w = .ok (.slice (some ⟨w.heap.size, 0, none⟩) (len + n) newCap) (growsTo w el old xs rest) := by
        intro hcap k hb hl hm hfit K' hK'
        have hh := hr.hold b L k hL hb hl
        obtain ⟨c, elem, fr, g1, g2, g3, g4⟩ := hh.cells hm
        obtain ⟨d, h2, h3⟩ := hcat b L k off _ K' hL hh hfit hK'
        have hrows : ((c.toList.drop (L.base + off)).take (len * ie.size)).length = len * ie.size := by
          rw [List.length_take, List.length_drop, Array.length_toList]; omega
        have hcell : ∀ i, i < len * ie.size → w.cell? ⟨L.blk, L.base + off + i, none⟩ = ((c.toList.drop (L.base + off)).take (len * ie.size))[i]? := fun i hi => by
          rw [cell_of g1, List.getElem?_take, if_pos hi, List.getElem?_drop, Array.getElem?_toList]
        have hD := h3 _ hrows hcell
        have hold : ∀ W : World, W.heap = w.heap → (Builtin.firstCells ie.size len (.slice (some A) len cap)).run P W = .ok ((c.toList.drop (L.base + off)).take (len * ie.size)).toArray W := by
          intro W hW
          rcases hbase with ⟨rfl, _⟩ | ⟨rfl, _⟩
          · have := run_loadCells_list (P := P) W (⟨L.blk, L.base + off, none⟩ : Addr) ((c.toList.drop (L.base + off)).take (len * ie.size)) (fun j v hj => by
              have hjl : j < len * ie.size := by
                have := (List.getElem?_eq_some_iff.1 hj).1; omega
              rw [addr_add', ← hj, ← hcell j hjl]
              unfold World.cell?; rw [hW])
            rw [hrows] at this
            exact this
          · simp [Builtin.firstCells, loadCells, loadCellsFrom, Sem.run_pure]
        obtain ⟨newCap, rest, e1, e2, e3⟩ := run_append_out (ty := ty) hok (base := some A) (len := len) (cap := cap) hx hold h1' hcap
        exact ⟨d, h2, _, by simpa using hrows, fun i hi => by rw [hcell i hi], by simpa using hD, newCap, rest, e1, e2, e3⟩
      have hsum : ∀ newCap, len + n ≤ newCap → len * ie.size + n * ie.size + (newCap - (len + n)) * ie.size = newCap * ie.size := fun newCap hle => by rw [← Nat.add_mul, ← Nat.add_mul]; congr 1; omega
      cases oc with
      | some c =>
        have hcc := hoc c rfl; subst hcc
        dsimp only at hk
        cases hle : Nat.ble (len + n) cap with
        | true =>
          rw [hle] at hk
          have hle := ble_of hle
          rcases hbase with ⟨rfl, hcs⟩ | ⟨e1, e2⟩
          · have hr0 := run_append_in (ty := ty) hok (base := some ⟨L.blk, L.base + off, none⟩) (len := len) (cap := cap) hx hle
            obtain ⟨h', w', h2, h3, h4, h5⟩ := hput b _ L _ hL hk
            rw [natK_eq] at h5
            refine ⟨_, h', φ, _, w', ?_, Ext.refl φ, .slice hL hcs hle hoc, h3, h4, h5⟩
            rw [hr0]
            simp only [addr_add', Nat.add_assoc] at h2 ⊢
            rw [h2]; rfl
          · omega
        | false =>
          rw [hle] at hk
          have hgt : cap < len + n := by
            rcases Nat.lt_or_ge cap (len + n) with h | h
            · exact h
            · have : Nat.ble (len + n) cap = true := by simpa using h
              rw [this] at hle; exact absurd hle (by simp)
          obtain ⟨k, hb, hl, hk⟩ := blkK_true hk
          obtain ⟨h2, h3⟩ := bif_true hk
          obtain ⟨h2, h2'⟩ := Bool.and_eq_true_iff.1 h2
          obtain ⟨d, h4, old, h5, h6, h7, newCap, rest, e1, e2, e3⟩ := moved hgt k hb hl (by simpa using h2) (ble_of h2') _ h3
          obtain ⟨h', ha, h8⟩ := addK_true h4
          rw [natK_eq] at h8
          have hDat : DatOf φ (len * ie.size + n * ie.size) d (old ++ xs ++ rest).toList := by
            rw [Array.toList_append, Array.toList_append]; exact h7.more _
          obtain ⟨h9, h10⟩ := al_cells' (c := old ++ xs ++ rest) (elem := el) (fr := (0, 0)) (w' := growsTo w el old xs rest) (hr.added ha) ⟨hr.unmapped (Nat.le_refl _), hr.noU (Nat.le_refl _)⟩ (by rw [ha.bl, if_pos rfl]) (fun G hG => by
            simp only [] at hG; rw [ha.gr] at hG; exact absurd (hr.grn _ _ hG) (Nat.lt_irrefl _)) (fun _ => rfl) (fun e he => by simp only [Option.some.injEq] at he; exact he.symm) hDat rfl rfl rfl rfl (open00 _)
          refine ⟨_, h', _, _, _, e3, Phi.ext_put (hr.unmapped (Nat.le_refl _)), ?_, h9, h10, h8⟩
          have := VR.slice (φ := φ.put h.next ⟨w.heap.size, 0, (old ++ xs ++ rest).size⟩) (b := h.next) (off := 0) (e := ie.size) (oc := none) (L := ⟨w.heap.size, 0, (old ++ xs ++ rest).size⟩) (Phi.put_self _ _ _) (cap := newCap) (len := len + n) (by
            simp only [Array.size_append, hx.size, e2, h5]
            rw [← hsum newCap e1]; omega) e1 (fun c hc => by simp at hc)
          simpa using this
      | none =>
        dsimp only at hk
        obtain ⟨k, hb, hl, hk⟩ := blkK_true hk
        obtain ⟨h2, h3⟩ := bif_true hk
        obtain ⟨h2, h2'⟩ := Bool.and_eq_true_iff.1 h2
        have h2 : k.d.isMap = false := by simpa using h2
        have h2' := ble_of h2'
        have hbn : φ b ≠ none := by rw [hL]; simp
        by_cases hle : len + n ≤ cap
        ·
          rcases hbase with ⟨rfl, hcs⟩ | ⟨q1, q2⟩
          · have hr0 := run_append_in (ty := ty) hok (base := some ⟨L.blk, L.base + off, none⟩) (len := len) (cap := cap) hx hle
            have hh := hr.hold b L k hL hb hl
            obtain ⟨c, elem, fr, g1, g2, g3, g4⟩ := hh.cells h2
            obtain ⟨d, h4, h5⟩ := hcat b L k off _ _ hL hh h2' h3
            obtain ⟨h', hg, h6⟩ := grewK_true hb h4
            rw [natK_eq] at h6
            have hroom : len * ie.size + n * ie.size ≤ cap * ie.size := by rw [← Nat.add_mul]; exact Nat.mul_le_mul_right _ hle
            have hxl : xs.toList.length = n * ie.size := by simpa using hx.size
            obtain ⟨c', f1, f2, f3, f4, f5, f6, f7, f8⟩ := setCells_heap L.blk xs.toList (L.base + off + len * ie.size) w c elem fr g1 (by omega)
            have hst := run_storeCells_cells (P := P) L.blk (L.base + off + len * ie.size) xs.toList 0 w (fun j hj => by
                rw [Nat.add_zero, cell_of g1]
                have : L.base + off + len * ie.size + j < c.size := by omega
                simp [this]) (fun j hj => by
                rw [Nat.add_zero]
                exact frozen_of g1 (g3 _ (by omega))) hone
            rw [Nat.add_zero] at hst
            have hrows : ((c.toList.drop (L.base + off)).take (len * ie.size)).length = len * ie.size := by
              rw [List.length_take, List.length_drop, Array.length_toList]; omega
            have hcell : ∀ i, i < len * ie.size → w.cell? ⟨L.blk, L.base + off + i, none⟩ = ((c.toList.drop (L.base + off)).take (len * ie.size))[i]? := fun i hi => by
              rw [cell_of g1, List.getElem?_take, if_pos hi, List.getElem?_drop, Array.getElem?_toList]
            have hD := h5 _ hrows hcell
            have hholds : Holds φ (w.setCells L.blk (L.base + off + len * ie.size) xs.toList) ⟨L.blk, L.base + off, L.cs⟩ (len * ie.size + n * ie.size) d := by
              refine hD.at_ f1 (by rw [f2]; exact g2) g3 (by simp only []; omega) (fun i hi => ?_)
              simp only []
              rw [f3]
              by_cases e1 : i < len * ie.size
              · rw [if_neg (by omega), List.getElem?_append_left (by omega), ← hcell i e1, cell_of g1]
              · rw [if_pos (by omega), List.getElem?_append_right (by omega)]
                congr 1; omega
            have hfin := hr.grewIn hg (fun e he => by obtain ⟨q1, q2⟩ := tyK_true he; subst q1; exact ⟨rfl, q2⟩) hl hL f5 f4 g1 f1 f2 (fun i hi => by rw [f3, if_neg (by omega)]) hholds
            refine ⟨_, h', _, .slice (some ⟨L.blk, L.base + off, none⟩) (len + n) cap, _, ?_, Phi.ext_put (hr.unmapped (Nat.le_refl _)), ?_, hfin, Below.of_set (hr.dom b L hL).2.1 f6 f7 f8 f5 f4 g1 (fun ds e => by cases e), h6⟩
            · rw [hr0]
              simp only [addr_add']
              rw [hst]; rfl
            · have := VR.slice (φ := φ.put h.next ⟨L.blk, L.base + off, L.cs⟩) (b := h.next) (off := 0) (e := ie.size) (oc := none) (L := ⟨L.blk, L.base + off, L.cs⟩) (Phi.put_self _ _ _) (cap := cap) (len := len + n) (by simp only []; omega) hle (fun c hc => by simp at hc)
              simpa using this
          · omega
        · obtain ⟨d, h4, old, h5, h6, h7, newCap, rest, e1, e2, e3⟩ := moved (by omega) k hb hl h2 h2' _ h3
          obtain ⟨h', hg, h8⟩ := grewK_true hb h4
          rw [natK_eq] at h8
          have hu := hr.grewU hg hbn
          have hDat : DatOf φ (len * ie.size + n * ie.size) d (old ++ xs ++ rest).toList := by
            rw [Array.toList_append, Array.toList_append]; exact h7.more _
          obtain ⟨mv, hgr, _⟩ := hg.gr
          obtain ⟨h9, h10⟩ := al_cells' (b := h.next) (c := old ++ xs ++ rest) (elem := el) (fr := (0, 0)) (w' := growsTo w el old xs rest) hu ⟨hr.unmapped (Nat.le_refl _), hr.noU (Nat.le_refl _)⟩ (by rw [hg.bl, if_pos rfl]) (fun G hG => by
            simp only [] at hG
            rw [hgr, if_pos rfl] at hG
            simp only [Option.some.injEq] at hG; subst hG
            simp only []; omega) (fun hG => by simp only [] at hG; rw [hgr, if_pos rfl] at hG; exact absurd hG (by simp)) (fun e he => (tyK_true he).1) hDat rfl rfl rfl rfl (open00 _)
          refine ⟨_, h', _, _, _, e3, Phi.ext_put (hr.unmapped (Nat.le_refl _)), ?_, h9, h10, h8⟩
          have := VR.slice (φ := φ.put h.next ⟨w.heap.size, 0, (old ++ xs ++ rest).size⟩) (b := h.next) (off := 0) (e := ie.size) (oc := none) (L := ⟨w.heap.size, 0, (old ++ xs ++ rest).size⟩) (Phi.put_self _ _ _) (cap := newCap) (len := len + n) (by
            simp only [Array.size_append, hx.size, e2, h5]
            rw [← hsum newCap e1]; omega) e1 (fun c hc => by simp at hc)
          simpa using this
  · exact absurd hk (by simp)
end Go.Ev
end
section
namespace Go.Ev
theorem cell_heap {w W : World} (h : W.heap = w.heap) (a : Addr) : W.cell? a = w.cell? a := by unfold World.cell?; rw [h]
noncomputable def srcK (z : Nat) (x : V) (h : H) (K : Nat → List V → Bool) : Bool :=
  match x with
  | .nils => K 0 []
  | .slice b off n e _ => Bool.rec (motive := fun _ => Bool) (bif Nat.beq e z then (blkK h b fun k => bif Nat.ble (off + n * e) k.n then (rowK k.n k.d (n * e) off fun l => K n l) else false) else false) (K 0 []) (Nat.beq n 0)
  | _ => false
theorem srcK_sound {P : Program} {B : Bd} {φ : Phi} {h : H} {w : World} {z : Nat} {x : V} {xv : Value} {K : Nat → List V → Bool} (hr : HR B φ h w) (hx : VR φ x xv) (hk : srcK z x h K = true) :
    ∃ n l xs, Src P w z n xv xs ∧ VRs φ l xs.toList ∧ K n l = true := by
  unfold srcK at hk
  split at hk
  · have := hx.nils_inv; subst this
    exact ⟨0, [], #[], ⟨rfl, fun W _ => rfl, by simp⟩, .nil, hk⟩
  · rename_i b off n e oc
    cases hz : Nat.beq n 0 with
    | true =>
      rw [hz] at hk
      have h0 := Nat.eq_of_beq_eq_true hz; subst h0
      refine ⟨0, [], #[], ⟨?_, fun W _ => ?_, by simp⟩, .nil, hk⟩ <;>
      · rcases hx.slice_inv with ⟨L, cap, hL, hcs, hlen, hoc, rfl⟩ | ⟨a, L, hL, hl0, hoc, rfl⟩ <;> simp [Builtin.lenOf, Builtin.firstCells, loadCells, loadCellsFrom, Sem.run_pure]
    | false =>
      rw [hz] at hk
      obtain ⟨h1, hk2⟩ := bif_true hk
      clear hk
      have h1 := Nat.eq_of_beq_eq_true h1; subst h1
      obtain ⟨k, hb, hl, hk⟩ := blkK_true hk2
      obtain ⟨h2, h3⟩ := bif_true hk
      rcases hx.slice_inv with ⟨L, cap, hL, hcs, hlen, hoc, rfl⟩ | ⟨a, L, hL, hl0, hoc, rfl⟩
      · obtain ⟨l, xs, g1, g2, g3, g4⟩ := rowK_sound (hr.hold b L k hL hb hl) (ble_of h2) h3
        refine ⟨n, l, xs.toArray, ⟨rfl, fun W hW => ?_, by have := g2.length; simp; omega⟩, by simpa using g2, g4⟩
        have := run_loadCells_list (P := P) W (⟨L.blk, L.base + off, none⟩ : Addr) xs (fun j v hj => by
          rw [addr_add', Nat.add_assoc, cell_heap hW]; exact g3 j v hj)
        rw [show xs.length = n * e from by have := g2.length; omega] at this
        exact this
      · subst hl0; simp at hz
  · exact absurd hk (by simp)
noncomputable def catC (l : List V) (k : Blk) (off m : Nat) (K : Dat → Bool) : Bool :=
  match k.d with
  | .cells t => Bool.rec (motive := fun _ => Bool) (rowK k.n k.d m off fun l0 => listK l0 0 .nil fun t => listK l m t fun t => K (.cells t)) (listK l m t fun t => K (.cells t)) (Nat.beq off 0)
  | _ => false
theorem catC_sound {φ : Phi} {w : World} {L : Loc} {k : Blk} {off m : Nat} {l : List V} {xs : List Value} {K : Dat → Bool} (hv : VRs φ l xs) (hh : Holds φ w L k.n k.d) (hm : off + m ≤ k.n) (hk : catC l k off m K = true) :
    ∃ d, K d = true ∧ ∀ old : List Value, old.length = m → (∀ i, i < m → w.cell? ⟨L.blk, L.base + off + i, none⟩ = old[i]?) → DatOf φ (m + xs.length) d (old ++ xs) := by
  have hlen := hv.length
  have fin : ∀ t s : T V, (∀ j, s.get j = if m ≤ j ∧ j < m + l.length then l[j - m]? else t.get j) → (∀ old : List Value, old.length = m → (∀ i, i < m → w.cell? ⟨L.blk, L.base + off + i, none⟩ = old[i]?) →
      ∀ j v, j < m → t.get j = some v → ∃ x, old[j]? = some x ∧ VR φ v x) → ∀ old : List Value, old.length = m → (∀ i, i < m → w.cell? ⟨L.blk, L.base + off + i, none⟩ = old[i]?) → DatOf φ (m + xs.length) (.cells s) (old ++ xs) := by
    intro t s hs ht old ho hc
    refine ⟨by simp [ho], fun j v hj hv' => ?_⟩
    rw [hs] at hv'
    by_cases e : m ≤ j ∧ j < m + l.length
    · rw [if_pos e] at hv'
      rw [List.getElem?_append_right (by omega), ho]
      exact hv.get hv'
    · rw [if_neg e] at hv'
      rw [List.getElem?_append_left (by omega)]
      exact ht old ho hc j v (by omega) hv'
  unfold catC at hk
  split at hk
  · rename_i t hd
    cases hz : Nat.beq off 0 with
    | true =>
      rw [hz] at hk
      have h0 := Nat.eq_of_beq_eq_true hz; subst h0
      obtain ⟨s, hs, h1⟩ := listK_true hk
      refine ⟨_, h1, fin t s hs fun old ho hc j v hj hv' => ?_⟩
      rw [hd] at hh
      obtain ⟨c, elem, fr, g1, g2, g3, g4, g5⟩ := hh
      obtain ⟨x, hx, hr⟩ := g5 j v (by omega) hv'
      refine ⟨x, ?_, hr⟩
      rw [← hc j hj, cell_of g1]; simpa using hx
    | false =>
      rw [hz] at hk
      obtain ⟨l0, xs0, g1, g2, g3, g4⟩ := rowK_sound hh hm hk
      obtain ⟨t0, ht0, h1⟩ := listK_true g4
      obtain ⟨s, hs, h2⟩ := listK_true h1
      refine ⟨_, h2, fin t0 s hs fun old ho hc j v hj hv' => ?_⟩
      rw [ht0, if_pos (by omega)] at hv'
      obtain ⟨x, hx, hr⟩ := g2.get hv'
      refine ⟨x, ?_, hr⟩
      have := g3 j x (by simpa using hx)
      rw [← hc j hj, Nat.add_assoc]; exact this
  · exact absurd hk (by simp)
noncomputable def fAppC (el : TypeId) (z : Nat) : Ef := fun vs h K => match vs with
  | [s, x] => srcK z x h fun n l => onesK l (appK el z n (catC l) (fun K => listK l 0 .nil fun t => K (.cells t)) (fun b o K => putK h b o l K) s h K)
  | _ => false
theorem fAppC_sound {P : Program} {c : Call} {el : TypeId} {ie : TypeInfo} {z : Value} (hc : c.callee = .builtin .append) (hok : appOk P c.argTypes el ie z) : EfSound P (.call c) (fAppC el ie.size) := by
  intro o ho B φ h w ρ vs K hr hv hk
  unfold fAppC at hk
  split at hk
  · rename_i s x
    obtain ⟨sv, xv, e, hs, hx⟩ := args2 hc hv
    obtain ⟨n, l, xs, hsrc, hl, hk⟩ := srcK_sound (P := P) hr hx hk
    obtain ⟨hone, hk⟩ := onesK_true hl hk
    have hxl : xs.toList.length = n * ie.size := by simpa using hsrc.size
    obtain ⟨v, h', φ', r, w', h1, h2, h3, h4, h5, h6⟩ := appK_sound (ty := o.type) hok hr hsrc.toA
      (fun b L k off m K hL hh hm hk => by have := catC_sound hl hh hm hk; rw [hxl] at this; exact this)
      (fun K hk => by
        obtain ⟨t, ht, h1⟩ := listK_true hk
        have := datOf_list hl ht rfl
        rw [show l.length = n * ie.size from by rw [hl.length, hxl]] at this
        exact ⟨_, h1, this⟩)
      (fun b o L K hL hk => putK_sound hr hL hl hk) hone hs hk
    refine ⟨v, h', φ', r, w', .inl ?_, h2, h3, h4, h5, h6⟩
    rw [run_builtin ho hc, e]
    simp only [builtin, Sem.run_bind, h1, Result.andThen_ok, Sem.run_pure]
  · exact absurd hk (by simp)
noncomputable def decK (n : Nat) : Nat → (List V → Bool) → Bool :=
  Nat.rec (motive := fun _ => Nat → (List V → Bool) → Bool) (fun _ K => K []) (fun n ih c K => natK (c / 256 ^ n) fun b => natK (c % 256 ^ n) fun r => ih r fun l => K (.int .u8 (.ofNat b) :: l)) n
theorem decK_true {φ : Phi} : ∀ {n c : Nat} {K : List V → Bool}, c < 256 ^ n → decK n c K = true → ∃ l, VRs φ l ((dec n c).map byteVal) ∧ K l = true ∧ ∀ K', decK n c K' = K' l
  | 0, c, K, hc, h => ⟨[], .nil, h, fun _ => rfl⟩
  | n + 1, c, K, hc, h => by
    have e : ∀ K, decK (n + 1) c K = natK (c / 256 ^ n) fun b => natK (c % 256 ^ n) fun r => decK n r fun l => K (.int .u8 (.ofNat b) :: l) := fun _ => rfl
    rw [e, natK_eq, natK_eq] at h
    obtain ⟨l, h1, h2, h3⟩ := decK_true (φ := φ) (Nat.mod_lt _ (Nat.pow_pos (by decide))) h
    have hb : c / 256 ^ n < 256 := by rw [Nat.div_lt_iff_lt_mul (Nat.pow_pos (by decide)), Nat.mul_comm, ← Nat.pow_succ]; exact hc
    refine ⟨_, ?_, h2, fun K' => by rw [e, natK_eq, natK_eq, h3]⟩
    simp only [dec, List.map_cons]
    refine .cons ?_ h1
    have : byteVal (UInt8.ofNat (c / 256 ^ n)) = .int .u8 (.ofNat (c / 256 ^ n)) := by
      generalize c / 256 ^ n = q at hb
      unfold byteVal; simp [Nat.mod_eq_of_lt hb]
    rw [this]; exact .int _ _
noncomputable def srcB (x : V) (h : H) (K : Nat → Nat → Bool) : Bool :=
  match x with
  | .nils => K 0 0
  | .str n c => K n c
  | .slice b off n e _ => Bool.rec (motive := fun _ => Bool) (blkK h b fun k => bif Nat.beq e 1 && Nat.ble (off + n) k.n then (match k.d with | .bytes c => natK (c / 256 ^ (k.n - (off + n)) % 256 ^ n) fun p => K n p | _ => false) else false) (K 0 0) (Nat.beq n 0)
  | _ => false
theorem bytes_cells {φ : Phi} {w : World} {L : Loc} {n c : Nat} (hh : Holds φ w L n (.bytes c)) (off m i : Nat) (h : off + m ≤ n) (hi : i < m) :
    w.cell? ⟨L.blk, L.base + off + i, none⟩ = ((dec m (c / 256 ^ (n - (off + m)) % 256 ^ m)).map byteVal)[i]? := by
  obtain ⟨cc, elem, fr, g1, g2, g3, g4, g5, g6⟩ := hh
  have hsl := dec_slice n off (off + m) c (by omega) h
  rw [Nat.add_sub_cancel_left] at hsl
  rw [cell_of g1, ← Array.getElem?_toList]
  have e2 := congrArg (·[off + i]?) g6
  simp only [List.getElem?_take, List.getElem?_drop, List.getElem?_map] at e2
  rw [if_pos (by omega), ← Nat.add_assoc] at e2
  rw [e2, List.getElem?_map, dec_mod, ← hsl, List.getElem?_drop, List.getElem?_take, if_pos (by omega)]
theorem srcB_sound {P : Program} {B : Bd} {φ : Phi} {h : H} {w : World} {x : V} {xv : Value} {K : Nat → Nat → Bool} (hr : HR B φ h w) (hx : VR φ x xv) (hk : srcB x h K = true) :
    ∃ n p, p < 256 ^ n ∧ Src P w 1 n xv ((dec n p).map byteVal).toArray ∧ K n p = true := by
  unfold srcB at hk
  split at hk
  · have := hx.nils_inv; subst this
    exact ⟨0, 0, by simp, ⟨rfl, fun W _ => rfl, by simp [dec]⟩, hk⟩
  · rename_i n c
    obtain ⟨s, rfl, hs, hs'⟩ := hx.str_inv
    have hsz := size_of_dec hs
    refine ⟨n, c, hs', ⟨?_, fun W _ => ?_, by simp [dec_length]⟩, hk⟩
    · simp only [Builtin.lenOf]; rw [hsz]; rfl
    · simp only [Builtin.firstCells, Sem.run_pure]
      congr 1
      apply Array.ext'
      rw [Array.toList_map, ByteArray.data_extract, Array.toList_extract, List.extract_eq_take_drop, List.drop_zero, Nat.sub_zero, hs, List.take_of_length_le (by rw [dec_length]; exact Nat.le_refl _)]
      rfl
  · rename_i b off n e oc
    cases hz : Nat.beq n 0 with
    | true =>
      rw [hz] at hk
      have h0 := Nat.eq_of_beq_eq_true hz; subst h0
      refine ⟨0, 0, by simp, ⟨?_, fun W _ => ?_, by simp [dec]⟩, hk⟩ <;>
      · rcases hx.slice_inv with ⟨L, cap, hL, hcs, hlen, hoc, rfl⟩ | ⟨a, L, hL, hl0, hoc, rfl⟩ <;> simp [Builtin.lenOf, Builtin.firstCells, loadCells, loadCellsFrom, Sem.run_pure, dec]
    | false =>
      rw [hz] at hk
      obtain ⟨k, hb, hl, hk⟩ := blkK_true hk
      obtain ⟨h1, h2⟩ := bif_true hk
      obtain ⟨h1, h3⟩ := Bool.and_eq_true_iff.1 h1
      have h1 := Nat.eq_of_beq_eq_true h1; subst h1
      have h3 := ble_of h3
      split at h2
      · rename_i c hd
        rw [natK_eq] at h2
        rcases hx.slice_inv with ⟨L, cap, hL, hcs, hlen, hoc, rfl⟩ | ⟨a, L, hL, hl0, hoc, rfl⟩
        · have hh := hr.hold b L k hL hb hl
          rw [hd] at hh
          refine ⟨n, _, Nat.mod_lt _ (Nat.pow_pos (by decide)), ⟨rfl, fun W hW => ?_, by simp [dec_length]⟩, h2⟩
          have := run_loadCells_list (P := P) W (⟨L.blk, L.base + off, none⟩ : Addr) ((dec n (c / 256 ^ (k.n - (off + n)) % 256 ^ n)).map byteVal) (fun j v hj => by
            have hjn : j < n := by
              have := (List.getElem?_eq_some_iff.1 hj).1
              simpa [dec_length] using this
            rw [addr_add', cell_heap hW, bytes_cells hh off n j h3 hjn]; exact hj)
          rw [List.length_map, dec_length] at this
          simpa [Builtin.firstCells] using this
        · subst hl0; simp at hz
      · exact absurd h2 (by simp)
  · exact absurd hk (by simp)
noncomputable def catB0 (n p : Nat) (k : Blk) (off m : Nat) (K : Dat → Bool) : Bool :=
  match k.d with
  | .bytes c => natK (c / 256 ^ (k.n - (off + m)) % 256 ^ m * 256 ^ n + p) fun c => K (.bytes c)
  | _ => false
noncomputable def catB (n p : Nat) (k : Blk) (off m : Nat) (K : Dat → Bool) : Bool := Nat.rec (motive := fun _ => Bool) (K (.bytes p)) (fun _ _ => catB0 n p k off m K) m
theorem catB_sound {φ : Phi} {w : World} {L : Loc} {k : Blk} {off m n p : Nat} {K : Dat → Bool} (hp : p < 256 ^ n) (hh : Holds φ w L k.n k.d) (hm : off + m ≤ k.n) (hk : catB n p k off m K = true) :
    ∃ d, K d = true ∧ ∀ old : List Value, old.length = m → (∀ i, i < m → w.cell? ⟨L.blk, L.base + off + i, none⟩ = old[i]?) → DatOf φ (m + n) d (old ++ (dec n p).map byteVal) := by
  cases m with
  | zero =>
    refine ⟨.bytes p, hk, fun old ho _ => ?_⟩
    have : old = [] := List.length_eq_zero_iff.1 ho
    subst this
    rw [Nat.zero_add, List.nil_append]
    exact ⟨by simp [dec_length], hp, by simp [dec_length, List.take_of_length_le]⟩
  | succ m' =>
  generalize hmm : m' + 1 = m at *
  have hk : catB0 n p k off m K = true := by rw [← hmm] at hk ⊢; exact hk
  unfold catB0 at hk
  split at hk
  · rename_i c hd
    rw [natK_eq] at hk
    refine ⟨_, hk, fun old ho hc => ⟨by simp [ho, dec_length], ?_, ?_⟩⟩
    · have : c / 256 ^ (k.n - (off + m)) % 256 ^ m < 256 ^ m := Nat.mod_lt _ (Nat.pow_pos (by decide))
      rw [Nat.pow_add]
      have h2 : (c / 256 ^ (k.n - (off + m)) % 256 ^ m + 1) * 256 ^ n ≤ 256 ^ m * 256 ^ n := Nat.mul_le_mul_right _ this
      rw [Nat.succ_mul] at h2; omega
    · rw [hd] at hh
      have hold : old = (dec m (c / 256 ^ (k.n - (off + m)) % 256 ^ m)).map byteVal := by
        apply List.ext_getElem?
        intro i
        by_cases hi : i < m
        · rw [← hc i hi, bytes_cells hh off m i hm hi]
        · rw [List.getElem?_eq_none (by omega), List.getElem?_eq_none (by simp [dec_length]; omega)]
      rw [List.take_of_length_le (by simp [ho, dec_length]), dec_append _ _ _ _ hp, List.map_append, hold]
  · exact absurd hk (by simp)
noncomputable def fAppB (el : TypeId) : Ef := fun vs h K => match vs with
  | [s, x] => srcB x h fun n p => appK el 1 n (catB n p) (fun K => K (.bytes p)) (fun b o K => decK n p fun l => putK h b o l K) s h K
  | _ => false
theorem fAppB_sound {P : Program} {c : Call} {el : TypeId} {ie : TypeInfo} {z : Value} (hc : c.callee = .builtin .append) (hok : appOk P c.argTypes el ie z) (hsz : ie.size = 1) : EfSound P (.call c) (fAppB el) := by
  intro o ho B φ h w ρ vs K hr hv hk
  unfold fAppB at hk
  split at hk
  · rename_i s x
    obtain ⟨sv, xv, e, hs, hx⟩ := args2 hc hv
    obtain ⟨n, p, hp, hsrc, hk⟩ := srcB_sound (P := P) hr hx hk
    rw [← hsz] at hsrc hk
    obtain ⟨v, h', φ', r, w', h1, h2, h3, h4, h5, h6⟩ := appK_sound (ty := o.type) hok hr hsrc.toA
      (fun b L k off m K hL hh hm hk => by have := catB_sound hp hh hm hk; rw [hsz, Nat.mul_one]; simpa using this)
      (fun K hk => ⟨_, hk, by rw [hsz, Nat.mul_one]; exact ⟨by simp [dec_length], hp, by simp [dec_length, List.take_of_length_le]⟩⟩)
      (fun b o L K hL hk => by
        obtain ⟨l, g1, g2, g3⟩ := decK_true (φ := φ) hp hk
        simpa using putK_sound (P := P) hr hL g1 g2)
      (fun v hv => by
        simp only [List.mem_map] at hv
        obtain ⟨b, _, rfl⟩ := hv; rfl) hs hk
    refine ⟨v, h', φ', r, w', .inl ?_, h2, h3, h4, h5, h6⟩
    rw [run_builtin ho hc, e]
    simp only [builtin, Sem.run_bind, h1, Result.andThen_ok, Sem.run_pure]
  · exact absurd hk (by simp)
noncomputable def fAppZ (el : TypeId) : Ef := fun vs h K => match vs with
  | [s, .int .i64 (.ofNat n)] => bif Nat.ble n 1000000 then appK el 1 n (catB n 0) (fun K => K (.bytes 0)) (fun b o K => decK n 0 fun l => putK h b o l K) s h K else false
  | _ => false
theorem dec_noughts : ∀ n, dec n 0 = List.replicate n 0
  | 0 => rfl
  | n + 1 => by simp [dec, dec_noughts n, List.replicate_succ]
theorem fAppZ_sound {P : Program} {c : Call} {el : TypeId} {ie : TypeInfo} (hc : c.callee = .builtin .append) (hok : appOk P c.argTypes el ie (.int .u8 0) true) (hsz : ie.size = 1) : EfSound P (.call c) (fAppZ el) := by
  intro o ho B φ h w ρ vs K hr hv hk
  unfold fAppZ at hk
  split at hk
  · rename_i s n
    obtain ⟨sv, xv, e, hs, hx⟩ := args2 hc hv
    have := hx.int_inv; subst this
    obtain ⟨h0, hk⟩ := bif_true hk
    have h0 := ble_of h0
    have hp : 0 < 256 ^ n := Nat.pow_pos (by decide)
    have hzc : Builtin.zeroCells (Value.int .u8 0).cells n = ((dec n 0).map byteVal).toArray := by
      rw [dec_noughts]
      unfold Builtin.zeroCells
      apply Array.ext'
      rw [show (Value.int IntKind.u8 0).cells = #[.int .u8 0] from rfl]
      apply List.ext_getElem
      · simp
      · intro i h1 h2
        simp only [Array.toList_map, List.getElem_map, Array.getElem_toList, Array.getElem_range, List.getElem_toArray, List.getElem_replicate, List.map_replicate, byteVal]
        simp [Nat.mod_one]
    have hsrc : SrcA P w true (.int .u8 0) ie.size n (.int .i64 (Int.ofNat n)) ((dec n 0).map byteVal).toArray := ⟨fun h => absurd h (by simp), fun _ => ⟨rfl, h0, hzc.symm⟩, by rw [hsz]; simp [dec_length]⟩
    rw [← hsz] at hk
    obtain ⟨v, h', φ', r, w', h1, h2, h3, h4, h5, h6⟩ := appK_sound (ty := o.type) hok hr hsrc
      (fun b L k off m K hL hh hm hk => by have := catB_sound hp hh hm hk; rw [hsz, Nat.mul_one]; simpa using this)
      (fun K hk => ⟨_, hk, by rw [hsz, Nat.mul_one]; exact ⟨by simp [dec_length], hp, by simp [dec_length, List.take_of_length_le]⟩⟩)
      (fun b o L K hL hk => by
        obtain ⟨l, g1, g2, g3⟩ := decK_true (φ := φ) hp hk
        simpa using putK_sound (P := P) hr hL g1 g2)
      (fun v hv => by
        simp only [List.mem_map] at hv
        obtain ⟨b, _, rfl⟩ := hv; rfl) hs hk
    refine ⟨v, h', φ', r, w', .inl ?_, h2, h3, h4, h5, h6⟩
    rw [run_builtin ho hc, e]
    simp only [builtin, Sem.run_bind, h1, Result.andThen_ok, Sem.run_pure]
  · exact absurd hk (by simp)
noncomputable def repL (zl : List V) (n : Nat) : List V := Nat.rec (motive := fun _ => List V) [] (fun _ ih => List.rec (motive := fun _ => List V) ih (fun a _ r => a :: r) zl) n
theorem recApp (r : List V) : ∀ zl : List V, (List.rec (motive := fun _ => List V) r (fun a _ r => a :: r) zl : List V) = zl ++ r
  | [] => rfl
  | a :: zl => congrArg (a :: ·) (recApp r zl)
theorem repL_rel {φ : Phi} {zl : List V} {z : List Value} (h : VRs φ zl z) : ∀ n, VRs φ (repL zl n) ((List.replicate n z).flatten)
  | 0 => .nil
  | n + 1 => by
    have ih := repL_rel h n
    rw [List.replicate_succ, List.flatten_cons]
    have e : repL zl (n + 1) = zl ++ repL zl n := recApp _ zl
    rw [e]
    exact h.append ih
theorem zeroCells_eq (z : Array Value) : ∀ n, (Builtin.zeroCells z n).toList = (List.replicate n z.toList).flatten
  | 0 => by simp [Builtin.zeroCells]
  | n + 1 => by
    have ih := zeroCells_eq z n
    rw [List.replicate_succ, List.flatten_cons, ← ih]
    unfold Builtin.zeroCells
    simp only [Array.toList_map, Array.toList_range]
    rw [show (n + 1) * z.size = z.size + n * z.size by rw [Nat.add_mul, Nat.one_mul, Nat.add_comm], List.range_add, List.map_append, List.map_map]
    congr 1
    · apply List.ext_getElem
      · simp
      · intro i h1 h2
        simp at h1
        simp [Nat.mod_eq_of_lt h1, h1]
    · apply List.map_congr_left
      intro i _
      simp
noncomputable def fAppZC (el : TypeId) (e : Nat) (zl : List V) : Ef := fun vs h K => match vs with
  | [s, .int .i64 (.ofNat n)] => bif Nat.ble n 1000000 then onesK zl ((fun l => appK el e n (catC l) (fun K => listK l 0 .nil fun t => K (.cells t)) (fun b o K => putK h b o l K) s h K) (repL zl n)) else false
  | _ => false
theorem fAppZC_sound {P : Program} {c : Call} {el : TypeId} {ie : TypeInfo} {z : Value} {zl : List V} (hc : c.callee = .builtin .append) (hok : appOk P c.argTypes el ie z true) (hz : ∀ φ, VRs φ zl z.cells.toList) (hzs : z.cells.size = ie.size) : EfSound P (.call c) (fAppZC el ie.size zl) := by
  intro o ho B φ h w ρ vs K hr hv hk
  unfold fAppZC at hk
  split at hk
  · rename_i s n
    obtain ⟨sv, xv, e, hs, hx⟩ := args2 hc hv
    have := hx.int_inv; subst this
    obtain ⟨h0, hk⟩ := bif_true hk
    have h0 := ble_of h0
    have hl : VRs φ (repL zl n) (Builtin.zeroCells z.cells n).toList := by rw [zeroCells_eq]; exact repL_rel (hz φ) n
    obtain ⟨hone0, hk⟩ := onesK_true (hz φ) hk
    have hone : ∀ v ∈ (Builtin.zeroCells z.cells n).toList, v.oneCell' = true := by
      rw [zeroCells_eq]
      intro v hv
      obtain ⟨l, h1, h2⟩ := List.mem_flatten.1 hv
      rw [List.eq_of_mem_replicate h1] at h2
      exact hone0 v h2
    have hxl : (Builtin.zeroCells z.cells n).toList.length = n * ie.size := by simp [Builtin.zeroCells, hzs]
    have hsrc : SrcA P w true z ie.size n (.int .i64 (Int.ofNat n)) (Builtin.zeroCells z.cells n) := ⟨fun h => absurd h (by simp), fun _ => ⟨rfl, h0, rfl⟩, by simpa using hxl⟩
    obtain ⟨v, h', φ', r, w', h1, h2, h3, h4, h5, h6⟩ := appK_sound (ty := o.type) hok hr hsrc
      (fun b L k off m K hL hh hm hk => by have := catC_sound hl hh hm hk; rw [hxl] at this; exact this)
      (fun K hk => by
        obtain ⟨t, ht, h1⟩ := listK_true hk
        have := datOf_list hl ht rfl
        rw [show (repL zl n).length = n * ie.size from by rw [hl.length, hxl]] at this
        exact ⟨_, h1, this⟩)
      (fun b o L K hL hk => putK_sound hr hL hl hk) hone hs hk
    refine ⟨v, h', φ', r, w', .inl ?_, h2, h3, h4, h5, h6⟩
    rw [run_builtin ho hc, e]
    simp only [builtin, Sem.run_bind, h1, Result.andThen_ok, Sem.run_pure]
  · exact absurd hk (by simp)
end Go.Ev
end
section
namespace Go.Ev
noncomputable def snocK (l : List Ent) (e : Ent) : (List Ent → Bool) → Bool :=
  List.rec (motive := fun _ => (List Ent → Bool) → Bool) (fun K => K [e]) (fun a _ ih K => ih fun s => K (a :: s)) l
theorem snocK_eq : ∀ (l : List Ent) (e : Ent) (K : List Ent → Bool), snocK l e K = K (l ++ [e])
  | [], e, K => rfl
  | a :: l, e, K => snocK_eq l e fun s => K (a :: s)
noncomputable def setEK (l : List Ent) : Nat → V → V → (List Ent → Bool) → Bool :=
  List.rec (motive := fun _ => Nat → V → V → (List Ent → Bool) → Bool) (fun _ _ _ _ => false)
    (fun a r ih i k v K => Nat.rec (motive := fun _ => Bool) (K (⟨k, v, a.born⟩ :: r)) (fun j _ => ih j k v fun s => K (a :: s)) i) l
theorem setEK_sound {φ : Phi} {key val : V} {x y : Value} (hk : VR φ key x) (hv : VR φ val y) : ∀ {l : List Ent} {xs : List MapEntry} {i : Nat} {K : List Ent → Bool}, Ents φ l xs → setEK l i key val K = true →
    ∃ l', K l' = true ∧ Ents φ l' (xs.modify i fun e => { e with key := x, val := y })
  | [], xs, i, K, he, h => absurd h (by simp [setEK])
  | a :: l, xs, 0, K, he, h => by
    cases he with | cons h1 h2 h3 h4 => exact ⟨_, h, .cons hk hv h3 h4⟩
  | a :: l, xs, i + 1, K, he, h => by
    cases he with | cons h1 h2 h3 h4 =>
    obtain ⟨l', g1, g2⟩ := setEK_sound hk hv (K := fun s => K (a :: s)) h4 h
    exact ⟨_, g1, .cons h1 h2 h3 g2⟩
theorem Ents.snoc {φ : Phi} {e : Ent} {x : MapEntry} (h1 : VR φ e.key x.key) (h2 : VR φ e.val x.val) (h3 : e.born = x.born) : ∀ {l : List Ent} {xs : List MapEntry}, Ents φ l xs → Ents φ (l ++ [e]) (xs ++ [x])
  | _, _, .nil => .cons h1 h2 h3 .nil
  | _, _, .cons a b c t => .cons a b c (Ents.snoc h1 h2 h3 t)
theorem sameNow_bits {d : TypeDesc} {int : Bool} {x y : Value} (hd : keyD int d) (h : Instr.sameNow d x y = some true) : Instr.sameBits 10000 y x = true := by
  cases int <;> cases d <;> simp only [keyD] at hd
  · cases x <;> cases y <;> simp only [Instr.sameNow, reduceCtorEq, Option.some.injEq] at h
    rename_i a b
    have : a.toList = b.toList := by
      have h' := h; rw [beq_toListBytes] at h'; simpa using h'
    show (b == a) = true
    rw [beq_toListBytes]; simp [this]
  · cases x <;> cases y <;> simp only [Instr.sameNow, reduceCtorEq, Option.some.injEq] at h
    split at h
    · subst_vars
      simp only [Option.some.injEq] at h
      rename_i a k b
      show (k == k && b == a) = true
      simp; exact (by simpa using h : a = b).symm
    · exact absurd h (by simp)
theorem findNow_at {d : TypeDesc} {x : Value} : ∀ {xs : List MapEntry} {i j : Nat} {y : Value}, Instr.findNow d x xs i = some (some (j, y)) → ∃ e, xs[j - i]? = some e ∧ i ≤ j ∧ Instr.sameNow d x e.key = some true
  | [], i, j, y, h => by simp [Instr.findNow] at h
  | e :: xs, i, j, y, h => by
    simp only [Instr.findNow] at h
    split at h
    · rename_i hs
      simp only [Option.some.injEq, Prod.mk.injEq] at h
      obtain ⟨rfl, rfl⟩ := h
      exact ⟨e, by simp, Nat.le_refl _, hs⟩
    · obtain ⟨e', h1, h2, h3⟩ := findNow_at h
      exact ⟨e', by rw [show j - i = (j - (i + 1)) + 1 by omega, List.getElem?_cons_succ]; exact h1, by omega, h3⟩
    · exact absurd h (by simp)
theorem run_setObj {P : Program} {w : World} {r : Nat} {xs ys : Array MapEntry} {c c' : Nat} (h : w.heap[r]? = some (.map xs c)) : (setObj r (.map ys c')).run P w = .ok () { w with heap := w.heap.setIfInBounds r (.map ys c') } := by
  unfold setObj; simp only [Sem.run]; rw [h]
noncomputable def fMapUpd (int : Bool) : Ef := fun vs h K => match vs with
  | [.map b, key, v] => blkK h b fun k => (match k.d with
    | .map es clock => findK int key es 0 (snocK es ⟨key, v, clock⟩ fun es => natK (Nat.succ clock) fun c => wrK h b k (.map es c) fun h' => K undefV h') fun i _ => setEK es i key v fun es => wrK h b k (.map es clock) fun h' => K undefV h'
    | _ => false)
  | _ => false
theorem fMapUpd_sound {P : Program} {t kt et : TypeId} {m kx x : Operand} {int : Bool} {d : TypeDesc} (hu : P.underlying t = some (.map kt et)) (hk' : P.underlying kt = some d) (hd : keyD int d) : EfSound P (.mapUpdate t m kx x) (fMapUpd int) := by
  intro o ho B φ h w ρ vs K hr hv hk
  unfold fMapUpd at hk
  split at hk
  · rename_i b key v
    obtain ⟨p, q, r, e, hp, hq, hr'⟩ := hv.three
    simp only [Op.operands, List.map_cons, List.map_nil, List.cons.injEq, and_true] at e
    obtain ⟨k, hb, hl, hk⟩ := blkK_true hk
    obtain ⟨L, hL, rfl⟩ := hp.map_inv
    split at hk
    · rename_i es clock hdd
      have hh := hr.hold b L k hL hb hl
      rw [hdd] at hh
      obtain ⟨xs, h1, h2⟩ := hh
      have hck := run_checkKey (P := P) (w := w) (b := false) (x := q) (key := key) (φ := φ) hd hk' 9999
      have fin : ∀ (ys : Array MapEntry) (c' : Nat) (h' : H) (es' : List Ent), Wrote h b k k.n (.map es' c') h' → Ents φ es' ys.toList → K undefV h' = true →
          (execOp ρ o).run P w = .ok .skip { w with heap := w.heap.setIfInBounds L.blk (.map ys c') } → ∃ v h' φ' x w', ((execOp ρ o).run P w = .ok (.value x) w' ∨ (x = undef ∧ (execOp ρ o).run P w = .ok .skip w')) ∧ Ext φ φ' ∧ VR φ' v x ∧ HR B φ' h' w' ∧ Below B w w' ∧ K v h' = true := by
        intro ys c' h' es' hw he hK hrun
        have hlt : L.blk < w.heap.size := (hr.dom b L hL).2.2
        refine ⟨undefV, h', φ, undef, _, .inr ⟨rfl, hrun⟩, Ext.refl φ, undefV_rel φ, ?_, Below.of_set (hr.dom b L hL).2.1 rfl rfl rfl (by simp) (fun x hx => ?_) h1 (fun ds e => by cases e), hK⟩
        · refine hr.wrote hw hl hL (by simp) (fun x hx => ?_) (fun c0 e0 fr0 h0 => by rw [h1] at h0; simp at h0) ?_
          · simp only []
            rw [Array.getElem?_setIfInBounds_ne (fun e => hx e.symm)]
          · exact ⟨ys, by simp [hlt], he⟩
        · simp only []
          rw [Array.getElem?_setIfInBounds_ne (fun e => hx e.symm)]
      have hrun0 : ∀ (r0 : Option (Nat × Value)), Instr.findNow d q xs.toList 0 = some r0 → (execOp ρ o).run P w = ((match r0 with
          | some (i, _) => (do
            let key ← Instr.keyThatStays (((xs[i]?).map (·.key)).getD q) q
            setObj L.blk (.map (xs.modify i fun e => { e with key, val := r }) clock))
          | none => setObj L.blk (.map (xs.push { key := q, val := r, born := clock }) (clock + 1)) : Sem Unit).run P w).andThen fun _ w' => .ok .skip w' := by
        intro r0 hf
        have hf' := run_findKey (P := P) (w := w) hk' hf
        simp only [execOp, ho, e.1, e.2.1, e.2.2, Instr.mapUpdate, Sem.run_bind, run_underlying hu, Result.andThen_ok, run_getObj h1, hck, hf']
        cases r0 <;> rfl
      rcases findK_sound hd hq h2 hk with ⟨h3, h4⟩ | ⟨j, v', y, h3, h4, h5, _, _⟩
      · rw [snocK_eq, natK_eq] at h4
        obtain ⟨h', h5, h6⟩ := wrK_true hb h4
        refine fin (xs.push { key := q, val := r, born := clock }) (clock + 1) h' _ h5 ?_ h6 ?_
        · rw [Array.toList_push]
          exact Ents.snoc hq hr' rfl h2
        · rw [hrun0 none h3]
          simp only [run_setObj h1, Result.andThen_ok]
      · obtain ⟨es', h6, h7⟩ := setEK_sound hq hr' h2 h5
        obtain ⟨h', h8, h9⟩ := wrK_true hb h6
        obtain ⟨e0, h10, _, h11⟩ := findNow_at h3
        have hst : (Instr.keyThatStays (((xs[j]?).map (·.key)).getD q) q).run P w = .ok q w := by
          rw [Nat.sub_zero, Array.getElem?_toList] at h10
          rw [h10]
          unfold Instr.keyThatStays
          rw [if_pos (by simpa using sameNow_bits hd h11)]
          rfl
        refine fin (xs.modify j fun e => { e with key := q, val := r }) clock h' _ h8 ?_ h9 ?_
        · rw [Array.toList_modify]; exact h7
        · rw [hrun0 _ h3]
          simp only [Sem.run_bind, hst, Result.andThen_ok, run_setObj h1]
    · exact absurd hk (by simp)
  · exact absurd hk (by simp)
noncomputable def fCopy (z : Nat) : Ef := fun vs h K => match vs with
  | [d, x] => (match d with
    | .slice b off len e _ => (match x with
      | .str n c => natK (bif Nat.ble n len then n else len) fun m => decK m (c / 256 ^ (n - m)) fun l => bif Nat.beq z 1 then putK h b off l fun h' => K (.int .i64 (.ofNat m)) h' else false
      | .slice b2 off2 n e2 _ => natK (bif Nat.ble n len then n else len) fun m => Nat.rec (motive := fun _ => Bool) (K (.int .i64 (.ofNat 0)) h)
          (fun _ _ => bif Nat.beq e2 z then (blkK h b2 fun k => bif Nat.ble (off2 + m * z) k.n then (rowK k.n k.d (m * z) off2 fun l => putK h b off l fun h' => K (.int .i64 (.ofNat m)) h') else false) else false) m
      | .nils => K (.int .i64 (.ofNat 0)) h
      | _ => false)
    | .nils => K (.int .i64 (.ofNat 0)) h
    | _ => false)
  | _ => false
end Go.Ev
end
section
namespace Go.Ev
noncomputable def boolA (v : V) : (Bool → Bool) → Bool :=
  V.rec (motive_1 := fun _ => (Bool → Bool) → Bool) (motive_2 := fun _ => Unit) (fun b K => K b) (fun _ _ _ => false) (fun _ _ _ => false) (fun _ _ _ => false) (fun _ => false) (fun _ _ _ _ _ _ => false) (fun _ => false) (fun _ _ => false) (fun _ => false) (fun _ _ _ _ _ _ => false) (fun _ => false) (fun _ _ _ _ => false) (fun _ => false) (fun _ _ _ => false) (fun _ _ _ => false) (fun _ _ => false) Unit.unit (fun _ _ _ _ => Unit.unit) v
noncomputable def intA (v : V) : (IntKind → Int → Bool) → Bool :=
  V.rec (motive_1 := fun _ => (IntKind → Int → Bool) → Bool) (motive_2 := fun _ => Unit) (fun _ _ => false) (fun k n K => K k n) (fun _ _ _ => false) (fun _ _ _ => false) (fun _ => false) (fun _ _ _ _ _ _ => false) (fun _ => false) (fun _ _ => false) (fun _ => false) (fun _ _ _ _ _ _ => false) (fun _ => false) (fun _ _ _ _ => false) (fun _ => false) (fun _ _ _ => false) (fun _ _ _ => false) (fun _ _ => false) Unit.unit (fun _ _ _ _ => Unit.unit) v
noncomputable def strA (v : V) : (Nat → Nat → Bool) → Bool :=
  V.rec (motive_1 := fun _ => (Nat → Nat → Bool) → Bool) (motive_2 := fun _ => Unit) (fun _ _ => false) (fun _ _ _ => false) (fun n c K => K n c) (fun _ _ _ => false) (fun _ => false) (fun _ _ _ _ _ _ => false) (fun _ => false) (fun _ _ => false) (fun _ => false) (fun _ _ _ _ _ _ => false) (fun _ => false) (fun _ _ _ _ => false) (fun _ => false) (fun _ _ _ => false) (fun _ _ _ => false) (fun _ _ => false) Unit.unit (fun _ _ _ _ => Unit.unit) v
noncomputable def ptrA (v : V) : (Nat → Nat → Bool) → Bool :=
  V.rec (motive_1 := fun _ => (Nat → Nat → Bool) → Bool) (motive_2 := fun _ => Unit) (fun _ _ => false) (fun _ _ _ => false) (fun _ _ _ => false) (fun b o K => K b o) (fun _ => false) (fun _ _ _ _ _ _ => false) (fun _ => false) (fun _ _ => false) (fun _ => false) (fun _ _ _ _ _ _ => false) (fun _ => false) (fun _ _ _ _ => false) (fun _ => false) (fun _ _ _ => false) (fun _ _ _ => false) (fun _ _ => false) Unit.unit (fun _ _ _ _ => Unit.unit) v
noncomputable def sliceA (v : V) : Bool → (Nat → Nat → Nat → Nat → Option Nat → Bool) → Bool :=
  V.rec (motive_1 := fun _ => Bool → (Nat → Nat → Nat → Nat → Option Nat → Bool) → Bool) (motive_2 := fun _ => Unit) (fun _ _ _ => false) (fun _ _ _ _ => false) (fun _ _ _ _ => false) (fun _ _ _ _ => false) (fun _ _ => false) (fun b o l e c Z K => K b o l e c) (fun Z K => Z) (fun _ _ _ => false) (fun _ _ => false) (fun _ _ _ _ _ _ _ => false) (fun _ _ => false) (fun _ _ _ _ _ => false) (fun _ _ => false) (fun _ _ _ _ => false) (fun _ _ _ _ => false) (fun _ _ _ => false) Unit.unit (fun _ _ _ _ => Unit.unit) v
noncomputable def mapA (v : V) : Bool → (Nat → Bool) → Bool :=
  V.rec (motive_1 := fun _ => Bool → (Nat → Bool) → Bool) (motive_2 := fun _ => Unit) (fun _ _ _ => false) (fun _ _ _ _ => false) (fun _ _ _ _ => false) (fun _ _ _ _ => false) (fun _ _ => false) (fun _ _ _ _ _ _ _ => false) (fun _ _ => false) (fun b Z K => K b) (fun Z K => Z) (fun _ _ _ _ _ _ _ => false) (fun _ _ => false) (fun _ _ _ _ _ => false) (fun _ _ => false) (fun _ _ _ _ => false) (fun _ _ _ _ => false) (fun _ _ _ => false) Unit.unit (fun _ _ _ _ => Unit.unit) v
noncomputable def aggA (v : V) : (List V → Bool) → Bool :=
  V.rec (motive_1 := fun _ => (List V → Bool) → Bool) (motive_2 := fun _ => Unit) (fun _ _ => false) (fun _ _ _ => false) (fun _ _ _ => false) (fun _ _ _ => false) (fun _ => false) (fun _ _ _ _ _ _ => false) (fun _ => false) (fun _ _ => false) (fun _ => false) (fun _ _ _ _ _ _ => false) (fun _ => false) (fun _ _ _ _ => false) (fun _ => false) (fun l i1 K => K l) (fun _ _ _ => false) (fun _ _ => false) Unit.unit (fun _ _ _ _ => Unit.unit) v
noncomputable def tupA (v : V) : (List V → Bool) → Bool :=
  V.rec (motive_1 := fun _ => (List V → Bool) → Bool) (motive_2 := fun _ => Unit) (fun _ _ => false) (fun _ _ _ => false) (fun _ _ _ => false) (fun _ _ _ => false) (fun _ => false) (fun _ _ _ _ _ _ => false) (fun _ => false) (fun _ _ => false) (fun _ => false) (fun _ _ _ _ _ _ => false) (fun _ => false) (fun _ _ _ _ => false) (fun _ => false) (fun _ _ _ => false) (fun l i1 K => K l) (fun _ _ => false) Unit.unit (fun _ _ _ _ => Unit.unit) v
noncomputable def funcA (v : V) : (FuncId → List V → List V → Bool) → Bool :=
  V.rec (motive_1 := fun _ => (FuncId → List V → List V → Bool) → Bool) (motive_2 := fun _ => Unit) (fun _ _ => false) (fun _ _ _ => false) (fun _ _ _ => false) (fun _ _ _ => false) (fun _ => false) (fun _ _ _ _ _ _ => false) (fun _ => false) (fun _ _ => false) (fun _ => false) (fun f p q i1 i2 K => K f p q) (fun _ => false) (fun _ _ _ _ => false) (fun _ => false) (fun _ _ _ => false) (fun _ _ _ => false) (fun _ _ => false) Unit.unit (fun _ _ _ _ => Unit.unit) v
noncomputable def ifA (v : V) : Bool → Bool → Bool :=
  V.rec (motive_1 := fun _ => Bool → Bool → Bool) (motive_2 := fun _ => Unit) (fun b t e => (Bool.rec (motive := fun _ => Bool → Bool → Bool) (fun t e => e) (fun t e => t) b t e)) (fun _ _ _ _ => false) (fun _ _ _ _ => false) (fun _ _ _ _ => false) (fun _ _ => false) (fun _ _ _ _ _ _ _ => false) (fun _ _ => false) (fun _ _ _ => false) (fun _ _ => false) (fun _ _ _ _ _ _ _ => false) (fun _ _ => false) (fun _ _ _ _ _ => false) (fun _ _ => false) (fun _ _ _ _ => false) (fun _ _ _ _ => false) (fun _ _ _ => false) Unit.unit (fun _ _ _ _ => Unit.unit) v
noncomputable def guardA (v : V) : Bool → Bool → Bool → Bool :=
  V.rec (motive_1 := fun _ => Bool → Bool → Bool → Bool) (motive_2 := fun _ => Unit) (fun b w y n => (Bool.rec (motive := fun _ => Bool → Bool → Bool → Bool) (fun w y n => Bool.rec (motive := fun _ => Bool → Bool → Bool) (fun y n => y) (fun y n => n) w y n) (fun w y n => Bool.rec (motive := fun _ => Bool → Bool → Bool) (fun y n => n) (fun y n => y) w y n) b w y n)) (fun _ _ _ _ _ => false) (fun _ _ _ _ _ => false) (fun _ _ _ _ _ => false) (fun _ _ _ => false) (fun _ _ _ _ _ _ _ _ => false) (fun _ _ _ => false) (fun _ _ _ _ => false) (fun _ _ _ => false) (fun _ _ _ _ _ _ _ _ => false) (fun _ _ _ => false) (fun _ _ _ _ _ _ => false) (fun _ _ _ => false) (fun _ _ _ _ _ => false) (fun l i1 w y n => n) (fun _ _ _ _ => false) Unit.unit (fun _ _ _ _ => Unit.unit) v
noncomputable def l0 (vs : List V) : Bool → Bool := List.rec (motive := fun _ => Bool → Bool) (fun K => K) (fun _ _ _ _ => false) vs
noncomputable def l1 (vs : List V) : (V → Bool) → Bool :=
  List.rec (motive := fun _ => (V → Bool) → Bool) (fun _ => false) (fun v r _ K => l0 r (K v)) vs
noncomputable def l2 (vs : List V) : (V → V → Bool) → Bool :=
  List.rec (motive := fun _ => (V → V → Bool) → Bool) (fun _ => false) (fun v r _ K => l1 r (K v)) vs
noncomputable def l3 (vs : List V) : (V → V → V → Bool) → Bool :=
  List.rec (motive := fun _ => (V → V → V → Bool) → Bool) (fun _ => false) (fun v r _ K => l2 r (K v)) vs
noncomputable def natA (n : Int) : (Nat → Bool) → Bool := Int.rec (motive := fun _ => (Nat → Bool) → Bool) (fun n K => K n) (fun _ _ => false) n
noncomputable def condK (b : Bool) : Bool → Bool → Bool := Bool.rec (motive := fun _ => Bool → Bool → Bool) (fun _ e => e) (fun t _ => t) b
noncomputable def kEq (k : IntKind) : IntKind → Bool :=
  IntKind.rec (motive := fun _ => IntKind → Bool) (fun k' => IntKind.rec (motive := fun _ => Bool) true false false false false false false false k') (fun k' => IntKind.rec (motive := fun _ => Bool) false true false false false false false false k') (fun k' => IntKind.rec (motive := fun _ => Bool) false false true false false false false false k') (fun k' => IntKind.rec (motive := fun _ => Bool) false false false true false false false false k') (fun k' => IntKind.rec (motive := fun _ => Bool) false false false false true false false false k') (fun k' => IntKind.rec (motive := fun _ => Bool) false false false false false true false false k') (fun k' => IntKind.rec (motive := fun _ => Bool) false false false false false false true false k') (fun k' => IntKind.rec (motive := fun _ => Bool) false false false false false false false true k') k
noncomputable def limF (k : IntKind) : Nat := IntKind.rec (motive := fun _ => Nat) (nat_lit 128) (nat_lit 32768) (nat_lit 2147483648) (nat_lit 9223372036854775808) (nat_lit 256) (nat_lit 65536) (nat_lit 4294967296) (nat_lit 18446744073709551616) k
theorem kEq_eq (k k' : IntKind) : kEq k k' = Nat.beq (kix k) (kix k') := by cases k <;> cases k' <;> rfl
theorem limF_eq (k : IntKind) : limF k = lim k := by cases k <;> rfl
theorem condK_eq (b t e : Bool) : condK b t e = bif b then t else e := by cases b <;> rfl
noncomputable def outN (k : IntKind) (K : V → Bool) (c : Nat) : Bool := condK (Nat.blt c (limF k)) (K (.int k (.ofNat c))) (intK (wr k (.ofNat c)) fun z => K (.int k z))
theorem outN_eq (k : IntKind) (K : V → Bool) (c : Nat) : outN k K c = intK (wr k (.ofNat c)) fun z => K (.int k z) := by
  unfold outN
  rw [condK_eq, limF_eq]
  cases h : Nat.blt c (lim k) with
  | false => rfl
  | true =>
    have : wr k (.ofNat c) = .ofNat c := by simp only [wr, h, cond_true]
    rw [this, intK_eq]; rfl
abbrev IOp := Int → Int → IntKind → (V → Bool) → Bool
noncomputable def slowI (op : BinOp) : IOp := fun a b k K => fInt op k a b K
noncomputable def nn (op : BinOp) (g : Nat → Nat → IntKind → (V → Bool) → Bool) : IOp := fun a =>
  Int.rec (motive := fun _ => Int → IntKind → (V → Bool) → Bool) (fun a b => Int.rec (motive := fun _ => Nat → IntKind → (V → Bool) → Bool) (fun b a => g a b) (fun b a => slowI op (.ofNat a) (.negSucc b)) b a) (fun a b => slowI op (.negSucc a) b) a
noncomputable def adN (a b : Nat) (k : IntKind) (K : V → Bool) : Bool := natK (Nat.add a b) (outN k K)
noncomputable def muN (a b : Nat) (k : IntKind) (K : V → Bool) : Bool := natK (Nat.mul a b) (outN k K)
noncomputable def suN (a b : Nat) (k : IntKind) (K : V → Bool) : Bool := condK (Nat.ble b a) (natK (Nat.sub a b) (outN k K)) (slowI .sub (.ofNat a) (.ofNat b) k K)
noncomputable def boolF (b : Bool) : (V → Bool) → Bool := Bool.rec (motive := fun _ => (V → Bool) → Bool) (fun K => K (.bool false)) (fun K => K (.bool true)) b
noncomputable def notF (b : Bool) : (V → Bool) → Bool := Bool.rec (motive := fun _ => (V → Bool) → Bool) (fun K => K (.bool true)) (fun K => K (.bool false)) b
noncomputable def eqN (a b : Nat) (k : IntKind) (K : V → Bool) : Bool := boolF (Nat.beq a b) K
noncomputable def neN (a b : Nat) (k : IntKind) (K : V → Bool) : Bool := notF (Nat.beq a b) K
noncomputable def ltN (a b : Nat) (k : IntKind) (K : V → Bool) : Bool := boolF (Nat.blt a b) K
noncomputable def leN (a b : Nat) (k : IntKind) (K : V → Bool) : Bool := notF (Nat.blt b a) K
noncomputable def gtN (a b : Nat) (k : IntKind) (K : V → Bool) : Bool := boolF (Nat.blt b a) K
noncomputable def geN (a b : Nat) (k : IntKind) (K : V → Bool) : Bool := notF (Nat.blt a b) K
noncomputable def iop (op : BinOp) : IOp := BinOp.rec (motive := fun _ => IOp) (nn .add adN) (nn .sub suN) (nn .mul muN) (slowI .quo) (slowI .rem) (slowI .and) (slowI .or) (slowI .xor) (slowI .shl) (slowI .shr) (slowI .andNot) (nn .eql eqN) (nn .neq neN) (nn .lss ltN) (nn .leq leN) (nn .gtr gtN) (nn .geq geN) op
theorem nn_eq {op : BinOp} {g : Nat → Nat → IntKind → (V → Bool) → Bool} (h : ∀ a b k K, g a b k K = fInt op k (.ofNat a) (.ofNat b) K) (a b : Int) (k : IntKind) (K : V → Bool) : nn op g a b k K = fInt op k a b K := by
  cases a with
  | ofNat a => cases b with
    | ofNat b => exact h a b k K
    | negSucc b => rfl
  | negSucc a => rfl
theorem boolF_eq (b : Bool) (K : V → Bool) : boolF b K = K (.bool b) := by cases b <;> rfl
theorem notF_eq (b : Bool) (K : V → Bool) : notF b K = K (.bool !b) := by cases b <;> rfl
theorem iop_eq (op : BinOp) (a b : Int) (k : IntKind) (K : V → Bool) : iop op a b k K = fInt op k a b K := by
  cases op
  case add => exact nn_eq (fun a b k K => by unfold adN; rw [natK_eq, outN_eq]; rfl) a b k K
  case sub =>
    refine nn_eq (fun a b k K => ?_) a b k K
    unfold suN
    rw [condK_eq, natK_eq, outN_eq]
    cases h : Nat.ble b a with
    | false => rfl
    | true =>
      have h := Nat.le_of_ble_eq_true h
      have e : (Int.ofNat a - Int.ofNat b) = Int.ofNat (Nat.sub a b) := by
        show (a : Int) - (b : Int) = ((a - b : Nat) : Int); omega
      simp only [cond_true, fInt, e]
  case mul => exact nn_eq (fun a b k K => by unfold muN; rw [natK_eq, outN_eq]; rfl) a b k K
  case eql => exact nn_eq (fun a b k K => by unfold eqN; rw [boolF_eq]; simp only [fInt, boolK_eq]; rfl) a b k K
  case neq => exact nn_eq (fun a b k K => by unfold neN; rw [notF_eq]; simp only [fInt, boolK_eq]; rfl) a b k K
  case lss => exact nn_eq (fun a b k K => by unfold ltN; rw [boolF_eq]; simp only [fInt, boolK_eq]; rfl) a b k K
  case leq => exact nn_eq (fun a b k K => by unfold leN; rw [notF_eq]; simp only [fInt, boolK_eq]; rfl) a b k K
  case gtr => exact nn_eq (fun a b k K => by unfold gtN; rw [boolF_eq]; simp only [fInt, boolK_eq]; rfl) a b k K
  case geq => exact nn_eq (fun a b k K => by unfold geN; rw [notF_eq]; simp only [fInt, boolK_eq]; rfl) a b k K
  all_goals rfl
abbrev R2 := V → V → H → (V → Bool) → Bool
abbrev R1 := V → H → (V → Bool) → Bool
noncomputable def intOrStr  (v : V) : (IntKind → Int → Bool) → (Nat → Nat → Bool) → Bool :=
  V.rec (motive_1 := fun _ => (IntKind → Int → Bool) → (Nat → Nat → Bool) → Bool) (motive_2 := fun _ => Unit) (fun _ _ _ => false) (fun k n K S => K k n) (fun n c K S => S n c) (fun _ _ _ _ => false) (fun _ _ => false) (fun _ _ _ _ _ _ _ => false) (fun _ _ => false) (fun _ _ _ => false) (fun _ _ => false) (fun _ _ _ _ _ _ _ => false) (fun _ _ => false) (fun _ _ _ _ _ => false) (fun _ _ => false) (fun _ _ _ _ => false) (fun _ _ _ _ => false) (fun _ _ _ => false) Unit.unit (fun _ _ _ _ => Unit.unit) v
noncomputable def bin1 (op : BinOp) (k : IntKind) (a : Int) (K : V → Bool) (k' : IntKind) (b : Int) : Bool := condK (kEq k k') (iop op a b k K) false
noncomputable def binS (op : BinOp) (n a : Nat) (K : V → Bool) (m b : Nat) : Bool := fStr op n a m b K
noncomputable def int2c (g : IOp) (k : IntKind) (a : Int) (K : V → Bool) (k' : IntKind) (b : Int) : Bool := condK (kEq k k') (g a b k K) false
noncomputable def int2b (g : IOp) (y : V) (K : V → Bool) (k : IntKind) (a : Int) : Bool := intA y (int2c g k a K)
noncomputable def rI (g : IOp) : R2 := fun x y _ K => intA x (int2b g y K)
noncomputable def rIop (op : BinOp) : R2 := BinOp.rec (motive := fun _ => R2) (rI (nn .add adN)) (rI (nn .sub suN)) (rI (nn .mul muN)) (rI (slowI .quo)) (rI (slowI .rem)) (rI (slowI .and)) (rI (slowI .or)) (rI (slowI .xor)) (rI (slowI .shl)) (rI (slowI .shr)) (rI (slowI .andNot)) (rI (nn .eql eqN)) (rI (nn .neq neN)) (rI (nn .lss ltN)) (rI (nn .leq leN)) (rI (nn .gtr gtN)) (rI (nn .geq geN)) op
noncomputable def rBin (op : BinOp) : R2 := fun x y _ K => intOrStr x (fun k a => intA y (bin1 op k a K)) (fun n a => strA y (binS op n a K))
theorem l1_eq (vs : List V) (K : V → Bool) : l1 vs K = match vs with | [v] => K v | _ => false := by
  cases vs with
  | nil => rfl
  | cons v r => cases r <;> rfl
theorem l2_eq (vs : List V) (K : V → V → Bool) : l2 vs K = match vs with | [v, u] => K v u | _ => false := by
  cases vs with
  | nil => rfl
  | cons v r => cases r with
    | nil => rfl
    | cons u r => cases r <;> rfl
theorem l3_eq (vs : List V) (K : V → V → V → Bool) : l3 vs K = match vs with | [v, u, t] => K v u t | _ => false := by
  cases vs with
  | nil => rfl
  | cons v r => cases r with
    | nil => rfl
    | cons u r => cases r with
      | nil => rfl
      | cons t r => cases r <;> rfl
noncomputable def of2 (f : R2) : Rd := fun vs h K => l2 vs fun x y => f x y h K
noncomputable def of1 (f : R1) : Rd := fun vs h K => l1 vs fun x => f x h K
theorem rBin_eq (op : BinOp) : of2 (rBin op) = fBin op := by
  funext vs h K
  unfold of2
  rw [l2_eq]
  unfold fBin
  split
  · rename_i x y
    cases x <;> cases y <;> first
      | rfl
      | (show condK (kEq _ _) (iop op _ _ _ K) false = _; rw [condK_eq, kEq_eq, iop_eq])
  · rename_i hne
    split <;> first
      | rfl
      | exact absurd rfl (hne _ _)
end Go.Ev
end
section
namespace Go.Ev
noncomputable def nilA  (v : V) : (V → Bool) → Bool :=
  V.rec (motive_1 := fun _ => (V → Bool) → Bool) (motive_2 := fun _ => Unit) (fun _ _ => false) (fun _ _ _ => false) (fun _ _ _ => false) (fun b o K => K (.ptr b o)) (fun _ => false) (fun _ _ _ _ _ _ => false) (fun _ => false) (fun _ _ => false) (fun _ => false) (fun f p q i1 i2 K => K (.func f p q)) (fun _ => false) (fun t v i1 K => K (.iface t v)) (fun _ => false) (fun _ _ _ => false) (fun _ _ _ => false) (fun _ _ => false) Unit.unit (fun _ _ _ _ => Unit.unit) v
noncomputable def rId : R1 := fun v _ K => K v
noncomputable def rNil : R1 := fun v _ => nilA v
noncomputable def rFA (d : Nat) : R1 := fun v _ K => ptrA v fun b o => natK (Nat.add o d) fun o => K (.ptr b o)
noncomputable def blkG (g b : Nat) (gr : T Grp) (X : Bool) : Bool := gr.optK g X fun G => Grp.rec (motive := fun _ => Nat → Bool → Bool) (fun mv _ _ b X => condK (Nat.ble mv b) X false) G b X
noncomputable def blkF (h : H) (b : Nat) (K : Nat → Nat → Nat → Dat → Bool) : Bool :=
  H.rec (motive := fun _ => Nat → (Nat → Nat → Nat → Dat → Bool) → Bool) (fun _ bl gr b K => bl.getK b fun k => Blk.rec (motive := fun _ => Nat → T Grp → (Nat → Nat → Nat → Dat → Bool) → Bool) (fun g p n d _ b gr K => blkG g b gr (K g p n d)) k b gr K) h b K
theorem blkF_eq (h : H) (b : Nat) (K : Nat → Nat → Nat → Dat → Bool) : blkF h b K = blkK h b fun k => K k.g k.pos k.n k.d := by
  cases h with | mk nx bl gr =>
  show (bl.getK b _) = bl.getK b _
  congr 1
  funext k
  cases k with | mk g p n d =>
  show gr.optK g _ _ = gr.optK g _ _
  congr 1
  funext G
  cases G with | mk mv me la =>
  show condK _ _ _ = _
  rw [condK_eq]
noncomputable def datF (d : Dat) : Nat → Nat → (V → Bool) → Bool :=
  Dat.rec (motive := fun _ => Nat → Nat → (V → Bool) → Bool) (fun t _ j => t.getK j)
    (fun c n j K => natK (Nat.mod (Nat.shiftRight c (Nat.mul (nat_lit 8) (Nat.sub (Nat.sub n (nat_lit 1)) j))) (nat_lit 256)) fun z => K (.int .u8 (.ofNat z))) (fun _ _ _ _ _ => false) (fun _ _ _ _ _ _ _ => false) (fun _ _ _ _ _ _ _ _ _ _ => false) d
theorem datF_eq (n : Nat) (d : Dat) (j : Nat) (K : V → Bool) : datF d n j K = datK n d j K := by cases d <;> rfl
noncomputable def rowF (m : Nat) (d : Dat) (n : Nat) : Nat → (List V → Bool) → Bool :=
  Nat.rec (motive := fun _ => Nat → (List V → Bool) → Bool) (fun _ K => K []) (fun _ ih j K => datF d m j fun v => ih (Nat.succ j) fun l => K (v :: l)) n
theorem rowF_eq (m : Nat) (d : Dat) : ∀ (n j : Nat) (K : List V → Bool), rowF m d n j K = rowK m d n j K
  | 0, j, K => rfl
  | n + 1, j, K => by
    show datF d m j (fun v => rowF m d n (j + 1) fun l => K (v :: l)) = datK m d j fun v => rowK m d n (j + 1) fun l => K (v :: l)
    rw [datF_eq]
    congr 1
    funext v
    exact rowF_eq m d n (j + 1) _
noncomputable def load1 (h : H) (K : V → Bool) (b off : Nat) : Bool := blkF h b fun _ _ n d => condK (Nat.blt off n) (datF d n off K) false
noncomputable def rLoad1 : R1 := fun v h K => ptrA v (load1 h K)
noncomputable def loadN (m : Nat) (h : H) (K : V → Bool) (b off : Nat) : Bool := blkF h b fun _ _ n d => condK (Nat.ble (Nat.add off m) n) (rowF n d m off fun l => K (.agg l)) false
noncomputable def rLoadN (m : Nat) : R1 := fun v h K => ptrA v (loadN m h K)
noncomputable def rNot : R1 := fun v _ K => ifA v (K (.bool false)) (K (.bool true))
noncomputable def rExt (i : Nat) : R1 := fun v _ K => tupA v fun l => nthK l i K
noncomputable def rField (off n : Nat) (one : Bool) : R1 := fun v _ K => aggA v fun l => partK l off n one K
noncomputable def conv (k : IntKind) (K : V → Bool) (_ : IntKind) (a : Int) : Bool := Int.rec (motive := fun _ => IntKind → (V → Bool) → Bool) (fun a k K => natK a (outN k K)) (fun a k K => intK (wr k (.negSucc a)) fun z => K (.int k z)) a k K
noncomputable def rConv (k : IntKind) : R1 := fun v _ K => intA v (conv k K)
noncomputable def rLenStr : R1 := fun v _ K => strA v fun n _ => K (.int .i64 (.ofNat n))
noncomputable def rLenSl : R1 := fun v _ K => sliceA v (K (.int .i64 (.ofNat 0))) fun _ _ n _ _ => K (.int .i64 (.ofNat n))
noncomputable def rMkI (t : TypeId) : R1 := fun v _ K => K (.iface t v)
noncomputable def iaddr (z b off j : Nat) (K : V → Bool) : Bool := natK (Nat.add off (Nat.mul j z)) fun o => K (.ptr b o)
noncomputable def rIAddr (z : Nat) : R2 := fun v u _ K => sliceA v false fun b off len e _ => intA u fun _ j => natA j fun j => condK (Nat.blt j len) (condK (Nat.beq e z) (iaddr z b off j K) false) false
noncomputable def rIAddrA (n z : Nat) : R2 := fun v u _ K => ptrA v fun b off => intA u fun _ j => natA j fun j => condK (Nat.blt j n) (iaddr z b off j K) false
theorem rId_eq : of1 rId = fId := by
  funext vs h K
  unfold of1 fId
  rw [l1_eq]
  split
  · rename_i x; cases x <;> first | rfl | (rename_i b; cases b <;> rfl)
  · rename_i hne; split <;> first | rfl | exact absurd rfl (hne _)
theorem rNil_eq : of1 rNil = fNilChk := by
  funext vs h K
  unfold of1 fNilChk
  rw [l1_eq]
  split
  · rename_i x; cases x <;> first | rfl | (rename_i b; cases b <;> rfl)
  · rename_i hne; split <;> first | rfl | exact absurd rfl (hne _)
theorem rNot_eq : of1 rNot = fNot := by
  funext vs h K
  unfold of1 fNot
  rw [l1_eq]
  split
  · rename_i x; cases x <;> first | rfl | (rename_i b; cases b <;> rfl)
  · rename_i hne; split <;> first | rfl | exact absurd rfl (hne _)
theorem rLenStr_eq : of1 rLenStr = fLenStr := by
  funext vs h K
  unfold of1 fLenStr
  rw [l1_eq]
  split
  · rename_i x; cases x <;> first | rfl | (rename_i b; cases b <;> rfl)
  · rename_i hne; split <;> first | rfl | exact absurd rfl (hne _)
theorem rLenSl_eq : of1 rLenSl = fLenSl := by
  funext vs h K
  unfold of1 fLenSl
  rw [l1_eq]
  split
  · rename_i x; cases x <;> first | rfl | (rename_i b; cases b <;> rfl)
  · rename_i hne; split <;> first | rfl | exact absurd rfl (hne _)
theorem rFA_eq (d : Nat) : of1 (rFA d) = fFAddr d := by
  funext vs h K
  unfold of1 fFAddr
  rw [l1_eq]
  split
  · rename_i x; cases x <;> rfl
  · rename_i hne; split <;> first | rfl | exact absurd rfl (hne _)
theorem rExt_eq (i : Nat) : of1 (rExt i) = fExt i := by
  funext vs h K
  unfold of1 fExt
  rw [l1_eq]
  split
  · rename_i x; cases x <;> rfl
  · rename_i hne; split <;> first | rfl | exact absurd rfl (hne _)
theorem rField_eq (off n : Nat) (one : Bool) : of1 (rField off n one) = fField off n one := by
  funext vs h K
  unfold of1 fField
  rw [l1_eq]
  split
  · rename_i x; cases x <;> rfl
  · rename_i hne; split <;> first | rfl | exact absurd rfl (hne _)
theorem rMkI_eq (t : TypeId) : of1 (rMkI t) = fMkI t := by
  funext vs h K
  unfold of1 fMkI
  rw [l1_eq]
  split
  · rename_i x; cases x <;> rfl
  · rename_i hne; split <;> first | rfl | exact absurd rfl (hne _)
theorem rConv_eq (k : IntKind) : of1 (rConv k) = fConv k := by
  funext vs h K
  unfold of1 fConv
  rw [l1_eq]
  split
  · rename_i x; cases x <;> first
      | rfl
      | (rename_i k' a; cases a with
         | ofNat a => show natK a (outN k K) = _; rw [natK_eq, outN_eq]
         | negSucc a => rfl)
  · rename_i hne; split <;> first | rfl | exact absurd rfl (hne _)
theorem rLoad1_eq : of1 rLoad1 = fLoad1 := by
  funext vs h K
  unfold of1 fLoad1
  rw [l1_eq]
  split
  · rename_i x; cases x <;> first
      | rfl
      | (rename_i b off
         show load1 h K b off = _
         unfold load1
         rw [blkF_eq]
         congr 1; funext k
         rw [condK_eq, datF_eq])
  · rename_i hne; split <;> first | rfl | exact absurd rfl (hne _)
theorem rLoadN_eq (m : Nat) : of1 (rLoadN m) = fLoadN m := by
  funext vs h K
  unfold of1 fLoadN
  rw [l1_eq]
  split
  · rename_i x; cases x <;> first
      | rfl
      | (rename_i b off
         show loadN m h K b off = _
         unfold loadN
         rw [blkF_eq]
         congr 1; funext k
         rw [condK_eq, rowF_eq]; rfl)
  · rename_i hne; split <;> first | rfl | exact absurd rfl (hne _)
theorem rIAddr_eq (z : Nat) : of2 (rIAddr z) = fIAddr z := by
  funext vs h K
  unfold of2 fIAddr
  rw [l2_eq]
  split
  · rename_i x y
    cases x <;> cases y <;> first
      | rfl
      | (rename_i k j; cases j with
         | negSucc j => rfl
         | ofNat j =>
           rename_i b off len e oc
           show condK (Nat.blt j len) (condK (Nat.beq e z) (iaddr z b off j K) false) false = bif Nat.blt j len && Nat.beq e z then iaddr z b off j K else false
           rw [condK_eq, condK_eq]
           cases Nat.blt j len <;> rfl)
  · rename_i hne; split <;> first | rfl | exact absurd rfl (hne _ _)
theorem rIAddrA_eq (n z : Nat) : of2 (rIAddrA n z) = fIAddrA n z := by
  funext vs h K
  unfold of2 fIAddrA
  rw [l2_eq]
  split
  · rename_i x y
    cases x <;> cases y <;> first
      | rfl
      | (rename_i k j; cases j with
         | negSucc j => rfl
         | ofNat j =>
           show condK _ _ false = _
           rw [condK_eq]; rfl)
  · rename_i hne; split <;> first | rfl | exact absurd rfl (hne _ _)
end Go.Ev
end
section
namespace Go.Ev
noncomputable def idxPart (z : Nat) (one : Bool) (l : List V) (K : V → Bool) (j : Nat) : Bool := natK (Nat.mul j z) fun off => partK l off z one K
noncomputable def fIdxArr (n z : Nat) (one : Bool) : Rd := fun vs _ K => l2 vs fun x y => aggA x fun l => intA y fun _ j => natA j fun j => condK (Nat.blt j n) (idxPart z one l K j) false
theorem aggA_true {v : V} {K : List V → Bool} (h : aggA v K = true) : ∃ l, v = .agg l ∧ K l = true := by cases v <;> first | exact ⟨_, rfl, h⟩ | exact absurd (show false = true from h) (by simp)
theorem intA_true {v : V} {K : IntKind → Int → Bool} (h : intA v K = true) : ∃ k n, v = .int k n ∧ K k n = true := by cases v <;> first | exact ⟨_, _, rfl, h⟩ | exact absurd (show false = true from h) (by simp)
theorem natA_true {n : Int} {K : Nat → Bool} (h : natA n K = true) : ∃ m : Nat, n = .ofNat m ∧ K m = true := by cases n <;> first | exact ⟨_, rfl, h⟩ | exact absurd (show false = true from h) (by simp)
theorem l2_true {vs : List V} {K : V → V → Bool} (h : l2 vs K = true) : ∃ x y, vs = [x, y] ∧ K x y = true := by
  rw [l2_eq] at h
  split at h
  · exact ⟨_, _, rfl, h⟩
  · exact absurd h (by simp)
theorem l1_true {vs : List V} {K : V → Bool} (h : l1 vs K = true) : ∃ x, vs = [x] ∧ K x = true := by
  rw [l1_eq] at h
  split at h
  · exact ⟨_, rfl, h⟩
  · exact absurd h (by simp)
theorem condK_tt {a b : Bool} (h : condK a b false = true) : a = true ∧ b = true := by rw [condK_eq] at h; exact bif_true h
theorem fIdxArr_sound {P : Program} {t el : TypeId} {n : Nat} {x ix : Operand} {d : TypeDesc} {i : TypeInfo} (hu : P.underlying t = some (.array n el)) (hd : P.underlying el = some d) (hi : P.info? el = some i) :
    RdSound P (.index t x ix) (fIdxArr n i.size (!aggD d)) := by
  intro o ho B φ h w ρ vs K hr hv hk
  unfold fIdxArr at hk
  obtain ⟨u, v, rfl, hk⟩ := l2_true hk
  obtain ⟨l, rfl, hk⟩ := aggA_true hk
  obtain ⟨k, m, rfl, hk⟩ := intA_true hk
  obtain ⟨j, rfl, hk⟩ := natA_true hk
  obtain ⟨hj, hk⟩ := condK_tt hk
  have hj := blt_iff.1 hj
  unfold idxPart at hk
  rw [natK_eq] at hk
  obtain ⟨p, q, e, hp, hq⟩ := hv.two
  simp only [Op.operands, List.map_cons, List.map_nil, List.cons.injEq, and_true] at e
  obtain ⟨xs, rfl, hxs⟩ := hp.agg_inv
  have hq := hq.int_inv; subst hq
  obtain ⟨v, y, h1, h2, h3⟩ := partK_sound (P := P) (w := w) hxs hd hi hk
  refine ⟨v, y, ?_, h2, h3⟩
  simp only [execOp, ho, e.1, e.2, Instr.index, asIntOf, Sem.run_bind, run_underlying hu, Result.andThen_ok, Sem.run_pure]
  rw [if_pos ⟨by simp, by simpa using hj⟩]
  simp only [run_sizeOf hi, Sem.run_bind, Result.andThen_ok]
  have h1 : (part el xs ((Int.ofNat j).toNat * i.size)).run P w = .ok y w := h1
  rw [h1]; rfl
noncomputable def fXorU : Rd := fun vs _ K => l1 vs fun x => intA x fun k a => fInt .xor k (if k.signed then -1 else k.max) a K
theorem fXorU_sound {P : Program} {t : TypeId} {x : Operand} : RdSound P (.unOp .xor t x) fXorU := by
  intro o ho B φ h w ρ vs K hr hv hk
  unfold fXorU at hk
  obtain ⟨u, rfl, hk⟩ := l1_true hk
  obtain ⟨k, m, rfl, hk⟩ := intA_true hk
  obtain ⟨p, e, hp⟩ := hv.one
  simp only [Op.operands, List.map_cons, List.map_nil, List.cons.injEq, and_true] at e
  have hp := hp.int_inv; subst hp
  have hk : fInt .xor k (if k.signed then -1 else k.max) m K = true := hk
  obtain ⟨v, y, h1, h2, h3⟩ := fInt_sound (P := P) (w := w) hk
  refine ⟨v, y, ?_, h2 φ, h3⟩
  simp only [execOp, ho, e, Op.unary]
  have h1 : (Op.intBits .xor k (if k.signed then -1 else k.max) m).run P w = .ok y w := h1
  simp only [Sem.run_bind, h1, Result.andThen_ok, Sem.run_pure]
end Go.Ev
end
section
namespace Go.Ev
def methOf (P : Program) (name : String) (t : TypeId) : Option (FuncId × Option Nat) :=
  match P.info? t, P.underlying t with
  | some i, some (.pointer _) => (match i.methods.find? (·.name == name) with
    | some m => (match m.path.toList, m.func with
      | [], some (f, true) => some (f, none)
      | [s], some (f, true) => (match s.deref, P.underlying s.struct with
        | true, some (.struct fs) => (match fs[s.index]? with
          | some fd => (match P.underlying fd.type, P.info? fd.type with
            | some (.pointer _), some fi => if fi.size ≠ 0 then some (f, some fd.offset) else none
            | _, _ => none)
          | none => none)
        | _, _ => none)
      | _, _ => none)
    | none => none)
  | _, _ => none
def RecvIs (w : World) (v : Value) : Option Nat → Value → Prop
  | none, x => x = v
  | some off, x => ∃ a, v = .pointer (some a) ∧ w.cell? (a.add off) = some x
theorem run_method {P : Program} {name : String} {t : TypeId} {f : FuncId} {po : Option Nat} (h : methOf P name t = some (f, po)) (n : Nat) (v x : Value) (w : World) (hx : RecvIs w v po x) : (method (n + 1) t v name).run P w = .ok (f, x) w := by
  unfold methOf at h
  split at h
  · rename_i i el hi hu
    have ht : (typeInfo t).run P w = .ok i w := by
      unfold typeInfo
      simp only [Sem.run_bind, run_program, Result.andThen_ok, hi, Sem.run_pure]
    split at h
    · rename_i m hm
      split at h
      · rename_i f' hp hf
        simp only [Option.some.injEq, Prod.mk.injEq] at h; obtain ⟨rfl, rfl⟩ := h
        have hx : x = v := hx
        subst hx
        unfold method
        simp only [Sem.run_bind, ht, Result.andThen_ok, hm, hp, follow, Sem.run_pure, hf, receiverAt, run_underlying hu, Place.get]
      · rename_i s f' hp hf
        split at h
        · rename_i fs hd hus
          split at h
          · rename_i fd hfd
            split at h
            · rename_i el' fi huf hif
              split at h
              · rename_i hz
                simp only [Option.some.injEq, Prod.mk.injEq] at h; obtain ⟨rfl, rfl⟩ := h
                obtain ⟨a, rfl, hc⟩ := hx
                have hld : (load (a.add fd.offset)).run P w = .ok x w := run_load' hc
                have hag : (isAgg fd.type).run P w = .ok false w := run_isAgg huf w
                unfold method
                simp only [Sem.run_bind, ht, Result.andThen_ok, hm, hp, follow, run_underlying hus, hfd, hd, if_true, Place.get, asAddr, Sem.run_pure, fieldPlace, run_sizeOf hif, if_neg hz, hf, receiverAt, run_underlying huf, loadVar, hag, Bool.false_eq_true, if_false, hld]
              · exact absurd h (by simp)
            · exact absurd h (by simp)
          · exact absurd h (by simp)
        · exact absurd h (by simp)
      · exact absurd h (by simp)
    · exact absurd h (by simp)
  · exact absurd h (by simp)
theorem run_callMethod {P : Program} {name : String} {t : TypeId} {f : FuncId} {po : Option Nat} (h : methOf P name t = some (f, po)) (v x : Value) (args : Array Value) (w : World) (hx : RecvIs w v po x) :
    (callMethod (.iface t v) name args).run P w = (callFunc f (#[x] ++ args)).run P w := by
  have hd : P.types.size + Made.depth = (P.types.size + Made.depth - 1) + 1 := by have : 0 < Made.depth := by decide
                                                                                  omega
  unfold callMethod
  simp only [Sem.run_bind, run_program, Result.andThen_ok]
  rw [hd, run_method h _ _ _ _ hx]
  rfl
noncomputable def fCap : Rd := fun vs _ K => match vs with | [.slice _ _ _ _ (some c)] => K (.int .i64 (.ofNat c)) | [.nils] => K (.int .i64 (.ofNat 0)) | _ => false
theorem fCap_sound {P : Program} {c : Call} {t el : TypeId} (hc : c.callee = .builtin .cap) (h0 : c.argTypes[0]? = some t) (hu : P.underlying t = some (.slice el)) : RdSound P (.call c) fCap := by
  intro o ho B φ h w ρ vs K hr hv hk
  unfold fCap at hk
  split at hk
  · obtain ⟨x, e, hx⟩ := args1 hc hv
    rcases hx.slice_inv with ⟨L, cap, hL, hcs, hlen, hoc, rfl⟩ | ⟨a, L, hL, h0', hoc, rfl⟩
    · have := hoc _ rfl; subst this
      refine ⟨_, _, ?_, .int _ _, hk⟩
      rw [run_builtin ho hc, e]
      simp only [builtin, Builtin.cap_, h0, Sem.run_bind, Sem.run_pure, Result.andThen_ok, run_underlying hu, List.getElem?_toArray, List.getElem?_cons_zero]
      rfl
    · have := hoc _ rfl; subst this
      refine ⟨_, _, ?_, .int _ _, hk⟩
      rw [run_builtin ho hc, e]
      simp only [builtin, Builtin.cap_, h0, Sem.run_bind, Sem.run_pure, Result.andThen_ok, run_underlying hu, List.getElem?_toArray, List.getElem?_cons_zero]
      rfl
  · obtain ⟨x, e, hx⟩ := args1 hc hv
    have := hx.nils_inv; subst this
    refine ⟨_, _, ?_, .int _ _, hk⟩
    rw [run_builtin ho hc, e]
    simp only [builtin, Builtin.cap_, h0, Sem.run_bind, Sem.run_pure, Result.andThen_ok, run_underlying hu, List.getElem?_toArray, List.getElem?_cons_zero]
    rfl
  · exact absurd hk (by simp)
end Go.Ev
end
