/- Part of the proof that card_holds ends in: an evaluator of closed runs over abstract memories, and that what it says holds of the model. -/
import Derived.Test.YtkobceanlhlmcaaGreatDoorA08
import Derived.RangeFuncIn
import Derived.RangeFuncRecord
import Derived.RangeFuncLeaves
set_option linter.all false
section
namespace Go.Ev
noncomputable def lrecK (h : H) (b : Nat) (K : Blk → (Nat → Bool) → T V → List Nat → Code → Code → Nat → Jmp → Bool) : Bool :=
  blkK h b fun k => match k.d with | .lrec Lp loc ps asg body st pend => K k Lp loc ps asg body st pend | _ => false
theorem lrecK_true {B : Bd} {φ : Phi} {h : H} {w : World} {b : Nat} {L : Loc} {K : Blk → (Nat → Bool) → T V → List Nat → Code → Code → Nat → Jmp → Bool} (hr : HR B φ h w) (hL : φ b = some L) (hk : lrecK h b K = true) :
    ∃ k Lp loc ps asg body st pend r, h.bl.get b = some k ∧ Live h b k ∧ w.heap[L.blk]? = some (.loop r) ∧ k.n ≤ r.tmps.size ∧ r.params.toList = ps ∧ r.assign = asg ∧ r.body = body ∧ stN r.state = st ∧ r.pending = pend.code ∧
      (∀ t v, loc.get t = some v → Lp t = true ∧ VR φ v (r.tmps.getD t undef)) ∧ K k Lp loc ps asg body st pend = true := by
  obtain ⟨k, hb, hl, h1⟩ := blkK_true hk
  have hh := hr.hold b L k hL hb hl
  split at h1
  · rename_i Lp loc ps asg body st pend hd
    rw [hd] at hh
    obtain ⟨r, g1, g2, g3, g4, g5, g6, g7, g8⟩ := hh
    exact ⟨k, Lp, loc, ps, asg, body, st, pend, r, hb, hl, g1, g2, g3, g4, g5, g6, g7, g8, h1⟩
  · exact absurd h1 (by simp)
theorem HR.lrec {B : Bd} {φ : Phi} {h h' : H} {w : World} {b : Nat} {k : Blk} {L : Loc} {r : Loop} {Lp : Nat → Bool} {loc : T V} {ps : List Nat} {asg body : Code} {s : LoopState} {pend : Jmp} (hr : HR B φ h w) (hL : φ b = some L)
    (hl : Live h b k) (h1 : w.heap[L.blk]? = some (.loop r)) (h2 : k.n ≤ r.tmps.size) (h3 : r.params.toList = ps) (h4 : r.assign = asg) (h5 : r.body = body)
    (h8 : ∀ t v, loc.get t = some v → Lp t = true ∧ VR φ v (r.tmps.getD t undef)) (hw : Wrote h b k k.n (.lrec Lp loc ps asg body (stN s) pend) h') :
    HR B φ h' (w.putObj L.blk (.loop { r with state := s, pending := pend.code })) ∧ Below B w (w.putObj L.blk (.loop { r with state := s, pending := pend.code })) := by
  have hlt : L.blk < w.heap.size := (hr.dom b L hL).2.2
  have ho : ∀ x, x ≠ L.blk → (w.putObj L.blk (.loop { r with state := s, pending := pend.code })).heap[x]? = w.heap[x]? := fun x hx => World.putObj_heap_other hx
  refine ⟨hr.wrote hw hl hL (by simp [World.putObj]) ho (fun c e fr hc => by rw [h1] at hc; simp at hc) ?_, Below.of_set (hr.dom b L hL).2.1 rfl rfl rfl (by simp [World.putObj]) ho h1 (fun ds e => by cases e)⟩
  exact ⟨_, World.putObj_heap_same hlt, h2, h3, h4, h5, rfl, rfl, h8⟩
theorem funcA_true {v : V} {K : FuncId → List V → List V → Bool} (h : funcA v K = true) : ∃ f a c, v = .func f a c ∧ K f a c = true := by
  cases v <;> first | exact ⟨_, _, _, rfl, h⟩ | exact absurd (show false = true from h) (by simp)
def bodied (P : Program) (f : FuncId) : Bool := match P.funcs[f]? with | some fn => fn.body.isSome | none => false
theorem bodied_run {P : Program} {f : FuncId} (h : bodied P f = true) {args : Array Value} {w w' : World} {x : Value} : (callFunc f args).run P w ≠ .ok (.value x) w' := by
  unfold bodied at h
  split at h
  · rename_i fn hf
    intro hc
    unfold callFunc at hc
    have hb : fn.body.isNone = false := by cases hb : fn.body <;> simp_all
    simp only [Sem.run_bind, run_program, Result.andThen_ok, hf, hb, Bool.false_eq_true, if_false] at hc
    split at hc <;> simp [Sem.run_pure] at hc
  · exact absurd h (by simp)
noncomputable def cRange (bd : FuncId → Bool) (Lp : Nat → Bool) (N : Nat) (s : Src1) (ps : List Nat) (asg body : Code) : Ev := fun C _ loc h K =>
  srcV s [] loc fun v => funcA v fun f first cap => bif !Nat.beq f YLD && bd f then
    natK h.next fun b => addK h N (.lrec Lp loc ps asg body 0 .none) none fun h1 => C f (first ++ [.yld b] ++ cap) h1 fun _ h2 =>
      lrecK h2 b fun k Lp' loc' ps' asg' body' st pend => bif Nat.beq st 1 then false else wrK h2 b k (.lrec Lp' loc' ps' asg' body' 3 pend) fun h3 =>
        Jmp.rec (motive := fun _ => Bool) (K .norm loc h3) (K .ret loc h3) (fun id => K (.exit id) loc h3) pend
  else false
theorem stN_busy {s : LoopState} (h : Nat.beq (stN s) 1 = false) : s ≠ .busy := fun e => by subst e; simp [stN] at h
theorem putObj_deferred {w : World} {l : Nat} {o : Obj} {r : Nat} {ds : Option (List Deferred)} {o0 : Obj} (h : w.heap[r]? = some (.deferred ds)) (hl : w.heap[l]? = some o0) (hn : ∀ x : Option (List Deferred), o0 ≠ .deferred x) : (w.putObj l o).heap[r]? = some (.deferred ds) := by
  have : r ≠ l := fun e => by subst e; rw [hl] at h; simp only [Option.some.injEq] at h; exact hn ds h
  rw [World.putObj_heap_other this]; exact h
theorem cRange_ok {P : Program} {L : Nat → Bool} {N : Nat} {g : Operand} {ps : Array Tmp} {asg body : Code} {s : Src1} (hs : opS 0 [] g = some s) : EvOk P false L N (.rangeFunc g ps asg body) (cRange (bodied P) L N (absS 0 s) ps.toList asg body) := by
  intro C hC n loc h K hk ro B φ S D a w hro hl hd hS hr
  have := hro rfl; subst this
  unfold cRange at hk
  obtain ⟨v, hv, hk1⟩ := srcV_true hk
  obtain ⟨f, first, cap, rfl, hk2⟩ := funcA_true hk1
  obtain ⟨hb, hk3⟩ := bif_true hk2
  obtain ⟨hb1, hb2⟩ := Bool.and_eq_true_iff.1 hb
  have hne : f ≠ YLD := fun e => by rw [e] at hb1; simp at hb1
  rw [natK_eq] at hk3
  obtain ⟨h1, ha, hk4⟩ := addK_true hk3
  have hvr := (opS_rel hl.gam0 hs).2 _ hv
  generalize hfx : a.eval g = fx at hvr
  cases hvr with
  | @func _ _ _ xs ys hxs hys =>
  have hrA : HR B φ h (w.alloc (.deferred (some []))) := hr.keep (by rw [World.size_alloc]; omega) (fun k hk => Go.RowKit.Below.heap_alloc w _ k hk)
  have hn : φ h.next = none := hr.unmapped (Nat.le_refl _)
  let rec0 : Nat → Loop := fun fn => { state := .ready, pending := none, fn, tmps := a.tmps, params := ps, assign := asg, body, defers := w.heap.size }
  let wB : Nat → World := fun fn => (w.alloc (.deferred (some []))).alloc (.loop (rec0 fn))
  have hsz : ∀ fn, (wB fn).heap.size = w.heap.size + 2 := fun fn => by show ((w.alloc _).alloc _).heap.size = _; rw [World.size_alloc, World.size_alloc]
  have hloop : ∀ fn, (wB fn).heap[w.heap.size + 1]? = some (.loop (rec0 fn)) := fun fn => by
    have := World.alloc_heap_new (w.alloc (.deferred (some []))) (.loop (rec0 fn))
    rw [World.size_alloc] at this; exact this
  have hded : ∀ fn, (wB fn).heap[w.heap.size]? = some (.deferred (some [])) := fun fn => by
    have := Go.RowKit.Below.heap_alloc (w.alloc (.deferred (some []))) (.loop (rec0 fn)) w.heap.size (by rw [World.size_alloc]; omega)
    exact this.trans (World.alloc_heap_new w _)
  have hbA : Below B w (w.alloc (.deferred (some []))) := Below.of_push hr.size rfl rfl rfl rfl
  have hbB : ∀ fn, Below B w (wB fn) := fun fn => hbA.trans (Below.of_push (Nat.le_trans hr.size (by rw [World.size_alloc]; omega)) rfl rfl rfl rfl)
  have hsA : (w.alloc (.deferred (some []))).heap.size = w.heap.size + 1 := World.size_alloc _ _
  have hrB : ∀ fn, HR B (φ.put h.next ⟨w.heap.size + 1, 0, 0⟩) h1 (wB fn) := fun fn => by
    have := (hrA.added ha).mapped (w' := wB fn) (o := .loop (rec0 fn)) (cs := 0) (hr.noU (Nat.le_refl _)) hn ha.at_ (fun G hG => by
      have := hr.noGrp
      simp only [] at hG; rw [ha.gr, this] at hG; exact absurd hG (by simp)) (fun _ => rfl) rfl (fun e he => absurd he (by simp)) (by
      rw [hsA]
      exact ⟨rec0 fn, hloop fn, hl.size, rfl, rfl, rfl, rfl, rfl, fun t v ht => hl.val t v ht⟩)
    rw [hsA] at this; exact this
  refine wpIn_rangeFunc fun fn _ => ?_
  have hargs : VRs (φ.put h.next ⟨w.heap.size + 1, 0, 0⟩) (first ++ [.yld h.next] ++ cap) (xs ++ #[Value.func (.yield (w.heap.size + 1)) #[] #[]] ++ ys).toList := by
    rw [Array.toList_append, Array.toList_append]
    have hx := Phi.ext_put (L := ⟨w.heap.size + 1, 0, 0⟩) hn
    exact ((hxs.mono hx).append (.cons (.yld (Phi.put_self _ _ _)) .nil)).append (hys.mono hx)
  rcases hC.fn f _ h1 _ hne hk4 B _ (wB fn) _ (hrB fn) hargs with ⟨hent, hcalls⟩ | ⟨y, w', hval, _⟩
  · refine ⟨w.heap.size + 1, [{ target := .collected w.heap.size, args := #[] }], wB fn, { target := .fn (.func f) ys, args := xs ++ #[Value.func (.yield (w.heap.size + 1)) #[] #[]] }, wB fn, f, _, wB fn,
      run_enterLoop_outer fn a.tmps ps asg body, ?_, fun _ _ => trivial, ?_, fun h => absurd h (by simp [Fr, Fence.wide]), (callsIn_wide (n := 0)).2 (hcalls.mono ?_)⟩
    · simp only [resolve, rangeCall, hfx, Deferred.ofValue, Sem.run_pure]
      simp [Act.eval]
    · simp only [invoke]; exact hent
    · rintro e w3 ⟨v, h2, φ3, x, rfl, g1, g2, g3, g4, g5⟩
      have hL3 : φ3 h.next = some ⟨w.heap.size + 1, 0, 0⟩ := g1 _ _ (Phi.put_self _ _ _)
      obtain ⟨k, Lp', loc', ps', asg', body', st, pend, r, e1, e2, e3, e4, e5, e6, e7, e8, e9, e10, e11⟩ := lrecK_true g3 hL3 g5
      cases hst : Nat.beq st 1 with
      | true => rw [hst] at e11; simp at e11
      | false =>
        rw [hst] at e11
        simp only [cond_false] at e11
        obtain ⟨h3, hw, hk5⟩ := wrK_true e1 e11
        have hnb : r.state ≠ .busy := stN_busy (by rw [e8]; exact hst)
        have hfin := HR.lrec (s := .exhausted) g3 hL3 e2 e3 e4 e5 e6 e7 e10 hw
        refine ⟨r.pending, _, run_endLoop e3 hnb, ?_⟩
        have hpe : w3.putObj (w.heap.size + 1) (.loop { r with state := .exhausted }) = w3.putObj (w.heap.size + 1) (.loop { r with state := .exhausted, pending := pend.code }) := by rw [← e9]
        have hdd : (w3.putObj (w.heap.size + 1) (.loop { r with state := .exhausted, pending := pend.code })).heap[w.heap.size]? = some (.deferred (some [])) := putObj_deferred (g4.ded _ _ (hded fn)) e3 (fun x e => by cases e)
        have hxx : Ext φ φ3 := (Phi.ext_put hn).trans g1
        have hbel : Below B w (w3.putObj (w.heap.size + 1) (.loop { r with state := .exhausted, pending := pend.code })) := ((hbB fn).trans g4).trans hfin.2
        have hdef : DefOk S ({ target := .collected w.heap.size, args := #[] } :: D) (w3.putObj (w.heap.size + 1) (.loop { r with state := .exhausted, pending := pend.code })) := by
          refine ⟨⟨w.heap.size, rfl, hS, hdd, ?_⟩, hd.below hbel⟩
          have key : ∀ {D : List Deferred}, DefOk S D w → ∀ d' ∈ D, d'.target ≠ .collected w.heap.size := by
            intro D
            induction D with
            | nil => intro _ d' hd'; simp at hd'
            | cons d ds ih =>
              rintro ⟨⟨r0, q1, _, q3, _⟩, q5⟩ d' hd'
              rcases List.mem_cons.1 hd' with rfl | hd'
              · intro e
                rw [q1] at e; simp at e; subst e
                have := (Array.getElem?_eq_some_iff.1 q3).1; omega
              · exact ih q5 d' hd'
          exact key hd
        have hloc : LocOk L N ({ target := .collected w.heap.size, args := #[] } :: D) φ3 loc { a with defers := [{ target := .collected w.heap.size, args := #[] }] ++ a.defers } := by
          refine ⟨hl.size, by rw [hl.defers]; rfl, fun t v ht => ?_⟩
          obtain ⟨q1, q2⟩ := hl.val t v ht
          exact ⟨q1, q2.mono hxx⟩
        have aft : ∀ {o : Out}, K o loc h3 = true → After false L N S D B φ w K (outOf o) { a with defers := [{ target := .collected w.heap.size, args := #[] }] ++ a.defers } (w3.putObj (w.heap.size + 1) (.loop { r with state := .exhausted, pending := pend.code })) := fun {o} ho =>
          ⟨φ3, o, loc, h3, _, rfl, fun h => absurd h (by simp), hxx, hloc, hdef, hfin.1, hbel, ho⟩
        rw [hpe, e9]
        cases pend with
        | none => exact aft (o := .norm) hk5
        | ret => exact wpIn_ret (aft (o := .ret) hk5)
        | exit id => exact wpIn_exit (aft (o := .exit id) hk5)
  · exact absurd hval (bodied_run hb2)
end Go.Ev
end
section
namespace Go.Ev
def memN (t : Nat) : List Nat → Bool
  | [] => false
  | a :: l => bif Nat.beq a t then true else memN t l
def addN (t : Nat) (l : List Nat) : List Nat := bif memN t l then l else t :: l
def tmpN : Operand → List Nat → List Nat
  | .tmp t, l => addN t l
  | _, l => l
def usesO (defs : List Nat) : List Operand → List Nat → List Nat
  | [], acc => acc
  | .tmp t :: xs, acc => usesO defs xs (bif memN t defs then acc else addN t acc)
  | _ :: xs, acc => usesO defs xs acc
def usesR : List Oper → List Nat → List Nat → List Nat
  | [], _, acc => acc
  | o :: os, defs, acc => usesR os (match o.dst with | some d => d :: defs | none => defs) (usesO defs o.op.operands.toList acc)
def dstsOf : List Oper → List Nat
  | [] => []
  | o :: os => (match o.dst with | some d => d :: dstsOf os | none => dstsOf os)
def crossC : Code → List Nat → List Nat
  | .region _ ops _, acc => usesR ops.toList [] acc
  | .seq a b, acc => (match a, b with
    | .region _ ops false, .cond (.tmp c) x y => crossC x (crossC y (usesR ops.toList [] (bif memN c (dstsOf ops.toList) then acc else addN c acc)))
    | a, b => crossC a (crossC b acc))
  | .cond c a b, acc => crossC a (crossC b (tmpN c acc))
  | .block _ b, acc => crossC b acc
  | .loop b, acc => crossC b acc
  | .scope b, acc => crossC b acc
  | .rangeFunc f _ a b, acc => crossC a (crossC b (tmpN f acc))
  | _, acc => acc
inductive CI where
  | skip
  | ret
  | exit (id : Nat)
  | reg (r : Reg)
  | drawn (N : Nat) (ld : List Nat) (d : DrP)
  | rcond (r : Reg) (s : Src1) (x y : CI)
  | seq (x y : CI)
  | cond (s : Src1) (x y : CI)
  | block (id : Nat) (x : CI)
  | loop (x : CI)
  | fail
  | range (bd : FuncId → Bool) (Lp : Nat → Bool) (N : Nat) (s : Src1) (ps : List Nat) (asg body : Code)
noncomputable def cCondS (s : Src1) (x y : Ev) : Ev := fun C n loc h K => srcV s [] loc fun v => ifA v (x C n loc h K) (y C n loc h K)
noncomputable def cRCondS (r : Reg) (s : Src1) (x y : Ev) : Ev := fun C n loc h K => rlK C (toRL r.l) [] loc h fun env loc h => srcV s env loc fun v => ifA v (x C n loc h K) (y C n loc h K)
noncomputable def runCI (c : CI) : Ev :=
  CI.rec (motive := fun _ => Ev) cSkip cRet (fun id => cExit id) (fun r => cReg r) (fun N ld d => cDrawn N ld d) (fun r s _ _ x y => cRCondS r s x y) (fun _ _ x y => cSeq x y) (fun s _ _ x y => cCondS s x y) (fun id _ x => cBlock id x) (fun _ x => cLoop x) cFail (fun bd Lp N s ps asg body => cRange bd Lp N s ps asg body) c
noncomputable def drawnCI (P : Program) (L : Nat → Bool) (N : Nat) (ops : Array Oper) : CI := match planOf P N ops with | some d => .drawn N (ldOf L d.cl) d | none => .fail
theorem drawnCI_ok {P : Program} {rb : Bool} (hmix : P.follows .mixedOrders = true) {L : Nat → Bool} {N id : Nat} {ops : Array Oper} : EvOk P rb L N (.region id ops true) (runCI (drawnCI P L N ops)) := by
  unfold drawnCI
  split
  · exact cDrawn_ok hmix (by assumption)
  · exact cFail_ok
noncomputable def toCI (P : Program) (rb : Bool) (L : Nat → Bool) (N : Nat) : Code → CI
  | .skip => .skip
  | .label _ => .skip
  | .ret => .ret
  | .exit id => .exit id
  | .region _ ops draw => bif draw then drawnCI P L N ops else .reg (compR P L N (ops.toList.map (·.dst)) ops.toList 0 [])
  | .seq a b => (match a, b with
    | .region _ ops false, .cond c x y => (match opS (compR P L N (ops.toList.map (·.dst)) ops.toList 0 []).n (compR P L N (ops.toList.map (·.dst)) ops.toList 0 []).Γ c with
      | some s => .rcond (compR P L N (ops.toList.map (·.dst)) ops.toList 0 []) (absS (compR P L N (ops.toList.map (·.dst)) ops.toList 0 []).n s) (toCI P rb L N x) (toCI P rb L N y)
      | none => .fail)
    | a, b => .seq (toCI P rb L N a) (toCI P rb L N b))
  | .cond c a b => (match opS 0 [] c with
      | some s => .cond (absS 0 s) (toCI P rb L N a) (toCI P rb L N b)
      | none => .fail)
  | .block id b => .block id (toCI P rb L N b)
  | .loop b => .loop (toCI P rb L N b)
  | .scope b => toCI P rb L N b
  | .rangeFunc f ps asg body => bif rb then .fail else (match opS 0 [] f with | some s => .range (bodied P) L N (absS 0 s) ps.toList asg body | none => .fail)
  | _ => .fail
noncomputable def compC (P : Program) (rb : Bool) (L : Nat → Bool) (N : Nat) (c : Code) : Ev := runCI (toCI P rb L N c)
theorem ifA_eq (v : V) (t e : Bool) : ifA v t e = ifK v t e := by
  cases v <;> first | rfl | (rename_i b; cases b <;> rfl)
theorem cCondS_eq {c : Operand} {s : Src1} (hs : opS 0 [] c = some s) (x y : Ev) : cCondS (absS 0 s) x y = cCond c x y := by
  funext C n loc h K
  unfold cCondS cCond condC
  rw [hs]
  simp only [ifA_eq]
theorem cRCondS_eq {r : Reg} {c : Operand} {s : Src1} (hs : opS r.n r.Γ c = some s) (x y : Ev) : cRCondS r (absS r.n s) x y = cRCond r c x y := by
  funext C n loc h K
  unfold cRCondS cRCond condC
  rw [hs]
  simp only [ifA_eq]
theorem compC_ok (P : Program) (hmix : P.follows .mixedOrders = true) (rb : Bool) (L : Nat → Bool) (N : Nat) (c : Code) : EvOk P rb L N c (compC P rb L N c) := by
  unfold compC
  fun_induction toCI P rb L N c
  all_goals first
    | exact cSkip_ok
    | exact cLabel_ok
    | exact cRet_ok
    | exact cExit_ok
    | exact cFail_ok
    | (rename_i hs hx hy; show EvOk P rb L N _ (cRCondS _ _ _ _); rw [cRCondS_eq hs]; exact cRCond_ok hx hy)
    | (rename_i hs hx hy; show EvOk P rb L N _ (cCondS _ _ _); rw [cCondS_eq hs]; exact cCond_ok hx hy)
    | exact cReg_ok
    | exact cSeq_ok (by assumption) (by assumption)
    | exact cBlock_ok (by assumption)
    | exact cLoop_ok (by assumption)
    | exact cScope_ok (by assumption)
    | exact drawnCI_ok hmix
    | (subst_vars; exact cRange_ok (by assumption))
end Go.Ev
end
section
namespace Go.Ev
noncomputable def argsK (np : Nat) (vs : List V) : Nat → T V → (T V → Bool) → Bool :=
  List.rec (motive := fun _ => Nat → T V → (T V → Bool) → Bool) (fun _ t K => K t) (fun v _ ih i t K => bif Nat.blt i np then t.setK i v fun t => natK (Nat.succ i) fun i => ih i t K else false) vs
theorem argsK_true {np : Nat} : ∀ {vs : List V} {i : Nat} {t : T V} {K : T V → Bool}, argsK np vs i t K = true → ∃ s, (∀ j, s.get j = if i ≤ j ∧ j < i + vs.length then vs[j - i]? else t.get j) ∧ (vs = [] ∨ i + vs.length ≤ np) ∧ K s = true
  | [], i, t, K, h => ⟨t, fun j => by rw [if_neg (by simp)], .inl rfl, h⟩
  | v :: vs, i, t, K, h => by
    have h' : (bif Nat.blt i np then t.setK i v fun t => natK (Nat.succ i) fun i => argsK np vs i t K else false) = true := h
    obtain ⟨h1, h2⟩ := bif_true h'
    have h1 := blt_iff.1 h1
    obtain ⟨s, hs, h3⟩ := T.setK_true _ _ _ _ h2
    rw [natK_eq] at h3
    obtain ⟨u, hu, hle, h4⟩ := argsK_true h3
    refine ⟨u, fun j => ?_, .inr ?_, h4⟩
    · rw [hu, hs]
      simp only [List.length_cons, Nat.succ_eq_add_one]
      by_cases e1 : i + 1 ≤ j ∧ j < i + 1 + vs.length
      · rw [if_pos e1, if_pos (by omega), show j - i = (j - (i + 1)) + 1 by omega, List.getElem?_cons_succ]
      · rw [if_neg e1]
        by_cases e2 : j = i
        · subst e2; rw [if_pos rfl, if_pos (by omega)]; simp
        · rw [if_neg e2, if_neg (by omega)]
    · rcases hle with rfl | hle
      · simp; omega
      · simp only [List.length_cons]; omega
inductive ResS where
  | tmp (t : Nat)
  | cell1 (t : Nat)
  | cellN (t : Nat) (n : Nat)
  | bad
def resS (P : Program) : ResultVar → ResS
  | .tmp t => .tmp t
  | .cell a t => (match P.underlying t, P.info? t with
    | some d, some i => bif aggD d then .cellN a i.size else .cell1 a
    | _, _ => .bad)
noncomputable def resK (r : ResS) (loc : T V) (h : H) (K : V → Bool) : Bool :=
  match r with
  | .tmp t => loc.getK t K
  | .cell1 a => loc.getK a fun v => (match v with | .ptr b off => blkK h b fun k => bif Nat.blt off k.n then datK k.n k.d off K else false | _ => false)
  | .cellN a n => loc.getK a fun v => (match v with | .ptr b off => blkK h b fun k => bif Nat.ble (off + n) k.n then (rowK k.n k.d n off fun l => K (.agg l)) else false | _ => false)
  | .bad => false
noncomputable def resKs (l : List ResS) (loc : T V) (h : H) : (List V → Bool) → Bool :=
  List.rec (motive := fun _ => (List V → Bool) → Bool) (fun K => K []) (fun r _ ih K => resK r loc h fun v => ih fun l => K (v :: l)) l
noncomputable def retK (l : List V) (K : V → Bool) : Bool := match l with | [v] => K v | l => K (.tup l)
theorem resK_sound {P : Program} {L : Nat → Bool} {N : Nat} {B : Bd} {D : List Deferred} {φ : Phi} {loc : T V} {a : Act} {h : H} {w : World} {r : ResultVar} {K : V → Bool} (hl : LocOk L N D φ loc a) (hr : HR B φ h w) (hk : resK (resS P r) loc h K = true) :
    ∃ v x, ((match r with | .tmp t => pure (a.tmps.getD t undef) | .cell ad t => do loadVar t (← asAddr (a.tmps.getD ad undef)) : Sem Value)).run P w = .ok x w ∧ VR φ v x ∧ K v = true := by
  cases r with
  | tmp t =>
    obtain ⟨v, h1, h2⟩ := T.getK_true (show loc.getK t K = true from hk)
    exact ⟨v, _, rfl, (hl.val t v h1).2, h2⟩
  | cell ad t =>
    simp only [resS] at hk
    split at hk
    · rename_i d i hd hi
      cases ha : aggD d with
      | true =>
        rw [ha] at hk
        obtain ⟨v, h1, h2⟩ := T.getK_true (show (loc.getK ad fun v => (match v with | .ptr b off => blkK h b fun k => bif Nat.ble (off + i.size) k.n then (rowK k.n k.d i.size off fun l => K (.agg l)) else false | _ => false)) = true from hk)
        split at h2
        · rename_i b off
          have hv := (hl.val ad _ h1).2
          obtain ⟨Lo, hL, hx⟩ := hv.ptr_inv
          obtain ⟨k, hb, hlv, h2⟩ := blkK_true h2
          obtain ⟨h3, h4⟩ := bif_true h2
          obtain ⟨l, xs, g3, g4, g5, g6⟩ := rowK_sound (hr.hold b Lo k hL hb hlv) (ble_of h3) h4
          have hlen : xs.length = i.size := by rw [← g4.length, g3]
          have hrun := run_loadCells_list (P := P) w (⟨Lo.blk, Lo.base + off, none⟩ : Addr) xs (fun j v hj => by
            rw [addr_add', Nat.add_assoc]; exact g5 j v hj)
          rw [hlen] at hrun
          refine ⟨_, .agg xs.toArray, ?_, .agg (by simpa using g4), g6⟩
          simp only [hx, asAddr, loadVar, Sem.run_bind, Sem.run_pure, Result.andThen_ok, run_isAgg hd, ha, if_true, run_sizeOf hi, hrun]
        · exact absurd h2 (by simp)
      | false =>
        rw [ha] at hk
        obtain ⟨v, h1, h2⟩ := T.getK_true (show (loc.getK ad fun v => (match v with | .ptr b off => blkK h b fun k => bif Nat.blt off k.n then datK k.n k.d off K else false | _ => false)) = true from hk)
        split at h2
        · rename_i b off
          have hv := (hl.val ad _ h1).2
          obtain ⟨Lo, hL, hx⟩ := hv.ptr_inv
          obtain ⟨k, hb, hlv, h2⟩ := blkK_true h2
          obtain ⟨h3, h4⟩ := bif_true h2
          obtain ⟨u, y, g3, g4, g5⟩ := datK_sound (hr.hold b Lo k hL hb hlv) (blt_iff.1 h3) h4
          refine ⟨u, y, ?_, g4, g5⟩
          simp only [hx, asAddr, loadVar, Sem.run_bind, Sem.run_pure, Result.andThen_ok, run_isAgg hd, ha, Bool.false_eq_true, if_false, run_load' g3]
        · exact absurd h2 (by simp)
    · exact absurd hk (by simp [resK])
theorem resKs_sound {P : Program} {L : Nat → Bool} {N : Nat} {B : Bd} {D : List Deferred} {φ : Phi} {loc : T V} {a : Act} {h : H} {w : World} (hl : LocOk L N D φ loc a) (hr : HR B φ h w) : ∀ {rs : List ResultVar} {K : List V → Bool}, resKs (rs.map (resS P)) loc h K = true →
    ∃ vs xs, (rs.mapM (m := Sem) fun | .tmp t => pure (a.tmps.getD t undef) | .cell ad t => do loadVar t (← asAddr (a.tmps.getD ad undef))).run P w = .ok xs w ∧ VRs φ vs xs ∧ K vs = true
  | [], K, hk => ⟨[], [], rfl, .nil, hk⟩
  | r :: rs, K, hk => by
    have hk' : (resK (resS P r) loc h fun v => resKs (rs.map (resS P)) loc h fun l => K (v :: l)) = true := hk
    obtain ⟨v, x, h1, h2, h3⟩ := resK_sound (P := P) hl hr hk'
    obtain ⟨vs, xs, h4, h5, h6⟩ := resKs_sound hl hr h3
    refine ⟨v :: vs, x :: xs, ?_, .cons h2 h5, h6⟩
    rw [List.mapM_cons]
    simp only [Sem.run_bind, h1, Result.andThen_ok, h4, Sem.run_pure]
structure FnE where
  np : Nat
  ev : Ev
  res : List ResS
noncomputable def fnL (fn : Func) (c : Code) : Nat → Bool :=
  fun t => Nat.blt t (fn.params.size + fn.nfree) || memN t (crossC c (fn.results.toList.map fun | .tmp t => t | .cell a _ => a))
noncomputable def fnE (P : Program) (rb : Bool) (f : FuncId) : Option FnE :=
  match P.funcs[f]? with
  | some fn => (match fn.body with
    | some c => bif fn.name == "runtime.NumGoroutine" then none else some ⟨fn.params.size + fn.nfree, compC P rb (fnL fn c) fn.ntmps c, fn.results.toList.map (resS P)⟩
    | none => none)
  | none => none
noncomputable def endK (rs : List ResS) (K : V → H → Bool) (o : Out) (loc : T V) (h : H) : Bool := Out.rec (motive := fun _ => Bool) (resKs rs loc h fun l => retK l fun v => K v h) (fun _ => false) (resKs rs loc h fun l => retK l fun v => K v h) o
noncomputable def bodyK (P : Program) (rb : Bool) (C : CallH) (fuel : Nat) (f : FuncId) (vs : List V) (h : H) (K : V → H → Bool) : Bool :=
  Option.rec (motive := fun _ => Bool) false (fun e => argsK e.np vs 0 .nil fun loc => e.ev C fuel loc h (endK e.res K)) (fnE P rb f)
theorem endK_ret {rs : List ResS} {K : V → H → Bool} {o : Out} {loc : T V} {h : H} (hk : endK rs K o loc h = true) : (o = .norm ∨ o = .ret) ∧ (resKs rs loc h fun l => retK l fun v => K v h) = true := by
  cases o with
  | norm => exact ⟨.inl rfl, hk⟩
  | ret => exact ⟨.inr rfl, hk⟩
  | exit id => exact absurd (show false = true from hk) (by simp)
theorem res_run {P : Program} {fn : Func} {L : Nat → Bool} {N : Nat} {B : Bd} {D : List Deferred} {φ : Phi} {loc : T V} {a : Act} {h : H} {w : World} {K : V → H → Bool} (hl : LocOk L N D φ loc a) (hr : HR B φ h w) (hk : (resKs (fn.results.toList.map (resS P)) loc h fun l => retK l fun v => K v h) = true) :
    ∃ v x, (results fn a.tmps).run P w = .ok x w ∧ VR φ v x ∧ K v h = true := by
  obtain ⟨us, xs, k1, k2, k3⟩ := resKs_sound (P := P) hl hr hk
  have hres' : (results fn a.tmps).run P w = .ok (if h : xs.toArray.size = 1 then xs.toArray[0] else .tuple xs.toArray) w := by
    unfold results
    rw [Array.mapM_eq_mapM_toList]
    simp only [Sem.run_bind, Sem.run_map, Sem.run_pure]
    erw [k1]
    rfl
  have hl1 := k2.length
  unfold retK at k3
  split at k3
  · rename_i v
    cases k2 with | @cons _ x _ _ hx ht =>
    cases ht
    exact ⟨v, x, hres', hx, k3⟩
  · rename_i hne
    have hs : ¬ xs.toArray.size = 1 := by
      intro e
      have : xs.length = 1 := by simpa using e
      cases us with
      | nil => simp at hl1; omega
      | cons u us =>
        cases us with
        | nil => exact hne u rfl
        | cons => simp at hl1; omega
    rw [dif_neg hs] at hres'
    exact ⟨_, _, hres', .tup (by simpa using k2), k3⟩
theorem bodyK_true {P : Program} (hmix : P.follows .mixedOrders = true) {rb : Bool} {C : CallH} (hC : CallOk P C) {fuel : Nat} {f : FuncId} {vs : List V} {h : H} {K : V → H → Bool} (hk : bodyK P rb C fuel f vs h K = true) :
    ∃ fn c, P.funcs[f]? = some fn ∧ fn.body = some c ∧ (fn.name == "runtime.NumGoroutine") = false ∧ ∀ ro B φ w (args : Array Value), (rb = false → ro = none) → HR B φ h w → VRs φ vs args.toList →
      c.wpIn (Fr ro) 0 P (After rb (fnL fn c) fn.ntmps w.heap.size [] B φ w (endK (fn.results.toList.map (resS P)) K)) { tmps := args ++ Array.replicate (fn.ntmps - args.size) undef, defers := [] } w := by
  unfold bodyK at hk
  unfold fnE at hk
  cases hfn : P.funcs[f]? with
  | none => rw [hfn] at hk; exact absurd hk (by simp)
  | some fn =>
    rw [hfn] at hk
    simp only [] at hk
    cases hb : fn.body with
    | none => rw [hb] at hk; exact absurd hk (by simp)
    | some c =>
      rw [hb] at hk
      simp only [] at hk
      cases hnm : (fn.name == "runtime.NumGoroutine") with
      | true => rw [hnm] at hk; exact absurd hk (by simp)
      | false =>
        rw [hnm] at hk
        simp only [cond_false] at hk
        refine ⟨fn, c, rfl, hb, hnm, fun ro B φ w args hro hr hv => ?_⟩
        obtain ⟨loc, hloc, hle, h1⟩ := argsK_true hk
        have hlen := hv.length
        have hlo : LocOk (fnL fn c) fn.ntmps [] φ loc { tmps := args ++ Array.replicate (fn.ntmps - args.size) undef, defers := [] } := by
          refine ⟨by simp; omega, rfl, fun t v hv' => ?_⟩
          rw [hloc] at hv'
          by_cases e : 0 ≤ t ∧ t < 0 + vs.length
          · rw [if_pos e] at hv'
            obtain ⟨x, hx, hxr⟩ := hv.get hv'
            refine ⟨?_, ?_⟩
            · unfold fnL
              have : t < fn.params.size + fn.nfree := by
                rcases hle with h0 | h0
                · rw [h0] at e; simp at e
                · omega
              rw [blt_iff.2 this]; rfl
            · have hlt : t < args.size := by have := e.2; simp at hlen; omega
              simp only [Array.getD_eq_getD_getElem?]
              rw [Array.getElem?_append_left hlt]
              rw [Array.getElem?_toList] at hx
              simp at hx
              rw [hx]; exact hxr
          · rw [if_neg e, T.get_nil] at hv'; exact absurd hv' (by simp)
        exact compC_ok P hmix rb (fnL fn c) fn.ntmps c C hC fuel loc h _ h1 ro B φ w.heap.size [] _ w hro hlo trivial (Nat.le_refl _) hr
theorem HR0.putDef {B : Nat} {φ : Phi} {h : H} {w : World} {r : Nat} {x y : Option (List Deferred)} (hr : HR0 B φ h w) (hx : w.heap[r]? = some (.deferred x))   : HR0 B φ h (w.putObj r (.deferred y)) := by
  have hne : ∀ {k : Nat} {o : Obj}, w.heap[k]? = some o → (∀ z : Option (List Deferred), o ≠ .deferred z) → (w.putObj r (.deferred y)).heap[k]? = some o := by
    intro k o hk hz
    have : k ≠ r := fun e => by subst e; rw [hx] at hk; simp only [Option.some.injEq] at hk; exact hz x hk.symm
    rw [World.putObj_heap_other this]; exact hk
  refine ⟨by simpa [World.putObj] using hr.size, fun b L hL => by simpa [World.putObj] using hr.dom b L hL, fun b L k hL hk hl => ?_, hr.sep, hr.aln, hr.reach, hr.last, hr.lone, hr.grp, hr.fresh, hr.grn, fun b L k e hL hk he => ?_⟩
  · have hh := hr.hold b L k hL hk hl
    refine hh.heap ?_
    cases hd : k.d with
    | cells t => rw [hd] at hh; obtain ⟨c, e, fr, q, _⟩ := hh; rw [q]; exact hne q (fun z e => by cases e)
    | bytes t => rw [hd] at hh; obtain ⟨c, e, fr, q, _⟩ := hh; rw [q]; exact hne q (fun z e => by cases e)
    | map t c => rw [hd] at hh; obtain ⟨xs, q, _⟩ := hh; rw [q]; exact hne q (fun z e => by cases e)
    | mit b s se l => rw [hd] at hh; obtain ⟨L', _, q, _⟩ := hh; rw [q]; exact hne q (fun z e => by cases e)
    | lrec Lp loc ps asg body st pend => rw [hd] at hh; obtain ⟨r, q, _⟩ := hh; rw [q]; exact hne q (fun z e => by cases e)
  · obtain ⟨c, fr, q, q2⟩ := hr.elt b L k e hL hk he
    exact ⟨c, fr, hne q (fun z e => by cases e), q2⟩
theorem HR.putDef {B : Bd} {φ : Phi} {h : H} {w : World} {r : Nat} {x y : Option (List Deferred)} (hr : HR B φ h w) (hx : w.heap[r]? = some (.deferred x)) : HR B φ h (w.putObj r (.deferred y)) := ⟨hr.toHR0.putDef hx, hr.res⟩
theorem leaves_marks {P : Program} {fn : Func} {tmps : Array Value} {R : Ending → World → Prop} {S : Nat} : ∀ {D : List Deferred} {w : World}, DefOk S D w →
    (∀ w', w'.heap.size = w.heap.size → (∀ k, k < S → w'.heap[k]? = w.heap[k]?) → w'.os = w.os → w'.tape = w.tape → w'.output = w.output → (∀ B φ h, HR B φ h w → HR B φ h w') → ∃ v, (results fn tmps).run P w' = .ok v w' ∧ R (.returned v) w') →
    LeavesInM (Fr none) 0 P fn tmps R D .returning w
  | [], w, _, hR => by
    obtain ⟨v, h1, h2⟩ := hR w rfl (fun _ _ => rfl) rfl rfl rfl (fun _ _ _ h => h)
    exact ⟨v, h1, h2⟩
  | d :: D, w, ⟨⟨r, h1, h2, h3, h4⟩, hD⟩, hR => by
    refine ⟨by simp, .inl ⟨r, _, h1, run_takeDeferred h3, ?_⟩⟩
    have hD' : DefOk S D (w.putObj r (.deferred none)) := by
      have key : ∀ {D : List Deferred}, DefOk S D w → (∀ d' ∈ D, d'.target ≠ .collected r) → DefOk S D (w.putObj r (.deferred none)) := by
        intro D
        induction D with
        | nil => intro _ _; trivial
        | cons d ds ih =>
          rintro ⟨⟨r0, q1, q2, q3, q4⟩, q5⟩ hno
          refine ⟨⟨r0, q1, q2, ?_, q4⟩, ih q5 fun d' hd' => hno d' (List.mem_cons_of_mem _ hd')⟩
          have : r0 ≠ r := fun e => hno d List.mem_cons_self (by rw [q1, e])
          rw [World.putObj_heap_other this]; exact q3
      exact key hD h4
    refine leaves_marks hD' fun w' e1 e2 e3 e4 e5 e6 => hR w' (by rw [e1]; simp [World.putObj]) (fun k hk => ?_) e3 e4 e5 fun B φ h hh => e6 B φ h (hh.putDef h3)
    rw [e2 k hk, World.putObj_heap_other (by omega)]
theorem bodyK_calls {P : Program} (hmix : P.follows .mixedOrders = true) {C : CallH} (hC : CallOk P C) {fuel : Nat} {f : FuncId} {vs : List V} {h : H} {K : V → H → Bool} (hk : bodyK P false C fuel f vs h K = true)
    {B : Bd} {φ : Phi} {w : World} {args : Array Value} (hr : HR B φ h w) (hv : VRs φ vs args.toList) : (callFunc f args).run P w = .ok (.enter f args) w ∧ Calls P f args w (Post B φ w K) := by
  obtain ⟨fn, c, hfn, hb, hnm, hwp⟩ := bodyK_true hmix hC hk
  constructor
  · unfold callFunc
    simp only [Sem.run_bind, run_program, Result.andThen_ok, hfn, hnm, Bool.false_eq_true, if_false, hb, Option.isNone_some, Sem.run_pure]
  · refine (callsIn_wide (n := 0)).1 (callsIn_of_wp_marks hfn hb trivial ?_)
    refine wpIn_mono (hwp none B φ w args (fun _ => rfl) hr hv) ?_
    rintro e a' w' ⟨φ', o, loc', h', D', rfl, _, g1, g2, g3, g4, g5, g6⟩
    obtain ⟨ho, hres⟩ := endK_ret g6
    have fin : LeavesInM (Fr none) 0 P fn a'.tmps (Post B φ w K) a'.defers .returning w' := by
      rw [g2.defers]
      refine leaves_marks g3 fun w2 e1 e2 e3 e4 e5 e6 => ?_
      have hr2 := e6 B φ' h' g4
      obtain ⟨v, x, k1, k2, k3⟩ := res_run (P := P) (fn := fn) g2 hr2 hres
      refine ⟨x, k1, v, h', φ', x, rfl, g1, k2, hr2, ⟨⟨e3.trans g5.os, e4.trans g5.tape, e5.trans g5.output, by rw [e1]; exact g5.size, fun k hk => ?_⟩, fun r ds hr' => ?_⟩, k3⟩
      · rw [e2 k (Nat.lt_of_lt_of_le hk hr.size)]; exact g5.block k hk
      · have := (Array.getElem?_eq_some_iff.1 hr').1
        rw [e2 r this]; exact g5.ded r ds hr'
    rcases ho with rfl | rfl
    · exact fin
    · exact fin
noncomputable def setPs (Lp : Nat → Bool) (N : Nat) (ps : List Nat) : List V → T V → (T V → Bool) → Bool :=
  List.rec (motive := fun _ => List V → T V → (T V → Bool) → Bool) (fun vs loc K => List.rec (motive := fun _ => Bool) (K loc) (fun _ _ _ => false) vs)
    (fun p _ ih vs loc K => List.rec (motive := fun _ => Bool) false (fun v vs _ => bif Nat.blt p N then Bool.rec (motive := fun _ => Bool) (ih vs loc K) (loc.setK p v fun loc => ih vs loc K) (Lp p) else false) vs) ps
theorem setPs_true {Lp : Nat → Bool} {N : Nat} {φ : Phi} : ∀ {ps : List Nat} {vs : List V} {xs : List Value} {loc : T V} {tmps : Array Value} {K : T V → Bool}, setPs Lp N ps vs loc K = true → VRs φ vs xs → N ≤ tmps.size →
    (∀ t v, loc.get t = some v → Lp t = true ∧ VR φ v (tmps.getD t undef)) →
    xs.length = ps.length ∧ ∃ loc', K loc' = true ∧ N ≤ ((ps.zip xs).foldl (fun (tmps : Array Value) (p : Nat × Value) => tmps.setIfInBounds p.1 p.2) tmps).size ∧
      ∀ t v, loc'.get t = some v → Lp t = true ∧ VR φ v (((ps.zip xs).foldl (fun (tmps : Array Value) (p : Nat × Value) => tmps.setIfInBounds p.1 p.2) tmps).getD t undef)
  | [], vs, xs, loc, tmps, K, hk, hv, hN, hl => by
    cases hv with
    | nil => exact ⟨rfl, loc, hk, hN, hl⟩
    | cons _ _ => exact absurd (show false = true from hk) (by simp)
  | p :: ps, vs, xs, loc, tmps, K, hk, hv, hN, hl => by
    cases hv with
    | nil => exact absurd (show false = true from hk) (by simp)
    | @cons v x vs xs hx hxs =>
      have hk' : (bif Nat.blt p N then Bool.rec (motive := fun _ => Bool) (setPs Lp N ps vs loc K) (loc.setK p v fun loc => setPs Lp N ps vs loc K) (Lp p) else false) = true := hk
      obtain ⟨hp, hk2⟩ := bif_true hk'
      have hp := blt_iff.1 hp
      have fin : ∀ loc1 : T V, setPs Lp N ps vs loc1 K = true → (∀ t u, loc1.get t = some u → Lp t = true ∧ VR φ u ((tmps.setIfInBounds p x).getD t undef)) → (x :: xs).length = (p :: ps).length ∧ ∃ loc', K loc' = true ∧ N ≤ (((p :: ps).zip (x :: xs)).foldl (fun (tmps : Array Value) (p : Nat × Value) => tmps.setIfInBounds p.1 p.2) tmps).size ∧
          ∀ t v, loc'.get t = some v → Lp t = true ∧ VR φ v ((((p :: ps).zip (x :: xs)).foldl (fun (tmps : Array Value) (p : Nat × Value) => tmps.setIfInBounds p.1 p.2) tmps).getD t undef) := by
        intro loc1 h1 h2
        obtain ⟨g1, loc', g2, g3, g4⟩ := setPs_true (tmps := tmps.setIfInBounds p x) h1 hxs (by simpa using hN) h2
        exact ⟨by simp [g1], loc', g2, by simpa using g3, by simpa using g4⟩
      cases hL : Lp p with
      | true =>
        rw [hL] at hk2
        obtain ⟨loc1, h1, h2⟩ := T.setK_true _ _ _ _ hk2
        refine fin loc1 h2 fun t u ht => ?_
        rw [h1] at ht
        by_cases e : t = p
        · subst e; rw [if_pos rfl] at ht; simp only [Option.some.injEq] at ht; subst ht
          refine ⟨hL, ?_⟩
          rw [Array.getD_eq_getD_getElem?, Array.getElem?_setIfInBounds_self_of_lt (by omega)]; exact hx
        · rw [if_neg e] at ht
          obtain ⟨q1, q2⟩ := hl t u ht
          refine ⟨q1, ?_⟩
          rw [Array.getD_eq_getD_getElem?, Array.getElem?_setIfInBounds_ne (fun h => e h.symm), ← Array.getD_eq_getD_getElem?]; exact q2
      | false =>
        rw [hL] at hk2
        refine fin loc hk2 fun t u ht => ?_
        obtain ⟨q1, q2⟩ := hl t u ht
        have e : t ≠ p := fun e => by subst e; rw [hL] at q1; simp at q1
        refine ⟨q1, ?_⟩
        rw [Array.getD_eq_getD_getElem?, Array.getElem?_setIfInBounds_ne (fun h => e h.symm), ← Array.getD_eq_getD_getElem?]; exact q2
noncomputable def endRnd (h : H) (b : Nat) (o : Out) (K : V → H → Bool) : Bool := lrecK h b fun k Lp loc ps asg body st pend =>
  Out.rec (motive := fun _ => Bool) (wrK h b k (.lrec Lp loc ps asg body 0 .none) fun h => K (.bool true) h) (fun id => wrK h b k (.lrec Lp loc ps asg body 2 (.exit id)) fun h => K (.bool false) h) (wrK h b k (.lrec Lp loc ps asg body 2 .ret) fun h => K (.bool false) h) o
noncomputable def rndK (P : Program) (C : CallH) (fuel : Nat) (vs : List V) (h : H) (K : V → H → Bool) : Bool := match vs with
  | .yld b :: args => lrecK h b fun k Lp locS ps asg body st pend => bif Nat.beq st 0 then setPs Lp k.n ps args locS fun loc =>
      compC P true Lp k.n asg C fuel loc h fun o loc h2 => Out.rec (motive := fun _ => Bool)
        (lrecK h2 b fun k2 Lp2 loc2 ps2 asg2 body2 st2 pend2 => bif Nat.beq st2 0 then wrK h2 b k2 (.lrec Lp2 loc2 ps2 asg2 body2 1 pend2) fun h3 =>
          compC P true Lp k.n body C fuel loc h3 fun o loc h4 => endRnd h4 b o K else false) (fun _ => false) false o
      else false
  | _ => false
theorem endRnd_ok {P : Program} {B : Bd} {φ : Phi} {h : H} {w : World} {b : Nat} {L : Loc} {o : Out} {K : V → H → Bool} (hr : HR B φ h w) (hL : φ b = some L) (hk : endRnd h b o K = true) {R : Ending → World → Prop}
    (hR : ∀ v x h' w', VR φ v x → HR B φ h' w' → Below B w w' → K v h' = true → R (.returned x) w') (a : Act) : roundPost P L.blk R (outOf o) a w := by
  unfold endRnd at hk
  obtain ⟨k, Lp, loc, ps, asg, body, st, pend, r, e1, e2, e3, e4, e5, e6, e7, e8, e9, e10, e11⟩ := lrecK_true hr hL hk
  cases o with
  | norm =>
    obtain ⟨h', hw, hk'⟩ := wrK_true e1 e11
    have hf := HR.lrec (s := .ready) (pend := .none) hr hL e2 e3 e4 e5 e6 e7 e10 hw
    exact ⟨_, _, run_endRound none e3, hR _ _ h' _ (.bool true) hf.1 hf.2 hk'⟩
  | ret =>
    obtain ⟨h', hw, hk'⟩ := wrK_true e1 e11
    have hf := HR.lrec (s := .done) (pend := .ret) hr hL e2 e3 e4 e5 e6 e7 e10 hw
    exact ⟨_, _, run_endRound (some .ret) e3, hR _ _ h' _ (.bool false) hf.1 hf.2 hk'⟩
  | exit id =>
    obtain ⟨h', hw, hk'⟩ := wrK_true e1 e11
    have hf := HR.lrec (s := .done) (pend := .exit id) hr hL e2 e3 e4 e5 e6 e7 e10 hw
    exact ⟨_, _, run_endRound (some (.exit id)) e3, hR _ _ h' _ (.bool false) hf.1 hf.2 hk'⟩
theorem stN_ready {s : LoopState} {n : Nat} (h : Nat.beq n 0 = true) (hs : stN s = n) : s = .ready := by
  have := Nat.eq_of_beq_eq_true h; subst this
  cases s <;> simp_all [stN]
theorem rndK_ok {P : Program} (hmix : P.follows .mixedOrders = true) {C : CallH} (hC : CallOk P C) {fuel : Nat} {b : Nat} {vs : List V} {h : H} {K : V → H → Bool} (hk : rndK P C fuel (.yld b :: vs) h K = true)
    {B : Bd} {φ : Phi} {w : World} {args : Array Value} {L : Loc} (hr : HR B φ h w) (hL : φ b = some L) (hv : VRs φ vs args.toList) :
    ∃ fn tmps asg body, (Instr.yield L.blk args).run P w = .ok (.round L.blk fn tmps asg body) w ∧ RoundIn Fence.wide 0 P L.blk fn tmps asg body w (Post B φ w K) := by
  unfold rndK at hk
  obtain ⟨k, Lp, loc, ps, asg, body, st, pend, r, e1, e2, e3, e4, e5, e6, e7, e8, e9, e10, e11⟩ := lrecK_true hr hL hk
  obtain ⟨e12, e13⟩ := bif_true e11
  obtain ⟨q1, loc', q2, q3, q4⟩ := setPs_true e13 hv e4 e10
  have hsz : args.size = r.params.size := by
    have h1 : args.toList.length = args.size := by simp
    have h2 : r.params.toList.length = r.params.size := by simp
    rw [← h1, q1, ← e5, h2]
  have hfold : (r.params.zip args).foldl (fun tmps (p : Tmp × Value) => tmps.setIfInBounds p.1 p.2) r.tmps = (ps.zip args.toList).foldl (fun (tmps : Array Value) (p : Nat × Value) => tmps.setIfInBounds p.1 p.2) r.tmps := by
    rw [← Array.foldl_toList, Array.toList_zip, e5]
  refine ⟨r.fn, _, r.assign, r.body, run_yield e3 hsz, roundIn_of_wpIn trivial ?_⟩
  have hl0 : LocOk Lp k.n [] φ loc' { tmps := (r.params.zip args).foldl (fun tmps (p : Tmp × Value) => tmps.setIfInBounds p.1 p.2) r.tmps, defers := [] } := by
    rw [hfold]; exact ⟨q3, rfl, q4⟩
  rw [e6, e7]
  have hw1 := compC_ok P hmix true Lp k.n asg C hC fuel loc' h _ q2 (some L.blk) B φ w.heap.size [] _ w (fun h => absurd h (by simp)) hl0 trivial (Nat.le_refl _) hr
  refine wpIn_mono (F := Fr (some L.blk)) hw1 ?_
  rintro e a1 w1 ⟨φ1, o, loc1, h2, D1, rfl, hD1, g1, g2, g3, g4, g5, g6⟩
  cases o with
  | exit id => exact absurd (show false = true from g6) (by simp)
  | ret => exact absurd (show false = true from g6) (by simp)
  | norm =>
    have hL1 := g1 _ _ hL
    obtain ⟨k2, Lp2, loc2, ps2, asg2, body2, st2, pend2, r2, f1, f2, f3, f4, f5, f6, f7, f8, f9, f10, f11⟩ := lrecK_true g4 hL1 g6
    obtain ⟨f12, f13⟩ := bif_true f11
    obtain ⟨h3, hw, f14⟩ := wrK_true f1 f13
    have hf := HR.lrec (s := .busy) (pend := pend2) g4 hL1 f2 f3 f4 f5 f6 f7 f10 hw
    refine ⟨_, run_beginRound f3 (stN_ready f12 f8), ?_⟩
    have hpe : w1.putObj L.blk (.loop { r2 with state := .busy }) = w1.putObj L.blk (.loop { r2 with state := .busy, pending := pend2.code }) := by rw [← f9]
    rw [hpe]
    have hd1 := hD1 rfl; subst hd1
    have hw2 := compC_ok P hmix true Lp k.n body C hC fuel loc1 h3 _ f14 (some L.blk) B φ1 w.heap.size [] a1 _ (fun h => absurd h (by simp)) g2 trivial (by have := g5.size; have := hf.2.size; omega) hf.1
    refine wpIn_mono (F := Fr (some L.blk)) hw2 ?_
    rintro e a2 w2 ⟨φ2, o, loc3, h4, D2, rfl, _, k1, k2', k3, k4, k5, k6⟩
    exact endRnd_ok k4 (k1 _ _ hL1) k6 (fun v x h' w' z1 z2 z3 z4 => ⟨v, h', φ2, x, rfl, g1.trans k1, z1, z2, ((g5.trans hf.2).trans k5).trans z3, z4⟩) a2
abbrev Ex := List V → H → (V → H → Bool) → Bool
abbrev Orc := FuncId → Option (CallH → Ex)
def FnOk (P : Program) (f : FuncId) (g : Ex) : Prop := ∀ vs h K, g vs h K = true → ∀ B φ w (args : Array Value), HR B φ h w → VRs φ vs args.toList →
    ((callFunc f args).run P w = .ok (.enter f args) w ∧ Calls P f args w (Post B φ w K)) ∨ ∃ x w', (callFunc f args).run P w = .ok (.value x) w' ∧ Post B φ w K (.returned x) w'
def OrcOk (P : Program) (O : Orc) : Prop := ∀ f g, O f = some g → ∀ C, CallOk P C → FnOk P f (g C)
noncomputable def callK (P : Program) (O : Orc) (fuel : Nat) (n : Nat) : CallH :=
  Nat.rec (motive := fun _ => CallH) (fun _ _ _ _ => false)
    (fun _ ih f vs h K => Bool.rec (motive := fun _ => Bool) (Option.rec (motive := fun _ => Bool) (bodyK P false ih fuel f vs h K) (fun g => g ih vs h K) (O f)) (rndK P ih fuel vs h K) (Nat.beq f YLD)) n
theorem callK_ok (P : Program) (hmix : P.follows .mixedOrders = true) (O : Orc) (hO : OrcOk P O) (fuel : Nat) : ∀ n, CallOk P (callK P O fuel n)
  | 0 => ⟨fun f vs h K _ hk => absurd (show false = true from hk) (by simp), fun b vs h K hk => absurd (show false = true from hk) (by simp)⟩
  | n + 1 => by
    have ih := callK_ok P hmix O hO fuel n
    constructor
    · intro f vs h K hne hk B φ w args hr hv
      have hk' : Bool.rec (motive := fun _ => Bool) (Option.rec (motive := fun _ => Bool) (bodyK P false (callK P O fuel n) fuel f vs h K) (fun g => g (callK P O fuel n) vs h K) (O f)) (rndK P (callK P O fuel n) fuel vs h K) (Nat.beq f YLD) = true := hk
      have hb : Nat.beq f YLD = false := by
        cases hb : Nat.beq f YLD with
        | true => exact absurd (Nat.eq_of_beq_eq_true hb) hne
        | false => rfl
      rw [hb] at hk'
      cases hof : O f with
      | some g => rw [hof] at hk'; exact hO f g hof _ ih vs h K hk' B φ w args hr hv
      | none => rw [hof] at hk'; exact .inl (bodyK_calls hmix ih hk' hr hv)
    · intro b vs h K hk B φ w args L hr hL hv
      exact rndK_ok hmix ih (show rndK P (callK P O fuel n) fuel (.yld b :: vs) h K = true from hk) hr hL hv
end Go.Ev
end
section
namespace Go.Ev
theorem run_ext {P : Program} {f : FuncId} {fn : Func} {e : Array Value → Sem Value} (hf : P.funcs[f]? = some fn) (hname : (fn.name == "runtime.NumGoroutine") = false) (hb : fn.body = none) (hn : Extern.findNext fn = none) (he : Extern.find fn = some e)
    (args : Array Value) (w : World) {x : Value} {w' : World} (h : (e args).run P w = .ok x w') : (callFunc f args).run P w = .ok (.value x) w' := by
  unfold callFunc
  simp only [Sem.run_bind, run_program, Result.andThen_ok, hf, hname, Bool.false_eq_true, if_false, hb, Option.isNone_none, if_true, hn, he]
  have hm : (mark (.extern f)).run P w = .ok () w := rfl
  simp only [hm, Result.andThen_ok, Sem.run_bind, h, Sem.run_pure]
theorem ext_ok {P : Program} {f : FuncId} {fn : Func} {e : Array Value → Sem Value} (hf : P.funcs[f]? = some fn) (hname : (fn.name == "runtime.NumGoroutine") = false) (hb : fn.body = none) (hn : Extern.findNext fn = none) (he : Extern.find fn = some e)
    {g : Ex} (hg : ∀ vs h K, g vs h K = true → ∀ B φ w (args : Array Value), HR B φ h w → VRs φ vs args.toList → ∃ x w', (e args).run P w = .ok x w' ∧ Post B φ w K (.returned x) w') : FnOk P f g := by
  intro vs h K hk B φ w args hr hv
  obtain ⟨x, w', h1, h2⟩ := hg vs h K hk B φ w args hr hv
  exact .inr ⟨x, w', run_ext hf hname hb hn he args w h1, h2⟩
end Go.Ev
end
