/- Part of the proof that card_holds ends in: an evaluator of closed runs over abstract memories, and that what it says holds of the model. -/
import Derived.Test.YtkobceanlhlmcaaGreatDoorA06
import Derived.Deep.LoopGhost
import Derived.CallsIn
import Derived.OrdersIn
set_option linter.all false
section
namespace Go.Ev
abbrev CallH := FuncId → List V → H → (V → H → Bool) → Bool
def Post (B : Bd) (φ : Phi) (w : World) (K : V → H → Bool) (e : Ending) (w' : World) : Prop := ∃ v h' φ' x, e = .returned x ∧ Ext φ φ' ∧ VR φ' v x ∧ HR B φ' h' w' ∧ Below B w w' ∧ K v h' = true
def Fr (ro : Option Nat) : Fence := { Fence.wide with round := ro }
def YLD : FuncId := 1000000000
structure CallOk (P : Program) (C : CallH) : Prop where
  fn : ∀ f vs h K, f ≠ YLD → C f vs h K = true → ∀ B φ w (args : Array Value), HR B φ h w → VRs φ vs args.toList →
    ((callFunc f args).run P w = .ok (.enter f args) w ∧ Calls P f args w (Post B φ w K)) ∨ ∃ x w', (callFunc f args).run P w = .ok (.value x) w' ∧ Post B φ w K (.returned x) w'
  yld : ∀ b vs h K, C YLD (.yld b :: vs) h K = true → ∀ B φ w (args : Array Value) L, HR B φ h w → φ b = some L → VRs φ vs args.toList →
    ∃ fn tmps asg body, (Instr.yield L.blk args).run P w = .ok (.round L.blk fn tmps asg body) w ∧ RoundIn Fence.wide 0 P L.blk fn tmps asg body w (Post B φ w K)
inductive Src1 where
  | loc (t : Nat)
  | env (k : Nat)
  | cst (v : V)
noncomputable def srcV (s : Src1) : List V → T V → (V → Bool) → Bool :=
  Src1.rec (motive := fun _ => List V → T V → (V → Bool) → Bool) (fun t _ loc K => loc.getK t K) (fun k env _ K => nthK env k K) (fun v _ _ K => K v) s
noncomputable def srcVs (ss : List Src1) : List V → T V → (List V → Bool) → Bool :=
  List.rec (motive := fun _ => List V → T V → (List V → Bool) → Bool) (fun _ _ K => K []) (fun s _ ih env loc K => srcV s env loc fun v => ih env loc fun l => K (v :: l)) ss
inductive RI where
  | rd1 (f : R1) (a : Src1)
  | rd2 (f : R2) (a b : Src1)
  | rd (f : Rd) (a : List Src1)
  | ef (f : Ef) (a : List Src1) (push : Bool)
  | call (a : List Src1) (push : Bool)
  | set (t : Nat) (s : Src1)
  | fail
  | inv (tbl : TypeId → Option (FuncId × Option Nat)) (a : List Src1) (push : Bool)
abbrev EnvK := List V → T V → H → Bool
noncomputable def pushK (push : Bool) : V → List V → (List V → Bool) → Bool := Bool.rec (motive := fun _ => V → List V → (List V → Bool) → Bool) (fun v env K => K env) (fun v env K => K (v :: env)) push
noncomputable def callM (C : CallH) (h : H) (K : V → H → Bool) (vs : List V) : Bool := match vs with
  | .func f first cap :: r => bif Nat.beq f YLD then false else C f (first ++ r ++ cap) h K
  | .yld b :: r => C YLD (.yld b :: r) h K
  | _ => false
noncomputable def invM (C : CallH) (tbl : TypeId → Option (FuncId × Option Nat)) (h : H) (K : V → H → Bool) (vs : List V) : Bool := match vs with
  | .iface t v :: r => (match tbl t with
    | some (f, none) => (bif Nat.beq f YLD then false else C f (v :: r) h K)
    | some (f, some d) => (match v with
      | .ptr b o => blkK h b fun k => bif Nat.blt (o + d) k.n then datK k.n k.d (o + d) fun u => (bif Nat.beq f YLD then false else C f (u :: r) h K) else false
      | _ => false)
    | none => false)
  | _ => false
noncomputable def stepRI (C : CallH) (i : RI) : List V → T V → H → EnvK → Bool :=
  RI.rec (motive := fun _ => CallH → List V → T V → H → EnvK → Bool)
    (fun f a C env loc h K => srcV a env loc fun x => f x h fun v => K (v :: env) loc h)
    (fun f a b C env loc h K => srcV a env loc fun x => srcV b env loc fun y => f x y h fun v => K (v :: env) loc h)
    (fun f a C env loc h K => srcVs a env loc fun vs => f vs h fun v => K (v :: env) loc h)
    (fun f a p C env loc h K => srcVs a env loc fun vs => f vs h fun v h' => pushK p v env fun env => K env loc h')
    (fun a p C env loc h K => srcVs a env loc fun vs => callM C h (fun v h' => pushK p v env fun env => K env loc h') vs)
    (fun t s C env loc h K => srcV s env loc fun v => loc.setK t v fun loc => K env loc h)
    (fun _ _ _ _ _ => false)
    (fun tbl a p C env loc h K => srcVs a env loc fun vs => invM C tbl h (fun v h' => pushK p v env fun env => K env loc h') vs) i C
noncomputable def boolV (v : V) (K : Bool → Bool) : Bool := match v with | .bool b => K b | _ => false
structure GI where
  guard : Option (Src1 × Bool)
  push : Bool
  i : RI
noncomputable def stepGd (C : CallH) (p : Src1 × Bool) (push : Bool) (i : RI) (env : List V) (loc : T V) (h : H) (K : EnvK) : Bool :=
  srcV p.1 env loc fun v => (match v with
      | .bool b => Bool.rec (motive := fun _ => Bool) (pushK push undefV env fun env => K env loc h) (stepRI C i env loc h K) (b == p.2)
      | .tup _ => pushK push undefV env fun env => K env loc h
      | _ => false)
noncomputable def stepGI (C : CallH) (g : GI) : List V → T V → H → EnvK → Bool :=
  GI.rec (motive := fun _ => CallH → List V → T V → H → EnvK → Bool) (fun guard push i C => Option.rec (motive := fun _ => CallH → Bool → RI → List V → T V → H → EnvK → Bool) (fun C _ i => stepRI C i)
    (fun p C push i => stepGd C p push i) guard C push i) g C
noncomputable def regK (C : CallH) (l : List GI) : List V → T V → H → EnvK → Bool :=
  List.rec (motive := fun _ => CallH → List V → T V → H → EnvK → Bool) (fun _ env loc h K => K env loc h) (fun g _ ih C env loc h K => stepGI C g env loc h (ih C · · · K)) l C
inductive SC where
  | loc (p : List Bool)
  | env (k : Nat)
  | cst (v : V)
noncomputable def pathF (f : Nat) : Nat → List Bool :=
  Nat.rec (motive := fun _ => Nat → List Bool) (fun _ => []) (fun _ ih k => Nat.rec (motive := fun _ => List Bool) [] (fun k' _ => Nat.beq (Nat.mod k' 2) 1 :: ih (Nat.div k' 2)) k) f
noncomputable def getP (p : List Bool) : T V → (V → Bool) → Bool :=
  List.rec (motive := fun _ => T V → (V → Bool) → Bool) (fun t => T.rec (motive := fun _ => (V → Bool) → Bool) (fun _ => false) (fun _ v _ _ _ => T.someK v) t)
    (fun b _ ih t => T.rec (motive := fun _ => Bool → (T V → (V → Bool) → Bool) → (V → Bool) → Bool) (fun _ _ _ => false)
      (fun l _ r _ _ b ih => Bool.rec (motive := fun _ => (T V → (V → Bool) → Bool) → T V → T V → (V → Bool) → Bool) (fun ih l _ => ih l) (fun ih _ r => ih r) b ih l r) t b ih) p
theorem getP_eq : ∀ (f k : Nat), k ≤ f → ∀ (t : T V) (K : V → Bool), getP (pathF f k) t K = t.getK k K := by
  intro f
  induction f with
  | zero =>
    intro k hk t K
    have : k = 0 := by omega
    subst this
    cases t <;> rfl
  | succ f ih =>
    intro k hk t K
    cases k with
    | zero => cases t <;> rfl
    | succ k =>
      have e : pathF (f + 1) (k + 1) = Nat.beq (Nat.mod k 2) 1 :: pathF f (Nat.div k 2) := rfl
      rw [e]
      have hd : Nat.div k 2 ≤ f := by have : Nat.div k 2 = k / 2 := rfl; omega
      cases t with
      | nil => rfl
      | node l v r =>
        have e2 : getP (Nat.beq (Nat.mod k 2) 1 :: pathF f (Nat.div k 2)) (.node l v r) K = (Bool.rec (motive := fun _ => (T V → (V → Bool) → Bool) → T V → T V → (V → Bool) → Bool) (fun ih l _ => ih l) (fun ih _ r => ih r) (Nat.beq (Nat.mod k 2) 1) (getP (pathF f (Nat.div k 2))) l r : (V → Bool) → Bool) K := rfl
        rw [e2, T.getK_eq]
        have hm : Nat.mod k 2 = k % 2 := rfl
        rw [hm]
        rw [show (T.node l v r).get (k + 1) = if k % 2 = 0 then l.get (k / 2) else r.get (k / 2) from rfl]
        by_cases h : k % 2 = 0
        · rw [h, if_pos rfl]
          show getP (pathF f (Nat.div k 2)) l K = _
          rw [ih _ hd, T.getK_eq]; rfl
        · have h1 : k % 2 = 1 := by omega
          rw [h1, if_neg (by decide)]
          show getP (pathF f (Nat.div k 2)) r K = _
          rw [ih _ hd, T.getK_eq]; rfl
noncomputable def toSC (s : Src1) : SC := Src1.rec (motive := fun _ => SC) (fun t => .loc (pathF t t)) (fun k => .env k) (fun v => .cst v) s
noncomputable def scV (s : SC) : List V → T V → (V → Bool) → Bool :=
  SC.rec (motive := fun _ => List V → T V → (V → Bool) → Bool) (fun p _ => getP p) (fun k env _ => nthK env k) (fun v _ _ K => K v) s
theorem scV_eq (s : Src1) (env : List V) (loc : T V) (K : V → Bool) : scV (toSC s) env loc K = srcV s env loc K := by
  cases s with
  | loc t => exact getP_eq t t (Nat.le_refl t) loc K
  | env k => rfl
  | cst v => rfl
inductive RL where
  | nil
  | rd1 (f : R1) (a : SC) (r : RL)
  | rd2 (f : R2) (a b : SC) (r : RL)
  | g1 (s : SC) (w : Bool) (f : R1) (a : SC) (r : RL)
  | g2 (s : SC) (w : Bool) (f : R2) (a b : SC) (r : RL)
  | set (t : Nat) (s : SC) (r : RL)
  | oth (g : GI) (r : RL)
noncomputable def toRL (l : List GI) : RL :=
  List.rec (motive := fun _ => RL) .nil (fun g _ r => GI.rec (motive := fun _ => RL → RL) (fun gd p i r => Option.rec (motive := fun _ => Bool → RI → RL → RL)
    (fun p i r => RI.rec (motive := fun _ => Bool → RL → RL) (fun f a _ r => .rd1 f (toSC a) r) (fun f a b _ r => .rd2 f (toSC a) (toSC b) r) (fun f a p r => .oth ⟨none, p, .rd f a⟩ r) (fun f a q p r => .oth ⟨none, p, .ef f a q⟩ r)
      (fun a q p r => .oth ⟨none, p, .call a q⟩ r) (fun t s _ r => .set t (toSC s) r) (fun p r => .oth ⟨none, p, .fail⟩ r) (fun tbl a q p r => .oth ⟨none, p, .inv tbl a q⟩ r) i p r)
    (fun g p i r => Bool.rec (motive := fun _ => Src1 × Bool → RI → RL → RL) (fun g i r => .oth ⟨some g, false, i⟩ r) (fun g i r => RI.rec (motive := fun _ => Src1 × Bool → RL → RL) (fun f a g r => .g1 (toSC g.1) g.2 f (toSC a) r) (fun f a b g r => .g2 (toSC g.1) g.2 f (toSC a) (toSC b) r)
      (fun f a g r => .oth ⟨some g, true, .rd f a⟩ r) (fun f a q g r => .oth ⟨some g, true, .ef f a q⟩ r)
      (fun a q g r => .oth ⟨some g, true, .call a q⟩ r) (fun t s g r => .oth ⟨some g, true, .set t s⟩ r) (fun g r => .oth ⟨some g, true, .fail⟩ r) (fun tbl a q g r => .oth ⟨some g, true, .inv tbl a q⟩ r) i g r) p g i r) gd p i r) g r) l
noncomputable def rlK (C : CallH) (l : RL) : List V → T V → H → EnvK → Bool :=
  RL.rec (motive := fun _ => CallH → List V → T V → H → EnvK → Bool) (fun _ env loc h K => K env loc h)
    (fun f a _ ih C env loc h K => scV a env loc fun x => f x h fun v => ih C (v :: env) loc h K)
    (fun f a b _ ih C env loc h K => scV a env loc fun x => scV b env loc fun y => f x y h fun v => ih C (v :: env) loc h K)
    (fun s w f a _ ih C env loc h K => scV s env loc fun v => guardA v w (scV a env loc fun x => f x h fun v => ih C (v :: env) loc h K) (ih C (undefV :: env) loc h K))
    (fun s w f a b _ ih C env loc h K => scV s env loc fun v => guardA v w (scV a env loc fun x => scV b env loc fun y => f x y h fun v => ih C (v :: env) loc h K) (ih C (undefV :: env) loc h K))
    (fun t s _ ih C env loc h K => scV s env loc fun v => loc.setK t v fun loc => ih C env loc h K)
    (fun g _ ih C env loc h K => stepGI C g env loc h fun env loc h => ih C env loc h K) l C
theorem scV_fun (s : Src1) (env : List V) (loc : T V) : scV (toSC s) env loc = srcV s env loc := by funext K; exact scV_eq s env loc K
theorem guardA_eq (v : V) (w : Bool) (y n : Bool) : guardA v w y n = match v with | .bool b => Bool.rec (motive := fun _ => Bool) n y (b == w) | .tup _ => n | _ => false := by
  cases v <;> first | rfl | (rename_i b; cases b <;> cases w <;> rfl)
theorem rlK_eq (C : CallH) : ∀ (l : List GI) (env : List V) (loc : T V) (h : H) (K : EnvK), rlK C (toRL l) env loc h K = regK C l env loc h K
  | [], env, loc, h, K => rfl
  | ⟨gd, p, i⟩ :: l, env, loc, h, K => by
    have e : regK C (⟨gd, p, i⟩ :: l) env loc h K = stepGI C ⟨gd, p, i⟩ env loc h fun env loc h => rlK C (toRL l) env loc h K := by
      have : (fun env loc h => rlK C (toRL l) env loc h K) = fun env loc h => regK C l env loc h K := by
        funext env loc h; exact rlK_eq C l env loc h K
      rw [this]; rfl
    rw [e]
    cases gd with
    | some g =>
      cases p with
      | false => rfl
      | true =>
        cases i with
        | rd1 f a =>
          show (scV (toSC g.1) env loc fun v => guardA v g.2 (scV (toSC a) env loc fun x => f x h fun v => rlK C (toRL l) (v :: env) loc h K) (rlK C (toRL l) (undefV :: env) loc h K)) = srcV g.1 env loc fun v => _
          rw [scV_fun, scV_fun]
          congr 1; funext v
          rw [guardA_eq]; rfl
        | rd2 f a b =>
          show (scV (toSC g.1) env loc fun v => guardA v g.2 (scV (toSC a) env loc fun x => scV (toSC b) env loc fun y => f x y h fun v => rlK C (toRL l) (v :: env) loc h K) (rlK C (toRL l) (undefV :: env) loc h K)) = srcV g.1 env loc fun v => _
          rw [scV_fun, scV_fun, scV_fun]
          congr 1; funext v
          rw [guardA_eq]; rfl
        | _ => rfl
    | none =>
      cases i with
      | rd1 f a => exact scV_eq a env loc _
      | rd2 f a b =>
        show (scV (toSC a) env loc fun x => scV (toSC b) env loc fun y => _) = srcV a env loc fun x => srcV b env loc fun y => _
        rw [scV_fun, scV_fun]
        rfl
      | set t s => exact scV_eq s env loc _
      | _ => rfl
def Src1.val (env : List V) (loc : T V) : Src1 → Option V
  | .loc t => loc.get t
  | .env k => env[k]?
  | .cst v => some v
theorem srcV_true {s : Src1} {env : List V} {loc : T V} {K : V → Bool} (h : srcV s env loc K = true) : ∃ v, s.val env loc = some v ∧ K v = true := by
  cases s with
  | loc t => exact T.getK_true h
  | env k => exact nthK_true h
  | cst v => exact ⟨v, rfl, h⟩
theorem srcVs_true : ∀ {ss : List Src1} {env : List V} {loc : T V} {K : List V → Bool}, srcVs ss env loc K = true → ∃ vs, ss.map (Src1.val env loc) = vs.map some ∧ K vs = true
  | [], env, loc, K, h => ⟨[], rfl, h⟩
  | s :: ss, env, loc, K, h => by
    have h' : (srcV s env loc fun v => srcVs ss env loc fun l => K (v :: l)) = true := h
    obtain ⟨v, h1, h2⟩ := srcV_true h'
    obtain ⟨vs, h3, h4⟩ := srcVs_true h2
    exact ⟨v :: vs, by simp [h1, h3], h4⟩
theorem pushK_eq (p : Bool) (v : V) (env : List V) (K : List V → Bool) : pushK p v env K = K (if p then v :: env else env) := by cases p <;> rfl
abbrev Gam := List (Tmp × Option Src1)
def Gam.find : Gam → Tmp → Option (Option Src1)
  | [], _ => none
  | p :: Γ, t => bif Nat.beq p.1 t then some p.2 else Gam.find Γ t
def absS (n : Nat) : Src1 → Src1
  | .env p => .env (n - 1 - p)
  | s => s
structure LocOk (L : Nat → Bool) (N : Nat) (D : List Deferred) (φ : Phi) (loc : T V) (a : Act) : Prop where
  size : N ≤ a.tmps.size
  defers : a.defers = D
  val : ∀ t v, loc.get t = some v → L t = true ∧ VR φ v (a.tmps.getD t undef)
structure GamOk (L : Nat → Bool) (N : Nat) (D : List Deferred) (φ : Phi) (Γ : Gam) (n : Nat) (env : List V) (loc : T V) (a : Act) : Prop extends LocOk L N D φ loc a where
  len : env.length = n
  gam : ∀ t s, Γ.find t = some (some s) → (∀ p, s = .env p → p < n) ∧ ∀ v, (absS n s).val env loc = some v → VR φ v (a.tmps.getD t undef)
theorem LocOk.mono {L : Nat → Bool} {N : Nat} {D : List Deferred} {φ φ' : Phi} {loc : T V} {a : Act} (hx : Ext φ φ') (h : LocOk L N D φ loc a) : LocOk L N D φ' loc a :=
  ⟨h.size, h.defers, fun t v hv => let ⟨a, b⟩ := h.val t v hv; ⟨a, b.mono hx⟩⟩
theorem GamOk.mono {L : Nat → Bool} {N : Nat} {D : List Deferred} {φ φ' : Phi} {Γ : Gam} {n : Nat} {env : List V} {loc : T V} {a : Act} (hx : Ext φ φ') (h : GamOk L N D φ Γ n env loc a) : GamOk L N D φ' Γ n env loc a :=
  ⟨h.toLocOk.mono hx, h.len, fun t s hs => let ⟨a, b⟩ := h.gam t s hs; ⟨a, fun v hv => (b v hv).mono hx⟩⟩
def toV : Value → Option V
  | .bool b => some (.bool b)
  | .int k n => some (.int k n)
  | .string s => some (.str s.data.toList.length (enc s.data.toList))
  | .pointer none => some .nilp
  | .slice none 0 0 => some .nils
  | .map none => some .nilm
  | .nilFunc => some .nilf
  | .nilIface => some .nili
  | .func (.func f) ⟨[]⟩ ⟨[]⟩ => some (.func f [] [])
  | _ => none
theorem toV_rel {x : Value} {v : V} (h : toV x = some v) (φ : Phi) : VR φ v x := by
  unfold toV at h
  split at h <;> first
    | (simp only [Option.some.injEq] at h; subst h; first | exact .bool _ | exact .int _ _ | exact .str (dec_enc _).symm (enc_lt _) | exact .nilp | exact .nils | exact .nilm | exact .nilf | exact .nili | exact .func .nil .nil)
    | exact absurd h (by simp)
def opS (n : Nat) (Γ : Gam) : Operand → Option Src1
  | .tmp t => (match Γ.find t with | none => some (.loc t) | some s => s)
  | .const v => (toV v).map .cst
  | .func f => some (.cst (.func f [] []))
  | .global _ => none
theorem opS_rel {L : Nat → Bool} {N : Nat} {D : List Deferred} {φ : Phi} {Γ : Gam} {n : Nat} {env : List V} {loc : T V} {a : Act} (hg : GamOk L N D φ Γ n env loc a) {x : Operand} {s : Src1} (h : opS n Γ x = some s) :
    (∀ p, s = .env p → p < n) ∧ ∀ v, (absS n s).val env loc = some v → VR φ v (a.eval x) := by
  cases x with
  | tmp t =>
    simp only [opS] at h
    cases hf : Γ.find t with
    | none =>
      rw [hf] at h; simp at h; subst h
      exact ⟨by simp, fun v hv => (hg.val t v hv).2⟩
    | some s' =>
      rw [hf] at h; simp at h; subst h
      exact hg.gam t s hf
  | const c =>
    simp only [opS] at h
    cases hc : toV c with
    | none => rw [hc] at h; simp at h
    | some v =>
      rw [hc] at h; simp at h; subst h
      refine ⟨by simp, fun u hu => ?_⟩
      simp [absS, Src1.val] at hu; subst hu
      exact toV_rel hc φ
  | func f =>
    simp only [opS, Option.some.injEq] at h; subst h
    refine ⟨by simp, fun u hu => ?_⟩
    simp [absS, Src1.val] at hu; subst hu
    exact .func .nil .nil
  | global g => simp [opS] at h
def opSs (n : Nat) (Γ : Gam) : List Operand → Option (List Src1)
  | [] => some []
  | x :: xs => match opS n Γ x, opSs n Γ xs with
    | some s, some l => some (absS n s :: l)
    | _, _ => none
theorem opSs_rel {L : Nat → Bool} {N : Nat} {D : List Deferred} {φ : Phi} {Γ : Gam} {n : Nat} {env : List V} {loc : T V} {a : Act} (hg : GamOk L N D φ Γ n env loc a) : ∀ {xs : List Operand} {ss : List Src1} {vs : List V}, opSs n Γ xs = some ss → ss.map (Src1.val env loc) = vs.map some →
    VRs φ vs (xs.map a.eval)
  | [], ss, vs, h, hm => by
    simp [opSs] at h; subst h
    have : vs = [] := by simpa using hm.symm
    subst this; exact .nil
  | x :: xs, ss, vs, h, hm => by
    simp only [opSs] at h
    split at h
    · rename_i s l hs hl
      simp only [Option.some.injEq] at h; subst h
      cases vs with
      | nil => simp at hm
      | cons v vs =>
        simp only [List.map_cons, List.cons.injEq] at hm
        exact .cons ((opS_rel hg hs).2 v hm.1) (opSs_rel hg hl hm.2)
    · exact absurd h (by simp)
end Go.Ev
end
section
namespace Go.Ev
inductive OpF where
  | rd1 (f : R1)
  | rd2 (f : R2)
  | rd (f : Rd)
  | al (f : Al)
  | ef (f : Ef)
  | call
  | none
  | inv (tbl : TypeId → Option (FuncId × Option Nat))
def OpOk (P : Program) (op : Op) : OpF → Prop
  | .rd1 f => RdSound P op (of1 f)
  | .rd2 f => RdSound P op (of2 f)
  | .rd f => RdSound P op f
  | .al f => AlSound P op f
  | .ef f => EfSound P op f
  | .call => ∃ c x, op = .call c ∧ c.callee = .value x
  | .none => True
  | .inv tbl => ∃ c x name, op = .call c ∧ c.callee = .invoke x name ∧ tbl = methOf P name
theorem rBin_sound {P : Program} {op : BinOp} {t yt : TypeId} {x y : Operand} (hop : plainBin op = true) : RdSound P (.binOp op t x y yt) (of2 (rBin op)) := by rw [rBin_eq]; exact fBin_sound hop
noncomputable def fEqPP (neg : Bool) : Rd := fun vs _ K =>
  match vs with
  | [a, .nilp] => (match a with | .nilp => K (.bool (!neg)) | .ptr _ _ => K (.bool neg) | _ => false)
  | [.ptr b o, .ptr b' o'] => bif Nat.beq b b' && Nat.beq o o' then K (.bool (!neg)) else false
  | _ => false
theorem fEqPP_sound {P : Program} {t yt e : TypeId} {x y : Operand} {i : TypeInfo} (neg : Bool) (hd : P.underlying t = some (.pointer e)) (hi : P.info? e = some i) : RdSound P (.binOp (if neg then .neq else .eql) t x y yt) (fEqPP neg) := by
  intro op ho B φ h w ρ vs K hr hv hk
  have hk0 := hk
  unfold fEqPP at hk
  split at hk
  · exact fEqNil_sound neg hd rfl op ho B φ h w ρ _ K hr hv hk
  · rename_i b o b' o'
    simp only [Op.operands] at hv
    obtain ⟨h1, h2⟩ := bif_true hk
    simp only [Bool.and_eq_true] at h1
    obtain ⟨h3, h4⟩ := h1
    have h3 := Nat.eq_of_beq_eq_true h3
    have h4 := Nat.eq_of_beq_eq_true h4
    subst h3; subst h4
    obtain ⟨p, q, e1, hp, hq⟩ := hv.two
    simp only [List.map_cons, List.map_nil, List.cons.injEq, and_true] at e1
    obtain ⟨L, hL, rfl⟩ := hp.ptr_inv
    obtain ⟨L', hL', rfl⟩ := hq.ptr_inv
    rw [hL] at hL'; simp only [Option.some.injEq] at hL'; subst hL'
    have hu : (underlying t).run P w = .ok (.pointer e) w := by unfold underlying; simp [Sem.run_bind, hd]
    have hsz : (sizeOf e).run P w = .ok i.size w := by unfold sizeOf typeInfo; simp [Sem.run_bind, hi]
    have heq : ∀ a : Addr, (Op.equal t (.pointer (some a)) (.pointer (some a))).run P w = .ok true w := by
      intro a
      show (Op.equalIn (9999 + 1) t (.pointer (some a)) (.pointer (some a))).run P w = .ok true w
      rw [Op.equalIn]
      simp only [Sem.run_bind, hu, Result.andThen_ok, hsz]
      by_cases h0 : i.size = 0
      · simp [h0]
      · simp [h0, sameAddr]
    refine ⟨.bool (!neg), .bool (!neg), ?_, .bool _, h2⟩
    simp only [execOp, ho]
    rw [e1.1, e1.2]
    cases neg with
    | true =>
      have hg : (eqGuard .neq t x y (.pointer (some ⟨L.blk, L.base + o, none⟩)) (.pointer (some ⟨L.blk, L.base + o, none⟩))).run P w = .ok () w := rfl
      simp [Sem.run_bind, hg, binOp, heq]
    | false =>
      have hg : (eqGuard .eql t x y (.pointer (some ⟨L.blk, L.base + o, none⟩)) (.pointer (some ⟨L.blk, L.base + o, none⟩))).run P w = .ok () w := rfl
      simp [Sem.run_bind, hg, binOp, heq]
  · exact absurd hk (by simp)
def eqOp (neg : Bool) : BinOp := if neg then .neq else .eql
noncomputable def cEq (P : Program) (neg : Bool) (t : TypeId) (y : Operand) : OpF :=
  match P.underlying t with
  | some (.int _) => .rd2 ((rBin (eqOp neg)))
  | some .string => .rd2 ((rBin (eqOp neg)))
  | some .bool => .rd (fEqB neg)
  | some (.struct fs) => (match fieldKinds P fs.toList with
    | some ks => if P.stoodInHeld t = false ∧ P.eqGuardType P.depth t = false then .rd (fEqS neg ks) else .none
    | none => (match flatT P 20 t with
      | some l => if P.eqGuardType P.depth t = false then .rd (fEqL neg l) else .none
      | none => .none))
  | some (.array _ _) => (match flatT P 20 t with
    | some l => if P.eqGuardType P.depth t = false then .rd (fEqL neg l) else .none
    | none => .none)
  | some (.pointer e) => (match P.info? e with | some _ => .rd (fEqPP neg) | none => .none)
  | some d => if nilable d y then .rd (fEqNil neg (kindOf d)) else .none
  | none => .none
theorem cEq_ok (P : Program) (neg : Bool) (t yt : TypeId) (x y : Operand) : OpOk P (.binOp (eqOp neg) t x y yt) (cEq P neg t y) := by
  unfold cEq
  split
  · exact rBin_sound (by cases neg <;> rfl)
  · exact rBin_sound (by cases neg <;> rfl)
  · exact fEqB_sound neg (by assumption)
  · split
    · split
      · rename_i h; exact fEqS_sound neg (by assumption) (by assumption) h.1 h.2
      · trivial
    · split
      · split
        · exact fEqL_sound neg (by assumption) rfl (by assumption) (by assumption)
        · trivial
      · trivial
  · split
    · split
      · exact fEqL_sound neg (by assumption) rfl (by assumption) (by assumption)
      · trivial
    · trivial
  · split
    · exact fEqPP_sound neg (by assumption) (by assumption)
    · trivial
  · split
    · exact fEqNil_sound neg (by assumption) (by assumption)
    · trivial
  · trivial
noncomputable def cBin (P : Program) (op : BinOp) (t : TypeId) (y : Operand) : OpF :=
  match op with
  | .shl => .rd (fShift true)
  | .shr => .rd (fShift false)
  | .eql => cEq P false t y
  | .neq => cEq P true t y
  | op => if plainBin op then .rd2 ((rBin op)) else .none
theorem cBin_ok (P : Program) (op : BinOp) (t yt : TypeId) (x y : Operand) : OpOk P (.binOp op t x y yt) (cBin P op t y) := by
  unfold cBin
  split
  · exact fShift_sound true
  · exact fShift_sound false
  · exact cEq_ok P false t yt x y
  · exact cEq_ok P true t yt x y
  · split
    · exact rBin_sound (by assumption)
    · trivial
noncomputable def cConvert (P : Program) (s t : TypeId) : OpF :=
  match P.underlying s, P.underlying t with
  | some (.slice el), some .string => (match P.underlying el with | some (.int .u8) => .rd fB2S | _ => .none)
  | some _, some (.int k) => .rd1 (rConv k)
  | some _, some .string => .rd fStrStr
  | some _, some (.slice el) => (match P.underlying el with | some (.int .u8) => .al (fS2B el) | _ => .none)
  | some (.pointer el), some .unsafePointer => (match P.info? el with | some j => if j.size ≠ 0 then .rd fToUn else .none | none => .none)
  | some .unsafePointer, some (.pointer u) => (match P.info? u with | some _ => .rd (fFromUn fun e n off => liesAt P P.depth e (n / P.cellsOf e) off u 1) | none => .none)
  | _, _ => .none
theorem cConvert_ok (P : Program) (s t : TypeId) (x : Operand) : OpOk P (.convert s t x) (cConvert P s t) := by
  unfold cConvert
  split
  · split
    · exact fB2S_sound (by assumption) (by assumption) (by assumption)
    · trivial
  · rw [OpOk, rConv_eq]; exact fConv_sound (by assumption) (by assumption)
  · exact fStrStr_sound (by assumption) (by assumption)
  · split
    · exact fS2B_sound (by assumption) (by assumption) (by assumption)
    · trivial
  · split
    · split
      · exact fToUn_sound (by assumption) (by assumption) (by assumption) (by assumption)
      · trivial
    · trivial
  · split
    · exact fFromUn_sound (by assumption) (by assumption) (by assumption)
    · trivial
  · trivial
def toVs : List Value → Option (List V)
  | [] => some []
  | x :: xs => match toV x, toVs xs with | some v, some l => some (v :: l) | _, _ => none
theorem toVs_rel : ∀ {xs : List Value} {l : List V}, toVs xs = some l → ∀ φ, VRs φ l xs
  | [], l, h, φ => by simp [toVs] at h; subst h; exact .nil
  | x :: xs, l, h, φ => by
    simp only [toVs] at h
    split at h
    · rename_i v l' h1 h2
      simp only [Option.some.injEq] at h; subst h
      exact .cons (toV_rel h1 φ) (toVs_rel h2 φ)
    · exact absurd h (by simp)
def byteRow (P : Program) (t : TypeId) : Bool :=
  match P.underlying t with
  | some (.array _ el) => (match P.underlying el with | some (.int .u8) => true | _ => false)
  | _ => false
noncomputable def cAlloc (P : Program) (t : TypeId) : OpF :=
  match P.info? t with
  | some i => (match i.zero with
    | some z => (match toVs z.cells.toList with | some l => .al (fAlloc (byteRow P t) t l) | none => .none)
    | none => .none)
  | none => .none
theorem cAlloc_ok (P : Program) (t : TypeId) : OpOk P (.alloc t) (cAlloc P t) := by
  unfold cAlloc
  split
  · split
    · split
      · exact fAlloc_sound _ (by assumption) (by assumption) (toVs_rel (by assumption))
      · trivial
    · trivial
  · trivial
def eqMap (a : List (Option (Nat × Nat))) (b : List (Nat × Nat)) : Bool :=
  match a, b with
  | [], [] => true
  | some x :: a, y :: b => Nat.beq x.1 y.1 && Nat.beq x.2 y.2 && eqMap a b
  | _, _ => false
theorem eqMap_true : ∀ {a : List (Option (Nat × Nat))} {b : List (Nat × Nat)}, eqMap a b = true → a = b.map some
  | [], [], _ => rfl
  | [], _ :: _, h => by simp [eqMap] at h
  | none :: _, _, h => by simp [eqMap] at h
  | some x :: a, [], h => by simp [eqMap] at h
  | some x :: a, y :: b, h => by
    simp only [eqMap, Bool.and_eq_true] at h
    obtain ⟨⟨h1, h2⟩, h3⟩ := h
    have h1 := Nat.eq_of_beq_eq_true h1
    have h2 := Nat.eq_of_beq_eq_true h2
    rw [eqMap_true h3]
    cases x; cases y; simp_all
def allSome {α : Type} : List (Option α) → Option (List α)
  | [] => some []
  | some a :: l => (allSome l).map (a :: ·)
  | none :: _ => none
theorem allSome_eq {α : Type} : ∀ {l : List (Option α)} {r : List α}, allSome l = some r → l = r.map some
  | [], r, h => by simp [allSome] at h; subst h; rfl
  | some a :: l, r, h => by
    simp only [allSome] at h
    cases hl : allSome l with
    | none => rw [hl] at h; simp at h
    | some r' => rw [hl] at h; simp at h; subst h; rw [allSome_eq hl]; rfl
  | none :: l, r, h => by simp [allSome] at h
noncomputable def cBuild (P : Program) (t : TypeId) (parts : Array (Nat × Operand)) : OpF :=
  match P.underlying t, P.info? t with
  | some (.struct fs), some i => (match i.zero with
    | some z => (match toVs z.cells.toList, fs.toList.mapM (fun f => (P.info? f.type).map fun i => (f.offset, i.size)) with
      | some zero, some places => (match allSome ((parts.toList.map (·.1)).map (places[·]?)) with
        | some ps => .rd (fBuild zero ps)
        | none => .none)
      | _, _ => .none)
    | none => .none)
  | some (.array _ el), some i => (match i.zero with
    | some z => (match toVs z.cells.toList, P.info? el with
      | some zero, some ie => .rd (fBuild zero ((parts.toList.map (·.1)).map fun j => (j * ie.size, ie.size)))
      | _, _ => .none)
    | none => .none)
  | _, _ => .none
theorem cBuild_ok (P : Program) (t : TypeId) (parts : Array (Nat × Operand)) : OpOk P (.build t parts) (cBuild P t parts) := by
  unfold cBuild
  split
  · split
    · split
      · split
        · exact fBuildS_sound (by assumption) (by assumption) (by assumption) (toVs_rel (by assumption)) (by assumption) (allSome_eq (by assumption))
        · trivial
      · trivial
    · trivial
  · split
    · split
      · exact fBuildA_sound (by assumption) (by assumption) (by assumption) (toVs_rel (by assumption)) (by assumption) (by simp [List.map_map, Function.comp_def])
      · trivial
    · trivial
  · trivial
noncomputable def cBSlice (P : Program) (t : TypeId) (n : Nat) (parts : Array (Nat × Operand)) : OpF :=
  match P.underlying t with
  | some (.slice el) => (match P.info? el with
    | some ie => (match n, parts with
      | 0, ⟨[]⟩ => .al (fBSlice0 (match P.underlying el with | some (.int .u8) => true | _ => false) el ie.size)
      | n, parts => (match ie.zero with
        | some z => if n * ie.size ≤ 2 ^ 24 ∧ n * ie.size ≠ 0 then (match toVs (((Array.range (n * ie.size)).map (z.cells[· % z.cells.size]!)).toList) with
          | some zero => if zero.length = n * ie.size then .al (fBSlice (match P.underlying el with | some (.int .u8) => true | _ => false) el ie.size n zero ((parts.toList.map (·.1)).map fun j => (j * ie.size, ie.size))) else .none
          | none => .none) else .none
        | none => .none))
    | none => .none)
  | _ => .none
theorem cBSlice_ok (P : Program) (t : TypeId) (n : Nat) (parts : Array (Nat × Operand)) : OpOk P (.buildSlice t n parts) (cBSlice P t n parts) := by
  unfold cBSlice
  split
  · split
    · split
      · exact fBSlice0_sound _ (by assumption) (by assumption)
      · split
        · split
          · rename_i h
            split
            · split
              · exact fBSlice_sound _ (by assumption) (by assumption) (by assumption) h.1 h.2 (toVs_rel (by assumption)) (by assumption) (by simp [List.map_map, Function.comp_def])
              · trivial
            · trivial
          · trivial
        · trivial
    · trivial
  · trivial
def notAgg : Value → Bool | .agg _ => false | _ => true
theorem notAgg_cells {z : Value} (h : notAgg z = true) : z.cells = #[z] := by cases z <;> first | rfl | exact absurd h (by simp [notAgg])
noncomputable def cMkSlice (P : Program) (t : TypeId) : OpF :=
  match P.underlying t with
  | some (.slice el) => (match P.info? el, P.underlying el with
    | some ie, some d => (match ie.zero, d with
      | some (.int .u8 0), .int .u8 => if ie.size = 1 ∧ ie.bytes ≤ 100 then .al (fMkSlice true el (.int .u8 0)) else .none
      | some z, _ => (match toV z with
        | some zv => if ie.size = 1 ∧ ie.bytes ≤ 100 ∧ notAgg z = true then .al (fMkSlice false el zv) else .none
        | none => .none)
      | none, _ => .none)
    | _, _ => .none)
  | _ => .none
theorem cMkSlice_ok (P : Program) (t : TypeId) (a b : Operand) : OpOk P (.makeSlice t a b) (cMkSlice P t) := by
  unfold cMkSlice
  split
  · split
    · split
      · split
        · rename_i h
          exact fMkSlice_sound true (by assumption) (by assumption) (by assumption) h.1 h.2 (fun φ => .int _ _) rfl (fun _ => rfl)
        · trivial
      · split
        · split
          · rename_i h
            exact fMkSlice_sound false (by assumption) (by assumption) (by assumption) h.1 h.2.1 (fun φ => toV_rel (by assumption) φ) (notAgg_cells h.2.2) (fun h => by simp at h)
          · trivial
        · trivial
      · trivial
    · trivial
  · trivial
end Go.Ev
end
section
namespace Go.Ev
noncomputable def cField (P : Program) (t : TypeId) (fi : Nat) : OpF :=
  match P.underlying t with
  | some (.struct fs) => (match fs[fi]? with
    | some f => (match P.underlying f.type, P.info? f.type with | some d, some i => .rd1 (rField f.offset i.size (!aggD d)) | _, _ => .none)
    | none => .none)
  | _ => .none
theorem cField_ok (P : Program) (t : TypeId) (x : Operand) (fi : Nat) : OpOk P (.field t x fi) (cField P t fi) := by
  unfold cField
  split
  · split
    · split
      · rw [OpOk, rField_eq]; exact fField_sound (by assumption) (by assumption) (by assumption) (by assumption)
      · trivial
    · trivial
  · trivial
noncomputable def cFieldAddr (P : Program) (t : TypeId) (fi : Nat) : OpF :=
  match P.underlying t with
  | some (.struct fs) => (match fs[fi]? with
    | some f => (match P.info? f.type with | some i => if i.size ≠ 0 then .rd1 (rFA f.offset) else .none | _ => .none)
    | none => .none)
  | _ => .none
theorem cFieldAddr_ok (P : Program) (t : TypeId) (x : Operand) (fi : Nat) : OpOk P (.fieldAddr t x fi) (cFieldAddr P t fi) := by
  unfold cFieldAddr
  split
  · split
    · split
      · split
        · rw [OpOk, rFA_eq]; exact fFAddr_sound (by assumption) (by assumption) (by assumption) (by assumption)
        · trivial
      · trivial
    · trivial
  · trivial
noncomputable def cIndex (P : Program) (t : TypeId) : OpF := match P.underlying t with
  | some .string => .rd fIdxStr
  | some (.array n el) => (match P.underlying el, P.info? el with | some d, some i => .rd (fIdxArr n i.size (!aggD d)) | _, _ => .none)
  | _ => .none
theorem cIndex_ok (P : Program) (t : TypeId) (x i : Operand) : OpOk P (.index t x i) (cIndex P t) := by
  unfold cIndex
  split
  · exact fIdxStr_sound (by assumption)
  · split
    · exact fIdxArr_sound (by assumption) (by assumption) (by assumption)
    · trivial
  · trivial
noncomputable def cIndexAddr (P : Program) (t : TypeId) : OpF :=
  match P.underlying t with
  | some (.slice el) => (match P.info? el with | some i => .rd2 (rIAddr i.size) | none => .none)
  | some (.array n el) => (match P.info? el with | some i => .rd2 (rIAddrA n i.size) | none => .none)
  | _ => .none
theorem cIndexAddr_ok (P : Program) (t : TypeId) (x i : Operand) : OpOk P (.indexAddr t x i) (cIndexAddr P t) := by
  unfold cIndexAddr
  split
  · split
    · rw [OpOk, rIAddr_eq]; exact fIAddr_sound (by assumption) (by assumption)
    · trivial
  · split
    · rw [OpOk, rIAddrA_eq]; exact fIAddrA_sound (by assumption) (by assumption)
    · trivial
  · trivial
noncomputable def cSlice (P : Program) (t : TypeId) (lo hi mx : Option Operand) : OpF :=
  match P.underlying t with
  | some .string => (match mx with | none => .rd (fSlStr lo.isSome hi.isSome) | some _ => .none)
  | some (.slice el) => (match P.info? el with | some i => .rd (fSl i.size lo.isSome hi.isSome mx.isSome) | none => .none)
  | some (.array n el) => (match P.info? el with | some i => .rd (fSlArr n i.size lo.isSome hi.isSome mx.isSome) | none => .none)
  | _ => .none
theorem cSlice_ok (P : Program) (t : TypeId) (x : Operand) (lo hi mx : Option Operand) : OpOk P (.slice t x lo hi mx) (cSlice P t lo hi mx) := by
  unfold cSlice
  split
  · split
    · exact fSlStr_sound (by assumption)
    · trivial
  · split
    · exact fSl_sound (by assumption) (by assumption)
    · trivial
  · split
    · exact fSlArr_sound (by assumption) (by assumption)
    · trivial
  · trivial
def keyInt : TypeDesc → Option Bool | .int _ => some true | .string => some false | _ => none
theorem keyInt_ok {d : TypeDesc} {b : Bool} (h : keyInt d = some b) : keyD b d := by
  cases d <;> simp [keyInt] at h <;> subst h <;> trivial
noncomputable def cLookup (P : Program) (t : TypeId) (ok : Bool) : OpF :=
  match P.underlying t with
  | some (.map kt et) => (match P.underlying kt, P.info? et with
    | some d, some i => (match keyInt d, i.zero with
      | some int, some z => (match toV z with | some zv => .rd (fLookup int zv ok) | none => (match z with
        | .agg cs => (match toVs cs.toList with | some l => .rd (fLookup int (.agg l) ok) | none => .none)
        | _ => .none))
      | none, some z => if pairT P kt = true then (match toV z with | some zv => .rd (fLookupP zv ok) | none => .none) else .none
      | _, _ => .none)
    | _, _ => .none)
  | _ => .none
theorem cLookup_ok (P : Program) (t : TypeId) (x i : Operand) (ok : Bool) : OpOk P (.lookup t x i ok) (cLookup P t ok) := by
  unfold cLookup
  split
  · split
    · split
      · split
        · exact fLookup_sound (by assumption) (by assumption) (keyInt_ok (by assumption)) (by assumption) (by assumption) (fun φ => toV_rel (by assumption) φ)
        · split
          · split
            · exact fLookup_sound (by assumption) (by assumption) (keyInt_ok (by assumption)) (by assumption) (by assumption) (fun φ => .agg (toVs_rel (by assumption) φ))
            · trivial
          · trivial
      · split
        · split
          · exact fLookupP_sound (by assumption) (pairT_ok (by assumption)) (by assumption) (by assumption) (fun φ => toV_rel (by assumption) φ)
          · trivial
        · trivial
      · trivial
    · trivial
  · trivial
noncomputable def cMapUpd (P : Program) (t : TypeId) : OpF :=
  match P.underlying t with
  | some (.map kt _) => (match P.underlying kt with
    | some d => (match keyInt d with | some int => .ef (fMapUpd int) | none => if pairT P kt = true then .ef fMapUpdP else .none)
    | none => .none)
  | _ => .none
theorem cMapUpd_ok (P : Program) (t : TypeId) (m k x : Operand) : OpOk P (.mapUpdate t m k x) (cMapUpd P t) := by
  unfold cMapUpd
  split
  · split
    · split
      · exact fMapUpd_sound (by assumption) (by assumption) (keyInt_ok (by assumption))
      · split
        · exact fMapUpdP_sound (by assumption) (pairT_ok (by assumption))
        · trivial
    · trivial
  · trivial
theorem cInsert_ok (P : Program) (t : TypeId) (m k x : Operand) : OpOk P (.insert t m k x) (cMapUpd P t) := by
  unfold cMapUpd
  split
  · split
    · split
      · exact (fMapUpd_sound (by assumption) (by assumption) (keyInt_ok (by assumption))).insert
      · split
        · exact (fMapUpdP_sound (by assumption) (pairT_ok (by assumption))).insert
        · trivial
    · trivial
  · trivial
noncomputable def cMapEnt (P : Program) (t : TypeId) : OpF :=
  match P.underlying t with
  | some (.map kt et) => (match P.info? et with
    | some i => (match i.zero with
      | some z => if pairT P kt = true then (match toV z with | some zv => .ef (fMapEntP zv) | none => .none) else .none
      | none => .none)
    | none => .none)
  | _ => .none
theorem cMapEnt_ok (P : Program) (t : TypeId) (m k : Operand) : OpOk P (.mapEntry t m k) (cMapEnt P t) := by
  unfold cMapEnt
  split
  · split
    · split
      · split
        · split
          · exact fMapEntP_sound (by assumption) (pairT_ok (by assumption)) (by assumption) (by assumption) (fun φ => toV_rel (by assumption) φ)
          · trivial
        · trivial
      · trivial
    · trivial
  · trivial
noncomputable def cRangeM (P : Program) (t : TypeId) : OpF := match P.underlying t with | some (.map _ _) => .ef fRangeM | _ => .none
theorem cRangeM_ok (P : Program) (t : TypeId) (x : Operand) : OpOk P (.range t x) (cRangeM P t) := by
  unfold cRangeM
  split
  · exact fRangeM_sound (by assumption)
  · trivial
noncomputable def cLoad (P : Program) (t : TypeId) : OpF :=
  match P.underlying t, P.info? t with
  | some d, some i => if aggD d = false then .rd1 rLoad1 else .rd1 (rLoadN i.size)
  | _, _ => .none
theorem cLoad_ok (P : Program) (t : TypeId) (x : Operand) : OpOk P (.load t x) (cLoad P t) := by
  unfold cLoad
  split
  · split
    · rw [OpOk, rLoad1_eq]; exact fLoad1_sound (by assumption) (by assumption)
    · rename_i h; rw [OpOk, rLoadN_eq]; exact fLoadN_sound (by assumption) (by simpa using h) (by assumption)
  · trivial
noncomputable def cStore (P : Program) (t : TypeId) : OpF := match P.info? t with | some i => .ef (fStore i.size) | none => .none
theorem cStore_ok (P : Program) (t : TypeId) (a x : Operand) : OpOk P (.store t a x) (cStore P t) := by
  unfold cStore
  split
  · exact fStore_sound (by assumption)
  · trivial
def isIface : TypeDesc → Bool | .interface _ => true | _ => false
noncomputable def cMkI (P : Program) (t : TypeId) : OpF := match P.underlying t with | some d => if isIface d = false then .rd1 (rMkI t) else .none | none => .none
theorem cMkI_ok (P : Program) (t : TypeId) (x : Operand) : OpOk P (.makeInterface t x) (cMkI P t) := by
  unfold cMkI
  split
  · split
    · rename_i h; rw [OpOk, rMkI_eq]; exact fMkI_sound (by assumption) (fun m e => by subst e; simp [isIface] at h)
    · trivial
  · trivial
noncomputable def cAssert (P : Program) (t : TypeId) (ok : Bool) : OpF := match ok, P.underlying t with | false, some d => if isIface d = false then .rd (fAssert t) else .none | _, _ => .none
theorem cAssert_ok (P : Program) (x : Operand) (s t : TypeId) (ok : Bool) : OpOk P (.typeAssert x s t ok) (cAssert P t ok) := by
  unfold cAssert
  split
  · split
    · rename_i h; exact fAssert_sound (by assumption) (fun m e => by subst e; simp [isIface] at h)
    · trivial
  · trivial
noncomputable def cBuiltin (P : Program) (b : Builtin) (ts : Array TypeId) : OpF :=
  match b with
  | .min => .rd (fMin false)
  | .max => .rd (fMin true)
  | .cap => (match ts[0]? with
    | some t => (match P.underlying t with | some (.slice _) => .rd fCap | _ => .none)
    | none => .none)
  | .len => (match ts[0]? with
    | some t => (match P.underlying t with
      | some .string => .rd1 rLenStr
      | some (.slice _) => .rd1 rLenSl
      | some (.array n _) => .rd (fLenArr n)
      | some (.map _ _) => .rd fLenMap
      | _ => .none)
    | none => .none)
  | .append => (match ts[0]?, ts[1]? with
    | some t, some t2 => (match P.underlying t, P.underlying t2 with
      | some (.slice el), some d2 => (match P.info? el, P.underlying el with
        | some ie, some de => (match ie.zero with
          | some z => if z.cells.size = ie.size ∧ ie.bytes ≤ 1000 ∧ ie.bytes ≠ 0 ∧ keyInt d2 ≠ some true then
              (match de with | .int .u8 => if ie.size = 1 then .ef (fAppB el) else .none | _ => .ef (fAppC el ie.size))
            else if z.cells.size = ie.size ∧ ie.bytes ≤ 1000 ∧ ie.bytes ≠ 0 ∧ keyInt d2 = some true then
              (match z with | .int .u8 0 => if ie.size = 1 then .ef (fAppZ el) else .none | z => (match toVs z.cells.toList with | some zl => .ef (fAppZC el ie.size zl) | none => .none))
            else .none
          | none => .none)
        | _, _ => .none)
      | _, _ => .none)
    | _, _ => .none)
  | .copy => (match ts[0]? with
    | some t => (match P.underlying t with
      | some (.slice el) => (match P.info? el with | some ie => .ef (fCopy2 ie.size) | none => .none)
      | _ => .none)
    | none => .none)
  | .unsafeSliceData => .rd fSData
  | .unsafeString => (match ts.toList with
    | [pt, _] => (match P.underlying pt with
      | some (.pointer el) => if P.cellsOf el = 1 then .ef (fUStr el) else .none
      | _ => .none)
    | _ => .none)
  | _ => .none
theorem cBuiltin_ok (P : Program) (c : Call) (b : Builtin) (hc : c.callee = .builtin b) : OpOk P (.call c) (cBuiltin P b c.argTypes) := by
  unfold cBuiltin
  split
  · exact fMin_sound hc
  · exact fMax_sound hc
  · split
    · split
      · exact fCap_sound hc (by assumption) (by assumption)
      · trivial
    · trivial
  · split
    · split
      · rw [OpOk, rLenStr_eq]; exact fLenStr_sound hc (by assumption) (by assumption)
      · rw [OpOk, rLenSl_eq]; exact fLenSl_sound hc (by assumption) (by assumption)
      · exact fLenArr_sound hc (by assumption) (by assumption)
      · exact fLenMap_sound hc (by assumption) (by assumption)
      · trivial
    · trivial
  · split
    · split
      · split
        · split
          · split
            · rename_i h
              have hok : ∀ {el ie z t t2 d2}, c.argTypes[0]? = some t → c.argTypes[1]? = some t2 → P.underlying t = some (.slice el) → P.underlying t2 = some d2 → P.info? el = some ie → ie.zero = some z →
                  (z.cells.size = ie.size ∧ ie.bytes ≤ 1000 ∧ ie.bytes ≠ 0 ∧ keyInt d2 ≠ some true) → appOk P c.argTypes el ie z :=
                fun h1 h2 h3 h4 h5 h6 h7 => ⟨_, _, _, h1, h3, h5, h6, h7.1, h7.2.1, h7.2.2.1, h2, h4, fun _ k e => h7.2.2.2 (by rw [e]; rfl), fun e => absurd e (by simp)⟩
              have hk := hok (by assumption) (by assumption) (by assumption) (by assumption) (by assumption) (by assumption) h
              split
              · split
                · exact fAppB_sound hc hk (by assumption)
                · trivial
              · exact fAppC_sound hc hk
            · split
              · rename_i h
                have hki : ∀ {d2 : TypeDesc}, keyInt d2 = some true → ∃ k, d2 = .int k := by
                  intro d2 hd
                  cases d2 <;> simp [keyInt] at hd
                  exact ⟨_, rfl⟩
                split
                · split
                  · exact fAppZ_sound hc ⟨_, _, _, by assumption, by assumption, by assumption, by assumption, h.1, h.2.1, h.2.2.1, by assumption, by assumption, fun e => absurd e (by simp), fun _ => hki h.2.2.2⟩ (by assumption)
                  · trivial
                · split
                  · exact fAppZC_sound hc ⟨_, _, _, by assumption, by assumption, by assumption, by assumption, h.1, h.2.1, h.2.2.1, by assumption, by assumption, fun e => absurd e (by simp), fun _ => hki h.2.2.2⟩ (fun φ => toVs_rel (by assumption) φ) h.1
                  · trivial
              · trivial
          · trivial
        · trivial
      · trivial
    · trivial
  · split
    · split
      · split
        · exact fCopy2_sound hc (by assumption) (by assumption) (by assumption)
        · trivial
      · trivial
    · trivial
  · exact fSData_sound hc
  · split
    · rename_i h
      split
      · split
        · exact fUStr_sound hc (Array.ext' h) (by assumption) (by assumption)
        · trivial
      · trivial
    · trivial
  · trivial
noncomputable def compOp (P : Program) : Op → OpF
  | .move _ => .rd1 rId
  | .assign _ => .rd1 rId
  | .pick _ _ _ => .rd fPick
  | .alloc t => cAlloc P t
  | .box t _ => .al (fBox (byteRow P t) t)
  | .build t ps => cBuild P t ps
  | .buildSlice t n ps => cBSlice P t n ps
  | .load t _ => cLoad P t
  | .store t _ _ => cStore P t
  | .nilCheck _ => .rd1 rNil
  | .binOp op t _ y _ => cBin P op t y
  | .unOp .not _ _ => .rd1 rNot
  | .unOp .neg _ _ => .rd fNeg
  | .unOp .xor _ _ => .rd fXorU
  | .convert s t _ => cConvert P s t
  | .makeInterface t _ => cMkI P t
  | .typeAssert _ _ t ok => cAssert P t ok
  | .makeFunc (.func f) first _ => .rd (fMkF f first.size)
  | .makeMap _ none => .al fMkMap
  | .makeSlice t _ _ => cMkSlice P t
  | .slice t _ lo hi mx => cSlice P t lo hi mx
  | .fieldAddr t _ f => cFieldAddr P t f
  | .field t _ f => cField P t f
  | .indexAddr t _ _ => cIndexAddr P t
  | .index t _ _ => cIndex P t
  | .lookup t _ _ ok => cLookup P t ok
  | .mapUpdate t _ _ _ => cMapUpd P t
  | .insert t _ _ _ => cMapUpd P t
  | .mapEntry t _ _ => cMapEnt P t
  | .entryStore _ _ _ _ => .ef fEStore
  | .range t _ => cRangeM P t
  | .next _ false => .ef fNextM
  | .entry _ => .rd fEntryM
  | .extract _ i => .rd1 (rExt i)
  | .call { callee := .builtin b, argTypes := ts, .. } => cBuiltin P b ts
  | .call { callee := .value _, .. } => .call
  | .call { callee := .invoke _ name, .. } => .inv (methOf P name)
  | _ => .none
theorem compOp_ok (P : Program) (op : Op) : OpOk P op (compOp P op) := by
  unfold compOp
  split
  · rw [OpOk, rId_eq]; exact fId_sound
  · rw [OpOk, rId_eq]; exact fId_sound'
  · exact fPick_sound
  · exact cAlloc_ok P _
  · exact fBox_sound _
  · exact cBuild_ok P _ _
  · exact cBSlice_ok P _ _ _
  · exact cLoad_ok P _ _
  · exact cStore_ok P _ _ _
  · rw [OpOk, rNil_eq]; exact fNilChk_sound
  · exact cBin_ok P _ _ _ _ _
  · rw [OpOk, rNot_eq]; exact fNot_sound
  · exact fNeg_sound
  · exact fXorU_sound
  · exact cConvert_ok P _ _ _
  · exact cMkI_ok P _ _
  · exact cAssert_ok P _ _ _ _
  · exact fMkF_sound
  · exact fMkMap_sound
  · exact cMkSlice_ok P _ _ _
  · exact cSlice_ok P _ _ _ _ _
  · exact cFieldAddr_ok P _ _ _
  · exact cField_ok P _ _ _
  · exact cIndexAddr_ok P _ _ _
  · exact cIndex_ok P _ _ _
  · exact cLookup_ok P _ _ _ _
  · exact cMapUpd_ok P _ _ _ _
  · exact cInsert_ok P _ _ _ _
  · exact cMapEnt_ok P _ _ _
  · exact fEStore_sound
  · exact cRangeM_ok P _ _
  · exact fNextM_sound
  · exact fEntryM_sound
  · rw [OpOk, rExt_eq]; exact fExt_sound _
  · exact cBuiltin_ok P _ _ rfl
  · exact ⟨_, _, rfl, rfl⟩
  · exact ⟨_, _, _, rfl, rfl, rfl⟩
  · trivial
end Go.Ev
end
section
namespace Go.Ev
def Gam.kill (d : Tmp) : Gam → Gam
  | [] => []
  | p :: Γ => (p.1, match p.2 with | some (.loc t) => (bif Nat.beq t d then none else some (.loc t)) | s => s) :: Gam.kill d Γ
theorem Gam.find_kill (d : Tmp) : ∀ (Γ : Gam) (t : Tmp) (s : Src1), (Gam.kill d Γ).find t = some (some s) → Γ.find t = some (some s) ∧ s ≠ .loc d
  | [], t, s, h => by simp [Gam.kill, Gam.find] at h
  | p :: Γ, t, s, h => by
    simp only [Gam.kill, Gam.find] at h ⊢
    cases hp : Nat.beq p.1 t with
    | true =>
      rw [hp] at h
      simp only [cond_true, Option.some.injEq] at h ⊢
      cases hs : p.2 with
      | none => rw [hs] at h; simp at h
      | some s' =>
        rw [hs] at h
        cases s' with
        | loc u =>
          simp only [] at h
          cases hu : Nat.beq u d with
          | true => rw [hu] at h; simp at h
          | false =>
            rw [hu] at h; simp at h; subst h
            exact ⟨rfl, fun e => by simp at e; subst e; simp at hu⟩
        | env k => simp at h; subst h; exact ⟨rfl, by simp⟩
        | cst v => simp at h; subst h; exact ⟨rfl, by simp⟩
    | false =>
      rw [hp] at h
      simp only [cond_false] at h ⊢
      exact Gam.find_kill d Γ t s h
theorem getD_put_ne {a : Act} {d t : Tmp} {x : Value} (h : t ≠ d) : (a.put (some d) x).tmps.getD t undef = a.tmps.getD t undef := by
  simp only [Act.put, Array.getD_eq_getD_getElem?]
  rw [Array.getElem?_setIfInBounds_ne (fun e => h e.symm)]
theorem getD_put_self {a : Act} {d : Tmp} {x : Value} (h : d < a.tmps.size) : (a.put (some d) x).tmps.getD d undef = x := by
  simp [Act.put, h]
theorem put_size (a : Act) (d : Option Tmp) (x : Value) : (a.put d x).tmps.size = a.tmps.size := by cases d <;> simp [Act.put]
theorem put_defers' (a : Act) (d : Option Tmp) (x : Value) : (a.put d x).defers = a.defers := by cases d <;> rfl
theorem val_push {n : Nat} {s : Src1} {env : List V} {loc : T V} {v : V} (hl : env.length = n) (hp : ∀ p, s = .env p → p < n) : (absS (n + 1) s).val (v :: env) loc = (absS n s).val env loc := by
  cases s with
  | env p =>
    have := hp p rfl
    simp only [absS, Src1.val]
    rw [show n + 1 - 1 - p = (n - 1 - p) + 1 by omega, List.getElem?_cons_succ]
  | loc t => rfl
  | cst v => rfl
theorem GamOk.push {L : Nat → Bool} {N : Nat} {D : List Deferred} {φ : Phi} {Γ : Gam} {n : Nat} {env : List V} {loc : T V} {a : Act} {d : Tmp} {v : V} {x : Value} (hg : GamOk L N D φ Γ n env loc a) (hL : L d = false) (hd : d < N) (hv : VR φ v x) :
    GamOk L N D φ ((d, some (.env n)) :: Gam.kill d Γ) (n + 1) (v :: env) loc (a.put (some d) x) where
  size := by rw [put_size]; exact hg.size
  defers := by rw [put_defers']; exact hg.defers
  val t u hu := by
    obtain ⟨h1, h2⟩ := hg.val t u hu
    have : t ≠ d := fun e => by subst e; rw [hL] at h1; simp at h1
    rw [getD_put_ne this]; exact ⟨h1, h2⟩
  len := by simp [hg.len]
  gam t s hs := by
    simp only [Gam.find] at hs
    cases hp : Nat.beq d t with
    | true =>
      rw [hp] at hs; simp at hs; subst hs
      have := Nat.eq_of_beq_eq_true hp; subst this
      refine ⟨fun p e => by simp at e; omega, fun u hu => ?_⟩
      simp [absS, Src1.val] at hu; subst hu
      rw [getD_put_self (Nat.lt_of_lt_of_le hd hg.size)]; exact hv
    | false =>
      rw [hp] at hs; simp only [cond_false] at hs
      obtain ⟨h1, h2⟩ := Gam.find_kill d Γ t s hs
      obtain ⟨h3, h4⟩ := hg.gam t s h1
      have hne : t ≠ d := fun e => by subst e; simp at hp
      refine ⟨fun p e => by have := h3 p e; omega, fun u hu => ?_⟩
      rw [val_push hg.len h3] at hu
      rw [getD_put_ne hne]; exact h4 u hu
theorem GamOk.push0 {L : Nat → Bool} {N : Nat} {D : List Deferred} {φ : Phi} {Γ : Gam} {n : Nat} {env : List V} {loc : T V} {a : Act} {v : V} (hg : GamOk L N D φ Γ n env loc a) : GamOk L N D φ Γ (n + 1) (v :: env) loc a where
  size := hg.size
  defers := hg.defers
  val := hg.val
  len := by simp [hg.len]
  gam t s hs := by
    obtain ⟨h3, h4⟩ := hg.gam t s hs
    refine ⟨fun p e => by have := h3 p e; omega, fun u hu => ?_⟩
    rw [val_push hg.len h3] at hu
    exact h4 u hu
theorem GamOk.setLoc {L : Nat → Bool} {N : Nat} {D : List Deferred} {φ : Phi} {Γ : Gam} {n : Nat} {env : List V} {loc loc' : T V} {a : Act} {d : Tmp} {v : V} {x : Value} (hg : GamOk L N D φ Γ n env loc a) (hL : L d = true) (hd : d < N) (hv : VR φ v x)
    (hl : ∀ j, loc'.get j = if j = d then some v else loc.get j) : GamOk L N D φ ((d, some (.loc d)) :: Gam.kill d Γ) n env loc' (a.put (some d) x) where
  size := by rw [put_size]; exact hg.size
  defers := by rw [put_defers']; exact hg.defers
  val t u hu := by
    rw [hl] at hu
    by_cases e : t = d
    · subst e; rw [if_pos rfl] at hu; simp at hu; subst hu
      rw [getD_put_self (Nat.lt_of_lt_of_le hd hg.size)]; exact ⟨hL, hv⟩
    · rw [if_neg e] at hu
      rw [getD_put_ne e]; exact hg.val t u hu
  len := hg.len
  gam t s hs := by
    simp only [Gam.find] at hs
    cases hp : Nat.beq d t with
    | true =>
      rw [hp] at hs; simp at hs; subst hs
      have := Nat.eq_of_beq_eq_true hp; subst this
      refine ⟨by simp, fun u hu => ?_⟩
      simp [absS, Src1.val, hl] at hu; subst hu
      rw [getD_put_self (Nat.lt_of_lt_of_le hd hg.size)]; exact hv
    | false =>
      rw [hp] at hs; simp only [cond_false] at hs
      obtain ⟨h1, h2⟩ := Gam.find_kill d Γ t s hs
      obtain ⟨h3, h4⟩ := hg.gam t s h1
      have hne : t ≠ d := fun e => by subst e; simp at hp
      refine ⟨h3, fun u hu => ?_⟩
      rw [getD_put_ne hne]
      refine h4 u ?_
      cases s with
      | loc t' =>
        have : t' ≠ d := fun e => h2 (by rw [e])
        simp only [absS, Src1.val] at hu ⊢
        rw [hl, if_neg this] at hu; exact hu
      | env p => exact hu
      | cst c => exact hu
theorem GamOk.alias {L : Nat → Bool} {N : Nat} {D : List Deferred} {φ : Phi} {Γ : Gam} {n : Nat} {env : List V} {loc : T V} {a : Act} {d : Tmp} {s0 : Src1} {x : Value} (hg : GamOk L N D φ Γ n env loc a) (hL : L d = false) (hd : d < N)
    (hs0 : (∀ p, s0 = .env p → p < n) ∧ ∀ v, (absS n s0).val env loc = some v → VR φ v x) : GamOk L N D φ ((d, some s0) :: Gam.kill d Γ) n env loc (a.put (some d) x) where
  size := by rw [put_size]; exact hg.size
  defers := by rw [put_defers']; exact hg.defers
  val t u hu := by
    obtain ⟨h1, h2⟩ := hg.val t u hu
    have : t ≠ d := fun e => by subst e; rw [hL] at h1; simp at h1
    rw [getD_put_ne this]; exact ⟨h1, h2⟩
  len := hg.len
  gam t s hs := by
    simp only [Gam.find] at hs
    cases hp : Nat.beq d t with
    | true =>
      rw [hp] at hs; simp at hs; subst hs
      have := Nat.eq_of_beq_eq_true hp; subst this
      refine ⟨hs0.1, fun u hu => ?_⟩
      rw [getD_put_self (Nat.lt_of_lt_of_le hd hg.size)]; exact hs0.2 u hu
    | false =>
      rw [hp] at hs; simp only [cond_false] at hs
      obtain ⟨h1, h2⟩ := Gam.find_kill d Γ t s hs
      obtain ⟨h3, h4⟩ := hg.gam t s h1
      have hne : t ≠ d := fun e => by subst e; simp at hp
      exact ⟨h3, fun u hu => by rw [getD_put_ne hne]; exact h4 u hu⟩
end Go.Ev
end
section
namespace Go.Ev
noncomputable def riOf (f : OpF) (args : List Src1) (push : Bool) : RI :=
  match f with
  | .rd1 f => bif push then (match args with | [a] => .rd1 f a | args => .rd (of1 f) args) else .fail
  | .rd2 f => bif push then (match args with | [a, b] => .rd2 f a b | args => .rd (of2 f) args) else .fail
  | .rd f => bif push then .rd f args else .fail
  | .al f => .ef f args push
  | .ef f => .ef f args push
  | .call => .call args push
  | .none => .fail
  | .inv tbl => .inv tbl args push
theorem notDefer {P : Program} {o : Oper} {ρ : Operand → Value} {w w' : World} {x : Next} (h : (execOp ρ o).run P w = .ok x w') (hx : ∀ d, x ≠ .defer d) : ∀ c, o.op ≠ .defer c := by
  intro c e
  have e2 : execOp ρ o = (do pure (.defer (← resolve ρ c o.type))) := by simp only [execOp, e]
  rw [e2] at h
  simp only [Sem.run_bind] at h
  cases hq : (resolve ρ c o.type).run P w with
  | ok d w1 => rw [hq] at h; simp [Result.andThen, Sem.run_pure] at h; exact hx d h.1.symm
  | halt hh w1 => rw [hq] at h; simp [Result.andThen] at h
section
variable {P : Program} {ro : Option Nat} {o : Oper} {a : Act} {w w' : World} {next : Act → World → Prop} {Q : Exit → Act → World → Prop}
theorem wpF_value {x : Value} (h : (execOp a.eval o).run P w = .ok (.value x) w') (hn : next (a.put o.dst x) w') : o.wpIn (Fr ro) 0 P a w next Q := by
  refine ⟨fun _ _ => trivial, ?_⟩
  rw [Oper.semAt_eq _ _ _ (notDefer h (fun d e => by cases e)), h]
  exact hn
theorem wpF_skip (h : (execOp a.eval o).run P w = .ok .skip w') (hn : next (a.put o.dst undef) w') : o.wpIn (Fr ro) 0 P a w next Q := by
  refine ⟨fun _ _ => trivial, ?_⟩
  rw [Oper.semAt_eq _ _ _ (notDefer h (fun d e => by cases e)), h]
  exact hn
theorem wpF_enter {f : FuncId} {args : Array Value} {R : Ending → World → Prop} (h : (execOp a.eval o).run P w = .ok (.enter f args) w') (hc : Calls P f args w' R) (hn : ∀ e w'', R e w'' → ∃ v, e = .returned v ∧ next (a.put o.dst v) w'') :
    o.wpIn (Fr ro) 0 P a w next Q := by
  refine ⟨fun _ _ => trivial, ?_⟩
  rw [Oper.semAt_eq _ _ _ (notDefer h (fun d e => by cases e)), h]
  refine ⟨fun h => absurd h (by simp [Fr, Fence.wide]), ?_⟩
  refine (callsIn_wide (n := 0)).2 (hc.mono ?_)
  intro e w'' he
  obtain ⟨v, rfl, hv⟩ := hn e w'' he
  exact hv
theorem wpF_round {l : Nat} {f : FuncId} {tmps : Array Value} {asg body : Code} {R : Ending → World → Prop} (h : (execOp a.eval o).run P w = .ok (.round l f tmps asg body) w') (hc : RoundIn Fence.wide 0 P l f tmps asg body w' R)
    (hn : ∀ e w'', R e w'' → ∃ v, e = .returned v ∧ next (a.put o.dst v) w'') : o.wpIn (Fr ro) 0 P a w next Q := by
  refine ⟨fun _ _ => trivial, ?_⟩
  rw [Oper.semAt_eq _ _ _ (notDefer h (fun d e => by cases e)), h]
  refine ⟨fun h => absurd h (by simp [Fr, Fence.wide]), ?_⟩
  refine RoundIn.mono (R := R) hc ?_
  intro e w'' he
  obtain ⟨v, rfl, hv⟩ := hn e w'' he
  exact hv
end
section
variable {P : Program} {ro : Option Nat} {C : CallH} {L : Nat → Bool} {N : Nat} {B : Bd} {D : List Deferred} {φ : Phi} {Γ : Gam} {n : Nat} {env : List V} {loc : T V} {h : H} {a : Act} {w : World} {o : Oper} {args : List Src1} {push : Bool} {K' : EnvK} {next : Act → World → Prop} {Q : Exit → Act → World → Prop}
theorem execEf {f : Ef} (hf : EfSound P o.op f) (hg : GamOk L N D φ Γ n env loc a) (hr : HR B φ h w) (ha : opSs n Γ o.op.operands.toList = some args)
    (hk : (srcVs args env loc fun vs => f vs h fun v h' => pushK push v env fun env => K' env loc h') = true)
    (hn : ∀ v h' φ' x w', Ext φ φ' → VR φ' v x → HR B φ' h' w' → Below B w w' → K' (if push then v :: env else env) loc h' = true → next (a.put o.dst x) w') : o.wpIn (Fr ro) 0 P a w next Q := by
  obtain ⟨vs, h1, h2⟩ := srcVs_true hk
  have hv := opSs_rel hg ha h1
  obtain ⟨v, h', φ', x, w', h3, h4, h5, h6, h7, h8⟩ := hf o rfl B φ h w a.eval vs _ hr hv h2
  rw [pushK_eq] at h8
  have := hn v h' φ' x w' h4 h5 h6 h7 h8
  rcases h3 with h3 | ⟨hx, h3⟩
  · exact wpF_value h3 this
  · subst hx; exact wpF_skip h3 this
theorem execRd {f : Rd} (hok : RdSound P o.op f) (hg : GamOk L N D φ Γ n env loc a) (hr : HR B φ h w) (ha : opSs n Γ o.op.operands.toList = some args)
    (hk : (srcVs args env loc fun vs => f vs h fun v => K' (v :: env) loc h) = true)
    (hn : ∀ v h' φ' x w', Ext φ φ' → VR φ' v x → HR B φ' h' w' → Below B w w' → K' (v :: env) loc h' = true → next (a.put o.dst x) w') : o.wpIn (Fr ro) 0 P a w next Q := by
  obtain ⟨vs, h1, h2⟩ := srcVs_true hk
  obtain ⟨v, x, h3, h4, h5⟩ := hok o rfl B φ h w a.eval vs _ hr (opSs_rel hg ha h1) h2
  exact wpF_value h3 (hn v h φ x w (Ext.refl φ) h4 hr (Below.refl _ _) h5)
theorem notY {f : FuncId} {x : Bool} (h : (bif Nat.beq f YLD then false else x) = true) : f ≠ YLD ∧ x = true := by
  cases hb : Nat.beq f YLD with
  | true => rw [hb] at h; simp at h
  | false => rw [hb] at h; exact ⟨fun e => by rw [e] at hb; simp at hb, h⟩
theorem invRun {c : Call} {cx : Operand} {name : String} {vs : List V} {Kc : V → H → Bool} (hC : CallOk P C) (hr : HR B φ h w) (hop : o.op = .call c) (hcal : c.callee = .invoke cx name) (hv : VRs φ vs (o.op.operands.toList.map a.eval))
    (h2 : invM C (methOf P name) h Kc vs = true) (hn : ∀ v h' φ' x w', Ext φ φ' → VR φ' v x → HR B φ' h' w' → Below B w w' → Kc v h' = true → next (a.put o.dst x) w') : o.wpIn (Fr ro) 0 P a w next Q := by
  unfold invM at h2
  split at h2
  · rename_i t v r
    have hops : o.op.operands.toList.map a.eval = a.eval cx :: (c.args.map a.eval).toList := by
      rw [hop]; simp [Op.operands, Call.operands, hcal]
    rw [hops] at hv
    cases hv with | cons hfv hrv =>
    generalize hfx : a.eval cx = fx at hfv
    cases hfv with
    | @iface _ _ x hx =>
      have go : ∀ (f : FuncId) (po : Option Nat) (u : V) (y : Value), methOf P name t = some (f, po) → RecvIs w x po y → VR φ u y → (bif Nat.beq f YLD then false else C f (u :: r) h Kc) = true → o.wpIn (Fr ro) 0 P a w next Q := by
        intro f po u y ht hrecv hu h2
        have hva : VRs φ (u :: r) (#[y] ++ c.args.map a.eval).toList := by
          rw [Array.toList_append]; exact .cons hu hrv
        have hrw : (execOp a.eval o).run P w = (callFunc f (#[y] ++ c.args.map a.eval)).run P w := by
          rw [← run_callMethod ht x y _ w hrecv]
          have e1 : (#[Value.iface t x] ++ c.args.map a.eval)[0]? = some (.iface t x) := by
            rw [Array.getElem?_append_left (by simp)]; rfl
          have e2 : (#[Value.iface t x] ++ c.args.map a.eval).extract 1 (#[Value.iface t x] ++ c.args.map a.eval).size = c.args.map a.eval := by
            apply Array.toList_inj.1
            simp
            rw [List.take_of_length_le (by simp)]
          simp only [execOp, hop, resolve, hcal, hfx, Sem.run_bind, Sem.run_pure, Result.andThen_ok, invoke, e1, e2]
        obtain ⟨hne, h2⟩ := notY h2
        rcases hC.fn f _ h _ hne h2 B φ w _ hr hva with ⟨hent, hcalls⟩ | ⟨y, w', hval, v, h', φ', x', he, g1, g2, g3, g4, g5⟩
        · refine wpF_enter (hrw.trans hent) hcalls ?_
          rintro e w' ⟨v, h', φ', x, rfl, g1, g2, g3, g4, g5⟩
          exact ⟨x, rfl, hn v h' φ' x w' g1 g2 g3 g4 g5⟩
        · simp only [Ending.returned.injEq] at he; subst he
          exact wpF_value (hrw.trans hval) (hn v h' φ' _ w' g1 g2 g3 g4 g5)
      split at h2
      · rename_i f ht
        exact go f none v x ht rfl hx h2
      · rename_i f d ht
        split at h2
        · rename_i b off
          obtain ⟨L, hL, rfl⟩ := hx.ptr_inv
          obtain ⟨k, hb, hl, h3⟩ := blkK_true h2
          obtain ⟨h4, h5⟩ := bif_true h3
          obtain ⟨u, y, h6, h7, h8⟩ := datK_sound (hr.hold b L k hL hb hl) (blt_iff.1 h4) h5
          exact go f (some d) u y ht ⟨_, rfl, by rw [addr_add', Nat.add_assoc]; exact h6⟩ h7 h8
        · exact absurd h2 (by simp)
      · exact absurd h2 (by simp)
  · exact absurd h2 (by simp)
theorem execRI (hC : CallOk P C) (hg : GamOk L N D φ Γ n env loc a) (hr : HR B φ h w) (ha : opSs n Γ o.op.operands.toList = some args)
    (hk : stepRI C (riOf (compOp P o.op) args push) env loc h K' = true)
    (hn : ∀ v h' φ' x w', Ext φ φ' → VR φ' v x → HR B φ' h' w' → Below B w w' → K' (if push then v :: env else env) loc h' = true → next (a.put o.dst x) w') : o.wpIn (Fr ro) 0 P a w next Q := by
  have hok := compOp_ok P o.op
  cases hf : compOp P o.op with
  | rd1 f =>
    rw [hf] at hk hok
    cases push with
    | false => exact absurd (show false = true from hk) (by simp)
    | true =>
      refine execRd hok hg hr ha ?_ hn
      match args, hk with
      | [], hk => exact hk
      | [a], hk => exact hk
      | a :: b :: l, hk => exact hk
  | rd2 f =>
    rw [hf] at hk hok
    cases push with
    | false => exact absurd (show false = true from hk) (by simp)
    | true =>
      refine execRd hok hg hr ha ?_ hn
      match args, hk with
      | [], hk => exact hk
      | [a], hk => exact hk
      | [a, b], hk => exact hk
      | a :: b :: c :: l, hk => exact hk
  | rd f =>
    rw [hf] at hk hok
    cases push with
    | false => exact absurd (show false = true from hk) (by simp)
    | true => exact execRd hok hg hr ha hk hn
  | al f => rw [hf] at hk hok; exact execEf (AlSound.ef hok) hg hr ha hk hn
  | ef f => rw [hf] at hk hok; exact execEf hok hg hr ha hk hn
  | none => rw [hf] at hk; exact absurd (show false = true from hk) (by simp)
  | inv tbl =>
    rw [hf] at hk hok
    obtain ⟨c, cx, name, hop, hcal, rfl⟩ := hok
    have hk' : (srcVs args env loc fun vs => invM C (methOf P name) h (fun v h' => pushK push v env fun env => K' env loc h') vs) = true := hk
    obtain ⟨vs, h1, h2⟩ := srcVs_true hk'
    refine invRun hC hr hop hcal (opSs_rel hg ha h1) h2 ?_
    intro v h' φ' x w' g1 g2 g3 g4 g5
    rw [pushK_eq] at g5
    exact hn v h' φ' x w' g1 g2 g3 g4 g5
  | call =>
    rw [hf] at hk hok
    obtain ⟨c, cx, hop, hcal⟩ := hok
    have hk' : (srcVs args env loc fun vs => (match vs with
      | .func f first cap :: r => bif Nat.beq f YLD then false else C f (first ++ r ++ cap) h fun v h' => pushK push v env fun env => K' env loc h'
      | .yld b :: r => C YLD (.yld b :: r) h fun v h' => pushK push v env fun env => K' env loc h'
      | _ => false)) = true := hk
    obtain ⟨vs, h1, h2⟩ := srcVs_true hk'
    have hv := opSs_rel hg ha h1
    split at h2
    · rename_i f first cap r
      have hops : o.op.operands.toList.map a.eval = a.eval cx :: (c.args.map a.eval).toList := by
        rw [hop]; simp [Op.operands, Call.operands, hcal]
      rw [hops] at hv
      cases hv with | cons hfv hrv =>
      generalize hfx : a.eval cx = fx at hfv
      cases hfv with
      | @func _ _ _ xs ys h3 h4 =>
        have hva : VRs φ (first ++ r ++ cap) (xs ++ c.args.map a.eval ++ ys).toList := by
          rw [Array.toList_append, Array.toList_append]; exact (h3.append hrv).append h4
        have hrw : (execOp a.eval o).run P w = (callFunc f (xs ++ c.args.map a.eval ++ ys)).run P w := by
          simp only [execOp, hop, resolve, hcal, hfx, Deferred.ofValue, Sem.run_bind, Sem.run_pure, Result.andThen_ok, invoke]
        obtain ⟨hne, h2⟩ := notY h2
        rcases hC.fn f _ h _ hne h2 B φ w _ hr hva with ⟨hent, hcalls⟩ | ⟨x, w', hval, v, h', φ', x', he, g1, g2, g3, g4, g5⟩
        · refine wpF_enter (hrw.trans hent) hcalls ?_
          rintro e w' ⟨v, h', φ', x, rfl, g1, g2, g3, g4, g5⟩
          have g5 : (pushK push v env fun env => K' env loc h') = true := g5
          rw [pushK_eq] at g5; exact ⟨x, rfl, hn v h' φ' x w' g1 g2 g3 g4 g5⟩
        · simp only [Ending.returned.injEq] at he; subst he
          have g5 : (pushK push v env fun env => K' env loc h') = true := g5
          rw [pushK_eq] at g5; exact wpF_value (hrw.trans hval) (hn v h' φ' x w' g1 g2 g3 g4 g5)
    · rename_i b r
      have hops : o.op.operands.toList.map a.eval = a.eval cx :: (c.args.map a.eval).toList := by
        rw [hop]; simp [Op.operands, Call.operands, hcal]
      rw [hops] at hv
      cases hv with | cons hfv hrv =>
      generalize hfx : a.eval cx = fx at hfv
      cases hfv with
      | @yld _ Lo hL =>
        obtain ⟨fn, tmps, asg, body, hy, hround⟩ := hC.yld b r h _ h2 B φ w _ Lo hr hL hrv
        have hrw : (execOp a.eval o).run P w = (Instr.yield Lo.blk (c.args.map a.eval)).run P w := by
          simp only [execOp, hop, resolve, hcal, hfx, Deferred.ofValue, Sem.run_bind, Sem.run_pure, Result.andThen_ok, invoke]
          simp
        refine wpF_round (hrw.trans hy) hround ?_
        rintro e w' ⟨v, h', φ', x, rfl, g1, g2, g3, g4, g5⟩
        have g5 : (pushK push v env fun env => K' env loc h') = true := g5
        rw [pushK_eq] at g5; exact ⟨x, rfl, hn v h' φ' x w' g1 g2 g3 g4 g5⟩
    · exact absurd h2 (by simp)
end
end Go.Ev
end
section
namespace Go.Ev
structure Reg where
  l : List GI
  n : Nat
  Γ : Gam
def failR : Reg := ⟨[⟨none, false, .fail⟩], 0, []⟩
def movedOf : Op → Option Operand | .move x => some x | .assign x => some x | _ => none
def memD (t : Tmp) : List (Option Tmp) → Bool
  | [] => false
  | some d :: l => bif Nat.beq d t then true else memD t l
  | none :: l => memD t l
def badSrc (L : Nat → Bool) (dsts : List (Option Tmp)) : Operand → Bool
  | .tmp t => L t && memD t dsts
  | _ => false
def movedD (L : Nat → Bool) (dsts : List (Option Tmp)) (op : Op) : Option Operand := match movedOf op with | some x => bif badSrc L dsts x then none else some x | none => none
theorem movedD_some {L : Nat → Bool} {dsts : List (Option Tmp)} {op : Op} {x : Operand} (h : movedD L dsts op = some x) : movedOf op = some x := by
  unfold movedD at h
  split at h
  · rename_i y hy
    cases hb : badSrc L dsts y with
    | true => rw [hb] at h; simp at h
    | false => rw [hb] at h; simp at h; rw [← h]; exact hy
  · simp at h
def pushesF (f : OpF) : Bool := match f with | .rd1 _ => true | .rd2 _ => true | .rd _ => true | _ => false
section
variable (P : Program) (L : Nat → Bool) (N : Nat)
noncomputable def genC (g : Option (Src1 × Bool)) (o : Oper) (n : Nat) (Γ : Gam) : Reg :=
  match opSs n Γ o.op.operands.toList with
  | none => failR
  | some args => (match o.dst with
    | none => (let f := compOp P o.op
      bif pushesF f then ⟨[⟨g, true, riOf f args true⟩], n + 1, Γ⟩ else ⟨[⟨g, false, riOf f args false⟩], n, Γ⟩)
    | some d => bif Nat.blt d N then
        (bif L d then ⟨[⟨g, true, riOf (compOp P o.op) args true⟩, ⟨none, false, .set d (.env 0)⟩], n + 1, (d, some (.loc d)) :: Gam.kill d Γ⟩
        else ⟨[⟨g, true, riOf (compOp P o.op) args true⟩], n + 1, (d, some (.env n)) :: Gam.kill d Γ⟩) else failR)
noncomputable def stepC (dsts : List (Option Tmp)) (o : Oper) (n : Nat) (Γ : Gam) : Reg :=
  match o.guard with
  | none => (match movedD L dsts o.op, o.dst with
    | some x, some d => (match opS n Γ x with
      | some s => bif Nat.blt d N then (bif L d then ⟨[⟨none, false, .set d (absS n s)⟩], n, (d, some (.loc d)) :: Gam.kill d Γ⟩ else ⟨[], n, (d, some s) :: Gam.kill d Γ⟩) else failR
      | none => failR)
    | _, _ => genC P L N none o n Γ)
  | some (j, want) => (match dsts[j]? with
    | some (some t) => (match opS n Γ (.tmp t) with
      | some s => genC P L N (some (absS n s, want)) o n Γ
      | none => failR)
    | _ => failR)
noncomputable def compR (dsts : List (Option Tmp)) : List Oper → Nat → Gam → Reg
  | [], n, Γ => ⟨[], n, Γ⟩
  | o :: os, n, Γ =>
    let r := stepC P L N dsts o n Γ
    let q := compR dsts os r.n r.Γ
    ⟨r.l ++ q.l, q.n, q.Γ⟩
end
theorem regK_append {C : CallH} : ∀ (l m : List GI) (env : List V) (loc : T V) (h : H) (K : EnvK), regK C (l ++ m) env loc h K = regK C l env loc h fun env loc h => regK C m env loc h K
  | [], m, env, loc, h, K => rfl
  | g :: l, m, env, loc, h, K => by
    show stepGI C g env loc h (fun env loc h => regK C (l ++ m) env loc h K) = stepGI C g env loc h fun env loc h => regK C l env loc h fun env loc h => regK C m env loc h K
    have : (fun env loc h => regK C (l ++ m) env loc h K) = fun env loc h => regK C l env loc h fun env loc h => regK C m env loc h K := by
      funext env loc h; exact regK_append l m env loc h K
    rw [this]
section
variable {P : Program} {ro : Option Nat} {C : CallH} {L : Nat → Bool} {N : Nat} {B : Bd} {D : List Deferred} {Q : Exit → Act → World → Prop} {ops : Array Oper}
def Behind (L : Nat → Bool) (N : Nat) (B : Bd) (D : List Deferred) (φ : Phi) (w : World) (Γ : Gam) (n : Nat) (K : EnvK) (a' : Act) (w' : World) : Prop :=
  ∃ φ' env' loc' h', Ext φ φ' ∧ GamOk L N D φ' Γ n env' loc' a' ∧ HR B φ' h' w' ∧ Below B w w' ∧ K env' loc' h' = true
theorem set_true {t : Nat} {s : Src1} {env : List V} {loc : T V} {h : H} {K : EnvK} (hk : stepRI C (.set t s) env loc h K = true) : ∃ v loc', s.val env loc = some v ∧ (∀ j, loc'.get j = if j = t then some v else loc.get j) ∧ K env loc' h = true := by
  have hk' : (srcV s env loc fun v => loc.setK t v fun loc => K env loc h) = true := hk
  obtain ⟨v, h1, h2⟩ := srcV_true hk'
  obtain ⟨loc', h3, h4⟩ := T.setK_true _ _ _ _ h2
  exact ⟨v, loc', h1, h3, h4⟩
theorem genC_done {φ : Phi} {Γ : Gam} {n : Nat} {env : List V} {loc : T V} {h : H} {a : Act} {w : World} {o : Oper} {K : EnvK} (hC : CallOk P C) (hg : GamOk L N D φ Γ n env loc a) (hr : HR B φ h w)
    (hk : regK C (genC P L N none o n Γ).l env loc h K = true) : o.wpIn (Fr ro) 0 P a w (Behind L N B D φ w (genC P L N none o n Γ).Γ (genC P L N none o n Γ).n K) Q := by
  unfold genC at hk ⊢
  cases ha : opSs n Γ o.op.operands.toList with
  | none => rw [ha] at hk; exact absurd (show false = true from hk) (by simp)
  | some args =>
    rw [ha] at hk
    simp only [] at hk ⊢
    cases hd : o.dst with
    | none =>
      rw [hd] at hk
      simp only [] at hk ⊢
      cases hp : pushesF (compOp P o.op) with
      | true =>
        rw [hp] at hk
        simp only [cond_true] at hk ⊢
        refine execRI hC hg hr ha (push := true) (K' := K) hk ?_
        intro v h' φ' x w' h1 h2 h3 h4 h5
        rw [hd]
        exact ⟨φ', _, loc, h', h1, (hg.mono h1).push0, h3, h4, h5⟩
      | false =>
        rw [hp] at hk
        simp only [cond_false] at hk ⊢
        refine execRI hC hg hr ha (push := false) (K' := K) hk ?_
        intro v h' φ' x w' h1 h2 h3 h4 h5
        rw [hd]
        exact ⟨φ', _, loc, h', h1, hg.mono h1, h3, h4, h5⟩
    | some d =>
      rw [hd] at hk
      simp only [] at hk ⊢
      cases hN : Nat.blt d N with
      | false => rw [hN] at hk; exact absurd (show false = true from hk) (by simp)
      | true =>
        rw [hN] at hk
        simp only [cond_true] at hk ⊢
        have hdN := blt_iff.1 hN
        cases hL : L d with
        | true =>
          rw [hL] at hk
          simp only [cond_true] at hk ⊢
          refine execRI hC hg hr ha (push := true) (K' := fun env loc h => stepRI C (.set d (.env 0)) env loc h K) hk ?_
          intro v h' φ' x w' h1 h2 h3 h4 h5
          obtain ⟨u, loc', g1, g2, g3⟩ := set_true h5
          have hu : v = u := by simpa [Src1.val] using g1
          subst hu
          rw [hd]
          exact ⟨φ', _, loc', h', h1, ((hg.mono h1).push0).setLoc hL hdN h2 g2 |> fun g => ⟨g.toLocOk, g.len, g.gam⟩, h3, h4, g3⟩
        | false =>
          rw [hL] at hk
          simp only [cond_false] at hk ⊢
          refine execRI hC hg hr ha (push := true) (K' := K) hk ?_
          intro v h' φ' x w' h1 h2 h3 h4 h5
          rw [hd]
          exact ⟨φ', _, loc, h', h1, (hg.mono h1).push hL hdN h2, h3, h4, h5⟩
theorem genC_skipped {φ : Phi} {Γ : Gam} {n : Nat} {env : List V} {loc : T V} {h : H} {a : Act} {w : World} {o : Oper} {K : EnvK} (s : Src1) (want : Bool) (hg : GamOk L N D φ Γ n env loc a) (hr : HR B φ h w)
    (hsk : ∀ g K, g.guard = some (s, want) → stepGI C g env loc h K = true → pushK g.push undefV env (fun env => K env loc h) = true)
    (hk : regK C (genC P L N (some (s, want)) o n Γ).l env loc h K = true) : Behind L N B D φ w (genC P L N (some (s, want)) o n Γ).Γ (genC P L N (some (s, want)) o n Γ).n K (a.put o.dst undef) w := by
  unfold genC at hk ⊢
  cases ha : opSs n Γ o.op.operands.toList with
  | none => rw [ha] at hk; exact absurd (show false = true from hk) (by simp)
  | some args =>
    rw [ha] at hk
    simp only [] at hk ⊢
    cases hd : o.dst with
    | none =>
      rw [hd] at hk
      simp only [] at hk ⊢
      cases hp : pushesF (compOp P o.op) with
      | true =>
        rw [hp] at hk
        simp only [cond_true] at hk ⊢
        have h5 := hsk ⟨some (s, want), true, riOf (compOp P o.op) args true⟩ K rfl hk
        exact ⟨φ, _, loc, h, Ext.refl φ, hg.push0, hr, Below.refl _ _, h5⟩
      | false =>
        rw [hp] at hk
        simp only [cond_false] at hk ⊢
        have h5 := hsk ⟨some (s, want), false, riOf (compOp P o.op) args false⟩ K rfl hk
        exact ⟨φ, _, loc, h, Ext.refl φ, hg, hr, Below.refl _ _, h5⟩
    | some d =>
      rw [hd] at hk
      simp only [] at hk ⊢
      cases hN : Nat.blt d N with
      | false => rw [hN] at hk; exact absurd (show false = true from hk) (by simp)
      | true =>
        rw [hN] at hk
        simp only [cond_true] at hk ⊢
        have hdN := blt_iff.1 hN
        cases hL : L d with
        | true =>
          rw [hL] at hk
          simp only [cond_true] at hk ⊢
          have h5 := hsk ⟨some (s, want), true, riOf (compOp P o.op) args true⟩ (fun env loc h => stepRI C (.set d (.env 0)) env loc h K) rfl hk
          have h5' : stepRI C (.set d (.env 0)) (undefV :: env) loc h K = true := h5
          obtain ⟨u, loc', g1, g2, g3⟩ := set_true h5'
          have hu : undefV = u := by simpa [Src1.val] using g1
          subst hu
          exact ⟨φ, _, loc', h, Ext.refl φ, hg.push0.setLoc hL hdN (undefV_rel φ) g2, hr, Below.refl _ _, g3⟩
        | false =>
          rw [hL] at hk
          simp only [cond_false] at hk ⊢
          have h5 := hsk ⟨some (s, want), true, riOf (compOp P o.op) args true⟩ K rfl hk
          exact ⟨φ, _, loc, h, Ext.refl φ, hg.push hL hdN (undefV_rel φ), hr, Below.refl _ _, h5⟩
theorem srcV_eq {s : Src1} {env : List V} {loc : T V} {v : V} (h : s.val env loc = some v) (K : V → Bool) : srcV s env loc K = K v := by
  cases s with
  | loc t => show loc.getK t K = _; rw [T.getK_eq]; simp [Src1.val] at h; rw [h]
  | env k =>
    simp [Src1.val] at h
    show nthK env k K = _
    induction env generalizing k with
    | nil => simp at h
    | cons a env ih =>
      cases k with
      | zero => simp at h; subst h; rfl
      | succ k => simp at h; exact ih k h
  | cst u => simp [Src1.val] at h; subst h; rfl
theorem stepGI_some {gi : GI} {p : Src1 × Bool} (hg : gi.guard = some p) {env : List V} {loc : T V} {h : H} {K : EnvK} : stepGI C gi env loc h K = srcV p.1 env loc fun v => (match v with
      | .bool b => Bool.rec (motive := fun _ => Bool) (pushK gi.push undefV env fun env => K env loc h) (stepRI C gi.i env loc h K) (b == p.2)
      | .tup _ => pushK gi.push undefV env fun env => K env loc h
      | _ => false) := by
  obtain ⟨g, q, i⟩ := gi
  simp only [] at hg; subst hg; rfl
theorem genC_src {o : Oper} {n : Nat} {Γ : Gam} {p : Src1 × Bool} {env : List V} {loc : T V} {h : H} {K : EnvK} (hk : regK C (genC P L N (some p) o n Γ).l env loc h K = true) :
    ∃ v, p.1.val env loc = some v ∧ ((∃ b, v = .bool b) ∨ ∃ l, v = .tup l) := by
  have hne : ∃ gi r, (genC P L N (some p) o n Γ).l = gi :: r ∧ (gi.guard = some p ∨ gi.i = .fail ∧ gi.guard = none) := by
    unfold genC
    split
    · exact ⟨_, [], rfl, .inr ⟨rfl, rfl⟩⟩
    · split
      · simp only []
        cases pushesF (compOp P o.op)
        · exact ⟨_, [], rfl, .inl rfl⟩
        · exact ⟨_, [], rfl, .inl rfl⟩
      · rename_i d _
        cases Nat.blt d N
        · exact ⟨_, [], rfl, .inr ⟨rfl, rfl⟩⟩
        · simp only [cond_true]
          cases L d
          · exact ⟨_, [], rfl, .inl rfl⟩
          · exact ⟨_, _, rfl, .inl rfl⟩
  obtain ⟨gi, r, hl, hg⟩ := hne
  rw [hl] at hk
  have hk' : stepGI C gi env loc h (fun env loc h => regK C r env loc h K) = true := hk
  rcases hg with hg | ⟨hi, hg⟩
  · rw [stepGI_some hg] at hk'
    obtain ⟨v, h1, h2⟩ := srcV_true hk'
    refine ⟨v, h1, ?_⟩
    split at h2
    · exact .inl ⟨_, rfl⟩
    · exact .inr ⟨_, rfl⟩
    · exact absurd h2 (by simp)
  · obtain ⟨g, q, i⟩ := gi
    simp only [] at hg hi; subst hg; subst hi
    exact absurd (show false = true from hk') (by simp)
theorem genC_guard {o : Oper} {n : Nat} {Γ : Gam} (p : Src1 × Bool) {env : List V} {loc : T V} {h : H} {K : EnvK} (hs : ∀ gi K', gi.guard = some p → stepGI C gi env loc h K' = stepGI C ⟨none, gi.push, gi.i⟩ env loc h K') :
    regK C (genC P L N (some p) o n Γ).l env loc h K = regK C (genC P L N none o n Γ).l env loc h K ∧ (genC P L N (some p) o n Γ).Γ = (genC P L N none o n Γ).Γ ∧ (genC P L N (some p) o n Γ).n = (genC P L N none o n Γ).n := by
  unfold genC
  split
  · exact ⟨rfl, rfl, rfl⟩
  · rename_i args _
    split
    · simp only []
      cases pushesF (compOp P o.op)
      · exact ⟨hs ⟨some p, false, riOf (compOp P o.op) args false⟩ K rfl, rfl, rfl⟩
      · exact ⟨hs ⟨some p, true, riOf (compOp P o.op) args true⟩ K rfl, rfl, rfl⟩
    · rename_i d _
      cases Nat.blt d N
      · exact ⟨rfl, rfl, rfl⟩
      · simp only [cond_true]
        cases L d
        · exact ⟨hs ⟨some p, true, riOf (compOp P o.op) args true⟩ K rfl, rfl, rfl⟩
        · exact ⟨hs ⟨some p, true, riOf (compOp P o.op) args true⟩ (fun env loc h => stepRI C (.set d (.env 0)) env loc h K) rfl, rfl, rfl⟩
theorem stepC_sound {φ : Phi} {Γ : Gam} {n : Nat} {env : List V} {loc : T V} {h : H} {a : Act} {w : World} {o : Oper} {i : Nat} {K : EnvK} (hC : CallOk P C) (ho : ops[i]? = some o) (hg : GamOk L N D φ Γ n env loc a) (hr : HR B φ h w)
    (hk : regK C (stepC P L N (ops.toList.map (·.dst)) o n Γ).l env loc h K = true) :
    wpOpIn (Fr ro) 0 P ops Q i (Behind L N B D φ w (stepC P L N (ops.toList.map (·.dst)) o n Γ).Γ (stepC P L N (ops.toList.map (·.dst)) o n Γ).n K) a w := by
  unfold wpOpIn
  simp only [ho]
  unfold stepC at hk ⊢
  cases hgd : o.guard with
  | none =>
    rw [hgd] at hk
    simp only [] at hk ⊢
    have hw : Region.wanted o (yielded ops a.tmps) = true := by unfold Region.wanted; rw [hgd]
    rw [if_pos hw]
    split at hk
    · rename_i x d hx0 hd
      have hx := movedD_some hx0
      cases hs : opS n Γ x with
      | none => rw [hs] at hk; exact absurd (show false = true from hk) (by simp)
      | some s =>
        rw [hs] at hk
        simp only [] at hk ⊢
        have hrel := opS_rel hg hs
        have hrun : (execOp a.eval o).run P w = .ok (.value (a.eval x)) w := by
          unfold movedOf at hx
          split at hx
          · rename_i y hop; simp at hx; subst hx; simp only [execOp, hop]; rfl
          · rename_i y hop; simp at hx; subst hx; simp only [execOp, hop]; rfl
          · exact absurd hx (by simp)
        cases hN : Nat.blt d N with
        | false => rw [hN] at hk; exact absurd (show false = true from hk) (by simp)
        | true =>
          rw [hN] at hk
          simp only [cond_true] at hk ⊢
          have hdN := blt_iff.1 hN
          refine wpF_value hrun ?_
          cases hL : L d with
          | true =>
            rw [hL] at hk
            simp only [cond_true] at hk ⊢
            have hk' : stepRI C (.set d (absS n s)) env loc h K = true := hk
            obtain ⟨v, loc', g1, g2, g3⟩ := set_true hk'
            show Behind L N B D φ w _ n K (a.put o.dst (a.eval x)) w
            rw [hd]
            exact ⟨φ, env, loc', h, Ext.refl φ, hg.setLoc hL hdN (hrel.2 v g1) g2, hr, Below.refl _ _, g3⟩
          | false =>
            rw [hL] at hk
            simp only [cond_false] at hk ⊢
            show Behind L N B D φ w _ n K (a.put o.dst (a.eval x)) w
            rw [hd]
            exact ⟨φ, env, loc, h, Ext.refl φ, hg.alias hL hdN hrel, hr, Below.refl _ _, hk⟩
    · rename_i hnm
      exact genC_done hC hg hr hk
  | some gw =>
    obtain ⟨j, want⟩ := gw
    rw [hgd] at hk
    simp only [] at hk ⊢
    cases hj : (ops.toList.map (·.dst))[j]? with
    | none => rw [hj] at hk; exact absurd (show false = true from hk) (by simp)
    | some dj =>
      cases dj with
      | none => rw [hj] at hk; exact absurd (show false = true from hk) (by simp)
      | some t =>
        rw [hj] at hk
        simp only [] at hk ⊢
        cases hs : opS n Γ (.tmp t) with
        | none => rw [hs] at hk; exact absurd (show false = true from hk) (by simp)
        | some s =>
          rw [hs] at hk
          simp only [] at hk ⊢
          have hrel := opS_rel hg hs
          have hdj : (ops[j]?).bind (·.dst) = some t := by
            rw [List.getElem?_map, Array.getElem?_toList] at hj
            cases ho' : ops[j]? with
            | none => rw [ho'] at hj; simp at hj
            | some oj => rw [ho'] at hj; simp at hj; simp [hj]
          have hyield : ∀ v, (absS n s).val env loc = some v → (∀ b, v = .bool b → yielded ops a.tmps j = some b) ∧ (∀ l, v = .tup l → yielded ops a.tmps j = none) := by
            intro v hv
            have hvr : VR φ v (a.tmps.getD t undef) := hrel.2 v hv
            constructor
            · intro b hb
              subst hb
              have := hvr.bool_inv
              unfold yielded
              rw [hdj]
              simp only [Option.bind_some]
              rw [Array.getD_eq_getD_getElem?] at this
              cases hx : a.tmps[t]? with
              | none => rw [hx] at this; simp [undef] at this
              | some y => rw [hx] at this; simp at this; subst this; rfl
            · intro l hl
              subst hl
              obtain ⟨xs, hx, _⟩ := hvr.tup_inv
              unfold yielded
              rw [hdj]
              simp only [Option.bind_some]
              rw [Array.getD_eq_getD_getElem?] at hx
              cases hy : a.tmps[t]? with
              | none => rfl
              | some y => rw [hy] at hx; simp at hx; subst hx; rfl
          have hwant : Region.wanted o (yielded ops a.tmps) = (yielded ops a.tmps j == some want) := by unfold Region.wanted; rw [hgd]
          obtain ⟨v, hv, hcase⟩ := genC_src hk
          rcases hcase with ⟨b, rfl⟩ | ⟨l, rfl⟩
          · have hy := (hyield _ hv).1 b rfl
            cases hb : (b == want) with
            | true =>
              have hw : Region.wanted o (yielded ops a.tmps) = true := by rw [hwant, hy]; simpa using hb
              rw [if_pos hw]
              have hge := genC_guard (P := P) (C := C) (L := L) (N := N) (o := o) (n := n) (Γ := Γ) (K := K) (absS n s, want) (env := env) (loc := loc) (h := h) (fun gi K' hgi => by
                rw [stepGI_some hgi, srcV_eq hv]
                simp only [hb]
                rfl)
              rw [hge.1] at hk
              rw [hge.2.1, hge.2.2]
              exact genC_done hC hg hr hk
            | false =>
              have hw : ¬ Region.wanted o (yielded ops a.tmps) = true := by rw [hwant, hy]; simpa using hb
              rw [if_neg hw]
              refine ⟨fun _ _ => trivial, ?_⟩
              refine genC_skipped (C := C) (absS n s) want hg hr (fun g K hgi hst => ?_) hk
              rw [stepGI_some hgi, srcV_eq hv] at hst
              simpa only [hb] using hst
          · have hy := (hyield _ hv).2 l rfl
            have hw : ¬ Region.wanted o (yielded ops a.tmps) = true := by rw [hwant, hy]; simp
            rw [if_neg hw]
            refine ⟨fun _ _ => trivial, ?_⟩
            refine genC_skipped (C := C) (absS n s) want hg hr (fun g K hgi hst => ?_) hk
            rw [stepGI_some hgi, srcV_eq hv] at hst
            exact hst
end
end Go.Ev
end
section
namespace Go.Ev
section
variable {P : Program} {ro : Option Nat} {C : CallH} {L : Nat → Bool} {N : Nat} {B : Bd} {D : List Deferred} {Q : Exit → Act → World → Prop} {ops : Array Oper}
theorem compR_sound (hC : CallOk P C) : ∀ (rest : List Oper) (k : Nat) {φ : Phi} {Γ : Gam} {n : Nat} {env : List V} {loc : T V} {h : H} {a : Act} {w : World} {K : EnvK}, (∀ j, rest[j]? = ops[k + j]?) → GamOk L N D φ Γ n env loc a → HR B φ h w →
    regK C (compR P L N (ops.toList.map (·.dst)) rest n Γ).l env loc h K = true →
    (∀ a' w', Behind L N B D φ w (compR P L N (ops.toList.map (·.dst)) rest n Γ).Γ (compR P L N (ops.toList.map (·.dst)) rest n Γ).n K a' w' → Q .normal a' w') → wpOpsIn (Fr ro) 0 P ops Q (List.range' k rest.length) a w
  | [], k, φ, Γ, n, env, loc, h, a, w, K, hj, hg, hr, hk, hQ => by
    exact hQ a w ⟨φ, env, loc, h, Ext.refl φ, hg, hr, Below.refl _ _, hk⟩
  | o :: rest, k, φ, Γ, n, env, loc, h, a, w, K, hj, hg, hr, hk, hQ => by
    rw [List.length_cons, List.range'_succ, wpOpsIn_cons]
    have ho : ops[k]? = some o := by have := hj 0; simpa using this.symm
    have hk' : regK C ((stepC P L N (ops.toList.map (·.dst)) o n Γ).l ++ (compR P L N (ops.toList.map (·.dst)) rest (stepC P L N (ops.toList.map (·.dst)) o n Γ).n (stepC P L N (ops.toList.map (·.dst)) o n Γ).Γ).l) env loc h K = true := hk
    rw [regK_append] at hk'
    refine wpOpIn_mono ?_ (stepC_sound (Q := Q) hC ho hg hr hk')
    rintro a1 w1 ⟨φ1, env1, loc1, h1, hx1, hg1, hr1, hb1, hk1⟩
    refine compR_sound hC rest (k + 1) (fun j => by have := hj (j + 1); simp at this; rw [this]; congr 1; omega) hg1 hr1 hk1 ?_
    rintro a2 w2 ⟨φ2, env2, loc2, h2, hx2, hg2, hr2, hb2, hk2⟩
    exact hQ a2 w2 ⟨φ2, env2, loc2, h2, hx1.trans hx2, hg2, hr2, hb1.trans hb2, hk2⟩
end
theorem stepR_scope {P : Program} {b : Frame} {a : Act} {k : List Item} {cs : List Frame} {w : World} {c : Code} : step P (lone (b.atR a (.code (.scope c) :: k)) cs w) = .next (lone (b.atR a (.code c :: .inScope c :: k)) cs w) :=
  step_lone_go (by simp [stepG, stepG.exec, Frame.atR])
theorem stepR_inScope {P : Program} {b : Frame} {a : Act} {k : List Item} {cs : List Frame} {w : World} {c : Code} : step P (lone (b.atR a (.inScope c :: k)) cs w) = .next (lone (b.atR a k) cs w) :=
  step_lone_go (by simp [stepG, stepG.exec, Frame.atR])
theorem wpIn_scope_straight {F : Fence} {n : Nat} {P : Program} {Q : Exit → Act → World → Prop} {a : Act} {w : World} {c : Code} (h : c.wpIn F n P (Exit.noGoto Q) a w) : (Code.scope c).wpIn F n P Q a w := by
  intro b k cs hro hb hr
  have h0 : (lone (b.atR a (.code (.scope c) :: k)) cs w).fenced P F := fenced_calm hb hr rfl
  obtain ⟨e, a₁, w₁, hq, harr⟩ := h b (.inScope c :: k) cs hro hb hr
  cases e with
  | normal => exact ⟨.normal, a₁, w₁, hq, .head h0 stepR_scope (StepsIn.trans harr (.one (fenced_calm hb hr rfl) stepR_inScope))⟩
  | exit id =>
    have hx : exitTo id (.inScope c :: k) = exitTo id k := by simp [exitTo]
    exact ⟨.exit id, a₁, w₁, hq, fun k' hk => .head h0 stepR_scope (harr.1 k' (by rw [hx]; exact hk)),
      fun hr' hk => let ⟨k₁, h1, h2⟩ := harr.2 hr' (by rw [hx]; exact hk); ⟨k₁, h1, .head h0 stepR_scope h2⟩⟩
  | goto l => exact hq.elim
  | ret => exact ⟨_, a₁, w₁, hq, .of_steps (.one h0 stepR_scope) harr⟩
  | panic ch => exact ⟨_, a₁, w₁, hq, .of_steps (.one h0 stepR_scope) harr⟩
  | outgrown => exact ⟨_, a₁, w₁, hq, .of_steps (.one h0 stepR_scope) harr⟩
inductive Out where
  | norm
  | exit (id : Nat)
  | ret
abbrev OutK := Out → T V → H → Bool
abbrev Ev := CallH → Nat → T V → H → OutK → Bool
def outOf : Out → Exit
  | .norm => .normal
  | .exit id => .exit id
  | .ret => .ret
def DefOk (S : Nat) : List Deferred → World → Prop
  | [], _ => True
  | d :: ds, w => (∃ r, d.target = .collected r ∧ S ≤ r ∧ w.heap[r]? = some (.deferred (some [])) ∧ ∀ d' ∈ ds, d'.target ≠ .collected r) ∧ DefOk S ds w
theorem DefOk.below {S : Nat} {B : Bd} {w w' : World} (hb : Below B w w') : ∀ {D : List Deferred}, DefOk S D w → DefOk S D w'
  | [], _ => trivial
  | d :: ds, ⟨⟨r, h1, h2, h3, h4⟩, h⟩ => ⟨⟨r, h1, h2, hb.ded _ _ h3, h4⟩, DefOk.below hb h⟩
def After (rb : Bool) (L : Nat → Bool) (N S : Nat) (D : List Deferred) (B : Bd) (φ : Phi) (w : World) (K : OutK) (e : Exit) (a' : Act) (w' : World) : Prop :=
  ∃ φ' o loc' h' D', e = outOf o ∧ (rb = true → D' = D) ∧ Ext φ φ' ∧ LocOk L N D' φ' loc' a' ∧ DefOk S D' w' ∧ HR B φ' h' w' ∧ Below B w w' ∧ K o loc' h' = true
def EvOk (P : Program) (rb : Bool) (L : Nat → Bool) (N : Nat) (c : Code) (ev : Ev) : Prop :=
  ∀ C, CallOk P C → ∀ n loc h K, ev C n loc h K = true → ∀ ro B φ S D a w, (rb = false → ro = none) → LocOk L N D φ loc a → DefOk S D w → S ≤ w.heap.size → HR B φ h w → c.wpIn (Fr ro) 0 P (After rb L N S D B φ w K) a w
theorem LocOk.gam0 {L : Nat → Bool} {N : Nat} {D : List Deferred} {φ : Phi} {loc : T V} {a : Act} (h : LocOk L N D φ loc a) : GamOk L N D φ [] 0 [] loc a := ⟨h, rfl, fun t s hs => by simp [Gam.find] at hs⟩
theorem After.trans {rb : Bool} {L : Nat → Bool} {N S : Nat} {B : Bd} {D D1 : List Deferred} {φ φ' : Phi} {w w' : World} {K : OutK} (hD : rb = true → D1 = D) (hx : Ext φ φ') (hb : Below B w w') {e : Exit} {a : Act} {w'' : World} (h : After rb L N S D1 B φ' w' K e a w'') : After rb L N S D B φ w K e a w'' := by
  obtain ⟨φ2, o, loc, h, D', h1, h1', h2, h3, h4, h5, h6, h7⟩ := h
  exact ⟨φ2, o, loc, h, D', h1, fun e => (h1' e).trans (hD e), hx.trans h2, h3, h4, h5, hb.trans h6, h7⟩
theorem After.mk {rb : Bool} {L : Nat → Bool} {N S : Nat} {B : Bd} {D : List Deferred} {φ φ' : Phi} {w w' : World} {K : OutK} {o : Out} {loc : T V} {h : H} {a : Act} (hx : Ext φ φ') (hl : LocOk L N D φ' loc a) (hd : DefOk S D w) (hr : HR B φ' h w') (hb : Below B w w') (hk : K o loc h = true) :
    After rb L N S D B φ w K (outOf o) a w' := ⟨φ', o, loc, h, D, rfl, fun _ => rfl, hx, hl, hd.below hb, hr, hb, hk⟩
def cFail : Ev := fun _ _ _ _ _ => false
theorem cFail_ok {P : Program} {rb : Bool} {L : Nat → Bool} {N : Nat} {c : Code} : EvOk P rb L N c cFail := fun _ _ _ _ _ _ hk => absurd hk (by simp [cFail])
def cSkip : Ev := fun _ _ loc h K => K .norm loc h
theorem cSkip_ok {P : Program} {rb : Bool} {L : Nat → Bool} {N : Nat} : EvOk P rb L N .skip cSkip := fun _ _ _ loc h _ hk ro B φ S D a w _ hl hd hS hr => wpIn_skip (After.mk (o := Out.norm) (Ext.refl φ) hl hd hr (Below.refl _ _) hk)
theorem cLabel_ok {P : Program} {rb : Bool} {L : Nat → Bool} {N l : Nat} : EvOk P rb L N (.label l) cSkip := fun _ _ _ loc h _ hk ro B φ S D a w _ hl hd hS hr => wpIn_label (After.mk (o := Out.norm) (Ext.refl φ) hl hd hr (Below.refl _ _) hk)
def cRet : Ev := fun _ _ loc h K => K .ret loc h
theorem cRet_ok {P : Program} {rb : Bool} {L : Nat → Bool} {N : Nat} : EvOk P rb L N .ret cRet := fun _ _ _ loc h _ hk ro B φ S D a w _ hl hd hS hr => wpIn_ret (After.mk (o := Out.ret) (Ext.refl φ) hl hd hr (Below.refl _ _) hk)
def cExit (id : Nat) : Ev := fun _ _ loc h K => K (.exit id) loc h
theorem cExit_ok {P : Program} {rb : Bool} {L : Nat → Bool} {N id : Nat} : EvOk P rb L N (.exit id) (cExit id) := fun _ _ _ loc h _ hk ro B φ S D a w _ hl hd hS hr => wpIn_exit (After.mk (o := Out.exit id) (Ext.refl φ) hl hd hr (Below.refl _ _) hk)
noncomputable def cReg (r : Reg) : Ev := fun C _ loc h K => rlK C (toRL r.l) [] loc h fun _ loc h => K .norm loc h
theorem wpIn_loop_ghost {F : Fence} {n : Nat} {P : Program} {Q : Exit → Act → World → Prop} {a : Act} {w : World} {c : Code} (I : Nat → Act → World → Prop) (n₀ : Nat) (h₀ : I n₀ a w)
    (round : ∀ m a w, I m a w → c.wpIn F n P (Exit.then (fun a' w' => ∃ n', n' < m ∧ I n' a' w') Q) a w) : (Code.loop c).wpIn F n P Q a w := by
  refine wpIn_loop (fun a w => ∃ n, I n a w) (fun a w => leastOf (fun n => I n a w)) ⟨n₀, h₀⟩ ?_
  intro a w hI
  refine wpIn_mono (round _ a w (leastOf_spec hI).1) ?_
  intro e a' w' hq
  cases e with
  | normal =>
    obtain ⟨n', hlt, hI'⟩ := hq
    exact show (∃ n, I n a' w') ∧ leastOf (fun n => I n a' w') < leastOf (fun n => I n a w) from ⟨⟨n', hI'⟩, Nat.lt_of_le_of_lt ((leastOf_spec ⟨n', hI'⟩).2 n' hI') hlt⟩
  | exit id => exact hq
  | goto l => exact hq
  | ret => exact hq
  | panic ch => exact hq
  | outgrown => exact hq
theorem cReg_ok {P : Program} {rb : Bool} {L : Nat → Bool} {N id : Nat} {ops : Array Oper} : EvOk P rb L N (.region id ops false) (cReg (compR P L N (ops.toList.map (·.dst)) ops.toList 0 [])) := by
  intro C hC n loc h K hk ro B φ S D a w hro hl hd hS hr
  unfold cReg at hk
  rw [rlK_eq] at hk
  refine wpIn_region ?_
  have := compR_sound (ro := ro) (Q := After rb L N S D B φ w K) (ops := ops) hC ops.toList 0 (fun j => by simp) hl.gam0 hr hk (by
    rintro a' w' ⟨φ', env', loc', h', h1, h2, h3, h4, h5⟩
    exact After.mk (o := .norm) h1 h2.toLocOk hd h3 h4 h5)
  rw [List.range_eq_range']
  simpa using this
noncomputable def cSeq (x y : Ev) : Ev := fun C n loc h K => x C n loc h fun o loc h => Out.rec (motive := fun _ => Bool) (y C n loc h K) (fun id => K (.exit id) loc h) (K .ret loc h) o
theorem cSeq_ok {P : Program} {rb : Bool} {L : Nat → Bool} {N : Nat} {a b : Code} {x y : Ev} (hx : EvOk P rb L N a x) (hy : EvOk P rb L N b y) : EvOk P rb L N (.seq a b) (cSeq x y) := by
  intro C hC n loc h K hk ro B φ S D act w hro hl hd hS hr
  refine wpIn_seq (wpIn_mono (hx C hC n loc h _ hk ro B φ S D act w hro hl hd hS hr) ?_)
  rintro e a' w' ⟨φ', o, loc', h', D', rfl, hDD, h1, h2, h2', h3, h4, h5⟩
  cases o with
  | norm => exact wpIn_mono (hy C hC n loc' h' K h5 ro B φ' S D' a' w' hro h2 h2' (Nat.le_trans hS h4.size) h3) fun e a w h => h.trans hDD h1 h4
  | exit id => exact ⟨φ', .exit id, loc', h', D', rfl, hDD, h1, h2, h2', h3, h4, h5⟩
  | ret => exact ⟨φ', .ret, loc', h', D', rfl, hDD, h1, h2, h2', h3, h4, h5⟩
noncomputable def ifK (v : V) (t e : Bool) : Bool := match v with | .bool b => Bool.rec (motive := fun _ => Bool) e t b | _ => false
theorem ifK_true {v : V} {t e : Bool} (h : ifK v t e = true) : (v = .bool true ∧ t = true) ∨ (v = .bool false ∧ e = true) := by
  unfold ifK at h
  split at h
  · rename_i b; cases b
    · exact .inr ⟨rfl, h⟩
    · exact .inl ⟨rfl, h⟩
  · exact absurd h (by simp)
noncomputable def condC (n0 : Nat) (Γ : Gam) (c : Operand) (env : List V) (loc : T V) (K : V → Bool) : Bool := match opS n0 Γ c with | some s => srcV (absS n0 s) env loc K | none => false
theorem condC_true {L : Nat → Bool} {N : Nat} {D : List Deferred} {φ : Phi} {Γ : Gam} {n : Nat} {env : List V} {loc : T V} {a : Act} (hg : GamOk L N D φ Γ n env loc a) {c : Operand} {K : V → Bool} (h : condC n Γ c env loc K = true) : ∃ v, VR φ v (a.eval c) ∧ K v = true := by
  unfold condC at h
  split at h
  · rename_i s hs
    obtain ⟨v, h1, h2⟩ := srcV_true h
    exact ⟨v, (opS_rel hg hs).2 v h1, h2⟩
  · exact absurd h (by simp)
noncomputable def cCond (c : Operand) (x y : Ev) : Ev := fun C n loc h K => condC 0 [] c [] loc fun v => ifK v (x C n loc h K) (y C n loc h K)
theorem cond_ok {P : Program} {rb : Bool} {ro : Option Nat} {L : Nat → Bool} {N S : Nat} {D : List Deferred} {c : Operand} {a b : Code} {x y : Ev} (hx : EvOk P rb L N a x) (hy : EvOk P rb L N b y) {C : CallH} (hC : CallOk P C) {n : Nat} {loc : T V} {h : H} {K : OutK} {B : Bd} {φ : Phi} {act : Act} {w : World}
    (hro : rb = false → ro = none) (hl : LocOk L N D φ loc act) (hd : DefOk S D w) (hS : S ≤ w.heap.size) (hr : HR B φ h w) {v : V} (hv : VR φ v (act.eval c)) (hk : ifK v (x C n loc h K) (y C n loc h K) = true) : (Code.cond c a b).wpIn (Fr ro) 0 P (After rb L N S D B φ w K) act w := by
  rcases ifK_true hk with ⟨rfl, h1⟩ | ⟨rfl, h1⟩
  · exact wpIn_cond_true hv.bool_inv (hx C hC n loc h K h1 ro B φ S D act w hro hl hd hS hr)
  · exact wpIn_cond_false hv.bool_inv (hy C hC n loc h K h1 ro B φ S D act w hro hl hd hS hr)
theorem cCond_ok {P : Program} {rb : Bool} {L : Nat → Bool} {N : Nat} {c : Operand} {a b : Code} {x y : Ev} (hx : EvOk P rb L N a x) (hy : EvOk P rb L N b y) : EvOk P rb L N (.cond c a b) (cCond c x y) := by
  intro C hC n loc h K hk ro B φ S D act w hro hl hd hS hr
  obtain ⟨v, h1, h2⟩ := condC_true hl.gam0 hk
  exact cond_ok hx hy hC hro hl hd hS hr h1 h2
noncomputable def cRCond (r : Reg) (c : Operand) (x y : Ev) : Ev := fun C n loc h K => rlK C (toRL r.l) [] loc h fun env loc h => condC r.n r.Γ c env loc fun v => ifK v (x C n loc h K) (y C n loc h K)
theorem cRCond_ok {P : Program} {rb : Bool} {L : Nat → Bool} {N id : Nat} {ops : Array Oper} {c : Operand} {a b : Code} {x y : Ev} (hx : EvOk P rb L N a x) (hy : EvOk P rb L N b y) :
    EvOk P rb L N (.seq (.region id ops false) (.cond c a b)) (cRCond (compR P L N (ops.toList.map (·.dst)) ops.toList 0 []) c x y) := by
  intro C hC n loc h K hk ro B φ S D act w hro hl hd hS hr
  unfold cRCond at hk
  rw [rlK_eq] at hk
  refine wpIn_seq (wpIn_region ?_)
  have := compR_sound (ro := ro) (Q := Exit.then ((Code.cond c a b).wpIn (Fr ro) 0 P (After rb L N S D B φ w K)) (After rb L N S D B φ w K)) (ops := ops) hC ops.toList 0 (fun j => by simp) hl.gam0 hr hk (by
    rintro a' w' ⟨φ', env', loc', h', h1, h2, h3, h4, h5⟩
    obtain ⟨v, h6, h7⟩ := condC_true h2 h5
    exact wpIn_mono (cond_ok hx hy hC hro h2.toLocOk (hd.below h4) (Nat.le_trans hS h4.size) h3 h6 h7) fun e a w h => h.trans (fun _ => rfl) h1 h4)
  rw [List.range_eq_range']
  simpa using this
noncomputable def cBlock (id : Nat) (x : Ev) : Ev := fun C n loc h K => x C n loc h fun o loc h => Out.rec (motive := fun _ => Bool) (K .norm loc h) (fun i => Bool.rec (motive := fun _ => Bool) (K (.exit i) loc h) (K .norm loc h) (Nat.beq i id)) (K .ret loc h) o
theorem cBlock_ok {P : Program} {rb : Bool} {L : Nat → Bool} {N id : Nat} {a : Code} {x : Ev} (hx : EvOk P rb L N a x) : EvOk P rb L N (.block id a) (cBlock id x) := by
  intro C hC n loc h K hk ro B φ S D act w hro hl hd hS hr
  refine wpIn_block (wpIn_mono (hx C hC n loc h _ hk ro B φ S D act w hro hl hd hS hr) ?_)
  rintro e a' w' ⟨φ', o, loc', h', D', rfl, hDD, h1, h2, h2', h3, h4, h5⟩
  cases o with
  | norm => exact ⟨φ', .norm, loc', h', D', rfl, hDD, h1, h2, h2', h3, h4, h5⟩
  | exit i =>
    show if i = id then _ else _
    cases hb : Nat.beq i id with
    | true =>
      simp only [hb] at h5
      rw [if_pos (Nat.eq_of_beq_eq_true hb)]
      exact ⟨φ', .norm, loc', h', D', rfl, hDD, h1, h2, h2', h3, h4, h5⟩
    | false =>
      simp only [hb] at h5
      rw [if_neg (fun e => by rw [e] at hb; simp at hb)]
      exact ⟨φ', .exit i, loc', h', D', rfl, hDD, h1, h2, h2', h3, h4, h5⟩
  | ret => exact ⟨φ', .ret, loc', h', D', rfl, hDD, h1, h2, h2', h3, h4, h5⟩
noncomputable def cLoop (x : Ev) : Ev := fun C n loc h K => Nat.rec (motive := fun _ => T V → H → Bool) (fun _ _ => false)
  (fun _ ih loc h => x C n loc h fun o loc h => Out.rec (motive := fun _ => Bool) (ih loc h) (fun i => K (.exit i) loc h) (K .ret loc h) o) n loc h
theorem cLoop_ok {P : Program} {rb : Bool} {L : Nat → Bool} {N : Nat} {a : Code} {x : Ev} (hx : EvOk P rb L N a x) : EvOk P rb L N (.loop a) (cLoop x) := by
  intro C hC n loc h K hk ro B φ S D act w hro hl hd hS hr
  let body : Nat → T V → H → Bool := fun m => Nat.rec (motive := fun _ => T V → H → Bool) (fun _ _ => false)
    (fun _ ih loc h => x C n loc h fun o loc h => Out.rec (motive := fun _ => Bool) (ih loc h) (fun i => K (.exit i) loc h) (K .ret loc h) o) m
  refine wpIn_loop_ghost (fun m a' w' => ∃ φ' loc' h' D', (rb = true → D' = D) ∧ Ext φ φ' ∧ LocOk L N D' φ' loc' a' ∧ DefOk S D' w' ∧ HR B φ' h' w' ∧ Below B w w' ∧ body m loc' h' = true) n ⟨φ, loc, h, D, fun _ => rfl, Ext.refl φ, hl, hd, hr, Below.refl _ _, hk⟩ ?_
  rintro m a1 w1 ⟨φ1, loc1, h1, D1, gD, g1, g2, g2', g3, g4, g5⟩
  cases m with
  | zero => exact absurd (show false = true from g5) (by simp)
  | succ m =>
    have g5' : (x C n loc1 h1 fun o loc h => Out.rec (motive := fun _ => Bool) (body m loc h) (fun i => K (.exit i) loc h) (K .ret loc h) o) = true := g5
    refine wpIn_mono (hx C hC n loc1 h1 _ g5' ro B φ1 S D1 a1 w1 hro g2 g2' (Nat.le_trans hS g4.size) g3) ?_
    rintro e a' w' ⟨φ', o, loc', h', D', rfl, kD, k1, k2, k2', k3, k4, k5⟩
    cases o with
    | norm => exact ⟨m, by omega, φ', loc', h', D', fun e => (kD e).trans (gD e), g1.trans k1, k2, k2', k3, g4.trans k4, k5⟩
    | exit i => exact ⟨φ', .exit i, loc', h', D', rfl, fun e => (kD e).trans (gD e), g1.trans k1, k2, k2', k3, g4.trans k4, k5⟩
    | ret => exact ⟨φ', .ret, loc', h', D', rfl, fun e => (kD e).trans (gD e), g1.trans k1, k2, k2', k3, g4.trans k4, k5⟩
theorem cScope_ok {P : Program} {rb : Bool} {L : Nat → Bool} {N : Nat} {a : Code} {x : Ev} (hx : EvOk P rb L N a x) : EvOk P rb L N (.scope a) x := by
  intro C hC n loc h K hk ro B φ S D act w hro hl hd hS hr
  refine wpIn_scope_straight (wpIn_mono (hx C hC n loc h _ hk ro B φ S D act w hro hl hd hS hr) ?_)
  rintro e a' w' ⟨φ', o, loc', h', D', rfl, h1⟩
  cases o <;> exact ⟨φ', _, loc', h', D', rfl, h1⟩
end Go.Ev
end
section
namespace Go.Ev
def FnA {α : Type} (g : (α → Bool) → Bool) : Prop := ∃ o : Option α, ∀ K, g K = match o with | some a => K a | none => false
theorem FnA.pure {α : Type} (a : α) : FnA fun K => K a := ⟨some a, fun _ => rfl⟩
theorem FnA.fail {α : Type} : FnA fun (_ : α → Bool) => false := ⟨none, fun _ => rfl⟩
theorem FnA.bind {α β : Type} {g : (β → Bool) → Bool} {k : β → (α → Bool) → Bool} (hg : FnA g) (hk : ∀ b, FnA (k b)) : FnA fun K => g fun b => k b K := by
  obtain ⟨o, ho⟩ := hg
  cases o with
  | none => exact ⟨none, fun K => ho _⟩
  | some b =>
    obtain ⟨p, hp⟩ := hk b
    exact ⟨p, fun K => (ho _).trans (hp K)⟩
theorem FnA.cond {α : Type} (b : Bool) {g g' : (α → Bool) → Bool} (h : FnA g) (h' : FnA g') : FnA fun K => bif b then g K else g' K := by cases b <;> assumption
theorem FnA.brec {α : Type} (b : Bool) {g g' : (α → Bool) → Bool} (h : FnA g) (h' : FnA g') : FnA fun K => Bool.rec (motive := fun _ => Bool) (g K) (g' K) b := by cases b <;> assumption
theorem FnA.eq0 : True := trivial
theorem FnA.eq {α : Type} {g g' : (α → Bool) → Bool} (h : FnA g') (e : ∀ K, g K = g' K) : FnA g := by
  obtain ⟨o, ho⟩ := h
  exact ⟨o, fun K => (e K).trans (ho K)⟩
theorem FnA.bd {α β : Type} {g : (β → Bool) → Bool} {k : β → (α → Bool) → Bool} {F : (α → Bool) → Bool} (hg : FnA g) (hk : ∀ b, FnA (k b)) (e : ∀ K, F K = g fun b => k b K) : FnA F := FnA.eq (FnA.bind hg hk) e
theorem FnA.cd {α : Type} {b : Bool} {g g' F : (α → Bool) → Bool} (h : FnA g) (h' : FnA g') (e : ∀ K, F K = bif b then g K else g' K) : FnA F := FnA.eq (FnA.cond b h h') e
theorem FnA.bc {α : Type} {b : Bool} {g g' F : (α → Bool) → Bool} (h : FnA g) (h' : FnA g') (e : ∀ K, F K = Bool.rec (motive := fun _ => Bool) (g K) (g' K) b) : FnA F := FnA.eq (FnA.brec b h h') e
theorem FnA.natK (n : Nat) : FnA (natK n) := ⟨some n, natK_eq n⟩
theorem FnA.intK (n : Int) : FnA (intK n) := ⟨some n, intK_eq n⟩
theorem FnA.boolK (n : Bool) : FnA (boolK n) := ⟨some n, boolK_eq n⟩
theorem FnA.getK {α : Type} (t : T α) (k : Nat) : FnA (t.getK k) := ⟨t.get k, T.getK_eq t k⟩
theorem FnA.strK (n c : Nat) : FnA (strK n c) := FnA.bd (FnA.natK n) (fun n => FnA.bd (FnA.natK c) (fun c => FnA.pure _) fun _ => rfl) fun _ => rfl
theorem FnA.nthK {α : Type} : ∀ (l : List α) (i : Nat), FnA (nthK l i)
  | [], i => FnA.fail
  | a :: l, 0 => FnA.pure a
  | a :: l, i + 1 => FnA.nthK l i
theorem FnA.takeK {α : Type} : ∀ (n : Nat) (l : List α), FnA (takeK n l)
  | 0, l => FnA.pure []
  | n + 1, [] => FnA.fail
  | n + 1, a :: l => FnA.bd (FnA.takeK n l) (fun s => FnA.pure (a :: s)) fun _ => rfl
theorem FnA.dropK {α : Type} : ∀ (n : Nat) (l : List α), FnA (dropK n l)
  | 0, l => FnA.pure l
  | n + 1, [] => FnA.fail
  | n + 1, a :: l => FnA.dropK n l
theorem FnA.lenK {α : Type} : ∀ (l : List α) (n : Nat), FnA (lenK l n)
  | [], n => FnA.natK n
  | a :: l, n => FnA.bd (FnA.natK (n + 1)) (fun n => FnA.lenK l n) fun _ => rfl
theorem FnA.blkK (h : H) (b : Nat) : FnA (blkK h b) :=
  FnA.bd (k := fun k K => h.gr.optK k.g (K k) fun G => bif Nat.ble G.minv b then K k else false) (FnA.getK h.bl b) (fun k => by
    cases hg : h.gr.get k.g with
    | none => exact FnA.eq (FnA.pure k) fun K => by rw [T.optK_eq, hg]
    | some G => exact FnA.eq (FnA.cd (b := Nat.ble G.minv b) (FnA.pure k) FnA.fail fun _ => rfl) fun K => by rw [T.optK_eq, hg]) fun _ => rfl
theorem FnA.datK (n : Nat) (d : Dat) (j : Nat) : FnA (datK n d j) := by
  cases d with
  | cells t => exact FnA.getK t j
  | bytes c => exact FnA.bd (FnA.natK (Nat.mod (Nat.shiftRight c (8 * (n - 1 - j))) 256)) (fun z => FnA.pure (V.int .u8 (.ofNat z))) fun _ => rfl
  | map _ _ => exact FnA.fail
  | mit _ _ _ _ => exact FnA.fail
  | lrec _ _ _ _ _ _ _ => exact FnA.fail
theorem FnA.rowK (m : Nat) (d : Dat) : ∀ (n j : Nat), FnA (rowK m d n j)
  | 0, j => FnA.pure []
  | n + 1, j => FnA.bd (FnA.datK m d j) (fun v => FnA.bd (FnA.rowK m d n (j + 1)) (fun l => FnA.pure (v :: l)) fun _ => rfl) fun _ => rfl
theorem FnA.partK (l : List V) (off n : Nat) (one : Bool) : FnA (partK l off n one) := by
  cases one with
  | true => exact FnA.nthK l off
  | false => exact FnA.bd (FnA.dropK off l) (fun r => FnA.bd (FnA.takeK n r) (fun s => FnA.pure (.agg s)) fun _ => rfl) fun _ => rfl
theorem FnA.spliceK : ∀ (off : Nat) (l c : List V), FnA (spliceK off l c)
  | 0, l, [] => FnA.pure l
  | 0, [], a :: c => FnA.fail
  | 0, b :: l, a :: c => FnA.bd (FnA.spliceK 0 l c) (fun s => FnA.pure (a :: s)) fun _ => rfl
  | n + 1, [], c => FnA.fail
  | n + 1, b :: l, c => FnA.bd (FnA.spliceK n l c) (fun s => FnA.pure (b :: s)) fun _ => rfl
theorem FnA.fillK : ∀ (ps : List (Nat × Nat)) (vs l : List V), FnA (fillK ps vs l)
  | [], [], l => FnA.pure l
  | [], v :: vs, l => FnA.fail
  | p :: ps, [], l => FnA.fail
  | p :: ps, v :: vs, l => FnA.bd (FnA.lenK (cellsV v) 0) (fun n => FnA.cd (FnA.bd (FnA.spliceK p.1 l (cellsV v)) (fun s => FnA.fillK ps vs s) fun _ => rfl) FnA.fail fun _ => rfl) fun _ => rfl
theorem FnA.optK (oc : Option Nat) : FnA (optK oc) := by
  cases oc with
  | none => exact FnA.pure none
  | some c => exact FnA.bd (FnA.natK c) (fun c => FnA.pure (some c)) fun _ => rfl
theorem FnA.sliceK (b off len e : Nat) (oc : Option Nat) : FnA (sliceK b off len e oc) := FnA.bd (FnA.natK off) (fun off => FnA.bd (FnA.natK len) (fun len => FnA.bd (FnA.optK oc) (fun oc => FnA.pure _) fun _ => rfl) fun _ => rfl) fun _ => rfl
theorem FnA.bndK (v : V) : FnA (bndK v) := by
  cases v <;> first
    | exact FnA.fail
    | (rename_i k n; cases n <;> first | exact FnA.pure _ | exact FnA.fail)
theorem FnA.bnds {α : Type} (lo hi mx : Bool) (len : Nat) (cap : Option Nat) (vs : List V) {k : Nat → Nat → Option Nat → (α → Bool) → Bool} (hk : ∀ l h m, FnA (k l h m)) : FnA fun K => bnds lo hi mx len cap vs fun l h m => k l h m K := by
  rcases vs with _ | ⟨a, _ | ⟨b, _ | ⟨c, _ | ⟨d, l⟩⟩⟩⟩ <;> cases lo <;> cases hi <;> cases mx <;> first
    | exact FnA.fail
    | exact hk _ _ _
    | exact FnA.bd (FnA.bndK _) (fun l => FnA.cd (hk _ _ _) FnA.fail fun _ => rfl) fun _ => rfl
    | exact FnA.bd (FnA.bndK _) (fun h => FnA.cd (FnA.bd (FnA.bndK _) (fun l => FnA.cd (hk _ _ _) FnA.fail fun _ => rfl) fun _ => rfl) FnA.fail fun _ => rfl) fun _ => rfl
    | exact FnA.bd (FnA.bndK _) (fun m => FnA.cd (FnA.bd (FnA.bndK _) (fun h => FnA.cd (FnA.bd (FnA.bndK _) (fun l => FnA.cd (hk _ _ _) FnA.fail fun _ => rfl) fun _ => rfl) FnA.fail fun _ => rfl) fun _ => rfl) FnA.fail fun _ => rfl) fun _ => rfl
theorem FnA.sameKeyK {α : Type} (int : Bool) (a b : V) {g g' : (α → Bool) → Bool} (h : FnA g) (h' : FnA g') : FnA fun K => sameKeyK int a b (g K) (g' K) := by
  cases int <;> cases a <;> cases b <;> first
    | exact FnA.fail
    | exact FnA.cd (FnA.bc h' h fun _ => rfl) FnA.fail fun _ => rfl
    | exact FnA.bc h' h fun _ => rfl
theorem FnA.findK {α : Type} (int : Bool) (key : V) {kn : (α → Bool) → Bool} {ks : Nat → V → (α → Bool) → Bool} (hn : FnA kn) (hs : ∀ i v, FnA (ks i v)) : ∀ (es : List Ent) (i : Nat), FnA fun K => findK int key es i (kn K) fun i v => ks i v K
  | [], i => hn
  | e :: es, i => FnA.sameKeyK int key e.key (FnA.bd (FnA.natK i) (fun i => hs i e.val) fun _ => rfl) (FnA.findK int key hn hs es (i + 1))
theorem FnA.eqFK {α : Type} (a b : List V) {g g' : (α → Bool) → Bool} (h : FnA g) (h' : FnA g') : ∀ (fs : List (Nat × Bool)), FnA fun K => eqFK fs a b (g K) (g' K)
  | [] => h
  | f :: fs => FnA.bd (FnA.nthK a f.1) (fun x => FnA.bd (FnA.nthK b f.1) (fun y => FnA.sameKeyK f.2 x y (FnA.eqFK a b h h' fs) h') fun _ => rfl) fun _ => rfl
theorem FnA.fInt (op : BinOp) (k : IntKind) (a b : Int) : FnA (fInt op k a b) := by
  cases op <;> first
    | exact FnA.fail
    | exact FnA.bd (FnA.intK _) (fun z => FnA.pure _) fun _ => rfl
    | exact FnA.bd (FnA.boolK _) (fun z => FnA.pure _) fun _ => rfl
    | (cases a <;> cases b <;> first
        | exact FnA.fail
        | exact FnA.cd (FnA.bd (FnA.natK _) (fun z => FnA.pure _) fun _ => rfl) FnA.fail fun _ => rfl
        | (rename_i a b; cases b <;> first | exact FnA.fail | (rename_i b; exact FnA.bd (FnA.intK (wr k (.ofNat (a / (b + 1))))) (fun z => FnA.pure (V.int k z)) fun _ => rfl) | (rename_i b; exact FnA.bd (FnA.natK (a % (b + 1))) (fun z => FnA.pure (V.int k (.ofNat z))) fun _ => rfl)))
theorem FnA.fStr (op : BinOp) (n a m b : Nat) : FnA (fStr op n a m b) := by
  cases op <;> first
    | exact FnA.fail
    | exact FnA.cd (FnA.strK _ _) FnA.fail fun _ => rfl
    | exact FnA.bd (FnA.boolK _) (fun z => FnA.pure _) fun _ => rfl
def RdFn (f : Rd) : Prop := ∀ vs h, FnA (f vs h)
theorem fBin_fn (op : BinOp) : RdFn (fBin op) := by
  intro vs h
  rcases vs with _ | ⟨a, _ | ⟨b, _ | ⟨c, l⟩⟩⟩
  · exact FnA.fail
  · first | exact FnA.fail | (cases a <;> exact FnA.fail)
  · cases a <;> first
      | exact FnA.fail
      | (cases b <;> first
          | exact FnA.fail
          | exact FnA.pure _
          | exact FnA.cd (FnA.fInt _ _ _ _) FnA.fail fun _ => rfl
          | exact FnA.fStr _ _ _ _ _)
  · first | exact FnA.fail | (cases a <;> first | exact FnA.fail | (cases b <;> first | exact FnA.fail | (rename_i i; cases i <;> exact FnA.fail)))
theorem fShift_fn (left : Bool) : RdFn (fShift left) := by
  intro vs h
  rcases vs with _ | ⟨a, _ | ⟨b, _ | ⟨c, l⟩⟩⟩
  · exact FnA.fail
  · cases a <;> first | exact FnA.fail | (rename_i n; cases n <;> exact FnA.fail)
  · cases a with
    | int k n =>
      cases n with
      | negSucc n => exact FnA.fail
      | ofNat n =>
        cases b with
        | int k' m =>
          cases m with
          | negSucc m => exact FnA.fail
          | ofNat m =>
            cases left with
            | true => exact FnA.bd (FnA.intK (wr k (.ofNat (Nat.shiftLeft n (bif Nat.ble m k.bits then m else k.bits))))) (fun z => FnA.pure (V.int k z)) fun _ => rfl
            | false => exact FnA.bd (FnA.natK (Nat.shiftRight n (bif Nat.ble m k.bits then m else k.bits))) (fun z => FnA.pure (V.int k (.ofNat z))) fun _ => rfl
        | _ => exact FnA.fail
    | _ => exact FnA.fail
  · cases a with
    | int k n => cases n with
      | negSucc n => exact FnA.fail
      | ofNat n => cases b with
        | int k' m => cases m <;> exact FnA.fail
        | _ => exact FnA.fail
    | _ => exact FnA.fail
theorem fEqB_fn (neg : Bool) : RdFn (fEqB neg) := by
  intro vs h
  rcases vs with _ | ⟨a, _ | ⟨b, _ | ⟨c, l⟩⟩⟩
  · exact FnA.fail
  · first | exact FnA.fail | (cases a <;> exact FnA.fail)
  · cases a <;> first
      | exact FnA.fail
      | (cases b <;> first
          | exact FnA.fail
          | exact FnA.pure _
          | exact FnA.bd (FnA.boolK _) (fun z => FnA.pure _) fun _ => rfl)
  · first | exact FnA.fail | (cases a <;> first | exact FnA.fail | (cases b <;> first | exact FnA.fail | (rename_i i; cases i <;> exact FnA.fail)))
theorem fEqS_fn (neg : Bool) (fs : List (Nat × Bool)) : RdFn (fEqS neg fs) := by
  intro vs h
  rcases vs with _ | ⟨a, _ | ⟨b, _ | ⟨c, l⟩⟩⟩
  · exact FnA.fail
  · first | exact FnA.fail | (cases a <;> exact FnA.fail)
  · cases a <;> first
      | exact FnA.fail
      | (cases b <;> first
          | exact FnA.fail
          | exact FnA.pure _
          | exact FnA.eqFK _ _ (FnA.bc (FnA.pure _) (FnA.pure _) fun _ => rfl) (FnA.bc (FnA.pure _) (FnA.pure _) fun _ => rfl) fs)
  · first | exact FnA.fail | (cases a <;> first | exact FnA.fail | (cases b <;> first | exact FnA.fail | (rename_i i; cases i <;> exact FnA.fail)))
theorem fIdxStr_fn  : RdFn fIdxStr := by
  intro vs h
  rcases vs with _ | ⟨a, _ | ⟨b, _ | ⟨c, l⟩⟩⟩
  · exact FnA.fail
  · first | exact FnA.fail | (cases a <;> exact FnA.fail)
  · cases a <;> first
      | exact FnA.fail
      | (cases b <;> first
          | exact FnA.fail
          | exact FnA.pure _
          | (rename_i _ i; cases i <;> first | exact FnA.fail | exact FnA.cd (FnA.bd (FnA.natK _) (fun z => FnA.pure _) fun _ => rfl) FnA.fail fun _ => rfl))
  · first | exact FnA.fail | (cases a <;> first | exact FnA.fail | (cases b <;> first | exact FnA.fail | (rename_i i; cases i <;> exact FnA.fail)))
theorem fMin_fn (mx : Bool) : RdFn (fMin mx) := by
  intro vs h
  rcases vs with _ | ⟨a, _ | ⟨b, _ | ⟨c, l⟩⟩⟩
  · exact FnA.fail
  · first | exact FnA.fail | (cases a <;> exact FnA.fail)
  · cases a <;> first
      | exact FnA.fail
      | (cases b <;> first
          | exact FnA.fail
          | exact FnA.pure _
          | exact FnA.bc (FnA.bc (FnA.pure _) (FnA.pure _) fun _ => rfl) (FnA.bc (FnA.pure _) (FnA.pure _) fun _ => rfl) fun _ => rfl)
  · first | exact FnA.fail | (cases a <;> first | exact FnA.fail | (cases b <;> first | exact FnA.fail | (rename_i i; cases i <;> exact FnA.fail)))
theorem fIAddr_fn (z : Nat) : RdFn (fIAddr z) := by
  intro vs h
  rcases vs with _ | ⟨a, _ | ⟨b, _ | ⟨c, l⟩⟩⟩
  · exact FnA.fail
  · first | exact FnA.fail | (cases a <;> exact FnA.fail)
  · cases a <;> first
      | exact FnA.fail
      | (cases b <;> first
          | exact FnA.fail
          | exact FnA.pure _
          | (rename_i _ j; cases j <;> first | exact FnA.fail | exact FnA.cd (FnA.bd (FnA.natK _) (fun z => FnA.pure _) fun _ => rfl) FnA.fail fun _ => rfl))
  · first | exact FnA.fail | (cases a <;> first | exact FnA.fail | (cases b <;> first | exact FnA.fail | (rename_i i; cases i <;> exact FnA.fail)))
theorem fIAddrA_fn (n z : Nat) : RdFn (fIAddrA n z) := by
  intro vs h
  rcases vs with _ | ⟨a, _ | ⟨b, _ | ⟨c, l⟩⟩⟩
  · exact FnA.fail
  · first | exact FnA.fail | (cases a <;> exact FnA.fail)
  · cases a <;> first
      | exact FnA.fail
      | (cases b <;> first
          | exact FnA.fail
          | exact FnA.pure _
          | (rename_i _ j; cases j <;> first | exact FnA.fail | exact FnA.cd (FnA.bd (FnA.natK _) (fun z => FnA.pure _) fun _ => rfl) FnA.fail fun _ => rfl))
  · first | exact FnA.fail | (cases a <;> first | exact FnA.fail | (cases b <;> first | exact FnA.fail | (rename_i i; cases i <;> exact FnA.fail)))
theorem fLookup_fn (int : Bool) (z : V) (ok : Bool) : RdFn (fLookup int z ok) := by
  intro vs h
  rcases vs with _ | ⟨a, _ | ⟨b, _ | ⟨c, l⟩⟩⟩
  · exact FnA.fail
  · cases a <;> exact FnA.fail
  · cases a <;> first
      | exact FnA.fail
      | exact FnA.bc (FnA.pure _) (FnA.pure _) fun _ => rfl
      | exact FnA.bd (k := fun k K => (match k.d with
    | .map es _ => findK int b es 0 (Bool.rec (motive := fun _ => Bool) (K z) (K (.tup [z, .bool false])) ok) fun _ v => Bool.rec (motive := fun _ => Bool) (K v) (K (.tup [v, .bool true])) ok
    | _ => false)) (FnA.blkK h _) (fun k => by
         cases k with | mk g p n d ty =>
         cases d with
          | map es c => exact FnA.findK int b (FnA.bc (FnA.pure _) (FnA.pure _) fun _ => rfl) (fun i v => FnA.bc (FnA.pure _) (FnA.pure _) fun _ => rfl) es 0
          | _ => exact FnA.fail) fun _ => rfl
  · cases a <;> exact FnA.fail
theorem fEqNil_fn (neg : Bool) (c : Nat) : RdFn (fEqNil neg c) := by
  intro vs h
  rcases vs with _ | ⟨a, _ | ⟨b, _ | ⟨d, l⟩⟩⟩
  · rcases c with _ | _ | _ | _ | _ | c <;> exact FnA.fail
  · rcases c with _ | _ | _ | _ | _ | c <;> exact FnA.fail
  · rcases c with _ | _ | _ | _ | _ | c <;> cases b <;> first | exact FnA.fail | (cases a <;> first | exact FnA.fail | exact FnA.pure _)
  · rcases c with _ | _ | _ | _ | _ | c <;> first | exact FnA.fail | (cases b <;> exact FnA.fail)
theorem fEqPP_fn (neg : Bool) : RdFn (fEqPP neg) := by
  intro vs h
  rcases vs with _ | ⟨a, _ | ⟨b, _ | ⟨d, l⟩⟩⟩
  · exact FnA.fail
  · cases a <;> exact FnA.fail
  · cases b <;> cases a <;> first | exact FnA.fail | exact FnA.pure _ | exact FnA.cond _ (FnA.pure _) FnA.fail
  · cases b <;> cases a <;> exact FnA.fail
theorem fPick_fn : RdFn fPick := by
  intro vs h
  rcases vs with _ | ⟨a, _ | ⟨b, _ | ⟨c, _ | ⟨d, l⟩⟩⟩⟩
  · exact FnA.fail
  · cases a <;> exact FnA.fail
  · cases a <;> exact FnA.fail
  · cases a <;> first | exact FnA.fail | exact FnA.bc (FnA.pure _) (FnA.pure _) fun _ => rfl
  · cases a <;> exact FnA.fail
theorem fSlStr_fn (lo hi : Bool) : RdFn (fSlStr lo hi) := by
  intro vs h
  rcases vs with _ | ⟨a, l⟩
  · exact FnA.fail
  · cases a with
    | str n c => exact FnA.bnds (k := fun l h _ => strK (h - l) (Nat.mod (Nat.shiftRight c (8 * (n - h))) (Nat.pow 256 (h - l)))) lo hi false n (some n) l fun l h _ => FnA.strK _ _
    | _ => exact FnA.fail
theorem fSl_fn (z : Nat) (lo hi mx : Bool) : RdFn (fSl z lo hi mx) := by
  intro vs h
  rcases vs with _ | ⟨a, l⟩
  · exact FnA.fail
  · cases a <;> first | exact FnA.fail | exact FnA.cd (FnA.bnds _ _ _ _ _ _ fun l h _ => FnA.sliceK _ _ _ _ _) FnA.fail fun _ => rfl | exact FnA.bnds _ _ _ _ _ _ fun l h _ => FnA.pure _
theorem fSlArr_fn (n z : Nat) (lo hi mx : Bool) : RdFn (fSlArr n z lo hi mx) := by
  intro vs h
  rcases vs with _ | ⟨a, l⟩
  · exact FnA.fail
  · cases a <;> first | exact FnA.fail | exact FnA.bd (FnA.blkK h _) (fun k => FnA.cd (FnA.bnds _ _ _ _ _ _ fun l h _ => FnA.sliceK _ _ _ _ _) FnA.fail fun _ => rfl) fun _ => rfl
theorem fMkF_fn (f : FuncId) (n : Nat) : RdFn (fMkF f n) := fun vs h => FnA.bd (FnA.takeK n vs) (fun a => FnA.bd (FnA.dropK n vs) (fun c => FnA.pure _) fun _ => rfl) fun _ => rfl
theorem fBuild_fn (zero : List V) (ps : List (Nat × Nat)) : RdFn (fBuild zero ps) := fun vs h => FnA.bd (FnA.fillK ps vs zero) (fun l => FnA.pure _) fun _ => rfl
theorem fId_fn  : RdFn fId := by
  intro vs h
  rcases vs with _ | ⟨a, _ | ⟨b, l⟩⟩
  · exact FnA.fail
  · cases a <;> first
      | exact FnA.fail
      | exact FnA.pure _
  · first | exact FnA.fail | (cases a <;> exact FnA.fail)
theorem fNilChk_fn  : RdFn fNilChk := by
  intro vs h
  rcases vs with _ | ⟨a, _ | ⟨b, l⟩⟩
  · exact FnA.fail
  · cases a <;> first
      | exact FnA.fail
      | exact FnA.pure _
  · first | exact FnA.fail | (cases a <;> exact FnA.fail)
theorem fFAddr_fn (d : Nat) : RdFn (fFAddr d) := by
  intro vs h
  rcases vs with _ | ⟨a, _ | ⟨b, l⟩⟩
  · exact FnA.fail
  · cases a <;> first
      | exact FnA.fail
      | exact FnA.pure _
      | exact FnA.bd (FnA.natK _) (fun z => FnA.pure _) fun _ => rfl
  · first | exact FnA.fail | (cases a <;> exact FnA.fail)
theorem fLoad1_fn  : RdFn fLoad1 := by
  intro vs h
  rcases vs with _ | ⟨a, _ | ⟨b, l⟩⟩
  · exact FnA.fail
  · cases a <;> first
      | exact FnA.fail
      | exact FnA.pure _
      | exact FnA.bd (FnA.blkK h _) (fun k => FnA.cd (FnA.datK _ _ _) FnA.fail fun _ => rfl) fun _ => rfl
  · first | exact FnA.fail | (cases a <;> exact FnA.fail)
theorem fLoadN_fn (n : Nat) : RdFn (fLoadN n) := by
  intro vs h
  rcases vs with _ | ⟨a, _ | ⟨b, l⟩⟩
  · exact FnA.fail
  · cases a <;> first
      | exact FnA.fail
      | exact FnA.pure _
      | exact FnA.bd (FnA.blkK h _) (fun k => FnA.cd (FnA.bd (FnA.rowK _ _ _ _) (fun l => FnA.pure _) fun _ => rfl) FnA.fail fun _ => rfl) fun _ => rfl
  · first | exact FnA.fail | (cases a <;> exact FnA.fail)
theorem fNot_fn  : RdFn fNot := by
  intro vs h
  rcases vs with _ | ⟨a, _ | ⟨b, l⟩⟩
  · exact FnA.fail
  · cases a <;> first
      | exact FnA.fail
      | exact FnA.pure _
      | exact FnA.bc (FnA.pure _) (FnA.pure _) fun _ => rfl
  · first | exact FnA.fail | (cases a <;> exact FnA.fail)
theorem fExt_fn (i : Nat) : RdFn (fExt i) := by
  intro vs h
  rcases vs with _ | ⟨a, _ | ⟨b, l⟩⟩
  · exact FnA.fail
  · cases a <;> first
      | exact FnA.fail
      | exact FnA.pure _
      | exact FnA.nthK _ i
  · first | exact FnA.fail | (cases a <;> exact FnA.fail)
theorem fField_fn (off n : Nat) (one : Bool) : RdFn (fField off n one) := by
  intro vs h
  rcases vs with _ | ⟨a, _ | ⟨b, l⟩⟩
  · exact FnA.fail
  · cases a <;> first
      | exact FnA.fail
      | exact FnA.pure _
      | exact FnA.partK _ _ _ _
  · first | exact FnA.fail | (cases a <;> exact FnA.fail)
theorem fConv_fn (k : IntKind) : RdFn (fConv k) := by
  intro vs h
  rcases vs with _ | ⟨a, _ | ⟨b, l⟩⟩
  · exact FnA.fail
  · cases a <;> first
      | exact FnA.fail
      | exact FnA.pure _
      | exact FnA.bd (FnA.intK _) (fun z => FnA.pure _) fun _ => rfl
  · first | exact FnA.fail | (cases a <;> exact FnA.fail)
theorem fNeg_fn  : RdFn fNeg := by
  intro vs h
  rcases vs with _ | ⟨a, _ | ⟨b, l⟩⟩
  · exact FnA.fail
  · cases a <;> first
      | exact FnA.fail
      | exact FnA.pure _
      | exact FnA.bd (FnA.intK _) (fun z => FnA.pure _) fun _ => rfl
  · first | exact FnA.fail | (cases a <;> exact FnA.fail)
theorem fStrStr_fn  : RdFn fStrStr := by
  intro vs h
  rcases vs with _ | ⟨a, _ | ⟨b, l⟩⟩
  · exact FnA.fail
  · cases a <;> first
      | exact FnA.fail
      | exact FnA.pure _
  · first | exact FnA.fail | (cases a <;> exact FnA.fail)
theorem fLenStr_fn  : RdFn fLenStr := by
  intro vs h
  rcases vs with _ | ⟨a, _ | ⟨b, l⟩⟩
  · exact FnA.fail
  · cases a <;> first
      | exact FnA.fail
      | exact FnA.pure _
  · first | exact FnA.fail | (cases a <;> exact FnA.fail)
theorem fLenSl_fn  : RdFn fLenSl := by
  intro vs h
  rcases vs with _ | ⟨a, _ | ⟨b, l⟩⟩
  · exact FnA.fail
  · cases a <;> first
      | exact FnA.fail
      | exact FnA.pure _
  · first | exact FnA.fail | (cases a <;> exact FnA.fail)
theorem fLenArr_fn (n : Nat) : RdFn (fLenArr n) := by
  intro vs h
  rcases vs with _ | ⟨a, _ | ⟨b, l⟩⟩
  · exact FnA.fail
  · cases a <;> first
      | exact FnA.fail
      | exact FnA.pure _
  · first | exact FnA.fail | (cases a <;> exact FnA.fail)
theorem fMkI_fn (t : TypeId) : RdFn (fMkI t) := by
  intro vs h
  rcases vs with _ | ⟨a, _ | ⟨b, l⟩⟩
  · exact FnA.fail
  · cases a <;> first
      | exact FnA.fail
      | exact FnA.pure _
  · first | exact FnA.fail | (cases a <;> exact FnA.fail)
theorem fLenMap_fn  : RdFn fLenMap := by
  intro vs h
  rcases vs with _ | ⟨a, _ | ⟨b, l⟩⟩
  · exact FnA.fail
  · cases a <;> first
      | exact FnA.fail
      | exact FnA.pure _
      | exact FnA.bd (k := fun k K => (match k.d with | .map es _ => lenK es 0 fun n => K (.int .i64 (.ofNat n)) | _ => false)) (FnA.blkK h _) (fun k => by
         cases k with | mk g p n d ty =>
         cases d with
          | map es c => exact FnA.bd (FnA.lenK es 0) (fun n => FnA.pure (V.int .i64 (.ofNat n))) fun _ => rfl
          | _ => exact FnA.fail) fun _ => rfl
  · first | exact FnA.fail | (cases a <;> exact FnA.fail)
theorem fB2S_fn  : RdFn fB2S := by
  intro vs h
  rcases vs with _ | ⟨a, _ | ⟨b, l⟩⟩
  · exact FnA.fail
  · cases a <;> first
      | exact FnA.fail
      | exact FnA.pure _
      | (rename_i b off len e cap
         exact FnA.bc (FnA.bd (k := fun k K => bif Nat.beq e 1 && Nat.ble (off + len) k.n then (match k.d with
        | .bytes c => strK len (Nat.mod (Nat.shiftRight c (8 * (k.n - (off + len)))) (Nat.pow 256 len)) K
        | _ => false) else false) (FnA.blkK h b) (fun k => by
         cases k with | mk g p n d ty =>
         cases d with
          | bytes c => exact FnA.cd (FnA.strK _ _) FnA.fail fun _ => rfl
          | _ => exact FnA.cd FnA.fail FnA.fail fun _ => rfl) fun _ => rfl) (FnA.pure _) fun _ => rfl)
  · first | exact FnA.fail | (cases a <;> exact FnA.fail)
theorem FnA.condK {α : Type} (b : Bool) {g g' : (α → Bool) → Bool} (h : FnA g) (h' : FnA g') : FnA fun K => condK b (g K) (g' K) := by cases b <;> assumption
theorem fIdxArr_fn (n z : Nat) (one : Bool) : RdFn (fIdxArr n z one) := by
  intro vs h
  rcases vs with _ | ⟨a, _ | ⟨b, _ | ⟨c, l⟩⟩⟩
  · exact FnA.fail
  · exact FnA.fail
  · cases a with
    | agg l =>
      cases b with
      | int k j =>
        cases j with
        | ofNat j => exact FnA.condK (Nat.blt j n) (FnA.bind (FnA.natK (Nat.mul j z)) fun off => FnA.partK l off z one) FnA.fail
        | negSucc j => exact FnA.fail
      | _ => exact FnA.fail
    | _ => exact FnA.fail
  · exact FnA.fail
theorem fCap_fn : RdFn fCap := by
  intro vs h
  rcases vs with _ | ⟨a, _ | ⟨b, l⟩⟩
  · exact FnA.fail
  · cases a with
    | slice b o l e c => cases c with
      | none => exact FnA.fail
      | some c => exact FnA.pure _
    | nils => exact FnA.pure _
    | _ => exact FnA.fail
  · cases a with
    | slice b o l e c => cases c <;> exact FnA.fail
    | _ => exact FnA.fail
theorem fXorU_fn : RdFn fXorU := by
  intro vs h
  rcases vs with _ | ⟨a, _ | ⟨b, l⟩⟩
  · exact FnA.fail
  · cases a with
    | int k j => exact FnA.fInt .xor k _ j
    | _ => exact FnA.fail
  · exact FnA.fail
theorem fSData_fn : RdFn fSData := by
  intro vs h
  rcases vs with _ | ⟨a, _ | ⟨b, l⟩⟩
  · exact FnA.fail
  · cases a with
    | nils => exact FnA.pure _
    | slice b off len e oc => exact FnA.cd FnA.fail (FnA.pure _) fun _ => rfl
    | _ => exact FnA.fail
  · cases a <;> exact FnA.fail
theorem fToUn_fn : RdFn fToUn := by
  intro vs h
  rcases vs with _ | ⟨a, _ | ⟨b, l⟩⟩
  · exact FnA.fail
  · cases a with
    | nilp => exact FnA.pure _
    | ptr b off => exact FnA.bd (FnA.blkK h b) (fun k => FnA.cd (b := !k.d.isMap && Nat.blt off k.n) (FnA.pure (V.ptr b off)) FnA.fail fun _ => rfl) fun _ => rfl
    | _ => exact FnA.fail
  · cases a <;> exact FnA.fail
theorem fFromUn_fn (lies : TypeId → Nat → Nat → Bool) : RdFn (fFromUn lies) := by
  intro vs h
  rcases vs with _ | ⟨a, _ | ⟨b, l⟩⟩
  · exact FnA.fail
  · cases a with
    | nilp => exact FnA.pure _
    | ptr b off => exact FnA.bd (k := fun k K => (match k.ty with | some (e, true) => bif lies e k.n off then K (.ptr b off) else false | _ => false)) (FnA.blkK h b) (fun k => by
        cases k with | mk g p n d ty =>
        cases ty with
        | none => exact FnA.fail
        | some e => cases e with | mk e o => cases o with
          | false => exact FnA.fail
          | true => exact FnA.cd (b := lies e n off) (FnA.pure (V.ptr b off)) FnA.fail fun _ => rfl) fun _ => rfl
    | _ => exact FnA.fail
  · cases a <;> exact FnA.fail
theorem fAssert_fn (t : TypeId) : RdFn (fAssert t) := by
  intro vs h
  rcases vs with _ | ⟨a, _ | ⟨b, l⟩⟩
  · exact FnA.fail
  · cases a with
    | iface u v => exact FnA.cd (FnA.pure _) FnA.fail fun _ => rfl
    | _ => exact FnA.fail
  · cases a <;> exact FnA.fail
theorem FnA.rec2 {α : Type} (b : Bool) {g g' : (α → Bool) → Bool} (h : FnA g) (h' : FnA g') : FnA fun K => Bool.rec (motive := fun _ => Bool) (g' K) (g K) b := by cases b <;> assumption
theorem FnA.leafK {α : Type} (k : FT) (a b : V) {g g' : (α → Bool) → Bool} (h : FnA g) (h' : FnA g') : FnA fun K => leafK k a b (g K) (g' K) := by
  cases k with
  | int =>
    cases a with
    | int k x => cases b with
      | int k' y => exact FnA.eq (FnA.cond (Nat.beq (kix k) (kix k')) (FnA.rec2 (iEq x y) h h') FnA.fail) fun K => rfl
      | _ => exact FnA.fail
    | _ => exact FnA.fail
  | str =>
    cases a with
    | str k x => cases b with
      | str k' y => exact FnA.eq (FnA.rec2 (Nat.beq k k' && Nat.beq x y) h h') fun K => rfl
      | _ => exact FnA.fail
    | _ => exact FnA.fail
  | bool =>
    cases a with
    | bool p => cases b with
      | bool q => cases p <;> cases q <;> first | exact h | exact h'
      | _ => exact FnA.fail
    | _ => exact FnA.fail
theorem FnA.eqLK {α : Type} (a b : List V) {g g' : (α → Bool) → Bool} (h : FnA g) (h' : FnA g') : ∀ (l : List (Nat × FT)), FnA fun K => eqLK l a b (g K) (g' K)
  | [] => h
  | f :: l => FnA.bd (FnA.nthK a f.1) (fun x => FnA.bd (FnA.nthK b f.1) (fun y => FnA.leafK f.2 x y (FnA.eqLK a b h h' l) h') fun _ => rfl) fun _ => rfl
theorem fEqL_fn (neg : Bool) (l : List (Nat × FT)) : RdFn (fEqL neg l) := by
  intro vs h
  rcases vs with _ | ⟨a, _ | ⟨b, _ | ⟨c, r⟩⟩⟩
  · exact FnA.fail
  · cases a <;> exact FnA.fail
  · cases a with
    | agg x =>
      cases b with
      | agg y => exact FnA.eqLK x y (g := fun (K : V → Bool) => Bool.rec (motive := fun _ => Bool) (K (V.bool true)) (K (V.bool false)) neg) (g' := fun (K : V → Bool) => Bool.rec (motive := fun _ => Bool) (K (V.bool false)) (K (V.bool true)) neg) (by cases neg <;> exact FnA.pure _) (by cases neg <;> exact FnA.pure _) l
      | _ => exact FnA.fail
    | _ => exact FnA.fail
  · cases a <;> cases b <;> exact FnA.fail
theorem FnA.pkK {α : Type} (v : V) {k : Nat → Nat → Int → (α → Bool) → Bool} (h : ∀ n c z, FnA (k n c z)) : FnA fun K => pkK v fun n c z => k n c z K := by
  cases v with
  | agg l =>
    rcases l with _ | ⟨a, _ | ⟨b, _ | ⟨c, r⟩⟩⟩
    · exact FnA.fail
    · cases a <;> exact FnA.fail
    · cases a with
      | str n cc => cases b with
        | int kk z => cases kk with
          | i64 => exact FnA.cd (b := Nat.ble n 1000000 && inR z) (h n cc z) FnA.fail fun _ => rfl
          | _ => exact FnA.fail
        | _ => exact FnA.fail
      | _ => exact FnA.fail
    · cases a <;> cases b <;> first
        | exact FnA.fail
        | (rename_i kk _; cases kk <;> exact FnA.fail)
  | _ => exact FnA.fail
theorem FnA.noneK {α : Type} (n c : Nat) (z : Int) {g : (α → Bool) → Bool} (hg : FnA g) : ∀ (es : List Ent), FnA fun K => noneK n c z es (g K)
  | [] => hg
  | e :: es => FnA.pkK e.key (k := fun n' c' z' K => Bool.rec (motive := fun _ => Bool) (Ev.noneK n c z es (g K)) false (Nat.beq n n' && Nat.beq c c' && iEq z z')) fun n' c' z' => FnA.bc (FnA.noneK n c z hg es) FnA.fail fun _ => rfl
theorem FnA.findPK {α : Type} (n c : Nat) (z : Int) {g : (α → Bool) → Bool} {s : Nat → Ent → (α → Bool) → Bool} (hg : FnA g) (hs : ∀ i e, FnA (s i e)) : ∀ (es : List Ent) (i : Nat), FnA fun K => findPK n c z es i (g K) (fun i e => s i e K)
  | [], i => hg
  | e :: es, i => FnA.pkK e.key (k := fun n' c' z' K => Bool.rec (motive := fun _ => Bool) (Ev.findPK n c z es (Nat.succ i) (g K) (fun i e => s i e K)) (Ev.noneK n c z es (Ev.natK i fun i => s i e K)) (Nat.beq n n' && Nat.beq c c' && iEq z z')) fun n' c' z' =>
      FnA.bc (FnA.findPK n c z hg hs es (i + 1)) (FnA.noneK n c z (FnA.bd (FnA.natK i) (fun i => hs i e) fun _ => rfl) es) fun _ => rfl
theorem fLookupP_fn (zv : V) (ok : Bool) : RdFn (fLookupP zv ok) := by
  intro vs h
  rcases vs with _ | ⟨a, _ | ⟨b, _ | ⟨c, r⟩⟩⟩
  · exact FnA.fail
  · cases a <;> exact FnA.fail
  · cases a with
    | map m =>
      refine FnA.pkK b (k := fun n c z K => blkK h m fun k => (match k.d with
        | .map es _ => Ev.findPK n c z es 0 (Bool.rec (motive := fun _ => Bool) (K zv) (K (.tup [zv, .bool false])) ok) fun _ e => Bool.rec (motive := fun _ => Bool) (K e.val) (K (.tup [e.val, .bool true])) ok
        | _ => false)) fun n c z => FnA.bd (FnA.blkK h m) (k := fun k K => (match k.d with
        | .map es _ => Ev.findPK n c z es 0 (Bool.rec (motive := fun _ => Bool) (K zv) (K (.tup [zv, .bool false])) ok) fun _ e => Bool.rec (motive := fun _ => Bool) (K e.val) (K (.tup [e.val, .bool true])) ok
        | _ => false)) (fun k => ?_) fun _ => rfl
      cases k with | mk g p n9 d ty =>
      cases d with
      | map es cl => exact FnA.findPK n c z (g := fun (K : V → Bool) => Bool.rec (motive := fun _ => Bool) (K zv) (K (.tup [zv, .bool false])) ok) (s := fun _ e (K : V → Bool) => Bool.rec (motive := fun _ => Bool) (K e.val) (K (.tup [e.val, .bool true])) ok) (by cases ok <;> exact FnA.pure _) (fun _ e => by cases ok <;> exact FnA.pure _) es 0
      | _ => exact FnA.fail
    | _ => exact FnA.fail
  · cases a <;> exact FnA.fail
theorem FnA.bornK {α : Type} (s : Nat) {g : Nat → Ent → (α → Bool) → Bool} (hg : ∀ i e, FnA (g i e)) : ∀ (es : List Ent) (i : Nat), FnA fun K => bornK s es i (fun i e => g i e K)
  | [], i => FnA.fail
  | e :: es, i => FnA.bc (FnA.bornK s hg es (i + 1)) (FnA.bd (FnA.natK i) (fun i => hg i e) fun _ => rfl) fun _ => rfl
theorem FnA.lastN : ∀ (l : List Nat), FnA (lastN l)
  | [] => FnA.fail
  | [a] => FnA.pure a
  | a :: b :: l => FnA.lastN (b :: l)
theorem fEntryM_fn : RdFn fEntryM := by
  intro vs h
  rcases vs with _ | ⟨a, _ | ⟨b, l⟩⟩
  · exact FnA.fail
  · cases a with
    | ptr it off =>
      refine FnA.cd (FnA.bd (FnA.blkK h it) (k := fun ki K => (match ki.d with
        | .mit b since seen last => Ev.lastN seen fun s => blkK h b fun k => (match k.d with
          | .map es clock => bif Nat.beq clock last then Ev.bornK s es 0 fun _ e => K (.tup [e.key, e.val]) else false
          | _ => false)
        | _ => false)) (fun ki => ?_) fun _ => rfl) FnA.fail fun _ => rfl
      cases ki with | mk g p n d ty =>
      cases d with
      | mit b since seen last =>
        refine FnA.bd (FnA.lastN seen) (k := fun s K => blkK h b fun k => (match k.d with
          | .map es clock => bif Nat.beq clock last then Ev.bornK s es 0 fun _ e => K (.tup [e.key, e.val]) else false
          | _ => false)) (fun s => FnA.bd (FnA.blkK h b) (k := fun k K => (match k.d with
          | .map es clock => bif Nat.beq clock last then Ev.bornK s es 0 fun _ e => K (.tup [e.key, e.val]) else false
          | _ => false)) (fun k => ?_) fun _ => rfl) fun _ => rfl
        cases k with | mk g p n d ty =>
        cases d with
        | map es cl => exact FnA.cd (FnA.bornK s (g := fun _ e (K : V → Bool) => K (.tup [e.key, e.val])) (fun _ e => FnA.pure _) es 0) FnA.fail fun _ => rfl
        | _ => exact FnA.fail
      | _ => exact FnA.fail
    | _ => exact FnA.fail
  · cases a <;> exact FnA.fail
end Go.Ev
end
section
namespace Go.Ev
def OpFn : OpF → Prop
  | .rd1 f => RdFn (of1 f)
  | .rd2 f => RdFn (of2 f)
  | .rd f => RdFn f
  | _ => True
theorem rBin_fn (op : BinOp) : RdFn (of2 (rBin op)) := by rw [rBin_eq]; exact fBin_fn op
theorem rId_fn : RdFn (of1 rId) := by rw [rId_eq]; exact fId_fn
theorem rNil_fn : RdFn (of1 rNil) := by rw [rNil_eq]; exact fNilChk_fn
theorem rNot_fn : RdFn (of1 rNot) := by rw [rNot_eq]; exact fNot_fn
theorem rLenStr_fn : RdFn (of1 rLenStr) := by rw [rLenStr_eq]; exact fLenStr_fn
theorem rLenSl_fn : RdFn (of1 rLenSl) := by rw [rLenSl_eq]; exact fLenSl_fn
theorem rFA_fn (d : Nat) : RdFn (of1 (rFA d)) := by rw [rFA_eq]; exact fFAddr_fn d
theorem rExt_fn (d : Nat) : RdFn (of1 (rExt d)) := by rw [rExt_eq]; exact fExt_fn d
theorem rField_fn (a b : Nat) (c : Bool) : RdFn (of1 (rField a b c)) := by rw [rField_eq]; exact fField_fn a b c
theorem rMkI_fn (d : TypeId) : RdFn (of1 (rMkI d)) := by rw [rMkI_eq]; exact fMkI_fn d
theorem rConv_fn (d : IntKind) : RdFn (of1 (rConv d)) := by rw [rConv_eq]; exact fConv_fn d
theorem rLoad1_fn : RdFn (of1 rLoad1) := by rw [rLoad1_eq]; exact fLoad1_fn
theorem rLoadN_fn (d : Nat) : RdFn (of1 (rLoadN d)) := by rw [rLoadN_eq]; exact fLoadN_fn d
theorem rIAddr_fn (d : Nat) : RdFn (of2 (rIAddr d)) := by rw [rIAddr_eq]; exact fIAddr_fn d
theorem rIAddrA_fn (n d : Nat) : RdFn (of2 (rIAddrA n d)) := by rw [rIAddrA_eq]; exact fIAddrA_fn n d
theorem cEq_fn (P : Program) (neg : Bool) (t : TypeId) (y : Operand) : OpFn (cEq P neg t y) := by
  unfold cEq
  repeat' split
  all_goals first
    | trivial
    | exact fLookupP_fn _ _ | exact fEntryM_fn | exact fEqL_fn _ _ | exact fEqPP_fn _ | exact fSData_fn | exact fToUn_fn | exact fFromUn_fn _ | exact fAssert_fn _ | exact rBin_fn _ | exact fShift_fn _ | exact fEqB_fn _ | exact fEqS_fn _ _ | exact fEqNil_fn _ _ | exact fB2S_fn | exact rConv_fn _ | exact fStrStr_fn | exact fBuild_fn _ _
    | exact rField_fn _ _ _ | exact rFA_fn _ | exact fIdxStr_fn | exact fIdxArr_fn _ _ _ | exact fXorU_fn | exact fCap_fn | exact rIAddr_fn _ | exact rIAddrA_fn _ _ | exact fSlStr_fn _ _ | exact fSl_fn _ _ _ _ | exact fSlArr_fn _ _ _ _ _ | exact fLookup_fn _ _ _
    | exact rLoad1_fn | exact rLoadN_fn _ | exact rMkI_fn _ | exact fMin_fn _ | exact rLenStr_fn | exact rLenSl_fn | exact fLenArr_fn _ | exact fLenMap_fn | exact rId_fn | exact fPick_fn | exact rNil_fn | exact rNot_fn | exact fNeg_fn | exact fMkF_fn _ _ | exact rExt_fn _
theorem cBin_fn (P : Program) (op : BinOp) (t : TypeId) (y : Operand) : OpFn (cBin P op t y) := by
  unfold cBin
  repeat' split
  all_goals first
    | trivial
    | exact fLookupP_fn _ _ | exact fEntryM_fn | exact fEqL_fn _ _ | exact fEqPP_fn _ | exact fSData_fn | exact fToUn_fn | exact fFromUn_fn _ | exact fAssert_fn _ | exact rBin_fn _ | exact fShift_fn _ | exact fEqB_fn _ | exact fEqS_fn _ _ | exact fEqNil_fn _ _ | exact fB2S_fn | exact rConv_fn _ | exact fStrStr_fn | exact fBuild_fn _ _
    | exact rField_fn _ _ _ | exact rFA_fn _ | exact fIdxStr_fn | exact fIdxArr_fn _ _ _ | exact fXorU_fn | exact fCap_fn | exact rIAddr_fn _ | exact rIAddrA_fn _ _ | exact fSlStr_fn _ _ | exact fSl_fn _ _ _ _ | exact fSlArr_fn _ _ _ _ _ | exact fLookup_fn _ _ _
    | exact rLoad1_fn | exact rLoadN_fn _ | exact rMkI_fn _ | exact fMin_fn _ | exact rLenStr_fn | exact rLenSl_fn | exact fLenArr_fn _ | exact fLenMap_fn | exact rId_fn | exact fPick_fn | exact rNil_fn | exact rNot_fn | exact fNeg_fn | exact fMkF_fn _ _ | exact rExt_fn _ | exact cEq_fn _ _ _ _
theorem cConvert_fn (P : Program) (s t : TypeId) : OpFn (cConvert P s t) := by
  unfold cConvert
  repeat' split
  all_goals first
    | trivial
    | exact fLookupP_fn _ _ | exact fEntryM_fn | exact fEqL_fn _ _ | exact fEqPP_fn _ | exact fSData_fn | exact fToUn_fn | exact fFromUn_fn _ | exact fAssert_fn _ | exact rBin_fn _ | exact fShift_fn _ | exact fEqB_fn _ | exact fEqS_fn _ _ | exact fEqNil_fn _ _ | exact fB2S_fn | exact rConv_fn _ | exact fStrStr_fn | exact fBuild_fn _ _
    | exact rField_fn _ _ _ | exact rFA_fn _ | exact fIdxStr_fn | exact fIdxArr_fn _ _ _ | exact fXorU_fn | exact fCap_fn | exact rIAddr_fn _ | exact rIAddrA_fn _ _ | exact fSlStr_fn _ _ | exact fSl_fn _ _ _ _ | exact fSlArr_fn _ _ _ _ _ | exact fLookup_fn _ _ _
    | exact rLoad1_fn | exact rLoadN_fn _ | exact rMkI_fn _ | exact fMin_fn _ | exact rLenStr_fn | exact rLenSl_fn | exact fLenArr_fn _ | exact fLenMap_fn | exact rId_fn | exact fPick_fn | exact rNil_fn | exact rNot_fn | exact fNeg_fn | exact fMkF_fn _ _ | exact rExt_fn _ | exact cEq_fn _ _ _ _  | exact cBin_fn _ _ _ _
theorem cAlloc_fn (P : Program) (t : TypeId) : OpFn (cAlloc P t) := by
  unfold cAlloc
  repeat' split
  all_goals first
    | trivial
    | exact fLookupP_fn _ _ | exact fEntryM_fn | exact fEqL_fn _ _ | exact fEqPP_fn _ | exact fSData_fn | exact fToUn_fn | exact fFromUn_fn _ | exact fAssert_fn _ | exact rBin_fn _ | exact fShift_fn _ | exact fEqB_fn _ | exact fEqS_fn _ _ | exact fEqNil_fn _ _ | exact fB2S_fn | exact rConv_fn _ | exact fStrStr_fn | exact fBuild_fn _ _
    | exact rField_fn _ _ _ | exact rFA_fn _ | exact fIdxStr_fn | exact fIdxArr_fn _ _ _ | exact fXorU_fn | exact fCap_fn | exact rIAddr_fn _ | exact rIAddrA_fn _ _ | exact fSlStr_fn _ _ | exact fSl_fn _ _ _ _ | exact fSlArr_fn _ _ _ _ _ | exact fLookup_fn _ _ _
    | exact rLoad1_fn | exact rLoadN_fn _ | exact rMkI_fn _ | exact fMin_fn _ | exact rLenStr_fn | exact rLenSl_fn | exact fLenArr_fn _ | exact fLenMap_fn | exact rId_fn | exact fPick_fn | exact rNil_fn | exact rNot_fn | exact fNeg_fn | exact fMkF_fn _ _ | exact rExt_fn _ | exact cEq_fn _ _ _ _  | exact cBin_fn _ _ _ _  | exact cConvert_fn _ _ _
theorem cBuild_fn (P : Program) (t : TypeId) (parts : Array (Nat × Operand)) : OpFn (cBuild P t parts) := by
  unfold cBuild
  repeat' split
  all_goals first
    | trivial
    | exact fLookupP_fn _ _ | exact fEntryM_fn | exact fEqL_fn _ _ | exact fEqPP_fn _ | exact fSData_fn | exact fToUn_fn | exact fFromUn_fn _ | exact fAssert_fn _ | exact rBin_fn _ | exact fShift_fn _ | exact fEqB_fn _ | exact fEqS_fn _ _ | exact fEqNil_fn _ _ | exact fB2S_fn | exact rConv_fn _ | exact fStrStr_fn | exact fBuild_fn _ _
    | exact rField_fn _ _ _ | exact rFA_fn _ | exact fIdxStr_fn | exact fIdxArr_fn _ _ _ | exact fXorU_fn | exact fCap_fn | exact rIAddr_fn _ | exact rIAddrA_fn _ _ | exact fSlStr_fn _ _ | exact fSl_fn _ _ _ _ | exact fSlArr_fn _ _ _ _ _ | exact fLookup_fn _ _ _
    | exact rLoad1_fn | exact rLoadN_fn _ | exact rMkI_fn _ | exact fMin_fn _ | exact rLenStr_fn | exact rLenSl_fn | exact fLenArr_fn _ | exact fLenMap_fn | exact rId_fn | exact fPick_fn | exact rNil_fn | exact rNot_fn | exact fNeg_fn | exact fMkF_fn _ _ | exact rExt_fn _ | exact cEq_fn _ _ _ _  | exact cBin_fn _ _ _ _  | exact cConvert_fn _ _ _  | exact cAlloc_fn _ _
theorem cBSlice_fn (P : Program) (t : TypeId) (n : Nat) (parts : Array (Nat × Operand)) : OpFn (cBSlice P t n parts) := by
  unfold cBSlice
  repeat' split
  all_goals first
    | trivial
    | exact fLookupP_fn _ _ | exact fEntryM_fn | exact fEqL_fn _ _ | exact fEqPP_fn _ | exact fSData_fn | exact fToUn_fn | exact fFromUn_fn _ | exact fAssert_fn _ | exact rBin_fn _ | exact fShift_fn _ | exact fEqB_fn _ | exact fEqS_fn _ _ | exact fEqNil_fn _ _ | exact fB2S_fn | exact rConv_fn _ | exact fStrStr_fn | exact fBuild_fn _ _
    | exact rField_fn _ _ _ | exact rFA_fn _ | exact fIdxStr_fn | exact fIdxArr_fn _ _ _ | exact fXorU_fn | exact fCap_fn | exact rIAddr_fn _ | exact rIAddrA_fn _ _ | exact fSlStr_fn _ _ | exact fSl_fn _ _ _ _ | exact fSlArr_fn _ _ _ _ _ | exact fLookup_fn _ _ _
    | exact rLoad1_fn | exact rLoadN_fn _ | exact rMkI_fn _ | exact fMin_fn _ | exact rLenStr_fn | exact rLenSl_fn | exact fLenArr_fn _ | exact fLenMap_fn | exact rId_fn | exact fPick_fn | exact rNil_fn | exact rNot_fn | exact fNeg_fn | exact fMkF_fn _ _ | exact rExt_fn _ | exact cEq_fn _ _ _ _  | exact cBin_fn _ _ _ _  | exact cConvert_fn _ _ _  | exact cAlloc_fn _ _  | exact cBuild_fn _ _ _
theorem cMkSlice_fn (P : Program) (t : TypeId) : OpFn (cMkSlice P t) := by
  unfold cMkSlice
  repeat' split
  all_goals first
    | trivial
    | exact fLookupP_fn _ _ | exact fEntryM_fn | exact fEqL_fn _ _ | exact fEqPP_fn _ | exact fSData_fn | exact fToUn_fn | exact fFromUn_fn _ | exact fAssert_fn _ | exact rBin_fn _ | exact fShift_fn _ | exact fEqB_fn _ | exact fEqS_fn _ _ | exact fEqNil_fn _ _ | exact fB2S_fn | exact rConv_fn _ | exact fStrStr_fn | exact fBuild_fn _ _
    | exact rField_fn _ _ _ | exact rFA_fn _ | exact fIdxStr_fn | exact fIdxArr_fn _ _ _ | exact fXorU_fn | exact fCap_fn | exact rIAddr_fn _ | exact rIAddrA_fn _ _ | exact fSlStr_fn _ _ | exact fSl_fn _ _ _ _ | exact fSlArr_fn _ _ _ _ _ | exact fLookup_fn _ _ _
    | exact rLoad1_fn | exact rLoadN_fn _ | exact rMkI_fn _ | exact fMin_fn _ | exact rLenStr_fn | exact rLenSl_fn | exact fLenArr_fn _ | exact fLenMap_fn | exact rId_fn | exact fPick_fn | exact rNil_fn | exact rNot_fn | exact fNeg_fn | exact fMkF_fn _ _ | exact rExt_fn _ | exact cEq_fn _ _ _ _  | exact cBin_fn _ _ _ _  | exact cConvert_fn _ _ _  | exact cAlloc_fn _ _  | exact cBuild_fn _ _ _  | exact cBSlice_fn _ _ _ _
theorem cField_fn (P : Program) (t : TypeId) (fi : Nat) : OpFn (cField P t fi) := by
  unfold cField
  repeat' split
  all_goals first
    | trivial
    | exact fLookupP_fn _ _ | exact fEntryM_fn | exact fEqL_fn _ _ | exact fEqPP_fn _ | exact fSData_fn | exact fToUn_fn | exact fFromUn_fn _ | exact fAssert_fn _ | exact rBin_fn _ | exact fShift_fn _ | exact fEqB_fn _ | exact fEqS_fn _ _ | exact fEqNil_fn _ _ | exact fB2S_fn | exact rConv_fn _ | exact fStrStr_fn | exact fBuild_fn _ _
    | exact rField_fn _ _ _ | exact rFA_fn _ | exact fIdxStr_fn | exact fIdxArr_fn _ _ _ | exact fXorU_fn | exact fCap_fn | exact rIAddr_fn _ | exact rIAddrA_fn _ _ | exact fSlStr_fn _ _ | exact fSl_fn _ _ _ _ | exact fSlArr_fn _ _ _ _ _ | exact fLookup_fn _ _ _
    | exact rLoad1_fn | exact rLoadN_fn _ | exact rMkI_fn _ | exact fMin_fn _ | exact rLenStr_fn | exact rLenSl_fn | exact fLenArr_fn _ | exact fLenMap_fn | exact rId_fn | exact fPick_fn | exact rNil_fn | exact rNot_fn | exact fNeg_fn | exact fMkF_fn _ _ | exact rExt_fn _ | exact cEq_fn _ _ _ _  | exact cBin_fn _ _ _ _  | exact cConvert_fn _ _ _  | exact cAlloc_fn _ _  | exact cBuild_fn _ _ _  | exact cBSlice_fn _ _ _ _  | exact cMkSlice_fn _ _
theorem cFieldAddr_fn (P : Program) (t : TypeId) (fi : Nat) : OpFn (cFieldAddr P t fi) := by
  unfold cFieldAddr
  repeat' split
  all_goals first
    | trivial
    | exact fLookupP_fn _ _ | exact fEntryM_fn | exact fEqL_fn _ _ | exact fEqPP_fn _ | exact fSData_fn | exact fToUn_fn | exact fFromUn_fn _ | exact fAssert_fn _ | exact rBin_fn _ | exact fShift_fn _ | exact fEqB_fn _ | exact fEqS_fn _ _ | exact fEqNil_fn _ _ | exact fB2S_fn | exact rConv_fn _ | exact fStrStr_fn | exact fBuild_fn _ _
    | exact rField_fn _ _ _ | exact rFA_fn _ | exact fIdxStr_fn | exact fIdxArr_fn _ _ _ | exact fXorU_fn | exact fCap_fn | exact rIAddr_fn _ | exact rIAddrA_fn _ _ | exact fSlStr_fn _ _ | exact fSl_fn _ _ _ _ | exact fSlArr_fn _ _ _ _ _ | exact fLookup_fn _ _ _
    | exact rLoad1_fn | exact rLoadN_fn _ | exact rMkI_fn _ | exact fMin_fn _ | exact rLenStr_fn | exact rLenSl_fn | exact fLenArr_fn _ | exact fLenMap_fn | exact rId_fn | exact fPick_fn | exact rNil_fn | exact rNot_fn | exact fNeg_fn | exact fMkF_fn _ _ | exact rExt_fn _ | exact cEq_fn _ _ _ _  | exact cBin_fn _ _ _ _  | exact cConvert_fn _ _ _  | exact cAlloc_fn _ _  | exact cBuild_fn _ _ _  | exact cBSlice_fn _ _ _ _  | exact cMkSlice_fn _ _  | exact cField_fn _ _ _
theorem cIndex_fn (P : Program) (t : TypeId) : OpFn (cIndex P t) := by
  unfold cIndex
  repeat' split
  all_goals first
    | trivial
    | exact fLookupP_fn _ _ | exact fEntryM_fn | exact fEqL_fn _ _ | exact fEqPP_fn _ | exact fSData_fn | exact fToUn_fn | exact fFromUn_fn _ | exact fAssert_fn _ | exact rBin_fn _ | exact fShift_fn _ | exact fEqB_fn _ | exact fEqS_fn _ _ | exact fEqNil_fn _ _ | exact fB2S_fn | exact rConv_fn _ | exact fStrStr_fn | exact fBuild_fn _ _
    | exact rField_fn _ _ _ | exact rFA_fn _ | exact fIdxStr_fn | exact fIdxArr_fn _ _ _ | exact fXorU_fn | exact fCap_fn | exact rIAddr_fn _ | exact rIAddrA_fn _ _ | exact fSlStr_fn _ _ | exact fSl_fn _ _ _ _ | exact fSlArr_fn _ _ _ _ _ | exact fLookup_fn _ _ _
    | exact rLoad1_fn | exact rLoadN_fn _ | exact rMkI_fn _ | exact fMin_fn _ | exact rLenStr_fn | exact rLenSl_fn | exact fLenArr_fn _ | exact fLenMap_fn | exact rId_fn | exact fPick_fn | exact rNil_fn | exact rNot_fn | exact fNeg_fn | exact fMkF_fn _ _ | exact rExt_fn _ | exact cEq_fn _ _ _ _  | exact cBin_fn _ _ _ _  | exact cConvert_fn _ _ _  | exact cAlloc_fn _ _  | exact cBuild_fn _ _ _  | exact cBSlice_fn _ _ _ _  | exact cMkSlice_fn _ _  | exact cField_fn _ _ _  | exact cFieldAddr_fn _ _ _
theorem cIndexAddr_fn (P : Program) (t : TypeId) : OpFn (cIndexAddr P t) := by
  unfold cIndexAddr
  repeat' split
  all_goals first
    | trivial
    | exact fLookupP_fn _ _ | exact fEntryM_fn | exact fEqL_fn _ _ | exact fEqPP_fn _ | exact fSData_fn | exact fToUn_fn | exact fFromUn_fn _ | exact fAssert_fn _ | exact rBin_fn _ | exact fShift_fn _ | exact fEqB_fn _ | exact fEqS_fn _ _ | exact fEqNil_fn _ _ | exact fB2S_fn | exact rConv_fn _ | exact fStrStr_fn | exact fBuild_fn _ _
    | exact rField_fn _ _ _ | exact rFA_fn _ | exact fIdxStr_fn | exact fIdxArr_fn _ _ _ | exact fXorU_fn | exact fCap_fn | exact rIAddr_fn _ | exact rIAddrA_fn _ _ | exact fSlStr_fn _ _ | exact fSl_fn _ _ _ _ | exact fSlArr_fn _ _ _ _ _ | exact fLookup_fn _ _ _
    | exact rLoad1_fn | exact rLoadN_fn _ | exact rMkI_fn _ | exact fMin_fn _ | exact rLenStr_fn | exact rLenSl_fn | exact fLenArr_fn _ | exact fLenMap_fn | exact rId_fn | exact fPick_fn | exact rNil_fn | exact rNot_fn | exact fNeg_fn | exact fMkF_fn _ _ | exact rExt_fn _ | exact cEq_fn _ _ _ _  | exact cBin_fn _ _ _ _  | exact cConvert_fn _ _ _  | exact cAlloc_fn _ _  | exact cBuild_fn _ _ _  | exact cBSlice_fn _ _ _ _  | exact cMkSlice_fn _ _  | exact cField_fn _ _ _  | exact cFieldAddr_fn _ _ _  | exact cIndex_fn _ _
theorem cSlice_fn (P : Program) (t : TypeId) (lo hi mx : Option Operand) : OpFn (cSlice P t lo hi mx) := by
  unfold cSlice
  repeat' split
  all_goals first
    | trivial
    | exact fLookupP_fn _ _ | exact fEntryM_fn | exact fEqL_fn _ _ | exact fEqPP_fn _ | exact fSData_fn | exact fToUn_fn | exact fFromUn_fn _ | exact fAssert_fn _ | exact rBin_fn _ | exact fShift_fn _ | exact fEqB_fn _ | exact fEqS_fn _ _ | exact fEqNil_fn _ _ | exact fB2S_fn | exact rConv_fn _ | exact fStrStr_fn | exact fBuild_fn _ _
    | exact rField_fn _ _ _ | exact rFA_fn _ | exact fIdxStr_fn | exact fIdxArr_fn _ _ _ | exact fXorU_fn | exact fCap_fn | exact rIAddr_fn _ | exact rIAddrA_fn _ _ | exact fSlStr_fn _ _ | exact fSl_fn _ _ _ _ | exact fSlArr_fn _ _ _ _ _ | exact fLookup_fn _ _ _
    | exact rLoad1_fn | exact rLoadN_fn _ | exact rMkI_fn _ | exact fMin_fn _ | exact rLenStr_fn | exact rLenSl_fn | exact fLenArr_fn _ | exact fLenMap_fn | exact rId_fn | exact fPick_fn | exact rNil_fn | exact rNot_fn | exact fNeg_fn | exact fMkF_fn _ _ | exact rExt_fn _ | exact cEq_fn _ _ _ _  | exact cBin_fn _ _ _ _  | exact cConvert_fn _ _ _  | exact cAlloc_fn _ _  | exact cBuild_fn _ _ _  | exact cBSlice_fn _ _ _ _  | exact cMkSlice_fn _ _  | exact cField_fn _ _ _  | exact cFieldAddr_fn _ _ _  | exact cIndex_fn _ _  | exact cIndexAddr_fn _ _
theorem cLookup_fn (P : Program) (t : TypeId) (ok : Bool) : OpFn (cLookup P t ok) := by
  unfold cLookup
  repeat' split
  all_goals first
    | trivial
    | exact fLookupP_fn _ _ | exact fEntryM_fn | exact fEqL_fn _ _ | exact fEqPP_fn _ | exact fSData_fn | exact fToUn_fn | exact fFromUn_fn _ | exact fAssert_fn _ | exact rBin_fn _ | exact fShift_fn _ | exact fEqB_fn _ | exact fEqS_fn _ _ | exact fEqNil_fn _ _ | exact fB2S_fn | exact rConv_fn _ | exact fStrStr_fn | exact fBuild_fn _ _
    | exact rField_fn _ _ _ | exact rFA_fn _ | exact fIdxStr_fn | exact fIdxArr_fn _ _ _ | exact fXorU_fn | exact fCap_fn | exact rIAddr_fn _ | exact rIAddrA_fn _ _ | exact fSlStr_fn _ _ | exact fSl_fn _ _ _ _ | exact fSlArr_fn _ _ _ _ _ | exact fLookup_fn _ _ _
    | exact rLoad1_fn | exact rLoadN_fn _ | exact rMkI_fn _ | exact fMin_fn _ | exact rLenStr_fn | exact rLenSl_fn | exact fLenArr_fn _ | exact fLenMap_fn | exact rId_fn | exact fPick_fn | exact rNil_fn | exact rNot_fn | exact fNeg_fn | exact fMkF_fn _ _ | exact rExt_fn _ | exact cEq_fn _ _ _ _  | exact cBin_fn _ _ _ _  | exact cConvert_fn _ _ _  | exact cAlloc_fn _ _  | exact cBuild_fn _ _ _  | exact cBSlice_fn _ _ _ _  | exact cMkSlice_fn _ _  | exact cField_fn _ _ _  | exact cFieldAddr_fn _ _ _  | exact cIndex_fn _ _  | exact cIndexAddr_fn _ _  | exact cSlice_fn _ _ _ _ _
theorem cMapUpd_fn (P : Program) (t : TypeId) : OpFn (cMapUpd P t) := by
  unfold cMapUpd
  repeat' split
  all_goals first
    | trivial
    | exact fLookupP_fn _ _ | exact fEntryM_fn | exact fEqL_fn _ _ | exact fEqPP_fn _ | exact fSData_fn | exact fToUn_fn | exact fFromUn_fn _ | exact fAssert_fn _ | exact rBin_fn _ | exact fShift_fn _ | exact fEqB_fn _ | exact fEqS_fn _ _ | exact fEqNil_fn _ _ | exact fB2S_fn | exact rConv_fn _ | exact fStrStr_fn | exact fBuild_fn _ _
    | exact rField_fn _ _ _ | exact rFA_fn _ | exact fIdxStr_fn | exact fIdxArr_fn _ _ _ | exact fXorU_fn | exact fCap_fn | exact rIAddr_fn _ | exact rIAddrA_fn _ _ | exact fSlStr_fn _ _ | exact fSl_fn _ _ _ _ | exact fSlArr_fn _ _ _ _ _ | exact fLookup_fn _ _ _
    | exact rLoad1_fn | exact rLoadN_fn _ | exact rMkI_fn _ | exact fMin_fn _ | exact rLenStr_fn | exact rLenSl_fn | exact fLenArr_fn _ | exact fLenMap_fn | exact rId_fn | exact fPick_fn | exact rNil_fn | exact rNot_fn | exact fNeg_fn | exact fMkF_fn _ _ | exact rExt_fn _ | exact cEq_fn _ _ _ _  | exact cBin_fn _ _ _ _  | exact cConvert_fn _ _ _  | exact cAlloc_fn _ _  | exact cBuild_fn _ _ _  | exact cBSlice_fn _ _ _ _  | exact cMkSlice_fn _ _  | exact cField_fn _ _ _  | exact cFieldAddr_fn _ _ _  | exact cIndex_fn _ _  | exact cIndexAddr_fn _ _  | exact cSlice_fn _ _ _ _ _  | exact cLookup_fn _ _ _
theorem cLoad_fn (P : Program) (t : TypeId) : OpFn (cLoad P t) := by
  unfold cLoad
  repeat' split
  all_goals first
    | trivial
    | exact fLookupP_fn _ _ | exact fEntryM_fn | exact fEqL_fn _ _ | exact fEqPP_fn _ | exact fSData_fn | exact fToUn_fn | exact fFromUn_fn _ | exact fAssert_fn _ | exact rBin_fn _ | exact fShift_fn _ | exact fEqB_fn _ | exact fEqS_fn _ _ | exact fEqNil_fn _ _ | exact fB2S_fn | exact rConv_fn _ | exact fStrStr_fn | exact fBuild_fn _ _
    | exact rField_fn _ _ _ | exact rFA_fn _ | exact fIdxStr_fn | exact fIdxArr_fn _ _ _ | exact fXorU_fn | exact fCap_fn | exact rIAddr_fn _ | exact rIAddrA_fn _ _ | exact fSlStr_fn _ _ | exact fSl_fn _ _ _ _ | exact fSlArr_fn _ _ _ _ _ | exact fLookup_fn _ _ _
    | exact rLoad1_fn | exact rLoadN_fn _ | exact rMkI_fn _ | exact fMin_fn _ | exact rLenStr_fn | exact rLenSl_fn | exact fLenArr_fn _ | exact fLenMap_fn | exact rId_fn | exact fPick_fn | exact rNil_fn | exact rNot_fn | exact fNeg_fn | exact fMkF_fn _ _ | exact rExt_fn _ | exact cEq_fn _ _ _ _  | exact cBin_fn _ _ _ _  | exact cConvert_fn _ _ _  | exact cAlloc_fn _ _  | exact cBuild_fn _ _ _  | exact cBSlice_fn _ _ _ _  | exact cMkSlice_fn _ _  | exact cField_fn _ _ _  | exact cFieldAddr_fn _ _ _  | exact cIndex_fn _ _  | exact cIndexAddr_fn _ _  | exact cSlice_fn _ _ _ _ _  | exact cLookup_fn _ _ _  | exact cMapUpd_fn _ _
theorem cStore_fn (P : Program) (t : TypeId) : OpFn (cStore P t) := by
  unfold cStore
  repeat' split
  all_goals first
    | trivial
    | exact fLookupP_fn _ _ | exact fEntryM_fn | exact fEqL_fn _ _ | exact fEqPP_fn _ | exact fSData_fn | exact fToUn_fn | exact fFromUn_fn _ | exact fAssert_fn _ | exact rBin_fn _ | exact fShift_fn _ | exact fEqB_fn _ | exact fEqS_fn _ _ | exact fEqNil_fn _ _ | exact fB2S_fn | exact rConv_fn _ | exact fStrStr_fn | exact fBuild_fn _ _
    | exact rField_fn _ _ _ | exact rFA_fn _ | exact fIdxStr_fn | exact fIdxArr_fn _ _ _ | exact fXorU_fn | exact fCap_fn | exact rIAddr_fn _ | exact rIAddrA_fn _ _ | exact fSlStr_fn _ _ | exact fSl_fn _ _ _ _ | exact fSlArr_fn _ _ _ _ _ | exact fLookup_fn _ _ _
    | exact rLoad1_fn | exact rLoadN_fn _ | exact rMkI_fn _ | exact fMin_fn _ | exact rLenStr_fn | exact rLenSl_fn | exact fLenArr_fn _ | exact fLenMap_fn | exact rId_fn | exact fPick_fn | exact rNil_fn | exact rNot_fn | exact fNeg_fn | exact fMkF_fn _ _ | exact rExt_fn _ | exact cEq_fn _ _ _ _  | exact cBin_fn _ _ _ _  | exact cConvert_fn _ _ _  | exact cAlloc_fn _ _  | exact cBuild_fn _ _ _  | exact cBSlice_fn _ _ _ _  | exact cMkSlice_fn _ _  | exact cField_fn _ _ _  | exact cFieldAddr_fn _ _ _  | exact cIndex_fn _ _  | exact cIndexAddr_fn _ _  | exact cSlice_fn _ _ _ _ _  | exact cLookup_fn _ _ _  | exact cMapUpd_fn _ _  | exact cLoad_fn _ _
theorem cMkI_fn (P : Program) (t : TypeId) : OpFn (cMkI P t) := by
  unfold cMkI
  repeat' split
  all_goals first
    | trivial
    | exact fLookupP_fn _ _ | exact fEntryM_fn | exact fEqL_fn _ _ | exact fEqPP_fn _ | exact fSData_fn | exact fToUn_fn | exact fFromUn_fn _ | exact fAssert_fn _ | exact rBin_fn _ | exact fShift_fn _ | exact fEqB_fn _ | exact fEqS_fn _ _ | exact fEqNil_fn _ _ | exact fB2S_fn | exact rConv_fn _ | exact fStrStr_fn | exact fBuild_fn _ _
    | exact rField_fn _ _ _ | exact rFA_fn _ | exact fIdxStr_fn | exact fIdxArr_fn _ _ _ | exact fXorU_fn | exact fCap_fn | exact rIAddr_fn _ | exact rIAddrA_fn _ _ | exact fSlStr_fn _ _ | exact fSl_fn _ _ _ _ | exact fSlArr_fn _ _ _ _ _ | exact fLookup_fn _ _ _
    | exact rLoad1_fn | exact rLoadN_fn _ | exact rMkI_fn _ | exact fMin_fn _ | exact rLenStr_fn | exact rLenSl_fn | exact fLenArr_fn _ | exact fLenMap_fn | exact rId_fn | exact fPick_fn | exact rNil_fn | exact rNot_fn | exact fNeg_fn | exact fMkF_fn _ _ | exact rExt_fn _ | exact cEq_fn _ _ _ _  | exact cBin_fn _ _ _ _  | exact cConvert_fn _ _ _  | exact cAlloc_fn _ _  | exact cBuild_fn _ _ _  | exact cBSlice_fn _ _ _ _  | exact cMkSlice_fn _ _  | exact cField_fn _ _ _  | exact cFieldAddr_fn _ _ _  | exact cIndex_fn _ _  | exact cIndexAddr_fn _ _  | exact cSlice_fn _ _ _ _ _  | exact cLookup_fn _ _ _  | exact cMapUpd_fn _ _  | exact cLoad_fn _ _  | exact cStore_fn _ _
theorem cAssert_fn (P : Program) (t : TypeId) (ok : Bool) : OpFn (cAssert P t ok) := by
  unfold cAssert
  repeat' split
  all_goals first
    | trivial
    | exact fAssert_fn _
theorem cMapEnt_fn (P : Program) (t : TypeId) : OpFn (cMapEnt P t) := by
  unfold cMapEnt
  repeat' split
  all_goals trivial
theorem cRangeM_fn (P : Program) (t : TypeId) : OpFn (cRangeM P t) := by
  unfold cRangeM
  repeat' split
  all_goals trivial
theorem cBuiltin_fn (P : Program) (b : Builtin) (ts : Array TypeId) : OpFn (cBuiltin P b ts) := by
  unfold cBuiltin
  repeat' split
  all_goals first
    | trivial
    | exact fLookupP_fn _ _ | exact fEntryM_fn | exact fEqL_fn _ _ | exact fEqPP_fn _ | exact fSData_fn | exact fToUn_fn | exact fFromUn_fn _ | exact fAssert_fn _ | exact rBin_fn _ | exact fShift_fn _ | exact fEqB_fn _ | exact fEqS_fn _ _ | exact fEqNil_fn _ _ | exact fB2S_fn | exact rConv_fn _ | exact fStrStr_fn | exact fBuild_fn _ _
    | exact rField_fn _ _ _ | exact rFA_fn _ | exact fIdxStr_fn | exact fIdxArr_fn _ _ _ | exact fXorU_fn | exact fCap_fn | exact rIAddr_fn _ | exact rIAddrA_fn _ _ | exact fSlStr_fn _ _ | exact fSl_fn _ _ _ _ | exact fSlArr_fn _ _ _ _ _ | exact fLookup_fn _ _ _
    | exact rLoad1_fn | exact rLoadN_fn _ | exact rMkI_fn _ | exact fMin_fn _ | exact rLenStr_fn | exact rLenSl_fn | exact fLenArr_fn _ | exact fLenMap_fn | exact rId_fn | exact fPick_fn | exact rNil_fn | exact rNot_fn | exact fNeg_fn | exact fMkF_fn _ _ | exact rExt_fn _ | exact cEq_fn _ _ _ _  | exact cBin_fn _ _ _ _  | exact cConvert_fn _ _ _  | exact cAlloc_fn _ _  | exact cBuild_fn _ _ _  | exact cBSlice_fn _ _ _ _  | exact cMkSlice_fn _ _  | exact cField_fn _ _ _  | exact cFieldAddr_fn _ _ _  | exact cIndex_fn _ _  | exact cIndexAddr_fn _ _  | exact cSlice_fn _ _ _ _ _  | exact cLookup_fn _ _ _  | exact cMapUpd_fn _ _  | exact cLoad_fn _ _  | exact cStore_fn _ _  | exact cMkI_fn _ _
theorem compOp_fn (P : Program) (op : Op) : OpFn (compOp P op) := by
  unfold compOp
  split
  all_goals first
    | trivial
    | exact fLookupP_fn _ _ | exact fEntryM_fn | exact fEqL_fn _ _ | exact fEqPP_fn _ | exact fSData_fn | exact fToUn_fn | exact fFromUn_fn _ | exact fAssert_fn _ | exact rBin_fn _ | exact fShift_fn _ | exact fEqB_fn _ | exact fEqS_fn _ _ | exact fEqNil_fn _ _ | exact fB2S_fn | exact rConv_fn _ | exact fStrStr_fn | exact fBuild_fn _ _
    | exact rField_fn _ _ _ | exact rFA_fn _ | exact fIdxStr_fn | exact fIdxArr_fn _ _ _ | exact fXorU_fn | exact fCap_fn | exact rIAddr_fn _ | exact rIAddrA_fn _ _ | exact fSlStr_fn _ _ | exact fSl_fn _ _ _ _ | exact fSlArr_fn _ _ _ _ _ | exact fLookup_fn _ _ _
    | exact rLoad1_fn | exact rLoadN_fn _ | exact rMkI_fn _ | exact fMin_fn _ | exact rLenStr_fn | exact rLenSl_fn | exact fLenArr_fn _ | exact fLenMap_fn | exact rId_fn | exact fPick_fn | exact rNil_fn | exact rNot_fn | exact fNeg_fn | exact fMkF_fn _ _ | exact rExt_fn _ | exact cEq_fn _ _ _ _  | exact cBin_fn _ _ _ _  | exact cConvert_fn _ _ _  | exact cAlloc_fn _ _  | exact cBuild_fn _ _ _  | exact cBSlice_fn _ _ _ _  | exact cMkSlice_fn _ _  | exact cField_fn _ _ _  | exact cFieldAddr_fn _ _ _  | exact cIndex_fn _ _  | exact cIndexAddr_fn _ _  | exact cSlice_fn _ _ _ _ _  | exact cLookup_fn _ _ _  | exact cMapUpd_fn _ _  | exact cLoad_fn _ _  | exact cStore_fn _ _  | exact cMkI_fn _ _  | exact cBuiltin_fn _ _ _ | exact cAssert_fn _ _ _ | exact cMapEnt_fn _ _ | exact cRangeM_fn _ _
end Go.Ev
end
section
namespace Go.Ev
noncomputable def opK (C : CallH) (f : OpF) : List V → H → (V → H → Bool) → Bool :=
  OpF.rec (motive := fun _ => CallH → List V → H → (V → H → Bool) → Bool) (fun f _ vs h K => of1 f vs h fun v => K v h) (fun f _ vs h K => of2 f vs h fun v => K v h) (fun f _ vs h K => f vs h fun v => K v h)
    (fun f _ vs h K => f vs h K) (fun f _ vs h K => f vs h K) (fun C vs h K => callM C h K vs) (fun _ _ _ _ => false) (fun tbl C vs h K => invM C tbl h K vs) f C
section
variable {P : Program} {ro : Option Nat} {C : CallH} {B : Bd} {φ : Phi} {h : H} {a : Act} {w : World} {o : Oper} {vs : List V} {K : V → H → Bool} {next : Act → World → Prop} {Q : Exit → Act → World → Prop}
theorem opRun (hC : CallOk P C) (hr : HR B φ h w) (hv : VRs φ vs (o.op.operands.toList.map a.eval)) (hk : opK C (compOp P o.op) vs h K = true)
    (hn : ∀ v h' φ' x w', Ext φ φ' → VR φ' v x → HR B φ' h' w' → Below B w w' → K v h' = true → next (a.put o.dst x) w') : o.wpIn (Fr ro) 0 P a w next Q := by
  have hok := compOp_ok P o.op
  have rd : ∀ {f : Rd}, RdSound P o.op f → (f vs h fun v => K v h) = true → o.wpIn (Fr ro) 0 P a w next Q := by
    intro f hf hk
    obtain ⟨v, x, h3, h4, h5⟩ := hf o rfl B φ h w a.eval vs _ hr hv hk
    exact wpF_value h3 (hn v h φ x w (Ext.refl φ) h4 hr (Below.refl _ _) h5)
  have ef : ∀ {f : Ef}, EfSound P o.op f → f vs h K = true → o.wpIn (Fr ro) 0 P a w next Q := by
    intro f hf hk
    obtain ⟨v, h', φ', x, w', h3, h4, h5, h6, h7, h8⟩ := hf o rfl B φ h w a.eval vs _ hr hv hk
    have := hn v h' φ' x w' h4 h5 h6 h7 h8
    rcases h3 with h3 | ⟨hx, h3⟩
    · exact wpF_value h3 this
    · subst hx; exact wpF_skip h3 this
  cases hf : compOp P o.op with
  | rd1 f => rw [hf] at hk hok; exact rd hok hk
  | rd2 f => rw [hf] at hk hok; exact rd hok hk
  | rd f => rw [hf] at hk hok; exact rd hok hk
  | al f => rw [hf] at hk hok; exact ef (AlSound.ef hok) hk
  | ef f => rw [hf] at hk hok; exact ef hok hk
  | none => rw [hf] at hk; exact absurd (show false = true from hk) (by simp)
  | inv tbl =>
    rw [hf] at hk hok
    obtain ⟨c, cx, name, hop, hcal, rfl⟩ := hok
    exact invRun hC hr hop hcal hv hk hn
  | call =>
    rw [hf] at hk hok
    obtain ⟨c, cx, hop, hcal⟩ := hok
    clear rd ef
    have h2 : callM C h K vs = true := hk
    unfold callM at h2
    split at h2
    · rename_i f first cap r
      have hops : o.op.operands.toList.map a.eval = a.eval cx :: (c.args.map a.eval).toList := by
        rw [hop]; simp [Op.operands, Call.operands, hcal]
      rw [hops] at hv
      cases hv with | cons hfv hrv =>
      generalize hfx : a.eval cx = fx at hfv
      cases hfv with
      | @func _ _ _ xs ys h3 h4 =>
        have hva : VRs φ (first ++ r ++ cap) (xs ++ c.args.map a.eval ++ ys).toList := by
          rw [Array.toList_append, Array.toList_append]; exact (h3.append hrv).append h4
        have hrw : (execOp a.eval o).run P w = (callFunc f (xs ++ c.args.map a.eval ++ ys)).run P w := by
          simp only [execOp, hop, resolve, hcal, hfx, Deferred.ofValue, Sem.run_bind, Sem.run_pure, Result.andThen_ok, invoke]
        obtain ⟨hne, h2⟩ := notY h2
        rcases hC.fn f _ h _ hne h2 B φ w _ hr hva with ⟨hent, hcalls⟩ | ⟨x, w', hval, v, h', φ', x', he, g1, g2, g3, g4, g5⟩
        · refine wpF_enter (hrw.trans hent) hcalls ?_
          rintro e w' ⟨v, h', φ', x, rfl, g1, g2, g3, g4, g5⟩
          exact ⟨x, rfl, hn v h' φ' x w' g1 g2 g3 g4 g5⟩
        · simp only [Ending.returned.injEq] at he; subst he
          exact wpF_value (hrw.trans hval) (hn v h' φ' x w' g1 g2 g3 g4 g5)
    · rename_i b r
      have hops : o.op.operands.toList.map a.eval = a.eval cx :: (c.args.map a.eval).toList := by
        rw [hop]; simp [Op.operands, Call.operands, hcal]
      rw [hops] at hv
      cases hv with | cons hfv hrv =>
      generalize hfx : a.eval cx = fx at hfv
      cases hfv with
      | @yld _ Lo hL =>
        obtain ⟨fn, tmps, asg, body, hy, hround⟩ := hC.yld b r h _ h2 B φ w _ Lo hr hL hrv
        have hrw : (execOp a.eval o).run P w = (Instr.yield Lo.blk (c.args.map a.eval)).run P w := by
          simp only [execOp, hop, resolve, hcal, hfx, Deferred.ofValue, Sem.run_bind, Sem.run_pure, Result.andThen_ok, invoke]
          simp
        refine wpF_round (hrw.trans hy) hround ?_
        rintro e w' ⟨v, h', φ', x, rfl, g1, g2, g3, g4, g5⟩
        exact ⟨x, rfl, hn v h' φ' x w' g1 g2 g3 g4 g5⟩
    · exact absurd h2 (by simp)
end
structure DIt where
  i : Nat
  guard : Option (Nat × Bool)
  dst : Option Nat
  key : Option Nat
  f : OpF
  args : List Src1
def OpF.isRd : OpF → Bool
  | .rd1 _ => true
  | .rd2 _ => true
  | .rd _ => true
  | _ => false
def OpF.isAl : OpF → Bool
  | .al _ => true
  | _ => false
def OpF.isLd : OpF → Bool
  | .rd1 _ => true
  | .rd2 _ => true
  | .rd _ => true
  | .al _ => true
  | _ => false
theorem OpF.rdLd {f : OpF} (h : f.isRd = true) : f.isLd = true := by cases f <;> first | rfl | exact absurd h (by simp [OpF.isRd])
theorem OpF.alLd {f : OpF} (h : f.isAl = true) : f.isLd = true := by cases f <;> first | rfl | exact absurd h (by simp [OpF.isAl])
theorem OpF.ldCases {f : OpF} (h : f.isLd = true) : f.isRd = true ∨ f.isAl = true := by cases f <;> first | exact .inl rfl | exact .inr rfl | exact absurd h (by simp [OpF.isLd])
theorem OpF.alRd {f : OpF} (h : f.isAl = true) : f.isRd = false := by cases f <;> first | rfl | exact absurd h (by simp [OpF.isAl])
theorem OpF.noLd {f : OpF} (h : f.isLd = false) : f.isRd = false ∧ f.isAl = false := by cases f <;> first | exact ⟨rfl, rfl⟩ | exact absurd h (by simp [OpF.isLd])
noncomputable def rdOf : OpF → Rd
  | .rd1 f => of1 f
  | .rd2 f => of2 f
  | .rd f => f
  | _ => fun _ _ _ => false
theorem opK_rd {C : CallH} {f : OpF} (hf : f.isRd = true) (vs : List V) (h : H) (K : V → H → Bool) : opK C f vs h K = rdOf f vs h fun v => K v h := by
  cases f <;> first | rfl | exact absurd hf (by simp [OpF.isRd])
noncomputable def setD (d : Option Nat) (v : V) (loc : T V) : (T V → Bool) → Bool := Option.rec (motive := fun _ => V → T V → (T V → Bool) → Bool) (fun _ loc K => K loc) (fun d v loc K => loc.setK d v K) d v loc
noncomputable def doD (C : CallH) (c : DIt) (loc : T V) (h : H) (K : T V → H → Bool) : Bool :=
  srcVs c.args [] loc fun vs => opK C c.f vs h fun v h => setD c.key v loc fun loc => K loc h
noncomputable def stepD (C : CallH) (c : DIt) (loc : T V) (h : H) (K : T V → H → Bool) : Bool :=
  Option.rec (motive := fun _ => Bool) (doD C c loc h K) (fun g => loc.getK g.1 fun v => guardA v g.2 (doD C c loc h K) (setD c.key undefV loc fun loc => K loc h)) c.guard
noncomputable def eqVf : Nat → V → V → Bool
  | 0, _, _ => false
  | n + 1, .bool a, .bool b => a == b
  | n + 1, .int k a, .int k' b => Nat.beq (kix k) (kix k') && iEq a b
  | n + 1, .str l c, .str l' c' => Nat.beq l l' && Nat.beq c c'
  | n + 1, .ptr b o, .ptr b' o' => Nat.beq b b' && Nat.beq o o'
  | n + 1, .nilp, .nilp => true
  | n + 1, .slice b o l e c, .slice b' o' l' e' c' => Nat.beq b b' && Nat.beq o o' && Nat.beq l l' && Nat.beq e e' && (match c, c' with | none, none => true | some c, some c' => Nat.beq c c' | _, _ => false)
  | n + 1, .nils, .nils => true
  | n + 1, .map b, .map b' => Nat.beq b b'
  | n + 1, .nilm, .nilm => true
  | n + 1, .func f x y, .func f' x' y' => Nat.beq f f' && eqL n x x' && eqL n y y'
  | n + 1, .nilf, .nilf => true
  | n + 1, .iface t v, .iface t' v' => Nat.beq t t' && eqVf n v v'
  | n + 1, .nili, .nili => true
  | n + 1, .agg l, .agg l' => eqL n l l'
  | n + 1, .tup l, .tup l' => eqL n l l'
  | _, _, _ => false
where eqL : Nat → List V → List V → Bool
  | 0, _, _ => false
  | n + 1, [], [] => true
  | n + 1, a :: l, b :: m => eqVf n a b && eqL n l m
  | _, _, _ => false
theorem eqVf_true : ∀ n, (∀ a b, eqVf n a b = true → a = b) ∧ ∀ l m, eqVf.eqL n l m = true → l = m := by
  intro n
  induction n with
  | zero => exact ⟨fun a b h => absurd h (by simp [eqVf]), fun l m h => absurd h (by simp [eqVf.eqL])⟩
  | succ n ih =>
    obtain ⟨ih1, ih2⟩ := ih
    refine ⟨fun a b h => ?_, fun l m h => ?_⟩
    · cases a <;> cases b <;> simp only [eqVf, Bool.and_eq_true, beq_iff_eq, reduceCtorEq, Bool.false_eq_true] at h ⊢
      case bool.bool => exact congrArg _ h
      case int.int => obtain ⟨h1, h2⟩ := h; rw [iEq_eq] at h2; rw [kix_inj h1, eq_of_beq h2]
      case str.str => rw [Nat.eq_of_beq_eq_true h.1, Nat.eq_of_beq_eq_true h.2]
      case ptr.ptr => rw [Nat.eq_of_beq_eq_true h.1, Nat.eq_of_beq_eq_true h.2]
      case slice.slice =>
        obtain ⟨⟨⟨⟨h1, h2⟩, h3⟩, h4⟩, h5⟩ := h
        rw [Nat.eq_of_beq_eq_true h1, Nat.eq_of_beq_eq_true h2, Nat.eq_of_beq_eq_true h3, Nat.eq_of_beq_eq_true h4]
        split at h5
        · rfl
        · rw [Nat.eq_of_beq_eq_true h5]
        · exact absurd h5 (by simp)
      case map.map => rw [Nat.eq_of_beq_eq_true h]
      case func.func => rw [Nat.eq_of_beq_eq_true h.1.1, ih2 _ _ h.1.2, ih2 _ _ h.2]
      case iface.iface => rw [Nat.eq_of_beq_eq_true h.1, ih1 _ _ h.2]
      case agg.agg => rw [ih2 _ _ h]
      case tup.tup => rw [ih2 _ _ h]
    · cases l <;> cases m <;> simp only [eqVf.eqL, Bool.and_eq_true, Bool.false_eq_true, reduceCtorEq] at h ⊢
      rw [ih1 _ _ h.1, ih2 _ _ h.2]
noncomputable def chkR (c : DIt) (loc : T V) (h : H) : Bool :=
  srcVs c.args [] loc fun vs => rdOf c.f vs h fun v => Option.rec (motive := fun _ => Bool) true (fun d => loc.getK d fun u => eqVf 1000 v u) c.key
noncomputable def chk (c : DIt) (loc : T V) (h : H) : Bool := Option.rec (motive := fun _ => Bool) (chkR c loc h) (fun g => loc.getK g.1 fun v => guardA v g.2 (chkR c loc h) true) c.guard
noncomputable def chkAll (l : List DIt) (loc : T V) (h : H) : Bool := List.rec (motive := fun _ => Bool) true (fun c _ ih => condK (chk c loc h) ih false) l
def bitB (m j : Nat) : Bool := Nat.testBit m j
noncomputable def ifL (b : Bool) : List DIt → List DIt → List DIt := Bool.rec (motive := fun _ => List DIt → List DIt → List DIt) (fun _ e => e) (fun t _ => t) b
noncomputable def leftOf (m : Nat) : List DIt → List DIt := List.rec (motive := fun _ => List DIt) [] (fun c _ ih => ifL (bitB m c.i) ih (c :: ih))
noncomputable def runD (C : CallH) (pm : Nat → Nat) : List DIt → List DIt → T V → H → (T V → H → Bool) → Bool
  | [], _, loc, h, K => K loc h
  | c :: r, acc, loc, h, K => stepD C c loc h fun loc h => bif c.f.isRd then runD C pm r (c :: acc) loc h K else
      bif c.f.isAl then condK (chkAll acc loc h) (runD C pm r acc loc h K) false else condK (chkAll (leftOf (pm c.i) acc) loc h) (runD C pm r (leftOf (pm c.i) acc) loc h K) false
theorem leftOf_mem {m : Nat} : ∀ {l : List DIt} {c : DIt}, c ∈ leftOf m l ↔ c ∈ l ∧ bitB m c.i = false
  | [], c => by simp [leftOf]
  | d :: l, c => by
    have e : leftOf m (d :: l) = ifL (bitB m d.i) (leftOf m l) (d :: leftOf m l) := rfl
    rw [e]
    cases h : bitB m d.i with
    | true =>
      show c ∈ leftOf m l ↔ _
      rw [leftOf_mem]
      constructor
      · rintro ⟨h1, h2⟩; exact ⟨List.mem_cons_of_mem _ h1, h2⟩
      · rintro ⟨h1, h2⟩
        rcases List.mem_cons.1 h1 with rfl | h1
        · rw [h] at h2; exact absurd h2 (by simp)
        · exact ⟨h1, h2⟩
    | false =>
      show c ∈ d :: leftOf m l ↔ _
      rw [List.mem_cons, leftOf_mem, List.mem_cons]
      constructor
      · rintro (rfl | ⟨h1, h2⟩)
        · exact ⟨.inl rfl, h⟩
        · exact ⟨.inr h1, h2⟩
      · rintro ⟨rfl | h1, h2⟩
        · exact .inl rfl
        · exact .inr ⟨h1, h2⟩
theorem chkAll_true : ∀ {l : List DIt} {loc : T V} {h : H}, chkAll l loc h = true → ∀ c ∈ l, chk c loc h = true
  | [], loc, h, _, c, hc => by simp at hc
  | d :: l, loc, h, hk, c, hc => by
    have e : chkAll (d :: l) loc h = condK (chk d loc h) (chkAll l loc h) false := rfl
    rw [e] at hk
    cases h1 : chk d loc h with
    | false => rw [h1] at hk; exact absurd (show false = true from hk) (by simp)
    | true =>
      rw [h1] at hk
      have hk : chkAll l loc h = true := hk
      rcases List.mem_cons.1 hc with rfl | hc
      · exact h1
      · exact chkAll_true hk c hc
end Go.Ev
end
section
namespace Go.Ev
noncomputable def fixT (N : Nat) (wr : T Nat) (m : Nat) (t : Nat) : Nat := bif Nat.blt t N then (match wr.get t with | some j => bif m.testBit j then N + t else t | none => t) else N + N
noncomputable def fixS (N : Nat) (wr : T Nat) (m : Nat) (s : Src1) : Src1 := match s with | .loc t => .loc (fixT N wr m t) | s => s
noncomputable def mkIt (P : Program) (ops : Array Oper) (N : Nat) (wr : T Nat) (pm : Nat → Nat) (i : Nat) : Option DIt :=
  match ops[i]? with
  | none => none
  | some o => match opSs 0 [] o.op.operands.toList with
    | none => none
    | some args => match o.guard with
      | none => some ⟨i, none, o.dst, o.dst.map (N + ·), compOp P o.op, args.map (fixS N wr (pm i))⟩
      | some (j, w) => match (ops[j]?).bind (·.dst) with
        | some t => some ⟨i, some (fixT N wr (pm i) t, w), o.dst, o.dst.map (N + ·), compOp P o.op, args.map (fixS N wr (pm i))⟩
        | none => none
theorem mkIt_some {P : Program} {ops : Array Oper} {N : Nat} {wr : T Nat} {pm : Nat → Nat} {i : Nat} {c : DIt} (h : mkIt P ops N wr pm i = some c) : ∃ o args, ops[i]? = some o ∧ c.i = i ∧ c.dst = o.dst ∧ c.key = o.dst.map (N + ·) ∧ c.f = compOp P o.op ∧ opSs 0 [] o.op.operands.toList = some args ∧ c.args = args.map (fixS N wr (pm i)) ∧
    ((o.guard = none ∧ c.guard = none) ∨ ∃ j w t, o.guard = some (j, w) ∧ c.guard = some (fixT N wr (pm i) t, w) ∧ (ops[j]?).bind (·.dst) = some t) := by
  unfold mkIt at h
  split at h
  · exact absurd h (by simp)
  · rename_i o ho
    split at h
    · exact absurd h (by simp)
    · rename_i args ha
      split at h
      · rename_i hg
        simp only [Option.some.injEq] at h; subst h
        exact ⟨o, args, ho, rfl, rfl, rfl, rfl, ha, rfl, .inl ⟨hg, rfl⟩⟩
      · rename_i j w hg
        split at h
        · rename_i t ht
          simp only [Option.some.injEq] at h; subst h
          exact ⟨o, args, ho, rfl, rfl, rfl, rfl, ha, rfl, .inr ⟨j, w, t, hg, rfl, ht⟩⟩
        · exact absurd h (by simp)
def reads (c : DIt) (t : Nat) : Prop := Src1.loc t ∈ c.args ∨ ∃ w, c.guard = some (t, w)
structure OrdOk (P : Program) (ops : Array Oper) (N : Nat) (wr : T Nat) (pm : Nat → Nat) (cl : List DIt) : Prop where
  item : ∀ c ∈ cl, mkIt P ops N wr pm c.i = some c
  all : ∀ i, i < ops.size → ∃ c ∈ cl, c.i = i
  uniq : ∀ p c r, cl = p ++ c :: r → ∀ c' ∈ p, c'.i ≠ c.i
  pre : ∀ p c r, cl = p ++ c :: r → ∀ j, (pm c.i).testBit j = true → ∃ c' ∈ p, c'.i = j
  ef : ∀ p c r, cl = p ++ c :: r → ∀ c' ∈ p, c'.f.isLd = false → (pm c.i).testBit c'.i = true
  src : ∀ c ∈ cl, ∀ k, reads c k → (k < N ∧ ∀ c' ∈ cl, c'.dst = some k → (pm c'.i).testBit c.i = true) ∨ ∃ t, k = N + t ∧ ∃ c' ∈ cl, c'.dst = some t ∧ (pm c.i).testBit c'.i = true
  dst : ∀ c ∈ cl, ∀ c' ∈ cl, ∀ d, c.dst = some d → c'.dst = some d → c.i = c'.i
  dstN : ∀ c ∈ cl, ∀ d, c.dst = some d → d < N
  pmF : ∀ i o, ops[i]? = some o → ∀ j, (pm i).testBit j = true → ∃ e ∈ o.after, Region.binds .any e = true ∧ (e.on = j ∨ (pm e.on).testBit j = true)
  pmE : ∀ i o, ops[i]? = some o → ∀ e ∈ o.after, Region.binds .any e = true → (pm i).testBit e.on = true
theorem OrdOk.same {P : Program} {ops : Array Oper} {N : Nat} {wr : T Nat} {pm : Nat → Nat} {cl : List DIt} (h : OrdOk P ops N wr pm cl) {c c' : DIt} (hc : c ∈ cl) (hc' : c' ∈ cl) (e : c.i = c'.i) : c = c' := by
  have h1 := h.item c hc
  have h2 := h.item c' hc'
  rw [e, h2] at h1
  simpa using h1.symm
theorem OrdOk.key {P : Program} {ops : Array Oper} {N : Nat} {wr : T Nat} {pm : Nat → Nat} {cl : List DIt} (h : OrdOk P ops N wr pm cl) {c : DIt} (hc : c ∈ cl) : c.key = c.dst.map (N + ·) := by
  obtain ⟨o, args, _, _, h3, h4, _⟩ := mkIt_some (h.item c hc)
  rw [h4, h3]
def PendR (c : DIt) (loc : T V) (h : H) : Prop := ∃ vs v, c.args.map (Src1.val [] loc) = vs.map some ∧ rdOf c.f vs h (fun u => @decide (u = v) (Classical.propDecidable _)) = true ∧ ∀ d, c.key = some d → loc.get d = some v
def Pend (c : DIt) (loc : T V) (h : H) : Prop :=
  (c.guard = none ∧ PendR c loc h) ∨ ∃ t w, c.guard = some (t, w) ∧ ((loc.get t = some (.bool w) ∧ PendR c loc h) ∨ ((loc.get t = some (.bool !w) ∨ ∃ l, loc.get t = some (.tup l)) ∧ ∀ d, c.key = some d → loc.get d = some undefV))
theorem val_agree {loc loc' : T V} {args : List Src1} (h : ∀ t, Src1.loc t ∈ args → loc'.get t = loc.get t) : args.map (Src1.val [] loc') = args.map (Src1.val [] loc) := by
  apply List.map_congr_left
  intro s hs
  cases s with
  | loc t => exact h t hs
  | env k => rfl
  | cst v => rfl
theorem PendR.agree {c : DIt} {loc loc' : T V} {h : H} (hp : PendR c loc h) (h1 : ∀ t, reads c t → loc'.get t = loc.get t) (h2 : ∀ d, c.key = some d → loc'.get d = loc.get d) : PendR c loc' h := by
  obtain ⟨vs, v, a, b, d⟩ := hp
  exact ⟨vs, v, by rw [val_agree (fun t ht => h1 t (.inl ht))]; exact a, b, fun x hx => by rw [h2 x hx]; exact d x hx⟩
theorem Pend.agree {c : DIt} {loc loc' : T V} {h : H} (hp : Pend c loc h) (h1 : ∀ t, reads c t → loc'.get t = loc.get t) (h2 : ∀ d, c.key = some d → loc'.get d = loc.get d) : Pend c loc' h := by
  rcases hp with ⟨a, b⟩ | ⟨t, w, a, b⟩
  · exact .inl ⟨a, b.agree h1 h2⟩
  · refine .inr ⟨t, w, a, ?_⟩
    have ht := h1 t (.inr ⟨w, a⟩)
    rw [ht]
    rcases b with ⟨b, c⟩ | ⟨b, c⟩
    · exact .inl ⟨b, c.agree h1 h2⟩
    · exact .inr ⟨b, fun d hd => by rw [h2 d hd]; exact c d hd⟩
theorem rdOf_fn {P : Program} {op : Op} (h : (compOp P op).isRd = true) : RdFn (rdOf (compOp P op)) := by
  have := compOp_fn P op
  cases hf : compOp P op with
  | rd1 f => rw [hf] at this; exact this
  | rd2 f => rw [hf] at this; exact this
  | rd f => rw [hf] at this; exact this
  | _ => rw [hf] at h; exact absurd h (by simp [OpF.isRd])
theorem FnA.true {g : (V → Bool) → Bool} (hg : FnA g) {K : V → Bool} (h : g K = true) : ∃ v, K v = true ∧ ∀ K', g K' = K' v := by
  obtain ⟨o, ho⟩ := hg
  cases o with
  | none => rw [ho] at h; exact absurd h (by simp)
  | some v => exact ⟨v, by rw [ho] at h; exact h, ho⟩
theorem setD_true {d : Option Nat} {v : V} {loc : T V} {K : T V → Bool} (h : setD d v loc K = true) : ∃ loc', K loc' = true ∧ (∀ t, (∀ x, d = some x → t ≠ x) → loc'.get t = loc.get t) ∧ ∀ x, d = some x → loc'.get x = some v := by
  cases d with
  | none => exact ⟨loc, h, fun _ _ => rfl, by simp⟩
  | some d =>
    obtain ⟨s, h1, h2⟩ := T.setK_true _ _ _ _ h
    exact ⟨s, h2, fun t ht => by rw [h1, if_neg (ht d rfl)], fun x hx => by simp at hx; subst hx; rw [h1, if_pos rfl]⟩
theorem guardA_true {v : V} {w y n : Bool} (h : guardA v w y n = true) : (v = .bool w ∧ y = true) ∨ ((v = .bool !w ∨ ∃ l, v = .tup l) ∧ n = true) := by
  rw [guardA_eq] at h
  split at h
  · rename_i b
    cases hb : (b == w) with
    | true => rw [hb] at h; have : b = w := by simpa using hb
              subst this; exact .inl ⟨rfl, h⟩
    | false => rw [hb] at h; refine .inr ⟨.inl ?_, h⟩; cases b <;> cases w <;> first | rfl | exact absurd hb (by simp)
  · exact .inr ⟨.inr ⟨_, rfl⟩, h⟩
  · exact absurd h (by simp)
theorem stepD_rd {P : Program} {C : CallH} {c : DIt} {op : Op} {loc : T V} {h : H} {K : T V → H → Bool} (hf : c.f = compOp P op) (hrd : c.f.isRd = true) (hself : ∀ t, reads c t → ∀ d, c.key = some d → t ≠ d)
    (hk : stepD C c loc h K = true) : ∃ loc', K loc' h = true ∧ Pend c loc' h ∧ (∀ t, (∀ x, c.key = some x → t ≠ x) → loc'.get t = loc.get t) ∧ ∀ d, c.key = some d → ∃ v, loc'.get d = some v := by
  have hdo : doD C c loc h K = true → ∃ loc', K loc' h = true ∧ PendR c loc' h ∧ (∀ t, (∀ x, c.key = some x → t ≠ x) → loc'.get t = loc.get t) ∧ ∀ d, c.key = some d → ∃ v, loc'.get d = some v := by
    intro hd
    unfold doD at hd
    obtain ⟨vs, h1, h2⟩ := srcVs_true hd
    rw [opK_rd hrd] at h2
    have hfn : FnA (rdOf c.f vs h) := by rw [hf] at hrd ⊢; exact rdOf_fn hrd vs h
    obtain ⟨v, h3, h4⟩ := hfn.true h2
    obtain ⟨loc', h5, h6, h7⟩ := setD_true h3
    refine ⟨loc', h5, ⟨vs, v, ?_, by rw [h4]; simp, h7⟩, h6, fun d hd => ⟨v, h7 d hd⟩⟩
    rw [val_agree (loc := loc) (fun t ht => h6 t fun x hx => hself t (.inl ht) x hx)]
    exact h1
  unfold stepD at hk
  cases hg : c.guard with
  | none =>
    rw [hg] at hk
    obtain ⟨loc', h1, h2, h3⟩ := hdo hk
    exact ⟨loc', h1, .inl ⟨hg, h2⟩, h3⟩
  | some g =>
    obtain ⟨t, w⟩ := g
    rw [hg] at hk
    obtain ⟨v, h1, h2⟩ := T.getK_true (show (loc.getK t fun v => guardA v w (doD C c loc h K) (setD c.key undefV loc fun loc => K loc h)) = true from hk)
    have hne := fun d hd => hself t (.inr ⟨w, hg⟩) d hd
    rcases guardA_true h2 with ⟨rfl, h3⟩ | ⟨hv, h3⟩
    · obtain ⟨loc', g1, g2, g3, g4⟩ := hdo h3
      exact ⟨loc', g1, .inr ⟨t, w, hg, .inl ⟨by rw [g3 t hne]; exact h1, g2⟩⟩, g3, g4⟩
    · obtain ⟨loc', h5, h6, h7⟩ := setD_true h3
      refine ⟨loc', h5, .inr ⟨t, w, hg, .inr ⟨?_, h7⟩⟩, h6, fun d hd => ⟨_, h7 d hd⟩⟩
      rw [h6 t hne, h1]
      rcases hv with rfl | ⟨l, rfl⟩
      · exact .inl rfl
      · exact .inr ⟨l, rfl⟩
theorem chk_pend {P : Program} {c : DIt} {op : Op} {loc : T V} {h h' : H} (hf : c.f = compOp P op) (hrd : c.f.isRd = true) (hp : Pend c loc h) (hk : chk c loc h' = true) : Pend c loc h' := by
  have hr : chkR c loc h' = true → PendR c loc h' := by
    intro hd
    unfold chkR at hd
    obtain ⟨vs, h1, h2⟩ := srcVs_true hd
    have hfn : FnA (rdOf c.f vs h') := by rw [hf] at hrd ⊢; exact rdOf_fn hrd vs h'
    obtain ⟨v, h3, h4⟩ := hfn.true h2
    refine ⟨vs, v, h1, by rw [h4]; simp, fun d hd => ?_⟩
    rw [hd] at h3
    obtain ⟨u, h5, h6⟩ := T.getK_true (show (loc.getK d fun u => eqVf 1000 v u) = true from h3)
    rw [h5, (eqVf_true 1000).1 _ _ h6]
  unfold chk at hk
  rcases hp with ⟨a, b⟩ | ⟨t, w, a, b⟩
  · rw [a] at hk; exact .inl ⟨a, hr hk⟩
  · rw [a] at hk
    obtain ⟨v, h1, h2⟩ := T.getK_true (show (loc.getK t fun v => guardA v w (chkR c loc h') true) = true from hk)
    refine .inr ⟨t, w, a, ?_⟩
    rcases guardA_true h2 with ⟨rfl, h3⟩ | ⟨hv, h3⟩
    · exact .inl ⟨h1, hr h3⟩
    · rcases b with ⟨b1, b2⟩ | ⟨b1, b2⟩
      · rw [h1] at b1
        simp only [Option.some.injEq] at b1
        rcases hv with hv | ⟨l, hv⟩
        · rw [hv] at b1; cases w <;> simp at b1
        · rw [hv] at b1; exact absurd b1 (by simp)
      · exact .inr ⟨b1, b2⟩
def AlT (P : Program) (o : Oper) (vs : List V) (v : V) (b : Nat) (k : Blk) : Prop :=
  ∀ (B : Bd) φ h2 w ρ, HR B φ h2 w → VRs φ vs (o.op.operands.toList.map ρ) → (φ b = none ∧ B.U b = none) → h2.bl.get b = some k → h2.gr.get b = none →
    ∃ x w' L, (execOp ρ o).run P w = .ok (.value x) w' ∧ VR (φ.put b L) v x ∧ HR B (φ.put b L) h2 w' ∧ Below B w w'
def PendB (P : Program) (o : Oper) (c : DIt) (loc : T V) (b : Nat) (k : Blk) : Prop := ∃ vs v, c.args.map (Src1.val [] loc) = vs.map some ∧ (∀ d, c.key = some d → loc.get d = some v) ∧ AlT P o vs v b k
def GOn (c : DIt) (loc : T V) : Prop := c.guard = none ∨ ∃ t w, c.guard = some (t, w) ∧ loc.get t = some (.bool w)
def GOff (c : DIt) (loc : T V) : Prop := ∃ t w, c.guard = some (t, w) ∧ (loc.get t = some (.bool !w) ∨ ∃ l, loc.get t = some (.tup l)) ∧ ∀ d, c.key = some d → loc.get d = some undefV
theorem PendB.agree {P : Program} {o : Oper} {c : DIt} {loc loc' : T V} {b : Nat} {k : Blk} (hp : PendB P o c loc b k) (h1 : ∀ t, reads c t → loc'.get t = loc.get t) (h2 : ∀ d, c.key = some d → loc'.get d = loc.get d) : PendB P o c loc' b k := by
  obtain ⟨vs, v, a, b, d⟩ := hp
  exact ⟨vs, v, by rw [val_agree (fun t ht => h1 t (.inl ht))]; exact a, fun x hx => by rw [h2 x hx]; exact b x hx, d⟩
theorem GOn.agree {c : DIt} {loc loc' : T V} (hp : GOn c loc) (h1 : ∀ t, reads c t → loc'.get t = loc.get t) : GOn c loc' := by
  rcases hp with a | ⟨t, w, a, b⟩
  · exact .inl a
  · exact .inr ⟨t, w, a, by rw [h1 t (.inr ⟨w, a⟩)]; exact b⟩
theorem GOff.agree {c : DIt} {loc loc' : T V} (hp : GOff c loc) (h1 : ∀ t, reads c t → loc'.get t = loc.get t) (h2 : ∀ d, c.key = some d → loc'.get d = loc.get d) : GOff c loc' := by
  obtain ⟨t, w, a, b, e⟩ := hp
  refine ⟨t, w, a, ?_, fun d hd => by rw [h2 d hd]; exact e d hd⟩
  rw [h1 t (.inr ⟨w, a⟩)]; exact b
theorem stepD_al {P : Program} {C : CallH} {c : DIt} {o : Oper} {loc : T V} {h : H} {K : T V → H → Bool} (hf : c.f = compOp P o.op) (hal : c.f.isAl = true) (hself : ∀ t, reads c t → ∀ d, c.key = some d → t ≠ d)
    (hk : stepD C c loc h K = true) : ∃ loc' h', K loc' h' = true ∧ (∀ t, (∀ x, c.key = some x → t ≠ x) → loc'.get t = loc.get t) ∧ (∀ d, c.key = some d → ∃ v, loc'.get d = some v) ∧
      ((GOn c loc' ∧ ∃ k, Added h k h' ∧ PendB P o c loc' h.next k) ∨ (h' = h ∧ GOff c loc')) := by
  have hdo : doD C c loc h K = true → ∃ loc' h', K loc' h' = true ∧ (∀ t, (∀ x, c.key = some x → t ≠ x) → loc'.get t = loc.get t) ∧ (∀ d, c.key = some d → ∃ v, loc'.get d = some v) ∧ ∃ k, Added h k h' ∧ PendB P o c loc' h.next k := by
    intro hd
    unfold doD at hd
    obtain ⟨vs, h1, h2⟩ := srcVs_true hd
    have hok := compOp_ok P o.op
    rw [← hf] at hok
    cases hcf : c.f with
    | al f =>
      rw [hcf] at hok h2
      obtain ⟨k, v, h', g1, g2, g3⟩ := hok o rfl vs h _ h2
      obtain ⟨loc', h5, h6, h7⟩ := setD_true g2
      refine ⟨loc', h', h5, h6, fun d hd => ⟨v, h7 d hd⟩, k, g1, vs, v, ?_, h7, fun B φ h2 w ρ a1 a2 a3 a4 a5 => g3 B φ h2 w ρ a1 a2 a3 a4 a5⟩
      rw [val_agree (loc := loc) (fun t ht => h6 t fun x hx => hself t (.inl ht) x hx)]
      exact h1
    | _ => rw [hcf] at hal; exact absurd hal (by simp [OpF.isAl])
  unfold stepD at hk
  cases hg : c.guard with
  | none =>
    rw [hg] at hk
    obtain ⟨loc', h', g1, g2, g3, g4⟩ := hdo hk
    exact ⟨loc', h', g1, g2, g3, .inl ⟨.inl hg, g4⟩⟩
  | some g =>
    obtain ⟨t, w⟩ := g
    rw [hg] at hk
    obtain ⟨v, h1, h2⟩ := T.getK_true (show (loc.getK t fun v => guardA v w (doD C c loc h K) (setD c.key undefV loc fun loc => K loc h)) = true from hk)
    have hne := fun d hd => hself t (.inr ⟨w, hg⟩) d hd
    rcases guardA_true h2 with ⟨rfl, h3⟩ | ⟨hv, h3⟩
    · obtain ⟨loc', h', g1, g2, g3, g4⟩ := hdo h3
      exact ⟨loc', h', g1, g2, g3, .inl ⟨.inr ⟨t, w, hg, by rw [g2 t hne]; exact h1⟩, g4⟩⟩
    · obtain ⟨loc', h5, h6, h7⟩ := setD_true h3
      refine ⟨loc', h, h5, h6, fun d hd => ⟨_, h7 d hd⟩, .inr ⟨rfl, t, w, hg, ?_, h7⟩⟩
      rw [h6 t hne, h1]
      rcases hv with rfl | ⟨l, rfl⟩
      · exact .inl rfl
      · exact .inr ⟨l, rfl⟩
end Go.Ev
end
section
namespace Go.Ev
section
variable {P : Program} {C : CallH} {N : Nat} {B : Bd} {ops : Array Oper} {wr : T Nat} {pm : Nat → Nat} {cl : List DIt}
def Lst (listed : Array Bool) (i : Nat) : Prop := listed.getD i false = true
theorem lst_set {listed : Array Bool} {i j : Nat} (hi : i < listed.size) : Lst (listed.setIfInBounds i true) j ↔ Lst listed j ∨ j = i := by
  unfold Lst
  simp only [Array.getD_eq_getD_getElem?, Array.getElem?_setIfInBounds]
  by_cases e : i = j
  · subst e; simp [hi]
  · rw [if_neg e]; constructor
    · intro h; exact .inl h
    · rintro (h | h)
      · exact h
      · exact absurd h.symm e
structure Mid (N : Nat) (loc0 : T V) (cl : List DIt) (p r acc : List DIt) (listed : Array Bool) (loc : T V) (h : H) (φ : Phi) (a : Act) : Prop where
  split : cl = p ++ r
  old : ∀ t v, t < N → loc.get t = some v → (∀ c ∈ cl, c.dst = some t → ¬ Lst listed c.i) → VR φ v (a.tmps.getD t undef)
  new : ∀ c ∈ cl, ∀ d v, c.dst = some d → Lst listed c.i → loc.get (N + d) = some v → VR φ v (a.tmps.getD d undef)
  high : ∀ t v, N ≤ t → loc0.get t = some v → VR φ v (a.tmps.getD t undef)
  exec : ∀ i, Lst listed i → ∃ c ∈ p, c.i = i
  efs : ∀ c ∈ p, c.f.isLd = false → Lst listed c.i
  pend : ∀ c ∈ p, c.f.isRd = true → ¬ Lst listed c.i → c ∈ acc
  good : ∀ c ∈ acc, c ∈ p ∧ c.f.isRd = true ∧ Pend c loc h
  frame : ∀ t, t < N → loc.get t = loc0.get t
  vals : ∀ c ∈ p, ∀ d, c.dst = some d → ∃ v, loc.get (N + d) = some v
theorem OrdOk.keyd (ho : OrdOk P ops N wr pm cl) {c : DIt} (hc : c ∈ cl) {k : Nat} (hk : c.key = some k) : ∃ d, c.dst = some d ∧ k = N + d := by
  rw [ho.key hc] at hk
  cases hd : c.dst with
  | none => rw [hd] at hk; simp at hk
  | some d => rw [hd] at hk; simp at hk; exact ⟨d, rfl, hk.symm⟩
theorem OrdOk.dkey (ho : OrdOk P ops N wr pm cl) {c : DIt} (hc : c ∈ cl) {d : Nat} (hd : c.dst = some d) : c.key = some (N + d) := by rw [ho.key hc, hd]; rfl
theorem OrdOk.self (ho : OrdOk P ops N wr pm cl) {c : DIt} (hc : c ∈ cl) : ∀ t, reads c t → ∀ d, c.key = some d → t ≠ d := by
  intro t ht k hk e
  subst e
  obtain ⟨d, hd, rfl⟩ := ho.keyd hc hk
  rcases ho.src c hc _ ht with ⟨h1, _⟩ | ⟨t, h1, c', hc', hd', hb⟩
  · omega
  · have : t = d := by omega
    subst this
    have hci := ho.dst c hc c' hc' t hd hd'
    rw [← hci] at hb
    obtain ⟨p, r, rfl⟩ := List.append_of_mem hc
    obtain ⟨c2, h2, h3⟩ := ho.pre p c r rfl _ hb
    exact ho.uniq p c r rfl c2 h2 h3
theorem OrdOk.apart (ho : OrdOk P ops N wr pm cl) {p r : List DIt} {c e : DIt} (hs : cl = p ++ e :: r) (hc : c ∈ p) : (∀ t, reads c t → ∀ d, e.key = some d → t ≠ d) ∧ ∀ d, c.key = some d → ∀ d', e.key = some d' → d ≠ d' := by
  have hce : c.i ≠ e.i := ho.uniq p e r hs c hc
  have hcm : c ∈ cl := by rw [hs]; exact List.mem_append_left _ hc
  have hem : e ∈ cl := by rw [hs]; simp
  refine ⟨fun t ht k hk h => ?_, fun k hk k' hk' h => ?_⟩
  · subst h
    obtain ⟨d, hd, rfl⟩ := ho.keyd hem hk
    rcases ho.src c hcm _ ht with ⟨h1, _⟩ | ⟨t, h1, c', hc', hd', hb⟩
    · omega
    · have : t = d := by omega
      subst this
      have hei := ho.dst e hem c' hc' t hd hd'
      rw [← hei] at hb
      obtain ⟨p1, p2, rfl⟩ := List.append_of_mem hc
      have hs2 : cl = p1 ++ c :: (p2 ++ e :: r) := by rw [hs]; simp
      obtain ⟨c2, h2, h3⟩ := ho.pre p1 c _ hs2 _ hb
      exact ho.uniq (p1 ++ c :: p2) e r hs c2 (List.mem_append_left _ h2) h3
  · subst h
    obtain ⟨d, hd, rfl⟩ := ho.keyd hcm hk
    obtain ⟨d', hd', e'⟩ := ho.keyd hem hk'
    have : d' = d := by omega
    subst this
    exact hce (ho.dst c hcm e hem d' hd hd')
structure AlInv (P : Program) (ops : Array Oper) (B : Bd) (p : List DIt) (listed : Array Bool) (loc : T V) (U : Nat → Option Blk) (own : Nat → Option Nat) : Prop where
  u0 : ∀ b k, B.U b = some k → U b = some k
  pen : ∀ c ∈ p, c.f.isAl = true → ¬ Lst listed c.i → GOff c loc ∨ (GOn c loc ∧ ∃ b k, U b = some k ∧ B.U b = none ∧ own b = some c.i ∧ ∀ o, ops[c.i]? = some o → PendB P o c loc b k)
theorem AlInv.agree {p : List DIt} {listed : Array Bool} {loc loc' : T V} {U : Nat → Option Blk} {own : Nat → Option Nat} (hi : AlInv P ops B p listed loc U own) (hold : ∀ c' ∈ p, (∀ t, reads c' t → loc'.get t = loc.get t) ∧ ∀ d, c'.key = some d → loc'.get d = loc.get d) :
    AlInv P ops B p listed loc' U own := by
  refine ⟨hi.u0, fun c hc ha hn => ?_⟩
  obtain ⟨h1, h2⟩ := hold c hc
  rcases hi.pen c hc ha hn with g | ⟨g, b, k, g1, g2, g3, g4⟩
  · exact .inl (g.agree h1 h2)
  · exact .inr ⟨g.agree h1, b, k, g1, g2, g3, fun o ho => (g4 o ho).agree h1 h2⟩
theorem AlInv.more {p : List DIt} {c : DIt} {listed : Array Bool} {loc : T V} {U : Nat → Option Blk} {own : Nat → Option Nat} (hi : AlInv P ops B p listed loc U own) (hc : c.f.isAl = false) : AlInv P ops B (p ++ [c]) listed loc U own := by
  refine ⟨hi.u0, fun c' hc' ha hn => ?_⟩
  rcases List.mem_append.1 hc' with h | h
  · exact hi.pen c' h ha hn
  · simp at h; subst h; rw [hc] at ha; exact absurd ha (by simp)
theorem Mid.lead {loc0 : T V} (ho : OrdOk P ops N wr pm cl) {r p acc acc' : List DIt} {c : DIt} {listed : Array Bool} {loc loc' : T V} {h h' : H} {φ : Phi} {a : Act} (hm : Mid N loc0 cl p (c :: r) acc listed loc h φ a) (hld : c.f.isLd = true)
    (h3 : ∀ t, (∀ x, c.key = some x → t ≠ x) → loc'.get t = loc.get t) (h4 : ∀ d, c.key = some d → ∃ v, loc'.get d = some v) (hin : c.f.isRd = true → c ∈ acc') (hsub : ∀ c' ∈ acc, c' ∈ acc')
    (hgood : ∀ c' ∈ acc', c' ∈ p ++ [c] ∧ c'.f.isRd = true ∧ Pend c' loc' h') : Mid N loc0 cl (p ++ [c]) r acc' listed loc' h' φ a := by
  have hcm : c ∈ cl := by rw [hm.split]; simp
  have hold : ∀ c' ∈ p, (∀ t, reads c' t → loc'.get t = loc.get t) ∧ ∀ d, c'.key = some d → loc'.get d = loc.get d := by
    intro c' hc'
    obtain ⟨g1, g2⟩ := ho.apart hm.split hc'
    exact ⟨fun t ht => h3 t fun x hx => g1 t ht x hx, fun d hd => h3 d fun x hx => g2 d hd x hx⟩
  refine ⟨by rw [hm.split]; simp, fun t v ht hv hw => ?_, fun c' hc' d v hd hl hv => ?_, hm.high, fun i hi => ?_, fun c' hc' hf => ?_, fun c' hc' hf hn => ?_, hgood, fun t ht => ?_, fun c' hc' d hd => ?_⟩
  · rw [h3 t fun x hx => by obtain ⟨d, _, rfl⟩ := ho.keyd hcm hx; omega] at hv
    exact hm.old t v ht hv hw
  · have hc'p : c' ∈ p := by
      obtain ⟨c2, g1, g2⟩ := hm.exec _ hl
      have := ho.same (by rw [hm.split]; exact List.mem_append_left _ g1) hc' g2
      exact this ▸ g1
    rw [(hold c' hc'p).2 _ (ho.dkey hc' hd)] at hv
    exact hm.new c' hc' d v hd hl hv
  · obtain ⟨c', g1, g2⟩ := hm.exec i hi
    exact ⟨c', List.mem_append_left _ g1, g2⟩
  · rcases List.mem_append.1 hc' with hc' | hc'
    · exact hm.efs c' hc' hf
    · simp at hc'; subst hc'; rw [hld] at hf; exact absurd hf (by simp)
  · rcases List.mem_append.1 hc' with hc' | hc'
    · exact hsub _ (hm.pend c' hc' hf hn)
    · simp at hc'; subst hc'; exact hin hf
  · rw [h3 t fun x hx => by obtain ⟨d, _, rfl⟩ := ho.keyd hcm hx; omega]
    exact hm.frame t ht
  · rcases List.mem_append.1 hc' with hc' | hc'
    · rw [(hold c' hc').2 _ (ho.dkey (by rw [hm.split]; exact List.mem_append_left _ hc') hd)]; exact hm.vals c' hc' d hd
    · simp at hc'; subst hc'; exact h4 _ (ho.dkey hcm hd)
theorem advance {loc0 : T V} {K : T V → H → Bool} (ho : OrdOk P ops N wr pm cl) : ∀ (r p acc : List DIt) {listed : Array Bool} {loc : T V} {h : H} {φ : Phi} {a : Act} {U : Nat → Option Blk} {own : Nat → Option Nat} {w : World}, Mid N loc0 cl p r acc listed loc h φ a →
    AlInv P ops B p listed loc U own → HR ⟨B.lo, U⟩ φ h w → runD C pm r acc loc h K = true →
    ∃ p' r' acc' loc' h' U' own', Mid N loc0 cl p' r' acc' listed loc' h' φ a ∧ AlInv P ops B p' listed loc' U' own' ∧ HR ⟨B.lo, U'⟩ φ h' w ∧ runD C pm r' acc' loc' h' K = true ∧ (r' = [] ∨ ∃ c s, r' = c :: s ∧ c.f.isLd = false)
  | [], p, acc, listed, loc, h, φ, a, U, own, w, hm, hi, hr, hk => ⟨p, [], acc, loc, h, U, own, hm, hi, hr, hk, .inl rfl⟩
  | c :: r, p, acc, listed, loc, h, φ, a, U, own, w, hm, hi, hr, hk => by
    cases hld : c.f.isLd with
    | false => exact ⟨p, c :: r, acc, loc, h, U, own, hm, hi, hr, hk, .inr ⟨c, r, rfl, hld⟩⟩
    | true =>
      have hcm : c ∈ cl := by rw [hm.split]; simp
      obtain ⟨o, args, ho1, _, ho3, _, ho4, _⟩ := mkIt_some (ho.item c hcm)
      have hk' : stepD C c loc h (fun loc h => bif c.f.isRd then runD C pm r (c :: acc) loc h K else
        bif c.f.isAl then condK (chkAll acc loc h) (runD C pm r acc loc h K) false else condK (chkAll (leftOf (pm c.i) acc) loc h) (runD C pm r (leftOf (pm c.i) acc) loc h K) false) = true := hk
      have hnl : ¬ Lst listed c.i := by
        intro hl
        obtain ⟨c', hc', e⟩ := hm.exec _ hl
        exact ho.uniq p c r hm.split c' hc' e
      have holdF : ∀ loc' : T V, (∀ t, (∀ x, c.key = some x → t ≠ x) → loc'.get t = loc.get t) → ∀ c' ∈ p, (∀ t, reads c' t → loc'.get t = loc.get t) ∧ ∀ d, c'.key = some d → loc'.get d = loc.get d := by
        intro loc' h3 c' hc'
        obtain ⟨g1, g2⟩ := ho.apart hm.split hc'
        exact ⟨fun t ht => h3 t fun x hx => g1 t ht x hx, fun d hd => h3 d fun x hx => g2 d hd x hx⟩
      rcases OpF.ldCases hld with hrd | hal
      · obtain ⟨loc', h1, h2, h3, h4⟩ := stepD_rd ho4 hrd (ho.self hcm) hk'
        rw [hrd] at h1
        have h1 : runD C pm r (c :: acc) loc' h K = true := h1
        have hold := holdF loc' h3
        have hal : c.f.isAl = false := by
          cases e : c.f.isAl with
          | false => rfl
          | true => rw [OpF.alRd e] at hrd; exact absurd hrd (by simp)
        have hm' : Mid N loc0 cl (p ++ [c]) r (c :: acc) listed loc' h φ a := hm.lead ho hld h3 h4 (fun _ => List.mem_cons_self) (fun c' hc' => List.mem_cons_of_mem _ hc') fun c' hc' => by
          rcases List.mem_cons.1 hc' with rfl | hc'
          · exact ⟨by simp, hrd, h2⟩
          · obtain ⟨g1, g2, g3⟩ := hm.good c' hc'
            exact ⟨List.mem_append_left _ g1, g2, g3.agree (hold c' g1).1 (hold c' g1).2⟩
        exact advance ho r (p ++ [c]) (c :: acc) hm' ((hi.agree hold).more hal) hr h1
      · have hrd := OpF.alRd hal
        obtain ⟨loc', h', h1, h3, h4, h5⟩ := stepD_al (o := o) ho4 hal (ho.self hcm) hk'
        rw [hrd, hal] at h1
        simp only [cond_false, cond_true] at h1
        rw [condK_eq] at h1
        obtain ⟨hck, h1⟩ := bif_true h1
        have hold := holdF loc' h3
        have hm' : Mid N loc0 cl (p ++ [c]) r acc listed loc' h' φ a := hm.lead ho hld h3 h4 (fun e => by rw [hrd] at e; exact absurd e (by simp)) (fun c' hc' => hc') fun c' hc' => by
          obtain ⟨g1, g2, g3⟩ := hm.good c' hc'
          obtain ⟨o', _, _, _, _, _, ho4', _⟩ := mkIt_some (ho.item c' (by rw [hm.split]; exact List.mem_append_left _ g1))
          exact ⟨List.mem_append_left _ g1, g2, chk_pend ho4' g2 (g3.agree (hold c' g1).1 (hold c' g1).2) (chkAll_true hck c' hc')⟩
        have hi' := hi.agree hold
        rcases h5 with ⟨g, k, ha, hp⟩ | ⟨rfl, g⟩
        · have hne : ∀ b k0, U b = some k0 → b ≠ h.next := fun b k0 hu e => by have := (hr.res b k0 hu).2.2.2; omega
          refine advance ho r (p ++ [c]) acc (U := fun b => if b = h.next then some k else U b) (own := fun b => if b = h.next then some c.i else own b) hm' ⟨fun b k0 hu => ?_, fun c' hc' hal' hn' => ?_⟩ (hr.kept ha) h1
          · have := hi.u0 b k0 hu
            simp only [if_neg (hne b k0 this)]; exact this
          · rcases List.mem_append.1 hc' with hc' | hc'
            · rcases hi'.pen c' hc' hal' hn' with q | ⟨q, b, k0, q1, q2, q3, q4⟩
              · exact .inl q
              · refine .inr ⟨q, b, k0, ?_, q2, ?_, q4⟩
                · simp only [if_neg (hne b k0 q1)]; exact q1
                · simp only [if_neg (hne b k0 q1)]; exact q3
            · simp at hc'; subst hc'
              refine .inr ⟨g, h.next, k, by simp, ?_, by simp, fun o2 ho2 => ?_⟩
              · cases hu : B.U h.next with
                | none => rfl
                | some k0 => exact absurd rfl (hne _ k0 (hi.u0 _ k0 hu))
              · rw [ho1] at ho2; simp only [Option.some.injEq] at ho2; subst ho2; exact hp
        · refine advance ho r (p ++ [c]) acc (own := own) hm' ⟨hi.u0, fun c' hc' hal' hn' => ?_⟩ hr h1
          rcases List.mem_append.1 hc' with hc' | hc'
          · exact hi'.pen c' hc' hal' hn'
          · simp at hc'; subst hc'; exact .inl g
theorem operands_rel {φ : Phi} {loc : T V} {a : Act} {fix : Src1 → Src1} (hfix : ∀ s, (∀ t, s ≠ .loc t) → fix s = s) : ∀ {xs : List Operand} {args : List Src1} {vs : List V}, opSs 0 [] xs = some args → (args.map fix).map (Src1.val [] loc) = vs.map some →
    (∀ t v, Src1.loc t ∈ args → (fix (.loc t)).val [] loc = some v → VR φ v (a.tmps.getD t undef)) → VRs φ vs (xs.map a.eval)
  | [], args, vs, h, hm, hv => by
    simp [opSs] at h; subst h
    have : vs = [] := by simpa using hm.symm
    subst this; exact .nil
  | x :: xs, args, vs, h, hm, hv => by
    simp only [opSs] at h
    split at h
    · rename_i s l hs hl
      simp only [Option.some.injEq] at h; subst h
      cases vs with
      | nil => simp at hm
      | cons v vs =>
        simp only [List.map_cons, List.cons.injEq] at hm
        refine .cons ?_ (operands_rel hfix hl hm.2 fun t v ht => hv t v (List.mem_cons_of_mem _ ht))
        cases x with
        | tmp t =>
          simp [opS, Gam.find] at hs; subst hs
          exact hv t v (by simp [absS]) hm.1
        | const c =>
          simp only [opS] at hs
          cases hc : toV c with
          | none => rw [hc] at hs; simp at hs
          | some u =>
            rw [hc] at hs; simp at hs; subst hs
            have := hm.1
            rw [show absS 0 (Src1.cst u) = Src1.cst u from rfl, hfix _ (by simp)] at this
            simp [Src1.val] at this; subst this
            exact toV_rel hc φ
        | func f =>
          simp [opS] at hs; subst hs
          have := hm.1
          rw [show absS 0 (Src1.cst (V.func f [] [])) = Src1.cst (V.func f [] []) from rfl, hfix _ (by simp)] at this
          simp [Src1.val] at this; subst this
          exact .func .nil .nil
        | global g => simp [opS] at hs
    · exact absurd h (by simp)
theorem fixS_other (N : Nat) (wr : T Nat) (m : Nat) : ∀ s, (∀ t, s ≠ .loc t) → fixS N wr m s = s := by
  intro s hs
  cases s with
  | loc t => exact absurd rfl (hs t)
  | env k => rfl
  | cst v => rfl
theorem fixT_or (N : Nat) (wr : T Nat) (m t : Nat) : (t < N ∧ (fixT N wr m t = t ∨ fixT N wr m t = N + t)) ∨ fixT N wr m t = N + N := by
  unfold fixT
  cases h : Nat.blt t N with
  | false => exact .inr rfl
  | true =>
    refine .inl ⟨blt_iff.1 h, ?_⟩
    simp only [cond_true]
    split
    · cases m.testBit _
      · exact .inl rfl
      · exact .inr rfl
    · exact .inl rfl
theorem Mid.readsV {loc0 : T V} {p r acc : List DIt} {listed : Array Bool} {loc : T V} {h : H} {φ : Phi} {a : Act} (ho : OrdOk P ops N wr pm cl) (hm : Mid N loc0 cl p r acc listed loc h φ a) {c : DIt} (hc : c ∈ cl) (hn : ¬ Lst listed c.i)
    (hbits : ∀ j, (pm c.i).testBit j = true → Lst listed j) (hdc : ∀ i, Lst listed i → ∀ j, (pm i).testBit j = true → Lst listed j) {t : Nat} {v : V} (hr : Ev.reads c (fixT N wr (pm c.i) t)) (hv : loc.get (fixT N wr (pm c.i) t) = some v) : VR φ v (a.tmps.getD t undef) := by
  rcases fixT_or N wr (pm c.i) t with ⟨htN, e | e⟩ | e
  · rw [e] at hr hv
    rcases ho.src c hc t hr with ⟨_, h1⟩ | ⟨t', h1, _⟩
    · exact hm.old t v htN hv fun c' hc' hd hl => hn (hdc _ hl _ (h1 c' hc' hd))
    · omega
  · rw [e] at hr hv
    rcases ho.src c hc _ hr with ⟨h1, _⟩ | ⟨t', h1, c', hc', hd, hb⟩
    · omega
    · have : t' = t := by omega
      subst this
      exact hm.new c' hc' t' v hd (hbits _ hb) hv
  · rw [e] at hr
    rcases ho.src c hc _ hr with ⟨h1, _⟩ | ⟨t', h1, c', hc', hd, hb⟩
    · omega
    · have := ho.dstN c' hc' t' hd; omega
end
end Go.Ev
end
section
namespace Go.Ev
section
variable {P : Program} {C : CallH} {N : Nat} {B : Bd} {ops : Array Oper} {wr : T Nat} {pm : Nat → Nat} {cl : List DIt} {Q : Exit → Act → World → Prop}
theorem ready_iff {listed : Array Bool} {i : Nat} (hs : listed.size = ops.size) : i ∈ Region.ready .any ops listed ↔ ∃ o, ops[i]? = some o ∧ ¬ Lst listed i ∧ ∀ e ∈ o.after, Region.binds .any e = true → Lst listed e.on := by
  unfold Region.ready Lst
  simp only [List.mem_filter, List.mem_range, Bool.and_eq_true, Bool.not_eq_true']
  constructor
  · rintro ⟨h1, h2, h3⟩
    obtain ⟨o, ho⟩ : ∃ o, ops[i]? = some o := ⟨ops[i], by simp [h1]⟩
    refine ⟨o, ho, ?_, fun e he hb => ?_⟩
    · have hi : i < listed.size := by omega
      simp only [Array.getD_eq_getD_getElem?, Array.getElem?_eq_getElem hi, Option.getD_some] at h2 ⊢
      rw [h2]; simp
    · rw [ho] at h3
      simp only [Option.map_some, Option.getD_some, Array.all_eq_true_iff_forall_mem] at h3
      have := h3 e he
      simp only [hb, Bool.not_true, Bool.false_or] at this
      exact this
  · rintro ⟨o, ho, h1, h2⟩
    have hi : i < ops.size := by
      rcases Nat.lt_or_ge i ops.size with h | h
      · exact h
      · rw [Array.getElem?_eq_none h] at ho; simp at ho
    refine ⟨hi, ?_, ?_⟩
    · have hi : i < listed.size := by omega
      simp only [Array.getD_eq_getD_getElem?, Array.getElem?_eq_getElem hi, Option.getD_some] at h1 ⊢
      simpa using h1
    · rw [ho]
      simp only [Option.map_some, Option.getD_some, Array.all_eq_true_iff_forall_mem]
      intro e he
      cases hb : Region.binds .any e with
      | false => rfl
      | true => simpa using h2 e he hb
def Dcl (pm : Nat → Nat) (listed : Array Bool) : Prop := ∀ i, Lst listed i → ∀ j, (pm i).testBit j = true → Lst listed j
theorem Dcl.ready (ho : OrdOk P ops N wr pm cl) {listed : Array Bool} (hd : Dcl pm listed) {i : Nat} {o : Oper} (hi : ops[i]? = some o) (hr : ∀ e ∈ o.after, Region.binds .any e = true → Lst listed e.on) : ∀ j, (pm i).testBit j = true → Lst listed j := by
  intro j hj
  obtain ⟨e, he, hb, h⟩ := ho.pmF i o hi j hj
  rcases h with rfl | h
  · exact hr e he hb
  · exact hd _ (hr e he hb) j h
theorem Dcl.set (ho : OrdOk P ops N wr pm cl) {listed : Array Bool} (hd : Dcl pm listed) {i : Nat} (hi : i < listed.size) (hr : ∀ j, (pm i).testBit j = true → Lst listed j) : Dcl pm (listed.setIfInBounds i true) := by
  intro k hk j hj
  rw [lst_set hi] at hk ⊢
  rcases hk with hk | rfl
  · exact .inl (hd k hk j hj)
  · exact .inl (hr j hj)
theorem all_listed (ho : OrdOk P ops N wr pm cl) {listed : Array Bool} (hs : listed.size = ops.size) (hr : Region.ready .any ops listed = []) : ∀ c ∈ cl, Lst listed c.i := by
  have : ∀ (r p : List DIt), cl = p ++ r → (∀ c ∈ p, Lst listed c.i) → ∀ c ∈ cl, Lst listed c.i := by
    intro r
    induction r with
    | nil => intro p hp h c hc; rw [hp] at hc; simp at hc; exact h c hc
    | cons c r ih =>
      intro p hp h
      refine ih (p ++ [c]) (by rw [hp]; simp) fun c' hc' => ?_
      rcases List.mem_append.1 hc' with hc' | hc'
      · exact h c' hc'
      · simp at hc'; subst hc'
        have hcm : c' ∈ cl := by rw [hp]; simp
        obtain ⟨o, _, ho1, _⟩ := mkIt_some (ho.item c' hcm)
        apply Classical.byContradiction
        intro hn
        have : c'.i ∈ Region.ready .any ops listed := by
          rw [ready_iff hs]
          refine ⟨o, ho1, hn, fun e he hb => ?_⟩
          obtain ⟨d, hd, e'⟩ := ho.pre p c' r hp _ (ho.pmE _ _ ho1 e he hb)
          rw [← e']; exact h d hd
        rw [hr] at this
        exact absurd this (by simp)
  exact this cl [] rfl (by simp)
theorem yields {φ : Phi} {a : Act} {j t : Nat} {v : V} (hj : (ops[j]?).bind (·.dst) = some t) (hv : VR φ v (a.tmps.getD t undef)) : (∀ b, v = .bool b → yielded ops a.tmps j = some b) ∧ (∀ l, v = .tup l → yielded ops a.tmps j = none) := by
  constructor
  · intro b hb
    subst hb
    have := hv.bool_inv
    unfold yielded
    rw [hj]
    simp only [Option.bind_some]
    rw [Array.getD_eq_getD_getElem?] at this
    cases hx : a.tmps[t]? with
    | none => rw [hx] at this; simp [undef] at this
    | some y => rw [hx] at this; simp at this; subst this; rfl
  · intro l hl
    subst hl
    obtain ⟨xs, hx, _⟩ := hv.tup_inv
    unfold yielded
    rw [hj]
    simp only [Option.bind_some]
    rw [Array.getD_eq_getD_getElem?] at hx
    cases hy : a.tmps[t]? with
    | none => rfl
    | some y => rw [hy] at hx; simp at hx; subst hx; rfl
theorem unlisted_less {listed : Array Bool} {i : Nat} (hi : i < listed.size) (hn : ¬ Lst listed i) : (listed.setIfInBounds i true).toList.count false < listed.toList.count false := by
  have hf : listed.toList[i]'(by simpa using hi) = false := by
    unfold Lst at hn
    simp only [Array.getD_eq_getD_getElem?, Array.getElem?_eq_getElem hi, Option.getD_some] at hn
    simpa using hn
  have hpos : 0 < listed.toList.count false := by
    rw [List.count_pos_iff]
    exact hf ▸ List.getElem_mem _
  rw [Array.toList_setIfInBounds, List.count_set (by simpa using hi)]
  rw [hf, if_pos (by simp), if_neg (by simp)]
  omega
end
end Go.Ev
end
section
namespace Go.Ev
section
variable {P : Program} {ro : Option Nat} {D : List Deferred} {C : CallH} {N : Nat} {B : Bd} {ops : Array Oper} {wr : T Nat} {pm : Nat → Nat} {cl : List DIt} {Q : Exit → Act → World → Prop}
structure EndD (N : Nat) (B : Bd) (D : List Deferred) (loc0 : T V) (cl : List DIt) (φ0 : Phi) (w0 : World) (K : T V → H → Bool) (a : Act) (w : World) (φ : Phi) (loc : T V) (h : H) : Prop where
  ext : Ext φ0 φ
  below : Below B w0 w
  hr : HR B φ h w
  size : N ≤ a.tmps.size
  defers : a.defers = D
  old : ∀ t v, t < N → loc.get t = some v → (∀ c ∈ cl, c.dst ≠ some t) → VR φ v (a.tmps.getD t undef)
  new : ∀ c ∈ cl, ∀ d v, c.dst = some d → loc.get (N + d) = some v → VR φ v (a.tmps.getD d undef)
  high : ∀ t v, N ≤ t → loc0.get t = some v → VR φ v (a.tmps.getD t undef)
  frame : ∀ t, t < N → loc.get t = loc0.get t
  vals : ∀ c ∈ cl, ∀ d, c.dst = some d → ∃ v, loc.get (N + d) = some v
  run : K loc h = true
theorem lst_mono {listed : Array Bool} {i j : Nat} (hi : i < listed.size) (h : Lst listed j) : Lst (listed.setIfInBounds i true) j := (lst_set hi).2 (.inl h)
theorem Mid.listed {loc0 : T V} {p r acc : List DIt} {listed : Array Bool} {loc : T V} {h : H} {φ : Phi} {a : Act} {c : DIt} {v : V} {x : Value} (ho : OrdOk P ops N wr pm cl) (hm : Mid N loc0 cl p r acc listed loc h φ a) (hc : c ∈ p)
    (hi : c.i < listed.size) (hN : N ≤ a.tmps.size) (hd : ∀ d, c.key = some d → loc.get d = some v) (hv : VR φ v x) : Mid N loc0 cl p r acc (listed.setIfInBounds c.i true) loc h φ (a.put c.dst x) := by
  have hcm : c ∈ cl := by rw [hm.split]; exact List.mem_append_left _ hc
  have hput : ∀ t, c.dst ≠ some t → (a.put c.dst x).tmps.getD t undef = a.tmps.getD t undef := by
    intro t ht
    cases hcd : c.dst with
    | none => rfl
    | some d => exact getD_put_ne fun h' => ht (by rw [hcd, h'])
  refine ⟨hm.split, fun t u ht hu hw => ?_, fun c' hc' d u hd' hl hu => ?_, fun t u ht hu => by rw [hput t fun e => by have := ho.dstN c hcm t e; omega]; exact hm.high t u ht hu, fun i hi' => ?_, fun c' hc' hf => lst_mono hi (hm.efs c' hc' hf), fun c' hc' hf hn => hm.pend c' hc' hf fun hl => hn (lst_mono hi hl), hm.good, hm.frame, hm.vals⟩
  · have hne : c.dst ≠ some t := fun e => hw c hcm e ((lst_set hi).2 (.inr rfl))
    rw [hput t hne]
    exact hm.old t u ht hu fun c' hc' hd' hl => hw c' hc' hd' (lst_mono hi hl)
  · by_cases e : c'.i = c.i
    · have := ho.same hc' hcm e; subst this
      rw [hd _ (ho.dkey hcm hd')] at hu; simp only [Option.some.injEq] at hu; subst hu
      rw [hd', getD_put_self (Nat.lt_of_lt_of_le (ho.dstN _ hcm d hd') hN)]; exact hv
    · rw [hput d fun e' => e (ho.dst c' hc' c hcm d hd' e')]
      refine hm.new c' hc' d u hd' ?_ hu
      rcases (lst_set hi).1 hl with h1 | h1
      · exact h1
      · exact absurd h1 e
  · rcases (lst_set hi).1 hi' with h1 | rfl
    · exact hm.exec i h1
    · exact ⟨c, hc, rfl⟩
theorem Mid.mono {loc0 : T V} {p r acc : List DIt} {listed : Array Bool} {loc : T V} {h : H} {φ φ' : Phi} {a : Act} (hx : Ext φ φ') (hm : Mid N loc0 cl p r acc listed loc h φ a) : Mid N loc0 cl p r acc listed loc h φ' a :=
  ⟨hm.split, fun t v ht hv hw => (hm.old t v ht hv hw).mono hx, fun c hc d v hd hl hv => (hm.new c hc d v hd hl hv).mono hx, fun t v ht hv => (hm.high t v ht hv).mono hx, hm.exec, hm.efs, hm.pend, hm.good, hm.frame, hm.vals⟩
theorem Mid.effect {loc0 : T V} {p s acc : List DIt} {listed : Array Bool} {loc loc' : T V} {h h' : H} {φ : Phi} {a : Act} {c : DIt} {v : V} {x : Value} (ho : OrdOk P ops N wr pm cl) (hm : Mid N loc0 cl p (c :: s) acc listed loc h φ a) (hld : c.f.isLd = false)
    (hi : c.i < listed.size) (hN : N ≤ a.tmps.size) (hbits : ∀ j, (pm c.i).testBit j = true → Lst listed j) (h6 : ∀ t, (∀ x, c.key = some x → t ≠ x) → loc'.get t = loc.get t) (h7 : ∀ x, c.key = some x → loc'.get x = some v) (hv : VR φ v x)
    (hck : chkAll (leftOf (pm c.i) acc) loc' h' = true) : Mid N loc0 cl (p ++ [c]) s (leftOf (pm c.i) acc) (listed.setIfInBounds c.i true) loc' h' φ (a.put c.dst x) := by
  have hcm : c ∈ cl := by rw [hm.split]; simp
  have hrd := (OpF.noLd hld).1
  have hold : ∀ c' ∈ p, (∀ t, reads c' t → loc'.get t = loc.get t) ∧ ∀ d, c'.key = some d → loc'.get d = loc.get d := by
    intro c' hc'
    obtain ⟨g1, g2⟩ := ho.apart hm.split hc'
    exact ⟨fun t ht => h6 t fun x hx => g1 t ht x hx, fun d hd => h6 d fun x hx => g2 d hd x hx⟩
  have hput : ∀ t, c.dst ≠ some t → (a.put c.dst x).tmps.getD t undef = a.tmps.getD t undef := by
    intro t ht
    cases hcd : c.dst with
    | none => rfl
    | some d => exact getD_put_ne fun h' => ht (by rw [hcd, h'])
  have hlow : ∀ t, t < N → loc'.get t = loc.get t := fun t ht => h6 t fun x hx => by obtain ⟨d, _, rfl⟩ := ho.keyd hcm hx; omega
  refine ⟨by rw [hm.split]; simp, fun t u ht hu hw => ?_, fun c' hc' d u hd' hl hu => ?_, fun t u ht hu => by rw [hput t fun e => by have := ho.dstN c hcm t e; omega]; exact hm.high t u ht hu, fun i hi' => ?_, fun c' hc' hf => ?_, fun c' hc' hf hn => ?_, fun c' hc' => ?_, fun t ht => ?_, fun c' hc' d hd => ?_⟩
  · have hne : c.dst ≠ some t := fun e => hw c hcm e ((lst_set hi).2 (.inr rfl))
    rw [hput t hne]
    rw [hlow t ht] at hu
    exact hm.old t u ht hu fun c' hc' hd' hl => hw c' hc' hd' (lst_mono hi hl)
  · by_cases e : c'.i = c.i
    · have := ho.same hc' hcm e; subst this
      rw [h7 _ (ho.dkey hcm hd')] at hu; simp only [Option.some.injEq] at hu; subst hu
      rw [hd', getD_put_self (Nat.lt_of_lt_of_le (ho.dstN _ hcm d hd') hN)]; exact hv
    · have hl' : Lst listed c'.i := by
        rcases (lst_set hi).1 hl with h1 | h1
        · exact h1
        · exact absurd h1 e
      have hc'p : c' ∈ p := by
        obtain ⟨c2, g1, g2⟩ := hm.exec _ hl'
        have := ho.same (by rw [hm.split]; exact List.mem_append_left _ g1) hc' g2
        exact this ▸ g1
      rw [hput d fun e' => e (ho.dst c' hc' c hcm d hd' e')]
      rw [(hold c' hc'p).2 _ (ho.dkey hc' hd')] at hu
      exact hm.new c' hc' d u hd' hl' hu
  · rcases (lst_set hi).1 hi' with h1 | rfl
    · obtain ⟨c', g1, g2⟩ := hm.exec i h1
      exact ⟨c', List.mem_append_left _ g1, g2⟩
    · exact ⟨c, by simp, rfl⟩
  · rcases List.mem_append.1 hc' with hc' | hc'
    · exact lst_mono hi (hm.efs c' hc' hf)
    · simp at hc'; subst hc'; exact (lst_set hi).2 (.inr rfl)
  · rcases List.mem_append.1 hc' with hc' | hc'
    · have hn' : ¬ Lst listed c'.i := fun hl => hn (lst_mono hi hl)
      rw [leftOf_mem]
      refine ⟨hm.pend c' hc' hf hn', ?_⟩
      cases hb : bitB (pm c.i) c'.i with
      | false => rfl
      | true => exact absurd (hbits _ hb) hn'
    · simp at hc'; subst hc'; rw [hrd] at hf; exact absurd hf (by simp)
  · have hck' := chkAll_true hck c' hc'
    rw [leftOf_mem] at hc'
    obtain ⟨g1, g2, g3⟩ := hm.good c' hc'.1
    obtain ⟨o, _, _, _, _, _, ho4, _⟩ := mkIt_some (ho.item c' (by rw [hm.split]; exact List.mem_append_left _ g1))
    exact ⟨List.mem_append_left _ g1, g2, chk_pend ho4 g2 (g3.agree (hold c' g1).1 (hold c' g1).2) hck'⟩
  · rw [hlow t ht]
    exact hm.frame t ht
  · rcases List.mem_append.1 hc' with hc' | hc'
    · rw [(hold c' hc').2 _ (ho.dkey (by rw [hm.split]; exact List.mem_append_left _ hc') hd)]; exact hm.vals c' hc' d hd
    · simp at hc'; subst hc'; exact ⟨v, h7 _ (ho.dkey hcm hd)⟩
theorem drawn_main {loc0 : T V} {K : T V → H → Bool} {φ0 : Phi} {w0 : World} (hC : CallOk P C) (ho : OrdOk P ops N wr pm cl) (hQ : ∀ a w φ loc h, EndD N B D loc0 cl φ0 w0 K a w φ loc h → Q .normal a w) :
    ∀ (fuel : Nat) {listed : Array Bool} {p r acc : List DIt} {loc : T V} {h : H} {φ : Phi} {a : Act} {w : World} {U : Nat → Option Blk} {own : Nat → Option Nat}, Mid N loc0 cl p r acc listed loc h φ a → AlInv P ops B p listed loc U own → runD C pm r acc loc h K = true → (r = [] ∨ ∃ c s, r = c :: s ∧ c.f.isLd = false) →
      HR ⟨B.lo, U⟩ φ h w → Ext φ0 φ → Below B w0 w → N ≤ a.tmps.size → a.defers = D → listed.size = ops.size → Dcl pm listed → listed.toList.count false ≤ fuel → wpAnyIn (Fr ro) 0 P .any ops Q fuel listed a w := by
  intro fuel
  induction fuel with
  | zero =>
    intro listed p r acc loc h φ a w U own hm hi hk hh hr hx hb hN hdf hs hdc hcnt
    have hall : ∀ i, i < listed.size → Lst listed i := by
      intro i hi
      apply Classical.byContradiction
      intro hn
      have := unlisted_less hi hn
      omega
    have hready : Region.ready .any ops listed = [] := by
      cases hre : Region.ready .any ops listed with
      | nil => rfl
      | cons i l =>
        have : i ∈ Region.ready .any ops listed := by rw [hre]; simp
        rw [ready_iff hs] at this
        obtain ⟨o, ho1, h1, h2⟩ := this
        have hi : i < ops.size := by
          rcases Nat.lt_or_ge i ops.size with h | h
          · exact h
          · rw [Array.getElem?_eq_none h] at ho1; simp at ho1
        exact absurd (hall i (by omega)) h1
    refine ⟨hready, ?_⟩
    have hl := all_listed ho hs hready
    have hrn : r = [] := by
      rcases hh with rfl | ⟨c, s, rfl, hf⟩
      · rfl
      · have hcm : c ∈ cl := by rw [hm.split]; simp
        obtain ⟨c', g1, g2⟩ := hm.exec _ (hl c hcm)
        exact absurd g2 (ho.uniq p c s hm.split c' g1)
    subst hrn
    refine hQ a w φ loc h ⟨hx, hb, hr.less (U := B.U) hi.u0, hN, hdf, fun t v ht hv hw => hm.old t v ht hv fun c hc hd _ => hw c hc hd, fun c hc d v hd hv => hm.new c hc d v hd (hl c hc) hv, hm.high, hm.frame, fun c hc => hm.vals c (by have := hm.split; simp at this; rw [← this]; exact hc), hk⟩
  | succ fuel ih =>
    intro listed p r acc loc h φ a w U own hm hi hk hh hr hx hb hN hdf hs hdc hcnt
    refine ⟨fun hready => ?_, fun i hii => ?_⟩
    · have hl := all_listed ho hs hready
      have hrn : r = [] := by
        rcases hh with rfl | ⟨c, s, rfl, hf⟩
        · rfl
        · have hcm : c ∈ cl := by rw [hm.split]; simp
          obtain ⟨c', g1, g2⟩ := hm.exec _ (hl c hcm)
          exact absurd g2 (ho.uniq p c s hm.split c' g1)
      subst hrn
      refine hQ a w φ loc h ⟨hx, hb, hr.less (U := B.U) hi.u0, hN, hdf, fun t v ht hv hw => hm.old t v ht hv fun c hc hd _ => hw c hc hd, fun c hc d v hd hv => hm.new c hc d v hd (hl c hc) hv, hm.high, hm.frame, fun c hc => hm.vals c (by have := hm.split; simp at this; rw [← this]; exact hc), hk⟩
    · rw [ready_iff hs] at hii
      obtain ⟨o, ho1, hn, hpre⟩ := hii
      have hisz : i < ops.size := by
        rcases Nat.lt_or_ge i ops.size with h | h
        · exact h
        · rw [Array.getElem?_eq_none h] at ho1; simp at ho1
      have hil : i < listed.size := by omega
      have hbits := hdc.ready ho ho1 hpre
      obtain ⟨c, hcm, rfl⟩ := ho.all i hisz
      obtain ⟨o', args, ho2, _, hdst, _, hf, hargs, hcargs, hguard⟩ := mkIt_some (ho.item c hcm)
      rw [ho1] at ho2; simp only [Option.some.injEq] at ho2; subst ho2
      have hdc' := Dcl.set ho hdc hil hbits
      have hcnt' : (listed.setIfInBounds c.i true).toList.count false ≤ fuel := by have := unlisted_less hil hn; omega
      have hs' : (listed.setIfInBounds c.i true).size = ops.size := by simpa using hs
      have hsrc : ∀ t v, Ev.reads c (fixT N wr (pm c.i) t) → loc.get (fixT N wr (pm c.i) t) = some v → VR φ v (a.tmps.getD t undef) := fun t v ht hv => hm.readsV ho hcm hn hbits hdc ht hv
      have hoper : ∀ vs, c.args.map (Src1.val [] loc) = vs.map some → VRs φ vs (o.op.operands.toList.map a.eval) := fun vs hvs => operands_rel (fixS_other N wr (pm c.i)) hargs (hcargs ▸ hvs) fun t v ht hv =>
        hsrc t v (.inl (by rw [hcargs]; exact List.mem_map.2 ⟨_, ht, rfl⟩)) hv
      have hplace : ∀ q e s, cl = q ++ e :: s → e.f.isLd = false → ¬ Lst listed e.i → c ∉ s := by
        intro q e s hsp hef hne hcs
        obtain ⟨s1, s2, rfl⟩ := List.append_of_mem hcs
        have := ho.ef (q ++ e :: s1) c s2 (by rw [hsp]; simp) e (by simp) hef
        exact hne (hbits _ this)
      unfold wpOpIn
      simp only [ho1]
      cases hld : c.f.isLd with
      | true =>
        have hcp : c ∈ p := by
          rcases List.mem_append.1 (hm.split ▸ hcm) with h1 | h1
          · exact h1
          · rcases hh with rfl | ⟨e, s, rfl, hef⟩
            · simp at h1
            · rcases List.mem_cons.1 h1 with rfl | h1
              · rw [hld] at hef; exact absurd hef (by simp)
              · refine absurd h1 (hplace p e s hm.split hef fun hl => ?_)
                obtain ⟨c', g1, g2⟩ := hm.exec _ hl
                exact ho.uniq p e s hm.split c' g1 g2
        rcases OpF.ldCases hld with hrd | hal
        ·
          obtain ⟨_, _, hp⟩ := hm.good c (hm.pend c hcp hrd hn)
          have fin : ∀ (v : V) (x : Value) (φ' : Phi) (w' : World), (∀ d, c.key = some d → loc.get d = some v) → Ext φ φ' → VR φ' v x → HR ⟨B.lo, U⟩ φ' h w' → Below B w w' → wpAnyIn (Fr ro) 0 P .any ops Q fuel (listed.setIfInBounds c.i true) (a.put o.dst x) w' := by
            intro v x φ' w' h1 h2 h3 h4 h5
            rw [← hdst]
            exact ih (Mid.listed ho (hm.mono h2) hcp hil hN h1 h3) ⟨hi.u0, fun c' hc' ha' hn' => hi.pen c' hc' ha' fun hl => hn' (lst_mono hil hl)⟩ hk hh h4 (hx.trans h2) (hb.trans h5) (by rw [put_size]; exact hN) (by rw [put_defers']; exact hdf) hs' hdc' hcnt'
          have doit : PendR c loc h → o.wpIn (Fr ro) 0 P a w (wpAnyIn (Fr ro) 0 P .any ops Q fuel (listed.setIfInBounds c.i true)) Q := by
            rintro ⟨vs, v, g1, g2, g3⟩
            refine opRun (K := fun u h' => @decide (u = v ∧ h' = h) (Classical.propDecidable _)) hC hr (hoper vs g1) ?_ ?_
            · rw [← hf, opK_rd hrd]
              have : (fun u => @decide (u = v ∧ h = h) (Classical.propDecidable _)) = fun u => @decide (u = v) (Classical.propDecidable _) := by
                funext u; congr 1; simp
              rw [this]; exact g2
            · intro v' h' φ' x w' k1 k2 k3 k4 k5
              have k5 : v' = v ∧ h' = h := by simpa using k5
              obtain ⟨rfl, rfl⟩ := k5
              exact fin _ x φ' w' g3 k1 k2 k3 (k4.lo rfl)
          rcases hguard with ⟨hg1, hg2⟩ | ⟨j, w', t, hg1, hg2, hj⟩
          · have hw : Region.wanted o (yielded ops a.tmps) = true := by unfold Region.wanted; rw [hg1]
            rw [if_pos hw]
            rcases hp with ⟨_, hp⟩ | ⟨t, w', hp, _⟩
            · exact (doit hp)
            · rw [hg2] at hp; exact absurd hp (by simp)
          · have hwant : Region.wanted o (yielded ops a.tmps) = (yielded ops a.tmps j == some w') := by unfold Region.wanted; rw [hg1]
            rcases hp with ⟨hp, _⟩ | ⟨t2, w2, hp, hp2⟩
            · rw [hg2] at hp; exact absurd hp (by simp)
            · rw [hg2] at hp
              simp only [Option.some.injEq, Prod.mk.injEq] at hp
              obtain ⟨hpt, rfl⟩ := hp
              subst hpt
              rcases hp2 with ⟨hv, hp⟩ | ⟨hv, hp⟩
              · have hy := (yields hj (hsrc t _ (.inr ⟨_, hg2⟩) hv)).1 _ rfl
                rw [if_pos (by rw [hwant, hy]; simp)]
                exact (doit hp)
              · have hw : ¬ Region.wanted o (yielded ops a.tmps) = true := by
                  rw [hwant]
                  rcases hv with hv | ⟨l, hv⟩
                  · rw [(yields hj (hsrc t _ (.inr ⟨_, hg2⟩) hv)).1 _ rfl]; cases w' <;> simp
                  · rw [(yields hj (hsrc t _ (.inr ⟨_, hg2⟩) hv)).2 _ rfl]; simp
                rw [if_neg hw]
                refine ⟨fun _ _ => trivial, ?_⟩
                exact fin undefV undef φ w hp (Ext.refl φ) (undefV_rel φ) hr (Below.refl _ _)
        ·
          have goOn : ∀ (v : V) (x : Value) (φ' : Phi) (w' : World) (U' : Nat → Option Blk), AlInv P ops B p (listed.setIfInBounds c.i true) loc U' own → (∀ d, c.key = some d → loc.get d = some v) → Ext φ φ' → VR φ' v x → HR ⟨B.lo, U'⟩ φ' h w' → Below B w w' → wpAnyIn (Fr ro) 0 P .any ops Q fuel (listed.setIfInBounds c.i true) (a.put o.dst x) w' := by
            intro v x φ' w' U' h0 h1 h2 h3 h4 h5
            rw [← hdst]
            exact ih (Mid.listed ho (hm.mono h2) hcp hil hN h1 h3) h0 hk hh h4 (hx.trans h2) (hb.trans h5) (by rw [put_size]; exact hN) (by rw [put_defers']; exact hdf) hs' hdc' hcnt'
          have off : GOff c loc → ¬ Region.wanted o (yielded ops a.tmps) = true ∧ ∀ d, c.key = some d → loc.get d = some undefV := by
            rintro ⟨t2, w2, hp, hv, hu⟩
            rcases hguard with ⟨hg1, hg2⟩ | ⟨j, w', t, hg1, hg2, hj⟩
            · rw [hg2] at hp; exact absurd hp (by simp)
            · have hwant : Region.wanted o (yielded ops a.tmps) = (yielded ops a.tmps j == some w') := by unfold Region.wanted; rw [hg1]
              rw [hg2] at hp
              simp only [Option.some.injEq, Prod.mk.injEq] at hp
              obtain ⟨hpt, rfl⟩ := hp
              subst hpt
              refine ⟨?_, hu⟩
              rw [hwant]
              rcases hv with hv | ⟨l, hv⟩
              · rw [(yields hj (hsrc t _ (.inr ⟨_, hg2⟩) hv)).1 _ rfl]; cases w' <;> simp
              · rw [(yields hj (hsrc t _ (.inr ⟨_, hg2⟩) hv)).2 _ rfl]; simp
          have on : GOn c loc → Region.wanted o (yielded ops a.tmps) = true := by
            intro hg
            rcases hguard with ⟨hg1, hg2⟩ | ⟨j, w', t, hg1, hg2, hj⟩
            · unfold Region.wanted; rw [hg1]
            · have hwant : Region.wanted o (yielded ops a.tmps) = (yielded ops a.tmps j == some w') := by unfold Region.wanted; rw [hg1]
              rcases hg with hg | ⟨t2, w2, hp, hv⟩
              · rw [hg2] at hg; exact absurd hg (by simp)
              · rw [hg2] at hp
                simp only [Option.some.injEq, Prod.mk.injEq] at hp
                obtain ⟨hpt, rfl⟩ := hp
                subst hpt
                rw [hwant, (yields hj (hsrc t _ (.inr ⟨_, hg2⟩) hv)).1 _ rfl]; simp
          rcases hi.pen c hcp hal hn with hg | ⟨hg, b, k, q1, q2, q3, q4⟩
          · obtain ⟨hw, hu⟩ := off hg
            rw [if_neg hw]
            refine ⟨fun _ _ => trivial, ?_⟩
            exact goOn undefV undef φ w U ⟨hi.u0, fun c' hc' ha' hn' => hi.pen c' hc' ha' fun hl => hn' (lst_mono hil hl)⟩ hu (Ext.refl φ) (undefV_rel φ) hr (Below.refl _ _)
          · rw [if_pos (on hg)]
            obtain ⟨vs, v, g1, g2, g3⟩ := q4 o ho1
            obtain ⟨r1, r2, r3, _⟩ := hr.res b k q1
            have hr1 : HR ⟨B.lo, fun x => if x = b then none else U x⟩ φ h w := hr.less (U := fun x => if x = b then none else U x) fun x k0 hx => by
              by_cases e : x = b
              · simp [e] at hx
              · simpa [e] using hx
            obtain ⟨x, w', L, k1, k2, k3, k4⟩ := g3 _ φ h w a.eval hr1 (hoper vs g1) ⟨r1, by simp⟩ r2 r3
            refine wpF_value k1 (goOn v x _ w' _ ⟨fun b' k' hu => ?_, fun c' hc' ha' hn' => ?_⟩ g2 (Phi.ext_put r1) k2 k3 (k4.lo rfl))
            · have : b' ≠ b := fun e => by rw [e, q2] at hu; exact absurd hu (by simp)
              simp only [if_neg this]; exact hi.u0 b' k' hu
            · rcases hi.pen c' hc' ha' (fun hl => hn' (lst_mono hil hl)) with q | ⟨q, b', k', p1, p2, p3, p4⟩
              · exact .inl q
              · have : b' ≠ b := fun e => by
                  rw [e, q3] at p3
                  simp only [Option.some.injEq] at p3
                  exact hn' ((lst_set hil).2 (.inr p3.symm))
                exact .inr ⟨q, b', k', by simp only [if_neg this]; exact p1, p2, p3, p4⟩
      | false =>
        have hcp : c ∉ p := fun hcp => hn (hm.efs c hcp hld)
        obtain ⟨hrd, hal⟩ := OpF.noLd hld
        obtain ⟨s, rfl⟩ : ∃ s, r = c :: s := by
          rcases List.mem_append.1 (hm.split ▸ hcm) with h1 | h1
          · exact absurd h1 hcp
          · rcases hh with rfl | ⟨e, s, rfl, hef⟩
            · simp at h1
            · rcases List.mem_cons.1 h1 with rfl | h1
              · exact ⟨s, rfl⟩
              · refine absurd h1 (hplace p e s hm.split hef fun hl => ?_)
                obtain ⟨c', g1, g2⟩ := hm.exec _ hl
                exact ho.uniq p e s hm.split c' g1 g2
        have hk' : stepD C c loc h (fun loc h => bif c.f.isRd then runD C pm s (c :: acc) loc h K else
          bif c.f.isAl then condK (chkAll acc loc h) (runD C pm s acc loc h K) false else condK (chkAll (leftOf (pm c.i) acc) loc h) (runD C pm s (leftOf (pm c.i) acc) loc h K) false) = true := hk
        rw [hrd, hal] at hk'
        simp only [cond_false] at hk'
        have fin : ∀ (v : V) (h' : H) (x : Value) (φ' : Phi) (w' : World), (setD c.key v loc fun loc => condK (chkAll (leftOf (pm c.i) acc) loc h') (runD C pm s (leftOf (pm c.i) acc) loc h' K) false) = true → Ext φ φ' → VR φ' v x → HR ⟨B.lo, U⟩ φ' h' w' → Below B w w' → wpAnyIn (Fr ro) 0 P .any ops Q fuel (listed.setIfInBounds c.i true) (a.put o.dst x) w' := by
          intro v h' x φ' w' h1 h2 h3 h4 h5
          obtain ⟨loc', g1, g2, g3⟩ := setD_true h1
          rw [condK_eq] at g1
          obtain ⟨g1, g4⟩ := bif_true g1
          have hm' := Mid.effect (h' := h') ho (hm.mono h2) hld hil hN hbits g2 g3 h3 g1
          have hi' : AlInv P ops B p (listed.setIfInBounds c.i true) loc' U own := AlInv.agree (loc := loc) ⟨hi.u0, fun c' hc' ha' hn' => hi.pen c' hc' ha' fun hl => hn' (lst_mono hil hl)⟩ fun c' hc' => by
            obtain ⟨z1, z2⟩ := ho.apart hm.split hc'
            exact ⟨fun t ht => g2 t fun x hx => z1 t ht x hx, fun d hd => g2 d fun x hx => z2 d hd x hx⟩
          obtain ⟨p', r', acc', loc'', h'', U', own', k1, ki, kr, k2, k3⟩ := advance ho _ _ _ hm' (hi'.more hal) h4 g4
          rw [← hdst]
          exact ih k1 ki k2 k3 kr (hx.trans h2) (hb.trans h5) (by rw [put_size]; exact hN) (by rw [put_defers']; exact hdf) hs' hdc' hcnt'
        have doit : doD C c loc h (fun loc h => condK (chkAll (leftOf (pm c.i) acc) loc h) (runD C pm s (leftOf (pm c.i) acc) loc h K) false) = true → o.wpIn (Fr ro) 0 P a w (wpAnyIn (Fr ro) 0 P .any ops Q fuel (listed.setIfInBounds c.i true)) Q := by
          intro hd
          unfold doD at hd
          obtain ⟨vs, g1, g2⟩ := srcVs_true hd
          rw [hf] at g2
          refine opRun hC hr (hoper vs g1) g2 ?_
          intro v' h' φ' x w' k1 k2 k3 k4 k5
          exact fin v' h' x φ' w' k5 k1 k2 k3 (k4.lo rfl)
        unfold stepD at hk'
        rcases hguard with ⟨hg1, hg2⟩ | ⟨j, w', t, hg1, hg2, hj⟩
        · have hw : Region.wanted o (yielded ops a.tmps) = true := by unfold Region.wanted; rw [hg1]
          rw [if_pos hw]
          rw [hg2] at hk'
          exact (doit hk')
        · have hwant : Region.wanted o (yielded ops a.tmps) = (yielded ops a.tmps j == some w') := by unfold Region.wanted; rw [hg1]
          rw [hg2] at hk'
          obtain ⟨v, hv, h2⟩ := T.getK_true (show (loc.getK (fixT N wr (pm c.i) t) fun v => guardA v w' (doD C c loc h fun loc h => condK (chkAll (leftOf (pm c.i) acc) loc h) (runD C pm s (leftOf (pm c.i) acc) loc h K) false)
            (setD c.key undefV loc fun loc => condK (chkAll (leftOf (pm c.i) acc) loc h) (runD C pm s (leftOf (pm c.i) acc) loc h K) false)) = true from hk')
          rcases guardA_true h2 with ⟨rfl, h3⟩ | ⟨hv2, h3⟩
          · have hy := (yields hj (hsrc t _ (.inr ⟨_, hg2⟩) hv)).1 _ rfl
            rw [if_pos (by rw [hwant, hy]; simp)]
            exact (doit h3)
          · have hw : ¬ Region.wanted o (yielded ops a.tmps) = true := by
              rw [hwant]
              rcases hv2 with rfl | ⟨l, rfl⟩
              · rw [(yields hj (hsrc t _ (.inr ⟨_, hg2⟩) hv)).1 _ rfl]; cases w' <;> simp
              · rw [(yields hj (hsrc t _ (.inr ⟨_, hg2⟩) hv)).2 _ rfl]; simp
            rw [if_neg hw]
            refine ⟨fun _ _ => trivial, ?_⟩
            exact fin undefV h undef φ w h3 (Ext.refl φ) (undefV_rel φ) hr (Below.refl _ _)
end
end Go.Ev
end
section
namespace Go.Ev
noncomputable def bindsF (e : Edge) : Bool := Ground.rec (motive := fun _ => Bool) true true true true (fun _ => false) (fun _ => false) e.ground
theorem bindsF_eq (e : Edge) : bindsF e = Region.binds .any e := by
  unfold bindsF Region.binds
  cases e.ground <;> rfl
noncomputable def nthD (l : List Nat) : Nat → Nat := List.rec (motive := fun _ => Nat → Nat) (fun _ => 0) (fun a _ ih i => Nat.rec (motive := fun _ => Nat) a (fun j _ => ih j) i) l
noncomputable def pickM (b : Bool) (x y : Nat) : Nat := Bool.rec (motive := fun _ => Nat → Nat → Nat) (fun x _ => x) (fun _ y => y) b x y
noncomputable def orE (l : List Nat) (es : List Edge) : Nat → Nat :=
  List.rec (motive := fun _ => Nat → Nat) (fun acc => acc) (fun e _ ih acc => ih (pickM (bindsF e) acc (Nat.lor acc (Nat.lor (Nat.shiftLeft 1 e.on) (nthD l e.on))))) es
noncomputable def masksGo (ops : List Oper) : List Nat → List Nat := List.rec (motive := fun _ => List Nat → List Nat) (fun acc => acc) (fun o _ ih acc => ih (acc ++ [orE acc o.after.toList 0])) ops
theorem orE_bits (l : List Nat) : ∀ (es : List Edge) (acc j : Nat), (orE l es acc).testBit j = true ↔ acc.testBit j = true ∨ ∃ e ∈ es, Region.binds .any e = true ∧ (e.on = j ∨ (nthD l e.on).testBit j = true)
  | [], acc, j => by simp [orE]
  | e :: es, acc, j => by
    have h : orE l (e :: es) acc = orE l es (pickM (bindsF e) acc (Nat.lor acc (Nat.lor (Nat.shiftLeft 1 e.on) (nthD l e.on)))) := rfl
    rw [h, orE_bits l es]
    cases hb : bindsF e with
    | false =>
      have hb' : Region.binds .any e = false := by rw [← bindsF_eq]; exact hb
      show acc.testBit j = true ∨ _ ↔ _
      simp [hb']
    | true =>
      have hb' : Region.binds .any e = true := by rw [← bindsF_eq]; exact hb
      show (Nat.lor acc (Nat.lor (Nat.shiftLeft 1 e.on) (nthD l e.on))).testBit j = true ∨ _ ↔ _
      have e1 : Nat.lor acc (Nat.lor (Nat.shiftLeft 1 e.on) (nthD l e.on)) = acc ||| (1 <<< e.on ||| nthD l e.on) := rfl
      have e2 : (1 <<< e.on).testBit j = true ↔ e.on = j := by
        rw [Nat.one_shiftLeft, Nat.testBit_two_pow]; simp
      rw [e1, Nat.testBit_or, Nat.testBit_or]
      simp only [Bool.or_eq_true, e2, List.mem_cons, exists_eq_or_imp, hb', true_and]
      constructor
      · rintro ((h | h | h) | h)
        · exact .inl h
        · exact .inr (.inl (.inl h))
        · exact .inr (.inl (.inr h))
        · exact .inr (.inr h)
      · rintro (h | (h | h) | h)
        · exact .inl (.inl h)
        · exact .inl (.inr (.inl h))
        · exact .inl (.inr (.inr h))
        · exact .inr h
noncomputable def subM (a b : Nat) : Bool := Nat.beq (Nat.land a b) a
theorem subM_true {a b : Nat} (h : subM a b = true) {j : Nat} (hj : a.testBit j = true) : b.testBit j = true := by
  have h : a &&& b = a := Nat.eq_of_beq_eq_true h
  rw [← h, Nat.testBit_and] at hj
  simp at hj; exact hj.2
noncomputable def bitF (m j : Nat) : Bool := Nat.rec (motive := fun _ => Bool) false (fun _ _ => true) (Nat.land 1 (Nat.shiftRight m j))
theorem bitF_eq (m j : Nat) : bitF m j = m.testBit j := by
  unfold bitF Nat.testBit
  show Nat.rec (motive := fun _ => Bool) false (fun _ _ => true) (1 &&& (m >>> j)) = _
  cases (1 &&& (m >>> j)) <;> first | rfl | simp
section
variable (N : Nat) (pm : Nat → Nat) (wr : T Nat) (edges : Nat → Nat) (dstF : Nat → Option Nat)
noncomputable def okT (i k : Nat) : Bool := Bool.rec (motive := fun _ => Bool) (wr.getK (Nat.sub k N) fun j => condK (bitF (pm i) j) (Option.rec (motive := fun _ => Bool) false (fun d => Nat.beq (Nat.add N d) k) (dstF j)) false) (wr.optK k true fun j => bitF (pm j) i) (Nat.blt k N)
noncomputable def okA (i : Nat) (l : List Src1) : Bool := List.rec (motive := fun _ => Bool) true (fun s _ ih => condK (Src1.rec (motive := fun _ => Bool) (fun t => okT N pm wr dstF i t) (fun _ => true) (fun _ => true) s) ih false) l
noncomputable def okIt (c : DIt) (pre ef : Nat) : Bool :=
  condK (bitF pre c.i) false (condK (subM (pm c.i) pre) (condK (subM ef (pm c.i)) (condK (okA N pm wr dstF c.i c.args) (condK (Option.rec (motive := fun _ => Bool) true (fun g => okT N pm wr dstF c.i g.1) c.guard)
    (condK (Nat.beq (edges c.i) (pm c.i)) (Option.rec (motive := fun _ => Bool) true (fun d => condK (Nat.blt d N) (wr.getK d fun j => Nat.beq j c.i) false) c.dst) false) false) false) false) false)
noncomputable def okGo (n : Nat) (l : List DIt) : Nat → Nat → Bool :=
  List.rec (motive := fun _ => Nat → Nat → Bool) (fun pre _ => Nat.beq pre (Nat.sub (Nat.shiftLeft 1 n) 1))
    (fun c _ ih pre ef => condK (okIt N pm wr edges dstF c pre ef) (ih (Nat.lor pre (Nat.shiftLeft 1 c.i)) (pickM c.f.isLd (Nat.lor ef (Nat.shiftLeft 1 c.i)) ef)) false) l
end
structure OkC (N : Nat) (pm : Nat → Nat) (wr : T Nat) (edges : Nat → Nat) (dstF : Nat → Option Nat) (c : DIt) (p : List DIt) : Prop where
  uniq : ∀ c' ∈ p, c'.i ≠ c.i
  pre : ∀ j, (pm c.i).testBit j = true → ∃ c' ∈ p, c'.i = j
  ef : ∀ c' ∈ p, c'.f.isLd = false → (pm c.i).testBit c'.i = true
  src : ∀ k, reads c k → (k < N ∧ ∀ j, wr.get k = some j → (pm j).testBit c.i = true) ∨ ∃ t j, k = N + t ∧ wr.get t = some j ∧ dstF j = some t ∧ (pm c.i).testBit j = true
  dst : ∀ d, c.dst = some d → wr.get d = some c.i ∧ d < N
  edg : edges c.i = pm c.i
theorem condK_t {a b : Bool} (h : condK a b false = true) : a = true ∧ b = true := by rw [condK_eq] at h; exact bif_true h
theorem okT_true {N : Nat} {pm : Nat → Nat} {wr : T Nat} {dstF : Nat → Option Nat} {i k : Nat} (h : okT N pm wr dstF i k = true) :
    (k < N ∧ ∀ j, wr.get k = some j → (pm j).testBit i = true) ∨ ∃ t j, k = N + t ∧ wr.get t = some j ∧ dstF j = some t ∧ (pm i).testBit j = true := by
  unfold okT at h
  cases hb : Nat.blt k N with
  | true =>
    rw [hb] at h
    have h : (wr.optK k true fun j => bitF (pm j) i) = true := h
    rw [T.optK_eq] at h
    refine .inl ⟨blt_iff.1 hb, fun j hj => ?_⟩
    rw [hj] at h
    rw [← bitF_eq]; exact h
  | false =>
    rw [hb] at h
    obtain ⟨j, h1, h2⟩ := T.getK_true (show (wr.getK (Nat.sub k N) fun j => condK (bitF (pm i) j) (Option.rec (motive := fun _ => Bool) false (fun d => Nat.beq (Nat.add N d) k) (dstF j)) false) = true from h)
    obtain ⟨h3, h4⟩ := condK_t h2
    cases hd : dstF j with
    | none => rw [hd] at h4; exact absurd (show false = true from h4) (by simp)
    | some d =>
      rw [hd] at h4
      have h5 : N + d = k := Nat.eq_of_beq_eq_true h4
      have h6 : Nat.sub k N = d := by have : Nat.sub k N = k - N := rfl; omega
      rw [h6] at h1
      exact .inr ⟨d, j, h5.symm, h1, hd, by rw [← bitF_eq]; exact h3⟩
theorem okA_true {N : Nat} {pm : Nat → Nat} {wr : T Nat} {dstF : Nat → Option Nat} {i : Nat} : ∀ {l : List Src1}, okA N pm wr dstF i l = true → ∀ t, Src1.loc t ∈ l → okT N pm wr dstF i t = true
  | [], _, t, ht => by simp at ht
  | s :: l, h, t, ht => by
    have h' : condK (Src1.rec (motive := fun _ => Bool) (fun t => okT N pm wr dstF i t) (fun _ => true) (fun _ => true) s) (okA N pm wr dstF i l) false = true := h
    obtain ⟨h1, h2⟩ := condK_t h'
    rcases List.mem_cons.1 ht with rfl | ht
    · exact h1
    · exact okA_true h2 t ht
theorem okIt_true {N : Nat} {pm : Nat → Nat} {wr : T Nat} {edges : Nat → Nat} {dstF : Nat → Option Nat} {c : DIt} {pre ef : Nat} {p : List DIt} (hp : ∀ j, pre.testBit j = true ↔ ∃ c ∈ p, c.i = j) (he : ∀ j, ef.testBit j = true ↔ ∃ c ∈ p, c.f.isLd = false ∧ c.i = j)
    (h : okIt N pm wr edges dstF c pre ef = true) : OkC N pm wr edges dstF c p := by
  unfold okIt at h
  rw [condK_eq] at h
  cases hb : bitF pre c.i with
  | true => rw [hb] at h; exact absurd h (by simp)
  | false =>
    rw [hb] at h
    simp only [cond_false] at h
    obtain ⟨h1, h⟩ := condK_t h
    obtain ⟨h2, h⟩ := condK_t h
    obtain ⟨h3, h⟩ := condK_t h
    obtain ⟨h4, h⟩ := condK_t h
    obtain ⟨h5, h⟩ := condK_t h
    rw [bitF_eq] at hb
    refine ⟨fun c' hc' e => ?_, fun j hj => (hp j).1 (subM_true h1 hj), fun c' hc' hf => subM_true h2 ((he _).2 ⟨c', hc', hf, rfl⟩), fun t ht => ?_, fun d hd => ?_, Nat.eq_of_beq_eq_true h5⟩
    · have := (hp c.i).2 ⟨c', hc', e⟩
      rw [hb] at this; exact absurd this (by simp)
    · rcases ht with ht | ⟨w, hg⟩
      · exact okT_true (okA_true h3 t ht)
      · rw [hg] at h4; exact okT_true h4
    · rw [hd] at h
      obtain ⟨h6, h7⟩ := condK_t (show condK (Nat.blt d N) (wr.getK d fun j => Nat.beq j c.i) false = true from h)
      obtain ⟨j, h8, h9⟩ := T.getK_true h7
      rw [h8, Nat.eq_of_beq_eq_true h9]
      exact ⟨rfl, blt_iff.1 h6⟩
theorem okGo_true {N : Nat} {pm : Nat → Nat} {wr : T Nat} {edges : Nat → Nat} {dstF : Nat → Option Nat} {n : Nat} : ∀ {r p : List DIt} {pre ef : Nat}, (∀ j, pre.testBit j = true ↔ ∃ c ∈ p, c.i = j) → (∀ j, ef.testBit j = true ↔ ∃ c ∈ p, c.f.isLd = false ∧ c.i = j) →
    okGo N pm wr edges dstF n r pre ef = true → (∀ q c s, r = q ++ c :: s → OkC N pm wr edges dstF c (p ++ q)) ∧ ∀ i, i < n → ∃ c ∈ p ++ r, c.i = i
  | [], p, pre, ef, hp, he, h => by
    refine ⟨fun q c s hq => by simp at hq, fun i hi => ?_⟩
    have h : pre = (1 <<< n) - 1 := Nat.eq_of_beq_eq_true h
    simp only [List.append_nil]
    rw [← hp, h, Nat.one_shiftLeft, Nat.testBit_two_pow_sub_one]
    simpa using hi
  | c :: r, p, pre, ef, hp, he, h => by
    have h' : condK (okIt N pm wr edges dstF c pre ef) (okGo N pm wr edges dstF n r (Nat.lor pre (Nat.shiftLeft 1 c.i)) (pickM c.f.isLd (Nat.lor ef (Nat.shiftLeft 1 c.i)) ef)) false = true := h
    obtain ⟨h1, h2⟩ := condK_t h'
    have bit1 : ∀ m j : Nat, (Nat.lor m (Nat.shiftLeft 1 c.i)).testBit j = true ↔ m.testBit j = true ∨ c.i = j := by
      intro m j
      show (m ||| (1 <<< c.i)).testBit j = true ↔ _
      rw [Nat.testBit_or, Nat.one_shiftLeft, Nat.testBit_two_pow]; simp
    obtain ⟨h3, h4⟩ := okGo_true (p := p ++ [c]) (fun j => by
        rw [bit1, hp]
        constructor
        · rintro (⟨d, hd, e⟩ | e)
          · exact ⟨d, by simp [hd], e⟩
          · exact ⟨c, by simp, e⟩
        · rintro ⟨d, hd, e⟩
          rcases List.mem_append.1 hd with hd | hd
          · exact .inl ⟨d, hd, e⟩
          · simp at hd; subst hd; exact .inr e) (fun j => by
        cases hrd : c.f.isLd with
        | true =>
          show ef.testBit j = true ↔ _
          rw [he]
          constructor
          · rintro ⟨d, hd, e⟩; exact ⟨d, by simp [hd], e⟩
          · rintro ⟨d, hd, e1, e2⟩
            rcases List.mem_append.1 hd with hd | hd
            · exact ⟨d, hd, e1, e2⟩
            · simp at hd; subst hd; rw [hrd] at e1; exact absurd e1 (by simp)
        | false =>
          show (Nat.lor ef (Nat.shiftLeft 1 c.i)).testBit j = true ↔ _
          rw [bit1, he]
          constructor
          · rintro (⟨d, hd, e⟩ | e)
            · exact ⟨d, by simp [hd], e⟩
            · exact ⟨c, by simp, hrd, e⟩
          · rintro ⟨d, hd, e1, e2⟩
            rcases List.mem_append.1 hd with hd | hd
            · exact .inl ⟨d, hd, e1, e2⟩
            · simp at hd; subst hd; exact .inr e2) h2
    refine ⟨fun q d s hq => ?_, fun i hi => by simpa using h4 i hi⟩
    cases q with
    | nil =>
      simp at hq
      obtain ⟨rfl, rfl⟩ := hq
      simpa using okIt_true hp he h1
    | cons x q =>
      simp at hq
      obtain ⟨rfl, rfl⟩ := hq
      simpa using h3 q d s rfl
end Go.Ev
end
