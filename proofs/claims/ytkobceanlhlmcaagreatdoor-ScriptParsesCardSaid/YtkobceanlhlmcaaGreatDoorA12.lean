/- Part of the proof that card_holds ends in: an evaluator of closed runs over abstract memories, and that what it says holds of the model. -/
import Derived.Test.YtkobceanlhlmcaaGreatDoorA11
import Derived.Test.YtkobceanlhlmcaaGreatDoorA10
import Derived.Test.YtkobceanlhlmcaaGreatDoorProg
import Derived.Tactics
import Derived.Tactics2
import Derived.Defers
import Derived.Laws.Pointers
import Derived.RegionTactic
import Derived.RegionCalls
set_option linter.all false
section
namespace Go.Ev
open Go.Proofs
theorem calls_of {P : Program} {C : CallH} (hC : CallOk P C) {f : FuncId} {fn : Func} (hf : P.funcs[f]? = some fn) (hb : fn.body.isNone = false) (hnm : (fn.name == "runtime.NumGoroutine") = false) (hne : f ≠ YLD) {vs : List V} {h : H} {K : V → H → Bool} (hk : C f vs h K = true)
    {B : Bd} {φ : Phi} {w : World} {args : Array Value} (hr : HR B φ h w) (hv : VRs φ vs args.toList) : Calls P f args w (Post B φ w K) := by
  rcases hC.fn f vs h K hne hk B φ w args hr hv with ⟨_, h⟩ | ⟨x, w', h, _⟩
  · exact h
  · unfold callFunc at h
    simp only [Sem.run_bind, run_program, Result.andThen_ok, hf, hnm, Bool.false_eq_true, if_false, hb, Sem.run_pure] at h
    cases h
theorem bodyK_callsD {P : Program} (hmix : P.follows .mixedOrders = true) {C : CallH} (hC : CallOk P C) {fuel : Nat} {f : FuncId} {vs : List V} {h : H} {K : V → H → Bool} (hk : bodyK P true C fuel f vs h K = true)
    {B : Bd} {φ : Phi} {w : World} {args : Array Value} {u : FrameMode} (hr : HR B φ h w) (hv : VRs φ vs args.toList) : (∀ w, (callFunc f args).run P w = .ok (.enter f args) w) ∧ CallsD P f args u w fun e u' w' => u' = u ∧ Post B φ w K e w' := by
  obtain ⟨fn, c, hfn, hb, hnm, hwp⟩ := bodyK_true hmix hC hk
  constructor
  · intro w
    unfold callFunc
    simp only [Sem.run_bind, run_program, Result.andThen_ok, hfn, hnm, Bool.false_eq_true, if_false, hb, Option.isNone_some, Sem.run_pure]
  · refine callsD_of_wp hfn hb ?_
    have hw := wpIn_wide.1 (hwp none B φ w args (fun h => absurd h (by simp)) hr hv)
    refine wp_mono hw ?_
    rintro e a' w' ⟨φ', o, loc', h', D', rfl, hD, g1, g2, g3, g4, g5, g6⟩
    obtain ⟨ho, hres⟩ := endK_ret g6
    have hdf : a'.defers = [] := by rw [g2.defers, hD rfl]
    obtain ⟨v, x, k1, k2, k3⟩ := res_run (P := P) (fn := fn) g2 g4 hres
    have fin : a'.defers = [] ∧ ∃ v, (results fn a'.tmps).run P w' = .ok v w' ∧ Post B φ w K (.returned v) w' := ⟨hdf, x, k1, v, h', φ', x, rfl, g1, k2, g4, g5, k3⟩
    rcases ho with rfl | rfl
    · exact fin
    · exact fin
theorem mixed : Tryz.prog.follows .mixedOrders = true := by kernel_rfl
theorem boolV_true {v : V} {K : Bool → Bool} (h : boolV v K = true) : ∃ t, v = .bool t ∧ K t = true := by
  cases v <;> first | exact ⟨_, rfl, h⟩ | exact absurd (show false = true from h) (by simp)
set_option maxRecDepth 100000 in
set_option maxHeartbeats 1600000 in
theorem slow_ok {C : CallH} (hC : CallOk Tryz.prog C) (fuel : Nat) : FnOk Tryz.prog 190 (exSlow Tryz.prog fuel 275 189 276 277 C) := by
  intro vs h K hk B φ w args hr hv
  unfold exSlow at hk
  obtain ⟨o, fv, rfl, hk1⟩ := l2_true hk
  clear hk
  obtain ⟨b, off, rfl, hk2⟩ := ptrA_true hk1
  clear hk1
  obtain ⟨x, xf, rfl, hx, hxf⟩ := args_two hv
  obtain ⟨L, hL, rfl⟩ := hx.ptr_inv
  have hlock := calls_of hC Tryz.func275 (by kernel_rfl) (by kernel_rfl) (by decide) hk2 (args := #[.pointer (some ⟨L.blk, L.base + (off + 1), none⟩)]) hr (.cons (.ptr hL) .nil)
  refine .inl ⟨enters_of Tryz.func190 (by kernel_rfl) rfl _ _, ?_⟩
  have hnot : ∀ (x : Bool) (w : World), (Op.unary .not (.bool x)).run Tryz.prog w = .ok (.bool (!x)) w := fun _ _ => rfl
  go_enter_defers Tryz.func190, Tryz.ntmps190
  go_wp2_with (go_at_call 275; refine hlock.mono ?_; rintro e w1 ⟨v1, h1, φ1, x1, rfl, hx1, _, hr1, hb1, hk1⟩)
  have hld := calls_of hC Tryz.func189 (by kernel_rfl) (by kernel_rfl) (by decide) hk1 (args := #[.pointer (some ⟨L.blk, L.base + off, none⟩)]) hr1 (.cons (.ptr (hx1 _ _ hL)) .nil)
  refine hld.mono ?_
  rintro e w2 ⟨v2, h2, φ2, x2, rfl, hx2, hv2, hr2, hb2, hk3⟩
  obtain ⟨t, rfl, hk4⟩ := boolV_true hk3
  clear hk3
  have := hv2.bool_inv; subst this
  cases t with
  | true =>
    go_wp2
    have hun := bodyK_callsD (u := .returning) mixed hC hk4 (args := #[.pointer (some ⟨L.blk, L.base + (off + 1), none⟩)]) hr2 (.cons (.ptr (hx2 _ _ (hx1 _ _ hL))) .nil)
    refine leaves_cons (f := 276) (args := #[.pointer (some ⟨L.blk, L.base + (off + 1), none⟩)]) (by simp) (by simp [go_sem, Nat.add_assoc]) ?_
    refine hun.2.mono ?_
    rintro e u' w3 ⟨rfl, v3, h3, φ3, x3, rfl, hx3, hv3, hr3, hb3, hk6⟩
    refine ⟨.tuple #[], ?_, .tup [], h3, φ3, .tuple #[], rfl, (hx1.trans hx2).trans hx3, .tup .nil, hr3, (hb1.trans hb2).trans hb3, hk6⟩
    simp [results, Tryz.results190]
  | false =>
    obtain ⟨f, first, cap, rfl, hk5⟩ := funcA_true hk4
    clear hk4
    cases hxf with | @func _ _ _ xs ys h3 h4 =>
    obtain ⟨hne, hk6⟩ := notY hk5
    have hfc := hC.fn f _ h2 _ hne hk6 B φ2 w2 (xs ++ ys) hr2 (by rw [Array.toList_append]; exact ((h3.mono hx1).mono hx2).append ((h4.mono hx1).mono hx2))
    go_wp2
    have rest : ∀ (T : Array Value) (x : Value) w3, Post B φ2 w2 (fun _ h => bodyK Tryz.prog true C fuel 277 [.ptr b off, .bool true] h fun _ h => bodyK Tryz.prog true C fuel 276 [.ptr b (off + 1)] h fun _ h => K (.tup []) h) (.returned x) w3 →
        Leaves Tryz.prog Tryz.f190 T (Post B φ w K) [{ target := .fn (.func 277) #[], args := #[.pointer (some ⟨L.blk, L.base + off, none⟩), .bool true] }, { target := .fn (.func 276) #[], args := #[.pointer (some ⟨L.blk, L.base + off + 1, none⟩)] }] .returning w3 := by
      rintro T x w3 ⟨v3, h3, φ3, x3, hxe, hx3, hv3, hr3, hb3, hk7⟩
      have hst := bodyK_callsD (u := .returning) mixed hC hk7 (args := #[.pointer (some ⟨L.blk, L.base + off, none⟩), .bool true]) hr3 (.cons (.ptr (hx3 _ _ (hx2 _ _ (hx1 _ _ hL)))) (.cons (.bool true) .nil))
      refine leaves_cons (f := 277) (args := #[.pointer (some ⟨L.blk, L.base + off, none⟩), .bool true]) (by simp) (by simp [go_sem]) ?_
      refine hst.2.mono ?_
      rintro e u' w4 ⟨rfl, v4, h4', φ4, x4, rfl, hx4, hv4, hr4, hb4, hk8⟩
      have hun := bodyK_callsD (u := .returning) mixed hC hk8 (args := #[.pointer (some ⟨L.blk, L.base + (off + 1), none⟩)]) hr4 (.cons (.ptr (hx4 _ _ (hx3 _ _ (hx2 _ _ (hx1 _ _ hL))))) .nil)
      refine leaves_cons (f := 276) (args := #[.pointer (some ⟨L.blk, L.base + (off + 1), none⟩)]) (by simp [settle]) (by simp [go_sem, Nat.add_assoc]) ?_
      refine hun.2.mono ?_
      rintro e u' w5 ⟨rfl, v5, h5, φ5, x5, rfl, hx5, hv5, hr5, hb5, hk9⟩
      refine ⟨.tuple #[], ?_, .tup [], h5, φ5, .tuple #[], rfl, (((hx1.trans hx2).trans hx3).trans hx4).trans hx5, .tup .nil, hr5, (((hb1.trans hb2).trans hb3).trans hb4).trans hb5, hk9⟩
      simp [results, Tryz.results190]
    rcases hfc with ⟨hent, hcl⟩ | ⟨x, w3, hval, hpost⟩
    · rw [hent]
      show Calls _ _ _ _ _
      refine hcl.mono ?_
      rintro e w3 ⟨v3, h3, φ3, x3, rfl, hpost⟩
      go_wp2
      exact rest _ _ _ ⟨v3, h3, φ3, x3, rfl, hpost⟩
    · rw [hval]
      go_wp2
      exact rest _ _ _ hpost
end Go.Ev
end
section
namespace Go.Ev
open Go.Proofs
set_option maxRecDepth 100000
theorem fn85 : FnOk Tryz.prog 85 exCount := ext_ok Tryz.func85 (by kernel_rfl) (by kernel_rfl) (by kernel_rfl) (by kernel_rfl) exCount_ok
theorem fn89 : FnOk Tryz.prog 89 exIndexByte := ext_ok Tryz.func89 (by kernel_rfl) (by kernel_rfl) (by kernel_rfl) (by kernel_rfl) exIndexByte_ok
theorem fn270 : FnOk Tryz.prog 270 exCompare := ext_ok Tryz.func270 (by kernel_rfl) (by kernel_rfl) (by kernel_rfl) (by kernel_rfl) exCompare_ok
theorem fn423 : FnOk Tryz.prog 423 exAdd64 := ext_ok Tryz.func423 (by kernel_rfl) (by kernel_rfl) (by kernel_rfl) (by kernel_rfl) exAdd64_ok
theorem fn51 : FnOk Tryz.prog 51 exSame := ext_ok Tryz.func51 (by kernel_rfl) (by kernel_rfl) (by kernel_rfl) (by kernel_rfl) exSame_ok
theorem fn52 : FnOk Tryz.prog 52 (exAdd .i64) := ext_ok Tryz.func52 (by kernel_rfl) (by kernel_rfl) (by kernel_rfl) (by kernel_rfl) (exAdd_ok .i64)
theorem fn274 : FnOk Tryz.prog 274 (exLoad .u32) := ext_ok Tryz.func274 (by kernel_rfl) (by kernel_rfl) (by kernel_rfl) (by kernel_rfl) (exLoad_ok .u32)
theorem fn364 : FnOk Tryz.prog 364 exStore := ext_ok Tryz.func364 (by kernel_rfl) (by kernel_rfl) (by kernel_rfl) (by kernel_rfl) exStore_ok
theorem fn447 : FnOk Tryz.prog 447 (exCas .i32) := ext_ok Tryz.func447 (by kernel_rfl) (by kernel_rfl) (by kernel_rfl) (by kernel_rfl) (exCas_ok .i32)
theorem fn452 : FnOk Tryz.prog 452 (exAdd .i32) := ext_ok Tryz.func452 (by kernel_rfl) (by kernel_rfl) (by kernel_rfl) (by kernel_rfl) (exAdd_ok .i32)
theorem fn446 : FnOk Tryz.prog 446 exNothing := ext_ok Tryz.func446 (by kernel_rfl) (by kernel_rfl) (by kernel_rfl) (by kernel_rfl) (exMark0_ok .disable)
theorem fn448 : FnOk Tryz.prog 448 exNothing := ext_ok Tryz.func448 (by kernel_rfl) (by kernel_rfl) (by kernel_rfl) (by kernel_rfl) (exMark0_ok .enable)
theorem fn449 : FnOk Tryz.prog 449 exMark := ext_ok Tryz.func449 (by kernel_rfl) (by kernel_rfl) (by kernel_rfl) (by kernel_rfl) (exMark_ok .acquire)
theorem fn451 : FnOk Tryz.prog 451 exMark := ext_ok Tryz.func451 (by kernel_rfl) (by kernel_rfl) (by kernel_rfl) (by kernel_rfl) (exMark_ok .releaseMerge)
theorem fn467 : FnOk Tryz.prog 467 exClone := ext_ok Tryz.func467 (by kernel_rfl) (by kernel_rfl) (by kernel_rfl) (by kernel_rfl) exClone_ok
theorem fn309 : FnOk Tryz.prog 309 (exMakeNoZero 5) := ext_ok Tryz.func309 (by kernel_rfl) (by kernel_rfl) (by kernel_rfl) (by kernel_rfl) (exMakeNoZero_ok (ps := #[3]) (t := 56) Tryz.underlying56)
end Go.Ev
end
section
namespace Go.Ev
open Go.Proofs
set_option maxRecDepth 100000
noncomputable def findG (l : List (Nat × Ex)) (f : Nat) : Option Ex := List.rec (motive := fun _ => Option Ex) none (fun p _ ih => Bool.rec (motive := fun _ => Option Ex) ih (some p.2) (Nat.beq p.1 f)) l
theorem findG_ok {P : Program} : ∀ {l : List (Nat × Ex)} {f : Nat} {g : Ex}, (∀ p ∈ l, FnOk P p.1 p.2) → findG l f = some g → FnOk P f g
  | [], f, g, hl, h => absurd h (by simp [findG])
  | p :: l, f, g, hl, h => by
    have h' : Bool.rec (motive := fun _ => Option Ex) (findG l f) (some p.2) (Nat.beq p.1 f) = some g := h
    cases hb : Nat.beq p.1 f with
    | true =>
      rw [hb] at h'
      have h' : some p.2 = some g := h'
      simp only [Option.some.injEq] at h'; subst h'
      rw [← Nat.eq_of_beq_eq_true hb]
      exact hl p (by simp)
    | false => rw [hb] at h'; exact findG_ok (fun q hq => hl q (List.mem_cons_of_mem _ hq)) h'
noncomputable def orcOf (l : List (Nat × Ex)) : Orc := fun f => Option.rec (motive := fun _ => Option (CallH → Ex)) none (fun g => some fun _ => g) (findG l f)
theorem orcOf_ok {P : Program} {l : List (Nat × Ex)} (hl : ∀ p ∈ l, FnOk P p.1 p.2) : OrcOk P (orcOf l) := by
  intro f g h C hC
  unfold orcOf at h
  cases hf : findG l f with
  | none => rw [hf] at h; exact absurd h (by simp)
  | some g' =>
    rw [hf] at h
    have h : some (fun _ : CallH => g') = some g := h
    simp only [Option.some.injEq] at h; subst h
    exact findG_ok hl hf
noncomputable def extL : List (Nat × Ex) := [(85, exCount), (89, exIndexByte), (270, exCompare), (423, exAdd64), (51, exSame), (52, exAdd .i64), (274, exLoad .u32), (364, exStore), (447, exCas .i32), (452, exAdd .i32), (446, exNothing), (448, exNothing), (449, exMark), (451, exMark), (467, exClone), (309, exMakeNoZero 5)]
theorem extL_ok : ∀ p ∈ extL, FnOk Tryz.prog p.1 p.2 := by
  intro p hp
  simp only [extL, List.mem_cons, List.not_mem_nil, or_false] at hp
  rcases hp with rfl | rfl | rfl | rfl | rfl | rfl | rfl | rfl | rfl | rfl | rfl | rfl | rfl | rfl | rfl | rfl
  · exact fn85
  · exact fn89
  · exact fn270
  · exact fn423
  · exact fn51
  · exact fn52
  · exact fn274
  · exact fn364
  · exact fn447
  · exact fn452
  · exact fn446
  · exact fn448
  · exact fn449
  · exact fn451
  · exact fn467
  · exact fn309
noncomputable def runE (f : FuncId) (vs : List V) (h : H) (K : V → H → Bool) : Bool := callK Tryz.prog (orcOf extL) 100000 50 f vs h K
end Go.Ev
end
section
namespace Go.Ev
open Go.Proofs
noncomputable def eqVs (l m : List V) : Bool := eqVf.eqL 1000 l m
noncomputable def exTab (tbl : List (List V × V)) : Ex := fun vs h K => List.rec (motive := fun _ => Bool) false (fun p _ ih => Bool.rec (motive := fun _ => Bool) ih (K p.2 h) (eqVs vs p.1)) tbl
def AllT (C : CallH) (f : FuncId) : List (List V × V) → Prop
  | [] => True
  | p :: l => C f p.1 hEmp (isV p.2) = true ∧ AllT C f l
noncomputable def flatT2 (l : List (List V × V)) : Bool := List.rec (motive := fun _ => Bool) true (fun p _ ih => flatV.flatL 1000 p.1 && flatV 1000 p.2 && ih) l
theorem exTab_true {tbl : List (List V × V)} {vs : List V} {h : H} {K : V → H → Bool} : ∀ {C : CallH} {f : FuncId}, AllT C f tbl → flatT2 tbl = true → exTab tbl vs h K = true →
    ∃ v, flatV.flatL 1000 vs = true ∧ flatV 1000 v = true ∧ C f vs hEmp (isV v) = true ∧ K v h = true := by
  intro C f
  induction tbl with
  | nil => intro _ _ hk; exact absurd (show false = true from hk) (by simp)
  | cons p l ih =>
    intro ha hf hk
    have hf : (flatV.flatL 1000 p.1 && flatV 1000 p.2 && flatT2 l) = true := hf
    simp only [Bool.and_eq_true] at hf
    have hk : Bool.rec (motive := fun _ => Bool) (exTab l vs h K) (K p.2 h) (eqVs vs p.1) = true := hk
    cases hb : eqVs vs p.1 with
    | true =>
      rw [hb] at hk
      have := (eqVf_true 1000).2 _ _ hb
      subst this
      exact ⟨p.2, hf.1.1, hf.1.2, ha.1, hk⟩
    | false => rw [hb] at hk; exact ih ha.2 hf.2 hk
theorem exTab_ok {P : Program} {C : CallH} (hC : CallOk P C) {f : FuncId} (hne : f ≠ YLD) {tbl : List (List V × V)} (hf : flatT2 tbl = true) (ha : AllT C f tbl) : FnOk P f (exTab tbl) := by
  intro vs h K hk B φ w args hr hv
  obtain ⟨v, h1, h2, h3, h4⟩ := exTab_true ha hf hk
  exact closed_ok hC hne h1 h2 h3 h4 hr hv
end Go.Ev
end
section
namespace Go.Ev
open Go.Proofs
theorem HR0.mappedAtB {B : Nat} {φ : Phi} {h : H} {w : World} {b g bs cs : Nat} {k : Blk} (hr : HR0 B φ h w) (hn : φ b = none)
    (hb : h.bl.get b = some k) (hre : ∀ G, h.gr.get k.g = some G → k.pos + k.n ≤ G.maxe) (hlo : h.gr.get k.g = none → b = k.g) (hB : B ≤ g) (hg : g < w.heap.size) (hne : ∀ x L, φ x = some L → L.blk ≠ g)
    (hty : ∀ e, k.ty = some e → ∃ c fr, w.heap[g]? = some (.cells c e.1 fr) ∧ (e.2 = true → bs = 0 ∧ c.size = k.n)) (hd : Holds φ w ⟨g, bs, cs⟩ k.n k.d) : HR0 B (φ.put b ⟨g, bs, cs⟩) h w := by
  have hx : Ext φ (φ.put b ⟨g, bs, cs⟩) := Phi.ext_put hn
  refine ⟨hr.size, ?_, ?_, ?_, ?_, ?_, hr.last, ?_, hr.grp, hr.fresh, hr.grn, ?_⟩
  rotate_right
  · intro x L k' el hL hk' ht
    by_cases e : x = b
    · subst e
      rw [Phi.put_self] at hL
      simp only [Option.some.injEq] at hL; subst hL
      rw [hb] at hk'; simp only [Option.some.injEq] at hk'; subst hk'
      obtain ⟨c, fr, h0, h1⟩ := hty el ht
      exact ⟨c, fr, h0, h1⟩
    · rw [Phi.put_ne φ _ e] at hL; exact hr.elt x L k' el hL hk' ht
  · intro x L hL
    by_cases e : x = b
    · subst e
      rw [Phi.put_self] at hL
      simp only [Option.some.injEq] at hL; subst hL
      exact ⟨hr.fresh _ _ hb, hB, hg⟩
    · rw [Phi.put_ne φ _ e] at hL; exact hr.dom x L hL
  · intro x L k' hL hk' hl
    by_cases e : x = b
    · subst e
      rw [Phi.put_self] at hL
      simp only [Option.some.injEq] at hL; subst hL
      rw [hb] at hk'; simp only [Option.some.injEq] at hk'; subst hk'
      exact hd.mono hx
    · rw [Phi.put_ne φ _ e] at hL; exact (hr.hold x L k' hL hk' hl).mono hx
  · intro x y L L' k1 k2 h1 h2 h3 h4 h5 h6 h7
    by_cases e : x = b
    · by_cases e' : y = b
      · subst e; subst e'
        rw [h3] at h4; simp only [Option.some.injEq] at h4; subst h4
        exact absurd rfl h7
      · rw [Phi.put_ne φ _ e'] at h2
        subst e
        rw [Phi.put_self] at h1
        simp only [Option.some.injEq] at h1; subst h1
        exact (hne y L' h2).symm
    · rw [Phi.put_ne φ _ e] at h1
      by_cases e' : y = b
      · subst e'
        rw [Phi.put_self] at h2
        simp only [Option.some.injEq] at h2; subst h2
        exact hne x L h1
      · rw [Phi.put_ne φ _ e'] at h2
        exact hr.sep x y L L' k1 k2 h1 h2 h3 h4 h5 h6 h7
  · intro x y L L' k1 k2 h1 h2 h3 h4 h5 h6 h7 h8
    by_cases e : x = b
    · by_cases e' : y = b
      · subst e; subst e'
        rw [h3] at h4; simp only [Option.some.injEq] at h4; subst h4
        rw [h1] at h2; simp only [Option.some.injEq] at h2; subst h2
        rfl
      · rw [Phi.put_ne φ _ e'] at h2
        subst e
        rw [Phi.put_self] at h1
        simp only [Option.some.injEq] at h1; subst h1
        exact absurd h8.symm (hne y L' h2)
    · rw [Phi.put_ne φ _ e] at h1
      by_cases e' : y = b
      · subst e'
        rw [Phi.put_self] at h2
        simp only [Option.some.injEq] at h2; subst h2
        exact absurd h8 (hne x L h1)
      · rw [Phi.put_ne φ _ e'] at h2
        exact hr.aln x y L L' k1 k2 h1 h2 h3 h4 h5 h6 h7 h8
  · intro x L k1 G h1 h2 h3 h4
    by_cases e : x = b
    · subst e
      rw [hb] at h2; simp only [Option.some.injEq] at h2; subst h2
      exact hre G h4
    · rw [Phi.put_ne φ _ e] at h1; exact hr.reach x L k1 G h1 h2 h3 h4
  · intro x L k1 h1 h2 h3
    by_cases e : x = b
    · subst e
      rw [hb] at h2; simp only [Option.some.injEq] at h2; subst h2
      exact hlo h3
    · rw [Phi.put_ne φ _ e] at h1; exact hr.lone x L k1 h1 h2 h3
theorem HR.newAtB {B : Bd} {φ : Phi} {h h' : H} {w w' : World} {k : Blk} {g bs cs : Nat} (hr : HR B φ h w) (ha : Added h k h') (hs : w.heap.size ≤ w'.heap.size) (hb : ∀ j, j < w.heap.size → w'.heap[j]? = w.heap[j]?)
    (hg : w.heap.size ≤ g) (hg' : g < w'.heap.size) (hty : ∀ e, k.ty = some e → ∃ c fr, w'.heap[g]? = some (.cells c e.1 fr) ∧ (e.2 = true → bs = 0 ∧ c.size = k.n)) (hd : Holds φ w' ⟨g, bs, cs⟩ k.n k.d) : HR B (φ.put h.next ⟨g, bs, cs⟩) h' w' := by
  have hk := (hr.keep hs hb).added ha
  have hgr : h'.gr.get k.g = none := by rw [ha.gr, ha.g]; exact hr.noGrp
  refine ⟨hk.toHR0.mappedAtB (hr.unmapped (Nat.le_refl _)) ha.at_ (fun G hG => by rw [hgr] at hG; exact absurd hG (by simp)) (fun _ => ha.g.symm) (Nat.le_trans hr.size hg) hg' (fun x L hx => ?_) hty hd, fun b k' hu => ?_⟩
  · have := (hr.dom x L hx).2.2; omega
  · obtain ⟨h1, h2⟩ := hk.res b k' hu
    refine ⟨?_, h2⟩
    have : b ≠ h.next := fun e => by rw [e, hr.noU (Nat.le_refl _)] at hu; simp at hu
    rw [Phi.put_ne φ _ this]; exact h1
structure RowT where
  args : List V
  n : Nat
  code : Nat
  cap : Option Nat
noncomputable def ocEq (a b : Option Nat) : Bool := match a, b with | none, none => true | some a, some b => Nat.beq a b | _, _ => false
theorem ocEq_true {a b : Option Nat} (h : ocEq a b = true) : a = b := by
  cases a <;> cases b <;> simp_all [ocEq]
noncomputable def isRow (n code : Nat) (oc : Option Nat) : V → H → Bool := fun v h => match v with
  | .slice b off n' e oc' => bif Nat.beq off 0 && Nat.beq n' n && Nat.beq e 1 && ocEq oc' oc then blkK h b fun k => (match k.d with
    | .bytes c => Nat.ble n k.n && Nat.beq (Nat.mod (Nat.shiftRight c (8 * (k.n - n))) (Nat.pow 256 n)) code
    | _ => false) else false
  | _ => false
noncomputable def exRowT (tbl : List RowT) : Ex := fun vs h K => List.rec (motive := fun _ => Bool) false (fun p _ ih => Bool.rec (motive := fun _ => Bool) ih (addK h p.n (.bytes p.code) none fun h' => K (.slice h.next 0 p.n 1 p.cap) h') (eqVs vs p.args)) tbl
def AllR (C : CallH) (f : FuncId) : List RowT → Prop
  | [] => True
  | p :: l => C f p.args hEmp (isRow p.n p.code p.cap) = true ∧ AllR C f l
noncomputable def flatR (l : List RowT) : Bool := List.rec (motive := fun _ => Bool) true (fun p _ ih => flatV.flatL 1000 p.args && Nat.blt 0 p.n && ih) l
theorem exRowT_true {tbl : List RowT} {vs : List V} {h : H} {K : V → H → Bool} : ∀ {C : CallH} {f : FuncId}, AllR C f tbl → flatR tbl = true → exRowT tbl vs h K = true →
    ∃ p : RowT, vs = p.args ∧ flatV.flatL 1000 vs = true ∧ 0 < p.n ∧ C f vs hEmp (isRow p.n p.code p.cap) = true ∧ (addK h p.n (.bytes p.code) none fun h' => K (.slice h.next 0 p.n 1 p.cap) h') = true := by
  intro C f
  induction tbl with
  | nil => intro _ _ hk; exact absurd (show false = true from hk) (by simp)
  | cons p l ih =>
    intro ha hf hk
    have hf : (flatV.flatL 1000 p.args && Nat.blt 0 p.n && flatR l) = true := hf
    simp only [Bool.and_eq_true] at hf
    have hk : Bool.rec (motive := fun _ => Bool) (exRowT l vs h K) (addK h p.n (.bytes p.code) none fun h' => K (.slice h.next 0 p.n 1 p.cap) h') (eqVs vs p.args) = true := hk
    cases hb : eqVs vs p.args with
    | true =>
      rw [hb] at hk
      have := (eqVf_true 1000).2 _ _ hb
      subst this
      exact ⟨p, rfl, hf.1.1, blt_iff.1 hf.1.2, ha.1, hk⟩
    | false => rw [hb] at hk; exact ih ha.2 hf.2 hk
theorem exRowT_ok {P : Program} {C : CallH} (hC : CallOk P C) {f : FuncId} (hne : f ≠ YLD) {tbl : List RowT} (hf : flatR tbl = true) (hall : AllR C f tbl) : FnOk P f (exRowT tbl) := by
  intro vs h K hk B φ w args hr hv
  obtain ⟨p, _, h1, hn0, hrun, hk1⟩ := exRowT_true hall hf hk
  clear hk
  obtain ⟨h', ha, hkF⟩ := addK_true hk1
  clear hk1
  have key : ∀ e' w', Post ⟨w.heap.size, freeU⟩ (fun _ => none) w (isRow p.n p.code p.cap) e' w' → Post B φ w K e' w' := by
    rintro e' w' ⟨u, h2, φ', x, he, _, hx, hr2, hb2, h3⟩
    unfold isRow at h3
    split at h3
    rotate_left
    · exact absurd h3 (by simp)
    rename_i b off n' e oc'
    obtain ⟨h0, h4⟩ := bif_true h3
    simp only [Bool.and_eq_true] at h0
    obtain ⟨⟨⟨a1, a2⟩, a3⟩, a4⟩ := h0
    have a1 := Nat.eq_of_beq_eq_true a1
    have a2 := Nat.eq_of_beq_eq_true a2
    have a3 := Nat.eq_of_beq_eq_true a3
    have a4 := ocEq_true a4
    obtain ⟨k, hb, hl, h5⟩ := blkK_true h4
    split at h5
    rotate_left
    · exact absurd h5 (by simp)
    rename_i cd hd
    simp only [Bool.and_eq_true] at h5
    have h6 := ble_of h5.1
    have h7 := Nat.eq_of_beq_eq_true h5.2
    rcases hx.slice_inv with ⟨L, cap, hL, hcs, hlen, hoc, rfl⟩ | ⟨a, L, hL, hl0, hoc, rfl⟩
    rotate_left
    · omega
    have hh := hr2.hold b L k hL hb hl
    rw [hd] at hh
    obtain ⟨c, el, fr, g1, g2, g3, g4, g5, g6⟩ := hh
    have hgl : L.blk < w'.heap.size := (Array.getElem?_eq_some_iff.1 g1).1
    have hge : w.heap.size ≤ L.blk := (hr2.dom b L hL).2.1
    have hfin := hr.newAtB (k := ⟨h.next, 0, p.n, .bytes p.code, none⟩) (g := L.blk) (bs := L.base) (cs := L.cs) ha hb2.size (fun j hj => hb2.block j hj) hge hgl (fun e3 he3 => by simp at he3)
      ⟨c, el, fr, g1, g2, g3, by simp only []; omega, by rw [← h7]; exact Nat.mod_lt _ (Nat.pow_pos (by decide)), by
        simp only []
        have e1 : (c.toList.drop L.base).take p.n = ((c.toList.drop L.base).take k.n).take p.n := by rw [List.take_take, Nat.min_eq_left h6]
        rw [e1, g6, ← h7, ← List.map_take]
        congr 1
        have := dec_slice k.n 0 p.n cd (Nat.zero_le _) h6
        rw [List.drop_zero, Nat.sub_zero] at this
        rw [this, shr_eq]
        exact (dec_mod _ _).symm⟩
    refine ⟨_, h', _, _, he, Phi.ext_put (hr.unmapped (Nat.le_refl _)), ?_, hfin, hb2.old hr.size, hkF⟩
    have := VR.slice (φ := φ.put h.next ⟨L.blk, L.base, L.cs⟩) (b := h.next) (off := 0) (e := 1) (oc := p.cap) (L := ⟨L.blk, L.base, L.cs⟩) (Phi.put_self _ _ _) (cap := cap) (len := p.n) (by simp only []; rw [a1, a3] at hcs; exact hcs) (by omega) (fun c hc => hoc c (by rw [a4]; exact hc))
    rw [a1, a2]
    exact this
  rcases hC.fn f vs hEmp _ hne hrun ⟨w.heap.size, freeU⟩ (fun _ => none) w args (HR.empty w) ((flat_rel 1000).2 _ h1 φ _ _ hv) with ⟨g1, g2⟩ | ⟨x, w', g1, g2⟩
  · exact .inl ⟨g1, g2.mono fun e' w' => key e' w'⟩
  · exact .inr ⟨x, w', g1, key _ _ g2⟩
end Go.Ev
end
section
namespace Go.Ev
open Go.Proofs
noncomputable def exVar (e : TypeId) (n : Nat) (l : List V) : Ex := fun vs h K => match vs with
  | [] => listK l 0 .nil fun t => addK h n (.cells t) (some (e, true)) fun h' => K (.ptr h.next 0) h'
  | _ => false
noncomputable def isVar (e : TypeId) (n : Nat) (l : List V) : V → H → Bool := fun v h => match v with
  | .ptr b off => bif Nat.beq off 0 then blkK h b fun k => (match k.ty with
    | some (e', true) => bif Nat.beq e' e && Nat.beq k.n n && !k.d.isMap then rowK k.n k.d n 0 fun l' => eqVs l' l else false
    | _ => false) else false
  | _ => false
theorem exVar_ok {P : Program} {C : CallH} (hC : CallOk P C) {f : FuncId} (hne : f ≠ YLD) {e : TypeId} {n : Nat} {l : List V} (hf : flatV.flatL 1000 l = true) (hn : l.length = n) (hrun : C f [] hEmp (isVar e n l) = true) : FnOk P f (exVar e n l) := by
  intro vs h K hk B φ w args hr hv
  unfold exVar at hk
  split at hk
  rotate_left
  · exact absurd hk (by simp)
  obtain ⟨t, ht, hk1⟩ := listK_true hk
  clear hk
  obtain ⟨h', ha, hkF⟩ := addK_true hk1
  clear hk1
  have hargs : VRs (fun _ => none) [] args.toList := by
    generalize args.toList = al at hv
    cases hv; exact .nil
  have key : ∀ e' w', Post ⟨w.heap.size, freeU⟩ (fun _ => none) w (isVar e n l) e' w' → Post B φ w K e' w' := by
    rintro e' w' ⟨u, h2, φ', x, he, _, h1, hr2, hb2, h3⟩
    unfold isVar at h3
    split at h3
    rotate_left
    · exact absurd h3 (by simp)
    rename_i b off
    obtain ⟨h0, h4⟩ := bif_true h3
    have h0 := Nat.eq_of_beq_eq_true h0
    obtain ⟨k, hb, hl, h5⟩ := blkK_true h4
    split at h5
    rotate_left
    · exact absurd h5 (by simp)
    rename_i e2 hty
    obtain ⟨h6, h7⟩ := bif_true h5
    simp only [Bool.and_eq_true] at h6
    obtain ⟨⟨h6, h8⟩, h9⟩ := h6
    have h6 := Nat.eq_of_beq_eq_true h6
    have h8 := Nat.eq_of_beq_eq_true h8
    obtain ⟨L, hL, rfl⟩ := h1.ptr_inv
    obtain ⟨c, fr, q1, q2⟩ := hr2.elt b L k _ hL hb hty
    obtain ⟨q3, q4⟩ := q2 rfl
    have hh := hr2.hold b L k hL hb hl
    obtain ⟨c', el', fr', p1, p2, p3, p4⟩ := hh.cells (by simpa using h9)
    rw [q1] at p1
    simp only [Option.some.injEq, Obj.cells.injEq] at p1
    obtain ⟨rfl, rfl, rfl⟩ := p1
    obtain ⟨l', xs, r1, r2, r3, r4⟩ := rowK_sound hh (by omega) h7
    have := (eqVf_true 1000).2 _ _ r4
    subst this
    have hgl : L.blk < w'.heap.size := (Array.getElem?_eq_some_iff.1 q1).1
    have hge : w.heap.size ≤ L.blk := (hr2.dom b L hL).2.1
    have hxs : VRs φ l' xs := (flat_rel 1000).2 _ hf _ φ _ r2
    subst h6
    subst h0
    have hfin := hr.newAt (k := ⟨h.next, 0, n, .cells t, some (e2, true)⟩) (g := L.blk) (cs := c.size) ha hb2.size (fun j hj => hb2.block j hj) hge hgl (fun e3 he3 => by
        simp only [Option.some.injEq] at he3; subst he3; exact ⟨c, fr, q1, fun _ => by rw [q4]; exact h8⟩)
      ⟨c, _, fr, q1, rfl, by rw [p2]; exact p3, by simp only []; omega, fun j v hj hv => by
        rw [ht, if_pos (by simp at hj ⊢; omega)] at hv
        simp only [Nat.sub_zero] at hv
        obtain ⟨y, hy, hyr⟩ := hxs.get hv
        refine ⟨y, ?_, hyr⟩
        have := r3 j y hy
        rw [q3] at this
        rw [cell_of q1] at this
        simpa using this⟩
    refine ⟨_, h', _, _, he, Phi.ext_put (hr.unmapped (Nat.le_refl _)), ?_, hfin, hb2.old hr.size, hkF⟩
    rw [q3]
    exact .ptr (φ := φ.put h.next ⟨L.blk, 0, c.size⟩) (L := ⟨L.blk, 0, c.size⟩) (Phi.put_self _ _ _)
  rcases hC.fn f [] hEmp _ hne hrun ⟨w.heap.size, freeU⟩ (fun _ => none) w args (HR.empty w) hargs with ⟨h1, h2⟩ | ⟨x, w', h1, h2⟩
  · exact .inl ⟨h1, h2.mono fun e' w' => key e' w'⟩
  · exact .inr ⟨x, w', h1, key _ _ h2⟩
end Go.Ev
end
section
namespace Go.Ev
open Go.Proofs
structure Mem where
  vs : List V
  h0 : H
  v1 : V
  h1 : H
def MemOk (P : Program) (f : FuncId) (m : Mem) : Prop := FnOk P f (exMemo m.vs m.h0 m.v1 m.h1)
noncomputable def exMemos (l : List Mem) : Ex := fun vs h K => List.rec (motive := fun _ => Bool) false (fun m _ ih => Bool.rec (motive := fun _ => Bool) ih (K m.v1 m.h1) (andK (eqLs eqV1 vs m.vs) (eqH h m.h0))) l
theorem exMemos_ok {P : Program} {f : FuncId} : ∀ {l : List Mem}, (∀ m ∈ l, MemOk P f m) → FnOk P f (exMemos l)
  | [], _ => fun vs h K hk => absurd (show false = true from hk) (by simp)
  | m :: l, hl => by
    intro vs h K hk B φ w args hr hv
    have hk' : Bool.rec (motive := fun _ => Bool) (exMemos l vs h K) (K m.v1 m.h1) (andK (eqLs eqV1 vs m.vs) (eqH h m.h0)) = true := hk
    cases hb : andK (eqLs eqV1 vs m.vs) (eqH h m.h0) with
    | false => rw [hb] at hk'; exact exMemos_ok (fun x hx => hl x (List.mem_cons_of_mem _ hx)) vs h K hk' B φ w args hr hv
    | true =>
      rw [hb] at hk'
      refine hl m (by simp) vs h K ?_ B φ w args hr hv
      show Bool.rec (motive := fun _ => Bool) false (K m.v1 m.h1) (andK (eqLs eqV1 vs m.vs) (eqH h m.h0)) = true
      rw [hb]; exact hk'
noncomputable def orcSt (l : List (Nat × Ex)) : Orc := fun f => Bool.rec (motive := fun _ => Option (CallH → Ex)) (orcOf l f) (some (exSlow Tryz.prog 100000 275 189 276 277)) (Nat.beq f 190)
theorem orcSt_ok {l : List (Nat × Ex)} (hl : ∀ p ∈ l, FnOk Tryz.prog p.1 p.2) : OrcOk Tryz.prog (orcSt l) := by
  intro f g h C hC
  have h' : Bool.rec (motive := fun _ => Option (CallH → Ex)) (orcOf l f) (some (exSlow Tryz.prog 100000 275 189 276 277)) (Nat.beq f 190) = some g := h
  cases hb : Nat.beq f 190 with
  | false => rw [hb] at h'; exact orcOf_ok hl f g h' C hC
  | true =>
    rw [hb] at h'
    have h' : some (exSlow Tryz.prog 100000 275 189 276 277) = some g := h'
    simp only [Option.some.injEq] at h'; subst h'
    rw [Nat.eq_of_beq_eq_true hb]
    exact slow_ok hC 100000
noncomputable def runS (l : List (Nat × Ex)) (f : FuncId) (vs : List V) (h : H) (K : V → H → Bool) : Bool := bodyK Tryz.prog false (callK Tryz.prog (orcSt l) 100000 1000) 100000 f vs h K
theorem runS_mem {l : List (Nat × Ex)} (hl : ∀ p ∈ l, FnOk Tryz.prog p.1 p.2) {f : FuncId} {m : Mem} (hrun : runS l f m.vs m.h0 (isVH m.v1 m.h1) = true) (hdom : domT m.h0.bl m.h1.bl = true) : MemOk Tryz.prog f m := by
  intro vs h K hk B φ w args hr hv
  have hk' : Bool.rec (motive := fun _ => Bool) false (K m.v1 m.h1) (andK (eqLs eqV1 vs m.vs) (eqH h m.h0)) = true := hk
  cases hb : andK (eqLs eqV1 vs m.vs) (eqH h m.h0) with
  | false => rw [hb] at hk'; exact absurd hk' (by simp)
  | true =>
    rw [hb] at hk'
    have hk' : K m.v1 m.h1 = true := hk'
    obtain ⟨e1, e2⟩ := andK_true hb
    have e1 := eqLs_true (fun _ _ => eqV1_true) e1
    have e2 := eqH_true e2
    subst e1; subst e2
    obtain ⟨g1, g2⟩ := bodyK_calls mixed (callK_ok Tryz.prog mixed (orcSt l) (orcSt_ok hl) 100000 1000) hrun hr hv
    refine .inl ⟨g1, g2.mono ?_⟩
    rintro e w' ⟨u, h', φ', x, he, q1, q2, q3, q4, q5⟩
    obtain ⟨q5, q6⟩ := andK_true q5
    have q5 := eqV1_true q5
    subst q5
    exact ⟨_, m.h1, φ', x, he, q1, q2, q3.sub (subH_true q6) (fun b k hu => domT_true hdom b k (hr.res b k hu).2.1), q4, hk'⟩
theorem runS_closed {l : List (Nat × Ex)} (hl : ∀ p ∈ l, FnOk Tryz.prog p.1 p.2) {f : FuncId} {us : List V} {v : V} (hu : flatV.flatL 1000 us = true) (hv : flatV 1000 v = true) (hrun : runS l f us hEmp (isV v) = true)
    {h : H} {K : V → H → Bool} (hk : K v h = true) {B : Bd} {φ : Phi} {w : World} {args : Array Value} (hr : HR B φ h w) (ha : VRs φ us args.toList) :
    (callFunc f args).run Tryz.prog w = .ok (.enter f args) w ∧ Calls Tryz.prog f args w (Post B φ w K) := by
  obtain ⟨g1, g2⟩ := bodyK_calls mixed (callK_ok Tryz.prog mixed (orcSt l) (orcSt_ok hl) 100000 1000) hrun (HR.empty w) ((flat_rel 1000).2 _ hu φ _ _ ha)
  refine ⟨g1, g2.mono ?_⟩
  rintro e w' ⟨u, h', φ', x, he, _, h1, _, h2, h3⟩
  have := (eqVf_true 1000).1 _ _ h3
  subst this
  exact ⟨_, h, φ, x, he, Ext.refl φ, (flat_rel 1000).1 _ hv φ' φ x h1, hr.old h2, h2.old hr.size, hk⟩
theorem exTab_one {p : List V × V} {vs : List V} {h : H} {K : V → H → Bool} (hk : exTab [p] vs h K = true) : vs = p.1 ∧ K p.2 h = true := by
  have hk' : Bool.rec (motive := fun _ => Bool) false (K p.2 h) (eqVs vs p.1) = true := hk
  cases hb : eqVs vs p.1 with
  | false => rw [hb] at hk'; exact absurd hk' (by simp)
  | true => rw [hb] at hk'; exact ⟨(eqVf_true 1000).2 _ _ hb, hk'⟩
theorem exTab_list {P : Program} {f : FuncId} : ∀ {l : List (List V × V)}, (∀ p ∈ l, FnOk P f (exTab [p])) → FnOk P f (exTab l)
  | [], _ => fun vs h K hk => absurd (show false = true from hk) (by simp)
  | p :: l, hl => by
    intro vs h K hk B φ w args hr hv
    have hk' : Bool.rec (motive := fun _ => Bool) (exTab l vs h K) (K p.2 h) (eqVs vs p.1) = true := hk
    cases hb : eqVs vs p.1 with
    | false => rw [hb] at hk'; exact exTab_list (fun x hx => hl x (List.mem_cons_of_mem _ hx)) vs h K hk' B φ w args hr hv
    | true =>
      rw [hb] at hk'
      refine hl p (by simp) vs h K ?_ B φ w args hr hv
      show Bool.rec (motive := fun _ => Bool) false (K p.2 h) (eqVs vs p.1) = true
      rw [hb]; exact hk'
theorem runS_tab {l : List (Nat × Ex)} (hl : ∀ p ∈ l, FnOk Tryz.prog p.1 p.2) {f : FuncId} {p : List V × V} (hu : (flatV.flatL 1000 p.1 && flatV 1000 p.2) = true) (hrun : runS l f p.1 hEmp (isV p.2) = true) : FnOk Tryz.prog f (exTab [p]) := by
  intro vs h K hk B φ w args hr hv
  obtain ⟨rfl, hk2⟩ := exTab_one hk
  obtain ⟨h1, h2⟩ := Bool.and_eq_true_iff.1 hu
  exact .inl (runS_closed hl h1 h2 hrun hk2 hr hv)
end Go.Ev
end
section
namespace Go.Ev
open Go.Proofs
noncomputable def setT {α : Type} (f : Nat) : Nat → α → T α → T α :=
  Nat.rec (motive := fun _ => Nat → α → T α → T α) (fun _ _ t => t)
    (fun _ ih k v t => T.rec (motive := fun _ => T α)
      (Nat.rec (motive := fun _ => T α) (.node .nil (some v) .nil) (fun k' _ => Nat.rec (motive := fun _ => T α) (.node (ih (Nat.div k' 2) v .nil) none .nil) (fun _ _ => .node .nil none (ih (Nat.div k' 2) v .nil)) (Nat.mod k' 2)) k)
      (fun l u r _ _ => Nat.rec (motive := fun _ => T α) (.node l (some v) r) (fun k' _ => Nat.rec (motive := fun _ => T α) (.node (ih (Nat.div k' 2) v l) u r) (fun _ _ => .node l u (ih (Nat.div k' 2) v r)) (Nat.mod k' 2)) k) t) f
noncomputable def mkT {α : Type} (l : T α) (v : Option α) (r : T α) : T α :=
  Option.rec (motive := fun _ => T α) (T.rec (motive := fun _ => T α) (T.rec (motive := fun _ => T α) .nil (fun a b c _ _ => .node .nil none (.node a b c)) r) (fun a b c _ _ => .node (.node a b c) none r) l) (fun x => .node l (some x) r) v
noncomputable def delT {α : Type} (f : Nat) : Nat → T α → T α :=
  Nat.rec (motive := fun _ => Nat → T α → T α) (fun _ t => t)
    (fun _ ih k t => T.rec (motive := fun _ => T α) .nil
      (fun l u r _ _ => Nat.rec (motive := fun _ => T α) (mkT l none r) (fun k' _ => Nat.rec (motive := fun _ => T α) (mkT (ih (Nat.div k' 2) l) u r) (fun _ _ => mkT l u (ih (Nat.div k' 2) r)) (Nat.mod k' 2)) k) t) f
noncomputable def updT {α : Type} (t : T α) (l : List (Nat × Option α)) : T α :=
  List.rec (motive := fun _ => T α) t (fun p _ ih => Option.rec (motive := fun _ => T α) (delT 40 p.1 ih) (fun x => setT 40 p.1 x ih) p.2) l
noncomputable def W (t : T V) (l : List (Nat × V)) : T V := List.rec (motive := fun _ => T V) t (fun p _ ih => setT 40 p.1 p.2 ih) l
noncomputable def rowFrom (l : List V) : Nat → T V := List.rec (motive := fun _ => Nat → T V) (fun _ => .nil) (fun x _ ih k => setT 40 k x (ih (Nat.succ k))) l
noncomputable def R (l : List V) : T V := rowFrom l 0
noncomputable def fillT (f : Nat) : Nat → V → T V :=
  Nat.rec (motive := fun _ => Nat → V → T V) (fun _ _ => .nil)
    (fun _ ih n v => Nat.rec (motive := fun _ => T V) .nil (fun m _ => .node (ih (Nat.div n 2) v) (some v) (ih (Nat.div m 2) v)) n) f
noncomputable def F (n : Nat) (v : V) : T V := fillT 40 n v
def C (g n : Nat) (d : T V) (t : Nat) (b : Bool) : Blk := ⟨g, 0, n, .cells d, some (t, b)⟩
def I (n : Nat) : V := .int .i64 (.ofNat n)
def Y (n : Nat) : V := .int .u8 (.ofNat n)
def Z : V := .str 0 0
noncomputable def chg (n : Nat) (h : H) (l : List (Nat × Option Blk)) (g : List (Nat × Option Grp)) : H := ⟨n, updT h.bl l, updT h.gr g⟩
def U (n : Nat) : V := .int .u32 (.ofNat n)
def S (a k : Nat) : Nat := Nat.shiftLeft a k
def J (a k b : Nat) : Nat := Nat.add a (Nat.shiftLeft b k)
def S2 (a i k : Nat) : Nat := Nat.mod (Nat.shiftRight a i) (Nat.pow 2 k)
def K (k n : Nat) (d : T V) (t : Nat) (b : Bool) : Nat × Option Blk := (k, some (C k n d t b))
def B (k g n x : Nat) : Nat × Option Blk := (k, some ⟨g, 0, n, .bytes x, some (5, false)⟩)
def G (k n l : Nat) : Nat × Option Grp := (k, some ⟨0, n, l⟩)
noncomputable def gone (a n : Nat) (l : List (Nat × Option Blk)) : List (Nat × Option Blk) := Nat.rec (motive := fun _ => List (Nat × Option Blk)) l (fun i ih => List.cons (Nat.add a i, none) ih) n
noncomputable def gones (l : List (Nat × Nat)) : List (Nat × Option Blk) := List.rec (motive := fun _ => List (Nat × Option Blk)) [] (fun p _ ih => gone p.1 p.2 ih) l
noncomputable def chd (n : Nat) (h : H) (l : List (Nat × Option Blk)) (r : List (Nat × Nat)) (g : List (Nat × Option Grp)) : H := ⟨n, updT (updT h.bl (gones r)) l, updT h.gr g⟩
end Go.Ev
end
