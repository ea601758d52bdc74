/- Part of the proof that card_holds ends in: an evaluator of closed runs over abstract memories, and that what it says holds of the model. -/
import Derived.Test.YtkobceanlhlmcaaGreatDoorA07
set_option linter.all false
section
namespace Go.Ev
noncomputable def optN (o : Option Nat) (z : Nat) (f : Nat → Nat) : Nat := Option.rec (motive := fun _ => Nat) z f o
noncomputable def getO (t : T Nat) : Nat → Option Nat :=
  T.rec (motive := fun _ => Nat → Option Nat) (fun _ => none) (fun _ v _ gl gr k => Nat.rec (motive := fun _ => Option Nat) v (fun k' _ => Nat.rec (motive := fun _ => Option Nat) (gl (Nat.div k' 2)) (fun _ _ => gr (Nat.div k' 2)) (Nat.mod k' 2)) k) t
theorem getO_eq : ∀ (t : T Nat) (k : Nat), getO t k = t.get k := by
  intro t
  induction t with
  | nil => intro k; cases k <;> rfl
  | node l v r ihl ihr =>
    intro k
    cases k with
    | zero => rfl
    | succ k =>
      have e : getO (T.node l v r) (k + 1) = Nat.rec (motive := fun _ => Option Nat) (getO l (Nat.div k 2)) (fun _ _ => getO r (Nat.div k 2)) (Nat.mod k 2) := rfl
      rw [e, T.get_succ]
      rw [show Nat.mod k 2 = k % 2 from rfl, show Nat.div k 2 = k / 2 from rfl]
      by_cases h : k % 2 = 0
      · rw [h]; simp only [if_true]; exact ihl _
      · rw [show k % 2 = 1 by omega, if_neg (by decide)]; exact ihr _
noncomputable def fixF (N : Nat) (wr : T Nat) (m : Nat) (t : Nat) : Nat := pickM (Nat.blt t N) (Nat.add N N) (optN (getO wr t) t fun j => pickM (bitF m j) t (Nat.add N t))
theorem fixF_eq (N : Nat) (wr : T Nat) (m t : Nat) : fixF N wr m t = fixT N wr m t := by
  unfold fixF fixT
  cases Nat.blt t N with
  | false => rfl
  | true =>
    show optN (getO wr t) t _ = _
    rw [getO_eq]
    simp only [cond_true]
    cases wr.get t with
    | none => rfl
    | some j =>
      show pickM (bitF m j) t (Nat.add N t) = bif m.testBit j then N + t else t
      rw [bitF_eq]
      cases m.testBit j <;> rfl
noncomputable def fixA (N : Nat) (wr : T Nat) (m : Nat) (l : List Src1) : List Src1 := List.rec (motive := fun _ => List Src1) [] (fun s _ ih => Src1.rec (motive := fun _ => Src1) (fun t => .loc (fixF N wr m t)) (fun k => .env k) (fun v => .cst v) s :: ih) l
theorem fixA_eq (N : Nat) (wr : T Nat) (m : Nat) : ∀ l, fixA N wr m l = l.map (fixS N wr m)
  | [] => rfl
  | s :: l => by
    have e : fixA N wr m (s :: l) = (Src1.rec (motive := fun _ => Src1) (fun t => .loc (fixF N wr m t)) (fun k => .env k) (fun v => .cst v) s : Src1) :: fixA N wr m l := rfl
    rw [e, fixA_eq N wr m l, List.map_cons]
    congr 1
    cases s with
    | loc t => show Src1.loc (fixF N wr m t) = _; rw [fixF_eq]; rfl
    | _ => rfl
noncomputable def mkItL (P : Program) (N : Nat) (wr : T Nat) (m : Nat) (ds : List (Option Tmp)) (i : Nat) (o : Oper) : Option DIt :=
  match opSs 0 [] o.op.operands.toList with
  | none => none
  | some args => match o.guard with
    | none => some ⟨i, none, o.dst, o.dst.map (N + ·), compOp P o.op, fixA N wr m args⟩
    | some (j, w) => match ds[j]? with
      | some (some t) => some ⟨i, some (fixF N wr m t, w), o.dst, o.dst.map (N + ·), compOp P o.op, fixA N wr m args⟩
      | _ => none
theorem mkItL_eq {P : Program} {ops : Array Oper} {N : Nat} {wr : T Nat} {pm : Nat → Nat} {i : Nat} {o : Oper} {c : DIt} (ho : ops[i]? = some o) (h : mkItL P N wr (pm i) (ops.toList.map (·.dst)) i o = some c) : mkIt P ops N wr pm i = some c ∧ c.i = i := by
  unfold mkItL at h
  unfold mkIt
  rw [ho]
  split at h
  · exact absurd h (by simp)
  · rename_i args ha
    simp only [ha]
    rw [← fixA_eq]
    split at h
    · rename_i hg
      simp only [hg]; refine ⟨h, ?_⟩
      simp only [Option.some.injEq] at h; subst h; rfl
    · rename_i j w hg
      simp only [hg]
      split at h
      · rename_i t ht
        have : (ops[j]?).bind (·.dst) = some t := by
          rw [List.getElem?_map, Array.getElem?_toList] at ht
          cases hj : ops[j]? with
          | none => rw [hj] at ht; simp at ht
          | some oj => rw [hj] at ht; simpa using ht
        rw [this]
        simp only [← fixF_eq]; refine ⟨h, ?_⟩
        simp only [Option.some.injEq] at h; subst h; rfl
      · exact absurd h (by simp)
noncomputable def consO (c : Option DIt) (l : Option (List DIt)) : Option (List DIt) := match c, l with | some c, some l => some (c :: l) | _, _ => none
noncomputable def mkAll (P : Program) (N : Nat) (wr : T Nat) (pm : Nat → Nat) (ds : List (Option Tmp)) (l : List Oper) : Nat → Option (List DIt) :=
  List.rec (motive := fun _ => Nat → Option (List DIt)) (fun _ => some []) (fun o _ ih i => consO (mkItL P N wr (pm i) ds i o) (ih (Nat.succ i))) l
theorem mkAll_mem {P : Program} {ops : Array Oper} {N : Nat} {wr : T Nat} {pm : Nat → Nat} : ∀ {l : List Oper} {i : Nat} {r : List DIt}, (∀ j, l[j]? = ops[i + j]?) → mkAll P N wr pm (ops.toList.map (·.dst)) l i = some r → ∀ c ∈ r, mkIt P ops N wr pm c.i = some c
  | [], i, r, hl, h, c, hc => by
    have : r = [] := by simpa [mkAll] using h.symm
    subst this; simp at hc
  | o :: l, i, r, hl, h, c, hc => by
    have h' : consO (mkItL P N wr (pm i) (ops.toList.map (·.dst)) i o) (mkAll P N wr pm (ops.toList.map (·.dst)) l (i + 1)) = some r := h
    unfold consO at h'
    split at h'
    · rename_i c1 l1 h1 h2
      simp only [Option.some.injEq] at h'; subst h'
      rcases List.mem_cons.1 hc with rfl | hc
      · obtain ⟨a, b⟩ := mkItL_eq (by simpa using (hl 0).symm) h1
        rw [b]; exact a
      · exact mkAll_mem (fun j => by have := hl (j + 1); simp at this; rw [this]; congr 1; omega) h2 c hc
    · exact absurd h' (by simp)
noncomputable def filterF (f : DIt → Bool) (l : List DIt) : List DIt := List.rec (motive := fun _ => List DIt) [] (fun c _ ih => ifL (f c) (c :: ih) ih) l
theorem filterF_mem {f : DIt → Bool} : ∀ {l : List DIt} {c : DIt}, c ∈ filterF f l → c ∈ l
  | [], c, h => h
  | d :: l, c, h => by
    have h' : c ∈ ifL (f d) (d :: filterF f l) (filterF f l) := h
    cases hf : f d with
    | true =>
      rw [hf] at h'
      rcases List.mem_cons.1 (show c ∈ d :: filterF f l from h') with rfl | h2
      · exact List.mem_cons_self
      · exact List.mem_cons_of_mem _ (filterF_mem h2)
    | false => rw [hf] at h'; exact List.mem_cons_of_mem _ (filterF_mem (show c ∈ filterF f l from h'))
noncomputable def firstEf (l : List DIt) : Option (DIt × List DIt) :=
  List.rec (motive := fun _ => Option (DIt × List DIt)) none (fun c r ih => Bool.rec (motive := fun _ => Option (DIt × List DIt)) (some (c, r)) (ih.map fun p => (p.1, c :: p.2)) c.f.isLd) l
theorem firstEf_mem : ∀ {l : List DIt} {e : DIt} {r : List DIt}, firstEf l = some (e, r) → e ∈ l ∧ ∀ c ∈ r, c ∈ l
  | [], e, r, h => by simp [firstEf] at h
  | d :: l, e, r, h => by
    have h' : Bool.rec (motive := fun _ => Option (DIt × List DIt)) (some (d, l)) ((firstEf l).map fun p => (p.1, d :: p.2)) d.f.isLd = some (e, r) := h
    cases hd : d.f.isLd with
    | false =>
      rw [hd] at h'
      simp only [Option.some.injEq, Prod.mk.injEq] at h'
      obtain ⟨rfl, rfl⟩ := h'
      exact ⟨List.mem_cons_self, fun c hc => List.mem_cons_of_mem _ hc⟩
    | true =>
      rw [hd] at h'
      simp only [Option.map_eq_some_iff, Prod.mk.injEq] at h'
      obtain ⟨⟨e', r'⟩, h1, rfl, rfl⟩ := h'
      obtain ⟨h2, h3⟩ := firstEf_mem h1
      refine ⟨List.mem_cons_of_mem _ h2, fun c hc => ?_⟩
      rcases List.mem_cons.1 hc with rfl | hc
      · exact List.mem_cons_self
      · exact List.mem_cons_of_mem _ (h3 c hc)
noncomputable def rdy (pm : Nat → Nat) (em done : Nat) (c : DIt) : Bool := condK c.f.isLd (subM (Nat.land (pm c.i) em) done) false
noncomputable def notB (b : Bool) : Bool := Bool.rec (motive := fun _ => Bool) true false b
noncomputable def ordGo (pm : Nat → Nat) (em : Nat) (fuel : Nat) : List DIt → Nat → List DIt :=
  Nat.rec (motive := fun _ => List DIt → Nat → List DIt) (fun _ _ => []) (fun _ ih rem done => filterF (rdy pm em done) rem ++
    Option.rec (motive := fun _ => List DIt) [] (fun p => p.1 :: ih p.2 (Nat.lor done (Nat.shiftLeft 1 p.1.i))) (firstEf (filterF (fun c => notB (rdy pm em done c)) rem))) fuel
theorem ordGo_mem {pm : Nat → Nat} {em : Nat} : ∀ {fuel : Nat} {rem : List DIt} {done : Nat} {c : DIt}, c ∈ ordGo pm em fuel rem done → c ∈ rem
  | 0, rem, done, c, h => absurd (show c ∈ ([] : List DIt) from h) (by simp)
  | fuel + 1, rem, done, c, h => by
    have h' : c ∈ filterF (rdy pm em done) rem ++ Option.rec (motive := fun _ => List DIt) [] (fun p => p.1 :: ordGo pm em fuel p.2 (Nat.lor done (Nat.shiftLeft 1 p.1.i))) (firstEf (filterF (fun c => notB (rdy pm em done c)) rem)) := h
    rcases List.mem_append.1 h' with h1 | h1
    · exact filterF_mem h1
    · cases he : firstEf (filterF (fun c => notB (rdy pm em done c)) rem) with
      | none => rw [he] at h1; simp at h1
      | some p =>
        rw [he] at h1
        obtain ⟨h2, h3⟩ := firstEf_mem (e := p.1) (r := p.2) he
        rcases List.mem_cons.1 (show c ∈ p.1 :: ordGo pm em fuel p.2 (Nat.lor done (Nat.shiftLeft 1 p.1.i)) from h1) with rfl | h4
        · exact filterF_mem h2
        · exact filterF_mem (h3 c (ordGo_mem h4))
noncomputable def oneT (fuel : Nat) : Nat → Nat → T Nat :=
  Nat.rec (motive := fun _ => Nat → Nat → T Nat) (fun _ _ => .nil) (fun _ ih k x => Nat.rec (motive := fun _ => T Nat) (.node .nil (some x) .nil)
    (fun k' _ => Nat.rec (motive := fun _ => T Nat) (.node (ih (Nat.div k' 2) x) none .nil) (fun _ _ => .node .nil none (ih (Nat.div k' 2) x)) (Nat.mod k' 2)) k) fuel
noncomputable def putT (t : T Nat) : Nat → Nat → T Nat :=
  T.rec (motive := fun _ => Nat → Nat → T Nat) (fun k x => oneT 64 k x) (fun l v r sl sr k x => Nat.rec (motive := fun _ => T Nat) (.node l (some x) r)
    (fun k' _ => Nat.rec (motive := fun _ => T Nat) (.node (sl (Nat.div k' 2) x) v r) (fun _ _ => .node l v (sr (Nat.div k' 2) x)) (Nat.mod k' 2)) k) t
noncomputable def wrGo (l : List Oper) : Nat → T Nat → T Nat := List.rec (motive := fun _ => Nat → T Nat → T Nat) (fun _ t => t) (fun o _ ih i t => ih (Nat.succ i) (Option.rec (motive := fun _ => T Nat) t (fun d => putT t d i) o.dst)) l
noncomputable def dstAt (l : List Oper) : Nat → Option Nat := List.rec (motive := fun _ => Nat → Option Nat) (fun _ => none) (fun o _ ih i => Nat.rec (motive := fun _ => Option Nat) o.dst (fun j _ => ih j) i) l
theorem dstAt_get : ∀ {l : List Oper} {i : Nat} {o : Oper}, l[i]? = some o → dstAt l i = o.dst
  | [], i, o, h => by simp at h
  | a :: l, 0, o, h => by simp at h; subst h; rfl
  | a :: l, i + 1, o, h => by
    have : dstAt (a :: l) (i + 1) = dstAt l i := rfl
    rw [this]; exact dstAt_get (by simpa using h)
noncomputable def emGo (l : List DIt) : Nat → Nat := List.rec (motive := fun _ => Nat → Nat) (fun m => m) (fun c _ ih m => ih (pickM c.f.isLd (Nat.lor m (Nat.shiftLeft 1 c.i)) m)) l
noncomputable def edgesOf (masks : List Nat) (l : List Oper) : Nat → Nat := List.rec (motive := fun _ => Nat → Nat) (fun _ => 0) (fun o _ ih i => Nat.rec (motive := fun _ => Nat) (orE masks o.after.toList 0) (fun j _ => ih j) i) l
theorem edgesOf_get {masks : List Nat} : ∀ {l : List Oper} {i : Nat} {o : Oper}, l[i]? = some o → edgesOf masks l i = orE masks o.after.toList 0
  | [], i, o, h => by simp at h
  | a :: l, 0, o, h => by simp at h; subst h; rfl
  | a :: l, i + 1, o, h => by
    have : edgesOf masks (a :: l) (i + 1) = edgesOf masks l i := rfl
    rw [this]; exact edgesOf_get (by simpa using h)
structure DrP where
  cl : List DIt
  masks : List Nat
noncomputable def planOf (P : Program) (N : Nat) (ops : Array Oper) : Option DrP :=
  match mkAll P N (wrGo ops.toList 0 .nil) (nthD (masksGo ops.toList [])) (ops.toList.map (·.dst)) ops.toList 0 with
  | none => none
  | some l =>
    bif okGo N (nthD (masksGo ops.toList [])) (wrGo ops.toList 0 .nil) (edgesOf (masksGo ops.toList []) ops.toList) (dstAt ops.toList) ops.size (ordGo (nthD (masksGo ops.toList [])) (emGo l 0) (Nat.succ ops.size) l 0) 0 0
    then some ⟨ordGo (nthD (masksGo ops.toList [])) (emGo l 0) (Nat.succ ops.size) l 0, masksGo ops.toList []⟩ else none
theorem planOf_ok {P : Program} {N : Nat} {ops : Array Oper} {d : DrP} (h : planOf P N ops = some d) : OrdOk P ops N (wrGo ops.toList 0 .nil) (nthD d.masks) d.cl := by
  unfold planOf at h
  split at h
  · exact absurd h (by simp)
  · rename_i l hl
    generalize hm : masksGo ops.toList [] = masks at h hl
    generalize hcl : ordGo (nthD masks) (emGo l 0) (Nat.succ ops.size) l 0 = cl at h
    generalize hw : wrGo ops.toList 0 .nil = wr at h hl ⊢
    cases hok : okGo N (nthD masks) wr (edgesOf masks ops.toList) (dstAt ops.toList) ops.size cl 0 0 with
    | false => rw [hok] at h; exact absurd h (by simp)
    | true =>
      rw [hok] at h
      simp only [cond_true, Option.some.injEq] at h; subst h
      obtain ⟨h1, h2⟩ := okGo_true (p := []) (fun j => by simp) (fun j => by simp) hok
      simp only [List.nil_append] at h1 h2
      have hitem : ∀ c ∈ cl, mkIt P ops N wr (nthD masks) c.i = some c := fun c hc => mkAll_mem (fun j => by simp) hl c (ordGo_mem (hcl ▸ hc))
      have hedge : ∀ i o, ops[i]? = some o → nthD masks i = orE masks o.after.toList 0 := by
        intro i o ho
        have hi : i < ops.size := by
          rcases Nat.lt_or_ge i ops.size with h | h
          · exact h
          · rw [Array.getElem?_eq_none h] at ho; simp at ho
        obtain ⟨c, hc, rfl⟩ := h2 i hi
        obtain ⟨q, s, e⟩ := List.append_of_mem hc
        rw [← (h1 q c s e).edg]
        exact edgesOf_get (by rw [Array.getElem?_toList]; exact ho)
      refine ⟨hitem, h2, fun p c r e => (h1 p c r e).uniq, fun p c r e => (h1 p c r e).pre, fun p c r e => (h1 p c r e).ef, fun c hc k hk => ?_, fun c hc c' hc' d hd hd' => ?_, fun c hc d hd => ?_, fun i o ho j hj => ?_, fun i o ho e he hb => ?_⟩
      · obtain ⟨q, s, e⟩ := List.append_of_mem hc
        rcases (h1 q c s e).src k hk with ⟨g1, g2⟩ | ⟨t, j, g1, g2, g3, g4⟩
        · refine .inl ⟨g1, fun c' hc' hd => ?_⟩
          obtain ⟨q', s', e'⟩ := List.append_of_mem hc'
          exact g2 _ ((h1 q' c' s' e').dst k hd).1
        · refine .inr ⟨t, g1, ?_⟩
          obtain ⟨c', hc', rfl⟩ := (h1 q c s e).pre j g4
          have hcm' : c' ∈ cl := by have e : cl = q ++ c :: s := e; rw [e]; exact List.mem_append_left _ hc'
          refine ⟨c', hcm', ?_, g4⟩
          obtain ⟨o, _, k1, _, k3, _⟩ := mkIt_some (hitem c' hcm')
          rw [dstAt_get (by rw [Array.getElem?_toList]; exact k1)] at g3
          rw [k3, g3]
      · obtain ⟨q, s, e⟩ := List.append_of_mem hc
        obtain ⟨q', s', e'⟩ := List.append_of_mem hc'
        have a := ((h1 q c s e).dst d hd).1
        rw [((h1 q' c' s' e').dst d hd').1] at a
        simpa using a.symm
      · obtain ⟨q, s, e⟩ := List.append_of_mem hc
        exact ((h1 q c s e).dst d hd).2
      · have hj : (nthD masks i).testBit j = true := hj
        rw [hedge i o ho, orE_bits] at hj
        rcases hj with hj | ⟨e, he, h⟩
        · simp at hj
        · exact ⟨e, by simpa using he, h⟩
      · show (nthD masks i).testBit e.on = true
        rw [hedge i o ho, orE_bits]
        exact .inr ⟨e, by simpa using he, hb, .inl rfl⟩
end Go.Ev
end
section
namespace Go.Ev
noncomputable def runDF (C : CallH) (pm : Nat → Nat) (l : List DIt) : List DIt → T V → H → (T V → H → Bool) → Bool :=
  List.rec (motive := fun _ => CallH → (Nat → Nat) → List DIt → T V → H → (T V → H → Bool) → Bool) (fun _ _ _ loc h K => K loc h)
    (fun c _ ih C pm acc loc h K => stepD C c loc h (Bool.rec (motive := fun _ => (List DIt → T V → H → (T V → H → Bool) → Bool) → (Nat → Nat) → DIt → List DIt → (T V → H → Bool) → T V → H → Bool)
      (fun ih pm c acc K loc h => Bool.rec (motive := fun _ => Bool) (condK (chkAll (leftOf (pm c.i) acc) loc h) (ih (leftOf (pm c.i) acc) loc h K) false) (condK (chkAll acc loc h) (ih acc loc h K) false) c.f.isAl) (fun ih pm c acc K loc h => ih (c :: acc) loc h K) c.f.isRd (ih C pm) pm c acc K)) l C pm
theorem runDF_eq (C : CallH) (pm : Nat → Nat) : ∀ (l acc : List DIt) (loc : T V) (h : H) (K : T V → H → Bool), runDF C pm l acc loc h K = runD C pm l acc loc h K
  | [], acc, loc, h, K => rfl
  | c :: l, acc, loc, h, K => by
    have e : runDF C pm (c :: l) acc loc h K = stepD C c loc h (Bool.rec (motive := fun _ => (List DIt → T V → H → (T V → H → Bool) → Bool) → (Nat → Nat) → DIt → List DIt → (T V → H → Bool) → T V → H → Bool)
      (fun ih pm c acc K loc h => Bool.rec (motive := fun _ => Bool) (condK (chkAll (leftOf (pm c.i) acc) loc h) (ih (leftOf (pm c.i) acc) loc h K) false) (condK (chkAll acc loc h) (ih acc loc h K) false) c.f.isAl) (fun ih pm c acc K loc h => ih (c :: acc) loc h K) c.f.isRd (runDF C pm l) pm c acc K) := rfl
    rw [e]
    have e2 : runDF C pm l = runD C pm l := by funext acc loc h K; exact runDF_eq C pm l acc loc h K
    rw [e2]
    unfold runD
    congr 1
    funext loc h
    cases c.f.isRd with
    | true => rfl
    | false =>
      show Bool.rec (motive := fun _ => Bool) (condK (chkAll (leftOf (pm c.i) acc) loc h) (runD C pm l (leftOf (pm c.i) acc) loc h K) false) (condK (chkAll acc loc h) (runD C pm l acc loc h K) false) c.f.isAl =
        bif c.f.isAl then condK (chkAll acc loc h) (runD C pm l acc loc h K) false else condK (chkAll (leftOf (pm c.i) acc) loc h) (runD C pm l (leftOf (pm c.i) acc) loc h K) false
      cases c.f.isAl <;> rfl
noncomputable def finK (N : Nat) (l : List Nat) (from' : T V) : T V → (T V → Bool) → Bool :=
  List.rec (motive := fun _ => T V → (T V → Bool) → Bool) (fun acc K => K acc) (fun d _ ih acc K => from'.getK (Nat.add N d) fun v => acc.setK d v fun acc => ih acc K) l
theorem finK_true {N : Nat} {from' : T V} : ∀ {l : List Nat} {acc : T V} {K : T V → Bool}, finK N l from' acc K = true → ∃ s, K s = true ∧ (∀ t, t ∈ l → s.get t = from'.get (N + t)) ∧ ∀ t, t ∉ l → s.get t = acc.get t
  | [], acc, K, h => ⟨acc, h, by simp, fun _ _ => rfl⟩
  | d :: l, acc, K, h => by
    have h' : (from'.getK (N + d) fun v => acc.setK d v fun acc => finK N l from' acc K) = true := h
    obtain ⟨v, h1, h2⟩ := T.getK_true h'
    obtain ⟨u, h3, h4⟩ := T.setK_true _ _ _ _ h2
    obtain ⟨s, h5, h6, h7⟩ := finK_true h4
    refine ⟨s, h5, fun t ht => ?_, fun t ht => ?_⟩
    · by_cases e : t ∈ l
      · exact h6 t e
      · rcases List.mem_cons.1 ht with rfl | ht
        · rw [h7 t e, h3, if_pos rfl, h1]
        · exact absurd ht e
    · simp only [List.mem_cons, not_or] at ht
      rw [h7 t ht.2, h3, if_neg ht.1]
noncomputable def ldOf (L : Nat → Bool) (l : List DIt) : List Nat := List.rec (motive := fun _ => List Nat) [] (fun c _ ih => Option.rec (motive := fun _ => List Nat) ih (fun d => Bool.rec (motive := fun _ => List Nat) ih (d :: ih) (L d)) c.dst) l
theorem ldOf_mem {L : Nat → Bool} : ∀ {l : List DIt} {t : Nat}, t ∈ ldOf L l ↔ L t = true ∧ ∃ c ∈ l, c.dst = some t
  | [], t => by simp [ldOf]
  | c :: l, t => by
    have e : ldOf L (c :: l) = Option.rec (motive := fun _ => List Nat) (ldOf L l) (fun d => Bool.rec (motive := fun _ => List Nat) (ldOf L l) (d :: ldOf L l) (L d)) c.dst := rfl
    rw [e]
    clear e
    cases hd : c.dst with
    | none =>
      show t ∈ ldOf L l ↔ _
      rw [ldOf_mem]; simp [hd]
    | some d =>
      cases hL : L d with
      | false =>
        show t ∈ (Bool.rec (motive := fun _ => List Nat) (ldOf L l) (d :: ldOf L l) (L d) : List Nat) ↔ _
        rw [hL]
        show t ∈ ldOf L l ↔ _
        rw [ldOf_mem]
        constructor
        · rintro ⟨a, c', b, e⟩; exact ⟨a, c', List.mem_cons_of_mem _ b, e⟩
        · rintro ⟨a, c', b, e⟩
          rcases List.mem_cons.1 b with rfl | b
          · rw [hd] at e; simp at e; subst e; rw [hL] at a; exact absurd a (by simp)
          · exact ⟨a, c', b, e⟩
      | true =>
        show t ∈ (Bool.rec (motive := fun _ => List Nat) (ldOf L l) (d :: ldOf L l) (L d) : List Nat) ↔ _
        rw [hL]
        show t ∈ d :: ldOf L l ↔ _
        rw [List.mem_cons, ldOf_mem]
        constructor
        · rintro (rfl | ⟨a, c', b, e⟩)
          · exact ⟨hL, c, List.mem_cons_self, hd⟩
          · exact ⟨a, c', List.mem_cons_of_mem _ b, e⟩
        · rintro ⟨a, c', b, e⟩
          rcases List.mem_cons.1 b with rfl | b
          · rw [hd] at e; simp at e; exact .inl e.symm
          · exact .inr ⟨a, c', b, e⟩
noncomputable def cDrawn (N : Nat) (ld : List Nat) (d : DrP) : Ev := fun C _ loc h K => runDF C (nthD d.masks) d.cl [] loc h fun loc' h => finK N ld loc' loc fun loc'' => K .norm loc'' h
theorem cDrawn_ok {P : Program} {rb : Bool} (hmix : P.follows .mixedOrders = true) {L : Nat → Bool} {N id : Nat} {ops : Array Oper} {d : DrP} (hd : planOf P N ops = some d) : EvOk P rb L N (.region id ops true) (cDrawn N (ldOf L d.cl) d) := by
  intro C hC n loc h K hk ro B φ S D a w hro hl hdf hS hr
  have ho := planOf_ok hd
  unfold cDrawn at hk
  rw [runDF_eq] at hk
  refine wpIn_region_any hmix ?_
  have hlst : ∀ i, ¬ Lst (Array.replicate ops.size false) i := by
    intro i
    unfold Lst
    rw [Array.getD_eq_getD_getElem?, Array.getElem?_replicate]
    split <;> simp
  have hm : Mid N loc d.cl [] d.cl [] (Array.replicate ops.size false) loc h φ a :=
    ⟨rfl, fun t v _ hv _ => (hl.val t v hv).2, fun c hc d v _ hl' => absurd hl' (hlst _), fun t v _ hv => (hl.val t v hv).2, fun i hi => absurd hi (hlst i), by simp, by simp, by simp, fun _ _ => rfl, by simp⟩
  have hr' : HR B φ h { w with drawn := w.drawn + 1 } := hr.keep (Nat.le_refl _) (fun _ _ => rfl)
  have hb' : Below B w { w with drawn := w.drawn + 1 } := ⟨⟨rfl, rfl, rfl, Nat.le_refl _, fun _ _ => rfl⟩, fun _ _ h => h⟩
  obtain ⟨p', r', acc', loc', h', U', own', k1, ki, kr, k2, k3⟩ := advance (B := B) (U := B.U) (own := fun _ => none) ho _ _ _ hm ⟨fun _ _ h => h, by simp⟩ hr' hk
  refine drawn_main (N := N) (B := B) (φ0 := φ) (w0 := w) hC ho ?_ ops.size k1 ki k2 k3 kr (Ext.refl φ) hb' hl.size hl.defers (by simp) (fun i hi => absurd hi (hlst i)) ?_
  · intro a2 w2 φ2 loc2 h2 e
    obtain ⟨s, g1, g2, g3⟩ := finK_true e.run
    refine After.mk (o := .norm) (D := D) (φ' := φ2) e.ext ⟨e.size, e.defers, fun t v hv => ?_⟩ hdf e.hr e.below g1
    by_cases ht : t ∈ ldOf L d.cl
    · rw [g2 t ht] at hv
      obtain ⟨hL, c, hc, hd⟩ := ldOf_mem.1 ht
      exact ⟨hL, e.new c hc t v hd hv⟩
    · rw [g3 t ht] at hv
      have hL := (hl.val t v hv).1
      have hno : ∀ c ∈ d.cl, c.dst ≠ some t := fun c hc hd => ht (ldOf_mem.2 ⟨hL, c, hc, hd⟩)
      refine ⟨hL, ?_⟩
      rcases Nat.lt_or_ge t N with hN | hN
      · exact e.old t v hN (by rw [e.frame t hN]; exact hv) hno
      · exact e.high t v hN hv
  · simp
end Go.Ev
end
