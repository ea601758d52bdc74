/- Part of the proof that card_holds ends in: an evaluator of closed runs over abstract memories, and that what it says holds of the model. -/
import Derived.Test.YtkobceanlhlmcaaGreatDoorA10
import Derived.Shelf.SlIterI.Nil
set_option linter.all false
section
namespace Go.Ev
open Go.Proofs Go.RowKit Go.Maps Go.Sort Go.Shelf
noncomputable def insN (k : Nat) (l : List Nat) : List Nat := List.rec (motive := fun _ => List Nat) [k] (fun a r ih => Bool.rec (motive := fun _ => List Nat) (a :: ih) (k :: a :: r) (Nat.ble k a)) l
noncomputable def sortN (l : List Nat) : List Nat := List.rec (motive := fun _ => List Nat) [] (fun a _ ih => insN a ih) l
theorem insN_perm (k : Nat) : ∀ l : List Nat, (insN k l).Perm (k :: l)
  | [] => .refl _
  | a :: r => by
    have e : insN k (a :: r) = Bool.rec (motive := fun _ => List Nat) (a :: insN k r) (k :: a :: r) (Nat.ble k a) := rfl
    rw [e]
    cases Nat.ble k a with
    | true => exact .refl _
    | false => exact ((insN_perm k r).cons a).trans (.swap k a r)
theorem sortN_perm : ∀ l : List Nat, (sortN l).Perm l
  | [] => .refl _
  | a :: r => (insN_perm a (sortN r)).trans ((sortN_perm r).cons a)
noncomputable def riseF (l : List Nat) : Nat → Bool := List.rec (motive := fun _ => Nat → Bool) (fun _ => true) (fun b _ ih a => condK (Nat.blt a b) (ih b) false) l
noncomputable def riseN (l : List Nat) : Bool := List.rec (motive := fun _ => Bool) true (fun a r _ => riseF r a) l
theorem riseF_true : ∀ {l : List Nat} {a : Nat}, riseF l a = true → (a :: l).Pairwise (· < ·)
  | [], a, h => List.pairwise_singleton _ _
  | b :: l, a, h => by
    obtain ⟨h1, h2⟩ := condK_t (show condK (Nat.blt a b) (riseF l b) false = true from h)
    have h1 := blt_iff.1 h1
    have ih := riseF_true h2
    refine List.pairwise_cons.2 ⟨fun x hx => ?_, ih⟩
    rcases List.mem_cons.1 hx with rfl | hx
    · exact h1
    · exact Nat.lt_trans h1 ((List.pairwise_cons.1 ih).1 x hx)
theorem riseN_true {l : List Nat} (h : riseN l = true) : l.Pairwise (· < ·) := by
  cases l with
  | nil => exact .nil
  | cons a l => exact riseF_true (show riseF l a = true from h)
noncomputable def ltAll (c : Nat) (l : List Nat) : Bool := List.rec (motive := fun _ => Bool) true (fun a _ ih => condK (Nat.blt a c) ih false) l
theorem ltAll_true {c : Nat} : ∀ {l : List Nat}, ltAll c l = true → ∀ a ∈ l, a < c
  | [], h, a, ha => by simp at ha
  | b :: l, h, a, ha => by
    obtain ⟨h1, h2⟩ := condK_t (show condK (Nat.blt b c) (ltAll c l) false = true from h)
    rcases List.mem_cons.1 ha with rfl | ha
    · exact blt_iff.1 h1
    · exact ltAll_true h2 a ha
noncomputable def collK (es : List Ent) : (List Nat → List Nat → Bool) → Bool := List.rec (motive := fun _ => (List Nat → List Nat → Bool) → Bool) (fun K => K [] []) (fun e _ ih K => match e.key with
  | .int .i64 (.ofNat k) => ih fun ks bs => K (k :: ks) (e.born :: bs)
  | _ => false) es
theorem collK_true {φ : Phi} : ∀ {es : List Ent} {xs : List MapEntry} {K : List Nat → List Nat → Bool}, Ents φ es xs → collK es K = true → ∃ ks bs, K ks bs = true ∧ xs.map (·.key) = ks.map (fun k : Nat => Value.int .i64 k) ∧ xs.map (·.born) = bs
  | [], xs, K, he, h => by cases he; exact ⟨[], [], h, rfl, rfl⟩
  | e :: es, xs, K, he, h => by
    cases he with | @cons _ y _ ys h1 h2 h3 h4 =>
    have h' : (match e.key with
      | .int .i64 (.ofNat k) => collK es fun ks bs => K (k :: ks) (e.born :: bs)
      | _ => false) = true := h
    split at h'
    · rename_i k hk
      rw [hk] at h1
      have hy := h1.int_inv
      obtain ⟨ks, bs, g1, g2, g3⟩ := collK_true h4 h'
      exact ⟨_, _, g1, by simp [hy, g2], by simp [h3, g3]⟩
    · exact absurd h' (by simp)
noncomputable def numsK (l : List Nat) : Nat → (Nat → List V → Bool) → Bool := List.rec (motive := fun _ => Nat → (Nat → List V → Bool) → Bool) (fun n K => K n []) (fun a _ ih n K => natK (Nat.succ n) fun n => natK a fun a => ih n fun n l => K n (.int .i64 (.ofNat a) :: l)) l
theorem numsK_eq : ∀ (l : List Nat) (n : Nat) (K : Nat → List V → Bool), numsK l n K = K (n + l.length) (l.map fun a => V.int .i64 (.ofNat a))
  | [], n, K => rfl
  | a :: l, n, K => by
    have e : numsK (a :: l) n K = natK (Nat.succ n) fun n => natK a fun a => numsK l n fun n l => K n (.int .i64 (.ofNat a) :: l) := rfl
    rw [e, natK_eq, natK_eq, numsK_eq l]
    simp only [List.length_cons, List.map_cons]
    congr 1
    omega
noncomputable def exSorted (it : Nat) : Ex := fun vs h K => match vs with
  | [.func g [] [.ptr c off]] => bif Nat.beq g it && Nat.beq off 0 then blkK h c fun kc => (match kc.ty with
    | some (_, true) => bif Nat.ble 1 kc.n then datK kc.n kc.d 0 fun m => (match m with
      | .map b => blkK h b fun k => (match k.d with
        | .map es clock => collK es fun ks bs => bif riseN (sortN ks) && riseN (sortN bs) && ltAll clock bs && ltAll 9223372036854775808 ks then numsK (sortN ks) 0 fun n vs => bif Nat.ble n 1000 then (match vs with
            | [] => K .nils h
            | v :: vs => listK (v :: vs) 0 .nil fun t => addK h n (.cells t) none fun h' => K (.slice h.next 0 n 1 none) h') else false
          else false
        | _ => false)
      | _ => false) else false
    | _ => false) else false
  | _ => false
theorem sorted_one {ks : List Nat} {ss : List Int} (h1 : (sortN ks).Pairwise (· < ·)) (h2 : ss.Perm (ks.map fun k : Nat => (k : Int))) : ss.mergeSort (fun x y => decide (x ≤ y)) = (sortN ks).map fun k : Nat => (k : Int) := by
  have tr : ∀ a b c : Int, leI a b = true → leI b c = true → leI a c = true := fun a b c h1 h2 => by simp only [leI, decide_eq_true_eq] at *; exact Int.le_trans h1 h2
  have to : ∀ a b : Int, (leI a b || leI b a) = true := fun a b => by simp only [leI, Bool.or_eq_true, decide_eq_true_eq]; exact Int.le_total a b
  refine List.Perm.eq_of_pairwise (le := fun a b => leI a b = true) (fun a b _ _ h1 h2 => ?_) (List.pairwise_mergeSort tr to ss) ?_ ?_
  · simp only [leI, decide_eq_true_eq] at h1 h2
    exact Int.le_antisymm h1 h2
  · refine List.pairwise_map.2 (h1.imp fun {a b} h => ?_)
    simp only [leI, decide_eq_true_eq]; omega
  · exact (List.mergeSort_perm ss leI).trans (h2.trans ((sortN_perm ks).symm.map _))
end Go.Ev
end
section
namespace Go.Ev
open Go.Proofs Go.Maps Go.Sort Go.Shelf
abbrev unitR : Value → Option (DataW Unit × List MemPlace) := fun _ => some (.lit (.bool true), [])
theorem bools4 {a b c d : Bool} (h : (a && b && c && d) = true) : a = true ∧ b = true ∧ c = true ∧ d = true := by simpa [Bool.and_eq_true, and_assoc] using h
theorem owns_of {P : Program} {k : TypeId} {w : World} {xs : Array MapEntry} {clock : Nat} {ks bs : List Nat} {g : Nat} (hu : P.underlying k = some (.int .i64)) (h1 : w.heap[g]? = some (.map xs clock))
    (hk : xs.toList.map (·.key) = ks.map fun k : Nat => Value.int .i64 k) (hb : xs.toList.map (·.born) = bs) (r1 : riseN (sortN ks) = true) (r2 : riseN (sortN bs) = true) (r3 : ltAll clock bs = true) (r4 : ltAll 9223372036854775808 ks = true) (hn : ks.length ≤ 1000) :
    ∃ D : DataW Unit, w.ownsMap P k unitR g 1000 D ∧ Maps.size D ≤ 1000 ∧ (intKeys D).Perm (ks.map fun k : Nat => (k : Int)) := by
  have hlen : xs.size = ks.length := by
    have := congrArg List.length hk
    simpa using this
  have nd : ∀ l : List Nat, riseN (sortN l) = true → l.Nodup := fun l hl => (sortN_perm l).nodup_iff.1 ((riseN_true hl).imp fun {a b} h => Nat.ne_of_lt h)
  have hlt := ltAll_true r4
  have hkey : ∀ x ∈ xs.toList, ∃ k' : Nat, k' ∈ ks ∧ x.key = .int .i64 k' := by
    intro x hx
    have : x.key ∈ xs.toList.map (·.key) := List.mem_map.2 ⟨x, hx, rfl⟩
    rw [hk] at this
    obtain ⟨k', h1, h2⟩ := List.mem_map.1 this
    exact ⟨k', h1, h2.symm⟩
  have hof : ∀ k' : Nat, k' ∈ ks → keyOf P k (.int .i64 k') = some (.int .i64 k') := by
    intro k' hk'
    have h3 := hlt k' hk'
    have hw : (Lit.int .i64 (k' : Int)).wf = true := by
      have e1 : IntKind.i64.min = -9223372036854775808 := rfl
      have e2 : IntKind.i64.max = 9223372036854775807 := rfl
      simp [Lit.wf, e1, e2]; omega
    simp [keyOf, hu, mapKey, hw]
  have hrd : ∀ x ∈ xs.toList, ∃ k' : Nat, x.key = .int .i64 k' ∧ WideElems.rd P k unitR x = some (.int .i64 k', .lit (.bool true)) := by
    intro x hx
    obtain ⟨k', h1, h2⟩ := hkey x hx
    exact ⟨k', h2, by unfold WideElems.rd; rw [h2, hof k' h1]; rfl⟩
  refine ⟨.map ((xs.toList.map (WideElems.rg P k unitR)).foldr DataW.insert []), ⟨xs, clock, h1, ⟨by rw [hlen]; exact Nat.le_trans hn (by decide), ⟨?_, ?_, ?_⟩, ?_⟩, by rw [hlen]; exact hn, rfl⟩, ?_, ?_⟩
  · intro x hx
    exact ltAll_true r3 _ (hb ▸ List.mem_map.2 ⟨x, hx, rfl⟩)
  · rw [hb]; exact nd bs r2
  · rw [hk]
    refine List.pairwise_map.2 ((nd ks r1).imp fun {a b} h e => h (by simp only [Value.int.injEq, true_and] at e; exact Int.ofNat.inj e))
  · intro x hx
    obtain ⟨k', _, h2⟩ := hrd x hx
    exact ⟨_, h2⟩
  · have hp := WideShapes.sorted_perm (xs.toList.map (WideElems.rg P k unitR))
    have := hp.length_eq
    simp only [List.length_map, Array.length_toList] at this
    show List.length _ ≤ 1000
    rw [this, hlen]; exact hn
  · have hp := WideShapes.sorted_perm (xs.toList.map (WideElems.rg P k unitR))
    refine (hp.map fun p => intOf p.1).trans ?_
    rw [List.map_map]
    have : (xs.toList.map ((fun p : Lit × DataW Unit => intOf p.1) ∘ WideElems.rg P k unitR)) = ks.map fun k : Nat => (k : Int) := by
      have e : xs.toList.map ((fun p : Lit × DataW Unit => intOf p.1) ∘ WideElems.rg P k unitR) = (xs.toList.map (·.key)).map fun v => match v with | .int _ a => a | _ => 0 := by
        rw [List.map_map]
        apply List.map_congr_left
        intro x hx
        obtain ⟨k', h1, h2⟩ := hrd x hx
        simp [WideElems.rg, h2, intOf, h1]
      rw [e, hk, List.map_map]
      rfl
    rw [this]
theorem exSorted_ok {P : Program} {ρ6 ρ10 : Ren} (L6 : SlLaysZI.n6 P ρ6) (L10 : SlLaysZI.n10 P ρ10) (hsort : ∀ m, AnyZI.SortsIn P ρ6 Fence.wide m) (e6 : ∀ args w, (callFunc (ρ6.f 6) args).run P w = .ok (.enter (ρ6.f 6) args) w) (e9 : ∀ args w, (callFunc (ρ6.f 9) args).run P w = .ok (.enter (ρ6.f 9) args) w)
    (e10 : ∀ args w, (callFunc (ρ10.f 10) args).run P w = .ok (.enter (ρ10.f 10) args) w) (hu : P.underlying (ρ10.t 26) = some (.int .i64)) : FnOk P (ρ6.f 6) (exSorted (ρ10.f 10)) := by
  intro vs h K hk B φ w args hr hv
  unfold exSorted at hk
  split at hk
  rotate_left
  · exact absurd hk (by simp)
  rename_i g c off
  obtain ⟨hg, hk1⟩ := bif_true hk
  clear hk
  obtain ⟨hg1, ho1⟩ := Bool.and_eq_true_iff.1 hg
  have hg2 := Nat.eq_of_beq_eq_true hg1
  have ho2 := Nat.eq_of_beq_eq_true ho1
  clear hg hg1 ho1
  subst hg2; subst ho2
  obtain ⟨kc, hbc, hlc, hk⟩ := blkK_true hk1
  split at hk
  rotate_left
  · exact absurd hk (by simp)
  rename_i ec hty
  obtain ⟨hn1, hk⟩ := bif_true hk
  have hn1 := ble_of hn1
  obtain ⟨x, rfl, hx⟩ := args_one hv
  cases hx with
  | @func _ _ _ fs cs hfs hcs =>
  cases fs with | mk fs =>
  have hfs : VRs φ [] fs := hfs
  cases hfs
  cases cs with | mk cs =>
  have hcs : VRs φ [.ptr c 0] cs := hcs
  cases hcs with | cons hp hnil =>
  cases hnil
  obtain ⟨Lc, hLc, rfl⟩ := hp.ptr_inv
  obtain ⟨cc, frc, he1, he2⟩ := hr.elt c Lc kc _ hLc hbc hty
  obtain ⟨hb0, _⟩ := he2 rfl
  obtain ⟨m, xm, hcell, hm, hk⟩ := datK_sound (hr.hold c Lc kc hLc hbc hlc) (by omega) hk
  split at hk
  rotate_left
  · exact absurd hk (by simp)
  rename_i b
  obtain ⟨k, hb, hl, hk⟩ := blkK_true hk
  obtain ⟨L, hL, rfl⟩ := hm.map_inv
  split at hk
  rotate_left
  · exact absurd hk (by simp)
  rename_i es clock hdd
  have hh := hr.hold b L k hL hb hl
  rw [hdd] at hh
  obtain ⟨xs, h1, h2⟩ := hh
  obtain ⟨ks, bs, hk, hks, hbs⟩ := collK_true h2 hk
  obtain ⟨hchk, hk⟩ := bif_true hk
  obtain ⟨r1, r2, r3, r4⟩ := bools4 hchk
  rw [numsK_eq, Nat.zero_add] at hk
  obtain ⟨hn, hk⟩ := bif_true hk
  have hn := ble_of hn
  have hsl : (sortN ks).length = ks.length := (sortN_perm ks).length_eq
  obtain ⟨D, hown, hsz, hperm⟩ := owns_of (P := P) (k := ρ10.t 26) hu h1 hks hbs r1 r2 r3 r4 (by omega)
  rw [hb0] at hcell ⊢
  have hltc : Lc.blk < w.heap.size := (hr.dom c Lc hLc).2.2
  have hseq : SeqGives Fence.wide (6 - 1 - 1 - 1) P (ρ10.f 10) #[.pointer (some ⟨Lc.blk, 0, none⟩)] encZ (fun ss => ss.Perm (intKeys D)) (Maps.size D) w :=
    AnyZI.keys_gives (ρ := ρ10) L10 Fence.wide _ trivial rfl (by omega) Lc.blk L.blk 1000 D w hltc (by simpa using hcell) hown
  have hcall := AnyZI.sorted_in L6 Fence.wide 6 trivial trivial trivial trivial rfl (by omega) (hsort _) e9 (ρ10.f 10) #[.pointer (some ⟨Lc.blk, 0, none⟩)] trivial e10 _ _ (Nat.le_trans hsz (by decide)) (by omega) w hseq
  refine .inl ⟨e6 _ _, (callsIn_wide.1 hcall).mono ?_⟩
  rintro e w' ⟨v, ss, rfl, hS, hrow, hnil, hbel⟩
  have hsrt := sorted_one (ks := ks) (riseN_true r1) (hS.trans hperm)
  have hss : ss.length = (sortN ks).length := by
    have := congrArg List.length hsrt
    rw [(List.mergeSort_perm ss _).length_eq] at this
    simpa using this
  have hbelow : Below B w w' := ⟨⟨hbel.os, hbel.tape, hbel.output, hbel.size, fun j hj => hbel.block j (Nat.lt_of_lt_of_le hj hr.size)⟩, fun r ds hd => by
    rw [hbel.block r (Array.getElem?_eq_some_iff.1 hd).1]; exact hd⟩
  have hkeep : HR B φ h w' := hr.keep hbel.size fun j hj => hbel.block j hj
  cases hsk : sortN ks with
  | nil =>
    rw [hsk] at hk hss
    have hv0 : v = .slice none 0 0 := hnil.2 (List.eq_nil_of_length_eq_zero hss)
    subst hv0
    exact ⟨.nils, h, φ, _, rfl, Ext.refl φ, .nils, hkeep, hbelow, hk⟩
  | cons a r =>
    rw [hsk] at hk hss hsrt hn
    obtain ⟨t, ht, hk⟩ := listK_true hk
    obtain ⟨h', ha, hk⟩ := addK_true hk
    obtain ⟨hxl, hv0 | ⟨g, cap, cur, rfl, q1, q2, q3, q4, q5, q6⟩⟩ := hrow
    · obtain ⟨_, hz⟩ := hv0
      rw [hz] at hss; simp at hss
    · have hgl : g < w'.heap.size := (Array.getElem?_eq_some_iff.1 q2).1
      have hfin := hr.newAt (k := ⟨h.next, 0, (a :: r).length, .cells t, none⟩) (g := g) (cs := cur.size) ha hbel.size (fun j hj => hbel.block j hj) q1 hgl (fun e he => by simp at he)
        ⟨cur, _, (0, 0), q2, rfl, open00 _, by simp only []; omega, fun j v hj hv => by
          rw [ht, if_pos (by simp at hj ⊢; omega)] at hv
          simp only [Nat.sub_zero] at hv
          have hv' : ((a :: r).map fun a : Nat => V.int .i64 (.ofNat a))[j]? = some v := by simpa using hv
          rw [List.getElem?_map] at hv'
          cases hz : (a :: r)[j]? with
          | none => rw [hz] at hv'; simp at hv'
          | some z =>
            rw [hz] at hv'; simp at hv'; subst hv'
            refine ⟨.int .i64 z, ?_, .int _ _⟩
            have := congrArg (fun l => l[j]?) q6
            simp only [hsrt, List.getElem?_take, List.getElem?_map, hz, Option.map_some] at this
            rw [if_pos (by rw [hss]; simp at hj ⊢; omega)] at this
            simpa [encZ] using this⟩
      refine ⟨_, h', _, _, rfl, Phi.ext_put (hr.unmapped (Nat.le_refl _)), ?_, hfin, hbelow, hk⟩
      have := VR.slice (φ := φ.put h.next ⟨g, 0, cur.size⟩) (b := h.next) (off := 0) (e := 1) (oc := none) (L := ⟨g, 0, cur.size⟩) (Phi.put_self _ _ _) (cap := cap) (len := (a :: r).length) (by simp only []; omega) (by omega) (fun c hc => by simp at hc)
      rw [hss]
      simpa using this
end Go.Ev
end
