/-
  THE ABSTRACT MACHINE, part 21: the region that draws its order, against the model.
-/
import Derived.Test.YtenggpnmocbfoaaGreatAm20
namespace Go.Am
set_option linter.unusedSectionVars false
variable [Sig]

theorem evalO_nt {G : Nat} {W0 : Base} {E : Env} {A : St} {w : World} (R : Rel G W0 E A w) {ρ : PT AV} {a : Act} {x : Operand} {v : AV} (hx : ∀ t, x ≠ .tmp t) (h : evalO G ρ x = some v) : real E v = some (a.eval x) := by
  cases x with
  | tmp t => exact absurd rfl (hx t)
  | const c => exact ofValue_ok E c v h
  | global g =>
    simp only [evalO] at h
    split at h
    · rename_i hg
      cases h
      obtain ⟨e, he, h1, h2⟩ := R.glob g (Nat.le_of_ble_eq_true hg)
      rw [real_ptr_mk 0 he, h1, h2]; rfl
    · cases h
  | func f => simp only [evalO] at h; cases h; rfl

def falses : List Bool → Nat
  | [] => 0
  | true :: l => falses l
  | false :: l => falses l + 1
theorem falses_set : ∀ {l : List Bool} {i : Nat}, l[i]? = some false → falses (l.set i true) + 1 = falses l
  | [], i, h => by simp at h
  | b :: l, 0, h => by simp only [List.getElem?_cons_zero, Option.some.injEq] at h; subst h; rfl
  | true :: l, i + 1, h => by simp only [List.getElem?_cons_succ] at h; exact falses_set (l := l) (i := i) h
  | false :: l, i + 1, h => by simp only [List.getElem?_cons_succ] at h; have := falses_set (l := l) (i := i) h; simp only [List.set_cons_succ, falses]; omega
theorem falses_zero : ∀ {l : List Bool} {i : Nat}, falses l = 0 → l[i]? ≠ some false
  | [], i, h => by simp
  | true :: l, 0, h => by simp
  | false :: l, _, h => by simp [falses] at h
  | true :: l, i + 1, h => by simp only [List.getElem?_cons_succ]; exact falses_zero (by simpa [falses] using h)
theorem falses_rep : ∀ n, falses (List.replicate n false) = n
  | 0 => rfl
  | n + 1 => by simp [List.replicate_succ, falses, falses_rep n]

theorem rep_no {n i : Nat} (h : (Array.replicate n false)[i]? = some true) : False := by
  rw [Array.getElem?_replicate] at h
  split at h <;> cases h
section
variable {P : Program} (C : Cfg P) (call : FuncId → List AV → St → Option (AV × St))

/-- What is promised, and was before. -/
def kb (W0 : Base) (recs : List Rec) (listed : Array Bool) : Base :=
  { W0 with K := fun b => W0.K b ∨ ∃ (i : Nat) (r : Rec), recs[i]? = some r ∧ r.flt = some b ∧ listed[i]? = some false }
/-- Where a walk through the region stands, in whatever order. -/
structure Inv (W0 : Base) (E0 : Env) (n : Nat) (ops : Array Oper) (recs : List Rec) (Af : St) (ρ : PT AV) (ds : List Deferred) (listed : Array Bool) (E : Env) (k : Nat) (a : Act) (w : World) : Prop where
  size : listed.size = recs.length
  closed : ∀ (i : Nat) r, recs[i]? = some r → listed[i]? = some true → ∀ e ∈ r.o.after.toList, Region.binds .any e = true → listed[e.on]? = some true
  anch : ∀ (i : Nat) r, recs[i]? = some r → r.anch = true → (listed[i]? = some true ↔ cnt recs i < k)
  env : E0.le E
  rel : ∃ A, (stages recs Af)[k]? = some A ∧ Rel C.G (kb W0 recs listed) E A w
  tsize : a.tmps.size = n
  tmps : ∀ t, (∀ (i : Nat) r, recs[i]? = some r → listed[i]? = some true → r.o.dst = some t → ∃ x, real E r.v = some x ∧ a.tmps[t]? = some x) ∧
    ((∀ (i : Nat) r, recs[i]? = some r → listed[i]? = some true → r.o.dst ≠ some t) → (∀ v, ρ.at_ t = some v → ∃ x, real E v = some x ∧ a.tmps[t]? = some x) ∧ (ρ.at_ t = none → a.tmps.getD t undef = undef))
  defers : a.defers = ds

variable {C call}
theorem Inv.ahead {W0 : Base} {E0 : Env} {n : Nat} {ops : Array Oper} {recs : List Rec} {Af : St} {ρ : PT AV} {ds : List Deferred} {listed : Array Bool} {E : Env} {k : Nat} {a : Act} {w : World} {ms : List Nat} (I : Inv C W0 E0 n ops recs Af ρ ds listed E k a w)
    (hm : MaskOk ops.toList ms) (hops : ∀ (i : Nat) r, recs[i]? = some r → ops.toList[i]? = some r.o) (hlen : recs.length = ops.toList.length) :
    ∀ (i : Nat), (∀ o, ops.toList[i]? = some o → ∀ e ∈ o.after.toList, Region.binds .any e = true → listed[e.on]? = some true) → ∀ j, (ms.getD i 0).testBit j = true → listed[j]? = some true := by
  intro i
  induction i using Nat.strongRecOn with
  | _ i ih =>
    intro hi j hj
    obtain ⟨o, e, h1, h2, h3, h4⟩ := hm i j hj
    have hl := hi o h1 e h2 h3
    rcases h4 with rfl | ⟨h4, h5⟩
    · exact hl
    · refine ih e.on h4 ?_ j h5
      intro o' ho' e' he' hb'
      have hlt : e.on < recs.length := by rw [hlen]; exact (List.getElem?_eq_some_iff.1 ho').1
      have hr := List.getElem?_eq_getElem hlt
      have ho2 := hops e.on _ hr
      rw [ho'] at ho2
      cases ho2
      exact I.closed e.on _ hr hl e' he' hb'

theorem draw_any (hcall : CallsOk C call) {W0 : Base} {E0 : Env} {n : Nat} {ops : Array Oper} {recs : List Rec} {ρf : PT AV} {Af A0 : St} {ρ : PT AV} {ds : List Deferred} {ms : List Nat} {Q : Exit → Act → World → Prop}
    {c0 : Nat} (hKb : ∀ d, W0.K d → d < c0) (S : Spec C call n ops ops.toList ρ A0 recs ρf Af c0) (L : Looked C call ops ms recs Af) (hm : MaskOk ops.toList ms)
    (hQ : ∀ E a w, E0.le E → Rel C.G W0 E Af w → TR E ρf n a → a.defers = ds → Q .normal a w) :
    ∀ (fuel : Nat) (listed : Array Bool) (E : Env) (k : Nat) (a : Act) (w : World), falses listed.toList = fuel → Inv C W0 E0 n ops recs Af ρ ds listed E k a w → wpAny P .any ops Q fuel listed a w := by
  have hops : ∀ (i : Nat) r, recs[i]? = some r → ops.toList[i]? = some r.o := fun i r hr => (S.here i r hr).1
  have hlen := S.len
  -- all is done
  have done : ∀ (listed : Array Bool) (E : Env) (k : Nat) (a : Act) (w : World), Inv C W0 E0 n ops recs Af ρ ds listed E k a w → (∀ i, i < recs.length → listed[i]? = some true) → Q .normal a w := by
    intro listed E k a w I hall
    obtain ⟨A, hA, hR⟩ := I.rel
    have hlast : A = Af := by
      have h1 : cnt recs recs.length ≤ k := by
        rcases Nat.eq_zero_or_pos (cnt recs recs.length) with h | h
        · omega
        · obtain ⟨j, q, h2, h3, h4, h5⟩ := cnt_ex recs recs.length (cnt recs recs.length - 1) (by omega)
          have := (I.anch j q h3 h4).1 (hall j (List.getElem?_eq_some_iff.1 h3).1)
          omega
      have h2 : (stages recs Af).length = cnt recs recs.length + 1 := by unfold stages cnt; simp
      have h3 := (List.getElem?_eq_some_iff.1 hA).1
      have : k = cnt recs recs.length := by omega
      rw [this, S.last] at hA
      exact (Option.some.inj hA).symm
    subst hlast
    have hR : Rel C.G W0 E A w := hR.weaken (K' := W0.K) fun _ hc => Or.inl hc
    refine hQ E a w I.env hR ⟨I.tsize, fun t v hv => ?_, fun t hv => ?_⟩ I.defers
    · by_cases hex : ∃ (i : Nat) (r : Rec), recs[i]? = some r ∧ r.o.dst = some t
      · obtain ⟨i, r, hr, hd⟩ := hex
        have := (S.fin t).1 i r hr hd (fun m s hm hs hsd => by have := L.apart i m r s t hr hs hd hsd; omega)
        rw [hv] at this
        obtain ⟨x, hx, hax⟩ := (I.tmps t).1 i r hr (hall i (List.getElem?_eq_some_iff.1 hr).1) hd
        rw [← Option.some.inj this] at hx
        exact ⟨x, hx, hax⟩
      · have hno : ∀ (j : Nat) q, recs[j]? = some q → q.o.dst ≠ some t := fun j q hq hd => hex ⟨j, q, hq, hd⟩
        rw [(S.fin t).2 hno] at hv
        exact ((I.tmps t).2 (fun i r hr _ => hno i r hr)).1 v hv
    · by_cases hex : ∃ (i : Nat) (r : Rec), recs[i]? = some r ∧ r.o.dst = some t
      · obtain ⟨i, r, hr, hd⟩ := hex
        have := (S.fin t).1 i r hr hd (fun m s hm hs hsd => by have := L.apart i m r s t hr hs hd hsd; omega)
        rw [hv] at this; cases this
      · have hno : ∀ (j : Nat) q, recs[j]? = some q → q.o.dst ≠ some t := fun j q hq hd => hex ⟨j, q, hq, hd⟩
        rw [(S.fin t).2 hno] at hv
        exact ((I.tmps t).2 (fun i r hr _ => hno i r hr)).2 hv
  have stuck : ∀ (listed : Array Bool) (E : Env) (k : Nat) (a : Act) (w : World), Inv C W0 E0 n ops recs Af ρ ds listed E k a w → Region.ready .any ops listed = [] → ∀ i, i < recs.length → listed[i]? = some true := by
    intro listed E k a w I hready i
    induction i using Nat.strongRecOn with
    | _ i ih =>
      intro hi
      have hi' : i < listed.size := by rw [I.size]; exact hi
      cases hb : listed[i] with
      | true => rw [Array.getElem?_eq_getElem hi', hb]
      | false =>
        exfalso
        have hr := List.getElem?_eq_getElem hi
        have hmem : i ∈ Region.ready .any ops listed := by
          rw [mem_ready]
          refine ⟨by simp [hi', hb], recs[i].o, ?_, ?_⟩
          · have := hops i _ hr; simpa using this
          · intro e he hbind
            have hlt := L.edges i _ hr e (by simpa using he) hbind
            have := ih e.on hlt (by omega)
            simp [this]
        rw [hready] at hmem
        cases hmem
  intro fuel
  induction fuel with
  | zero =>
    intro listed E k a w hf I
    have hnone : ∀ i, i < recs.length → listed[i]? = some true := fun i hi => by
      have hi' : i < listed.size := by rw [I.size]; exact hi
      have := falses_zero (i := i) hf
      rw [Array.getElem?_toList, Array.getElem?_eq_getElem hi'] at this
      rw [Array.getElem?_eq_getElem hi']
      cases hb : listed[i] with
      | true => rfl
      | false => rw [hb] at this; exact absurd rfl this
    refine ⟨?_, done listed E k a w I hnone⟩
    cases hr : Region.ready .any ops listed with
    | nil => rfl
    | cons i l =>
      have hmem : i ∈ Region.ready .any ops listed := by rw [hr]; simp
      rw [mem_ready] at hmem
      obtain ⟨h1, o, ho, _⟩ := hmem
      have hi : i < recs.length := by rw [hlen]; have := (Array.getElem?_eq_some_iff.1 ho).1; simpa using this
      have := hnone i hi
      simp [this] at h1
  | succ fuel ih =>
    intro listed E k a w hf I
    refine ⟨fun hr => done listed E k a w I (stuck listed E k a w I hr), fun i hi => ?_⟩
    rw [mem_ready] at hi
    obtain ⟨hun, o, ho, hedges⟩ := hi
    have hil : i < recs.length := by rw [hlen]; have := (Array.getElem?_eq_some_iff.1 ho).1; simpa using this
    have his : i < listed.size := by rw [I.size]; exact hil
    have hlf : listed[i]? = some false := by
      rw [Array.getElem?_eq_getElem his]
      simp [his] at hun
      rw [hun]
    obtain ⟨r, hr⟩ : ∃ r, recs[i]? = some r := ⟨_, List.getElem?_eq_getElem hil⟩
    obtain ⟨hro, hstage, hwant, hdn, hskip, hrun⟩ := S.here i r hr
    have hor : o = r.o := by
      rw [Array.getElem?_toList, ho] at hro
      exact Option.some.inj hro
    subst hor
    have hedg : ∀ e ∈ r.o.after.toList, Region.binds .any e = true → listed[e.on]? = some true := fun e he hb => by
      have := hedges e (by simpa using he) hb
      cases hl : listed[e.on]? with
      | none => simp [hl] at this
      | some b => simp [hl] at this; rw [this]
    have hahead : ∀ j, (ms.getD i 0).testBit j = true → listed[j]? = some true :=
      I.ahead hm hops hlen i (fun o' ho' e he hb => by rw [hro] at ho'; cases ho'; exact hedg e he hb)
    obtain ⟨A, hA, hR⟩ := I.rel
    -- the temporaries that are looked at
    have hlook : ∀ t, t ∈ Oper.looksAt ops r.o → (∀ v, r.ρ.at_ t = some v → ∃ x, real E v = some x ∧ a.tmps[t]? = some x) ∧ (r.ρ.at_ t = none → a.tmps.getD t undef = undef) := by
      intro t ht
      by_cases hex : ∃ (j : Nat) (q : Rec), recs[j]? = some q ∧ q.o.dst = some t
      · obtain ⟨j, q, hq, hd⟩ := hex
        have hbit := L.looks i j r q t hr hq hd ht
        have hlj := hahead j hbit
        have hji : j < i := by
          obtain ⟨o', e, h1, h2, h3, h4⟩ := hm i j hbit
          rw [hro] at h1; cases h1
          have he := L.edges i r hr e h2 h3
          rcases h4 with rfl | ⟨h4, h5⟩
          · exact he
          · -- by the masks, further ahead still
            have : ∀ (m : Nat), m < recs.length → ∀ j, (ms.getD m 0).testBit j = true → j < m := by
              intro m
              induction m using Nat.strongRecOn with
              | _ m ihm =>
                intro hm2 j hj
                obtain ⟨o2, e2, g1, g2, g3, g4⟩ := hm m j hj
                have hr2 := List.getElem?_eq_getElem hm2
                have := hops m _ hr2
                rw [g1] at this; cases this
                have he2 := L.edges m _ hr2 e2 g2 g3
                rcases g4 with rfl | ⟨g4, g5⟩
                · exact he2
                · have := ihm e2.on g4 (by omega) j g5; omega
            exact this i hil j hbit
        have hval := (S.told i r hr t).1 j q hji hq hd (fun m s hm1 _ hs hsd => by have := L.apart j m q s t hq hs hd hsd; omega)
        refine ⟨fun v hv => ?_, fun hv => ?_⟩
        · rw [hv] at hval
          obtain ⟨x, hx, hax⟩ := (I.tmps t).1 j q hq hlj hd
          rw [← Option.some.inj hval] at hx
          exact ⟨x, hx, hax⟩
        · rw [hv] at hval; cases hval
      · have hno : ∀ (j : Nat) q, recs[j]? = some q → q.o.dst ≠ some t := fun j q hq hd => hex ⟨j, q, hq, hd⟩
        have := (S.told i r hr t).2 (fun j q _ hq => hno j q hq)
        rw [this]
        exact (I.tmps t).2 (fun j q hq _ => hno j q hq)
    have hev : ∀ x ∈ r.o.op.operands.toList, ∀ v, evalO C.G r.ρ x = some v → real E v = some (a.eval x) := by
      intro x hx v hv
      cases x with
      | tmp t =>
        have ht : t ∈ Oper.looksAt ops r.o := List.mem_append_left _ (List.mem_filterMap.2 ⟨.tmp t, hx, rfl⟩)
        obtain ⟨h1, h2⟩ := hlook t ht
        simp only [evalO] at hv
        split at hv
        · rename_i u hu
          cases hv
          obtain ⟨y, hy, hay⟩ := h1 _ hu
          rw [hy]; simp only [Act.eval, Array.getD_eq_getD_getElem?, hay]; rfl
        · rename_i hu
          cases hv
          have := h2 hu
          show _ = some (a.tmps.getD t undef)
          rw [this]; rfl
      | const c => exact evalO_nt hR (by intro t h; cases h) hv
      | global g => exact evalO_nt hR (by intro t h; cases h) hv
      | func f => exact evalO_nt hR (by intro t h; cases h) hv
    have hwanted : Region.wanted r.o (yielded ops a.tmps) = r.want := by
      refine wantedA_ok (E := E) hwant fun j want g t v hg hj hgd hv => ?_
      have ht : t ∈ Oper.looksAt ops r.o := by
        unfold Oper.looksAt
        refine List.mem_append_right _ ?_
        rw [hg]
        simp only [hj, Option.bind_some, hgd]
        simp
      exact (hlook t ht).1 v hv
    have hless : ∀ d, (kb W0 recs (listed.setIfInBounds i true)).K d → (kb W0 recs listed).K d ∧ (∀ q, recs[i]? = some q → q.flt = some d → d < c0) := by
      intro d hd
      rcases hd with hd | ⟨j, q, h1, h2, h3⟩
      · exact ⟨Or.inl hd, fun _ _ _ => hKb d hd⟩
      · have hji : j ≠ i := by
          intro e
          subst e
          rw [Array.getElem?_setIfInBounds_self_of_lt his] at h3
          cases h3
        rw [Array.getElem?_setIfInBounds_ne (Ne.symm hji)] at h3
        exact ⟨Or.inr ⟨j, q, h1, h2, h3⟩, fun q' hq' hf => absurd (S.inj j i q q' d h1 hq' h2 hf) hji⟩
    -- what the step leaves
    have hset : ∀ (j : Nat), (listed.setIfInBounds i true)[j]? = if j = i then some true else listed[j]? := fun j => by
      by_cases hji : j = i
      · subst hji; rw [if_pos rfl, Array.getElem?_setIfInBounds_self_of_lt his]
      · rw [if_neg hji, Array.getElem?_setIfInBounds_ne (Ne.symm hji)]
    have hfs : falses (listed.setIfInBounds i true).toList = fuel := by
      have := falses_set (l := listed.toList) (i := i) (by rw [Array.getElem?_toList]; exact hlf)
      rw [Array.toList_setIfInBounds]; omega
    have next : ∀ (E' : Env) (x : Value) (w' : World) (k' : Nat) (A' : St), E.le E' → real E' r.v = some x → Rel C.G (kb W0 recs (listed.setIfInBounds i true)) E' A' w' → (stages recs Af)[k']? = some A' → (r.anch = true → k = cnt recs i ∧ k' = k + 1) → (r.anch = false → k' = k) →
        wpAny P .any ops Q fuel (listed.setIfInBounds i true) (a.put r.o.dst x) w' := by
      intro E' x w' k' A' hE' hx hR' hA' ha1 ha2
      refine ih _ E' k' _ w' hfs ⟨by simp [I.size], ?_, ?_, Env.le_trans I.env hE', ⟨A', hA', hR'⟩, ?_, ?_, ?_⟩
      · intro j q hq hj e he hb
        rw [hset] at hj ⊢
        have : listed[e.on]? = some true := by
          by_cases hji : j = i
          · subst hji; rw [hr] at hq; cases hq; exact hedg e he hb
          · rw [if_neg hji] at hj; exact I.closed j q hq hj e he hb
        split
        · rfl
        · exact this
      · intro j q hq hqa
        rw [hset]
        by_cases hji : j = i
        · subst hji
          rw [hr] at hq; cases hq
          obtain ⟨h1, h2⟩ := ha1 hqa
          simp only [if_true, true_iff]; omega
        · rw [if_neg hji]
          cases hra : r.anch with
          | false => rw [ha2 hra]; exact I.anch j q hq hqa
          | true =>
            obtain ⟨h1, h2⟩ := ha1 hra
            rw [I.anch j q hq hqa, h2, h1]
            have hne : cnt recs j ≠ cnt recs i := by
              rcases Nat.lt_or_gt_of_ne hji with h | h
              · have := cnt_lt recs j i q h hq hqa; omega
              · have := cnt_lt recs i j r h hr hra; omega
            omega
      · cases hd : r.o.dst with
        | none => exact I.tsize
        | some t => simp [Act.put, I.tsize]
      · intro t
        have htn : ∀ u, r.o.dst = some u → u < a.tmps.size := fun u hu => by rw [I.tsize]; exact hdn u hu
        have hother : r.o.dst ≠ some t → (a.put r.o.dst x).tmps[t]? = a.tmps[t]? := fun hne => by
          cases hd : r.o.dst with
          | none => rfl
          | some u =>
            rw [hd] at hne
            simp only [Act.put]
            rw [Array.getElem?_setIfInBounds_ne (fun e => hne (by rw [e]))]
        refine ⟨fun j q hq hj hqd => ?_, fun hno => ?_⟩
        · rw [hset] at hj
          by_cases hji : j = i
          · subst hji
            rw [hr] at hq; cases hq
            refine ⟨x, hx, ?_⟩
            rw [hqd]
            simp only [Act.put]
            rw [Array.getElem?_setIfInBounds_self_of_lt (htn t hqd)]
          · rw [if_neg hji] at hj
            obtain ⟨y, hy, hay⟩ := (I.tmps t).1 j q hq hj hqd
            refine ⟨y, real_le hE' _ _ hy, ?_⟩
            rw [hother (fun hd => hji (L.apart j i q r t hq hr hqd hd))]; exact hay
        · have hne : r.o.dst ≠ some t := hno i r hr (by rw [hset, if_pos rfl])
          obtain ⟨h1, h2⟩ := (I.tmps t).2 (fun j q hq hj => hno j q hq (by rw [hset]; split; rfl; exact hj))
          refine ⟨fun v hv => ?_, fun hv => ?_⟩
          · obtain ⟨y, hy, hay⟩ := h1 v hv
            exact ⟨y, real_le hE' _ _ hy, by rw [hother hne]; exact hay⟩
          · have := h2 hv
            simp only [Array.getD_eq_getD_getElem?] at this ⊢
            rw [hother hne]; exact this
      · have : ∀ d y, (a.put d y).defers = a.defers := fun d y => by cases d <;> rfl
        rw [this]; exact I.defers
    unfold wpOp
    simp only [ho]
    rw [hwanted]
    cases hrw : r.want with
    | false =>
      simp only [Bool.false_eq_true, if_false]
      obtain ⟨hv, hna, _⟩ := hskip hrw
      exact next E undef w k A E.le_refl (by rw [hv]; exact real_undef E) (hR.weaken fun d hd => (hless d hd).1) hA (fun h => by rw [hna] at h; cases h) (fun _ => rfl)
    | true =>
      simp only [if_true]
      left
      obtain ⟨A2, hs, hs2⟩ := hrun hrw
      cases hra : r.anch with
      | true =>
        rw [hra] at hs
        have hk : k = cnt recs i := by
          have h1 : ¬ (cnt recs i < k) := fun h => by have := (I.anch i r hr hra).2 h; rw [hlf] at this; cases this
          have h2 : cnt recs i ≤ k := by
            rcases Nat.eq_zero_or_pos (cnt recs i) with h | h
            · omega
            · obtain ⟨j, q, g1, g2, g3, g4⟩ := cnt_ex recs i (cnt recs i - 1) (by omega)
              have hb := L.anchs i j r q hr g2 hra g3 g1
              have := (I.anch j q g2 g3).1 (hahead j hb)
              omega
          omega
        have hAA : A = r.A := by rw [hk, hstage] at hA; exact (Option.some.inj hA).symm
        subst hAA
        have hfn : r.flt = none := by
          cases hf : r.flt with
          | none => rfl
          | some c =>
            rw [hf] at hs
            unfold stepF at hs
            simp only at hs
            split at hs
            · split at hs
              · cases hs
              · cases hs
            · cases hs
        rw [hfn] at hs
        refine step_wp C call hcall hs hR hev fun E' x w' hE' hx hR' => ?_
        exact next E' x w' (k + 1) A2 hE' hx (hR'.weaken fun d hd => (hless d hd).1) (by rw [hk]; exact hs2 hra) (fun _ => ⟨hk, rfl⟩) (fun h => by rw [hra] at h; cases h)
      | false =>
        obtain ⟨A3, hs3⟩ := L.stays i r hr hra hrw k A hA
          (fun j q hq hqa hb => (I.anch j q hq hqa).1 (hahead j hb))
          (fun j q hq hqa hb => by
            rcases Nat.lt_or_ge (cnt recs j) k with h | h
            · have hlj := (I.anch j q hq hqa).2 h
              have := I.ahead hm hops hlen j (fun o' ho' e he hbd => by have := hops j q hq; rw [ho'] at this; cases this; exact I.closed j q hq hlj e he hbd) i hb
              rw [hlf] at this; cases this
            · exact h)
        have hA3 := stepF_pure C call hs3
        subst hA3
        cases hf : r.flt with
        | none =>
          rw [hf] at hs3
          refine step_wp C call hcall hs3 hR hev fun E' x w' hE' hx hR' => ?_
          exact next E' x w' k A3 hE' hx (hR'.weaken fun d hd => (hless d hd).1) hA (fun h => by rw [hra] at h; cases h) (fun _ => rfl)
        | some c =>
          rw [hf] at hs3
          unfold stepF at hs3
          simp only at hs3
          split at hs3
          · rename_i t hop
            split at hs3
            · rename_i hrz
              simp only [Option.some.injEq, Prod.mk.injEq, true_and, and_true] at hs3
              have hlo := (S.flo i r c hr hf).1
              refine float_wp hR hop (Or.inr ⟨i, r, hr, hf, hlf⟩) hrz (K' := (kb W0 recs (listed.setIfInBounds i true)).K) (fun d hd => ⟨(hless d hd).1, fun e => ?_⟩) fun E' x w' hE' hx hR' => ?_
              · subst e
                have := (hless d hd).2 r hr hf
                omega
              · exact next E' x w' k A3 hE' (by rw [← hs3]; exact hx) hR' hA (fun h => by rw [hra] at h; cases h) (fun _ => rfl)
            · cases hs3
          · cases hs3

theorem start_kb {n : Nat} {ops : Array Oper} {l : List Oper} {ρ ρf : PT AV} {W0 : Base} {recs : List Rec} {E : Env} {A1 Af A0 : St} {c : Nat} {w : World} {L : Array Bool} (S : Spec C call n ops l ρ A0 recs ρf Af c) (R : Rel C.G { W0 with K := fun b => W0.K b ∨ (c ≤ b ∧ b < c + nf l) } E A1 w) :
    Rel C.G (kb W0 recs L) E A1 w :=
  R.weaken (K' := (kb W0 recs L).K) fun d hd => by
    rcases hd with hd | ⟨i, r, h1, h2, _⟩
    · exact Or.inl hd
    · exact Or.inr (S.flo i r d h1 h2)
theorem runDraw_ok (hm : P.follows .mixedOrders = true) (hcall : CallsOk C call) {W0 : Base} {n id : Nat} {ops : Array Oper} {Q : Exit → Act → World → Prop} {E : Env} {ρ ρ' : PT AV} {A A' : St} {a : Act} {w : World}
    (h : runDraw C call n ops ρ A = some (ρ', A')) (R : Rel C.G W0 E A w) (T : TR E ρ n a)
    (hQ : ∀ E' a' w', E.le E' → Rel C.G W0 E' A' w' → TR E' ρ' n a' → a'.defers = a.defers → Q .normal a' w') : (Code.region id ops true).wp P Q a w := by
  unfold runDraw at h
  split at h
  · cases h
  rename_i A1 hho
  split at h
  · rename_i recs ρf Af hd
    split at h
    · rename_i hc
      cases h
      have S := drawGo_spec C call hd
      have L := chk_ok C call hc
      have hmask : MaskOk ops.toList (masksGo ops.toList []) := by
        have := masksGo_ok ops.toList [] [] rfl (fun i j h => by simp at h)
        simpa using this
      refine wp_region_any hm ?_
      refine draw_any hcall (fun d hd => (R.keep d hd).2) S L hmask hQ ops.size _ E 0 a _ ?_ ⟨by simp [S.len], ?_, ?_, E.le_refl, ⟨A1, S.first, start_kb S (hoist_ok hho R.drew)⟩, T.size, ?_, rfl⟩
      · simp [falses_rep]
      · intro i r hr hl; exact (rep_no hl).elim
      · intro i r hr hra
        constructor
        · intro hl; exact (rep_no hl).elim
        · intro hl; omega
      · intro t
        refine ⟨fun i r hr hl => (rep_no hl).elim, fun _ => ⟨fun v hv => T.some t v hv, fun hv => T.none t hv⟩⟩
    · cases h
  · cases h
end
end Go.Am
