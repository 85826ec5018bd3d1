/-
  THE ABSTRACT MACHINE, part 19: regions that draw their order: run in the order of the text, and looked at whether any other order could tell.
-/
import Derived.Test.YtenggpnmocbfoaaGreatAm18b
namespace Go.Am
set_option linter.unusedSectionVars false
variable [Sig]

structure Rec where
  o : Oper
  want : Bool
  anch : Bool
  v : AV
  ρ : PT AV
  A : St
  flt : Option Nat

/-- An unguarded allocation may float: what it allocates. -/
def flT (o : Oper) : Option TypeId :=
  match o.guard with
  | some _ => none
  | none => match o.op with
    | .alloc t => some t
    | _ => none
def fltOf (o : Oper) (b : Nat) : Option Nat :=
  match flT o with
  | some _ => some b
  | none => none
def nextB (o : Oper) (b : Nat) : Nat :=
  match flT o with
  | some _ => b + 1
  | none => b
def nf : List Oper → Nat
  | [] => 0
  | o :: l => match flT o with
    | some _ => nf l + 1
    | none => nf l

section
variable {P : Program} (C : Cfg P) (call : FuncId → List AV → St → Option (AV × St))
def stepF (flt : Option Nat) (A : St) (ρ : PT AV) (o : Op) : Option (Bool × AV × St) :=
  match flt with
  | none => stepA C call A ρ o
  | some b => match o with
    | .alloc t => match rowZero P A b t with
      | true => some (false, .ptr b 0, A)
      | false => none
    | _ => none
def drawGo (n : Nat) (ops : Array Oper) : List Oper → Nat → PT AV → St → Option (List Rec × PT AV × St)
  | [], _, ρ, A => some ([], ρ, A)
  | o :: rest, c, ρ, A => match wantedA ops ρ o with
    | some true => match stepF C call (fltOf o c) A ρ o.op with
      | some (b, v, A') => match putT ρ n o.dst v with
        | some ρ' => match drawGo n ops rest (nextB o c) ρ' A' with
          | some (l, r) => some (⟨o, true, b, v, ρ, A, fltOf o c⟩ :: l, r)
          | none => none
        | none => none
      | none => none
    | some false => match putT ρ n o.dst undefA with
      | some ρ' => match drawGo n ops rest (nextB o c) ρ' A with
        | some (l, r) => some (⟨o, false, false, undefA, ρ, A, none⟩ :: l, r)
        | none => none
      | none => none
    | none => none
def cnt (l : List Rec) (i : Nat) : Nat := ((l.take i).filter (·.anch)).length
def stages (l : List Rec) (Af : St) : List St := ((l.filter (·.anch)).map (·.A)) ++ [Af]
theorem cnt_zero (l : List Rec) : cnt l 0 = 0 := rfl
theorem cnt_succ (r : Rec) (l : List Rec) (i : Nat) : cnt (r :: l) (i + 1) = (if r.anch then 1 else 0) + cnt l i := by
  unfold cnt
  simp only [List.take_succ_cons, List.filter_cons]
  cases r.anch <;> simp <;> omega
theorem stages_cons (r : Rec) (l : List Rec) (Af : St) : stages (r :: l) Af = if r.anch then r.A :: stages l Af else stages l Af := by
  unfold stages
  simp only [List.filter_cons]
  cases r.anch <;> simp
theorem stepA_pure {A A' : St} {ρ : PT AV} {o : Op} {v : AV} (h : stepA C call A ρ o = some (false, v, A')) : A' = A := by
  unfold stepA at h
  split at h
  · cases h; rfl
  · cases h
  · split at h
    · cases h
    · cases h
  · cases h
theorem stepF_pure {flt : Option Nat} {A A' : St} {ρ : PT AV} {o : Op} {v : AV} (h : stepF C call flt A ρ o = some (false, v, A')) : A' = A := by
  unfold stepF at h
  split at h
  · exact stepA_pure C call h
  · split at h
    · split at h
      · cases h; rfl
      · cases h
    · cases h

structure Spec (n : Nat) (ops : Array Oper) (l : List Oper) (ρ : PT AV) (A : St) (recs : List Rec) (ρf : PT AV) (Af : St) (c : Nat) : Prop where
  len : recs.length = l.length
  first : (stages recs Af)[0]? = some A
  here : ∀ (i : Nat) r, recs[i]? = some r → l[i]? = some r.o ∧ (stages recs Af)[cnt recs i]? = some r.A ∧ wantedA ops r.ρ r.o = some r.want ∧ (∀ t, r.o.dst = some t → t < n) ∧
    (r.want = false → r.v = undefA ∧ r.anch = false ∧ r.flt = none) ∧
    (r.want = true → ∃ A', stepF C call r.flt r.A r.ρ r.o.op = some (r.anch, r.v, A') ∧ (r.anch = true → (stages recs Af)[cnt recs i + 1]? = some A'))
  told : ∀ (i : Nat) r, recs[i]? = some r → ∀ t, (∀ (j : Nat) q, j < i → recs[j]? = some q → q.o.dst = some t → (∀ (m : Nat) s, j < m → m < i → recs[m]? = some s → s.o.dst ≠ some t) → r.ρ.at_ t = some q.v) ∧ ((∀ (j : Nat) q, j < i → recs[j]? = some q → q.o.dst ≠ some t) → r.ρ.at_ t = ρ.at_ t)
  fin : ∀ t, (∀ (j : Nat) q, recs[j]? = some q → q.o.dst = some t → (∀ (m : Nat) s, j < m → recs[m]? = some s → s.o.dst ≠ some t) → ρf.at_ t = some q.v) ∧ ((∀ (j : Nat) q, recs[j]? = some q → q.o.dst ≠ some t) → ρf.at_ t = ρ.at_ t)
  last : (stages recs Af)[cnt recs recs.length]? = some Af
  flo : ∀ (i : Nat) r b, recs[i]? = some r → r.flt = some b → c ≤ b ∧ b < c + nf l
  inj : ∀ (i j : Nat) r q b, recs[i]? = some r → recs[j]? = some q → r.flt = some b → q.flt = some b → i = j

theorem putT_at {ρ ρ' : PT AV} {n : Nat} {d : Option Tmp} {v : AV} (h : putT ρ n d v = some ρ') : (∀ t, d = some t → t < n ∧ ρ'.at_ t = some v) ∧ ∀ t, d ≠ some t → ρ'.at_ t = ρ.at_ t := by
  cases d with
  | none => simp only [putT] at h; cases h; exact ⟨fun t ht => (by cases ht), fun _ _ => rfl⟩
  | some u =>
    simp only [putT] at h
    split at h
    · rename_i hu
      cases h
      refine ⟨fun t ht => ?_, fun t ht => ?_⟩
      · cases ht; exact ⟨Nat.le_of_ble_eq_true hu, PT.at_put_same _ _ _⟩
      · exact PT.at_put_ne _ _ (fun e => ht (by rw [e]))
    · cases h

theorem Spec.cons {n : Nat} {ops : Array Oper} {l : List Oper} {ρ ρ' ρf : PT AV} {A A' Af : St} {recs : List Rec} {r : Rec} {c : Nat} (S : Spec C call n ops l ρ' A' recs ρf Af (nextB r.o c)) (hfl : r.flt = none ∨ r.flt = fltOf r.o c)
    (hp : putT ρ n r.o.dst r.v = some ρ') (hρ : r.ρ = ρ) (hA : r.A = A) (hw : wantedA ops r.ρ r.o = some r.want) (hf : r.want = false → r.v = undefA ∧ r.anch = false ∧ A' = A ∧ r.flt = none) (ht : r.want = true → stepF C call r.flt r.A r.ρ r.o.op = some (r.anch, r.v, A')) :
    Spec C call n ops (r.o :: l) ρ A (r :: recs) ρf Af c := by
  obtain ⟨hp1, hp2⟩ := putT_at hp
  have hA' : r.anch = false → A' = A := fun h => by
    cases hwa : r.want with
    | false => exact (hf hwa).2.2.1
    | true =>
      have := ht hwa
      rw [h] at this
      rw [stepF_pure C call this, hA]
  have hst : ∀ k, (stages (r :: recs) Af)[(if r.anch then 1 else 0) + k]? = (stages recs Af)[k]? := fun k => by
    rw [stages_cons]
    cases r.anch with
    | true => simp only [if_true]; rw [Nat.add_comm 1 k, List.getElem?_cons_succ]
    | false => simp
  have hfirst : (stages (r :: recs) Af)[0]? = some A := by
    rw [stages_cons]
    cases hanc : r.anch with
    | true => simp [hA]
    | false => simp only [Bool.false_eq_true, if_false]; rw [S.first, hA' hanc]
  refine ⟨by simp [S.len], hfirst, ?_, ?_, ?_, ?_, ?_, ?_⟩
  · intro i q hq
    cases i with
    | zero =>
      simp only [List.getElem?_cons_zero, Option.some.injEq] at hq
      subst hq
      refine ⟨rfl, by rw [cnt_zero, hfirst, hA], hw, fun t h => (hp1 t h).1, fun h => ⟨(hf h).1, (hf h).2.1, (hf h).2.2.2⟩, fun h => ⟨A', ht h, fun hanc => ?_⟩⟩
      rw [cnt_zero]
      have := hst 0
      rw [hanc] at this
      simp only [if_true] at this
      rw [this]; exact S.first
    | succ i =>
      simp only [List.getElem?_cons_succ] at hq
      obtain ⟨h1, h2, h3, h4, h5, h6⟩ := S.here i q hq
      refine ⟨h1, by rw [cnt_succ, hst]; exact h2, h3, h4, h5, fun h => ?_⟩
      obtain ⟨A2, h7, h8⟩ := h6 h
      exact ⟨A2, h7, fun hanc => by rw [cnt_succ, Nat.add_assoc, hst]; exact h8 hanc⟩
  · intro i q hq t
    cases i with
    | zero =>
      simp only [List.getElem?_cons_zero, Option.some.injEq] at hq
      subst hq
      exact ⟨fun j _ hj => by omega, fun _ => by rw [hρ]⟩
    | succ i =>
      simp only [List.getElem?_cons_succ] at hq
      obtain ⟨h1, h2⟩ := S.told i q hq t
      refine ⟨fun j s hj hs hd hno => ?_, fun hno => ?_⟩
      · cases j with
        | zero =>
          simp only [List.getElem?_cons_zero, Option.some.injEq] at hs
          subst hs
          rw [h2 (fun j s hj hs => hno (j + 1) s (by omega) (by omega) (by simpa using hs))]
          exact (hp1 t hd).2
        | succ j =>
          exact h1 j s (by omega) (by simpa using hs) hd (fun m u hm hm2 hu => hno (m + 1) u (by omega) (by omega) (by simpa using hu))
      · rw [h2 (fun j s hj hs => hno (j + 1) s (by omega) (by simpa using hs))]
        exact hp2 t (hno 0 r (by omega) rfl)
  · intro t
    obtain ⟨h1, h2⟩ := S.fin t
    refine ⟨fun j s hs hd hno => ?_, fun hno => ?_⟩
    · cases j with
      | zero =>
        simp only [List.getElem?_cons_zero, Option.some.injEq] at hs
        subst hs
        rw [h2 (fun j s hs => hno (j + 1) s (by omega) (by simpa using hs))]
        exact (hp1 t hd).2
      | succ j => exact h1 j s (by simpa using hs) hd (fun m u hm hu => hno (m + 1) u (by omega) (by simpa using hu))
    · rw [h2 (fun j s hs => hno (j + 1) s (by simpa using hs))]
      exact hp2 t (hno 0 r rfl)
  · rw [List.length_cons, cnt_succ, hst]; exact S.last
  · intro i q b hq hb
    cases i with
    | zero =>
      simp only [List.getElem?_cons_zero, Option.some.injEq] at hq
      subst hq
      rcases hfl with h | h
      · rw [h] at hb; cases hb
      · rw [h] at hb
        unfold fltOf at hb
        unfold nf
        cases hT : flT r.o with
        | none => rw [hT] at hb; cases hb
        | some t => rw [hT] at hb; cases hb; simp only; omega
    | succ i =>
      simp only [List.getElem?_cons_succ] at hq
      have := S.flo i q b hq hb
      unfold nextB at this
      unfold nf
      cases hT : flT r.o with
      | none => rw [hT] at this; exact this
      | some t => rw [hT] at this; simp only at this ⊢; omega
  · have hd : ∀ (i : Nat) q b, recs[i]? = some q → q.flt = some b → r.flt ≠ some b := by
      intro i q b hq hb hr
      have := (S.flo i q b hq hb).1
      rcases hfl with h | h
      · rw [h] at hr; cases hr
      · rw [h] at hr
        unfold fltOf at hr
        unfold nextB at this
        cases hT : flT r.o with
        | none => rw [hT] at hr; cases hr
        | some t => rw [hT] at hr this; cases hr; simp only at this; omega
    intro i j q s b hq hs hqb hsb
    cases i with
    | zero =>
      simp only [List.getElem?_cons_zero, Option.some.injEq] at hq
      subst hq
      cases j with
      | zero => rfl
      | succ j => simp only [List.getElem?_cons_succ] at hs; exact absurd hqb (hd j s b hs hsb)
    | succ i =>
      simp only [List.getElem?_cons_succ] at hq
      cases j with
      | zero =>
        simp only [List.getElem?_cons_zero, Option.some.injEq] at hs
        subst hs
        exact absurd hsb (hd i q b hq hqb)
      | succ j => simp only [List.getElem?_cons_succ] at hs; rw [S.inj i j q s b hq hs hqb hsb]
theorem drawGo_spec {n : Nat} {ops : Array Oper} : ∀ {l : List Oper} {c : Nat} {ρ : PT AV} {A : St} {recs : List Rec} {ρf : PT AV} {Af : St}, drawGo C call n ops l c ρ A = some (recs, ρf, Af) → Spec C call n ops l ρ A recs ρf Af c
  | [], c, ρ, A, recs, ρf, Af, h => by
    simp only [drawGo, Option.some.injEq, Prod.mk.injEq] at h
    obtain ⟨rfl, rfl, rfl⟩ := h
    exact ⟨rfl, rfl, fun i r hr => by simp at hr, fun i r hr => by simp at hr, fun t => ⟨fun j q hq => by simp at hq, fun _ => rfl⟩, rfl, fun i r b hr => by simp at hr, fun i j r q b hr => by simp at hr⟩
  | o :: rest, c, ρ, A, recs, ρf, Af, h => by
    simp only [drawGo] at h
    split at h
    · rename_i hw
      split at h
      · rename_i b v A' hs
        split at h
        · rename_i ρ' hp
          split at h
          · rename_i l r hd
            simp only [Option.some.injEq, Prod.mk.injEq] at h
            obtain ⟨rfl, rfl⟩ := h
            exact (drawGo_spec hd).cons C call (r := ⟨o, true, b, v, ρ, A, fltOf o c⟩) (Or.inr rfl) hp rfl rfl hw (fun h => by cases h) (fun _ => hs)
          · cases h
        · cases h
      · cases h
    · rename_i hw
      split at h
      · rename_i ρ' hp
        split at h
        · rename_i l r hd
          simp only [Option.some.injEq, Prod.mk.injEq] at h
          obtain ⟨rfl, rfl⟩ := h
          exact (drawGo_spec hd).cons C call (r := ⟨o, false, false, undefA, ρ, A, none⟩) (Or.inl rfl) hp rfl rfl hw (fun _ => ⟨rfl, rfl, rfl, rfl⟩) (fun h => by cases h)
        · cases h
      · cases h
    · cases h
theorem cnt_lt : ∀ (l : List Rec) (j i : Nat) (q : Rec), j < i → l[j]? = some q → q.anch = true → cnt l j < cnt l i
  | [], j, i, q, _, h, _ => by simp at h
  | r :: l, j, i, q, hji, h, ha => by
    cases i with
    | zero => omega
    | succ i =>
      rw [cnt_succ]
      cases j with
      | zero => simp only [List.getElem?_cons_zero, Option.some.injEq] at h; subst h; rw [ha, cnt_zero]; simp only [if_true]; omega
      | succ j => rw [cnt_succ]; have := cnt_lt l j i q (by omega) (by simpa using h) ha; omega
theorem cnt_ex : ∀ (l : List Rec) (i c : Nat), cnt l i = c + 1 → ∃ j q, j < i ∧ l[j]? = some q ∧ q.anch = true ∧ cnt l j = c
  | [], i, c, h => by simp [cnt] at h
  | r :: l, 0, c, h => by simp [cnt] at h
  | r :: l, i + 1, c, h => by
    rw [cnt_succ] at h
    cases hl : cnt l i with
    | zero =>
      rw [hl] at h
      cases ha : r.anch with
      | true => rw [ha] at h; simp only [if_true] at h; exact ⟨0, r, by omega, rfl, ha, by rw [cnt_zero]; omega⟩
      | false => rw [ha] at h; simp at h
    | succ d =>
      obtain ⟨j, q, h1, h2, h3, h4⟩ := cnt_ex l i d hl
      refine ⟨j + 1, q, by omega, by simpa using h2, h3, ?_⟩
      rw [cnt_succ, h4]; omega

/- WHAT STANDS AHEAD OF WHAT. -/
def maskOf (ms : List Nat) : List Edge → Nat
  | [] => 0
  | e :: es => match Region.binds .any e with
    | true => (2 ^ e.on ||| ms.getD e.on 0) ||| maskOf ms es
    | false => maskOf ms es
def masksGo : List Oper → List Nat → List Nat
  | [], ms => ms
  | o :: os, ms => masksGo os (ms ++ [maskOf ms o.after.toList])
theorem maskOf_bit {ms : List Nat} {j : Nat} : ∀ {es : List Edge}, (maskOf ms es).testBit j = true → ∃ e ∈ es, Region.binds .any e = true ∧ (j = e.on ∨ (ms.getD e.on 0).testBit j = true)
  | [], h => by simp [maskOf] at h
  | e :: es, h => by
    simp only [maskOf] at h
    split at h
    · rename_i hb
      rw [Nat.testBit_or, Nat.testBit_or, Bool.or_eq_true, Bool.or_eq_true] at h
      rcases h with (h | h) | h
      · rw [Nat.testBit_two_pow] at h
        exact ⟨e, by simp, hb, Or.inl (by simpa using (of_decide_eq_true h).symm)⟩
      · exact ⟨e, by simp, hb, Or.inr h⟩
      · obtain ⟨e', h1, h2⟩ := maskOf_bit h; exact ⟨e', by simp [h1], h2⟩
    · obtain ⟨e', h1, h2⟩ := maskOf_bit h; exact ⟨e', by simp [h1], h2⟩
/-- every set bit is of an edge, or of one ahead of an edge's end -/
def MaskOk (ops : List Oper) (ms : List Nat) : Prop :=
  ∀ (i j : Nat), (ms.getD i 0).testBit j = true → ∃ o e, ops[i]? = some o ∧ e ∈ o.after.toList ∧ Region.binds .any e = true ∧ (j = e.on ∨ (e.on < i ∧ (ms.getD e.on 0).testBit j = true))
theorem masksGo_ok : ∀ (os done : List Oper) (ms : List Nat), ms.length = done.length → MaskOk done ms → MaskOk (done ++ os) (masksGo os ms)
  | [], done, ms, _, h => by simpa [masksGo] using h
  | o :: os, done, ms, hl, h => by
    simp only [masksGo]
    have : done ++ o :: os = (done ++ [o]) ++ os := by simp
    rw [this]
    refine masksGo_ok os (done ++ [o]) _ (by simp [hl]) ?_
    intro i j hij
    by_cases hi : i < ms.length
    · have e1 : (ms ++ [maskOf ms o.after.toList]).getD i 0 = ms.getD i 0 := by simp [List.getD_eq_getElem?_getD, List.getElem?_append_left hi]
      rw [e1] at hij
      obtain ⟨o', e, h1, h2, h3, h4⟩ := h i j hij
      refine ⟨o', e, by rw [List.getElem?_append_left (by omega)]; exact h1, h2, h3, ?_⟩
      rcases h4 with h4 | ⟨h4, h5⟩
      · exact Or.inl h4
      · refine Or.inr ⟨h4, ?_⟩
        have : (ms ++ [maskOf ms o.after.toList]).getD e.on 0 = ms.getD e.on 0 := by simp [List.getD_eq_getElem?_getD, List.getElem?_append_left (show e.on < ms.length by omega)]
        rw [this]; exact h5
    · by_cases hi2 : i = ms.length
      · subst hi2
        have e1 : (ms ++ [maskOf ms o.after.toList]).getD ms.length 0 = maskOf ms o.after.toList := by simp [List.getD_eq_getElem?_getD]
        rw [e1] at hij
        obtain ⟨e, h1, h2, h3⟩ := maskOf_bit hij
        refine ⟨o, e, by rw [hl]; simp, h1, h2, ?_⟩
        rcases h3 with h3 | h3
        · exact Or.inl h3
        · have hlt : e.on < ms.length := by
            rcases Nat.lt_or_ge e.on ms.length with h | h
            · exact h
            · simp [List.getD_eq_getElem?_getD, List.getElem?_eq_none h] at h3
          refine Or.inr ⟨hlt, ?_⟩
          have : (ms ++ [maskOf ms o.after.toList]).getD e.on 0 = ms.getD e.on 0 := by simp [List.getD_eq_getElem?_getD, List.getElem?_append_left hlt]
          rw [this]; exact h3
      · have : (ms ++ [maskOf ms o.after.toList]).getD i 0 = 0 := by
          rw [List.getD_eq_getElem?_getD, List.getElem?_eq_none (by simp; omega)]; rfl
        rw [this] at hij
        simp at hij
end
end Go.Am
