/-
  THE ABSTRACT MACHINE, part 25: staged: a body, and a table of functions.
-/
import Derived.Test.YtenggpnmocbfoaaGreatAm24
namespace Go.Am
set_option linter.unusedSectionVars false
variable [Sig]

structure FD where
  run : Nat → PT AV → St → Option (List Rec × PT AV × St)
structure FH where
  run : St → Option St
structure FC where
  run : PT AV → St → Option (AX × PT AV × St)
structure FF where
  run : List AV → St → Option (AV × St)
structure FT where
  get : FuncId → FF

section
variable {P : Program} (C : Cfg P) (call : FuncId → List AV → St → Option (AV × St))
def consR (o : Oper) (w b : Bool) (v : AV) (ρ : PT AV) (A : St) (r : Option (List Rec × PT AV × St)) : Option (List Rec × PT AV × St) :=
  match r with
  | some (l, r) => some (⟨o, w, b, v, ρ, A, none⟩ :: l, r)
  | none => none
def consF (o : Oper) (c : Nat) (ρ : PT AV) (A : St) (r : Option (List Rec × PT AV × St)) : Option (List Rec × PT AV × St) :=
  match r with
  | some (l, r) => some (⟨o, true, false, .ptr c 0, ρ, A, some c⟩ :: l, r)
  | none => none
def stepD (fx : FX) (n : Nat) (o : Oper) (k : PT AV → St → Option (List Rec × PT AV × St)) (ρ : PT AV) (A : St) : Option (List Rec × PT AV × St) :=
  match fx.run ρ A with
  | .pure v => consR o true false v ρ A (putK ρ n o.dst v fun ρ' => k ρ' A)
  | .eff v A' => consR o true true v ρ A (putK ρ n o.dst v fun ρ' => k ρ' A')
  | .call f args => match call f args A with
    | some (v, A') => consR o true true v ρ A (putK ρ n o.dst v fun ρ' => k ρ' A')
    | none => none
  | .no => none
def decD (n : Nat) (ops : Array Oper) : List Oper → FD
  | [] => ⟨fun _ ρ A => some ([], ρ, A)⟩
  | o :: rest => match flT o with
    | some t => ⟨fun c ρ A => match rowZero P A c t with
      | true => consF o c ρ A (putK ρ n o.dst (.ptr c 0) fun ρ' => (decD n ops rest).run (c + 1) ρ' A)
      | false => none⟩
    | none => match o.guard with
      | none => ⟨fun c ρ A => stepD call (dec C o.op) n o ((decD n ops rest).run c) ρ A⟩
      | some _ => ⟨fun c ρ A => match wantedA ops ρ o with
        | some true => stepD call (dec C o.op) n o ((decD n ops rest).run c) ρ A
        | some false => consR o false false undefA ρ A (putK ρ n o.dst undefA fun ρ' => (decD n ops rest).run c ρ' A)
        | none => none⟩
/-- At a region's head. -/
def decH : List Oper → FH
  | [] => ⟨fun A => some A⟩
  | o :: rest => match flT o with
    | none => decH rest
    | some t => match aZero P t with
      | some z => ⟨fun A => (decH rest).run (newRow A t z.cells)⟩
      | none => ⟨fun _ => none⟩
theorem decH_eq : ∀ (l : List Oper) (A : St), (decH (P := P) l).run A = hoist P l A
  | [], A => rfl
  | o :: rest, A => by
    simp only [decH, hoist]
    cases flT o with
    | none => exact decH_eq rest A
    | some t =>
      dsimp only
      cases aZero P t with
      | none => rfl
      | some z => exact decH_eq rest _
theorem stepD_eq (o : Oper) (n : Nat) (k : PT AV → St → Option (List Rec × PT AV × St)) (ρ : PT AV) (A : St) :
    stepD call (dec C o.op) n o k ρ A = match stepA C call A ρ o.op with
      | some (b, v, A') => match putT ρ n o.dst v with
        | some ρ' => match k ρ' A' with
          | some (l, r) => some (⟨o, true, b, v, ρ, A, none⟩ :: l, r)
          | none => none
        | none => none
      | none => none := by
  unfold stepD stepA
  rw [dec_eq]
  cases exec C A ρ o.op with
  | pure v => simp only [putK_eq]; cases putT ρ n o.dst v <;> rfl
  | eff v A' => simp only [putK_eq]; cases putT ρ n o.dst v <;> rfl
  | call f args =>
    simp only [putK_eq]
    cases call f args A with
    | none => rfl
    | some p => obtain ⟨v, A'⟩ := p; dsimp only; cases putT ρ n o.dst v <;> rfl
  | no => rfl
theorem decD_eq (n : Nat) (ops : Array Oper) : ∀ (l : List Oper) (c : Nat) (ρ : PT AV) (A : St), (decD C call n ops l).run c ρ A = drawGo C call n ops l c ρ A
  | [], c, ρ, A => rfl
  | o :: rest, c, ρ, A => by
    have ih : (decD C call n ops rest).run = drawGo C call n ops rest := by funext c ρ A; exact decD_eq n ops rest c ρ A
    simp only [decD, drawGo]
    cases hT : flT o with
    | some t =>
      have hg : o.guard = none := by
        unfold flT at hT
        cases hg : o.guard with
        | none => rfl
        | some g => rw [hg] at hT; cases hT
      have ho : o.op = .alloc t := by
        unfold flT at hT
        rw [hg] at hT
        simp only at hT
        split at hT
        · rename_i u hu; cases hT; exact hu
        · cases hT
      have : wantedA ops ρ o = some true := by unfold wantedA; rw [hg]
      have hfo : fltOf o c = some c := by unfold fltOf; rw [hT]
      have hnb : nextB o c = c + 1 := by unfold nextB; rw [hT]
      simp only [this, hfo, hnb, putK_eq, ih]
      unfold stepF
      simp only [ho]
      cases rowZero P A c t with
      | false => rfl
      | true => dsimp only; cases putT ρ n o.dst (.ptr c 0) <;> rfl
    | none =>
    have hfo : fltOf o c = none := by unfold fltOf; rw [hT]
    have hnb : nextB o c = c := by unfold nextB; rw [hT]
    simp only [hfo, hnb, stepF]
    cases hg : o.guard with
    | none =>
      have : wantedA ops ρ o = some true := by unfold wantedA; rw [hg]
      simp only [this, stepD_eq, ih]
      cases stepA C call A ρ o.op with
      | none => rfl
      | some p => obtain ⟨b, v, A'⟩ := p; dsimp only; cases putT ρ n o.dst v <;> rfl
    | some g =>
      simp only [stepD_eq, putK_eq, ih]
      cases wantedA ops ρ o with
      | none => rfl
      | some b => cases b with
        | false => dsimp only; cases putT ρ n o.dst undefA <;> rfl
        | true =>
          dsimp only
          cases stepA C call A ρ o.op with
          | none => rfl
          | some p => obtain ⟨b, v, A'⟩ := p; dsimp only; cases putT ρ n o.dst v <;> rfl
/-- A region that draws. -/
def drawS (n : Nat) (ops : Array Oper) (ρ : PT AV) (A : St) : Option (AX × PT AV × St) :=
  match stat ops with
  | true => match (decH (P := P) ops.toList).run A with
    | none => none
    | some A1 => match (decD C call n ops ops.toList).run A.next ρ A1 with
      | some (recs, ρf, Af) => match dyn C call (masksGo ops.toList []) recs Af with
        | true => some (.normal, ρf, Af)
        | false => none
      | none => none
  | false => none
theorem drawS_eq {n : Nat} {ops : Array Oper} {ρ ρ' : PT AV} {A A' : St} {x : AX} (h : drawS C call n ops ρ A = some (x, ρ', A')) : x = .normal ∧ runDraw2 C call n ops ρ A = some (ρ', A') := by
  unfold drawS at h
  unfold runDraw2
  split at h
  · rename_i hs
    rw [hs]
    dsimp only
    rw [decH_eq] at h
    split at h
    · cases h
    rename_i A1 hho
    rw [hho]
    dsimp only
    rw [decD_eq] at h
    split at h
    · rename_i recs ρf Af hd
      rw [hd]
      dsimp only
      split at h
      · rename_i hc
        cases h
        rw [hc]
        exact ⟨rfl, rfl⟩
      · cases h
    · cases h
  · cases h

def loopN (f : FC) : Nat → PT AV → St → Option (AX × PT AV × St)
  | 0, _, _ => none
  | k + 1, ρ, A => match f.run ρ A with
    | some (.normal, ρ', A') => loopN f k ρ' A'
    | r => r
def denC (n m : Nat) : Code → FC
  | .skip => ⟨fun ρ A => some (.normal, ρ, A)⟩
  | .label _ => ⟨fun ρ A => some (.normal, ρ, A)⟩
  | .exit id => ⟨fun ρ A => some (.exit id, ρ, A)⟩
  | .goto l => ⟨fun ρ A => some (.goto l, ρ, A)⟩
  | .ret => ⟨fun ρ A => some (.ret, ρ, A)⟩
  | .seq x y => ⟨fun ρ A => match (denC n m x).run ρ A with
      | some (.normal, ρ', A') => (denC n m y).run ρ' A'
      | r => r⟩
  | .cond c x y => ⟨fun ρ A => match (opd C.G c).run ρ with
      | some (.bool true) => (denC n m x).run ρ A
      | some (.bool false) => (denC n m y).run ρ A
      | _ => none⟩
  | .block id body => ⟨fun ρ A => match (denC n m body).run ρ A with
      | some (.exit id', ρ', A') => match Nat.beq id' id with
        | true => some (.normal, ρ', A')
        | false => some (.exit id', ρ', A')
      | r => r⟩
  | .loop body => ⟨fun ρ A => loopN (denC n m body) m ρ A⟩
  | .scope body => ⟨fun ρ A => runCode C call n m (some body) body ρ A⟩
  | .region _ ops false => ⟨fun ρ A => match (decL C call n ops ops.toList).run ρ A with
      | some (ρ', A') => some (.normal, ρ', A')
      | none => none⟩
  | .region _ ops true => ⟨fun ρ A => drawS C call n ops ρ A⟩
  | _ => ⟨fun _ _ => none⟩

variable {C call}
def FcOk (W0 : Base) (n : Nat) (f : FC) (c : Code) : Prop :=
  ∀ (ρ ρ' : PT AV) (A A' : St) (x : AX) (E : Env) (a : Act) (w : World) (Q : Exit → Act → World → Prop), f.run ρ A = some (x, ρ', A') → Rel C.G W0 E A w → TR E ρ n a →
        (∀ E' a' w', E.le E' → Rel C.G W0 E' A' w' → TR E' ρ' n a' → a'.defers = a.defers → Q x.real a' w') → c.wp P Q a w
theorem loopN_ok {W0 : Base} {n : Nat} {f : FC} {body : Code} (hf : FcOk (P := P) (C := C) W0 n f body) : ∀ (k : Nat) (ρ ρ' : PT AV) (A A' : St) (x : AX) (E : Env) (a : Act) (w : World) (Q : Exit → Act → World → Prop), loopN f k ρ A = some (x, ρ', A') → Rel C.G W0 E A w → TR E ρ n a →
        (∀ E' a' w', E.le E' → Rel C.G W0 E' A' w' → TR E' ρ' n a' → a'.defers = a.defers → Q x.real a' w') → Code.rounds P body Q k a w
  | 0, ρ, ρ', A, A', x, E, a, w, Q, h, _, _, _ => by simp [loopN] at h
  | k + 1, ρ, ρ', A, A', x, E, a, w, Q, h, R, T, hQ => by
    rw [rounds_succ]
    simp only [loopN] at h
    split at h
    · rename_i ρ1 A1 hb
      refine hf ρ ρ1 A A1 .normal E a w _ hb R T fun E1 a1 w1 hE1 R1 T1 hd1 => ?_
      exact loopN_ok hf k ρ1 ρ' A1 A' x E1 a1 w1 Q h R1 T1 fun E2 a2 w2 hE2 R2 T2 hd2 => hQ E2 a2 w2 (Env.le_trans hE1 hE2) R2 T2 (hd2.trans hd1)
    · rename_i hne
      have hx : x ≠ .normal := fun hx => by subst hx; exact hne _ _ h
      refine hf ρ ρ' A A' x E a w _ h R T fun E1 a1 w1 hE1 R1 T1 hd1 => ?_
      have := hQ E1 a1 w1 hE1 R1 T1 hd1
      cases x with
      | normal => exact absurd rfl hx
      | exit id => exact this
      | goto l => exact this
      | ret => exact this
theorem denC_ok (hm : P.follows .mixedOrders = true) (hcall : CallsOk C call) {W0 : Base} {n m : Nat} : ∀ c : Code, FcOk (P := P) (C := C) W0 n (denC C call n m c) c := by
  intro c
  induction c with
  | skip => intro ρ ρ' A A' x E a w Q h R T hQ; simp only [denC] at h; cases h; exact wp_skip (hQ E a w E.le_refl R T rfl)
  | label l => intro ρ ρ' A A' x E a w Q h R T hQ; simp only [denC] at h; cases h; exact wp_label (hQ E a w E.le_refl R T rfl)
  | exit id => intro ρ ρ' A A' x E a w Q h R T hQ; simp only [denC] at h; cases h; exact wp_exit (hQ E a w E.le_refl R T rfl)
  | goto l => intro ρ ρ' A A' x E a w Q h R T hQ; simp only [denC] at h; cases h; exact wp_goto (hQ E a w E.le_refl R T rfl)
  | ret => intro ρ ρ' A A' x E a w Q h R T hQ; simp only [denC] at h; cases h; exact wp_ret (hQ E a w E.le_refl R T rfl)
  | seq c1 c2 ih1 ih2 =>
    intro ρ ρ' A A' x E a w Q h R T hQ
    simp only [denC] at h
    refine wp_seq ?_
    split at h
    · rename_i ρ1 A1 hb
      refine ih1 ρ ρ1 A A1 .normal E a w _ hb R T fun E1 a1 w1 hE1 R1 T1 hd1 => ?_
      exact ih2 ρ1 ρ' A1 A' x E1 a1 w1 Q h R1 T1 fun E2 a2 w2 hE2 R2 T2 hd2 => hQ E2 a2 w2 (Env.le_trans hE1 hE2) R2 T2 (hd2.trans hd1)
    · rename_i hne
      have hx : x ≠ .normal := fun hx => by subst hx; exact hne _ _ h
      refine ih1 ρ ρ' A A' x E a w _ h R T fun E1 a1 w1 hE1 R1 T1 hd1 => ?_
      have := hQ E1 a1 w1 hE1 R1 T1 hd1
      cases x with
      | normal => exact absurd rfl hx
      | exit id => exact this
      | goto l => exact this
      | ret => exact this
  | cond o c1 c2 ih1 ih2 =>
    intro ρ ρ' A A' x E a w Q h R T hQ
    simp only [denC, opd_eq] at h
    split at h
    · rename_i hc
      exact wp_cond_true (real_bool (evalO_ok R T hc)) (ih1 ρ ρ' A A' x E a w Q h R T hQ)
    · rename_i hc
      exact wp_cond_false (real_bool (evalO_ok R T hc)) (ih2 ρ ρ' A A' x E a w Q h R T hQ)
    · cases h
  | block id body ih =>
    intro ρ ρ' A A' x E a w Q h R T hQ
    simp only [denC] at h
    refine wp_block ?_
    split at h
    · rename_i id' ρ1 A1 hb
      refine ih ρ ρ1 A A1 (.exit id') E a w _ hb R T fun E1 a1 w1 hE1 R1 T1 hd1 => ?_
      show Exit.inBlock id Q (.exit id') a1 w1
      split at h
      · rename_i hq
        cases h
        have := Nat.eq_of_beq_eq_true hq
        simp only [Exit.inBlock, this, if_true]
        exact hQ E1 a1 w1 hE1 R1 T1 hd1
      · rename_i hq
        cases h
        have : id' ≠ id := fun e => by subst e; rw [Nat.beq_refl] at hq; cases hq
        simp only [Exit.inBlock, this, if_false]
        exact hQ E1 a1 w1 hE1 R1 T1 hd1
    · rename_i hne
      have hx : ∀ id', x ≠ .exit id' := fun id' hx => by subst hx; exact hne _ _ _ h
      refine ih ρ ρ' A A' x E a w _ h R T fun E1 a1 w1 hE1 R1 T1 hd1 => ?_
      have := hQ E1 a1 w1 hE1 R1 T1 hd1
      cases x with
      | normal => exact this
      | exit id' => exact absurd rfl (hx id')
      | goto l => exact this
      | ret => exact this
  | loop body ih =>
    intro ρ ρ' A A' x E a w Q h R T hQ
    simp only [denC] at h
    exact wp_loop_rounds m (loopN_ok ih m ρ ρ' A A' x E a w Q h R T hQ)
  | scope body ih =>
    intro ρ ρ' A A' x E a w Q h R T hQ
    simp only [denC] at h
    have := (runCode_ok hm hcall m).2.2 body body ρ ρ' A A' x E a w Q h R T hQ
    intro b k cs
    obtain ⟨e, a', w', hq, harr⟩ := this b k cs
    exact ⟨e, a', w', hq, .of_steps (.one step_scope) harr⟩
  | region id ops draw =>
    intro ρ ρ' A A' x E a w Q h R T hQ
    cases draw with
    | false =>
      simp only [denC, decL_eq] at h
      split at h
      · rename_i ρ1 A1 hs
        cases h
        refine wp_region ?_
        have := runSeq_ok C call hcall (W0 := W0) (n := n) (ops := ops) (Q := Q) (E0 := E) (ρ' := ρ') (A' := A') (ds := a.defers) (fun E1 a1 w1 h1 h2 h3 h4 => hQ E1 a1 w1 h1 h2 h3 h4) ops.size ops.toList 0 ρ A E a w (by simp) (fun j _ => by simp) hs E.le_refl R T rfl
        rw [List.range_eq_range']; exact this
      · cases h
    | true =>
      simp only [denC] at h
      obtain ⟨hx, h2⟩ := drawS_eq C call h
      subst hx
      exact runDraw2_ok hm hcall h2 R T fun E1 a1 w1 h1 h2 h3 h4 => hQ E1 a1 w1 h1 h2 h3 h4
  | _ => intro ρ ρ' A A' x E a w Q h R T hQ; simp [denC] at h
end

/- THE TABLE. -/
section
variable {P : Program} (C : Cfg P)
def resV (ρ : PT AV) (A : St) (l : List ResultVar) : Option (AV × St) :=
  match resultsA C ρ A l with
  | some vs => some (packA vs, A)
  | none => none
def runF (call : FuncId → List AV → St → Option (AV × St)) (m : Nat) (fn : Func) (c : Code) (args : List AV) (A : St) : Option (AV × St) :=
  match Nat.ble args.length fn.ntmps with
  | true => match (denC C call fn.ntmps m c).run (PT.leaf.fill 0 args) A with
    | some (.normal, ρ, A') => resV C ρ A' fn.results.toList
    | some (.ret, ρ, A') => resV C ρ A' fn.results.toList
    | _ => none
  | false => none
def tab (m : Nat) (ext : FuncId → Option FF) : Nat → FT
  | 0 => ⟨fun _ => ⟨fun _ _ => none⟩⟩
  | d + 1 => ⟨fun f => match ext f with
    | some g => g
    | none => match P.funcs[f]? with
      | some fn => match fn.body with
        | some c => ⟨fun args A => runF C (fun f args A => ((tab m ext d).get f).run args A) m fn c args A⟩
        | none => ⟨fun _ _ => none⟩
      | none => ⟨fun _ _ => none⟩⟩
/-- The contracts keep what calls must keep. -/
def ExtOk2 (ext : FuncId → Option FF) : Prop :=
  ∀ f g, ext f = some g → ∀ args A v A', g.run args A = some (v, A') → ∀ W0 E w xs, Rel C.G W0 E A w → reals E args = some xs →
    Calls P f xs.toArray w fun e w' => ∃ E' x, e = .returned x ∧ E.le E' ∧ real E' v = some x ∧ Rel C.G W0 E' A' w'
variable {C}
theorem tab_ok (hm : P.follows .mixedOrders = true) {m : Nat} {ext : FuncId → Option FF} (hext : ExtOk2 C ext) : ∀ d, CallsOk C fun f args A => ((tab C m ext d).get f).run args A := by
  intro d
  induction d with
  | zero => intro f args A v A' h; simp [tab] at h
  | succ d ih =>
    intro f args A v A' h W0 E w xs R hargs
    simp only [tab] at h
    split at h
    · rename_i g hg; exact hext f g hg args A v A' h W0 E w xs R hargs
    · split at h
      · rename_i fn hfn
        split at h
        · rename_i c hc
          simp only [runF] at h
          split at h
          · rename_i hle
            have hle := Nat.le_of_ble_eq_true hle
            have hlen := reals_length hargs
            have T : TR E (PT.leaf.fill 0 args) fn.ntmps { tmps := xs.toArray ++ Array.replicate (fn.ntmps - xs.toArray.size) undef, defers := [] } := by
              refine ⟨by simp; omega, fun t u hu => ?_, fun t hu => ?_⟩
              · rw [PT.at_fill] at hu
                split at hu
                · rename_i ht
                  obtain ⟨x, hx, hr⟩ := reals_get hargs t u (by simpa using hu)
                  refine ⟨x, hr, ?_⟩
                  simp only
                  rw [Array.getElem?_append_left (by simp; omega)]
                  simpa using hx
                · rw [PT.at_leaf] at hu; cases hu
              · rw [PT.at_fill] at hu
                have : args.length ≤ t := by
                  split at hu
                  · rename_i ht
                    have : t < args.length := by omega
                    simp at hu; omega
                  · omega
                simp only [Array.getD_eq_getD_getElem?]
                rw [Array.getElem?_append_right (by simp; omega), Array.getElem?_replicate]
                split <;> rfl
            have fin : ∀ (x : AX) (ρ : PT AV) (A2 : St), (x = .normal ∨ x = .ret) → (denC C (fun f args A => ((tab C m ext d).get f).run args A) fn.ntmps m c).run (PT.leaf.fill 0 args) A = some (x, ρ, A2) → resV C ρ A2 fn.results.toList = some (v, A') →
                Calls P f xs.toArray w fun e w' => ∃ E' x, e = .returned x ∧ E.le E' ∧ real E' v = some x ∧ Rel C.G W0 E' A' w' := by
              intro x ρ A2 hx hrun hv
              unfold resV at hv
              split at hv
              · rename_i vs hvs
                cases hv
                refine calls_of_wp hfn hc (denC_ok hm ih c _ ρ A A' x E _ w _ hrun R T fun E' a' w' hE' R' T' hd => ?_)
                obtain ⟨y, hy, hr⟩ := results_ok R' T' hvs
                rcases hx with rfl | rfl
                · exact ⟨hd, y, hy, E', y, rfl, hE', hr, R'⟩
                · exact ⟨hd, y, hy, E', y, rfl, hE', hr, R'⟩
              · cases hv
            split at h
            · rename_i ρ A2 hrun; exact fin _ ρ _ (Or.inl rfl) hrun h
            · rename_i ρ A2 hrun; exact fin _ ρ _ (Or.inr rfl) hrun h
            · cases h
          · cases h
        · cases h
      · cases h
end
end Go.Am
