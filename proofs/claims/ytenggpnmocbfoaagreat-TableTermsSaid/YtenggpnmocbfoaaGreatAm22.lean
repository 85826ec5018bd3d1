/-
  THE ABSTRACT MACHINE, part 22: code and calls.
-/
import Derived.Test.YtenggpnmocbfoaaGreatAm21
namespace Go.Am
set_option linter.unusedSectionVars false
variable [Sig]

inductive AX where
  | normal
  | exit (id : Nat)
  | goto (l : Nat)
  | ret
def AX.real : AX → Exit
  | .normal => .normal
  | .exit id => .exit id
  | .goto l => .goto l
  | .ret => .ret

section
variable {P : Program} (C : Cfg P) (call : FuncId → List AV → St → Option (AV × St))
def runCode (n : Nat) : Nat → Option Code → Code → PT AV → St → Option (AX × PT AV × St)
  | 0, _, _, _, _ => none
  | fuel + 1, some body, c, ρ, A => match runCode n fuel none c ρ A with
    | some (.goto l, ρ', A') => match findLabel body l with
      | some rest => runCode n fuel (some body) rest ρ' A'
      | none => some (.goto l, ρ', A')
    | r => r
  | fuel + 1, none, c, ρ, A => match c with
    | .skip => some (.normal, ρ, A)
    | .label _ => some (.normal, ρ, A)
    | .exit id => some (.exit id, ρ, A)
    | .goto l => some (.goto l, ρ, A)
    | .ret => some (.ret, ρ, A)
    | .seq x y => match runCode n fuel none x ρ A with
      | some (.normal, ρ', A') => runCode n fuel none y ρ' A'
      | r => r
    | .cond c x y => match evalO C.G ρ c with
      | some (.bool true) => runCode n fuel none x ρ A
      | some (.bool false) => runCode n fuel none y ρ A
      | _ => none
    | .block id body => match runCode n fuel none body ρ A with
      | some (.exit id', ρ', A') => match Nat.beq id' id with
        | true => some (.normal, ρ', A')
        | false => some (.exit id', ρ', A')
      | r => r
    | .loop body => match runCode n fuel none body ρ A with
      | some (.normal, ρ', A') => runCode n fuel none (.loop body) ρ' A'
      | r => r
    | .scope body => runCode n fuel (some body) body ρ A
    | .region _ ops false => match runSeq C call n ops ops.toList ρ A with
      | some (ρ', A') => some (.normal, ρ', A')
      | none => none
    | .region _ ops true => match runDraw C call n ops ρ A with
      | some (ρ', A') => some (.normal, ρ', A')
      | none => none
    | _ => none

def ScopeWp (P : Program) (body c : Code) (Q : Exit → Act → World → Prop) (a : Act) (w : World) : Prop :=
  ∀ (b : Frame) (k : List Item) (cs : List Frame), ∃ e a' w', Q e a' w' ∧ Arrives P (lone (b.at a (.code c :: .inScope body :: k)) cs w) b k cs e a' w'
theorem step_inScope {b : Frame} {a : Act} {k : List Item} {cs : List Frame} {w : World} {c : Code} : step P (lone (b.at a (.inScope c :: k)) cs w) = .next (lone (b.at a k) cs w) :=
  step_lone_go (by simp [stepG, stepG.exec, Frame.at])
theorem step_scope {b : Frame} {a : Act} {k : List Item} {cs : List Frame} {w : World} {c : Code} : step P (lone (b.at a (.code (.scope c) :: k)) cs w) = .next (lone (b.at a (.code c :: .inScope c :: k)) cs w) :=
  step_lone_go (by simp [stepG, stepG.exec, Frame.at])

variable {C call}
theorem runCode_ok (hm : P.follows .mixedOrders = true) (hcall : CallsOk C call) {W0 : Base} {n : Nat} :
    ∀ (fuel : Nat), (∀ (c : Code) (ρ ρ' : PT AV) (A A' : St) (x : AX) (E : Env) (a : Act) (w : World) (Q : Exit → Act → World → Prop), runCode C call n fuel none c ρ A = some (x, ρ', A') → Rel C.G W0 E A w → TR E ρ n a →
        (∀ E' a' w', E.le E' → Rel C.G W0 E' A' w' → TR E' ρ' n a' → a'.defers = a.defers → Q x.real a' w') → c.wp P Q a w) ∧
      (∀ (body : Code) (ρ ρ' : PT AV) (A A' : St) (x : AX) (E : Env) (a : Act) (w : World) (Q : Exit → Act → World → Prop), runCode C call n fuel none (.loop body) ρ A = some (x, ρ', A') → Rel C.G W0 E A w → TR E ρ n a →
        (∀ E' a' w', E.le E' → Rel C.G W0 E' A' w' → TR E' ρ' n a' → a'.defers = a.defers → Q x.real a' w') → Code.rounds P body Q fuel a w) ∧
      (∀ (body c : Code) (ρ ρ' : PT AV) (A A' : St) (x : AX) (E : Env) (a : Act) (w : World) (Q : Exit → Act → World → Prop), runCode C call n fuel (some body) c ρ A = some (x, ρ', A') → Rel C.G W0 E A w → TR E ρ n a →
        (∀ E' a' w', E.le E' → Rel C.G W0 E' A' w' → TR E' ρ' n a' → a'.defers = a.defers → Q x.real a' w') → ScopeWp P body c Q a w) := by
  intro fuel
  induction fuel with
  | zero =>
    refine ⟨fun c ρ ρ' A A' x E a w Q h => ?_, fun body ρ ρ' A A' x E a w Q h => ?_, fun body c ρ ρ' A A' x E a w Q h => ?_⟩ <;> simp [runCode] at h
  | succ fuel ih =>
    obtain ⟨ih1, ih2, ih3⟩ := ih
    -- a body, then the loop again
    have hloop : ∀ (body : Code) (ρ ρ' : PT AV) (A A' : St) (x : AX) (E : Env) (a : Act) (w : World) (Q : Exit → Act → World → Prop), runCode C call n (fuel + 1) none (.loop body) ρ A = some (x, ρ', A') → Rel C.G W0 E A w → TR E ρ n a →
        (∀ E' a' w', E.le E' → Rel C.G W0 E' A' w' → TR E' ρ' n a' → a'.defers = a.defers → Q x.real a' w') → Code.rounds P body Q (fuel + 1) a w := by
      intro body ρ ρ' A A' x E a w Q h R T hQ
      rw [rounds_succ]
      simp only [runCode] at h
      split at h
      · rename_i ρ1 A1 hb
        refine ih1 body ρ ρ1 A A1 .normal E a w _ hb R T fun E1 a1 w1 hE1 R1 T1 hd1 => ?_
        exact ih2 body ρ1 ρ' A1 A' x E1 a1 w1 Q h R1 T1 fun E2 a2 w2 hE2 R2 T2 hd2 => hQ E2 a2 w2 (Env.le_trans hE1 hE2) R2 T2 (hd2.trans hd1)
      · rename_i hne
        have hx : x ≠ .normal := fun hx => by subst hx; exact hne _ _ h
        refine ih1 body ρ ρ' A A' x E a w _ h R T fun E1 a1 w1 hE1 R1 T1 hd1 => ?_
        have := hQ E1 a1 w1 hE1 R1 T1 hd1
        cases x with
        | normal => exact absurd rfl hx
        | exit id => exact this
        | goto l => exact this
        | ret => exact this
    refine ⟨?_, hloop, ?_⟩
    · intro c ρ ρ' A A' x E a w Q h R T hQ
      cases c with
      | skip => simp only [runCode] at h; cases h; exact wp_skip (hQ E a w E.le_refl R T rfl)
      | label l => simp only [runCode] at h; cases h; exact wp_label (hQ E a w E.le_refl R T rfl)
      | exit id => simp only [runCode] at h; cases h; exact wp_exit (hQ E a w E.le_refl R T rfl)
      | goto l => simp only [runCode] at h; cases h; exact wp_goto (hQ E a w E.le_refl R T rfl)
      | ret => simp only [runCode] at h; cases h; exact wp_ret (hQ E a w E.le_refl R T rfl)
      | seq c1 c2 =>
        simp only [runCode] at h
        refine wp_seq ?_
        split at h
        · rename_i ρ1 A1 hb
          refine ih1 c1 ρ ρ1 A A1 .normal E a w _ hb R T fun E1 a1 w1 hE1 R1 T1 hd1 => ?_
          exact ih1 c2 ρ1 ρ' A1 A' x E1 a1 w1 Q h R1 T1 fun E2 a2 w2 hE2 R2 T2 hd2 => hQ E2 a2 w2 (Env.le_trans hE1 hE2) R2 T2 (hd2.trans hd1)
        · rename_i hne
          have hx : x ≠ .normal := fun hx => by subst hx; exact hne _ _ h
          refine ih1 c1 ρ ρ' A A' x E a w _ h R T fun E1 a1 w1 hE1 R1 T1 hd1 => ?_
          have := hQ E1 a1 w1 hE1 R1 T1 hd1
          cases x with
          | normal => exact absurd rfl hx
          | exit id => exact this
          | goto l => exact this
          | ret => exact this
      | cond o c1 c2 =>
        simp only [runCode] at h
        split at h
        · rename_i hc
          exact wp_cond_true (real_bool (evalO_ok R T hc)) (ih1 c1 ρ ρ' A A' x E a w Q h R T hQ)
        · rename_i hc
          exact wp_cond_false (real_bool (evalO_ok R T hc)) (ih1 c2 ρ ρ' A A' x E a w Q h R T hQ)
        · cases h
      | block id body =>
        simp only [runCode] at h
        refine wp_block ?_
        split at h
        · rename_i id' ρ1 A1 hb
          refine ih1 body ρ ρ1 A A1 (.exit id') E a w _ hb R T fun E1 a1 w1 hE1 R1 T1 hd1 => ?_
          show Exit.inBlock id Q (.exit id') a1 w1
          split at h
          · rename_i hq
            cases h
            have := Nat.eq_of_beq_eq_true hq
            simp only [Exit.inBlock, this, if_true]
            exact hQ E1 a1 w1 hE1 R1 T1 hd1
          · rename_i hq
            cases h
            have : id' ≠ id := fun e => by subst e; rw [Nat.beq_refl] at hq; cases hq
            simp only [Exit.inBlock, this, if_false]
            exact hQ E1 a1 w1 hE1 R1 T1 hd1
        · rename_i hne
          have hx : ∀ id', x ≠ .exit id' := fun id' hx => by subst hx; exact hne _ _ _ h
          refine ih1 body ρ ρ' A A' x E a w _ h R T fun E1 a1 w1 hE1 R1 T1 hd1 => ?_
          have := hQ E1 a1 w1 hE1 R1 T1 hd1
          cases x with
          | normal => exact this
          | exit id' => exact absurd rfl (hx id')
          | goto l => exact this
          | ret => exact this
      | loop body => exact wp_loop_rounds (fuel + 1) (hloop body ρ ρ' A A' x E a w Q h R T hQ)
      | scope body =>
        simp only [runCode] at h
        have := ih3 body body ρ ρ' A A' x E a w Q h R T hQ
        intro b k cs
        obtain ⟨e, a', w', hq, harr⟩ := this b k cs
        exact ⟨e, a', w', hq, .of_steps (.one step_scope) harr⟩
      | region id ops draw =>
        cases draw with
        | false =>
          simp only [runCode] at h
          split at h
          · rename_i ρ1 A1 hs
            cases h
            refine wp_region ?_
            have := runSeq_ok C call hcall (W0 := W0) (n := n) (ops := ops) (Q := Q) (E0 := E) (ρ' := ρ') (A' := A') (ds := a.defers) (fun E1 a1 w1 h1 h2 h3 h4 => hQ E1 a1 w1 h1 h2 h3 h4) ops.size ops.toList 0 ρ A E a w (by simp) (fun j _ => by simp) hs E.le_refl R T rfl
            rw [List.range_eq_range']; exact this
          · cases h
        | true =>
          simp only [runCode] at h
          split at h
          · rename_i ρ1 A1 hs
            cases h
            exact runDraw_ok hm hcall hs R T fun E1 a1 w1 h1 h2 h3 h4 => hQ E1 a1 w1 h1 h2 h3 h4
          · cases h
      | _ => simp [runCode] at h
    · intro body c ρ ρ' A A' x E a w Q h R T hQ
      simp only [runCode] at h
      split at h
      · rename_i l ρ1 A1 hb
        split at h
        · rename_i rest hf
          intro b k cs
          have := ih1 c ρ ρ1 A A1 (.goto l) E a w (fun e a1 w1 => e = .goto l ∧ ScopeWp P body rest Q a1 w1) hb R T fun E1 a1 w1 hE1 R1 T1 hd1 =>
            ⟨rfl, ih3 body rest ρ1 ρ' A1 A' x E1 a1 w1 Q h R1 T1 fun E2 a2 w2 hE2 R2 T2 hd2 => hQ E2 a2 w2 (Env.le_trans hE1 hE2) R2 T2 (hd2.trans hd1)⟩
          obtain ⟨e, a', w', ⟨rfl, hs⟩, harr⟩ := this b (.inScope body :: k) cs
          obtain ⟨e2, a2, w2, hq2, harr2⟩ := hs b k cs
          exact ⟨e2, a2, w2, hq2, .of_steps (harr _ (by simp [gotoIn, hf])) harr2⟩
        · rename_i hf
          cases h
          intro b k cs
          have := ih1 c ρ ρ' A A' (.goto l) E a w (fun e a1 w1 => e = .goto l ∧ Q (.goto l) a1 w1) hb R T fun E1 a1 w1 hE1 R1 T1 hd1 => ⟨rfl, hQ E1 a1 w1 hE1 R1 T1 hd1⟩
          obtain ⟨e, a', w', ⟨rfl, hq⟩, harr⟩ := this b (.inScope body :: k) cs
          exact ⟨.goto l, a', w', hq, fun k' hk => harr k' (by simp [gotoIn, hf, hk])⟩
      · rename_i hne
        have hx : ∀ l, x ≠ .goto l := fun l hx => by subst hx; exact hne _ _ _ h
        intro b k cs
        have := ih1 c ρ ρ' A A' x E a w (fun e a1 w1 => e = x.real ∧ Q x.real a1 w1) h R T fun E1 a1 w1 hE1 R1 T1 hd1 => ⟨rfl, hQ E1 a1 w1 hE1 R1 T1 hd1⟩
        obtain ⟨e, a', w', ⟨rfl, hq⟩, harr⟩ := this b (.inScope body :: k) cs
        refine ⟨x.real, a', w', hq, ?_⟩
        cases x with
        | normal => exact Steps.trans harr (.one step_inScope)
        | exit id => exact fun k' hk => harr k' (by simp [exitTo, hk])
        | goto l => exact absurd rfl (hx l)
        | ret => exact harr
end

/- CALLS. -/
section
variable {P : Program} (C : Cfg P)
def resultA (ρ : PT AV) (A : St) : ResultVar → Option AV
  | .tmp t => evalO C.G ρ (.tmp t)
  | .cell a t => match evalO C.G ρ (.tmp a) with
    | some v => aLoad P A t v
    | none => none
def resultsA (ρ : PT AV) (A : St) : List ResultVar → Option (List AV)
  | [] => some []
  | r :: rs => match resultA C ρ A r with
    | some v => match resultsA ρ A rs with
      | some vs => some (v :: vs)
      | none => none
    | none => none
def packA : List AV → AV
  | [v] => v
  | l => .tuple l
/-- A call: fuel for the depth of calls; m for each body. Contracts come first. -/
def aCall (m : Nat) (ext : FuncId → Option (List AV → St → Option (AV × St))) : Nat → FuncId → List AV → St → Option (AV × St)
  | 0, _, _, _ => none
  | fuel + 1, f, args, A => match ext f with
    | some g => g args A
    | none => match P.funcs[f]? with
      | some fn => match fn.body with
        | some c => match runCode C (aCall m ext fuel) (max args.length fn.ntmps) m none c (PT.leaf.fill 0 args) A with
          | some (.normal, ρ, A') => match resultsA C ρ A' fn.results.toList with
            | some vs => some (packA vs, A')
            | none => none
          | some (.ret, ρ, A') => match resultsA C ρ A' fn.results.toList with
            | some vs => some (packA vs, A')
            | none => none
          | _ => none
        | none => none
      | none => none
/-- The contracts keep what calls must keep. -/
def ExtOk (ext : FuncId → Option (List AV → St → Option (AV × St))) : Prop :=
  ∀ f g, ext f = some g → ∀ args A v A', g args A = some (v, A') → ∀ W0 E w xs, Rel C.G W0 E A w → reals E args = some xs →
    Calls P f xs.toArray w fun e w' => ∃ E' x, e = .returned x ∧ E.le E' ∧ real E' v = some x ∧ Rel C.G W0 E' A' w'
variable {C}
theorem resultsA_ok {W0 : Base} {E : Env} {A : St} {w : World} {ρ : PT AV} {n : Nat} {a : Act} (R : Rel C.G W0 E A w) (T : TR E ρ n a) : ∀ {rs : List ResultVar} {vs : List AV}, resultsA C ρ A rs = some vs →
    ∃ xs, (rs.mapM (fun | .tmp t => pure (a.tmps.getD t undef) | .cell b t => do loadVar t (← asAddr (a.tmps.getD b undef)) : ResultVar → Sem Value)).run P w = .ok xs w ∧ reals E vs = some xs
  | [], vs, h => by simp only [resultsA] at h; cases h; exact ⟨[], rfl, rfl⟩
  | r :: rs, vs, h => by
    simp only [resultsA] at h
    split at h
    · rename_i v hv
      split at h
      · rename_i us hu
        cases h
        obtain ⟨xs, h1, h2⟩ := resultsA_ok R T hu
        have hone : ∃ x, ((fun | .tmp t => pure (a.tmps.getD t undef) | .cell b t => do loadVar t (← asAddr (a.tmps.getD b undef)) : ResultVar → Sem Value) r).run P w = .ok x w ∧ real E v = some x := by
          cases r with
          | tmp t =>
            have hv' : evalO C.G ρ (.tmp t) = some v := hv
            exact ⟨_, rfl, evalO_ok R T hv'⟩
          | cell b t =>
            simp only [resultA] at hv
            split at hv
            · rename_i u hub
              have hb : real E u = some (a.tmps.getD b undef) := evalO_ok R T hub
              obtain ⟨y, hy, hr⟩ := aLoad_ok (P := P) R hv hb
              refine ⟨y, ?_, hr⟩
              have hp : ∃ bb off, u = .ptr bb off := by
                cases u <;> simp [aLoad] at hv
                exact ⟨_, _, rfl⟩
              obtain ⟨bb, off, rfl⟩ := hp
              obtain ⟨e, hE, hx⟩ := real_ptr hb
              rw [hx] at hy
              simp only [hx]
              exact hy
            · cases hv
        obtain ⟨x, h3, h4⟩ := hone
        refine ⟨x :: xs, ?_, reals_mk h4 h2⟩
        rw [List.mapM_cons, bind_ok h3, bind_ok h1]; rfl
      · cases h
    · cases h
theorem results_ok {W0 : Base} {E : Env} {A : St} {w : World} {ρ : PT AV} {n : Nat} {a : Act} {fn : Func} {vs : List AV} (R : Rel C.G W0 E A w) (T : TR E ρ n a) (h : resultsA C ρ A fn.results.toList = some vs) :
    ∃ x, (results fn a.tmps).run P w = .ok x w ∧ real E (packA vs) = some x := by
  obtain ⟨xs, h1, h2⟩ := resultsA_ok R T h
  have hm : (fn.results.mapM (fun | .tmp t => pure (a.tmps.getD t undef) | .cell b t => do loadVar t (← asAddr (a.tmps.getD b undef)) : ResultVar → Sem Value)).run P w = .ok xs.toArray w := by
    rw [Array.mapM_eq_mapM_toList]
    rw [map_eq_pure_bind]
    rw [bind_ok h1]; rfl
  refine ⟨if h : xs.toArray.size = 1 then xs.toArray[0] else .tuple xs.toArray, ?_, ?_⟩
  · unfold results
    exact Eq.trans (bind_ok hm) rfl
  · have hl := reals_length h2
    match vs, xs, h2, hl with
    | [], [], h2, _ => exact real_tuple_mk h2
    | [v], [x], h2, _ =>
      obtain ⟨y, ys, e, hy, _⟩ := reals_cons h2
      cases e
      exact hy
    | v :: u :: vs, x :: y :: xs, h2, _ =>
      have hne : ¬ ((x :: y :: xs).toArray.size = 1) := by simp
      rw [dif_neg hne]
      exact real_tuple_mk h2
theorem aCall_ok (hm : P.follows .mixedOrders = true) {m : Nat} {ext : FuncId → Option (List AV → St → Option (AV × St))} (hext : ExtOk C ext) : ∀ fuel, CallsOk C (aCall C m ext fuel) := by
  intro fuel
  induction fuel with
  | zero => intro f args A v A' h; simp [aCall] at h
  | succ fuel ih =>
    intro f args A v A' h W0 E w xs R hargs
    simp only [aCall] at h
    split at h
    · rename_i g hg; exact hext f g hg args A v A' h W0 E w xs R hargs
    · split at h
      · rename_i fn hfn
        split at h
        · rename_i c hc
          have hlen := reals_length hargs
          have T : TR E (PT.leaf.fill 0 args) (max args.length fn.ntmps) { tmps := xs.toArray ++ Array.replicate (fn.ntmps - xs.toArray.size) undef, defers := [] } := by
            refine ⟨by simp; omega, fun t u hu => ?_, fun t hu => ?_⟩
            · rw [PT.at_fill] at hu
              split at hu
              · rename_i ht
                obtain ⟨x, hx, hr⟩ := reals_get hargs t u (by simpa using hu)
                refine ⟨x, hr, ?_⟩
                simp only
                rw [Array.getElem?_append_left (by simp; omega)]
                simpa using hx
              · rw [PT.at_leaf] at hu; cases hu
            · rw [PT.at_fill] at hu
              have : args.length ≤ t := by
                split at hu
                · rename_i ht
                  have : t < args.length := by omega
                  simp at hu; omega
                · omega
              simp only [Array.getD_eq_getD_getElem?]
              rw [Array.getElem?_append_right (by simp; omega), Array.getElem?_replicate]
              split <;> rfl
          have fin : ∀ (x : AX) (ρ : PT AV) (A2 : St), (x = .normal ∨ x = .ret) → runCode C (aCall C m ext fuel) (max args.length fn.ntmps) m none c (PT.leaf.fill 0 args) A = some (x, ρ, A2) → ∀ vs, resultsA C ρ A2 fn.results.toList = some vs →
              Calls P f xs.toArray w fun e w' => ∃ E' x, e = .returned x ∧ E.le E' ∧ real E' (packA vs) = some x ∧ Rel C.G W0 E' A2 w' := by
            intro x ρ A2 hx hrun vs hvs
            refine calls_of_wp hfn hc ((runCode_ok hm ih m).1 c _ ρ A A2 x E _ w _ hrun R T fun E' a' w' hE' R' T' hd => ?_)
            obtain ⟨y, hy, hr⟩ := results_ok R' T' hvs
            rcases hx with rfl | rfl
            · exact ⟨hd, y, hy, E', y, rfl, hE', hr, R'⟩
            · exact ⟨hd, y, hy, E', y, rfl, hE', hr, R'⟩
          split at h
          · rename_i ρ A2 hrun
            split at h
            · rename_i vs hvs; cases h; exact fin _ ρ _ (Or.inl rfl) hrun vs hvs
            · cases h
          · rename_i ρ A2 hrun
            split at h
            · rename_i vs hvs; cases h; exact fin _ ρ _ (Or.inr rfl) hrun vs hvs
            · cases h
          · cases h
        · cases h
      · cases h
end
end Go.Am
