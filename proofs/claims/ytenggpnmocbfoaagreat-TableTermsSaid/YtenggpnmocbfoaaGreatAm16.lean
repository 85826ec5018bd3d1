/-
  THE ABSTRACT MACHINE, part 16: one operation.
-/
import Derived.Test.YtenggpnmocbfoaaGreatAm15b
namespace Go.Am
set_option linter.unusedSectionVars false
variable [Sig]

/-- What is told of a program: how many package-level variables; which functions are entered; which give their argument back. -/
structure Cfg (P : Program) where
  G : Nat
  okf : FuncId → Bool
  ne : FuncId → Bool
  hok : ∀ f, okf f = true → ∀ args w, (callFunc f args).run P w = .ok (.enter f args) w
  hne : ∀ f, ne f = true → ∀ x w, (callFunc f #[x]).run P w = .ok (.value x) w
  bin : BinOp → TypeId → AV → AV → Option AV := fun _ _ _ _ => none
  mm : Bool → List AV → Option AV := fun _ _ => none
  hbin : ∀ op t v u r, bin op t v u = some r → ∀ (E : Env) x y w xo yo, real E v = some x → real E u = some y → ∃ z, ((do eqGuard op t xo yo x y; binOp op t x y) : Sem Value).run P w = .ok z w ∧ real E r = some z := by intro _ _ _ _ _ h; cases h
  hmm : ∀ great l r, mm great l = some r → ∀ (E : Env) (xs : Array Value) w ts ty, reals E l = some xs.toList → ∃ y, (if great then Builtin.max_ ts ty xs else Builtin.min_ ts ty xs).run P w = .ok y w ∧ real E r = some y := by intro _ _ _ h; cases h

inductive Out where
  | pure (v : AV)
  | eff (v : AV) (A : St)
  | call (f : FuncId) (args : List AV)
  | no

def evalL (G : Nat) (ρ : PT AV) : List Operand → Option (List AV)
  | [] => some []
  | x :: xs => match evalO G ρ x with
    | some v => match evalL G ρ xs with
      | some vs => some (v :: vs)
      | none => none
    | none => none
def evalP (G : Nat) (ρ : PT AV) : List (Nat × Operand) → Option (List (Nat × AV))
  | [] => some []
  | (i, x) :: xs => match evalO G ρ x with
    | some v => match evalP G ρ xs with
      | some vs => some ((i, v) :: vs)
      | none => none
    | none => none
def evalQ (G : Nat) (ρ : PT AV) : Option Operand → Option (Option AV)
  | none => some none
  | some x => match evalO G ρ x with
    | some v => some (some v)
    | none => none
def ofP (o : Option AV) : Out := match o with | some v => .pure v | none => .no
def ofE (o : Option (AV × St)) : Out := match o with | some (v, A) => .eff v A | none => .no
def ofS (o : Option St) : Out := match o with | some A => .eff undefA A | none => .no
def ofC (P : Program) (A : St) (src dst : TypeId) (x : AV) : Out :=
  match x with
  | .str s => match P.underlying dst with
    | some (.slice _) => ofE (aStrBytes P A src dst s)
    | _ => ofP (aConvert P A src dst x)
  | _ => ofP (aConvert P A src dst x)
def aNilCheck (x : AV) : Option AV :=
  match x with
  | .ptr b off => some (.ptr b off)
  | .func (.func f) l m => some (.func (.func f) l m)
  | .iface t v => some (.iface t v)
  | _ => none
def aIfaceOf (P : Program) (t : TypeId) (x : AV) : Option AV :=
  match P.underlying t with
  | some (.interface _) => none
  | some _ => some (.iface t x)
  | none => none
def aExtract (x : AV) (i : Nat) : Option AV :=
  match x with
  | .tuple l => l[i]?
  | _ => none
/-- symbols: by what is told of them -/
def aBin2 {P : Program} (C : Cfg P) (A : St) (op : BinOp) (t : TypeId) (xo yo : Operand) (x y : AV) : Option AV :=
  match aBin P A op t xo yo x y with
  | some r => some r
  | none => C.bin op t x y
def aMM {P : Program} (C : Cfg P) (great : Bool) (l : List AV) : Option AV :=
  match aMinMax great l with
  | some r => some r
  | none => C.mm great l
def aBuiltin {P : Program} (C : Cfg P) (A : St) (b : Builtin) (ts : List TypeId) (args : List AV) : Out :=
  match b with
  | .len => match ts, args with | [t], [x] => ofP (aLen P A t x) | _, _ => .no
  | .cap => match ts, args with | [t], [x] => ofP (aCap P t x) | _, _ => .no
  | .max => ofP (aMM C true args)
  | .min => ofP (aMM C false args)
  | .append => match ts, args with | [t, t2], [s, x] => ofE (aAppend P A t (some t2) s x) | _, _ => .no
  | .copy => match ts, args with | [t, _], [d, s] => ofE (aCopy P A t d s) | _, _ => .no
  | .delete => match ts, args with | [t, _], [m, k] => ofS (aDelete P A t m k) | _, _ => .no
  | .clear => match ts, args with | [t], [x] => ofS (aClear P A t x) | _, _ => .no
  | .unsafeSliceData => match args with | [x] => ofP (aSliceData A x) | _ => .no
  | .unsafeString => match ts, args with | [t, _], [p, n] => ofE (aUnsafeString P A t p n) | _, _ => .no
  | _ => .no
def aCallValue {P : Program} (C : Cfg P) (f : AV) (args : List AV) : Out :=
  match f with
  | .func (.func g) first captured => match C.okf g with
    | true => .call g (first ++ args ++ captured)
    | false => match C.ne g, first ++ args ++ captured with
      | true, [x] => .pure x
      | _, _ => .no
  | _ => .no
def exec {P : Program} (C : Cfg P) (A : St) (ρ : PT AV) (o : Op) : Out :=
  match o with
  | .move x => ofP (evalO C.G ρ x)
  | .assign x => ofP (evalO C.G ρ x)
  | .pick c x y => match evalO C.G ρ c with
    | some (.bool true) => ofP (evalO C.G ρ x)
    | some (.bool false) => ofP (evalO C.G ρ y)
    | _ => .no
  | .alloc t => ofE (aAlloc P A t)
  | .box t x => match evalO C.G ρ x with | some v => .eff (aBox A t v).1 (aBox A t v).2 | none => .no
  | .build t ps => match evalP C.G ρ ps.toList with | some l => ofP (aBuild P t l) | none => .no
  | .buildSlice t n ps => match evalP C.G ρ ps.toList with | some l => ofE (aBuildSlice P A t n l) | none => .no
  | .load t x => match evalO C.G ρ x with | some v => ofP (aLoad P A t v) | none => .no
  | .store t x y => match evalO C.G ρ x, evalO C.G ρ y with | some v, some u => ofS (aStore P A t v u) | _, _ => .no
  | .nilCheck x => match evalO C.G ρ x with | some v => ofP (aNilCheck v) | none => .no
  | .binOp op t x y _ => match evalO C.G ρ x, evalO C.G ρ y with | some v, some u => ofP (aBin2 C A op t x y v u) | _, _ => .no
  | .unOp op _ x => match evalO C.G ρ x with | some v => ofP (aUn op v) | none => .no
  | .convert s d x => match evalO C.G ρ x with | some v => ofC P A s d v | none => .no
  | .makeInterface t x => match evalO C.G ρ x with | some v => ofP (aIfaceOf P t v) | none => .no
  | .makeFunc fn l m => match evalL C.G ρ l.toList, evalL C.G ρ m.toList with | some us, some vs => .pure (.func fn us vs) | _, _ => .no
  | .makeMap t r => match evalQ C.G ρ r with | some q => ofE (aMakeMap P A t q) | none => .no
  | .makeSlice t l c => match evalO C.G ρ l, evalO C.G ρ c with | some v, some u => ofE (aMakeSlice P A t v u) | _, _ => .no
  | .slice t x lo hi none => match evalO C.G ρ x, evalQ C.G ρ lo, evalQ C.G ρ hi with
    | some (.str s), some l, some h => ofP (aSliceStr P t s l h)
    | some (.slice b off len sz), some l, some h => ofE (aSliceSl P A t b off len sz l h)
    | some (.ptr b off), some l, some h => ofE (aSliceArr P A t b off l h)
    | some .nilslice, some l, some h => match aSliceNil P t l h with | true => .pure .nilslice | false => .no
    | _, _, _ => .no
  | .slice t x lo (some hi) (some mx) => match evalO C.G ρ x, evalQ C.G ρ lo, evalO C.G ρ hi, evalO C.G ρ mx with
    | some (.slice b off _ sz), some l, some h, some m => ofE (aSlice3 P A t b off sz l h m)
    | some .nilslice, some l, some h, some m => match aSlice3Nil P t l h m with | true => .pure .nilslice | false => .no
    | _, _, _, _ => .no
  | .fieldAddr t x n => match evalO C.G ρ x with | some v => ofP (aFieldAddr P A t v n) | none => .no
  | .field t x n => match evalO C.G ρ x with | some v => ofP (aField P t v n) | none => .no
  | .indexAddr t x y => match evalO C.G ρ x, evalO C.G ρ y with | some v, some u => ofP (aIndexAddr P A t v u) | _, _ => .no
  | .index t x y => match evalO C.G ρ x, evalO C.G ρ y with | some v, some u => ofP (aIndex P t v u) | _, _ => .no
  | .lookup t x y ok => match evalO C.G ρ x, evalO C.G ρ y with | some v, some u => ofP (aLookup P A t v u ok) | _, _ => .no
  | .mapUpdate t m k x => match evalO C.G ρ m, evalO C.G ρ k, evalO C.G ρ x with | some u, some v, some y => ofS (aMapUpdate P A t u v y) | _, _, _ => .no
  | .insert t m k x => match evalO C.G ρ m, evalO C.G ρ k, evalO C.G ρ x with | some u, some v, some y => ofS (aMapUpdate P A t u v y) | _, _, _ => .no
  | .range t x => match evalO C.G ρ x with | some v => ofE (aRange P A t v) | none => .no
  | .next x false => match evalO C.G ρ x with | some v => ofE (aNextMap A v) | none => .no
  | .entry x => match evalO C.G ρ x with | some v => ofP (aEntry A v) | none => .no
  | .typeAssert x _ t ok => match evalO C.G ρ x with | some v => ofP (aAssert P v t ok) | none => .no
  | .extract x i => match evalO C.G ρ x with | some v => ofP (aExtract v i) | none => .no
  | .call c => match c.callee with
    | .builtin b => match evalL C.G ρ c.args.toList with | some l => aBuiltin C A b c.argTypes.toList l | none => .no
    | .value f => match evalO C.G ρ f, evalL C.G ρ c.args.toList with | some v, some l => aCallValue C v l | _, _ => .no
    | .invoke _ _ => .no
  | _ => .no

/-- What an outcome says of the model's run. -/
def Out.meets (G : Nat) (W0 : Base) (E : Env) (w : World) (r : Result Next) : Out → Prop
  | .pure v => ∃ x, r = .ok (.value x) w ∧ real E v = some x
  | .eff v A' => ∃ x w', (r = .ok (.value x) w' ∨ (r = .ok .skip w' ∧ x = undef)) ∧ Good G W0 E A' v x w'
  | .call f args => ∃ xs : List Value, r = .ok (.enter f xs.toArray) w ∧ reals E args = some xs
  | .no => True

section
variable {P : Program} {G : Nat} {W0 : Base} {E : Env} {w : World} {ρ : PT AV} {a : Act}
theorem evalL_ok : ∀ {xs : List Operand} {vs : List AV}, (∀ x ∈ xs, ∀ v, evalO G ρ x = some v → real E v = some (a.eval x)) → evalL G ρ xs = some vs → reals E vs = some (xs.map a.eval)
  | [], vs, _, h => by simp only [evalL] at h; cases h; rfl
  | x :: xs, vs, T, h => by
    simp only [evalL] at h
    split at h
    · rename_i v hv
      split at h
      · rename_i us hu; cases h; exact reals_mk (T x (by simp) v hv) (evalL_ok (fun y hy => T y (by simp [hy])) hu)
      · cases h
    · cases h
theorem evalP_ok : ∀ {xs : List (Nat × Operand)} {vs : List (Nat × AV)}, (∀ x ∈ xs, ∀ v, evalO G ρ x.2 = some v → real E v = some (a.eval x.2)) → evalP G ρ xs = some vs → vs.map (·.1) = xs.map (·.1) ∧ reals E (vs.map (·.2)) = some (xs.map fun p => a.eval p.2)
  | [], vs, _, h => by simp only [evalP] at h; cases h; exact ⟨rfl, rfl⟩
  | (i, x) :: xs, vs, T, h => by
    simp only [evalP] at h
    split at h
    · rename_i v hv
      split at h
      · rename_i us hu
        cases h
        obtain ⟨h1, h2⟩ := evalP_ok (fun y hy => T y (by simp [hy])) hu
        exact ⟨by simp [h1], reals_mk (T (i, x) (by simp) v hv) h2⟩
      · cases h
    · cases h
theorem evalQ_ok {x : Option Operand} {v : Option AV} (T : ∀ y, x = some y → ∀ v, evalO G ρ y = some v → real E v = some (a.eval y)) (h : evalQ G ρ x = some v) : bval E v (x.map a.eval) := by
  cases x with
  | none => simp only [evalQ] at h; cases h; trivial
  | some x =>
    simp only [evalQ] at h
    split at h
    · rename_i u hu; cases h; exact T x rfl u hu
    · cases h
theorem meets_P {s : Sem Value} {o : Option AV} (h : ∀ v, o = some v → ∃ x, s.run P w = .ok x w ∧ real E v = some x) : (ofP o).meets G W0 E w ((do pure (Next.value (← s)) : Sem Next).run P w) := by
  cases o with
  | none => trivial
  | some v => obtain ⟨x, h1, h2⟩ := h v rfl; exact ⟨x, run_value h1, h2⟩
theorem meets_E {s : Sem Value} {o : Option (AV × St)} (h : ∀ v A', o = some (v, A') → ∃ x w', s.run P w = .ok x w' ∧ Good G W0 E A' v x w') : (ofE o).meets G W0 E w ((do pure (Next.value (← s)) : Sem Next).run P w) := by
  cases o with
  | none => trivial
  | some p => obtain ⟨v, A'⟩ := p; obtain ⟨x, w', h1, h2⟩ := h v A' rfl; exact ⟨x, w', Or.inl (run_value h1), h2⟩
theorem meets_S {s : Sem Unit} {o : Option St} (h : ∀ A', o = some A' → ∃ w', s.run P w = .ok () w' ∧ Rel G W0 E A' w') : (ofS o).meets G W0 E w ((do s; pure Next.skip : Sem Next).run P w) := by
  cases o with
  | none => trivial
  | some A' => obtain ⟨w', h1, h2⟩ := h A' rfl; exact ⟨undef, w', Or.inr ⟨run_skip h1, rfl⟩, E, E.le_refl, real_undef E, h2⟩
end

end Go.Am
