/-
  THE ABSTRACT MACHINE, part 32: what is told of symbols that are whole numbers, as a list of facts.
-/
import Derived.Test.YtenggpnmocbfoaaGreatAm31
namespace Go.Am
set_option linter.unusedSectionVars false

def opIdx : BinOp → Nat
  | .add => 0 | .sub => 1 | .mul => 2 | .quo => 3 | .rem => 4 | .and => 5 | .or => 6 | .xor => 7 | .shl => 8 | .shr => 9 | .andNot => 10
  | .eql => 11 | .neq => 12 | .lss => 13 | .leq => 14 | .gtr => 15 | .geq => 16
theorem opIdx_inj {a b : BinOp} (h : opIdx a = opIdx b) : a = b := by cases a <;> cases b <;> first | rfl | (simp [opIdx] at h)
/-- The first fact that fits. -/
def lookT (op : BinOp) (x y : AV) : List (BinOp × AV × AV × AV) → Option AV
  | [] => none
  | (o, u, v, r) :: l => match Nat.beq (opIdx op) (opIdx o) with
    | true => match AV.same x u with
      | true => match AV.same y v with
        | true => some r
        | false => lookT op x y l
      | false => lookT op x y l
    | false => lookT op x y l
theorem lookT_mem {op : BinOp} {x y r : AV} : ∀ {l : List (BinOp × AV × AV × AV)}, lookT op x y l = some r → (op, x, y, r) ∈ l
  | [], h => by cases h
  | (o, u, v, z) :: l, h => by
    simp only [lookT] at h
    split at h
    · rename_i h1
      split at h
      · rename_i h2
        split at h
        · rename_i h3
          cases h
          have e1 := opIdx_inj (Nat.eq_of_beq_eq_true h1)
          rw [e1, same_eq h2, same_eq h3]; simp
        · simp [lookT_mem h]
      · simp [lookT_mem h]
    · simp [lookT_mem h]
def lookM (great : Bool) (x y : AV) : List (Bool × AV × AV × AV) → Option AV
  | [] => none
  | (g, u, v, r) :: l => match (match great with | true => g | false => !g) with
    | true => match AV.same x u with
      | true => match AV.same y v with
        | true => some r
        | false => lookM great x y l
      | false => lookM great x y l
    | false => lookM great x y l
theorem lookM_mem {great : Bool} {x y r : AV} : ∀ {l : List (Bool × AV × AV × AV)}, lookM great x y l = some r → (great, x, y, r) ∈ l
  | [], h => by cases h
  | (o, u, v, z) :: l, h => by
    simp only [lookM] at h
    split at h
    · rename_i h1
      split at h
      · rename_i h2
        split at h
        · rename_i h3
          cases h
          have e1 : great = o := by cases great <;> cases o <;> simp_all
          rw [e1, same_eq h2, same_eq h3]; simp
        · simp [lookM_mem h]
      · simp [lookM_mem h]
    · simp [lookM_mem h]
def told (l : List (BinOp × AV × AV × AV)) (op : BinOp) (_ : TypeId) (x y : AV) : Option AV := lookT op x y l
def toldM (l : List (Bool × AV × AV × AV)) (great : Bool) (args : List AV) : Option AV :=
  match args with
  | [x, y] => lookM great x y l
  | _ => none
section
variable [Sig]
def FactOk (f : BinOp × AV × AV × AV) : Prop := ∃ (k : IntKind) (a b : Int) (z : AV), (∀ E, real E f.2.1 = some (.int k a)) ∧ (∀ E, real E f.2.2.1 = some (.int k b)) ∧ intBin f.1 k a b = some z ∧ ∀ E, real E f.2.2.2 = real E z
def MFactOk (f : Bool × AV × AV × AV) : Prop := ∃ (k : IntKind) (a b : Int) (z : AV), (∀ E, real E f.2.1 = some (.int k a)) ∧ (∀ E, real E f.2.2.1 = some (.int k b)) ∧ aMinMax f.1 [.int k a, .int k b] = some z ∧ ∀ E, real E f.2.2.2 = real E z
theorem told_ok {P : Program} {l : List (BinOp × AV × AV × AV)} (hl : ∀ f ∈ l, FactOk f) : ∀ op t v u r, told l op t v u = some r → ∀ (E : Env) x y w xo yo, real E v = some x → real E u = some y → ∃ z, ((do eqGuard op t xo yo x y; binOp op t x y) : Sem Value).run P w = .ok z w ∧ real E r = some z := by
  intro op t v u r h E x y w xo yo hx hy
  obtain ⟨k, a, b, z, h1, h2, h3, h4⟩ := hl _ (lookT_mem h)
  simp only at h1 h2 h3 h4
  rw [h1 E] at hx
  rw [h2 E] at hy
  cases hx; cases hy
  obtain ⟨y, g1, g2⟩ := intBin_ok (P := P) (E := E) (w := w) (t := t) (Or.inr rfl) h3
  have hg : (eqGuard op t xo yo (.int k a) (.int k b)).run P w = .ok () w := guardOk_ok (E := E) (x := .int k a) (y := .int k b) rfl rfl rfl rfl rfl
  exact ⟨y, by rw [bind_ok hg]; exact g1, by rw [h4]; exact g2⟩
theorem toldM_ok {P : Program} {l : List (Bool × AV × AV × AV)} (hl : ∀ f ∈ l, MFactOk f) : ∀ great args r, toldM l great args = some r → ∀ (E : Env) (xs : Array Value) w ts ty, reals E args = some xs.toList → ∃ y, (if great then Builtin.max_ ts ty xs else Builtin.min_ ts ty xs).run P w = .ok y w ∧ real E r = some y := by
  intro great args r h E xs w ts ty hr
  unfold toldM at h
  split at h
  · rename_i x y
    obtain ⟨k, a, b, z, h1, h2, h3, h4⟩ := hl _ (lookM_mem h)
    simp only at h1 h2 h3 h4
    have hr' : reals E [.int k a, .int k b] = some xs.toList := by
      obtain ⟨x', ys, e1, hx, hys⟩ := reals_cons hr
      obtain ⟨y', zs, e2, hy, hzs⟩ := reals_cons hys
      cases hzs
      rw [h1 E] at hx
      rw [h2 E] at hy
      cases hx; cases hy
      rw [e1, e2]; rfl
    obtain ⟨y', g1, g2⟩ := aMinMax_ok (P := P) (w := w) (great := great) (ts := ts) (ty := ty) h3 hr'
    exact ⟨y', g1, by rw [h4]; exact g2⟩
  · cases h
/-- A program's words with facts told. -/
def Cfg.tell {P : Program} (C : Cfg P) (l : List (BinOp × AV × AV × AV)) (lm : List (Bool × AV × AV × AV)) (hl : ∀ f ∈ l, FactOk f) (hm : ∀ f ∈ lm, MFactOk f) : Cfg P :=
  { C with bin := told l, mm := toldM lm, hbin := told_ok hl, hmm := toldM_ok hm }
end
end Go.Am
