/-
  THE ABSTRACT MACHINE, part 4: the operations that read and compute.
-/
import Derived.Test.YtenggpnmocbfoaaGreatAm3
import Derived.Laws.Strings
namespace Go.Am
set_option linter.unusedSectionVars false
variable [Sig]

/- TABLES. -/
theorem run_program {P : Program} {w : World} : program.run P w = .ok P w := rfl
theorem run_pure {α : Type} {P : Program} {w : World} (a : α) : (pure a : Sem α).run P w = .ok a w := rfl
theorem run_underlying {P : Program} {w : World} {t : TypeId} {d : TypeDesc} (h : P.underlying t = some d) : (underlying t).run P w = .ok d w := by
  unfold underlying
  rw [bind_ok run_program, h]; rfl
theorem run_typeInfo {P : Program} {w : World} {t : TypeId} {i : TypeInfo} (h : P.info? t = some i) : (typeInfo t).run P w = .ok i w := by
  unfold typeInfo
  rw [bind_ok run_program, h]; rfl
theorem run_sizeOf {P : Program} {w : World} {t : TypeId} {i : TypeInfo} (h : P.info? t = some i) : (sizeOf t).run P w = .ok i.size w := by
  unfold sizeOf
  rw [bind_ok (run_typeInfo h)]; rfl
theorem run_zeroValue {P : Program} {w : World} {t : TypeId} {i : TypeInfo} {z : Value} (h : P.info? t = some i) (hz : i.zero = some z) : (zeroValue t).run P w = .ok z w := by
  unfold zeroValue
  rw [bind_ok (run_typeInfo h), hz]; rfl
def aggOf (d : TypeDesc) : Bool := match d with | .struct _ => true | .array _ _ => true | _ => false
theorem run_isAgg {P : Program} {w : World} {t : TypeId} {d : TypeDesc} (h : P.underlying t = some d) : (isAgg t).run P w = .ok (aggOf d) w := by
  unfold isAgg
  rw [bind_ok (run_underlying h)]
  cases d <;> rfl
theorem run_value {P : Program} {w w' : World} {s : Sem Value} {x : Value} (h : s.run P w = .ok x w') : (do pure (Next.value (← s)) : Sem Next).run P w = .ok (.value x) w' := by
  rw [bind_ok h]; rfl
theorem run_skip {P : Program} {w w' : World} {s : Sem Unit} (h : s.run P w = .ok () w') : (do s; pure Next.skip : Sem Next).run P w = .ok .skip w' := by
  rw [bind_ok h]; rfl

/- CONSTANTS. -/
mutual
  def ofValue : Value → Option AV
    | .bool b => some (.bool b)
    | .int k n => some (.int k n)
    | .string ⟨⟨s⟩⟩ => some (.str s)
    | .pointer none => some .nilp
    | .slice none 0 0 => some .nilslice
    | .map none => some .nilmap
    | .nilFunc => some .nilFunc
    | .nilIface => some .nilIface
    | .agg ⟨l⟩ => match ofValues l with | some vs => some (.agg vs) | none => none
    | .tuple ⟨l⟩ => match ofValues l with | some vs => some (.tuple vs) | none => none
    | _ => none
  def ofValues : List Value → Option (List AV)
    | [] => some []
    | x :: xs => match ofValue x with
      | some v => match ofValues xs with
        | some vs => some (v :: vs)
        | none => none
      | none => none
 end
mutual
  theorem ofValue_ok (E : Env) : ∀ (x : Value) (v : AV), ofValue x = some v → real E v = some x
    | .bool b, v, h => by unfold ofValue at h; cases h; rfl
    | .int k n, v, h => by unfold ofValue at h; cases h; rfl
    | .string ⟨⟨s⟩⟩, v, h => by unfold ofValue at h; cases h; rfl
    | .pointer none, v, h => by unfold ofValue at h; cases h; rfl
    | .pointer (some a), v, h => by unfold ofValue at h; cases h
    | .slice none 0 0, v, h => by unfold ofValue at h; cases h; rfl
    | .slice none 0 (c + 1), v, h => by unfold ofValue at h; cases h
    | .slice none (l + 1) c, v, h => by unfold ofValue at h; cases h
    | .slice (some a) l c, v, h => by unfold ofValue at h; cases h
    | .map none, v, h => by unfold ofValue at h; cases h; rfl
    | .map (some a), v, h => by unfold ofValue at h; cases h
    | .nilFunc, v, h => by unfold ofValue at h; cases h; rfl
    | .nilIface, v, h => by unfold ofValue at h; cases h; rfl
    | .agg ⟨l⟩, v, h => by
      unfold ofValue at h
      split at h
      · rename_i vs hv; cases h; exact real_agg_mk (ofValues_ok E l vs hv)
      · cases h
    | .tuple ⟨l⟩, v, h => by
      unfold ofValue at h
      split at h
      · rename_i vs hv; cases h; exact real_tuple_mk (ofValues_ok E l vs hv)
      · cases h
    | .float _ _, v, h => by unfold ofValue at h; cases h
    | .complex _ _ _, v, h => by unfold ofValue at h; cases h
    | .chan _, v, h => by unfold ofValue at h; cases h
    | .func _ _ _, v, h => by unfold ofValue at h; cases h
    | .iface _ _, v, h => by unfold ofValue at h; cases h
  theorem ofValues_ok (E : Env) : ∀ (xs : List Value) (vs : List AV), ofValues xs = some vs → reals E vs = some xs
    | [], vs, h => by unfold ofValues at h; cases h; rfl
    | x :: xs, vs, h => by
      unfold ofValues at h
      split at h
      · rename_i v hv
        split at h
        · rename_i us hu; cases h; exact reals_mk (ofValue_ok E x v hv) (ofValues_ok E xs us hu)
        · cases h
      · cases h
 end

/- FRAMES. -/
def undefA : AV := .tuple []
theorem real_undef (E : Env) : real E undefA = some undef := rfl
def evalO (G : Nat) (ρ : PT AV) : Operand → Option AV
  | .tmp t => match ρ.at_ t with | some v => some v | none => some undefA
  | .const v => ofValue v
  | .global g => match Nat.blt g G with | true => some (.ptr g 0) | false => none
  | .func f => some (.func (.func f) [] [])
/-- The abstract temporaries stand for the frame's. -/
structure TR (E : Env) (ρ : PT AV) (n : Nat) (a : Act) : Prop where
  size : a.tmps.size = n
  some : ∀ t v, ρ.at_ t = some v → ∃ x, real E v = some x ∧ a.tmps[t]? = some x
  none : ∀ t, ρ.at_ t = none → a.tmps.getD t undef = undef
theorem TR.le {E E' : Env} (h : E.le E') {ρ : PT AV} {n : Nat} {a : Act} (T : TR E ρ n a) : TR E' ρ n a :=
  ⟨T.size, fun t v hv => let ⟨x, hx, ha⟩ := T.some t v hv; ⟨x, real_le h v x hx, ha⟩, T.none⟩
theorem evalO_ok {G : Nat} {W0 : Base} {E : Env} {A : St} {w : World} (R : Rel G W0 E A w) {ρ : PT AV} {n : Nat} {a : Act} (T : TR E ρ n a) {x : Operand} {v : AV} (h : evalO G ρ x = some v) : real E v = some (a.eval x) := by
  cases x with
  | tmp t =>
    simp only [evalO] at h
    split at h
    · rename_i u hu
      cases h
      obtain ⟨y, hy, ha⟩ := T.some t v hu
      rw [hy]; simp only [Act.eval, Array.getD_eq_getD_getElem?, ha]; rfl
    · rename_i hu
      cases h
      have := T.none t hu
      show _ = some (a.tmps.getD t undef)
      rw [this]; rfl
  | const c => exact ofValue_ok E c v h
  | global g =>
    simp only [evalO] at h
    split at h
    · rename_i hg
      cases h
      obtain ⟨e, he, h1, h2⟩ := R.glob g (Nat.le_of_ble_eq_true hg)
      rw [real_ptr_mk 0 he, h1, h2]; rfl
    · cases h
  | func f => simp only [evalO] at h; cases h; rfl

def putT (ρ : PT AV) (n : Nat) (d : Option Tmp) (v : AV) : Option (PT AV) :=
  match d with
  | none => some ρ
  | some t => match Nat.blt t n with | true => some (ρ.put t v) | false => none
theorem putT_ok {E : Env} {ρ ρ' : PT AV} {n : Nat} {a : Act} {d : Option Tmp} {v : AV} {x : Value} (T : TR E ρ n a) (h : putT ρ n d v = some ρ') (hx : real E v = some x) : TR E ρ' n (a.put d x) := by
  cases d with
  | none => simp only [putT] at h; cases h; exact T
  | some t =>
    simp only [putT] at h
    split at h
    · rename_i ht
      cases h
      have ht' : t < n := Nat.le_of_ble_eq_true ht
      refine ⟨by simp [Act.put, T.size], fun s u hu => ?_, fun s hs => ?_⟩
      · rw [PT.at_put] at hu
        by_cases hst : s = t
        · subst hst
          rw [if_pos rfl] at hu
          cases hu
          refine ⟨x, hx, ?_⟩
          simp only [Act.put]
          rw [Array.getElem?_setIfInBounds_self_of_lt (by rw [T.size]; exact ht')]
        · rw [if_neg hst] at hu
          obtain ⟨y, hy, ha⟩ := T.some s u hu
          refine ⟨y, hy, ?_⟩
          simp only [Act.put]
          rw [Array.getElem?_setIfInBounds_ne (Ne.symm hst)]; exact ha
      · rw [PT.at_put] at hs
        by_cases hst : s = t
        · rw [if_pos hst] at hs; cases hs
        · rw [if_neg hst] at hs
          have := T.none s hs
          simp only [Act.put, Array.getD_eq_getD_getElem?]
          rw [Array.getElem?_setIfInBounds_ne (Ne.symm hst)]
          simpa using this
    · cases h

/- LOADS. -/
def rowOf (A : St) (b : Nat) : Option (Row × Fam) :=
  match A.heap.at_ b with
  | some (.row r) => match A.fams.at_ r.fam with
    | some f => match f.lets b with
      | true => some (r, f)
      | false => none
    | none => none
  | _ => none
theorem rowOf_ok {A : St} {b : Nat} {r : Row} {f : Fam} (h : rowOf A b = some (r, f)) : A.heap.at_ b = some (.row r) ∧ A.fams.at_ r.fam = some f ∧ f.lets b = true := by
  unfold rowOf at h
  split at h
  · rename_i r' hr
    split at h
    · rename_i f' hf
      split at h
      · rename_i hl; cases h; exact ⟨hr, hf, hl⟩
      · cases h
    · cases h
  · cases h
/-- n cells from off on. -/
def cellsAt (A : St) (b off n : Nat) : Option (List AV) :=
  match rowOf A b with
  | some (r, _) => match Nat.ble r.lo off with
    | true => match Nat.ble (off + n) r.n with
      | true => r.cells.take off n
      | false => none
    | false => none
  | none => none
theorem cellsAt_ok {G : Nat} {W0 : Base} {E : Env} {A : St} {w : World} (R : Rel G W0 E A w) {b off n : Nat} {vs : List AV} {e0 : Ent} (h : cellsAt A b off n = some vs) (hE0 : E b = some e0) :
    ∃ e cs t fz xs, E b = some e ∧ e.sh ≤ off ∧ w.heap[e.blk]? = some (.cells cs t fz) ∧ reals E vs = some xs ∧ xs.length = n ∧ ∀ j, j < n → cs[off - e.sh + j]? = xs[j]? := by
  unfold cellsAt at h
  split at h
  · rename_i r f hr
    split at h
    · rename_i hlo
      split at h
      · rename_i hn
        obtain ⟨h1, h2, h3⟩ := rowOf_ok hr
        obtain ⟨cs, fz, hcs, hex, hsh, _, _, _, hc, _⟩ := R.rows b r f e0 h1 h2 h3 hE0
        obtain ⟨e, he, rfl⟩ : ∃ e, E b = some e ∧ e = e0 := ⟨e0, hE0, rfl⟩
        have hlo := Nat.le_of_ble_eq_true hlo
        have hn := Nat.le_of_ble_eq_true hn
        obtain ⟨hl, hg⟩ := PT.take_spec _ _ _ _ h
        have key : ∀ j, j < n → ∃ v x, vs[j]? = some v ∧ real E v = some x ∧ cs[off - e.sh + j]? = some x := fun j hj => by
          have hj' : j < vs.length := by omega
          have hv := hg j hj
          rw [List.getElem?_eq_getElem hj'] at hv
          obtain ⟨x, hx, hcx⟩ := hc (off + j) _ (by omega) (by omega) hv
          exact ⟨_, x, List.getElem?_eq_getElem hj', hx, by rw [show off - e.sh + j = off + j - e.sh from by omega]; exact hcx⟩
        rcases Nat.eq_zero_or_pos n with h0 | h0
        · subst h0
          have : vs = [] := List.eq_nil_of_length_eq_zero hl
          subst this
          exact ⟨e, cs, _, fz, [], he, by omega, hcs, rfl, rfl, fun j hj => by omega⟩
        have hlen : off - e.sh + n ≤ cs.size := by
          obtain ⟨v, x, _, _, hx⟩ := key (n - 1) (by omega)
          have := (Array.getElem?_eq_some_iff.1 hx).1
          omega
        refine ⟨e, cs, _, fz, (cs.extract (off - e.sh) (off - e.sh + n)).toList, he, by omega, hcs, ?_, by simp; omega, fun j hj => ?_⟩
        · refine reals_of (by simp; omega) fun j v x hv hx => ?_
          have hj : j < n := by have := (List.getElem?_eq_some_iff.1 hv).1; omega
          obtain ⟨v', x', hv', hr', hc'⟩ := key j hj
          rw [hv] at hv'; cases hv'
          have : ((cs.extract (off - e.sh) (off - e.sh + n)).toList)[j]? = cs[off - e.sh + j]? := by
            rw [Array.getElem?_toList, Array.getElem?_extract, if_pos (by omega)]
          rw [this, hc'] at hx; cases hx; exact hr'
        · rw [Array.getElem?_toList, Array.getElem?_extract, if_pos (by omega)]
      · cases h
    · cases h
  · cases h


def aLoad (P : Program) (A : St) (t : TypeId) (p : AV) : Option AV :=
  match p with
  | .ptr b off => match P.underlying t with
    | some d => match aggOf d with
      | true => match P.info? t with
        | some i => match cellsAt A b off i.size with
          | some vs => some (.agg vs)
          | none => none
        | none => none
      | false => match cellsAt A b off 1 with
        | some [v] => some v
        | _ => none
    | none => none
  | _ => none
theorem aLoad_ok {P : Program} {G : Nat} {W0 : Base} {E : Env} {A : St} {w : World} (R : Rel G W0 E A w) {t : TypeId} {p v : AV} {x : Value} (h : aLoad P A t p = some v) (hp : real E p = some x) :
    ∃ y, (Instr.loadAt t x).run P w = .ok y w ∧ real E v = some y := by
  cases p with
  | ptr b off =>
    obtain ⟨e0, he0, rfl⟩ := real_ptr hp
    simp only [aLoad] at h
    split at h
    · rename_i d hd
      split at h
      · rename_i hag
        split at h
        · rename_i i hi
          split at h
          · rename_i vs hv
            cases h
            obtain ⟨e, cs, u, fz, xs, he, _, hcs, hr, hl, hc⟩ := cellsAt_ok R hv he0
            rw [he0] at he; cases he
            refine ⟨.agg xs.toArray, ?_, real_agg_mk hr⟩
            unfold Instr.loadAt
            rw [bind_ok (a := ⟨e0.blk, off - e0.sh, none⟩) rfl]
            unfold loadVar
            rw [bind_ok (run_isAgg hd), hag]
            simp only [if_true]
            rw [bind_ok (run_sizeOf hi), bind_ok (run_loadCells' hcs hl hc)]; rfl
          · cases h
        · cases h
      · rename_i hag
        split at h
        · rename_i u hv
          cases h
          obtain ⟨e, cs, u, fz, xs, he, _, hcs, hr, hl, hc⟩ := cellsAt_ok R hv he0
          rw [he0] at he; cases he
          obtain ⟨y, ys, rfl, hy, _⟩ := reals_cons hr
          refine ⟨y, ?_, hy⟩
          unfold Instr.loadAt
          rw [bind_ok (a := ⟨e0.blk, off - e0.sh, none⟩) rfl]
          unfold loadVar
          rw [bind_ok (run_isAgg hd), hag]
          simp only [Bool.false_eq_true, if_false]
          exact run_load (by rw [cell_of hcs]; simpa using hc 0 (by omega))
        · cases h
    · cases h
  | _ => simp [aLoad] at h

/- INTEGERS. -/
def intBin (op : BinOp) (k : IntKind) (a b : Int) : Option AV :=
  match op with
  | .add => some (.int k (k.wrap (a + b)))
  | .sub => some (.int k (k.wrap (a - b)))
  | .mul => some (.int k (k.wrap (a * b)))
  | .quo => if b = 0 then none else some (.int k (k.wrap (a.tdiv b)))
  | .rem => if b = 0 then none else some (.int k (a.tmod b))
  | .and => some (.int k (k.wrap (BitVec.ofInt k.bits a &&& BitVec.ofInt k.bits b).toNat))
  | .or => some (.int k (k.wrap (BitVec.ofInt k.bits a ||| BitVec.ofInt k.bits b).toNat))
  | .xor => some (.int k (k.wrap (BitVec.ofInt k.bits a ^^^ BitVec.ofInt k.bits b).toNat))
  | .andNot => some (.int k (k.wrap (BitVec.ofInt k.bits a &&& ~~~BitVec.ofInt k.bits b).toNat))
  | .eql => some (.bool (a == b))
  | .neq => some (.bool (a != b))
  | .lss => some (.bool (decide (a < b)))
  | .leq => some (.bool (decide (a ≤ b)))
  | .gtr => some (.bool (decide (a > b)))
  | .geq => some (.bool (decide (a ≥ b)))
  | .shl => if b < 0 then none else some (.int k (k.wrap (a * 2 ^ (min b.toNat k.bits))))
  | .shr => if b < 0 then none else some (.int k (a.fdiv (2 ^ (min b.toNat k.bits))))
def shiftOp : BinOp → Bool
  | .shl | .shr => true
  | _ => false
def strBin (op : BinOp) (x y : List UInt8) : Option AV :=
  match op with
  | .add => if ((x.length + y.length : Nat) : Int) > IntKind.i64.max then none else some (.str (x ++ y))
  | .eql => some (.bool (x == y))
  | .neq => some (.bool (!(x == y)))
  | .lss => some (.bool (Op.bytesLess x y))
  | .leq => some (.bool (Op.bytesLess x y || x == y))
  | .gtr => some (.bool !(Op.bytesLess x y || x == y))
  | .geq => some (.bool !(Op.bytesLess x y))
  | _ => none
theorem intBin_ok {P : Program} {E : Env} {w : World} {op : BinOp} {t : TypeId} {k k' : IntKind} {a b : Int} {v : AV} (hk : shiftOp op = true ∨ k = k') (h : intBin op k a b = some v) :
    ∃ y, (binOp op t (.int k a) (.int k' b)).run P w = .ok y w ∧ real E v = some y := by
  cases op
  case shl =>
    simp only [intBin] at h
    split at h
    · cases h
    · rename_i hb
      cases h
      refine ⟨_, ?_, rfl⟩
      simp only [binOp, Op.shift, if_neg hb]; rfl
  case shr =>
    simp only [intBin] at h
    split at h
    · cases h
    · rename_i hb
      cases h
      refine ⟨_, ?_, rfl⟩
      simp only [binOp, Op.shift, if_neg hb]; rfl
  case quo =>
    simp only [intBin] at h
    split at h
    · cases h
    · rename_i hb
      cases h
      have hk := hk.resolve_left (by decide)
      subst hk
      refine ⟨_, ?_, rfl⟩
      simp only [binOp, Op.intDiv, if_neg hb, ne_eq, not_true_eq_false, if_false]; rfl
  case rem =>
    simp only [intBin] at h
    split at h
    · cases h
    · rename_i hb
      cases h
      have hk := hk.resolve_left (by decide)
      subst hk
      refine ⟨_, ?_, rfl⟩
      simp only [binOp, Op.intDiv, if_neg hb, ne_eq, not_true_eq_false, if_false]; rfl
  all_goals
    have hk := hk.resolve_left (by decide)
    subst hk
    cases h
    refine ⟨_, ?_, rfl⟩
    simp only [binOp, Op.intArith, Op.intBits, Op.intCmp, ne_eq, not_true_eq_false, if_false]; rfl

theorem toList_mk (l : List UInt8) : (ByteArray.mk ⟨l⟩).toList = l := by
  rw [ByteArray.toList_eq]
theorem strBin_ok {P : Program} {E : Env} {w : World} {op : BinOp} {t : TypeId} {a b : List UInt8} {v : AV} (h : strBin op a b = some v) :
    ∃ y, (binOp op t (.string ⟨⟨a⟩⟩) (.string ⟨⟨b⟩⟩)).run P w = .ok y w ∧ real E v = some y := by
  have hs : ∀ l : List UInt8, (ByteArray.mk ⟨l⟩).size = l.length := fun l => rfl
  cases op
  case add =>
    simp only [strBin] at h
    split at h
    · cases h
    · rename_i hb
      cases h
      refine ⟨.string ⟨⟨a ++ b⟩⟩, ?_, rfl⟩
      simp only [binOp, Op.stringOp, hs, if_neg hb]
      have : (ByteArray.mk ⟨a⟩ ++ ByteArray.mk ⟨b⟩) = ByteArray.mk ⟨a ++ b⟩ := by
        apply ByteArray.ext
        simp
      rw [this]; rfl
  all_goals first
    | (simp only [strBin] at h; cases h; done)
    | (cases h; refine ⟨_, ?_, rfl⟩; simp only [binOp, Op.stringOp, toList_mk]; rfl)

end Go.Am
