/-
  THE ABSTRACT MACHINE, part 1: tries, abstract values, abstract heaps, and what they stand for in a world of the model.
-/
import Derived.Below
import Derived.Orders
import Derived.LoopN
import Derived.Wp
namespace Go.Am
set_option linter.unusedSectionVars false

/- TRIES: maps from numbers, by binary digits. -/
inductive PT (α : Type) where
  | leaf
  | node (l : PT α) (v : Option α) (r : PT α)

namespace PT
def get {α : Type} : PT α → List Bool → Option α
  | leaf, _ => none
  | node _ v _, [] => v
  | node l _ r, b :: bs => match b with | true => get r bs | false => get l bs
def set {α : Type} : PT α → List Bool → α → PT α
  | leaf, [], x => node leaf (some x) leaf
  | leaf, b :: bs, x => match b with | true => node leaf none (set leaf bs x) | false => node (set leaf bs x) none leaf
  | node l _ r, [], x => node l (some x) r
  | node l v r, b :: bs, x => match b with | true => node l v (set r bs x) | false => node (set l bs x) v r
theorem get_leaf {α : Type} (k : List Bool) : (leaf : PT α).get k = none := by cases k <;> rfl
theorem get_set {α : Type} (t : PT α) (k k' : List Bool) (x : α) : (t.set k x).get k' = if k' = k then some x else t.get k' := by
  induction k generalizing t k' with
  | nil =>
    cases t <;> cases k' with
    | nil => simp [set, get]
    | cons b bs => cases b <;> simp [set, get]
  | cons c cs ih =>
    cases t <;> cases k' with
    | nil => cases c <;> simp [set, get]
    | cons b bs => cases b <;> cases c <;> simp [set, get, ih]
end PT

/-- A number's binary digits, lowest first. -/
def bitsOf : Nat → Nat → List Bool
  | 0, _ => []
  | f + 1, n => match n with
    | 0 => []
    | m + 1 => (Nat.beq (Nat.mod (m + 1) 2) 1) :: bitsOf f (Nat.div (m + 1) 2)
def key (n : Nat) : List Bool := bitsOf (Nat.log2 n + 1) n
def unbits : List Bool → Nat
  | [] => 0
  | b :: bs => 2 * unbits bs + (match b with | true => 1 | false => 0)
theorem unbits_bitsOf (f : Nat) : ∀ n, n < 2 ^ f → unbits (bitsOf f n) = n := by
  induction f with
  | zero => intro n h; simp at h; subst h; rfl
  | succ f ih =>
    intro n h
    cases n with
    | zero => rfl
    | succ m =>
      have hd : (m + 1) / 2 < 2 ^ f := by rw [Nat.pow_succ] at h; omega
      have e := ih _ hd
      show 2 * unbits (bitsOf f ((m + 1) / 2)) + _ = m + 1
      rw [e]
      show 2 * ((m + 1) / 2) + (match Nat.beq ((m + 1) % 2) 1 with | true => 1 | false => 0) = m + 1
      cases hb : Nat.beq ((m + 1) % 2) 1 with
      | true => have := Nat.eq_of_beq_eq_true hb; simp only; omega
      | false =>
        have : (m + 1) % 2 ≠ 1 := fun e => by rw [e] at hb; simp at hb
        simp only; omega
theorem unbits_key (n : Nat) : unbits (key n) = n := unbits_bitsOf _ _ Nat.lt_log2_self
theorem key_inj {a b : Nat} (h : key a = key b) : a = b := by rw [← unbits_key a, h, unbits_key]

namespace PT
def at_ {α : Type} (t : PT α) (n : Nat) : Option α := t.get (key n)
def put {α : Type} (t : PT α) (n : Nat) (x : α) : PT α := t.set (key n) x
theorem at_leaf {α : Type} (n : Nat) : (leaf : PT α).at_ n = none := get_leaf _
theorem at_put {α : Type} (t : PT α) (n m : Nat) (x : α) : (t.put n x).at_ m = if m = n then some x else t.at_ m := by
  unfold at_ put
  rw [get_set]
  by_cases h : m = n
  · subst h; simp
  · rw [if_neg h, if_neg (fun e => h (key_inj e))]
theorem at_put_same {α : Type} (t : PT α) (n : Nat) (x : α) : (t.put n x).at_ n = some x := by rw [at_put, if_pos rfl]
theorem at_put_ne {α : Type} (t : PT α) {n m : Nat} (x : α) (h : m ≠ n) : (t.put n x).at_ m = t.at_ m := by rw [at_put, if_neg h]
/-- a list, laid from place i on -/
def fill {α : Type} (t : PT α) (i : Nat) : List α → PT α
  | [] => t
  | x :: xs => fill (t.put i x) (i + 1) xs
theorem at_fill {α : Type} (xs : List α) : ∀ (t : PT α) (i m : Nat), (t.fill i xs).at_ m = if i ≤ m ∧ m < i + xs.length then xs[m - i]? else t.at_ m := by
  induction xs with
  | nil => intro t i m; simp only [fill, List.length_nil]; rw [if_neg (by omega)]
  | cons x xs ih =>
    intro t i m
    simp only [fill, ih, at_put, List.length_cons]
    by_cases h : m = i
    · subst h; rw [if_neg (by omega), if_pos rfl, if_pos (by omega)]; simp
    · by_cases h2 : i + 1 ≤ m ∧ m < i + 1 + xs.length
      · rw [if_pos h2, if_pos (by omega)]
        have e : m - i = (m - (i + 1)) + 1 := by omega
        rw [e]; rfl
      · rw [if_neg h2, if_neg h, if_neg (by omega)]
/-- the cells from i on, n of them; none: one is not there -/
def take {α : Type} (t : PT α) (i : Nat) : Nat → Option (List α)
  | 0 => some []
  | n + 1 => match t.at_ i with
    | none => none
    | some x => match take t (i + 1) n with
      | none => none
      | some xs => some (x :: xs)
theorem take_spec {α : Type} (t : PT α) : ∀ (n i : Nat) (xs : List α), t.take i n = some xs → xs.length = n ∧ ∀ j, j < n → t.at_ (i + j) = xs[j]? := by
  intro n
  induction n with
  | zero => intro i xs h; simp only [take, Option.some.injEq] at h; subst h; exact ⟨rfl, fun j hj => by omega⟩
  | succ n ih =>
    intro i xs h
    simp only [take] at h
    split at h
    · cases h
    rename_i x hx
    split at h
    · cases h
    rename_i ys hys
    simp only [Option.some.injEq] at h
    subst h
    obtain ⟨h1, h2⟩ := ih _ _ hys
    refine ⟨by simp [h1], fun j hj => ?_⟩
    cases j with
    | zero => simpa using hx
    | succ j => have := h2 j (by omega); rw [show i + (j + 1) = i + 1 + j from by omega, this]; rfl
end PT

/- ABSTRACT VALUES. -/
inductive AV where
  | bool (b : Bool)
  | int (k : IntKind) (n : Int)
  | str (s : List UInt8)
  | ptr (b off : Nat)
  | nilp
  | slice (b off len sz : Nat)
  | nilslice
  | map (b : Nat)
  | nilmap
  | func (fn : Fn) (first captured : List AV)
  | nilFunc
  | iface (t : TypeId) (v : AV)
  | nilIface
  | agg (l : List AV)
  | tuple (l : List AV)
  | sym (i : Nat)
  deriving Inhabited

/-- What the symbols stand for. -/
class Sig where
  val : Nat → Value
/-- A value of one cell. -/
def single : Value → Option Value
  | .agg _ => none
  | .tuple _ => none
  | x => some x
theorem single_eq {x y : Value} (h : single x = some y) : y = x := by cases x <;> simp [single] at h <;> exact h.symm
theorem single_one {x y : Value} (h : single x = some y) : x.oneCell = true := by cases x <;> simp [single] at h <;> rfl
theorem single_cells {x y : Value} (h : single x = some y) : x.cells = #[x] := by cases x <;> simp [single] at h <;> rfl
variable [Sig]
/-- Where an abstract block lies: the real block; how far its places are shifted; the end of its room. -/
structure Ent where
  blk : Nat
  sh : Nat
  ec : Nat
abbrev Env := Nat → Option Ent

mutual
  def real (E : Env) : AV → Option Value
    | .bool b => some (.bool b)
    | .int k n => some (.int k n)
    | .str s => some (.string ⟨⟨s⟩⟩)
    | .ptr b off => match E b with | some e => some (.pointer (some ⟨e.blk, off - e.sh, none⟩)) | none => none
    | .nilp => some (.pointer none)
    | .slice b off len sz => match E b with | some e => some (.slice (some ⟨e.blk, off - e.sh, none⟩) len ((e.ec - off) / sz)) | none => none
    | .nilslice => some (.slice none 0 0)
    | .map b => match E b with | some e => some (.map (some e.blk)) | none => none
    | .nilmap => some (.map none)
    | .func fn first captured => match reals E first with
      | some xs => match reals E captured with
        | some ys => some (.func fn xs.toArray ys.toArray)
        | none => none
      | none => none
    | .nilFunc => some .nilFunc
    | .iface t v => match real E v with | some x => some (.iface t x) | none => none
    | .nilIface => some .nilIface
    | .agg l => match reals E l with | some xs => some (.agg xs.toArray) | none => none
    | .tuple l => match reals E l with | some xs => some (.tuple xs.toArray) | none => none
    | .sym i => single (Sig.val i)
  def reals (E : Env) : List AV → Option (List Value)
    | [] => some []
    | v :: vs => match real E v with
      | some x => match reals E vs with
        | some xs => some (x :: xs)
        | none => none
      | none => none
 end

/-- E' says at least what E says. -/
def Env.le (E E' : Env) : Prop := ∀ b e, E b = some e → E' b = some e
theorem Env.le_refl (E : Env) : E.le E := fun _ _ h => h
theorem Env.le_trans {E E' E'' : Env} (h : E.le E') (h' : E'.le E'') : E.le E'' := fun b e k => h' b e (h b e k)

mutual
  theorem real_le {E E' : Env} (h : E.le E') : ∀ (v : AV) (x : Value), real E v = some x → real E' v = some x
    | .bool b, x, e => e
    | .int k n, x, e => e
    | .str s, x, e => e
    | .ptr b off, x, e => by
      unfold real at e ⊢
      split at e
      · rename_i t ht; rw [h b t ht]; exact e
      · cases e
    | .nilp, x, e => e
    | .slice b off len sz, x, e => by
      unfold real at e ⊢
      split at e
      · rename_i t ht; rw [h b t ht]; exact e
      · cases e
    | .nilslice, x, e => e
    | .map b, x, e => by
      unfold real at e ⊢
      split at e
      · rename_i t ht; rw [h b t ht]; exact e
      · cases e
    | .nilmap, x, e => e
    | .func fn first captured, x, e => by
      unfold real at e ⊢
      split at e
      · rename_i xs hx
        rw [reals_le h first xs hx]
        split at e
        · rename_i ys hy
          rw [reals_le h captured ys hy]; exact e
        · cases e
      · cases e
    | .nilFunc, x, e => e
    | .iface t v, x, e => by
      unfold real at e ⊢
      split at e
      · rename_i y hy; rw [real_le h v y hy]; exact e
      · cases e
    | .nilIface, x, e => e
    | .agg l, x, e => by
      unfold real at e ⊢
      split at e
      · rename_i y hy; rw [reals_le h l y hy]; exact e
      · cases e
    | .tuple l, x, e => by
      unfold real at e ⊢
      split at e
      · rename_i y hy; rw [reals_le h l y hy]; exact e
      · cases e
    | .sym i, x, e => e
  theorem reals_le {E E' : Env} (h : E.le E') : ∀ (l : List AV) (xs : List Value), reals E l = some xs → reals E' l = some xs
    | [], xs, e => e
    | v :: vs, xs, e => by
      unfold reals at e ⊢
      split at e
      · rename_i y hy
        rw [real_le h v y hy]
        split at e
        · rename_i ys hys; rw [reals_le h vs ys hys]; exact e
        · cases e
      · cases e
 end

theorem reals_cons {E : Env} {v : AV} {vs : List AV} {xs : List Value} (h : reals E (v :: vs) = some xs) : ∃ y ys, xs = y :: ys ∧ real E v = some y ∧ reals E vs = some ys := by
  unfold reals at h
  split at h
  · rename_i y hy
    split at h
    · rename_i ys hys; exact ⟨y, ys, (Option.some.inj h).symm, hy, hys⟩
    · cases h
  · cases h
theorem reals_mk {E : Env} {v : AV} {vs : List AV} {y : Value} {ys : List Value} (h : real E v = some y) (h' : reals E vs = some ys) : reals E (v :: vs) = some (y :: ys) := by
  unfold reals; rw [h, h']
theorem reals_length {E : Env} : ∀ {l : List AV} {xs : List Value}, reals E l = some xs → xs.length = l.length
  | [], xs, h => by simp only [reals, Option.some.injEq] at h; subst h; rfl
  | v :: vs, xs, h => by obtain ⟨y, ys, rfl, _, h'⟩ := reals_cons h; simp [reals_length h']
theorem reals_get {E : Env} : ∀ {l : List AV} {xs : List Value}, reals E l = some xs → ∀ (i : Nat) v, l[i]? = some v → ∃ x, xs[i]? = some x ∧ real E v = some x
  | [], xs, _, i, v, hv => by simp at hv
  | u :: us, xs, h, i, v, hv => by
    obtain ⟨y, ys, rfl, hy, h'⟩ := reals_cons h
    cases i with
    | zero => simp only [List.getElem?_cons_zero, Option.some.injEq] at hv; subst hv; exact ⟨y, rfl, hy⟩
    | succ i => simp only [List.getElem?_cons_succ] at hv ⊢; exact reals_get h' i v hv
theorem reals_of {E : Env} : ∀ {l : List AV} {xs : List Value}, l.length = xs.length → (∀ (i : Nat) v x, l[i]? = some v → xs[i]? = some x → real E v = some x) → reals E l = some xs
  | [], [], _, _ => rfl
  | [], _ :: _, h, _ => by simp at h
  | _ :: _, [], h, _ => by simp at h
  | v :: vs, x :: xs, h, hh => reals_mk (hh 0 v x rfl rfl) (reals_of (by simpa using h) fun i v' x' hv hx => hh (i + 1) v' x' (by simpa using hv) (by simpa using hx))
theorem reals_append {E : Env} {l m : List AV} {xs ys : List Value} (h : reals E l = some xs) (h' : reals E m = some ys) : reals E (l ++ m) = some (xs ++ ys) := by
  refine reals_of (by simp [reals_length h, reals_length h']) fun i v x hv hx => ?_
  have hl := reals_length h
  by_cases hi : i < l.length
  · rw [List.getElem?_append_left hi] at hv
    rw [List.getElem?_append_left (by omega)] at hx
    obtain ⟨x', hx', hr⟩ := reals_get h i v hv
    rw [hx'] at hx; cases hx; exact hr
  · rw [List.getElem?_append_right (by omega)] at hv
    rw [List.getElem?_append_right (by omega), hl] at hx
    obtain ⟨x', hx', hr⟩ := reals_get h' _ v hv
    rw [hx'] at hx; cases hx; exact hr

/-- Not an aggregate and not a tuple: the value of one cell. -/
def AV.one : AV → Bool
  | .agg _ | .tuple _ => false
  | _ => true
def AV.cells : AV → List AV
  | .agg l => l
  | v => [v]
theorem real_ptr {E : Env} {b off : Nat} {x : Value} (h : real E (.ptr b off) = some x) : ∃ e, E b = some e ∧ x = .pointer (some ⟨e.blk, off - e.sh, none⟩) := by
  unfold real at h
  split at h
  · rename_i e he; exact ⟨e, he, (Option.some.inj h).symm⟩
  · cases h
theorem real_ptr_mk {E : Env} {b : Nat} {e : Ent} (off : Nat) (h : E b = some e) : real E (.ptr b off) = some (.pointer (some ⟨e.blk, off - e.sh, none⟩)) := by
  unfold real; rw [h]
theorem real_slice {E : Env} {b off len sz : Nat} {x : Value} (h : real E (.slice b off len sz) = some x) : ∃ e, E b = some e ∧ x = .slice (some ⟨e.blk, off - e.sh, none⟩) len ((e.ec - off) / sz) := by
  unfold real at h
  split at h
  · rename_i e he; exact ⟨e, he, (Option.some.inj h).symm⟩
  · cases h
theorem real_slice_mk {E : Env} {b : Nat} {e : Ent} (off len sz : Nat) (h : E b = some e) : real E (.slice b off len sz) = some (.slice (some ⟨e.blk, off - e.sh, none⟩) len ((e.ec - off) / sz)) := by
  unfold real; rw [h]
theorem real_map {E : Env} {b : Nat} {x : Value} (h : real E (.map b) = some x) : ∃ e, E b = some e ∧ x = .map (some e.blk) := by
  unfold real at h
  split at h
  · rename_i e he; exact ⟨e, he, (Option.some.inj h).symm⟩
  · cases h
theorem real_map_mk {E : Env} {b : Nat} {e : Ent} (h : E b = some e) : real E (.map b) = some (.map (some e.blk)) := by
  unfold real; rw [h]
theorem real_bool {E : Env} {b : Bool} {x : Value} (h : real E (.bool b) = some x) : x = .bool b := by unfold real at h; exact (Option.some.inj h).symm
theorem real_int {E : Env} {k : IntKind} {n : Int} {x : Value} (h : real E (.int k n) = some x) : x = .int k n := by unfold real at h; exact (Option.some.inj h).symm
theorem real_str {E : Env} {s : List UInt8} {x : Value} (h : real E (.str s) = some x) : x = .string ⟨⟨s⟩⟩ := by unfold real at h; exact (Option.some.inj h).symm
theorem real_nilp {E : Env} {x : Value} (h : real E .nilp = some x) : x = .pointer none := by unfold real at h; exact (Option.some.inj h).symm
theorem real_nilslice {E : Env} {x : Value} (h : real E .nilslice = some x) : x = .slice none 0 0 := by unfold real at h; exact (Option.some.inj h).symm
theorem real_nilmap {E : Env} {x : Value} (h : real E .nilmap = some x) : x = .map none := by unfold real at h; exact (Option.some.inj h).symm
theorem real_nilFunc {E : Env} {x : Value} (h : real E .nilFunc = some x) : x = .nilFunc := by unfold real at h; exact (Option.some.inj h).symm
theorem real_nilIface {E : Env} {x : Value} (h : real E .nilIface = some x) : x = .nilIface := by unfold real at h; exact (Option.some.inj h).symm
theorem real_agg {E : Env} {l : List AV} {x : Value} (h : real E (.agg l) = some x) : ∃ xs, reals E l = some xs ∧ x = .agg xs.toArray := by
  unfold real at h
  split at h
  · rename_i xs hx; exact ⟨xs, hx, (Option.some.inj h).symm⟩
  · cases h
theorem real_agg_mk {E : Env} {l : List AV} {xs : List Value} (h : reals E l = some xs) : real E (.agg l) = some (.agg xs.toArray) := by unfold real; rw [h]
theorem real_tuple {E : Env} {l : List AV} {x : Value} (h : real E (.tuple l) = some x) : ∃ xs, reals E l = some xs ∧ x = .tuple xs.toArray := by
  unfold real at h
  split at h
  · rename_i xs hx; exact ⟨xs, hx, (Option.some.inj h).symm⟩
  · cases h
theorem real_tuple_mk {E : Env} {l : List AV} {xs : List Value} (h : reals E l = some xs) : real E (.tuple l) = some (.tuple xs.toArray) := by unfold real; rw [h]
theorem real_iface {E : Env} {t : TypeId} {v : AV} {x : Value} (h : real E (.iface t v) = some x) : ∃ y, real E v = some y ∧ x = .iface t y := by
  unfold real at h
  split at h
  · rename_i y hy; exact ⟨y, hy, (Option.some.inj h).symm⟩
  · cases h
theorem real_iface_mk {E : Env} {t : TypeId} {v : AV} {y : Value} (h : real E v = some y) : real E (.iface t v) = some (.iface t y) := by unfold real; rw [h]
theorem real_func {E : Env} {fn : Fn} {l m : List AV} {x : Value} (h : real E (.func fn l m) = some x) : ∃ xs ys, reals E l = some xs ∧ reals E m = some ys ∧ x = .func fn xs.toArray ys.toArray := by
  unfold real at h
  split at h
  · rename_i xs hx
    split at h
    · rename_i ys hy; exact ⟨xs, ys, hx, hy, (Option.some.inj h).symm⟩
    · cases h
  · cases h
theorem real_func_mk {E : Env} {fn : Fn} {l m : List AV} {xs ys : List Value} (h : reals E l = some xs) (h' : reals E m = some ys) : real E (.func fn l m) = some (.func fn xs.toArray ys.toArray) := by unfold real; rw [h, h']

theorem real_oneCell {E : Env} {v : AV} {x : Value} (h : real E v = some x) (h1 : v.one = true) : x.oneCell = true := by
  cases v with
  | sym i => unfold real at h; rw [single_eq h]; exact single_one h
  | _ => simp [AV.one] at h1 <;> unfold real at h <;> (repeat' split at h) <;> first | (cases h; rfl) | cases h
theorem real_cells {E : Env} {v : AV} {x : Value} (h : real E v = some x) : reals E v.cells = some x.cells.toList := by
  cases v with
  | agg l => obtain ⟨xs, hx, rfl⟩ := real_agg h; simpa [AV.cells, Value.cells] using hx
  | tuple l => obtain ⟨xs, hx, rfl⟩ := real_tuple h; exact reals_mk h rfl
  | sym i => have h' := h; unfold real at h; rw [single_eq h]; rw [single_cells h]; rw [single_eq h] at h'; exact reals_mk h' rfl
  | _ => (have h' := h; unfold real at h; (repeat' split at h) <;> first | (cases h; exact reals_mk h' rfl) | cases h)

end Go.Am
