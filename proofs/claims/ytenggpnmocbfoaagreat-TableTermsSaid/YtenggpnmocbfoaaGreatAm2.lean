/-
  THE ABSTRACT MACHINE, part 2: abstract heaps, what it means that one stands for a world, and that this outlives each step on memory.
-/
import Derived.Test.YtenggpnmocbfoaaGreatAm1
namespace Go.Am
set_option linter.unusedSectionVars false
variable [Sig]

/-- A row of cells: those from lo to n are known (at 'cells'); its family; exact: the real row has just n cells; cap: the end of its room, where known. -/
structure Row where
  cells : PT AV
  n : Nat
  lo : Nat
  elem : TypeId
  fam : Nat
  exact : Bool
  cap : Option Nat
/-- Rows that may share memory. Of them may be read: the owner, and those from 'since' on; none is later than 'last'. mx: no readable one is longer. frz: from here on no cell is frozen. -/
structure Fam where
  owner : Nat
  since : Nat
  last : Nat
  mx : Nat
  frz : Nat
  strish : Bool
inductive AB where
  | row (r : Row)
  | map (es : List (AV × AV × Nat)) (clock : Nat)
  | strIter (s : List UInt8) (pos : Nat)
  | mapIter (m : Option Nat) (since : Nat) (seen : List Nat) (stepped : Nat)
structure St where
  heap : PT AB
  fams : PT Fam
  next : Nat

def Fam.lets (f : Fam) (b : Nat) : Bool := match Nat.beq b f.owner with | true => true | false => Nat.ble f.since b
def St.rowAt (A : St) (b : Nat) : Option Row := match A.heap.at_ b with | some (.row r) => some r | _ => none
def St.readable (A : St) (b : Nat) (r : Row) : Bool := match A.fams.at_ r.fam with | some f => f.lets b | none => false
def St.grp (A : St) (b : Nat) : Nat := match A.heap.at_ b with | some (.row r) => r.fam | some _ => b | none => 0

/-- A row of cells as it lies in the world. -/
def Row.lies (E : Env) (f : Fam) (r : Row) (e : Ent) (w : World) : Prop :=
  ∃ cs fz, w.heap[e.blk]? = some (.cells cs r.elem fz) ∧
    (r.exact = true → e.sh = 0 ∧ cs.size = r.n) ∧ e.sh ≤ r.lo ∧ r.n ≤ e.ec ∧ (∀ c, r.cap = some c → e.ec = c) ∧ e.ec - e.sh ≤ cs.size ∧
    (∀ i v, r.lo ≤ i → i < r.n → r.cells.at_ i = some v → ∃ x, real E v = some x ∧ cs[i - e.sh]? = some x) ∧
    fz.1 ≤ fz.2 ∧ (∀ i, (f.strish = true → i < cs.size) → fz.1 ≤ i → i < fz.2 → i + e.sh < f.frz)

def entry? (E : Env) : List (AV × AV × Nat) → Option (List MapEntry)
  | [] => some []
  | (k, v, b) :: es => match real E k, real E v, entry? E es with
    | some k', some v', some es' => some ({ key := k', val := v', born := b } :: es')
    | _, _, _ => none

def AB.lies (E : Env) (o : AB) (e : Ent) (w : World) : Prop :=
  match o with
  | .row _ => True
  | .map es c => ∃ res, w.heap[e.blk]? = some (.map res c) ∧ entry? E es = some res.toList
  | .strIter s pos => w.heap[e.blk]? = some (.stringIter ⟨⟨s⟩⟩ pos)
  | .mapIter m since seen stepped => ∃ m', w.heap[e.blk]? = some (.mapIter m' since seen.toArray stepped) ∧
      (match m with | none => m' = none | some b => ∃ e', E b = some e' ∧ m' = some e'.blk)

/-- The world in which a run began, and the abstract blocks that are promised and not there yet. -/
structure Base extends World where
  K : Nat → Prop
/-- A stands, by E, for the world w; W0: the world in which the run began, and what is promised; G: how many package-level variables there are. -/
structure Rel (G : Nat) (W0 : Base) (E : Env) (A : St) (w : World) : Prop where
  pos : G < A.next
  fresh : ∀ b, A.next ≤ b → E b = none ∧ A.heap.at_ b = none
  glob : ∀ g, g < G → ∃ e, E g = some e ∧ e.blk = g ∧ e.sh = 0
  keep : ∀ b, W0.K b → E b = none ∧ b < A.next
  rows : ∀ b r f e, A.heap.at_ b = some (.row r) → A.fams.at_ r.fam = some f → f.lets b = true → E b = some e → r.lies E f e w
  objs : ∀ b o, A.heap.at_ b = some o → (∀ r, o ≠ .row r) → ∃ e, E b = some e ∧ o.lies E e w
  famlt : ∀ b r, A.heap.at_ b = some (.row r) → r.fam ≤ b
  last : ∀ b r f, A.heap.at_ b = some (.row r) → A.fams.at_ r.fam = some f → r.fam ≠ 0 → b ≤ f.last
  mx : ∀ b r f, A.heap.at_ b = some (.row r) → A.fams.at_ r.fam = some f → r.fam ≠ 0 → f.lets b = true → r.n ≤ f.mx
  same : ∀ b b' r r' e e', A.heap.at_ b = some (.row r) → A.heap.at_ b' = some (.row r') → r.fam = r'.fam → r.fam ≠ 0 → E b = some e → E b' = some e' → e.blk = e'.blk → e.ec ≤ r.lo ∨ e'.ec ≤ r'.lo ∨ e.sh = e'.sh
  apart : ∀ b b' e e', E b = some e → E b' = some e' → A.grp b ≠ A.grp b' → e.blk ≠ e'.blk
  own : ∀ b e, E b = some e → A.grp b ≠ 0 → W0.heap.size ≤ e.blk
  size : ∀ b e, E b = some e → e.blk < w.heap.size
  below : RowKit.Below W0.heap.size W0.toWorld w

theorem entry?_le {E E' : Env} (h : E.le E') : ∀ {es res}, entry? E es = some res → entry? E' es = some res
  | [], res, e => e
  | (k, v, b) :: es, res, e => by
    unfold entry? at e ⊢
    split at e
    · rename_i k' v' es' hk hv he
      rw [real_le h k k' hk, real_le h v v' hv, entry?_le h he]; exact e
    · cases e

theorem Row.lies_le {E E' : Env} (h : E.le E') {f : Fam} {r : Row} {e : Ent} {w : World} (hl : r.lies E f e w) : r.lies E' f e w := by
  obtain ⟨cs, fz, h1, h2, h3, h4, h5, h6, h7, h8⟩ := hl
  exact ⟨cs, fz, h1, h2, h3, h4, h5, h6, fun i v a b c => let ⟨x, hx, hc⟩ := h7 i v a b c; ⟨x, real_le h v x hx, hc⟩, h8⟩
theorem AB.lies_le {E E' : Env} (h : E.le E') {o : AB} {e : Ent} {w : World} (hl : o.lies E e w) : o.lies E' e w := by
  cases o with
  | row r => trivial
  | map es c => obtain ⟨res, h1, h2⟩ := hl; exact ⟨res, h1, entry?_le h h2⟩
  | strIter s pos => exact hl
  | mapIter m since seen stepped =>
    obtain ⟨m', h1, h2⟩ := hl
    refine ⟨m', h1, ?_⟩
    cases m with
    | none => exact h2
    | some b => obtain ⟨e', he, rfl⟩ := h2; exact ⟨e', h b e' he, rfl⟩
theorem Row.lies_heap {E : Env} {f : Fam} {r : Row} {e : Ent} {w w' : World} (hl : r.lies E f e w) (h : w'.heap[e.blk]? = w.heap[e.blk]?) : r.lies E f e w' := by
  obtain ⟨cs, fz, h1, rest⟩ := hl
  exact ⟨cs, fz, by rw [h]; exact h1, rest⟩
theorem AB.lies_heap {E : Env} {o : AB} {e : Ent} {w w' : World} (hl : o.lies E e w) (h : w'.heap[e.blk]? = w.heap[e.blk]?) : o.lies E e w' := by
  cases o with
  | row r => trivial
  | map es c => obtain ⟨res, h1, h2⟩ := hl; exact ⟨res, by rw [h]; exact h1, h2⟩
  | strIter s pos => show w'.heap[e.blk]? = _; rw [h]; exact hl
  | mapIter m since seen stepped => obtain ⟨m', h1, h2⟩ := hl; exact ⟨m', by rw [h]; exact h1, h2⟩

/-- One block more. -/
def Env.ins (E : Env) (b : Nat) (e : Ent) : Env := fun c => if c = b then some e else E c
theorem Env.ins_same (E : Env) (b : Nat) (e : Ent) : E.ins b e b = some e := by unfold Env.ins; rw [if_pos rfl]
theorem Env.ins_le {E : Env} {b : Nat} {e : Ent} (h : E b = none) : E.le (E.ins b e) := by
  intro c e' hc
  unfold Env.ins
  by_cases hcb : c = b
  · subst hcb; rw [h] at hc; cases hc
  · rw [if_neg hcb]; exact hc

/-- What is not memory may turn. -/
theorem Rel.alike {G : Nat} {W0 : Base} {E : Env} {A : St} {w w' : World} (R : Rel G W0 E A w) (hh : w'.heap = w.heap) (hb : RowKit.Below W0.heap.size W0.toWorld w') : Rel G W0 E A w' where
  pos := R.pos
  fresh := R.fresh
  glob := R.glob
  keep := R.keep
  rows := fun b r f e h1 h2 h3 he => Row.lies_heap (R.rows b r f e h1 h2 h3 he) (by rw [hh])
  objs := fun b o h1 h2 => let ⟨e, he, hl⟩ := R.objs b o h1 h2; ⟨e, he, AB.lies_heap hl (by rw [hh])⟩
  famlt := R.famlt
  last := R.last
  mx := R.mx
  same := R.same
  apart := R.apart
  own := R.own
  size := fun b e h => by rw [hh]; exact R.size b e h
  below := hb
theorem Rel.drew {G : Nat} {W0 : Base} {E : Env} {A : St} {w : World} (R : Rel G W0 E A w) : Rel G W0 E A { w with drawn := w.drawn + 1 } :=
  R.alike rfl ⟨R.below.os, R.below.tape, R.below.output, R.below.size, R.below.block⟩

theorem below_push {B : Nat} {a w : World} (h : RowKit.Below B a w) (hB : B ≤ w.heap.size) (o : Obj) : RowKit.Below B a { w with heap := w.heap.push o } :=
  h.alloc hB o
theorem heap_push {w : World} (o : Obj) (k : Nat) (h : k < w.heap.size) : ({ w with heap := w.heap.push o } : World).heap[k]? = w.heap[k]? :=
  RowKit.Below.heap_alloc w o k h

/-- A NEW ROW. -/
def newRow (A : St) (elem : TypeId) (l : List AV) : St :=
  { heap := A.heap.put A.next (.row { cells := PT.leaf.fill 0 l, n := l.length, lo := 0, elem, fam := A.next, exact := true, cap := some l.length }),
    fams := A.fams.put A.next { owner := A.next, since := A.next, last := A.next, mx := l.length, frz := 0, strish := false },
    next := A.next + 1 }

theorem Rel.nil {G : Nat} {W0 : Base} {E : Env} {A : St} {w : World} (R : Rel G W0 E A w) : E A.next = none := (R.fresh A.next (Nat.le_refl _)).1
theorem Rel.lt {G : Nat} {W0 : Base} {E : Env} {A : St} {w : World} (R : Rel G W0 E A w) {b : Nat} {e : Ent} (h : E b = some e) : b < A.next := by
  rcases Nat.lt_or_ge b A.next with h' | h'
  · exact h'
  · rw [(R.fresh b h').1] at h; cases h
theorem Rel.hlt {G : Nat} {W0 : Base} {E : Env} {A : St} {w : World} (R : Rel G W0 E A w) {b : Nat} {o : AB} (h : A.heap.at_ b = some o) : b < A.next := by
  rcases Nat.lt_or_ge b A.next with h' | h'
  · exact h'
  · rw [(R.fresh b h').2] at h; cases h

/-- ANY NEW BLOCK of the real heap, under a new abstract block o, in a group of its own. -/
theorem Rel.push {G : Nat} {W0 : Base} {E : Env} {A : St} {w : World} (R : Rel G W0 E A w) (ob : Obj) (o : AB) (fams : PT Fam) (sh ec : Nat)
    (hf : ∀ k, k < A.next → fams.at_ k = A.fams.at_ k)
    (hrow : ∀ r, o = .row r → r.fam = A.next ∧ ∃ f, fams.at_ A.next = some f ∧ A.next ≤ f.last ∧ r.n ≤ f.mx ∧ r.lies (E.ins A.next ⟨w.heap.size, sh, ec⟩) f ⟨w.heap.size, sh, ec⟩ { w with heap := w.heap.push ob })
    (hobj : o.lies (E.ins A.next ⟨w.heap.size, sh, ec⟩) ⟨w.heap.size, sh, ec⟩ { w with heap := w.heap.push ob }) :
    Rel G W0 (E.ins A.next ⟨w.heap.size, sh, ec⟩) { heap := A.heap.put A.next o, fams, next := A.next + 1 } { w with heap := w.heap.push ob } := by
  have hle : E.le (E.ins A.next ⟨w.heap.size, sh, ec⟩) := Env.ins_le R.nil
  have hsz : W0.heap.size ≤ w.heap.size := R.below.size
  have old : ∀ c e, c ≠ A.next → (E.ins A.next ⟨w.heap.size, sh, ec⟩) c = some e → E c = some e := fun c e hc h => by unfold Env.ins at h; rwa [if_neg hc] at h
  have hgrp : ∀ c, c < A.next → ({ heap := A.heap.put A.next o, fams, next := A.next + 1 } : St).grp c = A.grp c := fun c hc => by
    unfold St.grp; simp only [PT.at_put]; rw [if_neg (by omega)]
  have hgnew : ({ heap := A.heap.put A.next o, fams, next := A.next + 1 } : St).grp A.next = A.next := by
    unfold St.grp; simp only [PT.at_put_same]
    cases o with
    | row r => exact (hrow r rfl).1
    | _ => rfl
  have hglt : ∀ c, c < A.next → A.grp c < A.next := fun c hc => by
    unfold St.grp
    cases h : A.heap.at_ c with
    | none => have := R.pos; simp only; omega
    | some o' =>
      cases o' with
      | row r => have := R.famlt c r h; simp only; omega
      | _ => exact hc
  exact {
    pos := Nat.lt_succ_of_lt R.pos
    fresh := fun b hb => by
      have hb' : A.next + 1 ≤ b := hb
      have h1 := R.fresh b (by omega)
      refine ⟨?_, ?_⟩
      · unfold Env.ins; rw [if_neg (by omega)]; exact h1.1
      · show (A.heap.put A.next o).at_ b = none
        rw [PT.at_put_ne _ _ (by omega)]; exact h1.2
    glob := fun g hg => let ⟨e, he, h⟩ := R.glob g hg; ⟨e, hle g e he, h⟩
    keep := fun b hb => by
      obtain ⟨h1, h2⟩ := R.keep b hb
      refine ⟨?_, Nat.lt_succ_of_lt h2⟩
      unfold Env.ins; rw [if_neg (by omega)]; exact h1
    rows := fun b r f e h1 h2 h3 he => by
      by_cases hb : b = A.next
      · subst hb
        have h1' : (A.heap.put A.next o).at_ A.next = some (.row r) := h1
        rw [PT.at_put_same] at h1'
        obtain ⟨hfam, f', hf', _, _, hl⟩ := hrow r (Option.some.inj h1')
        have h2' : fams.at_ r.fam = some f := h2
        rw [hfam, hf'] at h2'
        cases h2'
        rw [Env.ins_same] at he
        cases he
        exact hl
      · have h1' : (A.heap.put A.next o).at_ b = some (.row r) := h1
        rw [PT.at_put_ne _ _ hb] at h1'
        have hlt := R.hlt h1'
        have hfl := R.famlt b r h1'
        have h2' : fams.at_ r.fam = some f := h2
        rw [hf _ (by omega)] at h2'
        have he := old b e hb he
        exact Row.lies_heap (Row.lies_le hle (R.rows b r f e h1' h2' h3 he)) (heap_push ob _ (R.size b e he))
    objs := fun b o' h1 h2 => by
      by_cases hb : b = A.next
      · subst hb
        have h1' : (A.heap.put A.next o).at_ A.next = some o' := h1
        rw [PT.at_put_same] at h1'
        cases h1'
        exact ⟨_, Env.ins_same _ _ _, hobj⟩
      · have h1' : (A.heap.put A.next o).at_ b = some o' := h1
        rw [PT.at_put_ne _ _ hb] at h1'
        obtain ⟨e, he, hl⟩ := R.objs b o' h1' h2
        exact ⟨e, hle b e he, AB.lies_heap (AB.lies_le hle hl) (heap_push ob _ (R.size b e he))⟩
    famlt := fun b r h1 => by
      have h1' : (A.heap.put A.next o).at_ b = some (.row r) := h1
      by_cases hb : b = A.next
      · subst hb; rw [PT.at_put_same] at h1'; rw [(hrow r (Option.some.inj h1')).1]; exact Nat.le_refl _
      · rw [PT.at_put_ne _ _ hb] at h1'; exact R.famlt b r h1'
    last := fun b r f h1 h2 h3 => by
      have h1' : (A.heap.put A.next o).at_ b = some (.row r) := h1
      have h2' : fams.at_ r.fam = some f := h2
      by_cases hb : b = A.next
      · subst hb
        rw [PT.at_put_same] at h1'
        obtain ⟨hfam, f', hf', hl, _⟩ := hrow r (Option.some.inj h1')
        rw [hfam, hf'] at h2'
        cases h2'
        exact hl
      · rw [PT.at_put_ne _ _ hb] at h1'
        have hlt := R.hlt h1'
        have hfl := R.famlt b r h1'
        rw [hf _ (by omega)] at h2'
        exact R.last b r f h1' h2' h3
    mx := fun b r f h1 h2 h3 h4 => by
      have h1' : (A.heap.put A.next o).at_ b = some (.row r) := h1
      have h2' : fams.at_ r.fam = some f := h2
      by_cases hb : b = A.next
      · subst hb
        rw [PT.at_put_same] at h1'
        obtain ⟨hfam, f', hf', _, hm, _⟩ := hrow r (Option.some.inj h1')
        rw [hfam, hf'] at h2'
        cases h2'
        exact hm
      · rw [PT.at_put_ne _ _ hb] at h1'
        have hlt := R.hlt h1'
        have hfl := R.famlt b r h1'
        rw [hf _ (by omega)] at h2'
        exact R.mx b r f h1' h2' h3 h4
    same := fun b b' r r' e e' h1 h2 h3 h4 h5 h6 h7 => by
      have h1' : (A.heap.put A.next o).at_ b = some (.row r) := h1
      have h2' : (A.heap.put A.next o).at_ b' = some (.row r') := h2
      by_cases hb : b = A.next
      · subst hb
        by_cases hb' : b' = A.next
        · subst hb'
          rw [h5] at h6; cases h6
          exact Or.inr (Or.inr rfl)
        · rw [PT.at_put_same] at h1'
          rw [PT.at_put_ne _ _ hb'] at h2'
          have := R.hlt h2'
          have := R.famlt b' r' h2'
          have := (hrow r (Option.some.inj h1')).1
          omega
      · rw [PT.at_put_ne _ _ hb] at h1'
        by_cases hb' : b' = A.next
        · subst hb'
          rw [PT.at_put_same] at h2'
          have := R.hlt h1'
          have := R.famlt b r h1'
          have := (hrow r' (Option.some.inj h2')).1
          omega
        · rw [PT.at_put_ne _ _ hb'] at h2'
          exact R.same b b' r r' e e' h1' h2' h3 h4 (old _ _ hb h5) (old _ _ hb' h6) h7
    apart := fun b b' e e' h1 h2 h3 => by
      by_cases hb : b = A.next
      · subst hb
        rw [Env.ins_same] at h1
        cases h1
        by_cases hb' : b' = A.next
        · subst hb'; exact absurd rfl h3
        · have := R.size b' e' (old _ _ hb' h2); simp only; omega
      · have h1' := old _ _ hb h1
        by_cases hb' : b' = A.next
        · subst hb'
          rw [Env.ins_same] at h2
          cases h2
          have := R.size b e h1'; simp only; omega
        · have h2' := old _ _ hb' h2
          rw [hgrp b (R.lt h1'), hgrp b' (R.lt h2')] at h3
          exact R.apart b b' e e' h1' h2' h3
    own := fun b e h1 h2 => by
      by_cases hb : b = A.next
      · subst hb
        rw [Env.ins_same] at h1
        cases h1
        exact hsz
      · have h1' := old _ _ hb h1
        rw [hgrp b (R.lt h1')] at h2
        exact R.own b e h1' h2
    size := fun b e h1 => by
      have hs : ({ w with heap := w.heap.push ob } : World).heap.size = w.heap.size + 1 := by simp
      rw [hs]
      by_cases hb : b = A.next
      · subst hb
        rw [Env.ins_same] at h1
        cases h1
        simp only; omega
      · have := R.size b e (old _ _ hb h1); omega
    below := below_push R.below hsz ob }

theorem heap_push_new (w : World) (o : Obj) : ({ w with heap := w.heap.push o } : World).heap[w.heap.size]? = some o := by
  show (w.heap.push o)[w.heap.size]? = some o
  simp

theorem Rel.newRow {G : Nat} {W0 : Base} {E : Env} {A : St} {w : World} (R : Rel G W0 E A w) (elem : TypeId) (l : List AV) (xs : Array Value) (h : reals E l = some xs.toList) :
    E A.next = none ∧ Rel G W0 (E.ins A.next ⟨w.heap.size, 0, l.length⟩) (newRow A elem l) { w with heap := w.heap.push (.cells xs elem) } := by
  refine ⟨R.nil, R.push (.cells xs elem) _ _ 0 l.length (fun k hk => PT.at_put_ne _ _ (by omega)) ?_ trivial⟩
  intro r hr
  cases hr
  have hle : E.le (E.ins A.next ⟨w.heap.size, 0, l.length⟩) := Env.ins_le R.nil
  have hlen : xs.size = l.length := by rw [← reals_length h]; simp
  refine ⟨rfl, _, PT.at_put_same _ _ _, Nat.le_refl _, Nat.le_refl _, xs, (0, 0), heap_push_new w _, fun _ => ⟨rfl, hlen⟩, Nat.le_refl _, Nat.le_refl _, fun c hc => Option.some.inj hc, by simp only; omega, ?_, Nat.le_refl _, fun i _ h1 h2 => by simp only at h2; omega⟩
  intro i v _ hi hv
  have hi' : i < l.length := hi
  have hv' : (PT.leaf.fill 0 l).at_ i = some v := hv
  rw [PT.at_fill, if_pos (by omega)] at hv'
  obtain ⟨x, hx, hr⟩ := reals_get h i v (by simpa using hv')
  exact ⟨x, real_le hle v x hr, by simpa using hx⟩

end Go.Am
