/-
  THE ABSTRACT MACHINE, part 18b: blocks that are promised and not there yet: an allocation that no order binds.
-/
import Derived.Test.YtenggpnmocbfoaaGreatAm18
namespace Go.Am
set_option linter.unusedSectionVars false
variable [Sig]

theorem Rel.weaken {G : Nat} {W0 : Base} {E : Env} {A : St} {w : World} (R : Rel G W0 E A w) {K' : Nat → Prop} (h : ∀ c, K' c → W0.K c) : Rel G { W0 with K := K' } E A w where
  pos := R.pos
  fresh := R.fresh
  glob := R.glob
  keep := fun b hb => R.keep b (h b hb)
  rows := R.rows
  objs := R.objs
  famlt := R.famlt
  last := R.last
  mx := R.mx
  same := R.same
  apart := R.apart
  own := R.own
  size := R.size
  below := R.below

/-- A row is put for a block that comes later. -/
theorem Rel.promise {G : Nat} {W0 : Base} {E : Env} {A : St} {w : World} (R : Rel G W0 E A w) (elem : TypeId) (l : List AV) : Rel G { W0 with K := fun b => W0.K b ∨ b = A.next } E (Am.newRow A elem l) w := by
  have hgrp : ∀ c, c < A.next → (Am.newRow A elem l).grp c = A.grp c := fun c hc => by
    unfold St.grp Am.newRow; simp only [PT.at_put]; rw [if_neg (by omega)]
  have heap : ∀ c, c ≠ A.next → (Am.newRow A elem l).heap.at_ c = A.heap.at_ c := fun c hc => PT.at_put_ne _ _ hc
  have fams : ∀ c, c ≠ A.next → (Am.newRow A elem l).fams.at_ c = A.fams.at_ c := fun c hc => PT.at_put_ne _ _ hc
  have self : ∀ r, (Am.newRow A elem l).heap.at_ A.next = some (.row r) → r = { cells := PT.leaf.fill 0 l, n := l.length, lo := 0, elem, fam := A.next, exact := true, cap := some l.length } := fun r h => by
    have h' : (A.heap.put A.next (.row { cells := PT.leaf.fill 0 l, n := l.length, lo := 0, elem, fam := A.next, exact := true, cap := some l.length })).at_ A.next = some (.row r) := h
    rw [PT.at_put_same] at h'; cases h'; rfl
  have selff : ∀ f, (Am.newRow A elem l).fams.at_ A.next = some f → f = { owner := A.next, since := A.next, last := A.next, mx := l.length, frz := 0, strish := false } := fun f h => by
    have h' : (A.fams.put A.next { owner := A.next, since := A.next, last := A.next, mx := l.length, frz := 0, strish := false }).at_ A.next = some f := h
    rw [PT.at_put_same] at h'; cases h'; rfl
  exact {
    pos := Nat.lt_succ_of_lt R.pos
    fresh := fun b hb => by
      have hb' : A.next + 1 ≤ b := hb
      have h1 := R.fresh b (by omega)
      exact ⟨h1.1, by rw [heap b (by omega)]; exact h1.2⟩
    glob := R.glob
    keep := fun b hb => by
      rcases hb with hb | rfl
      · obtain ⟨h1, h2⟩ := R.keep b hb; exact ⟨h1, Nat.lt_succ_of_lt h2⟩
      · exact ⟨R.nil, Nat.lt_succ_self _⟩
    rows := fun b r f e h1 h2 h3 he => by
      have hlt := R.lt he
      rw [heap b (by omega)] at h1
      have := R.famlt b r h1
      rw [fams _ (by omega)] at h2
      exact R.rows b r f e h1 h2 h3 he
    objs := fun b o h1 h2 => by
      by_cases hb : b = A.next
      · subst hb
        have h' : (A.heap.put A.next (.row { cells := PT.leaf.fill 0 l, n := l.length, lo := 0, elem, fam := A.next, exact := true, cap := some l.length })).at_ A.next = some o := h1
        rw [PT.at_put_same] at h'
        exact absurd (Option.some.inj h').symm (h2 _)
      · rw [heap b hb] at h1; exact R.objs b o h1 h2
    famlt := fun b r h1 => by
      by_cases hb : b = A.next
      · subst hb; rw [self r h1]; exact Nat.le_refl _
      · rw [heap b hb] at h1; exact R.famlt b r h1
    last := fun b r f h1 h2 h3 => by
      by_cases hb : b = A.next
      · subst hb
        have hr := self r h1
        subst hr
        rw [selff f h2]
        exact Nat.le_refl _
      · rw [heap b hb] at h1
        have hl := R.hlt h1
        have := R.famlt b r h1
        rw [fams _ (by omega)] at h2
        exact R.last b r f h1 h2 h3
    mx := fun b r f h1 h2 h3 h4 => by
      by_cases hb : b = A.next
      · subst hb
        have hr := self r h1
        subst hr
        rw [selff f h2]
        exact Nat.le_refl _
      · rw [heap b hb] at h1
        have hl := R.hlt h1
        have := R.famlt b r h1
        rw [fams _ (by omega)] at h2
        exact R.mx b r f h1 h2 h3 h4
    same := fun b b' r r' e e' h1 h2 h3 h4 h5 h6 h7 => by
      have := R.lt h5
      have := R.lt h6
      rw [heap b (by omega)] at h1
      rw [heap b' (by omega)] at h2
      exact R.same b b' r r' e e' h1 h2 h3 h4 h5 h6 h7
    apart := fun b b' e e' h1 h2 h3 => by
      rw [hgrp b (R.lt h1), hgrp b' (R.lt h2)] at h3
      exact R.apart b b' e e' h1 h2 h3
    own := fun b e h1 h2 => by
      rw [hgrp b (R.lt h1)] at h2
      exact R.own b e h1 h2
    size := R.size
    below := R.below }

/-- Is the row still as it was put? -/
def rowZero (P : Program) (A : St) (b : Nat) (t : TypeId) : Bool :=
  match aZero P t with
  | some z => match A.heap.at_ b with
    | some (.row r) => match Nat.beq r.lo 0, Nat.beq r.n z.cells.length, Nat.beq r.elem t, (match r.cap with | none => true | some c => Nat.beq c z.cells.length) with
      | true, true, true, true => match r.cells.take 0 z.cells.length with
        | some l => AV.sames l z.cells
        | none => false
      | _, _, _, _ => false
    | _ => false
  | none => false
/-- The block is there now. -/
theorem Rel.fulfil {P : Program} {G : Nat} {W0 : Base} {E : Env} {A : St} {w : World} (R : Rel G W0 E A w) {b : Nat} {t : TypeId} {z : AV} {xs : Array Value} (hK : W0.K b) (hrz : rowZero P A b t = true) (hz : aZero P t = some z) (hx : reals E z.cells = some xs.toList)
    {K' : Nat → Prop} (hK' : ∀ c, K' c → W0.K c ∧ c ≠ b) :
    E.le (E.ins b ⟨w.heap.size, 0, z.cells.length⟩) ∧ Rel G { W0 with K := K' } (E.ins b ⟨w.heap.size, 0, z.cells.length⟩) A { w with heap := w.heap.push (.cells xs t) } := by
  obtain ⟨hnil, hlt⟩ := R.keep b hK
  have hle : E.le (E.ins b ⟨w.heap.size, 0, z.cells.length⟩) := Env.ins_le hnil
  have old : ∀ c e1, c ≠ b → (E.ins b ⟨w.heap.size, 0, z.cells.length⟩) c = some e1 → E c = some e1 := fun c e hc h => by unfold Env.ins at h; rwa [if_neg hc] at h
  have hlen := reals_length hx
  have hrow : ∀ r, A.heap.at_ b = some (.row r) → r.lo = 0 ∧ r.n = z.cells.length ∧ r.elem = t ∧ (∀ c, r.cap = some c → c = z.cells.length) ∧ r.cells.take 0 z.cells.length = some z.cells := by
    intro r hr
    unfold rowZero at hrz
    rw [hz] at hrz
    simp only [hr] at hrz
    split at hrz
    · rename_i h1 h2 h3 h4
      split at hrz
      · rename_i l hl
        refine ⟨Nat.eq_of_beq_eq_true h1, Nat.eq_of_beq_eq_true h2, Nat.eq_of_beq_eq_true h3, fun c hc => ?_, by rw [hl, AV.sames_eq hrz]⟩
        rw [hc] at h4
        exact Nat.eq_of_beq_eq_true h4
      · cases hrz
    · cases hrz
  refine ⟨hle, ?_⟩
  exact {
    pos := R.pos
    fresh := fun c hc => by
      have hc' : A.next ≤ c := hc
      have h1 := R.fresh c hc
      refine ⟨?_, h1.2⟩
      unfold Env.ins; rw [if_neg (by omega)]; exact h1.1
    glob := fun g hg => let ⟨e, he, h⟩ := R.glob g hg; ⟨e, hle g e he, h⟩
    keep := fun c hc => by
      obtain ⟨h1, h2⟩ := hK' c hc
      obtain ⟨h3, h4⟩ := R.keep c h1
      refine ⟨?_, h4⟩
      unfold Env.ins; rw [if_neg h2]; exact h3
    rows := fun c r f e h1 h2 h3 he => by
      by_cases hc : c = b
      · subst hc
        rw [Env.ins_same] at he
        cases he
        obtain ⟨g1, g2, g3, g4, g5⟩ := hrow r h1
        have hsz : xs.size = z.cells.length := by simpa using hlen
        refine ⟨xs, (0, 0), by rw [g3]; exact heap_push_new w _, fun _ => ⟨rfl, by rw [hsz, g2]⟩, Nat.zero_le _, by rw [g2]; exact Nat.le_refl _, fun k hk => (g4 k hk).symm, by simp only; omega, ?_, Nat.le_refl _, fun i _ h1 h2 => by simp only at h2; omega⟩
        intro i v _ hi hv
        obtain ⟨hl, hg⟩ := PT.take_spec _ _ _ _ g5
        have := hg i (by omega)
        rw [Nat.zero_add] at this
        rw [this] at hv
        obtain ⟨x, hxi, hr⟩ := reals_get hx i v hv
        exact ⟨x, real_le hle v x hr, by simpa using hxi⟩
      · have he := old c e hc he
        exact Row.lies_heap (Row.lies_le hle (R.rows c r f e h1 h2 h3 he)) (heap_push _ _ (R.size c e he))
    objs := fun c o h1 h2 => by
      obtain ⟨e, he, hl⟩ := R.objs c o h1 h2
      exact ⟨e, hle c e he, AB.lies_heap (AB.lies_le hle hl) (heap_push _ _ (R.size c e he))⟩
    famlt := R.famlt
    last := R.last
    mx := R.mx
    same := fun c c' r r' e e' h1 h2 h3 h4 h5 h6 h7 => by
      by_cases hc : c = b
      · subst hc
        by_cases hc' : c' = c
        · subst hc'; rw [h5] at h6; cases h6; exact Or.inr (Or.inr rfl)
        · rw [Env.ins_same] at h5; cases h5
          have := R.size c' e' (old _ _ hc' h6); simp only at h7; omega
      · by_cases hc' : c' = b
        · subst hc'
          rw [Env.ins_same] at h6; cases h6
          have := R.size c e (old _ _ hc h5); simp only at h7; omega
        · exact R.same c c' r r' e e' h1 h2 h3 h4 (old _ _ hc h5) (old _ _ hc' h6) h7
    apart := fun c c' e e' h1 h2 h3 => by
      by_cases hc : c = b
      · subst hc
        by_cases hc' : c' = c
        · subst hc'; exact absurd rfl h3
        · rw [Env.ins_same] at h1; cases h1
          have := R.size c' e' (old _ _ hc' h2); simp only; omega
      · by_cases hc' : c' = b
        · subst hc'
          rw [Env.ins_same] at h2; cases h2
          have := R.size c e (old _ _ hc h1); simp only; omega
        · exact R.apart c c' e e' (old _ _ hc h1) (old _ _ hc' h2) h3
    own := fun c e h1 h2 => by
      by_cases hc : c = b
      · subst hc
        rw [Env.ins_same] at h1; cases h1
        exact R.below.size
      · exact R.own c e (old _ _ hc h1) h2
    size := fun c e h1 => by
      have hs : ({ w with heap := w.heap.push (.cells xs t) } : World).heap.size = w.heap.size + 1 := by simp
      rw [hs]
      by_cases hc : c = b
      · subst hc
        rw [Env.ins_same] at h1; cases h1
        simp only; omega
      · have := R.size c e (old _ _ hc h1); omega
    below := below_push R.below R.below.size _ }
/-- The allocation that was promised. -/
theorem float_wp {P : Program} {G : Nat} {W0 : Base} {E : Env} {A : St} {w : World} {a : Act} {o : Oper} {b : Nat} {t : TypeId} {next : Act → World → Prop} {Q : Exit → Act → World → Prop} (R : Rel G W0 E A w) (ho : o.op = .alloc t) (hK : W0.K b) (hrz : rowZero P A b t = true)
    {K' : Nat → Prop} (hK' : ∀ c, K' c → W0.K c ∧ c ≠ b)
    (hn : ∀ E' x w', E.le E' → real E' (.ptr b 0) = some x → Rel G { W0 with K := K' } E' A w' → next (a.put o.dst x) w') : o.wp P a w next Q := by
  cases hz : aZero P t with
  | none => unfold rowZero at hrz; rw [hz] at hrz; cases hrz
  | some z =>
    obtain ⟨zv, hzr, hzz⟩ := aZero_ok (P := P) E (w := w) hz
    obtain ⟨hle, hR⟩ := R.fulfil hK hrz hz (real_cells hzz) hK'
    have hrun : (Instr.alloc t true (.tuple #[])).run P w = .ok (.pointer (some ⟨w.heap.size, 0, none⟩)) { w with heap := w.heap.push (.cells zv.cells t) } := by
      unfold Instr.alloc
      rw [bind_ok hzr]
      simp only
      unfold newVar Go.newRow
      rfl
    obtain ⟨dst, op, type, pos, after, guard⟩ := o
    simp only at ho
    subst ho
    unfold Oper.wp
    have h2 : (execOp a.eval ⟨dst, .alloc t, type, pos, after, guard⟩).run P w = .ok (.value (.pointer (some ⟨w.heap.size, 0, none⟩))) { w with heap := w.heap.push (.cells zv.cells t) } := run_value hrun
    rw [h2]
    exact hn _ _ _ hle (real_ptr_mk 0 (Env.ins_same _ _ _)) hR
end Go.Am
