/-
  THE ABSTRACT MACHINE, part 3: what a store, a new member of a family, an object's change do to the relation; the model's runs of loads and stores.
-/
import Derived.Test.YtenggpnmocbfoaaGreatAm2
namespace Go.Am
set_option linter.unusedSectionVars false
variable [Sig]

theorem Rel.row {G : Nat} {W0 : Base} {E : Env} {A : St} {w : World} (R : Rel G W0 E A w) {b : Nat} {r : Row} {f : Fam} {e : Ent} (h : A.heap.at_ b = some (.row r)) (hf : A.fams.at_ r.fam = some f) (hl : f.lets b = true) (he : E b = some e) :
    r.lies E f e w := R.rows b r f e h hf hl he

theorem grp_row {A : St} {b : Nat} {r : Row} (h : A.heap.at_ b = some (.row r)) : A.grp b = r.fam := by unfold St.grp; rw [h]

/-- THE MEMORY OF ONE FAMILY TURNS (a store, a freeze). -/
theorem Rel.turn {G : Nat} {W0 : Base} {E : Env} {A : St} {w w' : World} (R : Rel G W0 E A w) {b : Nat} {r r' : Row} {f f' : Fam} {e : Ent} (fams : PT Fam)
    (hb : A.heap.at_ b = some (.row r)) (hf : A.fams.at_ r.fam = some f) (hlb : f.lets b = true) (hE : E b = some e) (h0 : r.fam ≠ 0)
    (hfam : r'.fam = r.fam) (hrlo : r'.lo = r.lo) (hf' : fams.at_ r.fam = some f') (hfo : ∀ k, k ≠ r.fam → fams.at_ k = A.fams.at_ k) (hlast : f.last ≤ f'.last)
    (hh : ∀ k, k ≠ e.blk → w'.heap[k]? = w.heap[k]?) (hs : w'.heap.size = w.heap.size) (hw : RowKit.Below W0.heap.size W0.toWorld w')
    (hown : f'.lets b = true → r'.n ≤ f'.mx ∧ r'.lies E f' e w')
    (hoth : ∀ c rc, c ≠ b → A.heap.at_ c = some (.row rc) → rc.fam = r.fam → f'.lets c = true → f.lets c = true ∧ (rc.n ≤ f.mx → rc.n ≤ f'.mx) ∧ ∀ ec, rc.lies E f ec w → rc.lies E f' ec w') :
    Rel G W0 E { heap := A.heap.put b (.row r'), fams, next := A.next } w' := by
  obtain ⟨cs0, fz0, hcell, _⟩ : r.lies E f e w := R.rows b r f e hb hf hlb hE
  have hgrp : ∀ c, ({ heap := A.heap.put b (.row r'), fams, next := A.next } : St).grp c = A.grp c := fun c => by
    unfold St.grp; simp only [PT.at_put]
    by_cases hc : c = b
    · subst hc; rw [if_pos rfl, hb]; exact hfam
    · rw [if_neg hc]
  exact {
    pos := R.pos
    fresh := fun c hc => ⟨(R.fresh c hc).1, by
      show (A.heap.put b (.row r')).at_ c = none
      have := R.hlt hb
      have hc' : A.next ≤ c := hc
      rw [PT.at_put_ne _ _ (by omega)]; exact (R.fresh c hc).2⟩
    glob := R.glob
    keep := R.keep
    rows := fun c rc fc ec h1 h2 h3 hec => by
      have h1' : (A.heap.put b (.row r')).at_ c = some (.row rc) := h1
      have h2' : fams.at_ rc.fam = some fc := h2
      by_cases hc : c = b
      · subst hc
        rw [PT.at_put_same] at h1'
        cases h1'
        rw [hfam, hf'] at h2'
        cases h2'
        rw [hE] at hec; cases hec
        exact (hown h3).2
      · rw [PT.at_put_ne _ _ hc] at h1'
        by_cases hfc : rc.fam = r.fam
        · rw [hfc, hf'] at h2'
          cases h2'
          obtain ⟨h4, _, h5⟩ := hoth c rc hc h1' hfc h3
          exact h5 ec (R.rows c rc f ec h1' (by rw [hfc]; exact hf) h4 hec)
        · rw [hfo _ hfc] at h2'
          have hl := R.rows c rc fc ec h1' h2' h3 hec
          have hne : ec.blk ≠ e.blk := R.apart c b ec e hec hE (by rw [grp_row h1', grp_row hb]; exact hfc)
          exact Row.lies_heap hl (hh _ hne)
    objs := fun c o h1 h2 => by
      have h1' : (A.heap.put b (.row r')).at_ c = some o := h1
      by_cases hc : c = b
      · subst hc
        rw [PT.at_put_same] at h1'
        exact absurd (Option.some.inj h1').symm (h2 r')
      · rw [PT.at_put_ne _ _ hc] at h1'
        obtain ⟨ec, hec, hl⟩ := R.objs c o h1' h2
        refine ⟨ec, hec, AB.lies_heap hl (hh _ ?_)⟩
        intro heq
        cases o with
        | row rr => exact h2 rr rfl
        | map es k => obtain ⟨res, h5, _⟩ := hl; rw [heq, hcell] at h5; cases h5
        | strIter s p => have h5 : w.heap[ec.blk]? = _ := hl; rw [heq, hcell] at h5; cases h5
        | mapIter m s1 s2 s3 => obtain ⟨res, h5, _⟩ := hl; rw [heq, hcell] at h5; cases h5
    famlt := fun c rc h1 => by
      have h1' : (A.heap.put b (.row r')).at_ c = some (.row rc) := h1
      by_cases hc : c = b
      · subst hc; rw [PT.at_put_same] at h1'; cases h1'; rw [hfam]; exact R.famlt c r hb
      · rw [PT.at_put_ne _ _ hc] at h1'; exact R.famlt c rc h1'
    last := fun c rc fc h1 h2 h3 => by
      have h1' : (A.heap.put b (.row r')).at_ c = some (.row rc) := h1
      have h2' : fams.at_ rc.fam = some fc := h2
      by_cases hc : c = b
      · subst hc
        rw [PT.at_put_same] at h1'
        cases h1'
        rw [hfam, hf'] at h2'
        cases h2'
        exact Nat.le_trans (R.last c r f hb hf h0) hlast
      · rw [PT.at_put_ne _ _ hc] at h1'
        by_cases hfc : rc.fam = r.fam
        · rw [hfc, hf'] at h2'
          cases h2'
          exact Nat.le_trans (R.last c rc f h1' (by rw [hfc]; exact hf) (by rw [hfc]; exact h0)) hlast
        · rw [hfo _ hfc] at h2'
          exact R.last c rc fc h1' h2' h3
    mx := fun c rc fc h1 h2 h3 h4 => by
      have h1' : (A.heap.put b (.row r')).at_ c = some (.row rc) := h1
      have h2' : fams.at_ rc.fam = some fc := h2
      by_cases hc : c = b
      · subst hc
        rw [PT.at_put_same] at h1'
        cases h1'
        rw [hfam, hf'] at h2'
        cases h2'
        exact (hown h4).1
      · rw [PT.at_put_ne _ _ hc] at h1'
        by_cases hfc : rc.fam = r.fam
        · rw [hfc, hf'] at h2'
          cases h2'
          obtain ⟨h5, h6, _⟩ := hoth c rc hc h1' hfc h4
          exact h6 (R.mx c rc f h1' (by rw [hfc]; exact hf) (by rw [hfc]; exact h0) h5)
        · rw [hfo _ hfc] at h2'
          exact R.mx c rc fc h1' h2' h3 h4
    same := fun c c' rc rc' ec ec' h1 h2 h3 h4 h5 h6 h7 => by
      have pull : ∀ d rd, (A.heap.put b (.row r')).at_ d = some (.row rd) → ∃ rd', A.heap.at_ d = some (.row rd') ∧ rd'.fam = rd.fam ∧ rd'.lo = rd.lo := fun d rd hd => by
        by_cases hdb : d = b
        · subst hdb; rw [PT.at_put_same] at hd; cases hd; exact ⟨r, hb, hfam.symm, hrlo.symm⟩
        · rw [PT.at_put_ne _ _ hdb] at hd; exact ⟨rd, hd, rfl, rfl⟩
      obtain ⟨x, hx1, hx2, hx3⟩ := pull c rc h1
      obtain ⟨y, hy1, hy2, hy3⟩ := pull c' rc' h2
      rw [← hx3, ← hy3]
      exact R.same c c' x y ec ec' hx1 hy1 (by rw [hx2, hy2]; exact h3) (by rw [hx2]; exact h4) h5 h6 h7
    apart := fun c c' ec ec' h1 h2 h3 => by rw [hgrp, hgrp] at h3; exact R.apart c c' ec ec' h1 h2 h3
    own := fun c ec h1 h2 => by rw [hgrp] at h2; exact R.own c ec h1 h2
    size := fun c ec h1 => by rw [hs]; exact R.size c ec h1
    below := hw }

/-- A NEW MEMBER OF A FAMILY: in the memory of b (which may have turned), or in new memory. -/
theorem Rel.member {G : Nat} {W0 : Base} {E : Env} {A : St} {w w' : World} (R : Rel G W0 E A w) {b : Nat} {r r' : Row} {f f' : Fam} {e e' : Ent} (fams : PT Fam)
    (hb : A.heap.at_ b = some (.row r)) (hf : A.fams.at_ r.fam = some f) (hlb : f.lets b = true) (hE : E b = some e) (h0 : r.fam ≠ 0)
    (hfam : r'.fam = r.fam) (hf' : fams.at_ r.fam = some f') (hfo : ∀ k, k ≠ r.fam → fams.at_ k = A.fams.at_ k) (hlast : A.next ≤ f'.last)
    (hblk : e'.blk = e.blk ∨ e'.blk = w.heap.size)
    (hh : ∀ k, k ≠ e.blk → k < w.heap.size → w'.heap[k]? = w.heap[k]?) (hs : w.heap.size ≤ w'.heap.size) (hse : e'.blk < w'.heap.size) (hw : RowKit.Below W0.heap.size W0.toWorld w')
    (hsame : ∀ c rc ec, A.heap.at_ c = some (.row rc) → rc.fam = r.fam → E c = some ec → ec.blk = e'.blk → ec.ec ≤ rc.lo ∨ e'.ec ≤ r'.lo ∨ ec.sh = e'.sh)
    (hown : r'.n ≤ f'.mx ∧ r'.lies (E.ins A.next e') f' e' w')
    (hoth : ∀ c rc, A.heap.at_ c = some (.row rc) → rc.fam = r.fam → f'.lets c = true → f.lets c = true ∧ (rc.n ≤ f.mx → rc.n ≤ f'.mx) ∧ ∀ ec, E c = some ec → rc.lies E f ec w → rc.lies E f' ec w') :
    Rel G W0 (E.ins A.next e') { heap := A.heap.put A.next (.row r'), fams, next := A.next + 1 } w' := by
  obtain ⟨cs0, fz0, hcell, _⟩ : r.lies E f e w := R.rows b r f e hb hf hlb hE
  have hle : E.le (E.ins A.next e') := Env.ins_le R.nil
  have hbl := R.hlt hb
  have hfl := R.famlt b r hb
  have old : ∀ c e1, c ≠ A.next → (E.ins A.next e') c = some e1 → E c = some e1 := fun c e hc h => by unfold Env.ins at h; rwa [if_neg hc] at h
  have hgrp : ∀ c, c < A.next → ({ heap := A.heap.put A.next (.row r'), fams, next := A.next + 1 } : St).grp c = A.grp c := fun c hc => by
    unfold St.grp; simp only [PT.at_put]; rw [if_neg (by omega)]
  have hgnew : ({ heap := A.heap.put A.next (.row r'), fams, next := A.next + 1 } : St).grp A.next = r.fam := by
    unfold St.grp; simp only [PT.at_put_same]; exact hfam
  have hap : ∀ c ec, E c = some ec → A.grp c ≠ r.fam → e'.blk ≠ ec.blk := fun c ec hc hg => by
    rcases hblk with h | h
    · rw [h]; exact R.apart b c e ec hE hc (by rw [grp_row hb]; exact Ne.symm hg)
    · have := R.size c ec hc; omega
  exact {
    pos := Nat.lt_succ_of_lt R.pos
    fresh := fun c hc => by
      have hc' : A.next + 1 ≤ c := hc
      have h1 := R.fresh c (by omega)
      refine ⟨?_, ?_⟩
      · unfold Env.ins; rw [if_neg (by omega)]; exact h1.1
      · show (A.heap.put A.next _).at_ c = none
        rw [PT.at_put_ne _ _ (by omega)]; exact h1.2
    glob := fun g hg => let ⟨e, he, h⟩ := R.glob g hg; ⟨e, hle g e he, h⟩
    keep := fun b hb => by
      obtain ⟨h1, h2⟩ := R.keep b hb
      refine ⟨?_, Nat.lt_succ_of_lt h2⟩
      unfold Env.ins; rw [if_neg (by omega)]; exact h1
    rows := fun c rc fc ec h1 h2 h3 hec => by
      have h1' : (A.heap.put A.next (.row r')).at_ c = some (.row rc) := h1
      have h2' : fams.at_ rc.fam = some fc := h2
      by_cases hc : c = A.next
      · subst hc
        rw [PT.at_put_same] at h1'
        cases h1'
        rw [hfam, hf'] at h2'
        cases h2'
        rw [Env.ins_same] at hec; cases hec
        exact hown.2
      · rw [PT.at_put_ne _ _ hc] at h1'
        have hec := old c ec hc hec
        by_cases hfc : rc.fam = r.fam
        · rw [hfc, hf'] at h2'
          cases h2'
          obtain ⟨h4, _, h5⟩ := hoth c rc h1' hfc h3
          exact Row.lies_le hle (h5 ec hec (R.rows c rc f ec h1' (by rw [hfc]; exact hf) h4 hec))
        · rw [hfo _ hfc] at h2'
          have hl := R.rows c rc fc ec h1' h2' h3 hec
          have hne : ec.blk ≠ e.blk := R.apart c b ec e hec hE (by rw [grp_row h1', grp_row hb]; exact hfc)
          exact Row.lies_le hle (Row.lies_heap hl (hh _ hne (R.size c ec hec)))
    objs := fun c o h1 h2 => by
      have h1' : (A.heap.put A.next (.row r')).at_ c = some o := h1
      by_cases hc : c = A.next
      · subst hc
        rw [PT.at_put_same] at h1'
        exact absurd (Option.some.inj h1').symm (h2 r')
      · rw [PT.at_put_ne _ _ hc] at h1'
        obtain ⟨ec, hec, hl⟩ := R.objs c o h1' h2
        refine ⟨ec, hle c ec hec, AB.lies_le hle (AB.lies_heap hl (hh _ ?_ (R.size c ec hec)))⟩
        intro heq
        cases o with
        | row rr => exact h2 rr rfl
        | map es k => obtain ⟨res, h5, _⟩ := hl; rw [heq, hcell] at h5; cases h5
        | strIter s p => have h5 : w.heap[ec.blk]? = _ := hl; rw [heq, hcell] at h5; cases h5
        | mapIter m s1 s2 s3 => obtain ⟨res, h5, _⟩ := hl; rw [heq, hcell] at h5; cases h5
    famlt := fun c rc h1 => by
      have h1' : (A.heap.put A.next (.row r')).at_ c = some (.row rc) := h1
      by_cases hc : c = A.next
      · subst hc; rw [PT.at_put_same] at h1'; cases h1'; rw [hfam]; omega
      · rw [PT.at_put_ne _ _ hc] at h1'; exact R.famlt c rc h1'
    last := fun c rc fc h1 h2 h3 => by
      have h1' : (A.heap.put A.next (.row r')).at_ c = some (.row rc) := h1
      have h2' : fams.at_ rc.fam = some fc := h2
      by_cases hc : c = A.next
      · subst hc
        rw [PT.at_put_same] at h1'
        cases h1'
        rw [hfam, hf'] at h2'
        cases h2'
        exact hlast
      · rw [PT.at_put_ne _ _ hc] at h1'
        by_cases hfc : rc.fam = r.fam
        · rw [hfc, hf'] at h2'
          cases h2'
          have := R.hlt h1'
          omega
        · rw [hfo _ hfc] at h2'
          exact R.last c rc fc h1' h2' h3
    mx := fun c rc fc h1 h2 h3 h4 => by
      have h1' : (A.heap.put A.next (.row r')).at_ c = some (.row rc) := h1
      have h2' : fams.at_ rc.fam = some fc := h2
      by_cases hc : c = A.next
      · subst hc
        rw [PT.at_put_same] at h1'
        cases h1'
        rw [hfam, hf'] at h2'
        cases h2'
        exact hown.1
      · rw [PT.at_put_ne _ _ hc] at h1'
        by_cases hfc : rc.fam = r.fam
        · rw [hfc, hf'] at h2'
          cases h2'
          obtain ⟨h5, h6, _⟩ := hoth c rc h1' hfc h4
          exact h6 (R.mx c rc f h1' (by rw [hfc]; exact hf) (by rw [hfc]; exact h0) h5)
        · rw [hfo _ hfc] at h2'
          exact R.mx c rc fc h1' h2' h3 h4
    same := fun c c' rc rc' ec ec' h1 h2 h3 h4 h5 h6 h7 => by
      have h1' : (A.heap.put A.next (.row r')).at_ c = some (.row rc) := h1
      have h2' : (A.heap.put A.next (.row r')).at_ c' = some (.row rc') := h2
      by_cases hc : c = A.next
      · subst hc
        by_cases hc' : c' = A.next
        · subst hc'
          rw [h5] at h6; cases h6
          exact Or.inr (Or.inr rfl)
        · rw [PT.at_put_same] at h1'
          cases h1'
          rw [PT.at_put_ne _ _ hc'] at h2'
          rw [Env.ins_same] at h5
          cases h5
          rcases hsame c' rc' ec' h2' (by rw [← h3]; exact hfam) (old _ _ hc' h6) h7.symm with h | h | h
          · exact Or.inr (Or.inl h)
          · exact Or.inl h
          · exact Or.inr (Or.inr h.symm)
      · rw [PT.at_put_ne _ _ hc] at h1'
        by_cases hc' : c' = A.next
        · subst hc'
          rw [PT.at_put_same] at h2'
          cases h2'
          rw [Env.ins_same] at h6
          cases h6
          exact hsame c rc ec h1' (by rw [h3]; exact hfam) (old _ _ hc h5) h7
        · rw [PT.at_put_ne _ _ hc'] at h2'
          exact R.same c c' rc rc' ec ec' h1' h2' h3 h4 (old _ _ hc h5) (old _ _ hc' h6) h7
    apart := fun c c' ec ec' h1 h2 h3 => by
      by_cases hc : c = A.next
      · subst hc
        rw [Env.ins_same] at h1
        cases h1
        by_cases hc' : c' = A.next
        · subst hc'; exact absurd rfl h3
        · have h2' := old _ _ hc' h2
          rw [hgnew, hgrp c' (R.lt h2')] at h3
          exact hap c' ec' h2' (Ne.symm h3)
      · have h1' := old _ _ hc h1
        by_cases hc' : c' = A.next
        · subst hc'
          rw [Env.ins_same] at h2
          cases h2
          rw [hgnew, hgrp c (R.lt h1')] at h3
          exact Ne.symm (hap c ec h1' h3)
        · have h2' := old _ _ hc' h2
          rw [hgrp c (R.lt h1'), hgrp c' (R.lt h2')] at h3
          exact R.apart c c' ec ec' h1' h2' h3
    own := fun c ec h1 h2 => by
      by_cases hc : c = A.next
      · subst hc
        rw [Env.ins_same] at h1
        cases h1
        rcases hblk with h | h
        · rw [h]; exact R.own b e hE (by rw [grp_row hb]; exact h0)
        · rw [h]; exact R.below.size
      · have h1' := old _ _ hc h1
        rw [hgrp c (R.lt h1')] at h2
        exact R.own c ec h1' h2
    size := fun c ec h1 => by
      by_cases hc : c = A.next
      · subst hc
        rw [Env.ins_same] at h1
        cases h1
        exact hse
      · have := R.size c ec (old _ _ hc h1); omega
    below := hw }

/-- AN OBJECT (a map, an iterator) TURNS. -/
theorem Rel.object {G : Nat} {W0 : Base} {E : Env} {A : St} {w : World} (R : Rel G W0 E A w) {b : Nat} {o o' : AB} {e : Ent} (ob : Obj)
    (hb : A.heap.at_ b = some o) (hno : ∀ r, o ≠ .row r) (hno' : ∀ r, o' ≠ .row r) (hE : E b = some e) (hb0 : b ≠ 0) (hl : ∀ w' : World, w'.heap[e.blk]? = some ob → o'.lies E e w') :
    Rel G W0 E { heap := A.heap.put b o', fams := A.fams, next := A.next } { w with heap := w.heap.setIfInBounds e.blk ob } := by
  have hgb : A.grp b = b := by unfold St.grp; rw [hb]; cases o <;> first | rfl | exact absurd rfl (hno _)
  have hgrp : ∀ c, ({ heap := A.heap.put b o', fams := A.fams, next := A.next } : St).grp c = A.grp c := fun c => by
    by_cases hc : c = b
    · subst hc; rw [hgb]; unfold St.grp; simp only [PT.at_put_same]
    · unfold St.grp; simp only [PT.at_put]; rw [if_neg hc]
  have hold : o.lies E e w := by obtain ⟨e', he', h⟩ := R.objs b o hb hno; rw [hE] at he'; cases he'; exact h
  have hkeep : ∀ k, k ≠ e.blk → ({ w with heap := w.heap.setIfInBounds e.blk ob } : World).heap[k]? = w.heap[k]? := fun k hk => by
    show (w.heap.setIfInBounds e.blk ob)[k]? = _
    rw [Array.getElem?_setIfInBounds_ne (Ne.symm hk)]
  have hnew : ({ w with heap := w.heap.setIfInBounds e.blk ob } : World).heap[e.blk]? = some ob := by
    show (w.heap.setIfInBounds e.blk ob)[e.blk]? = _
    have := R.size b e hE
    rw [Array.getElem?_setIfInBounds_self_of_lt this]
  have hown := R.own b e hE (by rw [hgb]; exact hb0)
  exact {
    pos := R.pos
    fresh := fun c hc => ⟨(R.fresh c hc).1, by
      show (A.heap.put b o').at_ c = none
      have := R.hlt hb
      have hc' : A.next ≤ c := hc
      rw [PT.at_put_ne _ _ (by omega)]; exact (R.fresh c hc).2⟩
    glob := R.glob
    keep := R.keep
    rows := fun c rc fc ec h1 h2 h3 hec => by
      have h1' : (A.heap.put b o').at_ c = some (.row rc) := h1
      by_cases hc : c = b
      · subst hc; rw [PT.at_put_same] at h1'; exact absurd (Option.some.inj h1') (hno' rc)
      · rw [PT.at_put_ne _ _ hc] at h1'
        have hl' := R.rows c rc fc ec h1' h2 h3 hec
        refine Row.lies_heap hl' (hkeep _ ?_)
        intro heq
        obtain ⟨cs, fz, hcs, _⟩ := hl'
        cases o with
        | row rr => exact hno rr rfl
        | map es k => obtain ⟨res, h5, _⟩ := hold; rw [heq, h5] at hcs; cases hcs
        | strIter s p => have h5 : w.heap[e.blk]? = _ := hold; rw [heq, h5] at hcs; cases hcs
        | mapIter m s1 s2 s3 => obtain ⟨res, h5, _⟩ := hold; rw [heq, h5] at hcs; cases hcs
    objs := fun c oc h1 h2 => by
      have h1' : (A.heap.put b o').at_ c = some oc := h1
      by_cases hc : c = b
      · subst hc; rw [PT.at_put_same] at h1'; cases h1'; exact ⟨e, hE, hl _ hnew⟩
      · rw [PT.at_put_ne _ _ hc] at h1'
        obtain ⟨ec, hec, hl'⟩ := R.objs c oc h1' h2
        have hgc : A.grp c = c := by unfold St.grp; rw [h1']; cases oc <;> first | rfl | exact absurd rfl (h2 _)
        exact ⟨ec, hec, AB.lies_heap hl' (hkeep _ (R.apart c b ec e hec hE (by rw [hgc, hgb]; exact hc)))⟩
    famlt := fun c rc h1 => by
      have h1' : (A.heap.put b o').at_ c = some (.row rc) := h1
      by_cases hc : c = b
      · subst hc; rw [PT.at_put_same] at h1'; exact absurd (Option.some.inj h1') (hno' rc)
      · rw [PT.at_put_ne _ _ hc] at h1'; exact R.famlt c rc h1'
    last := fun c rc fc h1 h2 h3 => by
      have h1' : (A.heap.put b o').at_ c = some (.row rc) := h1
      by_cases hc : c = b
      · subst hc; rw [PT.at_put_same] at h1'; exact absurd (Option.some.inj h1') (hno' rc)
      · rw [PT.at_put_ne _ _ hc] at h1'; exact R.last c rc fc h1' h2 h3
    mx := fun c rc fc h1 h2 h3 h4 => by
      have h1' : (A.heap.put b o').at_ c = some (.row rc) := h1
      by_cases hc : c = b
      · subst hc; rw [PT.at_put_same] at h1'; exact absurd (Option.some.inj h1') (hno' rc)
      · rw [PT.at_put_ne _ _ hc] at h1'; exact R.mx c rc fc h1' h2 h3 h4
    same := fun c c' rc rc' ec ec' h1 h2 h3 h4 h5 h6 h7 => by
      have pull : ∀ d rd, (A.heap.put b o').at_ d = some (.row rd) → A.heap.at_ d = some (.row rd) := fun d rd hd => by
        by_cases hdb : d = b
        · subst hdb; rw [PT.at_put_same] at hd; exact absurd (Option.some.inj hd) (hno' rd)
        · rw [PT.at_put_ne _ _ hdb] at hd; exact hd
      exact R.same c c' rc rc' ec ec' (pull c rc h1) (pull c' rc' h2) h3 h4 h5 h6 h7
    apart := fun c c' ec ec' h1 h2 h3 => by rw [hgrp, hgrp] at h3; exact R.apart c c' ec ec' h1 h2 h3
    own := fun c ec h1 h2 => by rw [hgrp] at h2; exact R.own c ec h1 h2
    size := fun c ec h1 => by
      have hs : ({ w with heap := w.heap.setIfInBounds e.blk ob } : World).heap.size = w.heap.size := by simp
      rw [hs]; exact R.size c ec h1
    below := ⟨R.below.os, R.below.tape, R.below.output, by simpa using R.below.size, fun k hk => by rw [hkeep k (by omega)]; exact R.below.block k hk⟩ }

/- THE MODEL's RUNS. -/
def spl (cs : Array Value) (off : Nat) : List Value → Array Value
  | [] => cs
  | x :: xs => spl (cs.setIfInBounds off x) (off + 1) xs
theorem spl_size (xs : List Value) : ∀ (cs : Array Value) (off : Nat), (spl cs off xs).size = cs.size := by
  induction xs with
  | nil => intro cs off; rfl
  | cons x xs ih => intro cs off; simp [spl, ih]
theorem spl_get (xs : List Value) : ∀ (cs : Array Value) (off i : Nat), off + xs.length ≤ cs.size → (spl cs off xs)[i]? = if off ≤ i ∧ i < off + xs.length then xs[i - off]? else cs[i]? := by
  induction xs with
  | nil => intro cs off i _; simp only [spl, List.length_nil]; rw [if_neg (by omega)]
  | cons x xs ih =>
    intro cs off i h
    simp only [List.length_cons] at h ⊢
    simp only [spl]
    rw [ih _ _ _ (by simp; omega)]
    by_cases h1 : i = off
    · subst h1
      rw [if_neg (by omega), if_pos (by omega), Array.getElem?_setIfInBounds_self_of_lt (by omega)]; simp
    · by_cases h2 : off + 1 ≤ i ∧ i < off + 1 + xs.length
      · rw [if_pos h2, if_pos (by omega)]
        have e : i - off = (i - (off + 1)) + 1 := by omega
        rw [e]; rfl
      · rw [if_neg h2, if_neg (by omega), Array.getElem?_setIfInBounds_ne (Ne.symm h1)]

theorem add_plain (b o i : Nat) : (Addr.add ⟨b, o, none⟩ i) = ⟨b, o + i, none⟩ := by
  unfold Addr.add; split
  · rename_i h; subst h; rfl
  · rfl

theorem run_bind {α β : Type} (P : Program) (s : Sem α) (k : α → Sem β) : ∀ w, (s.bind k).run P w = match s.run P w with | .ok a w' => (k a).run P w' | .halt h w' => .halt h w' := by
  induction s with
  | pure a => intro w; rfl
  | load m a f ih =>
    intro w; simp only [Sem.bind, Sem.run]
    cases w.cell? a with
    | some v => exact ih v w
    | none => dsimp only; cases w.farLoad P a (m == .atomic) with
      | ok r => exact ih r.1 w
      | error h => rfl
  | store m a v f ih =>
    intro w
    cases v <;> simp only [Sem.bind, Sem.run] <;> (try rfl)
    all_goals
      cases w.cell? a with
      | some u => dsimp only; split
                  · rfl
                  · exact ih _
      | none => dsimp only; split <;> first | exact ih _ | rfl
  | new o f ih => intro w; exact ih _ _
  | shape r f ih => intro w; exact ih _ _
  | freeze a n f ih => intro w; exact ih _
  | frozen a f ih => intro w; exact ih _ _
  | getObj r f ih =>
    intro w; simp only [Sem.bind, Sem.run]
    cases w.heap[r]? with
    | none => rfl
    | some o => cases o <;> first | rfl | exact ih _ _
  | setObj r o f ih =>
    intro w; simp only [Sem.bind, Sem.run]
    cases w.heap[r]? with
    | none => rfl
    | some o => cases o <;> first | rfl | exact ih _
  | choose q f ih => intro w; simp only [Sem.bind, Sem.run]; split <;> exact ih _ _
  | sys c f ih => intro w; exact ih _ _
  | program f ih => intro w; exact ih _ _
  | mark m f ih => intro w; exact ih _
  | halt h => intro w; rfl

theorem bind_ok {α β : Type} {P : Program} {s : Sem α} {k : α → Sem β} {w w' : World} {a : α} (h : s.run P w = .ok a w') : (s >>= k).run P w = (k a).run P w' := by
  show (s.bind k).run P w = _
  rw [run_bind, h]

theorem run_load {P : Program} {w : World} {a : Addr} {v : Value} (h : w.cell? a = some v) : (load a).run P w = .ok v w := by
  simp only [load, Sem.run, h]

theorem cell_of {w : World} {b o : Nat} {cs : Array Value} {t : TypeId} {fz : Nat × Nat} (h : w.heap[b]? = some (.cells cs t fz)) : w.cell? ⟨b, o, none⟩ = cs[o]? := by
  unfold World.cell?; simp only [h]; rfl
theorem frozen_of {w : World} {b o : Nat} {cs : Array Value} {t : TypeId} {fz : Nat × Nat} (h : w.heap[b]? = some (.cells cs t fz)) : w.frozen? ⟨b, o, none⟩ = (decide (fz.1 ≤ o) && decide (o < fz.2)) := by
  unfold World.frozen?; simp only [h]

theorem run_loadCells {P : Program} {w : World} {b o : Nat} {cs : Array Value} {t : TypeId} {fz : Nat × Nat} (h : w.heap[b]? = some (.cells cs t fz)) :
    ∀ (n i : Nat) (xs : List Value) (acc : Array Value), xs.length = n → (∀ j, j < n → cs[o + i + j]? = xs[j]?) → (loadCellsFrom ⟨b, o, none⟩ i n acc).run P w = .ok (acc ++ xs.toArray) w := by
  intro n
  induction n with
  | zero => intro i xs acc hl _; have : xs = [] := List.eq_nil_of_length_eq_zero hl; subst this; simp only [loadCellsFrom]; rfl
  | succ n ih =>
    intro i xs acc hl hx
    cases xs with
    | nil => simp at hl
    | cons x xs =>
      simp only [loadCellsFrom]
      have h0 := hx 0 (by omega)
      rw [bind_ok (run_load (v := x) (by rw [add_plain, cell_of h]; simpa using h0))]
      rw [ih (i + 1) xs _ (by simpa using hl) (fun j hj => by have := hx (j + 1) (by omega); rw [show o + (i + 1) + j = o + i + (j + 1) from by omega, this]; rfl)]
      simp

theorem run_loadCells' {P : Program} {w : World} {b o n : Nat} {cs : Array Value} {t : TypeId} {fz : Nat × Nat} (h : w.heap[b]? = some (.cells cs t fz)) {xs : List Value} (hl : xs.length = n) (hx : ∀ j, j < n → cs[o + j]? = xs[j]?) :
    (loadCells ⟨b, o, none⟩ n).run P w = .ok xs.toArray w := by
  unfold loadCells
  rw [run_loadCells h n 0 xs #[] hl (by simpa using hx)]
  simp

theorem run_store {P : Program} {w : World} {a : Addr} {u v : Value} (h : w.cell? a = some u) (hf : w.frozen? a = false) (h1 : v.oneCell = true) : (store a v).run P w = .ok () (w.setCell a v) := by
  unfold store
  cases v <;> first | (simp [Value.oneCell] at h1; done) | simp [Sem.run, h, hf]

theorem setCell_heap {w : World} {b o : Nat} {cs : Array Value} {t : TypeId} {fz : Nat × Nat} {v : Value} (h : w.heap[b]? = some (.cells cs t fz)) : w.setCell ⟨b, o, none⟩ v = { w with heap := w.heap.setIfInBounds b (.cells (cs.setIfInBounds o v) t fz) } := by
  unfold World.setCell
  have : w.heap.modify b (fun | .cells c elem frozen => .cells (if (Addr.mk b o none).spot.isSome then c else c.setIfInBounds o v) elem frozen | o => o) = w.heap.setIfInBounds b (.cells (cs.setIfInBounds o v) t fz) := by
    apply Array.ext_getElem?
    intro k
    rw [Array.getElem?_modify]
    by_cases hk : b = k
    · subst hk
      have hlt : b < w.heap.size := (Array.getElem?_eq_some_iff.1 h).1
      rw [if_pos rfl, h, Array.getElem?_setIfInBounds_self_of_lt hlt]; rfl
    · rw [if_neg hk, Array.getElem?_setIfInBounds_ne hk]
  exact congrArg (fun h => ({ w with heap := h } : World)) this

theorem set_set (h : Array Obj) (b : Nat) (x y : Obj) : (h.setIfInBounds b x).setIfInBounds b y = h.setIfInBounds b y := by
  apply Array.ext_getElem?
  intro k
  by_cases hk : b = k
  · subst hk
    by_cases hlt : b < h.size
    · rw [Array.getElem?_setIfInBounds_self_of_lt (by simpa using hlt), Array.getElem?_setIfInBounds_self_of_lt hlt]
    · rw [Array.getElem?_eq_none (by simpa using hlt), Array.getElem?_eq_none (by simpa using hlt)]
  · rw [Array.getElem?_setIfInBounds_ne hk, Array.getElem?_setIfInBounds_ne hk, Array.getElem?_setIfInBounds_ne hk]

theorem set_same (h : Array Obj) (b : Nat) (x : Obj) (e : h[b]? = some x) : h.setIfInBounds b x = h := by
  apply Array.ext_getElem?
  intro k
  by_cases hk : b = k
  · subst hk
    have hlt : b < h.size := (Array.getElem?_eq_some_iff.1 e).1
    rw [Array.getElem?_setIfInBounds_self_of_lt hlt, e]
  · rw [Array.getElem?_setIfInBounds_ne hk]

theorem run_storeCells {P : Program} {b o : Nat} {t : TypeId} {fz : Nat × Nat} :
    ∀ (xs : List Value) (i : Nat) (w : World) (cs : Array Value), w.heap[b]? = some (.cells cs t fz) → (∀ x ∈ xs, x.oneCell = true) → o + i + xs.length ≤ cs.size →
      (∀ j, o + i ≤ j → j < o + i + xs.length → ¬(fz.1 ≤ j ∧ j < fz.2)) →
      (storeCells ⟨b, o, none⟩ xs i).run P w = .ok () { w with heap := w.heap.setIfInBounds b (.cells (spl cs (o + i) xs) t fz) } := by
  intro xs
  induction xs with
  | nil => intro i w cs h _ _ _; simp only [storeCells, spl, pure, Sem.run]; rw [set_same _ _ _ h]
  | cons x xs ih =>
    intro i w cs h h1 hs hf
    simp only [List.length_cons] at hs hf
    simp only [storeCells]
    have hlt : b < w.heap.size := (Array.getElem?_eq_some_iff.1 h).1
    have hc : w.cell? ⟨b, o + i, none⟩ = some (cs[o + i]'(by omega)) := by rw [cell_of h]; exact Array.getElem?_eq_getElem _
    have hz : w.frozen? ⟨b, o + i, none⟩ = false := by
      rw [frozen_of h]
      have := hf (o + i) (Nat.le_refl _) (by omega)
      simp only [Bool.and_eq_false_iff, decide_eq_false_iff_not]
      omega
    rw [bind_ok (run_store (by rw [add_plain]; exact hc) (by rw [add_plain]; exact hz) (h1 x (by simp)))]
    rw [add_plain, setCell_heap h]
    rw [ih (i + 1) _ (cs.setIfInBounds (o + i) x) (by simp [hlt]) (fun y hy => h1 y (by simp [hy])) (by simp; omega) (fun j h2 h3 => hf j (by omega) (by omega))]
    simp only [set_set, spl]
    rfl

end Go.Am
