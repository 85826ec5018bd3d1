/-
  THE ABSTRACT MACHINE, part 26: a call that leaves all that lay there; a call that hands back the sorted keys of a map that a pointer's first cell holds (maps of at most one entry).
-/
import Derived.Test.YtenggpnmocbfoaaGreatAm25
import Derived.Maps.Own
import Derived.Sort.KeysCollected
namespace Go.Am
set_option linter.unusedSectionVars false
variable [Sig]

/-- A call that turns nothing that lay there. -/
theorem Rel.within {G : Nat} {W0 : Base} {E : Env} {A : St} {w w' : World} (R : Rel G W0 E A w) (hb0 : RowKit.Below w.heap.size w w') : Rel G W0 E A w' where
  pos := R.pos
  fresh := R.fresh
  glob := R.glob
  keep := R.keep
  rows := fun b r f e h1 h2 h3 he => Row.lies_heap (R.rows b r f e h1 h2 h3 he) (hb0.block _ (R.size b e he))
  objs := fun b o h1 h2 => let ⟨e, he, hl⟩ := R.objs b o h1 h2; ⟨e, he, AB.lies_heap hl (hb0.block _ (R.size b e he))⟩
  famlt := R.famlt
  last := R.last
  mx := R.mx
  same := R.same
  apart := R.apart
  own := R.own
  size := fun b e h => Nat.lt_of_lt_of_le (R.size b e h) hb0.size
  below := R.below.trans (hb0.mono R.below.size)

/-- A BLOCK THAT A CALL HAS MADE, under a new abstract block o, in a group of its own. -/
theorem Rel.place {G : Nat} {W0 : Base} {E : Env} {A : St} {w w' : World} (R : Rel G W0 E A w) (hb0 : RowKit.Below w.heap.size w w') {g : Nat} (hg1 : w.heap.size ≤ g) (hg2 : g < w'.heap.size) (o : AB) (fams : PT Fam) (sh ec : Nat)
    (hf : ∀ k, k < A.next → fams.at_ k = A.fams.at_ k)
    (hrow : ∀ r, o = .row r → r.fam = A.next ∧ ∃ f, fams.at_ A.next = some f ∧ A.next ≤ f.last ∧ r.n ≤ f.mx ∧ r.lies (E.ins A.next ⟨g, sh, ec⟩) f ⟨g, sh, ec⟩ w')
    (hobj : o.lies (E.ins A.next ⟨g, sh, ec⟩) ⟨g, sh, ec⟩ w') :
    Rel G W0 (E.ins A.next ⟨g, sh, ec⟩) { heap := A.heap.put A.next o, fams, next := A.next + 1 } w' := by
  have hle : E.le (E.ins A.next ⟨g, sh, ec⟩) := Env.ins_le R.nil
  have hsz : W0.heap.size ≤ w.heap.size := R.below.size
  have old : ∀ c e, c ≠ A.next → (E.ins A.next ⟨g, sh, ec⟩) c = some e → E c = some e := fun c e hc h => by unfold Env.ins at h; rwa [if_neg hc] at h
  have hgrp : ∀ c, c < A.next → ({ heap := A.heap.put A.next o, fams, next := A.next + 1 } : St).grp c = A.grp c := fun c hc => by
    unfold St.grp; simp only [PT.at_put]; rw [if_neg (by omega)]
  have hgnew : ({ heap := A.heap.put A.next o, fams, next := A.next + 1 } : St).grp A.next = A.next := by
    unfold St.grp; simp only [PT.at_put_same]
    cases o with
    | row r => exact (hrow r rfl).1
    | _ => rfl
  have hglt : ∀ c, c < A.next → A.grp c < A.next := fun c hc => by
    unfold St.grp
    cases h : A.heap.at_ c with
    | none => have := R.pos; simp only; omega
    | some o' =>
      cases o' with
      | row r => have := R.famlt c r h; simp only; omega
      | _ => exact hc
  exact {
    pos := Nat.lt_succ_of_lt R.pos
    fresh := fun b hb => by
      have hb' : A.next + 1 ≤ b := hb
      have h1 := R.fresh b (by omega)
      refine ⟨?_, ?_⟩
      · unfold Env.ins; rw [if_neg (by omega)]; exact h1.1
      · show (A.heap.put A.next o).at_ b = none
        rw [PT.at_put_ne _ _ (by omega)]; exact h1.2
    glob := fun g hg => let ⟨e, he, h⟩ := R.glob g hg; ⟨e, hle g e he, h⟩
    keep := fun b hb => by
      obtain ⟨h1, h2⟩ := R.keep b hb
      refine ⟨?_, Nat.lt_succ_of_lt h2⟩
      unfold Env.ins; rw [if_neg (by omega)]; exact h1
    rows := fun b r f e h1 h2 h3 he => by
      by_cases hb : b = A.next
      · subst hb
        have h1' : (A.heap.put A.next o).at_ A.next = some (.row r) := h1
        rw [PT.at_put_same] at h1'
        obtain ⟨hfam, f', hf', _, _, hl⟩ := hrow r (Option.some.inj h1')
        have h2' : fams.at_ r.fam = some f := h2
        rw [hfam, hf'] at h2'
        cases h2'
        rw [Env.ins_same] at he
        cases he
        exact hl
      · have h1' : (A.heap.put A.next o).at_ b = some (.row r) := h1
        rw [PT.at_put_ne _ _ hb] at h1'
        have hlt := R.hlt h1'
        have hfl := R.famlt b r h1'
        have h2' : fams.at_ r.fam = some f := h2
        rw [hf _ (by omega)] at h2'
        have he := old b e hb he
        exact Row.lies_heap (Row.lies_le hle (R.rows b r f e h1' h2' h3 he)) (hb0.block _ (R.size b e he))
    objs := fun b o' h1 h2 => by
      by_cases hb : b = A.next
      · subst hb
        have h1' : (A.heap.put A.next o).at_ A.next = some o' := h1
        rw [PT.at_put_same] at h1'
        cases h1'
        exact ⟨_, Env.ins_same _ _ _, hobj⟩
      · have h1' : (A.heap.put A.next o).at_ b = some o' := h1
        rw [PT.at_put_ne _ _ hb] at h1'
        obtain ⟨e, he, hl⟩ := R.objs b o' h1' h2
        exact ⟨e, hle b e he, AB.lies_heap (AB.lies_le hle hl) (hb0.block _ (R.size b e he))⟩
    famlt := fun b r h1 => by
      have h1' : (A.heap.put A.next o).at_ b = some (.row r) := h1
      by_cases hb : b = A.next
      · subst hb; rw [PT.at_put_same] at h1'; rw [(hrow r (Option.some.inj h1')).1]; exact Nat.le_refl _
      · rw [PT.at_put_ne _ _ hb] at h1'; exact R.famlt b r h1'
    last := fun b r f h1 h2 h3 => by
      have h1' : (A.heap.put A.next o).at_ b = some (.row r) := h1
      have h2' : fams.at_ r.fam = some f := h2
      by_cases hb : b = A.next
      · subst hb
        rw [PT.at_put_same] at h1'
        obtain ⟨hfam, f', hf', hl, _⟩ := hrow r (Option.some.inj h1')
        rw [hfam, hf'] at h2'
        cases h2'
        exact hl
      · rw [PT.at_put_ne _ _ hb] at h1'
        have hlt := R.hlt h1'
        have hfl := R.famlt b r h1'
        rw [hf _ (by omega)] at h2'
        exact R.last b r f h1' h2' h3
    mx := fun b r f h1 h2 h3 h4 => by
      have h1' : (A.heap.put A.next o).at_ b = some (.row r) := h1
      have h2' : fams.at_ r.fam = some f := h2
      by_cases hb : b = A.next
      · subst hb
        rw [PT.at_put_same] at h1'
        obtain ⟨hfam, f', hf', _, hm, _⟩ := hrow r (Option.some.inj h1')
        rw [hfam, hf'] at h2'
        cases h2'
        exact hm
      · rw [PT.at_put_ne _ _ hb] at h1'
        have hlt := R.hlt h1'
        have hfl := R.famlt b r h1'
        rw [hf _ (by omega)] at h2'
        exact R.mx b r f h1' h2' h3 h4
    same := fun b b' r r' e e' h1 h2 h3 h4 h5 h6 h7 => by
      have h1' : (A.heap.put A.next o).at_ b = some (.row r) := h1
      have h2' : (A.heap.put A.next o).at_ b' = some (.row r') := h2
      by_cases hb : b = A.next
      · subst hb
        by_cases hb' : b' = A.next
        · subst hb'
          rw [h5] at h6; cases h6
          exact Or.inr (Or.inr rfl)
        · rw [PT.at_put_same] at h1'
          rw [PT.at_put_ne _ _ hb'] at h2'
          have := R.hlt h2'
          have := R.famlt b' r' h2'
          have := (hrow r (Option.some.inj h1')).1
          omega
      · rw [PT.at_put_ne _ _ hb] at h1'
        by_cases hb' : b' = A.next
        · subst hb'
          rw [PT.at_put_same] at h2'
          have := R.hlt h1'
          have := R.famlt b r h1'
          have := (hrow r' (Option.some.inj h2')).1
          omega
        · rw [PT.at_put_ne _ _ hb'] at h2'
          exact R.same b b' r r' e e' h1' h2' h3 h4 (old _ _ hb h5) (old _ _ hb' h6) h7
    apart := fun b b' e e' h1 h2 h3 => by
      by_cases hb : b = A.next
      · subst hb
        rw [Env.ins_same] at h1
        cases h1
        by_cases hb' : b' = A.next
        · subst hb'; exact absurd rfl h3
        · have := R.size b' e' (old _ _ hb' h2); simp only; omega
      · have h1' := old _ _ hb h1
        by_cases hb' : b' = A.next
        · subst hb'
          rw [Env.ins_same] at h2
          cases h2
          have := R.size b e h1'; simp only; omega
        · have h2' := old _ _ hb' h2
          rw [hgrp b (R.lt h1'), hgrp b' (R.lt h2')] at h3
          exact R.apart b b' e e' h1' h2' h3
    own := fun b e h1 h2 => by
      by_cases hb : b = A.next
      · subst hb
        rw [Env.ins_same] at h1
        cases h1
        exact Nat.le_trans hsz hg1
      · have h1' := old _ _ hb h1
        rw [hgrp b (R.lt h1')] at h2
        exact R.own b e h1' h2
    size := fun b e h1 => by
      have hs := hb0.size
      by_cases hb : b = A.next
      · subst hb
        rw [Env.ins_same] at h1
        cases h1
        exact hg2
      · have := R.size b e (old _ _ hb h1); omega
    below := R.below.trans (hb0.mono hsz) }


/-- a fresh row that a call has made -/
theorem Rel.placeRow {G : Nat} {W0 : Base} {E : Env} {A : St} {w w' : World} (R : Rel G W0 E A w) (hb0 : RowKit.Below w.heap.size w w') {g : Nat} (hg1 : w.heap.size ≤ g) {elem : TypeId} {l : List AV} {xs : List Value} {cs : Array Value}
    (hg : w'.heap[g]? = some (.cells cs elem (0, 0))) (h : reals E l = some xs) (hx : cs.toList.take l.length = xs) :
    Rel G W0 (E.ins A.next ⟨g, 0, cs.size⟩) (freshRow A elem l) w' := by
  have hg2 : g < w'.heap.size := by
    rcases Nat.lt_or_ge g w'.heap.size with h' | h'
    · exact h'
    · rw [Array.getElem?_eq_none h'] at hg; cases hg
  refine R.place hb0 hg1 hg2 _ _ 0 cs.size (fun k hk => PT.at_put_ne _ _ (by omega)) ?_ trivial
  intro r hr
  cases hr
  have hle : E.le (E.ins A.next ⟨g, 0, cs.size⟩) := Env.ins_le R.nil
  have hlen := reals_length h
  have hl : l.length ≤ cs.size := by
    have := congrArg List.length hx
    rw [List.length_take, hlen] at this
    simp at this
    omega
  refine ⟨rfl, _, PT.at_put_same _ _ _, Nat.le_refl _, Nat.le_refl _, cs, (0, 0), hg, fun hx => (by cases hx), Nat.le_refl _, hl, fun c hc => (by cases hc), by simp, ?_, Nat.le_refl _, fun i _ h1 h2 => by simp only at h2; omega⟩
  intro i v _ hi hv
  have hi' : i < l.length := hi
  have hv' : (PT.leaf.fill 0 l).at_ i = some v := hv
  rw [PT.at_fill, if_pos (by omega)] at hv'
  obtain ⟨x, hxi, hr⟩ := reals_get h i v (by simpa using hv')
  refine ⟨x, real_le hle v x hr, ?_⟩
  rw [← hx, List.getElem?_take_of_lt hi'] at hxi
  simpa using hxi

/-- THE CALL: the keys, sorted, of the map that a pointer's first cell holds. -/
def keysX (strT : TypeId) (args : List AV) (A : St) : Option (AV × St) :=
  match args with
  | [.nilp] => some (.nilslice, A)
  | [.ptr b off] => match cellsAt A b off 1 with
    | some [.map m] => match A.heap.at_ m with
      | some (.map [] _) => some (.nilslice, A)
      | some (.map [(.str s, v, n)] c) => match Nat.blt n c && Nat.ble s.length 1073741824 with
        | true => some (.slice A.next 0 1 1, freshRow A strT [.str s])
        | false => none
      | _ => none
    | _ => none
  | _ => none
/-- What such a function is known to do. -/
structure KeysLaw (P : Program) (f : FuncId) (k strT : TypeId) : Prop where
  str : P.underlying k = some .string
  nil : ∀ W, Calls P f #[.pointer none] W fun e w' => e = .returned (.slice none 0 0) ∧ RowKit.Below W.heap.size W w'
  at_ : ∀ (a : Addr) (b nn : Nat) (D0 : DataW Unit) (R : Value → Option (DataW Unit × List MemPlace)) (w : World), w.cell? a = some (.map (some b)) → w.ownsMap P k R b nn D0 → Maps.size D0 ≤ 1 →
    Calls P f #[.pointer (some a)] w fun e w' => ∃ (v : Value) (ss : List (List UInt8)), e = .returned v ∧ ss.Perm (strKeys D0) ∧ w'.ownsRow w.heap.size strT 1 v ss.length ((ss.mergeSort (fun x y => decide (x ≤ y))).map Go.Proofs.encStr) ∧ (v = .slice none 0 0 ↔ ss = []) ∧ RowKit.Below w.heap.size w w'
theorem keysX_ok {P : Program} {G : Nat} {f : FuncId} {k strT : TypeId} (L : KeysLaw P f k strT) : ∀ args A v A', keysX strT args A = some (v, A') → ∀ W0 E w xs, Rel G W0 E A w → reals E args = some xs →
    Calls P f xs.toArray w fun e w' => ∃ E' x, e = .returned x ∧ E.le E' ∧ real E' v = some x ∧ Rel G W0 E' A' w' := by
  intro args A v A' h W0 E w xs R hargs
  unfold keysX at h
  split at h
  · cases h
    cases hargs
    refine (L.nil w).mono ?_
    rintro e w' ⟨rfl, hb⟩
    exact ⟨E, _, rfl, E.le_refl, rfl, R.within hb⟩
  · rename_i b off
    split at h
    · rename_i m hc
      obtain ⟨x, ys, rfl, hx, hys⟩ := reals_cons hargs
      cases hys
      obtain ⟨e, hE, rfl⟩ := real_ptr hx
      have hcell : ∃ em, E m = some em ∧ w.cell? ⟨e.blk, off - e.sh, none⟩ = some (.map (some em.blk)) := by
        obtain ⟨e', cs, t, fz, zs, he', _, hcs, hr, hl, hj⟩ := cellsAt_ok R hc hE
        rw [hE] at he'; cases he'
        obtain ⟨z, zs', rfl, hz, hzs⟩ := reals_cons hr
        obtain ⟨em, hem, rfl⟩ := real_map hz
        refine ⟨em, hem, ?_⟩
        rw [cell_of hcs]
        simpa using hj 0 (by omega)
      obtain ⟨em, hEm, hcell⟩ := hcell
      split at h
      · rename_i c hm
        cases h
        obtain ⟨em', hE', res, hres, hent⟩ := R.objs m _ hm (fun r h => by cases h)
        rw [hEm] at hE'; cases hE'
        have hnil : res = #[] := by
          have : res.toList = [] := (Option.some.inj hent).symm
          simpa using this
        subst hnil
        have hown : w.ownsMap P k (fun _ => some (.nil, [])) em.blk 0 (.map [] : DataW Unit) :=
          ⟨#[], c, hres, ⟨by simp, ⟨by simp, by simp, by simp⟩, by simp⟩, by simp, by simp⟩
        refine (L.at_ _ _ 0 _ _ w hcell hown (by simp [Maps.size])).mono ?_
        rintro e w' ⟨v, ss, rfl, hp, hrow, hnil, hb⟩
        have : ss = [] := by simpa [strKeys] using hp
        refine ⟨E, _, rfl, E.le_refl, ?_, R.within hb⟩
        rw [hnil.2 this]; rfl
      · rename_i s v n c hm
        split at h
        · rename_i hck
          cases h
          rw [Bool.and_eq_true] at hck
          have hn := Nat.le_of_ble_eq_true hck.1
          have hs := Nat.le_of_ble_eq_true hck.2
          obtain ⟨em', hE', res, hres, hent⟩ := R.objs m _ hm (fun r h => by cases h)
          rw [hEm] at hE'; cases hE'
          have hone : ∃ v', res = #[{ key := .string ⟨⟨s⟩⟩, val := v', born := n }] := by
            simp only [entry?] at hent
            split at hent
            · rename_i k' v' es' hk hv he
              cases he
              rw [real_str hk] at hent
              refine ⟨v', ?_⟩
              have := Option.some.inj hent
              have h2 := congrArg List.toArray this
              simpa using h2.symm
            · cases hent
          obtain ⟨v', rfl⟩ := hone
          have hmax : s.length ≤ maxLen := by unfold maxLen; omega
          have hkey : Go.keyOf P k (.string ⟨⟨s⟩⟩) = some (.string s) := by
            have := Go.WideMaps.keyOf_string_mk L.str (s := ⟨⟨s⟩⟩) hmax
            simpa using this
          have hrd : WideElems.rd P k (fun _ => some (.nil, [])) { key := .string ⟨⟨s⟩⟩, val := v', born := n } = some (.string s, (.nil : DataW Unit)) := by
            unfold WideElems.rd; simp [hkey]
          have hown : w.ownsMap P k (fun _ => some (.nil, [])) em.blk 1 (.map [(.string s, .nil)] : DataW Unit) := by
            refine ⟨_, c, hres, ⟨by simp [maxLen], ⟨by simpa using Nat.lt_of_succ_le hn, by simp, by simp⟩, fun x hx => ?_⟩, by simp, ?_⟩
            · simp only [List.mem_singleton] at hx
              subst hx
              exact ⟨_, hrd⟩
            · simp [WideElems.rg, hrd, DataW.insert]
          refine (L.at_ _ _ 1 _ _ w hcell hown (by simp [Maps.size])).mono ?_
          rintro e w' ⟨v, ss, rfl, hp, hrow, hnil, hb⟩
          have hss : ss = [s] := by simpa [strKeys, strOf] using hp
          subst hss
          obtain ⟨hl, hr⟩ := hrow
          rcases hr with ⟨rfl, h0⟩ | ⟨g, cap, cur, rfl, hg1, hg, hle, hcap, hcs, htk⟩
          · simp at h0
          · have hsort : ([s].mergeSort (fun x y => decide (x ≤ y))).map Go.Proofs.encStr = [.string ⟨⟨s⟩⟩] := by
              simp [Go.Proofs.encStr]
            rw [hsort] at htk
            have RR := R.placeRow hb hg1 (l := [.str s]) (xs := [.string ⟨⟨s⟩⟩]) hg (by rfl) (by simpa using htk)
            refine ⟨_, _, rfl, Env.ins_le R.nil, ?_, RR⟩
            rw [real_slice_mk 0 1 1 (Env.ins_same _ _ _)]
            simp only [Nat.sub_zero, Nat.div_one, hcs, Nat.mul_one]
            rfl
        · cases h
      · cases h
    · cases h
  · cases h
end Go.Am
