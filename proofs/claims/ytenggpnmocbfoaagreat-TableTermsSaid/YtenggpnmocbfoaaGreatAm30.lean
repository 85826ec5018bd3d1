/-
  THE ABSTRACT MACHINE, part 30: a run out of a heap in which package-level variables of one cell are known; errors.Is at one and the same error.
-/
import Derived.Test.YtenggpnmocbfoaaGreatAm29
namespace Go.Am
set_option linter.unusedSectionVars false

/-- Package-level variables of one cell: the number, what it holds, its type. -/
def globHeap : List (Nat × AV × TypeId) → PT AB
  | [] => .leaf
  | (g, v, t) :: l => (globHeap l).put g (.row { cells := PT.leaf.put 0 v, n := 1, lo := 0, elem := t, fam := 0, exact := false, cap := none })
def globA (G : Nat) (l : List (Nat × AV × TypeId)) : St :=
  { heap := globHeap l, fams := PT.leaf.put 0 { owner := 0, since := 0, last := 0, mx := 0, frz := 0, strish := false }, next := G + 1 }
def globE (G : Nat) : Env := fun b => if b < G then some ⟨b, 0, 1⟩ else none
theorem globHeap_at : ∀ {l : List (Nat × AV × TypeId)} {b : Nat} {o : AB}, (globHeap l).at_ b = some o → ∃ v t, (b, v, t) ∈ l ∧ o = .row { cells := PT.leaf.put 0 v, n := 1, lo := 0, elem := t, fam := 0, exact := false, cap := none }
  | [], b, o, h => by rw [globHeap, PT.at_leaf] at h; cases h
  | (g, v, t) :: l, b, o, h => by
    rw [globHeap, PT.at_put] at h
    split at h
    · rename_i e; cases h; subst e; exact ⟨v, t, by simp, rfl⟩
    · obtain ⟨v', t', h1, h2⟩ := globHeap_at h; exact ⟨v', t', by simp [h1], h2⟩
section
variable [Sig]
theorem relG {G : Nat} {l : List (Nat × AV × TypeId)} {w : World} (hG : G ≤ w.heap.size) (hl : ∀ g v t, (g, v, t) ∈ l → g < G ∧ ∃ x, real (globE G) v = some x ∧ w.heap[g]? = some (.cells #[x] t (0, 0))) :
    Rel G ⟨w, fun _ => False⟩ (globE G) (globA G l) w where
  pos := Nat.lt_succ_self G
  fresh := fun b hb => by
    have hb' : G + 1 ≤ b := hb
    refine ⟨by unfold globE; rw [if_neg (by omega)], ?_⟩
    cases h : (globA G l).heap.at_ b with
    | none => rfl
    | some o => obtain ⟨v, t, h1, _⟩ := globHeap_at h; have := (hl b v t h1).1; omega
  glob := fun g hg => ⟨⟨g, 0, 1⟩, by unfold globE; rw [if_pos hg], rfl, rfl⟩
  keep := fun b hb => hb.elim
  rows := fun b r f e h1 h2 h3 he => by
    obtain ⟨v, t, hm, ho⟩ := globHeap_at h1
    cases ho
    obtain ⟨hlt, x, hx, hw⟩ := hl b v t hm
    unfold globE at he
    rw [if_pos hlt] at he
    cases he
    refine ⟨#[x], (0, 0), hw, fun h => (by cases h), Nat.le_refl _, Nat.le_refl _, fun c hc => (by cases hc), by simp, ?_, Nat.le_refl _, fun i _ h1 h2 => by simp only at h2; omega⟩
    intro i u _ hi hu
    have hi' : i < 1 := hi
    obtain rfl : i = 0 := by omega
    have hu' : (PT.leaf.put 0 v).at_ 0 = some u := hu
    rw [PT.at_put_same] at hu'
    cases hu'
    exact ⟨x, hx, rfl⟩
  objs := fun b o h1 h2 => by
    obtain ⟨v, t, _, ho⟩ := globHeap_at h1
    exact absurd ho (h2 _)
  famlt := fun b r h1 => by obtain ⟨v, t, _, ho⟩ := globHeap_at h1; cases ho; exact Nat.zero_le _
  last := fun b r f h1 _ h3 => by obtain ⟨v, t, _, ho⟩ := globHeap_at h1; cases ho; exact absurd rfl h3
  mx := fun b r f h1 _ h3 _ => by obtain ⟨v, t, _, ho⟩ := globHeap_at h1; cases ho; exact absurd rfl h3
  same := fun b b' r r' e e' h1 _ _ h4 _ _ _ => by obtain ⟨v, t, _, ho⟩ := globHeap_at h1; cases ho; exact absurd rfl h4
  apart := fun b b' e e' _ _ h3 => by
    have hz : ∀ c, (globA G l).grp c = 0 := fun c => by
      unfold St.grp
      cases h : (globA G l).heap.at_ c with
      | none => rfl
      | some o => obtain ⟨v, t, _, ho⟩ := globHeap_at h; subst ho; rfl
    rw [hz, hz] at h3; exact absurd rfl h3
  own := fun b e _ h2 => by
    have hz : (globA G l).grp b = 0 := by
      unfold St.grp
      cases h : (globA G l).heap.at_ b with
      | none => rfl
      | some o => obtain ⟨v, t, _, ho⟩ := globHeap_at h; subst ho; rfl
    exact absurd hz h2
  size := fun b e h1 => by
    unfold globE at h1
    split at h1
    · rename_i h; cases h1; exact Nat.lt_of_lt_of_le h hG
    · cases h1
  below := RowKit.Below.refl _ w
theorem holds_of_runG {P : Program} {C : Cfg P} {G : Nat} (hCG : C.G = G) (hm : P.follows .mixedOrders = true) {m d : Nat} {ext : FuncId → Option FF} (hext : ExtOk2 C ext) {f : FuncId} {avs : List AV} {l : List (Nat × AV × TypeId)} (h : said (((tab C m ext d).get f).run avs (globA G l)) = true)
    {w : World} (hG : G ≤ w.heap.size) (hl : ∀ g v t, (g, v, t) ∈ l → g < G ∧ ∃ x, real (globE G) v = some x ∧ w.heap[g]? = some (.cells #[x] t (0, 0)))
    {xs : List Value} (hx : reals (globE G) avs = some xs) : Calls P f xs.toArray w fun e w' => e = .returned (.bool true) ∧ RowKit.Below w.heap.size w w' := by
  unfold said at h
  split at h
  · rename_i A' hr
    have R0 := relG hG hl
    rw [← hCG] at R0 hx
    rw [hCG] at R0
    refine (tab_ok hm hext d f avs (globA G l) (.bool true) A' hr _ (globE G) w xs (by rw [hCG]; exact R0) (by rw [hCG] at hx; exact hx)).mono ?_
    rintro e w' ⟨E', x, rfl, _, hx, R⟩
    exact ⟨by rw [real_bool hx], R.below⟩
  · cases h

/-- errors.Is at one error twice: the symbol i. -/
def isX (i : Nat) (args : List AV) (A : St) : Option (AV × St) :=
  match args with
  | [.sym a, .sym b] => match Nat.beq a i, Nat.beq b i with
    | true, true => some (.bool true, A)
    | _, _ => none
  | _ => none
theorem isX_ok {P : Program} {G : Nat} {f : FuncId} {i : Nat} (L : ∀ w, Calls P f #[Sig.val i, Sig.val i] w fun e w' => e = .returned (.bool true) ∧ w' = w) : ∀ args A v A', isX i args A = some (v, A') → ∀ W0 E w xs, Rel G W0 E A w → reals E args = some xs →
    Calls P f xs.toArray w fun e w' => ∃ E' x, e = .returned x ∧ E.le E' ∧ real E' v = some x ∧ Rel G W0 E' A' w' := by
  intro args A v A' h W0 E w xs R hargs
  unfold isX at h
  split at h
  · rename_i a b
    split at h
    · rename_i ha hb
      obtain rfl := Nat.eq_of_beq_eq_true ha
      obtain rfl := Nat.eq_of_beq_eq_true hb
      cases h
      obtain ⟨x, ys, rfl, hx, hys⟩ := reals_cons hargs
      obtain ⟨y, zs, rfl, hy, hzs⟩ := reals_cons hys
      cases hzs
      unfold real at hx hy
      have e1 := single_eq hx
      have e2 := single_eq hy
      subst e1; subst e2
      refine (L w).mono ?_
      rintro e w' ⟨rfl, rfl⟩
      exact ⟨E, _, rfl, E.le_refl, rfl, R⟩
    · cases h
  · cases h
end
end Go.Am
