/-
  THE ABSTRACT MACHINE, part 31: heaps written as lists; what a world holds at a few roots; a call from one such state to another.
-/
import Derived.Test.YtenggpnmocbfoaaGreatAm30
namespace Go.Am
set_option linter.unusedSectionVars false

/-- A block, as it is written down. -/
inductive Bk where
  | row (elem : TypeId) (cells : List AV) (exact : Bool) (cap : Option Nat)
  | map (es : List (AV × AV × Nat)) (clock : Nat)
def Bk.ab (b : Nat) : Bk → AB
  | .row elem cells exact cap => .row { cells := PT.leaf.fill 0 cells, n := cells.length, lo := 0, elem, fam := b, exact, cap }
  | .map es clock => .map es clock
def Bk.len : Bk → Nat
  | .row _ cells _ _ => cells.length
  | .map _ _ => 0
def abs (i : Nat) : List Bk → List AB
  | [] => []
  | b :: l => b.ab i :: abs (i + 1) l
def fams (i : Nat) : List Bk → List Fam
  | [] => []
  | b :: l => { owner := i, since := i, last := i, mx := b.len, frz := 0, strish := false } :: fams (i + 1) l
theorem abs_length : ∀ (l : List Bk) (i : Nat), (abs i l).length = l.length
  | [], _ => rfl
  | b :: l, i => by simp [abs, abs_length l]
/-- The heap of blocks 1, 2, .. -/
def mkSt (l : List Bk) : St := { heap := PT.leaf.fill 1 (abs 1 l), fams := PT.leaf.fill 1 (fams 1 l), next := l.length + 1 }
theorem mkSt_ends {l : List Bk} {cs : List Nat} (h : cs.length = l.length) : Ends (mkSt l) (PT.leaf.fill 1 cs) := by
  intro b hb
  have hb' : l.length + 1 ≤ b := hb
  refine ⟨?_, ?_⟩
  · rw [PT.at_fill, if_neg (by omega)]; exact PT.at_leaf _
  · show (PT.leaf.fill 1 (abs 1 l)).at_ b = none
    rw [PT.at_fill, if_neg (by rw [abs_length]; omega)]; exact PT.at_leaf _

/-- What a world that came of W0 holds at a few roots. -/
def At (S : Sig) (B : St) (W0 : World) (roots : List AV) (vals : List Value) (w : World) : Prop :=
  ∃ E, @Rel S 0 ⟨W0, fun _ => False⟩ E B w ∧ @reals S E roots = some vals
theorem At.below {S : Sig} {B : St} {W0 : World} {roots : List AV} {vals : List Value} {w : World} (h : At S B W0 roots vals w) : RowKit.Below W0.heap.size W0 w := by
  obtain ⟨E, R, _⟩ := h
  exact @Rel.below S 0 _ E B w R
theorem At.within {S : Sig} {B : St} {W0 : World} {roots : List AV} {vals : List Value} {w w' : World} (h : At S B W0 roots vals w) (hb : RowKit.Below w.heap.size w w') : At S B W0 roots vals w' := by
  obtain ⟨E, R, hr⟩ := h
  exact ⟨E, @Rel.within S 0 _ E B w w' R hb, hr⟩
theorem At.start (S : Sig) (w : World) : At S A0 w [] [] w := ⟨fun _ => none, @rel0 S w, rfl⟩
theorem At.call {S S' : Sig} {P : Program} {C : @Cfg S P} (hG : @Cfg.G S P C = 0) (hm : P.follows .mixedOrders = true) {m d : Nat} {ext : FuncId → Option FF} (hext : @ExtOk2 S P C ext) {f : FuncId} {args : List AV} {B A' : St} {v : AV}
    (hrun : ((@tab S P C m ext d).get f).run args B = some (v, A')) {W0 : World} {roots : List AV} {vals : List Value} {w : World} (h : At S B W0 roots vals w) {xs : List Value}
    (hx : ∀ E, @reals S E roots = some vals → @reals S E args = some xs) {B' : St} {fm : PT Nat} {sm : PT AV} (hsub : subB B' fm sm A' = true) (hend : Ends B' fm) {v' : AV} {roots' : List AV}
    (hren : rens fm sm (v' :: roots') = some (v :: roots)) (hsym : ∀ E, (∀ x, @reals S E (v :: roots) = some x → True) → SymOk S S' E sm) :
    Calls P f xs.toArray w fun e w' => ∃ x, e = .returned x ∧ At S' B' W0 (v' :: roots') (x :: vals) w' := by
  obtain ⟨E, R, hr⟩ := h
  rw [← hG] at R
  refine (@tab_ok S P C hm m ext hext d f args B v A' hrun _ E w xs R (hx E hr)).mono ?_
  rintro e w' ⟨E', x, rfl, hle, hv, R'⟩
  rw [hG] at R'
  have hs := hsym E' (fun _ _ => trivial)
  refine ⟨x, rfl, E'.of fm, @Rel.sub S S' _ E' A' B' w' fm sm R' hsub hend hs, ?_⟩
  rw [rens_ok hs _ _ hren]
  exact @reals_mk S E' v roots x vals hv (@reals_le S E E' hle roots vals hr)
/-- The whole step, reckoned: the run, what is kept of its heap, its result and the roots in the new words. -/
def stepB (o : Option (AV × St)) (roots : List AV) (B' : St) (fm : PT Nat) (sm : PT AV) (v' : AV) (roots' : List AV) : Bool :=
  match o with
  | some (v, A') => match subB B' fm sm A' with
    | true => match rens fm sm (v' :: roots') with
      | some l => AV.sames l (v :: roots)
      | none => false
    | false => false
  | none => false
theorem At.step {S S' : Sig} {P : Program} {C : @Cfg S P} (hG : @Cfg.G S P C = 0) (hm : P.follows .mixedOrders = true) {m d : Nat} {ext : FuncId → Option FF} (hext : @ExtOk2 S P C ext) {f : FuncId} {args : List AV} {B B' : St} {fm : PT Nat} {sm : PT AV} {v' : AV} {roots roots' : List AV}
    (hrun : stepB (((@tab S P C m ext d).get f).run args B) roots B' fm sm v' roots' = true) (hend : Ends B' fm) (hsym : ∀ E, SymOk S S' E sm)
    {W0 : World} {vals : List Value} {w : World} (h : At S B W0 roots vals w) {xs : List Value} (hx : ∀ E, @reals S E roots = some vals → @reals S E args = some xs) :
    Calls P f xs.toArray w fun e w' => ∃ x, e = .returned x ∧ At S' B' W0 (v' :: roots') (x :: vals) w' := by
  unfold stepB at hrun
  split at hrun
  · rename_i v A' hr
    split at hrun
    · rename_i hsub
      split at hrun
      · rename_i l hl
        have := @AV.sames_eq S _ _ hrun
        subst this
        exact At.call (C := C) hG hm hext hr h hx hsub hend hl (fun E _ => hsym E)
      · cases hrun
    · cases hrun
  · cases hrun
/-- The same where the result is not asked. -/
def stepB0 (o : Option (AV × St)) (roots : List AV) (B' : St) (fm : PT Nat) (sm : PT AV) (roots' : List AV) : Bool :=
  match o with
  | some (_, A') => match subB B' fm sm A' with
    | true => match rens fm sm roots' with
      | some l => AV.sames l roots
      | none => false
    | false => false
  | none => false
theorem At.step0 {S S' : Sig} {P : Program} {C : @Cfg S P} (hG : @Cfg.G S P C = 0) (hm : P.follows .mixedOrders = true) {m d : Nat} {ext : FuncId → Option FF} (hext : @ExtOk2 S P C ext) {f : FuncId} {args : List AV} {B B' : St} {fm : PT Nat} {sm : PT AV} {roots roots' : List AV}
    (hrun : stepB0 (((@tab S P C m ext d).get f).run args B) roots B' fm sm roots' = true) (hend : Ends B' fm) (hsym : ∀ E, SymOk S S' E sm)
    {W0 : World} {vals : List Value} {w : World} (h : At S B W0 roots vals w) {xs : List Value} (hx : ∀ E, @reals S E roots = some vals → @reals S E args = some xs) :
    Calls P f xs.toArray w fun e w' => ∃ x, e = .returned x ∧ At S' B' W0 roots' vals w' := by
  unfold stepB0 at hrun
  split at hrun
  · rename_i v A' hr
    split at hrun
    · rename_i hsub
      split at hrun
      · rename_i l hl
        have := @AV.sames_eq S _ _ hrun
        subst this
        obtain ⟨E, R, hroots⟩ := h
        rw [← hG] at R
        refine (@tab_ok S P C hm m ext hext d f args B v A' hr _ E w xs R (hx E hroots)).mono ?_
        rintro e w' ⟨E', x, rfl, hle, hv, R'⟩
        rw [hG] at R'
        refine ⟨x, rfl, E'.of fm, @Rel.sub S S' _ E' A' B' w' fm sm R' hsub hend (hsym E'), ?_⟩
        rw [rens_ok (hsym E') _ _ hl]
        exact @reals_le S E E' hle _ vals hroots
      · cases hrun
    · cases hrun
  · cases hrun
/-- The same state in other words. -/
theorem At.recast {S S' : Sig} {B B' : St} {W0 : World} {roots roots' : List AV} {vals : List Value} {w : World} {fm : PT Nat} {sm : PT AV} (h : At S B W0 roots vals w) (hsub : subB B' fm sm B = true) (hend : Ends B' fm) (hren : rens fm sm roots' = some roots) (hsym : ∀ E, SymOk S S' E sm) :
    At S' B' W0 roots' vals w := by
  obtain ⟨E, R, hr⟩ := h
  exact ⟨E.of fm, @Rel.sub S S' _ E B B' w fm sm R hsub hend (hsym E), by rw [rens_ok (hsym E) _ _ hren]; exact hr⟩
/-- The roots alone. -/
theorem At.tail {S : Sig} {B : St} {W0 : World} {v : AV} {roots : List AV} {x : Value} {vals : List Value} {w : World} (h : At S B W0 (v :: roots) (x :: vals) w) : At S B W0 roots vals w ∧ ∃ E, @real S E v = some x := by
  obtain ⟨E, R, hr⟩ := h
  obtain ⟨y, ys, e, h1, h2⟩ := @reals_cons S E v roots _ hr
  cases e
  exact ⟨⟨E, R, h2⟩, E, h1⟩
end Go.Am
