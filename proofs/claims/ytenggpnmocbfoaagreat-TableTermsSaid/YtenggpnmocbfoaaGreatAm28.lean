/-
  THE ABSTRACT MACHINE, part 28: a whole run out of nothing: where a reckoned run says true, the call gives true, and nothing that lay before has turned. Arguments that nobody opens are symbols.
-/
import Derived.Test.YtenggpnmocbfoaaGreatAm27
import Derived.WideShapes
namespace Go.Am
set_option linter.unusedSectionVars false

theorem cell_single {P : Program} {w : World} {r : Reach} {base : Nat} {t : TypeId} {v : Value} (h : Cell.okWide P w r base t v) : single v = some v := by
  cases v <;> try rfl
  all_goals
    unfold Cell.okWide at h
    split at h <;> first | contradiction | skip
    unfold Cell.ok at h
    split at h <;> first | contradiction | skip
/-- The cells of an argument that is a struct. -/
theorem struct_cells {P : Program} {w : World} {r : Reach} {base : Nat} {t : TypeId} {v : Value} {fs : Array Field} (ht : P.underlying t = some (.struct fs)) (h : Value.okWide P w r base t v) :
    ∃ cs : Array Value, v = .agg cs ∧ cs.size = P.cellsOf t ∧ ∀ (i : Nat) x, cs[i]? = some x → single x = some x := by
  simp only [Value.okWide, ht] at h
  obtain ⟨cs, h1, h2, ts, _, _, h3⟩ := h
  exact ⟨cs, h1, h2, fun i x hx => let ⟨u, _, hu⟩ := h3 i x hx; cell_single hu⟩
/-- An argument of one cell. -/
theorem plain_cell {P : Program} {w : World} {r : Reach} {base : Nat} {t : TypeId} {v : Value} (hs : ∀ fs, P.underlying t ≠ some (.struct fs)) (ha : ∀ n e, P.underlying t ≠ some (.array n e)) (h : Value.okWide P w r base t v) : single v = some v := by
  unfold Value.okWide at h
  split at h
  · rename_i fs hu; exact absurd hu (hs fs)
  · rename_i n e hu; exact absurd hu (ha n e)
  · exact cell_single h

def A0 : St := { heap := .leaf, fams := .leaf, next := 1 }
def said (o : Option (AV × St)) : Bool := match o with | some (.bool true, _) => true | _ => false
section
variable [Sig]
theorem rel0 (w : World) : Rel 0 ⟨w, fun _ => False⟩ (fun _ => none) A0 w where
  pos := Nat.zero_lt_one
  fresh := fun b _ => ⟨rfl, PT.at_leaf _⟩
  glob := fun g hg => absurd hg (Nat.not_lt_zero g)
  keep := fun b hb => hb.elim
  rows := fun b r f e h => by rw [show A0.heap.at_ b = none from PT.at_leaf _] at h; cases h
  objs := fun b o h => by rw [show A0.heap.at_ b = none from PT.at_leaf _] at h; cases h
  famlt := fun b r h => by rw [show A0.heap.at_ b = none from PT.at_leaf _] at h; cases h
  last := fun b r f h => by rw [show A0.heap.at_ b = none from PT.at_leaf _] at h; cases h
  mx := fun b r f h => by rw [show A0.heap.at_ b = none from PT.at_leaf _] at h; cases h
  same := fun b b' r r' e e' h => by rw [show A0.heap.at_ b = none from PT.at_leaf _] at h; cases h
  apart := fun b b' e e' h => by cases h
  own := fun b e h => by cases h
  size := fun b e h => by cases h
  below := RowKit.Below.refl _ w
theorem holds_of_run {P : Program} {C : Cfg P} (hG : C.G = 0) (hm : P.follows .mixedOrders = true) {m d : Nat} {ext : FuncId → Option FF} (hext : ExtOk2 C ext) {f : FuncId} {avs : List AV} (h : said (((tab C m ext d).get f).run avs A0) = true)
    {xs : List Value} (hx : reals (fun _ => none) avs = some xs) (w : World) : Calls P f xs.toArray w fun e w' => e = .returned (.bool true) ∧ RowKit.Below w.heap.size w w' := by
  unfold said at h
  split at h
  · rename_i A' hr
    have R0 := rel0 w
    rw [← hG] at R0
    refine (tab_ok hm hext d f avs A0 (.bool true) A' hr _ (fun _ => none) w xs R0 hx).mono ?_
    rintro e w' ⟨E', x, rfl, _, hx, R⟩
    exact ⟨by rw [real_bool hx], R.below⟩
  · cases h
theorem real_syms {E : Env} {cs : Array Value} {k n : Nat} (hn : cs.size = n) (hs : ∀ (i : Nat) x, cs[i]? = some x → single (Sig.val (k + i)) = some x) : real E (.agg ((List.range n).map fun i => .sym (k + i))) = some (.agg cs) := by
  have : reals E ((List.range n).map fun i => .sym (k + i)) = some cs.toList := by
    refine reals_of (by simp [hn]) fun i v x hv hx => ?_
    simp only [List.getElem?_map] at hv
    have hx' : cs[i]? = some x := by simpa using hx
    have hi : i < n := by rw [← hn]; exact (Array.getElem?_eq_some_iff.1 hx').1
    rw [List.getElem?_range hi] at hv
    simp only [Option.map_some, Option.some.injEq] at hv
    subst hv
    unfold real
    exact hs i x hx'
  unfold real
  rw [this]
end
end Go.Am
