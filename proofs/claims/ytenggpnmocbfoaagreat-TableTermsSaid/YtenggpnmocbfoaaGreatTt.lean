/-
  Contracts of a table with one open session whose term is whatever number (table.New, Apply of an opening, a term, an expiry, Sessions, Term): reckoned by the machine.
-/
import Derived.Test.YtenggpnmocbfoaaGreatRun
import Derived.Test.YtenggpnmocbfoaaGreatAm32
namespace Go.Proofs
set_option linter.unusedSectionVars false
open Go.Am

/-- The symbols: the term, a command's number, the greater one. -/
abbrev Tryz.sg (top b mx : Int) : Sig := ⟨fun i => match i with | 0 => .int .i64 top | 1 => .int .i64 b | 2 => .int .i64 mx | _ => .bool false⟩
def Tryz.S0 : List Bk := [.row 76 [.int .i64 0, .ptr 2 0, .ptr 3 0, .ptr 4 0] true (some 4),
  .row 123 [.map 5, .map 6] true (some 2),
  .row 126 [.map 7, .int .u64 0] true (some 2),
  .row 130 [.map 8, .map 9] true (some 2),
  .map [] 0, .map [] 0, .map [] 0, .map [] 0, .map [] 0]
def Tryz.S1 (opened : Bool) : List Bk := [.row 76 [.sym 0, .ptr 2 0, .ptr 3 0, .ptr 4 0] true (some 4),
  .row 123 [.map 5, .map 6] true (some 2),
  .row 126 [.map 7, .int .u64 0] true (some 2),
  .row 130 [.map 8, .map 9] true (some 2),
  .map [(.int .i64 1, .ptr 10 0, 0)] 1,
  .map [(.int .i64 0, .agg [.int .i64 1, .int .i64 1], 0)] 1,
  .map [] 0, .map [] 0, .map [] 0,
  .row 135 [.int .i64 0, .int .i64 1, .bool opened, .int .i64 0, .bool false, .int .i64 0, .int .i64 0, .int .i64 0, .int .u64 0, .int .i64 0] true (some 10)]
/-- A new table at p, in a world that came of W. -/
def Tryz.New (W : World) (p : Addr) (w : World) : Prop := At (Tryz.sg 0 0 0) (mkSt Tryz.S0) W [.ptr 1 0] [.pointer (some p)] w
/-- A table at p with one session, open or not, and a term. -/
def Tryz.One (W : World) (opened : Bool) (top : Int) (p : Addr) (w : World) : Prop := At (Tryz.sg top 0 0) (mkSt (Tryz.S1 opened)) W [.ptr 1 0] [.pointer (some p)] w
def Tryz.fm (l : List Nat) : PT Nat := PT.leaf.fill 1 l
/-- The facts: the number lies in its bounds; is it the term? -/
def Tryz.facts (eq : Bool) : List (BinOp × AV × AV × AV) := [(.geq, .sym 1, .int .i64 1, .bool true), (.leq, .sym 1, .int .i64 1099511627776, .bool true), (.eql, .sym 1, .sym 0, .bool eq)]
def Tryz.maxs : List (Bool × AV × AV × AV) := [(true, .sym 0, .sym 1, .sym 2)]
theorem Tryz.facts_ok {top b : Int} {eq : Bool} (h1 : 1 ≤ b) (h2 : b ≤ 1099511627776) (he : eq = (b == top)) : ∀ f ∈ Tryz.facts eq, @FactOk (Tryz.sg top b (max top b)) f := by
  intro f hf
  simp only [Tryz.facts, List.mem_cons, List.not_mem_nil, or_false] at hf
  rcases hf with rfl | rfl | rfl
  · exact ⟨.i64, b, 1, .bool (decide (b ≥ 1)), fun _ => rfl, fun _ => rfl, rfl, fun _ => by rw [decide_eq_true h1]⟩
  · exact ⟨.i64, b, 1099511627776, .bool (decide (b ≤ 1099511627776)), fun _ => rfl, fun _ => rfl, rfl, fun _ => by rw [decide_eq_true h2]⟩
  · exact ⟨.i64, b, top, .bool (b == top), fun _ => rfl, fun _ => rfl, rfl, fun _ => by rw [he]⟩
theorem Tryz.maxs_ok {top b : Int} : ∀ f ∈ Tryz.maxs, @MFactOk (Tryz.sg top b (max top b)) f := by
  intro f hf
  simp only [Tryz.maxs, List.mem_cons, List.not_mem_nil, or_false] at hf
  subst hf
  refine ⟨.i64, top, b, .int .i64 (if b > top then b else top), fun _ => rfl, fun _ => rfl, rfl, fun E => ?_⟩
  have : (if b > top then b else top) = max top b := by omega
  rw [this]; rfl
theorem Tryz.noSym (S S' : Sig) (E : Env) : SymOk S S' E PT.leaf := fun i v h => by rw [PT.at_leaf] at h; cases h
def Tryz.sm (v : AV) : PT AV := PT.leaf.put 0 v
theorem Tryz.sm_ok {S S' : Sig} {v : AV} (h : ∀ E, @real S E v = single (S'.val 0)) (E : Env) : SymOk S S' E (Tryz.sm v) := fun i u hu => by
  unfold Tryz.sm at hu
  rw [PT.at_put] at hu
  split at hu
  · rename_i e; cases hu; subst e; exact h E
  · rw [PT.at_leaf] at hu; cases hu
theorem Tryz.ptr_of {S : Sig} {E : Env} {b o : Nat} {x : Value} (h : @real S E (.ptr b o) = some x) : ∃ p : Addr, x = .pointer (some p) := by
  obtain ⟨e, _, rfl⟩ := @real_ptr S E b o x h; exact ⟨_, rfl⟩

/-- One Lean line a contract: the machine's step at the table's own facts. -/
abbrev Tryz.C0 (S : Sig) : @Cfg S Tryz.prog := @Tryz.cfg S
abbrev Tryz.C1 (eq : Bool) {top b : Int} (h1 : 1 ≤ b) (h2 : b ≤ 1099511627776) (he : eq = (b == top)) : @Cfg (Tryz.sg top b (max top b)) Tryz.prog :=
  @Cfg.tell (Tryz.sg top b (max top b)) _ (@Tryz.cfg (Tryz.sg top b (max top b))) (Tryz.facts eq) Tryz.maxs (Tryz.facts_ok h1 h2 he) Tryz.maxs_ok
def Tryz.id10 : List Nat := [1, 2, 3, 4, 5, 6, 7, 8, 9, 10]
set_option maxRecDepth 100000 in
theorem Tryz.new_run : stepB (((@tab (Tryz.sg 0 0 0) Tryz.prog (Tryz.C0 _) 1000 (@Tryz.ext) 20).get 9).run [] A0) [] (mkSt Tryz.S0) (Tryz.fm [9, 3, 5, 8, 1, 2, 4, 6, 7]) PT.leaf (.ptr 1 0) [] = true := by kernel_rfl
theorem Tryz.new_any (W : World) : Calls Tryz.prog 9 #[] W fun e w' => ∃ p : Addr, e = .returned (.pointer (some p)) ∧ Tryz.New W p w' := by
  refine (At.step (C := Tryz.C0 (Tryz.sg 0 0 0)) (S' := Tryz.sg 0 0 0) rfl Tryz.mixed (@Tryz.ext_ok (Tryz.sg 0 0 0)) Tryz.new_run (mkSt_ends rfl) (Tryz.noSym _ _) (At.start _ W) (xs := []) (fun _ _ => rfl)).mono ?_
  rintro e w' ⟨x, rfl, h⟩
  obtain ⟨_, E, hx⟩ := h.tail
  obtain ⟨p, rfl⟩ := Tryz.ptr_of hx
  exact ⟨p, rfl, h⟩
set_option maxRecDepth 100000 in
theorem Tryz.open_run : stepB0 (((@tab (Tryz.sg 0 0 0) Tryz.prog (Tryz.C0 _) 1000 (@Tryz.ext) 20).get 10).run [.ptr 1 0, .agg [.int .i64 2, .int .i64 0, .int .i64 1, .str [], .int .i64 0]] (mkSt Tryz.S0)) [.ptr 1 0] (mkSt (Tryz.S1 true)) (Tryz.fm [1, 2, 3, 4, 5, 6, 7, 8, 9, 18]) (Tryz.sm (.int .i64 0)) [.ptr 1 0] = true := by kernel_rfl
theorem Tryz.open_any {W : World} {p : Addr} {w : World} (h : Tryz.New W p w) :
    Calls Tryz.prog 10 #[.pointer (some p), .agg #[.int .i64 2, .int .i64 0, .int .i64 1, .string ⟨#[]⟩, .int .i64 0]] w fun e w' => ∃ x, e = .returned x ∧ Tryz.One W true 0 p w' :=
  At.step0 (C := Tryz.C0 (Tryz.sg 0 0 0)) (S' := Tryz.sg 0 0 0) rfl Tryz.mixed (@Tryz.ext_ok (Tryz.sg 0 0 0)) Tryz.open_run (mkSt_ends rfl) (Tryz.sm_ok fun _ => rfl) h (fun E hr => @reals_append (Tryz.sg 0 0 0) E _ [_] _ [_] hr rfl)

set_option maxRecDepth 100000 in
theorem Tryz.term_run {top b : Int} (h1 : 1 ≤ b) (h2 : b ≤ 1099511627776) {eq : Bool} (he : eq = (b == top)) :
    stepB (((@tab (Tryz.sg top b (max top b)) Tryz.prog (Tryz.C1 eq h1 h2 he) 1000 (@Tryz.ext) 20).get 10).run [.ptr 1 0, .agg [.int .i64 1, .int .i64 0, .int .i64 0, .str [], .sym 1]] (mkSt (Tryz.S1 true))) [.ptr 1 0] (mkSt (Tryz.S1 true)) (Tryz.fm Tryz.id10) (Tryz.sm (.sym 2)) .nilslice [.ptr 1 0] = true := by kernel_rfl
set_option maxRecDepth 100000 in
theorem Tryz.gone_run {top b : Int} (h1 : 1 ≤ b) (h2 : b ≤ 1099511627776) (he : true = (b == top)) :
    stepB0 (((@tab (Tryz.sg top b (max top b)) Tryz.prog (Tryz.C1 true h1 h2 he) 1000 (@Tryz.ext) 20).get 10).run [.ptr 1 0, .agg [.int .i64 4, .int .i64 1, .int .i64 0, .str [], .sym 1]] (mkSt (Tryz.S1 true))) [.ptr 1 0] (mkSt (Tryz.S1 false)) (Tryz.fm Tryz.id10) (Tryz.sm (.sym 0)) [.ptr 1 0] = true := by kernel_rfl
set_option maxRecDepth 100000 in
theorem Tryz.stay_run {top b : Int} (h1 : 1 ≤ b) (h2 : b ≤ 1099511627776) (he : false = (b == top)) :
    stepB0 (((@tab (Tryz.sg top b (max top b)) Tryz.prog (Tryz.C1 false h1 h2 he) 1000 (@Tryz.ext) 20).get 10).run [.ptr 1 0, .agg [.int .i64 4, .int .i64 1, .int .i64 0, .str [], .sym 1]] (mkSt (Tryz.S1 true))) [.ptr 1 0] (mkSt (Tryz.S1 true)) (Tryz.fm Tryz.id10) (Tryz.sm (.sym 0)) [.ptr 1 0] = true := by kernel_rfl
set_option maxRecDepth 100000 in
theorem Tryz.all1_run (top : Int) : stepB (((@tab (Tryz.sg top 0 0) Tryz.prog (Tryz.C0 _) 1000 (@Tryz.ext) 20).get 18).run [.ptr 1 0] (mkSt (Tryz.S1 true))) [.ptr 1 0] (mkSt (Tryz.S1 true ++ [.row 3 [.int .i64 1] false none])) (Tryz.fm (Tryz.id10 ++ [13])) (Tryz.sm (.sym 0)) (.slice 11 0 1 1) [.ptr 1 0] = true := by kernel_rfl
set_option maxRecDepth 100000 in
theorem Tryz.all0_run (top : Int) : stepB (((@tab (Tryz.sg top 0 0) Tryz.prog (Tryz.C0 _) 1000 (@Tryz.ext) 20).get 18).run [.ptr 1 0] (mkSt (Tryz.S1 false))) [.ptr 1 0] (mkSt (Tryz.S1 false)) (Tryz.fm Tryz.id10) (Tryz.sm (.sym 0)) .nilslice [.ptr 1 0] = true := by kernel_rfl
set_option maxRecDepth 100000 in
theorem Tryz.askt_run (o : Bool) (top : Int) : stepB (((@tab (Tryz.sg top 0 0) Tryz.prog (Tryz.C0 _) 1000 (@Tryz.ext) 20).get 19).run [.ptr 1 0] (mkSt (Tryz.S1 o))) [.ptr 1 0] (mkSt (Tryz.S1 o)) (Tryz.fm Tryz.id10) (Tryz.sm (.sym 0)) (.sym 0) [.ptr 1 0] = true := by cases o <;> kernel_rfl

set_option maxRecDepth 100000 in
theorem Tryz.again (o : Bool) : subB (mkSt (Tryz.S1 o)) (Tryz.fm Tryz.id10) (Tryz.sm (.sym 0)) (mkSt (Tryz.S1 o)) = true := by cases o <;> kernel_rfl
theorem Tryz.recast {W : World} {p : Addr} {o : Bool} {top b mx : Int} {w : World} (h : Tryz.One W o top p w) : At (Tryz.sg top b mx) (mkSt (Tryz.S1 o)) W [.ptr 1 0] [.pointer (some p)] w :=
  At.recast (S' := Tryz.sg top b mx) h (Tryz.again o) (mkSt_ends rfl) rfl (Tryz.sm_ok fun _ => rfl)
theorem Tryz.term_any {W : World} {p : Addr} {top b mx : Int} {w : World} (h1 : 1 ≤ b) (h2 : b ≤ 1099511627776) (hm : mx = max top b) (h : Tryz.One W true top p w) :
    Calls Tryz.prog 10 #[.pointer (some p), .agg #[.int .i64 1, .int .i64 0, .int .i64 0, .string ⟨#[]⟩, .int .i64 b]] w fun e w' => e = .returned (.slice none 0 0) ∧ Tryz.One W true mx p w' := by
  subst hm
  refine (At.step (C := Tryz.C1 (b == top) h1 h2 rfl) (S' := Tryz.sg (max top b) 0 0) rfl Tryz.mixed (@Tryz.ext_ok (Tryz.sg top b (max top b))) (Tryz.term_run h1 h2 rfl) (mkSt_ends rfl) (Tryz.sm_ok fun _ => rfl) (Tryz.recast (b := b) (mx := max top b) h) (fun E hr => @reals_append (Tryz.sg top b (max top b)) E _ [_] _ [_] hr rfl)).mono ?_
  rintro e w' ⟨x, rfl, h⟩
  obtain ⟨h3, E, hx⟩ := h.tail
  have := @real_nilslice (Tryz.sg (max top b) 0 0) E x hx
  subst this
  exact ⟨rfl, h3⟩
theorem Tryz.gone_any {W : World} {p : Addr} {top b : Int} {w : World} (h1 : 1 ≤ b) (h2 : b ≤ 1099511627776) (hb : b = top) (h : Tryz.One W true top p w) :
    Calls Tryz.prog 10 #[.pointer (some p), .agg #[.int .i64 4, .int .i64 1, .int .i64 0, .string ⟨#[]⟩, .int .i64 b]] w fun e w' => ∃ x, e = .returned x ∧ Tryz.One W false top p w' :=
  At.step0 (C := Tryz.C1 true h1 h2 (by simp [hb])) (S' := Tryz.sg top 0 0) rfl Tryz.mixed (@Tryz.ext_ok (Tryz.sg top b (max top b))) (Tryz.gone_run h1 h2 (by simp [hb])) (mkSt_ends rfl) (Tryz.sm_ok fun _ => rfl) (Tryz.recast (b := b) (mx := max top b) h) (fun E hr => @reals_append (Tryz.sg top b (max top b)) E _ [_] _ [_] hr rfl)
theorem Tryz.stay_any {W : World} {p : Addr} {top b : Int} {w : World} (h1 : 1 ≤ b) (h2 : b ≤ 1099511627776) (hb : b ≠ top) (h : Tryz.One W true top p w) :
    Calls Tryz.prog 10 #[.pointer (some p), .agg #[.int .i64 4, .int .i64 1, .int .i64 0, .string ⟨#[]⟩, .int .i64 b]] w fun e w' => ∃ x, e = .returned x ∧ Tryz.One W true top p w' :=
  At.step0 (C := Tryz.C1 false h1 h2 (by simp [hb])) (S' := Tryz.sg top 0 0) rfl Tryz.mixed (@Tryz.ext_ok (Tryz.sg top b (max top b))) (Tryz.stay_run h1 h2 (by simp [hb])) (mkSt_ends rfl) (Tryz.sm_ok fun _ => rfl) (Tryz.recast (b := b) (mx := max top b) h) (fun E hr => @reals_append (Tryz.sg top b (max top b)) E _ [_] _ [_] hr rfl)
set_option maxRecDepth 100000 in
theorem Tryz.less : subB (mkSt (Tryz.S1 true)) (Tryz.fm Tryz.id10) (Tryz.sm (.sym 0)) (mkSt (Tryz.S1 true ++ [.row 3 [.int .i64 1] false none])) = true := by kernel_rfl
theorem Tryz.all1_any {W : World} {p : Addr} {top : Int} {w : World} (h : Tryz.One W true top p w) :
    Calls Tryz.prog 18 #[.pointer (some p)] w fun e w' => (∃ a cap, e = .returned (.slice (some a) 1 cap)) ∧ Tryz.One W true top p w' := by
  refine (At.step (C := Tryz.C0 (Tryz.sg top 0 0)) (S' := Tryz.sg top 0 0) rfl Tryz.mixed (@Tryz.ext_ok (Tryz.sg top 0 0)) (Tryz.all1_run top) (mkSt_ends rfl) (Tryz.sm_ok fun _ => rfl) h (fun E hr => hr)).mono ?_
  rintro e w' ⟨x, rfl, h⟩
  obtain ⟨h3, E, hx⟩ := h.tail
  obtain ⟨e, _, rfl⟩ := @real_slice (Tryz.sg top 0 0) E _ _ _ _ x hx
  exact ⟨⟨_, _, rfl⟩, At.recast (S' := Tryz.sg top 0 0) h3 Tryz.less (mkSt_ends rfl) rfl (Tryz.sm_ok fun _ => rfl)⟩
theorem Tryz.all0_any {W : World} {p : Addr} {top : Int} {w : World} (h : Tryz.One W false top p w) :
    Calls Tryz.prog 18 #[.pointer (some p)] w fun e w' => e = .returned (.slice none 0 0) ∧ Tryz.One W false top p w' := by
  refine (At.step (C := Tryz.C0 (Tryz.sg top 0 0)) (S' := Tryz.sg top 0 0) rfl Tryz.mixed (@Tryz.ext_ok (Tryz.sg top 0 0)) (Tryz.all0_run top) (mkSt_ends rfl) (Tryz.sm_ok fun _ => rfl) h (fun E hr => hr)).mono ?_
  rintro e w' ⟨x, rfl, h⟩
  obtain ⟨h3, E, hx⟩ := h.tail
  have := @real_nilslice (Tryz.sg top 0 0) E x hx
  subst this
  exact ⟨rfl, h3⟩
theorem Tryz.askt_any {W : World} {p : Addr} {o : Bool} {top : Int} {w : World} (h : Tryz.One W o top p w) :
    Calls Tryz.prog 19 #[.pointer (some p)] w fun e w' => e = .returned (.int .i64 top) ∧ Tryz.One W o top p w' := by
  refine (At.step (C := Tryz.C0 (Tryz.sg top 0 0)) (S' := Tryz.sg top 0 0) rfl Tryz.mixed (@Tryz.ext_ok (Tryz.sg top 0 0)) (Tryz.askt_run o top) (mkSt_ends rfl) (Tryz.sm_ok fun _ => rfl) h (fun E hr => hr)).mono ?_
  rintro e w' ⟨x, rfl, h⟩
  obtain ⟨h3, E, hx⟩ := h.tail
  have : x = .int .i64 top := (Option.some.inj hx).symm
  subst this
  exact ⟨rfl, h3⟩
set_option maxRecDepth 100000 in
theorem Tryz.awake_run [Sig] : said (((tab Tryz.cfg 100000 Tryz.ext 100).get 14).run [] A0) = true := by kernel_rfl
theorem Tryz.awake (w : World) : Calls Tryz.prog 14 #[] w fun e w' => e = .returned (.bool true) ∧ RowKit.Below w.heap.size w w' :=
  letI : Sig := Tryz.sg 0 0 0
  holds_of_run (C := Tryz.cfg) rfl Tryz.mixed Tryz.ext_ok Tryz.awake_run (xs := []) rfl w
end Go.Proofs
