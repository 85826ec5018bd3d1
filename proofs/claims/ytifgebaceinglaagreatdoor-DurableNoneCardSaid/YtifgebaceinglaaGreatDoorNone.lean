/-
  DurableNone: for all records and every state, a store that is none answers as the law says, and the examples of chapter 13 come true: the law returns true and its arguments read as before; its card.
-/
import Derived.Test.YtifgebaceinglaaGreatDoorRun
import Derived.Test.YtifgebaceinglaaGreatDoorCards
import Derived.Test.YtifgebaceinglaaGreatDoorTie
import Derived.Carry
import Derived.OpenShut
import Derived.Deep.DeepHandedRow
import Derived.Deep.DeepWitnessRowRef
import Derived.Deep.DeepLaidRun
import Derived.Lib.LaidTab
import Derived.Stop.LaidErr
import Derived.OwnWalk
import Derived.ProofKit
namespace Go.Proofs.YtifgebaceinglaaGreatDoor.durableNone
open Go.ChangeShapes Go.WideShapes Go.ChangeAt Go.RowKit Go.Stop

theorem own : ownKnob Tryz.prog.godebug = none := by kernel_rfl
theorem laidOut : laidOutB Tryz.prog = true := by kernel_rfl

theorem laidMet_tail {P : Program} {x : String × DataW Unit} {r : List (String × DataW Unit)} {W : World} (h : laidMet P (x :: r) W) : laidMet P r W := by
  obtain ⟨ps, ⟨g0, t0, cs0, f0, p0, q0, hg0, ht0, hv0, hd0, hr, e0⟩, hnd, hrows⟩ := h
  subst e0
  exact ⟨q0, hr, (List.nodup_append.1 hnd).2.1, fun b off hm => hrows b off (by simp [hm])⟩
theorem sentinel_block {P : Program} {n nm : String} {text : List UInt8} {r : List (String × DataW Unit)} {W : World} {g : Nat} {ti tp te ts : TypeId} {ms : Array (String × TypeId)} {f : Field}
    (h : laidMet P ((n, .iface nm (.ptr (.agg [.lit (.string text)]))) :: r) W)
    (hg : P.globalNamed n = some g) (ht : (P.globals[g]?).map (·.type) = some ti) (hi : P.underlying ti = some (.interface ms)) (hrow : ∀ u, P.typeName? 3 u = some nm → u = tp)
    (hp : P.underlying tp = some (.pointer te)) (he : P.underlying te = some (.struct #[f])) (hft : f.type = ts) (hfo : f.offset = 0) (hs : P.underlying ts = some .string) (hc : P.cellsOf te = 1) (hcs : P.cellsOf ts = 1) :
    ∃ (a : Addr) (t : TypeId), W.heap[g]? = some (.cells #[.iface tp (.pointer (some a))] t (0, 0)) := by
  obtain ⟨a, s, hv, _⟩ := Go.laid_sentinel h hg ht hi hrow hp he hft hfo hs hc hcs
  obtain ⟨ps, ⟨g0, t0, cs0, f0, p0, q0, hg0, ht0, hv0, hd0, _, e0⟩, _, hrows⟩ := h
  obtain rfl := Option.some.inj (hg.symm.trans hg0)
  obtain rfl := Option.some.inj (hv.symm.trans hv0)
  subst e0
  obtain ⟨⟨c, t, hh⟩, _⟩ := hrows g 0 (by simp [MemPlace.row])
  refine ⟨a, t, ?_⟩
  unfold World.var? at hv
  rw [hg] at hv
  simp only [Option.bind_some, hh, Option.some.injEq] at hv
  rw [hh, hv]
theorem star : "*" ++ "errors.errorString" = "*errors.errorString" := by decide
theorem row231 (u : TypeId) (h : Tryz.prog.typeName? 3 u = some "*errors.errorString") : u = 231 :=
  typeName_ptr_named (nm := "errors.errorString") (by rw [star]; kernel_rfl) (by kernel_rfl) (by decide) u (by rw [star]; exact h)
theorem errNone_block {W : World} (h : laidMet Tryz.prog Rows.durableNoneRow.laid W) : ∃ (a : Addr) (t : TypeId), W.heap[0]? = some (.cells #[.iface 231 (.pointer (some a))] t (0, 0)) :=
  sentinel_block (laidMet_tail (laidMet_tail (laidMet_tail h))) (by kernel_rfl) (by kernel_rfl) Tryz.underlying86 row231 Tryz.underlying231 Tryz.underlying233 rfl rfl Tryz.underlying9 (by kernel_rfl) (by kernel_rfl)
theorem cells24 : Tryz.prog.cellsOf 24 = 4 := by kernel_rfl
set_option maxRecDepth 100000 in
theorem contract (H : Type) (enc : TypeId × Value → H) (W : World) (base : Nat) (args : Array Value) (ds gs : List (DataW H)) (before : List MemPlace)
    (hval : ∀ (j : Nat) t v, Tryz.f6.params[j]? = some t → args[j]? = some v → Value.okWide Tryz.prog W .any base t v)
    (hW : DataW.Whole enc Tryz.prog Tryz.f6.params.toList Rows.durableNoneSpec.vars false W args.toList ds gs before) (hL : laidMet Tryz.prog Rows.durableNoneRow.laid W) :
    Calls Tryz.prog 6 args W fun e W' => ∃ v, e = .returned v ∧ Rows.durableNoneSpec.post enc Tryz.prog Tryz.f6 false true false false W args v W' := by
  have hW' := hW
  obtain ⟨p, q, hA0, hV, rfl, hfz, hnd⟩ := hW
  have hA : DataW.TrodAll enc Tryz.prog W 0 (fun _ => true) true Tryz.f6.params.toList args.toList ds p := hA0
  rw [Tryz.params6] at hA hval
  obtain ⟨v0, vs0, d0, ds0, p0, q0, hargs, rfl, rfl, h0, r0⟩ := trodAll_cons hA
  obtain ⟨v1, vs1, d1, ds1, p1, q1, rfl, rfl, rfl, h1, r1⟩ := trodAll_cons r0
  obtain ⟨rfl, rfl, rfl⟩ := trodAll_nil r1
  obtain rfl : args = #[v0, v1] := by cases args; simp_all
  obtain ⟨rfl, rfl⟩ := trodVars_none hV
  clear hA0
  simp only [List.append_nil] at hW'
  have hlt0 : ∀ x ∈ p0, x.block < W.heap.size := fun x hx => hW'.lt x (by simp [hx])
  have hlt1 : ∀ x ∈ p1, x.block < W.heap.size := fun x hx => hW'.lt x (by simp [hx])
  have hl := Go.Am.plain_cell (t := 25) (fun fs => by rw [Tryz.underlying25]; exact nofun) (fun n e => by rw [Tryz.underlying25]; exact nofun) (hval 0 _ v0 rfl rfl)
  obtain ⟨cs, rfl, h4, hs⟩ := Go.Am.struct_cells Tryz.underlying24 (hval 1 _ v1 rfl rfl)
  obtain ⟨a, t, hg⟩ := errNone_block hL
  refine (Tryz.durableNone v0 hl cs (h4.trans cells24) hs W a t hg).mono fun e W' ⟨he, hB⟩ => ?_
  subst he
  have hT0 := Below.trod laidOut (by kernel_rfl) (of_decide_eq_true (by kernel_rfl)) h0 hB hlt0
  have hT1 := Below.trod laidOut (by kernel_rfl) (of_decide_eq_true (by kernel_rfl)) h1 hB hlt1
  exact ⟨_, rfl, _, _, _, [], p0 ++ p1, [], hW', trodAll_cons_mk (shut_bool Tryz.underlying4 _) trodAll_mk0, by have := trodAll_cons_mk hT0 (trodAll_cons_mk hT1 trodAll_mk0); rw [List.append_nil] at this; exact this, rfl, hB.frame _, fun h => by cases h⟩

def ints (d : DataW Unit) : Array Value := match d with
  | .agg l => (l.map fun | .lit (.int k n) => Value.int k n | _ => .bool false).toArray
  | _ => #[]
def text (d : DataW Unit) : ByteArray := match d with
  | .iface _ (.ptr (.agg [.lit (.string s)])) => ⟨s.toArray⟩
  | _ => ⟨#[]⟩
/-- A WORLD FOR THE WITNESS: the settled one and two blocks more (the errors' structs), the variables holding what their initialisers lay. -/
noncomputable def laidWorld (os : Os) : World :=
  let N := (World.settled Tryz.prog os).heap.size
  let w0 := World.holding Tryz.prog os ⟨#[.cells #[.string (text Rows.laid_latchkey_snap_errNone)] 233, .cells #[.string (text Rows.laid_latchkey_snap_errBad)] 233, .cells #[.string (text Rows.laid_strconv_ErrSyntax)] 233, .cells #[.string (text Rows.laid_strconv_ErrRange)] 233], #[], []⟩
  let put (h : Array Obj) (g : Nat) (cs : Array Value) : Array Obj := h.modify g fun
    | .cells _ t frozen => .cells cs t frozen
    | o => o
  let h0 := put (put (put (put w0.heap 0 #[.iface 231 (.pointer (some ⟨N, 0, none⟩))]) 1 #[.iface 231 (.pointer (some ⟨N + 1, 0, none⟩))]) 2 #[.iface 231 (.pointer (some ⟨N + 2, 0, none⟩))]) 3 #[.iface 231 (.pointer (some ⟨N + 3, 0, none⟩))]
  let h1 := put h0 4 (ints Rows.laid_internal_strconv_uint64pow10)
  let h2 := put h1 5 (ints Rows.laid_math_bits_deBruijn32tab)
  let h3 := put h2 6 (ints Rows.laid_math_bits_deBruijn64tab)
  { w0 with heap := h3 }
set_option maxRecDepth 1000000 in
theorem laid_met (os : Os) (args : Array Value) : laidMet Tryz.prog Rows.durableNoneRow.laid ((laidWorld os).forCall (fun _ _ => 0) ⟨#[], args, []⟩).memory :=
  laidMet_of_run' 8 (by kernel_rfl) (by kernel_rfl)
theorem reads (os : Os) {H : Type} (enc : TypeId × Value → H) : ∃ places, DataW.whole enc Tryz.prog ((laidWorld os).forCall (fun _ _ => 0) ⟨#[], #[.slice none 0 0, .agg #[.int .i64 0, .int .i64 0, .string ⟨#[]⟩, .slice none 0 0]], []⟩).memory Tryz.f6.params.toList Rows.durableNoneSpec.vars false #[Value.slice none 0 0, .agg #[.int .i64 0, .int .i64 0, .string ⟨#[]⟩, .slice none 0 0]].toList 8 = some ([.nil, .agg [.lit (.int .i64 0), .lit (.int .i64 0), .lit (.string []), .nil]], [], places) :=
  ⟨[], by kernel_rfl⟩

set_option maxRecDepth 100000 in
theorem lifted (os : Os) (started : os.Started) (H : Type) (enc : TypeId × Value → H) (F : Stop.Interp) :
    ReturnsInHanded {} Tryz.checked os 6 .any ((OpenSpec.ofChange Rows.durableNoneSpec).preRow enc Tryz.prog Tryz.f6 Rows.durableNoneRow.domain false Rows.durableNoneRow.laid) (((OpenSpec.ofChange Rows.durableNoneSpec).at F).post enc Tryz.prog Tryz.f6 false true false false) := by
  obtain ⟨places, hx⟩ := reads os enc
  refine returnsInHanded_of_row (C := Tryz.checked) (s := OpenSpec.ofChange Rows.durableNoneSpec) own started (by kernel_rfl) Tryz.func6
    (witness_row_atRef (enc := enc) (C := Tryz.checked) false (laidWorld os) #[.slice none 0 0, .agg #[.int .i64 0, .int .i64 0, .string ⟨#[]⟩, .slice none 0 0]] rfl (by kernel_rfl) (by kernel_rfl) (by kernel_rfl)
      (OpenSpec.preRow_of_cond 8 hx (by kernel_rfl) (fun k hk => by cases hk) (by kernel_rfl) (laid_met os _))) ?_
  intro W base args ds gs before hval hW _ _ _ hL _ _
  exact contract H enc W base args ds gs before hval hW hL

theorem said : Rows.DurableNoneSaid :=
  OpenClaim.holds_of_cond 6 Tryz.f6 rfl rfl rfl rfl rfl rfl rfl ⟨rfl, rfl, rfl, rfl, rfl⟩ rfl rfl rfl rfl rfl (by kernel_rfl) Tryz.func6 (by kernel_rfl)
    (of_decide_eq_true (by kernel_rfl)) (by unfold Func.isWrapper; first | (rw [if_pos (by decide +kernel)]; kernel_rfl) | (rw [if_neg (by decide +kernel)]; exact ⟨rfl, rfl⟩))
    (fun os started H enc _ F => by rw [OpenClaim.pre_eq_preRow]; exact lifted os started H enc F)

/-- No parameter wants a stand-in; the program's own looks are off. -/
theorem plain (f : FuncId) (fn : Func) (hf : Tryz.pinned.checked.prog.funcNamed "latchkey/latchkeylaw13.DurableNone" = some f) (hfn : Tryz.pinned.checked.prog.funcs[f]? = some fn) :
    true = Tryz.pinned.checked.prog.looks [] ∧ ∀ (j : Nat) t, fn.params[j]? = some t → Tryz.pinned.checked.prog.wantsStandIn t = false := by
  obtain rfl : f = 6 := Option.some.inj ((show Tryz.prog.funcNamed "latchkey/latchkeylaw13.DurableNone" = some 6 by kernel_rfl).symm.trans hf) |>.symm
  obtain rfl : fn = Tryz.f6 := (Option.some.inj (Tryz.func6.symm.trans hfn)).symm
  refine ⟨by kernel_rfl, fun j t ht => ?_⟩
  rw [Tryz.params6] at ht
  rcases j with _ | _ | j
  · obtain rfl : t = 25 := by simpa using ht.symm
    exact (show Tryz.prog.wantsStandIn 25 = false by kernel_rfl)
  · obtain rfl : t = 24 := by simpa using ht.symm
    exact (show Tryz.prog.wantsStandIn 24 = false by kernel_rfl)
  · simp at ht

theorem card : Rows.DurableNoneCardSaid :=
  Claim7.holds_tied_plain_at .later [] _ _ _ _ said (fun _ h => by cases h) (by kernel_rfl) (fun _ h => by cases h) durableNone_row_tie rfl ⟨rfl, rfl⟩ (by kernel_rfl) rfl plain (by kernel_rfl)
#print axioms card
end Go.Proofs.YtifgebaceinglaaGreatDoor.durableNone
