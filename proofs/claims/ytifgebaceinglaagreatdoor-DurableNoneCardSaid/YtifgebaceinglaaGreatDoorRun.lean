/-
  DurableNone (function 6) whatever the records and the state are, reckoned by the kernel; snap.errNone (variable 0) is a symbol.
-/
import Derived.Test.YtifgebaceinglaaGreatDoorCfg
import Derived.Test.YtifgebaceinglaaGreatDoorSrtP
import Derived.Test.YtifgebaceinglaaGreatDoorIs
import Derived.Test.YtifgebaceinglaaGreatDoorAm30
namespace Go.Proofs
set_option linter.unusedSectionVars false
open Go.Am

section
variable [Sig]
def Tryz.ext : FuncId → Option FF := fun f => match Nat.beq f 79 with
  | true => some ⟨sortedX true 9 [113]⟩
  | false => match Nat.beq f 46 with
    | true => some ⟨isX 5⟩
    | false => none
theorem Tryz.ext_ok {a : Addr} (h5 : Sig.val 5 = .iface 231 (.pointer (some a))) : ExtOk2 Tryz.cfg Tryz.ext := by
  intro f g h
  unfold Tryz.ext at h
  split at h
  · rename_i hf
    obtain rfl := Nat.eq_of_beq_eq_true hf
    cases h
    refine sortedS_ok fun g hg => ?_
    simp only [List.mem_cons, List.not_mem_nil, or_false] at hg
    subst hg
    exact Tryz.sortedS_79_113
  · split at h
    · rename_i hf
      obtain rfl := Nat.eq_of_beq_eq_true hf
      cases h
      exact isX_ok fun w => by rw [h5]; exact Tryz.is_same a w
    · cases h
theorem Tryz.mixed : Tryz.prog.follows .mixedOrders = true := by kernel_rfl
set_option maxRecDepth 100000 in
theorem Tryz.none_run (t : Nat) : said (((tab Tryz.cfg 100000 Tryz.ext 100).get 6).run [.sym 0, .agg [.sym 1, .sym 2, .sym 3, .sym 4]] (globA 1 [(0, .sym 5, t)])) = true := by kernel_rfl
end
theorem Tryz.durableNone (l : Value) (hl : single l = some l) (cs : Array Value) (h4 : cs.size = 4) (hs : ∀ (i : Nat) x, cs[i]? = some x → single x = some x) (w : World)
    (a : Addr) (t : TypeId) (hg : w.heap[0]? = some (.cells #[.iface 231 (.pointer (some a))] t (0, 0))) :
    Calls Tryz.prog 6 #[l, .agg cs] w fun e w' => e = .returned (.bool true) ∧ RowKit.Below w.heap.size w w' := by
  letI : Sig := ⟨fun i => match i with | 0 => l | 5 => .iface 231 (.pointer (some a)) | i + 1 => cs.getD i (.bool false)⟩
  have hsz : 1 ≤ w.heap.size := by
    rcases Nat.lt_or_ge 0 w.heap.size with h | h
    · exact h
    · rw [Array.getElem?_eq_none h] at hg; cases hg
  refine holds_of_runG (C := Tryz.cfg) (G := 1) rfl Tryz.mixed (Tryz.ext_ok (a := a) rfl) (Tryz.none_run t) hsz ?_ (xs := [l, .agg cs]) (reals_mk hl (reals_mk ?_ rfl))
  · intro g v t' hm
    simp only [List.mem_cons, List.not_mem_nil, or_false, Prod.mk.injEq] at hm
    obtain ⟨rfl, rfl, rfl⟩ := hm
    exact ⟨by omega, _, rfl, hg⟩
  · refine real_syms (k := 1) h4 fun i x hx => ?_
    have hi : i < 4 := by rw [← h4]; exact (Array.getElem?_eq_some_iff.1 hx).1
    have : Sig.val (1 + i) = x := by
      have : Sig.val (1 + i) = cs.getD i (.bool false) := by
        rcases i with _ | _ | _ | _ | i
        · rfl
        · rfl
        · rfl
        · rfl
        · omega
      rw [this, Array.getD_eq_getD_getElem?, hx]; rfl
    rw [this]; exact hs i x hx
end Go.Proofs
