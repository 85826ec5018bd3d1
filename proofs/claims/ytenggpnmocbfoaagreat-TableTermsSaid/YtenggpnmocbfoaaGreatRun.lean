/-
  The examples of chapter 21 (function 14), and TableNone (function 8) whatever the command is, reckoned by the kernel.
-/
import Derived.Test.YtenggpnmocbfoaaGreatCfg
import Derived.Test.YtenggpnmocbfoaaGreatSrtP
import Derived.Test.YtenggpnmocbfoaaGreatAm28
namespace Go.Proofs
set_option linter.unusedSectionVars false
open Go.Am

theorem Tryz.mixed : Tryz.prog.follows .mixedOrders = true := by kernel_rfl
section
variable [Sig]
def Tryz.ext : FuncId → Option FF := fun f => match Nat.beq f 86 with
  | true => some ⟨sortedX false 3 [152]⟩
  | false => match Nat.beq f 100 with
    | true => some ⟨sortedX true 9 [159, 160]⟩
    | false => none
theorem Tryz.ext_ok : ExtOk2 Tryz.cfg Tryz.ext := by
  intro f g h
  unfold Tryz.ext at h
  split at h
  · rename_i hf
    obtain rfl := Nat.eq_of_beq_eq_true hf
    cases h
    refine sortedI_ok fun g hg => ?_
    simp only [List.mem_cons, List.not_mem_nil, or_false] at hg
    subst hg
    exact Tryz.sortedI_86_152
  · split at h
    · rename_i hf
      obtain rfl := Nat.eq_of_beq_eq_true hf
      cases h
      refine sortedS_ok fun g hg => ?_
      simp only [List.mem_cons, List.not_mem_nil, or_false] at hg
      rcases hg with rfl | rfl
      · exact Tryz.sortedS_100_159
      · exact Tryz.sortedS_100_160
    · cases h
set_option maxRecDepth 100000 in
theorem Tryz.none_run : said (((tab Tryz.cfg 100000 Tryz.ext 100).get 8).run [.agg [.sym 0, .sym 1, .sym 2, .sym 3, .sym 4]] A0) = true := by kernel_rfl
end
theorem Tryz.tableNone (cs : Array Value) (h5 : cs.size = 5) (hs : ∀ (i : Nat) x, cs[i]? = some x → single x = some x) (w : World) :
    Calls Tryz.prog 8 #[.agg cs] w fun e w' => e = .returned (.bool true) ∧ RowKit.Below w.heap.size w w' := by
  letI : Sig := ⟨fun i => cs.getD i (.bool false)⟩
  refine holds_of_run (C := Tryz.cfg) rfl Tryz.mixed Tryz.ext_ok Tryz.none_run (xs := [.agg cs]) (reals_mk ?_ rfl) w
  refine real_syms (k := 0) h5 fun i x hx => ?_
  have : Sig.val (0 + i) = x := by
    show cs.getD (0 + i) (.bool false) = x
    rw [Nat.zero_add, Array.getD_eq_getD_getElem?, hx]; rfl
  rw [this]; exact hs i x hx
end Go.Proofs
