/-
  The examples of chapter 11 (function 10) come true in every world: the abstract machine's run, reckoned by the kernel.
-/
import Derived.Test.YtgifffhmjnmcpaaGreatDoorKeys
namespace Go.Proofs
open Go.Am

def Tryz.ext : FuncId → Option FF := fun f => match Nat.beq f 17 with | true => some ⟨keysX 9⟩ | false => none
theorem Tryz.ext_ok : ExtOk2 Tryz.cfg Tryz.ext := by
  intro f g h
  unfold Tryz.ext at h
  split at h
  · rename_i hf
    obtain rfl := Nat.eq_of_beq_eq_true hf
    cases h
    exact keysX_ok Tryz.filesLaw
  · cases h
def Tryz.A0 : St := { heap := .leaf, fams := .leaf, next := 1 }
def Tryz.said (o : Option (AV × St)) : Bool := match o with | some (.bool true, _) => true | _ => false
set_option maxRecDepth 100000 in
theorem Tryz.awake_run : Tryz.said (((tab Tryz.cfg 100000 Tryz.ext 100).get 10).run [] Tryz.A0) = true := by kernel_rfl
theorem Tryz.rel0 (w : World) : Rel 0 w (fun _ => none) Tryz.A0 w where
  pos := Nat.zero_lt_one
  fresh := fun b _ => ⟨rfl, PT.at_leaf _⟩
  glob := fun g hg => absurd hg (Nat.not_lt_zero g)
  rows := fun b r f h => by rw [show Tryz.A0.heap.at_ b = none from PT.at_leaf _] at h; cases h
  objs := fun b o h => by rw [show Tryz.A0.heap.at_ b = none from PT.at_leaf _] at h; cases h
  famlt := fun b r h => by rw [show Tryz.A0.heap.at_ b = none from PT.at_leaf _] at h; cases h
  last := fun b r f h => by rw [show Tryz.A0.heap.at_ b = none from PT.at_leaf _] at h; cases h
  mx := fun b r f h => by rw [show Tryz.A0.heap.at_ b = none from PT.at_leaf _] at h; cases h
  same := fun b b' r r' e e' h => by rw [show Tryz.A0.heap.at_ b = none from PT.at_leaf _] at h; cases h
  apart := fun b b' e e' h => by cases h
  own := fun b e h => by cases h
  size := fun b e h => by cases h
  below := RowKit.Below.refl _ w
theorem Tryz.mixed : Tryz.prog.follows .mixedOrders = true := by kernel_rfl
theorem Tryz.awake : Awake Tryz.prog 10 := by
  intro w
  have h := Tryz.awake_run
  unfold Tryz.said at h
  split at h
  · rename_i A' hr
    have := tab_ok Tryz.mixed Tryz.ext_ok 100 10 [] Tryz.A0 (.bool true) A' hr w (fun _ => none) w [] (Tryz.rel0 w) rfl
    refine this.mono ?_
    rintro e w' ⟨E', x, rfl, _, hx, R⟩
    exact ⟨by rw [real_bool hx], R.below⟩
  · cases h
end Go.Proofs
