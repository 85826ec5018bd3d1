/-
  WalNone's own walk's parts: the calls at a log and a disk that are none; the walk of WalNone, by a contract for the examples.
-/
import Derived.Test.YtgifffhmjnmcpaaGreatDoorProg
import Derived.WalkKit
import Derived.ProofKit
import Derived.OwnWalk
namespace Go.Proofs
open Go.ChangeShapes Go.WideShapes Go.ChangeAt Go.RowKit

theorem Tryz.open_nil (w : World) : Calls Tryz.prog 7 #[.pointer none] w fun e w' => e = .returned (.tuple #[.pointer none, .slice none 0 0, .int .i64 1]) ∧ Below w.heap.size w w' := by
  go_enter Tryz.func7, Tryz.ntmps7
  go_wp2
  all_goals (try simp only [Exit.inBlock, Exit.then])
  all_goals refine bodyPost_ret (results_tmp3 rfl _ _ _) rfl ?_
  all_goals exact ⟨rfl, by repeat (first | exact Below.refl _ _ | apply Below.drew | refine Below.alloc ?_ (Nat.le_refl _) _)⟩
theorem Tryz.put_nil (l : Value) (b : Bool) (w : World) : Calls Tryz.prog 23 #[.pointer none, l, .bool b] w fun e w' => e = .returned (.int .i64 1) ∧ Below w.heap.size w w' := by
  go_enter Tryz.func23, Tryz.ntmps23
  go_wp2
  all_goals go_ret
  all_goals exact ⟨rfl, by repeat (first | exact Below.refl _ _ | apply Below.drew | refine Below.alloc ?_ (Nat.le_refl _) _)⟩
theorem Tryz.append_nil (l : Value) (w : World) : Calls Tryz.prog 8 #[.pointer none, l] w fun e w' => e = .returned (.int .i64 1) ∧ Below w.heap.size w w' := by
  go_enter Tryz.func8, Tryz.ntmps8
  go_wp2_with (go_at_call 23; refine (Tryz.put_nil _ _ _).mono ?_; rintro e w1 ⟨rfl, h1⟩)
  all_goals go_ret
  all_goals exact ⟨rfl, h1⟩
theorem Tryz.write_nil (l : Value) (w : World) : Calls Tryz.prog 9 #[.pointer none, l] w fun e w' => e = .returned (.int .i64 1) ∧ Below w.heap.size w w' := by
  go_enter Tryz.func9, Tryz.ntmps9
  go_wp2_with (go_at_call 23; refine (Tryz.put_nil _ _ _).mono ?_; rintro e w1 ⟨rfl, h1⟩)
  all_goals go_ret
  all_goals exact ⟨rfl, h1⟩
theorem Tryz.reset_nil (l : Value) (w : World) : Calls Tryz.prog 16 #[.pointer none, l] w fun e w' => e = .returned (.int .i64 1) ∧ Below w.heap.size w w' := by
  go_enter Tryz.func16, Tryz.ntmps16
  go_wp2
  all_goals go_ret
  all_goals exact ⟨rfl, by repeat (first | exact Below.refl _ _ | apply Below.drew | refine Below.alloc ?_ (Nat.le_refl _) _)⟩
theorem Tryz.segment_nil (w : World) : Calls Tryz.prog 15 #[.pointer none] w fun e w' => e = .returned (.int .i64 0) ∧ Below w.heap.size w w' := by
  go_enter Tryz.func15, Tryz.ntmps15
  go_wp2
  all_goals go_ret
  all_goals exact ⟨rfl, by repeat (first | exact Below.refl _ _ | apply Below.drew | refine Below.alloc ?_ (Nat.le_refl _) _)⟩

def Awake (P : Program) (f : FuncId) : Prop := ∀ w, Calls P f #[] w fun e w' => e = .returned (.bool true) ∧ Below w.heap.size w w'

set_option maxHeartbeats 1000000 in
theorem Tryz.walNone (h : Awake Tryz.prog 10) (l : Value) (w : World) : Calls Tryz.prog 5 #[l] w fun e w' => e = .returned (.bool true) ∧ Below w.heap.size w w' := by
  go_enter Tryz.func5, Tryz.ntmps5
  go_wp2_with (first
    | (go_at_call 7; refine (Tryz.open_nil _).mono ?_; rintro e w1 ⟨rfl, h1⟩)
    | (go_at_call 8; refine (Tryz.append_nil _ _).mono ?_; rintro e w2 ⟨rfl, h2⟩)
    | (go_at_call 9; refine (Tryz.write_nil _ _).mono ?_; rintro e w3 ⟨rfl, h3⟩)
    | (go_at_call 16; refine (Tryz.reset_nil _ _).mono ?_; rintro e w4 ⟨rfl, h4⟩)
    | (go_at_call 15; refine (Tryz.segment_nil _).mono ?_; rintro e w5 ⟨rfl, h5⟩)
    | (go_at_call 10; refine (h _).mono ?_; rintro e w6 ⟨rfl, h6⟩))
  all_goals go_ret
  have k2 := h1.trans (h2.mono h1.size)
  have k3 := k2.trans (h3.mono k2.size)
  have k4 := k3.trans (h4.mono k3.size)
  have k5 := k4.trans (h5.mono k4.size)
  exact ⟨rfl, k5.trans (h6.mono k5.size)⟩
end Go.Proofs
