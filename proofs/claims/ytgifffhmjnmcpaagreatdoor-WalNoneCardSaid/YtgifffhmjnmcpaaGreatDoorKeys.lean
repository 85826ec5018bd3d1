/-
  (*disk.Disk).Files (function 17): the sorted keys of the disk's map: by the shelf's contracts.
-/
import Derived.Test.YtgifffhmjnmcpaaGreatDoorCfg
namespace Go.Proofs
open Go.RowKit Go.Maps Go.Sort Go.Shelf Go.Am

theorem Tryz.files_nil (w : World) : Calls Tryz.prog 17 #[.pointer none] w fun e w' => e = .returned (.slice none 0 0) ∧ Below w.heap.size w w' := by
  go_enter Tryz.func17, Tryz.ntmps17
  go_wp2
  all_goals go_ret
  all_goals exact ⟨rfl, by repeat (first | exact Below.refl _ _ | apply Below.drew | refine Below.alloc ?_ (Nat.le_refl _) _)⟩

set_option maxHeartbeats 1000000 in
theorem Tryz.files_at (a : Addr) (b nn : Nat) (D0 : DataW Unit) (R : Value → Option (DataW Unit × List MemPlace)) (w : World) (hc : w.cell? a = some (.map (some b))) (hown : w.ownsMap Tryz.prog 9 R b nn D0) (hmax : Maps.size D0 ≤ 1) :
    Calls Tryz.prog 17 #[.pointer (some a)] w fun e w' => ∃ (v : Value) (ss : List (List UInt8)), e = .returned v ∧ ss.Perm (strKeys D0) ∧ w'.ownsRow w.heap.size 9 1 v ss.length ((ss.mergeSort (fun x y => decide (x ≤ y))).map encStr) ∧ (v = .slice none 0 0 ↔ ss = []) ∧ Below w.heap.size w w' := by
  refine (callsIn_wide (n := 6)).1 ?_
  have hfK : Fence.wide.fn 31 := trivial
  have hfS : Fence.wide.fn 30 := trivial
  have h1 : Maps.size D0 ≤ maxLen := Nat.le_trans hmax (by decide)
  have h2 : Maps.size D0 * 16 ≤ 140737488355328 := by omega
  refine callsIn_of_wp Tryz.func17 rfl trivial ?_ rfl
  simp only [Tryz.ntmps17, List.size_toArray, List.length_cons, List.length_nil, Nat.reduceAdd, Nat.reduceSub, Array.replicate_succ, Array.replicate_zero, List.push_toArray, List.append_toArray, List.nil_append, List.cons_append]
  gi_wp2_with (first
    | (gi_at_call 31; refine (Tryz.maps_Keys_31 _ _).mono ?_; rintro e w' ⟨rfl, rfl⟩)
    | (gi_at_call 30; refine (Tryz.slices_Sorted_keys_30_31 b nn D0 R w hown h1 h2).mono ?_; rintro e w' ⟨v, ss, rfl, hS, hrow, hnil, hb⟩))
  go_ret
  exact ⟨v, ss, rfl, hS, ownsRow_base_a hrow (by simp), hnil, ((Below.refl _ w).alloc (Nat.le_refl _) _).trans (hb.mono (by simp))⟩

theorem Tryz.filesLaw : KeysLaw Tryz.prog 17 9 9 := ⟨Tryz.underlying9, Tryz.files_nil, fun a b nn D0 R w hc hown hmax => Tryz.files_at a b nn D0 R w hc hown hmax⟩
end Go.Proofs
