/-
  TableTerms' own walk: by the contracts of a table with one session.
-/
import Derived.Test.YtenggpnmocbfoaaGreatTt
import Derived.WalkKit
import Derived.ProofKit
import Derived.OwnWalk
import Derived.LoopTactic
import Derived.Lib.Hide
namespace Go.Proofs
open Go.ChangeShapes Go.WideShapes Go.ChangeAt Go.RowKit

/-- The open's command (function 17). -/
theorem Tryz.opens_run : Am.stepB (((@Am.tab (Tryz.sg 0 0 0) Tryz.prog (Tryz.C0 _) 1000 (@Tryz.ext) 20).get 17).run [.int .i64 0, .int .i64 1] Am.A0) [] (Am.mkSt []) (Tryz.fm []) .leaf (.agg [.int .i64 2, .int .i64 0, .int .i64 1, .str [], .int .i64 0]) [] = true := by kernel_rfl
theorem Tryz.opens (w : World) : Calls Tryz.prog 17 #[.int .i64 0, .int .i64 1] w fun e w' => e = .returned (.agg #[.int .i64 2, .int .i64 0, .int .i64 1, .string ⟨#[]⟩, .int .i64 0]) ∧ Below w.heap.size w w' := by
  refine (Am.At.step (C := Tryz.C0 (Tryz.sg 0 0 0)) (S' := Tryz.sg 0 0 0) rfl Tryz.mixed (@Tryz.ext_ok (Tryz.sg 0 0 0)) Tryz.opens_run (Am.mkSt_ends rfl) (Tryz.noSym _ _) (Am.At.start _ w) (xs := [.int .i64 0, .int .i64 1]) (fun _ _ => rfl)).mono ?_
  rintro e w' ⟨x, rfl, h⟩
  obtain ⟨_, E, hx⟩ := h.tail
  have : x = .agg #[.int .i64 2, .int .i64 0, .int .i64 1, .string ⟨#[]⟩, .int .i64 0] := (Option.some.inj hx).symm
  subst this
  exact ⟨rfl, h.below⟩

/-- A number between 1 and the greatest ballot. -/
theorem Tryz.clip (x : Int) : 1 ≤ max 1 (min x 1099511627776) ∧ max 1 (min x 1099511627776) ≤ 1099511627776 := by omega
set_option maxHeartbeats 2000000 in
theorem Tryz.terms_any (pa : Option Addr) (len cap : Nat) (xs : Nat → Int) (n : Int) (W : World) (hlen : len ≤ maxLen)
    (hc : ∀ i, i < len → ∃ a, pa = some a ∧ a.block < W.heap.size ∧ W.cell? (a.add i) = some (.int .i64 (xs i))) :
    Calls Tryz.prog 5 #[.slice pa len cap, .int .i64 n] W fun e w' => e = .returned (.bool true) ∧ Below W.heap.size W w' := by
  unfold maxLen at hlen
  go_enter Tryz.func5, Tryz.ntmps5
  go_wp2_with (first
    | (go_at_call 9; refine (Tryz.new_any _).mono ?_; rintro e w1 ⟨p, rfl, h1⟩)
    | (go_at_call 17; refine (Tryz.opens _).mono ?_; rintro e w2 ⟨rfl, hb2⟩)
    | (go_at_call 10; refine (Tryz.open_any (h1.within hb2)).mono ?_; rintro e w3 ⟨x3, rfl, h3⟩))
  go_loopw [6, 7] (fun t i w' => ∃ (k : Nat) (top : Int), k ≤ len ∧ i = .int .i64 k ∧ t = .int .i64 top ∧ 0 ≤ top ∧ top ≤ 1099511627776 ∧ Tryz.One W true top p w') (fun _ i _ => len - (intOf i).toNat)
  case atStart => exact ⟨0, 0, Nat.zero_le _, rfl, rfl, by omega, by omega, h3⟩
  case round =>
    obtain ⟨k, top, hk, rfl, rfl, ht0, ht1, hT⟩ := hrel
    have hbel := hT.below
    by_cases hlt : k < len
    · by_cases h50 : k < 50
      · obtain ⟨a, rfl, hblk, hcell⟩ := hc k hlt
        have hcw : wr.cell? (a.add k) = some (.int .i64 (xs k)) := by rw [hbel.cell (p := a.add k) (by unfold Addr.add; split <;> exact hblk)]; exact hcell
        have hcl := Tryz.clip (xs k)
        clear hcell hc
        go_wp2_with (go_at_call 10; refine (Tryz.term_any hcl.1 hcl.2 rfl hT).mono ?_; rintro e w4 ⟨rfl, h4⟩)
        go_roundw
        case rel => exact ⟨k + 1, max top (max 1 (min (xs k) 1099511627776)), by omega, by go_num, rfl, by omega, by omega, h4⟩
        case measure => simp [intOf]; omega
      · have hcl := Tryz.clip n
        by_cases hq : max 1 (min n 1099511627776) = top
        · have HQ := Lib.hid hq
          have hb : (max 1 (min n 1099511627776) == top) = true := by simp [hq]
          clear hq
          go_wp2_with (first
            | (go_at_call 10; refine (Tryz.gone_any hcl.1 hcl.2 HQ.out hT).mono ?_; rintro e w5 ⟨x5, rfl, h5⟩)
            | (go_at_call 18; refine (Tryz.all0_any h5).mono ?_; rintro e w6 ⟨rfl, h6⟩)
            | (go_at_call 19; refine (Tryz.askt_any h6).mono ?_; rintro e w7 ⟨rfl, h7⟩)
            | (go_at_call 14; refine (Tryz.awake _).mono ?_; rintro e w8 ⟨rfl, h8⟩))
          go_ret
          exact ⟨rfl, h7.below.trans (h8.mono h7.below.size)⟩
        · have HQ := Lib.hid hq
          have hb : (max 1 (min n 1099511627776) == top) = false := by simp [hq]
          clear hq
          go_wp2_with (first
            | (go_at_call 10; refine (Tryz.stay_any hcl.1 hcl.2 HQ.out hT).mono ?_; rintro e w5 ⟨x5, rfl, h5⟩)
            | (go_at_call 18; refine (Tryz.all1_any h5).mono ?_; rintro e w6 ⟨⟨a6, c6, rfl⟩, h6⟩)
            | (go_at_call 19; refine (Tryz.askt_any h6).mono ?_; rintro e w7 ⟨rfl, h7⟩)
            | (go_at_call 14; refine (Tryz.awake _).mono ?_; rintro e w8 ⟨rfl, h8⟩))
          go_ret
          exact ⟨rfl, h7.below.trans (h8.mono h7.below.size)⟩
    · have hcl := Tryz.clip n
      by_cases hq : max 1 (min n 1099511627776) = top
      · have HQ := Lib.hid hq
        have hb : (max 1 (min n 1099511627776) == top) = true := by simp [hq]
        clear hq
        go_wp2_with (first
        | (go_at_call 10; refine (Tryz.gone_any hcl.1 hcl.2 HQ.out hT).mono ?_; rintro e w5 ⟨x5, rfl, h5⟩)
        | (go_at_call 18; refine (Tryz.all0_any h5).mono ?_; rintro e w6 ⟨rfl, h6⟩)
        | (go_at_call 19; refine (Tryz.askt_any h6).mono ?_; rintro e w7 ⟨rfl, h7⟩)
        | (go_at_call 14; refine (Tryz.awake _).mono ?_; rintro e w8 ⟨rfl, h8⟩))
        go_ret
        exact ⟨rfl, h7.below.trans (h8.mono h7.below.size)⟩
      · have HQ := Lib.hid hq
        have hb : (max 1 (min n 1099511627776) == top) = false := by simp [hq]
        clear hq
        go_wp2_with (first
        | (go_at_call 10; refine (Tryz.stay_any hcl.1 hcl.2 HQ.out hT).mono ?_; rintro e w5 ⟨x5, rfl, h5⟩)
        | (go_at_call 18; refine (Tryz.all1_any h5).mono ?_; rintro e w6 ⟨⟨a6, c6, rfl⟩, h6⟩)
        | (go_at_call 19; refine (Tryz.askt_any h6).mono ?_; rintro e w7 ⟨rfl, h7⟩)
        | (go_at_call 14; refine (Tryz.awake _).mono ?_; rintro e w8 ⟨rfl, h8⟩))
        go_ret
        exact ⟨rfl, h7.below.trans (h8.mono h7.below.size)⟩
end Go.Proofs
