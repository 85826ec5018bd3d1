/-
  THE ABSTRACT MACHINE, part 27: slices.Sorted at the iterators of maps.Keys (maps of at most one entry; keys that are strings or whole numbers).
-/
import Derived.Test.YtenggpnmocbfoaaGreatAm26
import Derived.Lib.SlKeysI
import Derived.Maps.Keyed
namespace Go.Am
set_option linter.unusedSectionVars false
variable [Sig]
open Go.Proofs (encStr)

def memN (g : Nat) : List Nat → Bool
  | [] => false
  | x :: xs => match Nat.beq g x with
    | true => true
    | false => memN g xs
theorem memN_mem {g : Nat} : ∀ {l : List Nat}, memN g l = true → g ∈ l
  | [], h => by cases h
  | x :: xs, h => by
    unfold memN at h
    split at h
    · rename_i e; rw [Nat.eq_of_beq_eq_true e]; simp
    · simp [memN_mem h]
def keyFit (str : Bool) (n c : Nat) : AV → Bool
  | .str s => str && (Nat.blt n c && Nat.ble s.length 1073741824)
  | .int .i64 z => !str && (Nat.blt n c && (Lit.int .i64 z).wf)
  | _ => false
/-- slices.Sorted at an iterator of maps.Keys: the closure's one captured place holds the map. -/
def sortedX (str : Bool) (elT : TypeId) (gs : List FuncId) (args : List AV) (A : St) : Option (AV × St) :=
  match args with
  | [.func (.func g) [] [.ptr b 0]] => match memN g gs with
    | true => match rowOf A b with
      | some (r, _) => match r.exact with
        | true => match cellsAt A b 0 1 with
          | some [.map m] => match A.heap.at_ m with
            | some (.map [] _) => some (.nilslice, A)
            | some (.map [(k, _, n)] c) => match keyFit str n c k with
              | true => some (.slice A.next 0 1 1, freshRow A elT [k])
              | false => none
            | _ => none
          | _ => none
        | false => none
      | none => none
    | false => none
  | _ => none

/-- What is known of slices.Sorted (function f; strings of type k) at the iterator g. -/
structure SortedS (P : Program) (f g : FuncId) (k : TypeId) : Prop where
  str : P.underlying k = some .string
  at_ : ∀ (Bm b nn : Nat) (D0 : DataW Unit) (R : Value → Option (DataW Unit × List MemPlace)) (w : World), Bm < w.heap.size → w.cell? ⟨Bm, 0, none⟩ = some (.map (some b)) → w.ownsMap P k R b nn D0 → Maps.size D0 ≤ 1 →
    Calls P f #[.func (.func g) #[] #[.pointer (some ⟨Bm, 0, none⟩)]] w fun e w' => ∃ (v : Value) (ss : List (List UInt8)), e = .returned v ∧ ss.Perm (strKeys D0) ∧ w'.ownsRow w.heap.size k 1 v ss.length ((ss.mergeSort (fun x y => decide (x ≤ y))).map Go.Proofs.encStr) ∧ (v = .slice none 0 0 ↔ ss = []) ∧ RowKit.Below w.heap.size w w'
/-- The same of whole numbers. -/
structure SortedI (P : Program) (f g : FuncId) (k : TypeId) : Prop where
  int : P.underlying k = some (.int .i64)
  at_ : ∀ (Bm b nn : Nat) (D0 : DataW Unit) (R : Value → Option (DataW Unit × List MemPlace)) (w : World), Bm < w.heap.size → w.cell? ⟨Bm, 0, none⟩ = some (.map (some b)) → w.ownsMap P k R b nn D0 → Maps.size D0 ≤ 1 →
    Calls P f #[.func (.func g) #[] #[.pointer (some ⟨Bm, 0, none⟩)]] w fun e w' => ∃ (v : Value) (ss : List Int), e = .returned v ∧ ss.Perm (intKeys D0) ∧ w'.ownsRow w.heap.size k 1 v ss.length ((ss.mergeSort (fun x y => decide (x ≤ y))).map encZ) ∧ (v = .slice none 0 0 ↔ ss = []) ∧ RowKit.Below w.heap.size w w'

section
variable {P : Program} {G : Nat} {W0 : Base} {E : Env} {A : St} {w : World}
theorem sorted_head (R : Rel G W0 E A w) {g : FuncId} {b : Nat} {xs : List Value} (hargs : reals E [.func (.func g) [] [.ptr b 0]] = some xs) {r : Row} {fm : Fam} (hr : rowOf A b = some (r, fm)) (hex : r.exact = true) {m : Nat} (hc : cellsAt A b 0 1 = some [.map m]) :
    ∃ Bm em, xs = [.func (.func g) #[] #[.pointer (some ⟨Bm, 0, none⟩)]] ∧ Bm < w.heap.size ∧ E m = some em ∧ w.cell? ⟨Bm, 0, none⟩ = some (.map (some em.blk)) := by
  obtain ⟨x, ys, rfl, hx, hys⟩ := reals_cons hargs
  cases hys
  unfold real at hx
  split at hx
  · rename_i us hu
    cases hu
    split at hx
    · rename_i vs hv
      obtain ⟨y, zs, rfl, hy, hz⟩ := reals_cons hv
      cases hz
      obtain ⟨e, hE, rfl⟩ := real_ptr hy
      cases hx
      obtain ⟨e', cs, t, fz, zs, he', _, hcs, hrr, hl, hj⟩ := cellsAt_ok R hc hE
      rw [hE] at he'; cases he'
      have hcell : ∃ em, E m = some em ∧ w.cell? ⟨e.blk, 0 - e.sh, none⟩ = some (.map (some em.blk)) := by
        obtain ⟨z, zs', rfl, hz, hzs⟩ := reals_cons hrr
        obtain ⟨em, hem, rfl⟩ := real_map hz
        refine ⟨em, hem, ?_⟩
        rw [cell_of hcs]
        simpa using hj 0 (by omega)
      obtain ⟨em, hEm, hcell⟩ := hcell
      have e0 : (0 : Nat) - e.sh = 0 := Nat.zero_sub _
      rw [e0] at hcell
      refine ⟨e.blk, em, by rw [e0], R.size b e hE, hEm, hcell⟩
    · cases hx
  · cases hx
theorem sortedS_ok {f k : Nat} {gs : List FuncId} (L : ∀ g ∈ gs, SortedS P f g k) : ∀ args A v A', sortedX true k gs args A = some (v, A') → ∀ W0 E w xs, Rel G W0 E A w → reals E args = some xs →
    Calls P f xs.toArray w fun e w' => ∃ E' x, e = .returned x ∧ E.le E' ∧ real E' v = some x ∧ Rel G W0 E' A' w' := by
  intro args A v A' h W0 E w xs R hargs
  unfold sortedX at h
  split at h
  · rename_i g b
    split at h
    · rename_i hg
      have L := L g (memN_mem hg)
      split at h
      · rename_i r fm hr
        split at h
        · rename_i hex
          split at h
          · rename_i m hc
            obtain ⟨Bm, em, rfl, hBm, hEm, hcell⟩ := sorted_head R hargs hr hex hc
            split at h
            · rename_i c hm
              cases h
              obtain ⟨em', hE', res, hres, hent⟩ := R.objs m _ hm (fun r h => by cases h)
              rw [hEm] at hE'; cases hE'
              have hnil : res = #[] := by
                have : res.toList = [] := (Option.some.inj hent).symm
                simpa using this
              subst hnil
              have hown : w.ownsMap P k (fun _ => some (.nil, [])) em.blk 0 (.map [] : DataW Unit) :=
                ⟨#[], c, hres, ⟨by simp, ⟨by simp, by simp, by simp⟩, by simp⟩, by simp, by simp⟩
              refine (L.at_ Bm _ 0 _ _ w hBm hcell hown (by simp [Maps.size])).mono ?_
              rintro e w' ⟨v, ss, rfl, hp, hrow, hnil, hb⟩
              have : ss = [] := by simpa [strKeys] using hp
              refine ⟨E, _, rfl, E.le_refl, ?_, R.within hb⟩
              rw [hnil.2 this]; rfl
            · rename_i key v n c hm
              split at h
              · rename_i hck
                cases h
                unfold keyFit at hck
                split at hck
                · rename_i s
                  simp only [Bool.true_and, Bool.and_eq_true] at hck
                  have hn := Nat.le_of_ble_eq_true hck.1
                  have hs := Nat.le_of_ble_eq_true hck.2
                  obtain ⟨em', hE', res, hres, hent⟩ := R.objs m _ hm (fun r h => by cases h)
                  rw [hEm] at hE'; cases hE'
                  have hone : ∃ v', res = #[{ key := .string ⟨⟨s⟩⟩, val := v', born := n }] := by
                    simp only [entry?] at hent
                    split at hent
                    · rename_i k' v' es' hk hv he
                      cases he
                      rw [real_str hk] at hent
                      refine ⟨v', ?_⟩
                      have := Option.some.inj hent
                      have h2 := congrArg List.toArray this
                      simpa using h2.symm
                    · cases hent
                  obtain ⟨v', rfl⟩ := hone
                  have hmax : s.length ≤ maxLen := by unfold maxLen; omega
                  have hkey : Go.keyOf P k (.string ⟨⟨s⟩⟩) = some (.string s) := by
                    have := Go.WideMaps.keyOf_string_mk L.str (s := ⟨⟨s⟩⟩) hmax
                    simpa using this
                  have hrd : WideElems.rd P k (fun _ => some (.nil, [])) { key := .string ⟨⟨s⟩⟩, val := v', born := n } = some (.string s, (.nil : DataW Unit)) := by
                    unfold WideElems.rd; simp [hkey]
                  have hown : w.ownsMap P k (fun _ => some (.nil, [])) em.blk 1 (.map [(.string s, .nil)] : DataW Unit) := by
                    refine ⟨_, c, hres, ⟨by simp [maxLen], ⟨by simpa using Nat.lt_of_succ_le hn, by simp, by simp⟩, fun x hx => ?_⟩, by simp, ?_⟩
                    · simp only [List.mem_singleton] at hx
                      subst hx
                      exact ⟨_, hrd⟩
                    · simp [WideElems.rg, hrd, DataW.insert]
                  refine (L.at_ Bm _ 1 _ _ w hBm hcell hown (by simp [Maps.size])).mono ?_
                  rintro e w' ⟨v, ss, rfl, hp, hrow, hnil, hb⟩
                  have hss : ss = [s] := by simpa [strKeys, strOf] using hp
                  subst hss
                  obtain ⟨hl, hr⟩ := hrow
                  rcases hr with ⟨rfl, h0⟩ | ⟨g, cap, cur, rfl, hg1, hg, hle, hcap, hcs, htk⟩
                  · simp at h0
                  · have hsort : ([s].mergeSort (fun x y => decide (x ≤ y))).map Go.Proofs.encStr = [.string ⟨⟨s⟩⟩] := by
                      simp [Go.Proofs.encStr]
                    rw [hsort] at htk
                    have RR := R.placeRow hb hg1 (l := [.str s]) (xs := [.string ⟨⟨s⟩⟩]) hg (by rfl) (by simpa using htk)
                    refine ⟨_, _, rfl, Env.ins_le R.nil, ?_, RR⟩
                    rw [real_slice_mk 0 1 1 (Env.ins_same _ _ _)]
                    simp only [Nat.sub_zero, Nat.div_one, hcs, Nat.mul_one]
                    rfl
                · simp at hck
                · cases hck
              · cases h
            · cases h
          · cases h
        · cases h
      · cases h
    · cases h
  · cases h
theorem sortedI_ok {f k : Nat} {gs : List FuncId} (L : ∀ g ∈ gs, SortedI P f g k) : ∀ args A v A', sortedX false k gs args A = some (v, A') → ∀ W0 E w xs, Rel G W0 E A w → reals E args = some xs →
    Calls P f xs.toArray w fun e w' => ∃ E' x, e = .returned x ∧ E.le E' ∧ real E' v = some x ∧ Rel G W0 E' A' w' := by
  intro args A v A' h W0 E w xs R hargs
  unfold sortedX at h
  split at h
  · rename_i g b
    split at h
    · rename_i hg
      have L := L g (memN_mem hg)
      split at h
      · rename_i r fm hr
        split at h
        · rename_i hex
          split at h
          · rename_i m hc
            obtain ⟨Bm, em, rfl, hBm, hEm, hcell⟩ := sorted_head R hargs hr hex hc
            split at h
            · rename_i c hm
              cases h
              obtain ⟨em', hE', res, hres, hent⟩ := R.objs m _ hm (fun r h => by cases h)
              rw [hEm] at hE'; cases hE'
              have hnil : res = #[] := by
                have : res.toList = [] := (Option.some.inj hent).symm
                simpa using this
              subst hnil
              have hown : w.ownsMap P k (fun _ => some (.nil, [])) em.blk 0 (.map [] : DataW Unit) :=
                ⟨#[], c, hres, ⟨by simp, ⟨by simp, by simp, by simp⟩, by simp⟩, by simp, by simp⟩
              refine (L.at_ Bm _ 0 _ _ w hBm hcell hown (by simp [Maps.size])).mono ?_
              rintro e w' ⟨v, ss, rfl, hp, hrow, hnil, hb⟩
              have : ss = [] := by simpa [intKeys] using hp
              refine ⟨E, _, rfl, E.le_refl, ?_, R.within hb⟩
              rw [hnil.2 this]; rfl
            · rename_i key v n c hm
              split at h
              · rename_i hck
                cases h
                unfold keyFit at hck
                split at hck
                · simp at hck
                · rename_i s
                  simp only [Bool.not_false, Bool.true_and, Bool.and_eq_true] at hck
                  have hn := Nat.le_of_ble_eq_true hck.1
                  have hs := hck.2
                  obtain ⟨em', hE', res, hres, hent⟩ := R.objs m _ hm (fun r h => by cases h)
                  rw [hEm] at hE'; cases hE'
                  have hone : ∃ v', res = #[{ key := .int .i64 s, val := v', born := n }] := by
                    simp only [entry?] at hent
                    split at hent
                    · rename_i k' v' es' hk hv he
                      cases he
                      rw [real_int hk] at hent
                      refine ⟨v', ?_⟩
                      have := Option.some.inj hent
                      have h2 := congrArg List.toArray this
                      simpa using h2.symm
                    · cases hent
                  obtain ⟨v', rfl⟩ := hone
                  have hkey : Go.keyOf P k (.int .i64 s) = some (.int .i64 s) := Go.Maps.keyOf_int_mk L.int hs
                  have hrd : WideElems.rd P k (fun _ => some (.nil, [])) { key := .int .i64 s, val := v', born := n } = some (.int .i64 s, (.nil : DataW Unit)) := by
                    unfold WideElems.rd; simp [hkey]
                  have hown : w.ownsMap P k (fun _ => some (.nil, [])) em.blk 1 (.map [(.int .i64 s, .nil)] : DataW Unit) := by
                    refine ⟨_, c, hres, ⟨by simp [maxLen], ⟨by simpa using Nat.lt_of_succ_le hn, by simp, by simp⟩, fun x hx => ?_⟩, by simp, ?_⟩
                    · simp only [List.mem_singleton] at hx
                      subst hx
                      exact ⟨_, hrd⟩
                    · simp [WideElems.rg, hrd, DataW.insert]
                  refine (L.at_ Bm _ 1 _ _ w hBm hcell hown (by simp [Maps.size])).mono ?_
                  rintro e w' ⟨v, ss, rfl, hp, hrow, hnil, hb⟩
                  have hss : ss = [s] := by simpa [intKeys, Go.intOf] using hp
                  subst hss
                  obtain ⟨hl, hr⟩ := hrow
                  rcases hr with ⟨rfl, h0⟩ | ⟨g, cap, cur, rfl, hg1, hg, hle, hcap, hcs, htk⟩
                  · simp at h0
                  · have hsort : ([s].mergeSort (fun x y => decide (x ≤ y))).map encZ = [.int .i64 s] := by
                      simp [encZ]
                    rw [hsort] at htk
                    have RR := R.placeRow hb hg1 (l := [.int .i64 s]) (xs := [.int .i64 s]) hg (by rfl) (by simpa using htk)
                    refine ⟨_, _, rfl, Env.ins_le R.nil, ?_, RR⟩
                    rw [real_slice_mk 0 1 1 (Env.ins_same _ _ _)]
                    simp only [Nat.sub_zero, Nat.div_one, hcs, Nat.mul_one]
                    rfl
                · cases hck
              · cases h
            · cases h
          · cases h
        · cases h
      · cases h
    · cases h
  · cases h
end
end Go.Am
