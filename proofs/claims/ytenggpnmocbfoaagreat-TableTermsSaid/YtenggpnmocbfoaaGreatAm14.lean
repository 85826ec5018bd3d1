/-
  THE ABSTRACT MACHINE, part 14: maps ranged over (where there is no choice), clear, strings laid over bytes.
-/
import Derived.Test.YtenggpnmocbfoaaGreatAm13
namespace Go.Am
set_option linter.unusedSectionVars false
variable [Sig]

theorem entry?_filter {E : Env} (p : Nat → Bool) : ∀ {es : List (AV × AV × Nat)} {res : List MapEntry}, entry? E es = some res → entry? E (es.filter fun e => p e.2.2) = some (res.filter fun e => p e.born)
  | [], res, h => by simp only [entry?] at h; cases h; rfl
  | (k, v, b) :: es, res, h => by
    unfold entry? at h
    split at h
    · rename_i k' v' es' hk hv he
      cases h
      simp only [List.filter_cons]
      cases hp : p b with
      | true =>
        simp only [if_true]
        unfold entry?
        rw [hk, hv, entry?_filter p he]
      | false =>
        simp only [Bool.false_eq_true, if_false]
        exact entry?_filter p he
    · cases h
theorem entry?_all {E : Env} (p : Nat → Bool) : ∀ {es : List (AV × AV × Nat)} {res : List MapEntry}, entry? E es = some res → (res.all fun e => p e.born) = (es.all fun e => p e.2.2)
  | [], res, h => by simp only [entry?] at h; cases h; rfl
  | (k, v, b) :: es, res, h => by
    unfold entry? at h
    split at h
    · rename_i k' v' es' hk hv he
      cases h
      simp only [List.all_cons, entry?_all p he]
    · cases h
theorem entry?_find {E : Env} (p : Nat → Bool) : ∀ {es : List (AV × AV × Nat)} {res : List MapEntry}, entry? E es = some res → ∀ k v b, es.find? (fun e => p e.2.2) = some (k, v, b) → ∃ k' v', real E k = some k' ∧ real E v = some v' ∧ res.find? (fun e => p e.born) = some { key := k', val := v', born := b }
  | [], res, h, k, v, b, hf => by simp at hf
  | (k0, v0, b0) :: es, res, h, k, v, b, hf => by
    unfold entry? at h
    split at h
    · rename_i k' v' es' hk hv he
      cases h
      simp only [List.find?_cons] at hf ⊢
      cases hp : p b0 with
      | true => rw [hp] at hf; simp only at hf ⊢; cases hf; exact ⟨k', v', hk, hv, rfl⟩
      | false => rw [hp] at hf; simp only at hf ⊢; exact entry?_find p he k v b hf
    · cases h

def aRange (P : Program) (A : St) (t : TypeId) (x : AV) : Option (AV × St) :=
  match P.underlying t with
  | some (.map _ _) => match x with
    | .nilmap => some (.ptr A.next 0, newObjA A (.mapIter none 0 [] 0))
    | .map m => match A.heap.at_ m with
      | some (.map _ c) => some (.ptr A.next 0, newObjA A (.mapIter (some m) c [] c))
      | _ => none
    | _ => none
  | _ => none
theorem aRange_ok {P : Program} {G : Nat} {W0 : Base} {E : Env} {A A' : St} {w : World} (R : Rel G W0 E A w) {t : TypeId} {x v : AV} {x' : Value} (h : aRange P A t x = some (v, A')) (hx : real E x = some x') :
    ∃ y w', (Instr.range t x').run P w = .ok y w' ∧ Good G W0 E A' v y w' := by
  unfold aRange at h
  split at h
  · rename_i kt et hd
    split at h
    · cases real_nilmap hx
      cases h
      refine ⟨_, { w with heap := w.heap.push (.mapIter none 0 #[] 0) }, ?_, _, Env.ins_le R.nil, real_ptr_mk 0 (Env.ins_same _ _ _), R.newObj (.mapIter none 0 [] 0) _ (fun r hr => by cases hr) ⟨none, heap_push_new w _, rfl⟩⟩
      unfold Instr.range
      rw [bind_ok (run_underlying hd)]; rfl
    · rename_i m
      obtain ⟨e, hE, rfl⟩ := real_map hx
      split at h
      · rename_i es c hb
        cases h
        obtain ⟨res, hres, hen⟩ := map_at R hb hE
        refine ⟨_, { w with heap := w.heap.push (.mapIter (some e.blk) c #[] c) }, ?_, _, Env.ins_le R.nil, real_ptr_mk 0 (Env.ins_same _ _ _), R.newObj (.mapIter (some m) c [] c) _ (fun r hr => by cases hr) ⟨some e.blk, heap_push_new w _, e, Env.ins_le R.nil _ _ hE, rfl⟩⟩
        unfold Instr.range
        rw [bind_ok (run_underlying hd)]
        simp only
        rw [bind_ok (run_getObj hres (fun _ _ _ h => by cases h))]; rfl
      · cases h
    · cases h
  · cases h

def over : AV := .tuple [.bool false]
/-- The next entry, where there is just one way to go on. -/
def aNextMap (A : St) (it : AV) : Option (AV × St) :=
  match it with
  | .ptr b off => match off, b with
    | 0, 0 => none
    | 0, _ => match A.heap.at_ b with
      | some (.mapIter none _ _ _) => some (over, A)
      | some (.mapIter (some m) since seen last) => match A.heap.at_ m with
        | some (.map es clock) => match !seen.isEmpty && !es.isEmpty && es.all (fun e => decide (e.2.2 ≥ last)) with
          | true => none
          | false => match (es.filter fun e => !seen.contains e.2.2).filter (fun e => decide (e.2.2 < since)), (es.filter fun e => !seen.contains e.2.2).filter (fun e => decide (e.2.2 ≥ since)) with
            | [], [] => some (over, A)
            | [(k, v, n)], [] => some (.tuple [.bool true, k, v], { heap := A.heap.put b (.mapIter (some m) since (seen ++ [n]) clock), fams := A.fams, next := A.next })
            | _, _ => none
        | _ => none
      | _ => none
    | _, _ => none
  | _ => none
def mlink (E : Env) : Option Nat → Option Nat → Prop
  | none, m' => m' = none
  | some b, m' => ∃ e', E b = some e' ∧ m' = some e'.blk
theorem iter_at {G : Nat} {W0 : Base} {E : Env} {A : St} {w : World} (R : Rel G W0 E A w) {b : Nat} {m : Option Nat} {since last : Nat} {seen : List Nat} {e : Ent} (h : A.heap.at_ b = some (.mapIter m since seen last)) (hE : E b = some e) :
    ∃ m', w.heap[e.blk]? = some (.mapIter m' since seen.toArray last) ∧ mlink E m m' := by
  obtain ⟨e', he', m', h1, h2⟩ := R.objs b _ h (fun r hr => by cases hr)
  rw [hE] at he'; cases he'
  cases m with
  | none => exact ⟨m', h1, h2⟩
  | some b => exact ⟨m', h1, h2⟩
theorem aNextMap_ok {P : Program} {G : Nat} {W0 : Base} {E : Env} {A A' : St} {w : World} (R : Rel G W0 E A w) {ty : TypeId} {it v : AV} {it' : Value} (h : aNextMap A it = some (v, A')) (hi : real E it = some it') :
    ∃ y w', (Instr.next it' false ty).run P w = .ok y w' ∧ Good G W0 E A' v y w' := by
  unfold aNextMap at h
  split at h
  · rename_i b off
    obtain ⟨e, hE, rfl⟩ := real_ptr hi
    split at h
    · cases h
    · rename_i b0
      have hz : (0 : Nat) - e.sh = 0 := Nat.zero_sub _
      rw [hz]
      split at h
      · rename_i s1 s2 s3 hb
        obtain ⟨m', hobj, hm⟩ := iter_at R hb hE
        have hm : m' = none := hm
        subst hm
        cases h
        refine ⟨.tuple #[.bool false], w, ?_, E, E.le_refl, rfl, R⟩
        unfold Instr.next
        simp only
        rw [bind_ok (run_getObj hobj (fun _ _ _ h => by cases h))]; rfl
      · rename_i m since seen last hb
        obtain ⟨m', hobj, em, hEm, rfl⟩ := iter_at R hb hE
        split at h
        · rename_i es clock hmb
          obtain ⟨res, hres, hen⟩ := map_at R hmb hEm
          split at h
          · cases h
          · rename_i hchk
            have hlen := entry?_length hen
            have hchk' : (!seen.toArray.isEmpty && !res.isEmpty && res.all (fun x => decide (x.born ≥ last))) = false := by
              have h1 := entry?_all (fun n => decide (n ≥ last)) hen
              rw [Array.all_toList] at h1
              rw [h1]
              have h2 : res.isEmpty = es.isEmpty := by
                rw [← Array.isEmpty_toList]
                cases hrl : res.toList <;> cases es <;> first | rfl | (rw [hrl] at hlen; simp at hlen)
              rw [h2]
              have h3 : seen.toArray.isEmpty = seen.isEmpty := by cases seen <;> simp
              rw [h3]; exact hchk
            have hleft := entry?_filter (fun n => !seen.contains n) hen
            have hold := entry?_filter (fun n => decide (n < since)) hleft
            have hnew := entry?_filter (fun n => decide (n ≥ since)) hleft
            have hct : ∀ n : Nat, seen.toArray.contains n = seen.contains n := fun n => by simp
            have eold : (res.filter (fun x => !seen.toArray.contains x.born)).filter (fun x => decide (x.born < since)) = ((res.toList.filter fun e => !seen.contains e.born).filter fun e => decide (e.born < since)).toArray := by
              apply Array.ext'; simp only [Array.toList_filter, hct]
            have enew : (res.filter (fun x => !seen.toArray.contains x.born)).filter (fun x => decide (x.born ≥ since)) = ((res.toList.filter fun e => !seen.contains e.born).filter fun e => decide (e.born ≥ since)).toArray := by
              apply Array.ext'; simp only [Array.toList_filter, hct]
            split at h
            · rename_i ho hn
              rw [ho] at hold; rw [hn] at hnew
              simp only [entry?, Option.some.injEq] at hold hnew
              rw [← hold] at eold; rw [← hnew] at enew
              cases h
              refine ⟨.tuple #[.bool false], w, ?_, E, E.le_refl, rfl, R⟩
              unfold Instr.next
              simp only
              rw [bind_ok (run_getObj hobj (fun _ _ _ h => by cases h))]
              simp only
              rw [bind_ok (run_getObj hres (fun _ _ _ h => by cases h))]
              have c0 : ((if (#[] : Array MapEntry).isEmpty = true then #[none] else #[]) ++ Array.map some ((#[] : Array MapEntry) ++ #[])) = #[none] := by simp
              simp only [hchk', Bool.false_eq_true, if_false, eold, enew, c0]
              have hch : (choose (.mapNext 1)).run P w = .ok 0 w := rfl
              exact Eq.trans (bind_ok hch) rfl
            · rename_i k u n ho hn
              rw [ho] at hold; rw [hn] at hnew
              simp only [entry?, Option.some.injEq] at hnew
              unfold entry? at hold
              split at hold
              · rename_i k' u' es' hk hu hes
                simp only [entry?, Option.some.injEq] at hes
                subst hes
                simp only [Option.some.injEq] at hold
                rw [← hold] at eold; rw [← hnew] at enew
                cases h
                refine ⟨.tuple #[.bool true, k', u'], { w with heap := w.heap.setIfInBounds e.blk (.mapIter (some em.blk) since (seen.toArray.push n) clock) }, ?_, E, E.le_refl, real_tuple_mk (reals_mk rfl (reals_mk hk (reals_mk hu rfl))), ?_⟩
                · unfold Instr.next
                  simp only
                  rw [bind_ok (run_getObj hobj (fun _ _ _ h => by cases h))]
                  simp only
                  rw [bind_ok (run_getObj hres (fun _ _ _ h => by cases h))]
                  have c1 : ((if (#[({ key := k', val := u', born := n } : MapEntry)] : Array MapEntry).isEmpty = true then #[none] else #[]) ++ Array.map some (#[({ key := k', val := u', born := n } : MapEntry)] ++ #[])) = #[some { key := k', val := u', born := n }] := by simp
                  simp only [hchk', Bool.false_eq_true, if_false, eold, enew, c1]
                  have hch : (choose (.mapNext 1)).run P w = .ok 0 w := rfl
                  refine Eq.trans (bind_ok hch) ?_
                  refine Eq.trans (bind_ok (run_setObj hobj (fun _ _ _ h => by cases h))) ?_
                  rfl
                · refine R.object (.mapIter (some em.blk) since (seen.toArray.push n) clock) hb (fun r hr => by cases hr) (fun r hr => by cases hr) hE (by exact b0) (fun w' hw' => ⟨some em.blk, ?_, em, hEm, rfl⟩)
                  rw [hw']; simp
              · cases hold
            · cases h
        · cases h
      · cases h
    · cases h
  · cases h
def aEntry (A : St) (it : AV) : Option AV :=
  match it with
  | .ptr b off => match off with
    | 0 => match A.heap.at_ b with
      | some (.mapIter (some m) _ seen stepped) => match seen.getLast?, A.heap.at_ m with
        | some n, some (.map es clock) => if clock = stepped then
            match es.find? (fun e => e.2.2 == n) with
            | some (k, v, _) => some (.tuple [k, v])
            | none => none
          else none
        | _, _ => none
      | _ => none
    | _ => none
  | _ => none
theorem aEntry_ok {P : Program} {G : Nat} {W0 : Base} {E : Env} {A : St} {w : World} (R : Rel G W0 E A w) {it v : AV} {it' : Value} (h : aEntry A it = some v) (hi : real E it = some it') :
    ∃ y, (Instr.entry it').run P w = .ok y w ∧ real E v = some y := by
  unfold aEntry at h
  split at h
  · rename_i b off
    obtain ⟨e, hE, rfl⟩ := real_ptr hi
    split at h
    · have hz : (0 : Nat) - e.sh = 0 := Nat.zero_sub _
      rw [hz]
      split at h
      · rename_i m since seen stepped hb
        obtain ⟨m', hobj, em, hEm, rfl⟩ := iter_at R hb hE
        split at h
        · rename_i n es clock hlast hmb
          obtain ⟨res, hres, hen⟩ := map_at R hmb hEm
          split at h
          · rename_i hcl
            split at h
            · rename_i k u n' hf
              cases h
              obtain ⟨k', u', hk, hu, hfr⟩ := entry?_find (fun x => x == n) hen k u n' hf
              refine ⟨.tuple #[k', u'], ?_, real_tuple_mk (reals_mk hk (reals_mk hu rfl))⟩
              unfold Instr.entry
              simp only
              rw [bind_ok (run_getObj hobj (fun _ _ _ h => by cases h))]
              have hback : seen.toArray.back? = some n := by simpa using hlast
              simp only [hback]
              rw [bind_ok (run_getObj hres (fun _ _ _ h => by cases h))]
              have hne : (clock != stepped) = false := by simp [hcl]
              simp only [hne, Bool.false_eq_true, if_false]
              have hfr' : res.find? (fun e => e.born == n) = some { key := k', val := u', born := n' } := by rw [← Array.find?_toList]; exact hfr
              simp only [hfr']; rfl
            · cases h
          · cases h
        · cases h
      · cases h
    · cases h
  · cases h

end Go.Am
