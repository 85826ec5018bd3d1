/-
  THE ABSTRACT MACHINE, part 13: maps made, written, ranged over; strings ranged over; clear.
-/
import Derived.Test.YtenggpnmocbfoaaGreatAm12
namespace Go.Am
set_option linter.unusedSectionVars false
variable [Sig]

theorem run_setObj {P : Program} {w : World} {b : Nat} {o o' : Obj} (h : w.heap[b]? = some o) (hn : ∀ c t f, o ≠ .cells c t f) : (setObj b o').run P w = .ok () { w with heap := w.heap.setIfInBounds b o' } := by
  unfold setObj
  simp only [Sem.run, h]

def newObjA (A : St) (o : AB) : St := { heap := A.heap.put A.next o, fams := A.fams, next := A.next + 1 }
theorem Rel.newObj {G : Nat} {W0 : Base} {E : Env} {A : St} {w : World} (R : Rel G W0 E A w) (o : AB) (ob : Obj) (hno : ∀ r, o ≠ .row r)
    (hl : o.lies (E.ins A.next ⟨w.heap.size, 0, 0⟩) ⟨w.heap.size, 0, 0⟩ { w with heap := w.heap.push ob }) :
    Rel G W0 (E.ins A.next ⟨w.heap.size, 0, 0⟩) (newObjA A o) { w with heap := w.heap.push ob } :=
  R.push ob o A.fams 0 0 (fun _ _ => rfl) (fun r hr => absurd hr (hno r)) hl

def aMakeMap (P : Program) (A : St) (t : TypeId) (res : Option AV) : Option (AV × St) :=
  match res with
  | none => some (.map A.next, newObjA A (.map [] 0))
  | some (.int _ _) => match P.underlying t with
    | some (.map _ _) => some (.map A.next, newObjA A (.map [] 0))
    | _ => none
  | some _ => none
theorem aMakeMap_ok {P : Program} {G : Nat} {W0 : Base} {E : Env} {A A' : St} {w : World} (R : Rel G W0 E A w) {t : TypeId} {res : Option AV} {res' : Option Value} {v : AV} (h : aMakeMap P A t res = some (v, A')) (hr : bval E res res') :
    ∃ y w', (Instr.makeMap t res').run P w = .ok y w' ∧ Good G W0 E A' v y w' := by
  have fin : Good G W0 E (newObjA A (.map [] 0)) (.map A.next) (.map (some w.heap.size)) { w with heap := w.heap.push (.map #[] 0) } :=
    ⟨_, Env.ins_le R.nil, real_map_mk (Env.ins_same _ _ _), R.newObj (.map [] 0) (.map #[] 0) (fun r hr => by cases hr) ⟨#[], heap_push_new w _, rfl⟩⟩
  unfold aMakeMap at h
  split at h
  · cases h
    cases res' with
    | some _ => exact hr.elim
    | none => exact ⟨_, _, rfl, fin⟩
  · split at h
    · rename_i k e hd
      cases h
      cases res' with
      | none => exact hr.elim
      | some y =>
        have hy := real_int hr
        subst hy
        refine ⟨_, _, ?_, fin⟩
        unfold Instr.makeMap
        simp only
        rw [bind_ok (run_underlying hd)]; rfl
    · cases h
  · cases h

def modAt (es : List (AV × AV × Nat)) (i : Nat) (k v : AV) : List (AV × AV × Nat) :=
  match es, i with
  | [], _ => []
  | (_, _, b) :: es, 0 => (k, v, b) :: es
  | e :: es, i + 1 => e :: modAt es i k v
theorem entry?_get {E : Env} : ∀ {es : List (AV × AV × Nat)} {res : List MapEntry}, entry? E es = some res → ∀ (i : Nat) k v b, es[i]? = some (k, v, b) → ∃ k' v', real E k = some k' ∧ real E v = some v' ∧ res[i]? = some { key := k', val := v', born := b }
  | [], res, h, i, k, v, b, hi => by simp at hi
  | (k0, v0, b0) :: es, res, h, i, k, v, b, hi => by
    unfold entry? at h
    split at h
    · rename_i k' v' es' hk hv he
      cases h
      cases i with
      | zero => simp only [List.getElem?_cons_zero, Option.some.injEq, Prod.mk.injEq] at hi; obtain ⟨rfl, rfl, rfl⟩ := hi; exact ⟨k', v', hk, hv, rfl⟩
      | succ i => simp only [List.getElem?_cons_succ] at hi ⊢; exact entry?_get he i k v b hi
    · cases h
theorem entry?_mod {E : Env} {k v : AV} {k' v' : Value} (hk : real E k = some k') (hv : real E v = some v') : ∀ {es : List (AV × AV × Nat)} {res : List MapEntry} (i : Nat), entry? E es = some res → entry? E (modAt es i k v) = some (res.modify i fun e => { e with key := k', val := v' })
  | [], res, i, h => by simp only [entry?] at h; cases h; simp [modAt, entry?]
  | (k0, v0, b0) :: es, res, i, h => by
    unfold entry? at h
    split at h
    · rename_i k0' v0' es' hk0 hv0 he
      cases h
      cases i with
      | zero => simp only [modAt]; unfold entry?; rw [hk, hv, he]; rfl
      | succ i =>
        simp only [modAt]
        unfold entry?
        rw [hk0, hv0, entry?_mod hk hv i he]
        simp
    · cases h
theorem entry?_append {E : Env} : ∀ {es fs : List (AV × AV × Nat)} {res rfs : List MapEntry}, entry? E es = some res → entry? E fs = some rfs → entry? E (es ++ fs) = some (res ++ rfs)
  | [], fs, res, rfs, h, h' => by simp only [entry?] at h; cases h; exact h'
  | (k0, v0, b0) :: es, fs, res, rfs, h, h' => by
    unfold entry? at h
    split at h
    · rename_i k0' v0' es' hk0 hv0 he
      cases h
      show entry? E ((k0, v0, b0) :: (es ++ fs)) = _
      unfold entry?
      rw [hk0, hv0, entry?_append he h']; rfl
    · cases h
theorem entry?_erase {E : Env} : ∀ {es : List (AV × AV × Nat)} {res : List MapEntry} (i : Nat), entry? E es = some res → entry? E (es.eraseIdx i) = some (res.eraseIdx i)
  | [], res, i, h => by simp only [entry?] at h; cases h; rfl
  | (k0, v0, b0) :: es, res, i, h => by
    unfold entry? at h
    split at h
    · rename_i k0' v0' es' hk0 hv0 he
      cases h
      cases i with
      | zero => exact he
      | succ i =>
        simp only [List.eraseIdx_cons_succ]
        unfold entry?
        rw [hk0, hv0, entry?_erase i he]
    · cases h

theorem sameBits_real {E : Env} {a b : AV} {a' b' : Value} (h : keyEq a b = some true) (ha : real E a = some a') (hb : real E b = some b') : Instr.sameBits 10000 b' a' = true ∧ a' = b' := by
  unfold keyEq at h
  split at h
  · cases real_int ha; cases real_int hb
    split at h
    · rename_i k n k' m e
      subst e
      have : n = m := by simpa using h
      subst this
      exact ⟨by simp [Instr.sameBits], rfl⟩
    · cases h
  · cases real_str ha; cases real_str hb
    rename_i s r
    have : s = r := by simpa using h
    subst this
    refine ⟨?_, rfl⟩
    simp only [Instr.sameBits]
    rw [beq_toListBytes]; simp
  · cases h
theorem aFind_get {k : AV} : ∀ {es : List (AV × AV × Nat)} {i j : Nat} {v : AV}, aFind k es i = some (some (j, v)) → i ≤ j ∧ ∃ k2 b, es[j - i]? = some (k2, v, b) ∧ keyEq k k2 = some true
  | [], i, j, v, h => by simp [aFind] at h
  | (k2, v2, b2) :: es, i, j, v, h => by
    simp only [aFind] at h
    split at h
    · rename_i hq; cases h; exact ⟨Nat.le_refl _, k2, b2, by simp, hq⟩
    · obtain ⟨h1, k3, b3, h2, h3⟩ := aFind_get h
      refine ⟨by omega, k3, b3, ?_, h3⟩
      rw [show j - i = (j - (i + 1)) + 1 from by omega]; exact h2
    · cases h

def aMapUpdate (P : Program) (A : St) (t : TypeId) (m k v : AV) : Option St :=
  match P.underlying t with
  | some (.map kt _) => match m with
    | .map b => match b with
      | 0 => none
      | _ => match A.heap.at_ b with
        | some (.map es c) => match keyKind P kt k with
          | true => match aFind k es 0 with
            | some (some (i, _)) => some { heap := A.heap.put b (.map (modAt es i k v) c), fams := A.fams, next := A.next }
            | some none => some { heap := A.heap.put b (.map (es ++ [(k, v, c)]) (c + 1)), fams := A.fams, next := A.next }
            | none => none
          | false => none
        | _ => none
    | _ => none
  | _ => none
theorem aMapUpdate_ok {P : Program} {G : Nat} {W0 : Base} {E : Env} {A A' : St} {w : World} (R : Rel G W0 E A w) {t : TypeId} {m k v : AV} {m' k' v' : Value} (h : aMapUpdate P A t m k v = some A') (hm : real E m = some m') (hk : real E k = some k') (hv : real E v = some v') :
    ∃ w', (Instr.mapUpdate t m' k' v').run P w = .ok () w' ∧ Rel G W0 E A' w' := by
  unfold aMapUpdate at h
  split at h
  · rename_i kt et hd
    split at h
    · rename_i b
      obtain ⟨e, hE, rfl⟩ := real_map hm
      split at h
      · cases h
      · rename_i hb0
        split at h
        · rename_i es c hb
          obtain ⟨res, hres, hen⟩ := map_at R hb hE
          split at h
          · rename_i hkk
            split at h
            · rename_i i u hf
              cases h
              obtain ⟨o', hfr, x, hxr, rfl⟩ := run_findKey (w := w) hkk hk hf hen
              obtain ⟨_, k2, b2, hg, hq⟩ := aFind_get hf
              obtain ⟨k2', v2', hk2, hv2, hg2⟩ := entry?_get hen i k2 u b2 (by simpa using hg)
              obtain ⟨hsb, heq⟩ := sameBits_real hq hk hk2
              refine ⟨{ w with heap := w.heap.setIfInBounds e.blk (.map (res.modify i fun e => { e with key := k', val := v' }) c) }, ?_, R.object (.map (res.modify i fun e => { e with key := k', val := v' }) c) hb (fun r hr => by cases hr) (fun r hr => by cases hr) hE (by exact hb0) (fun w' hw' => ⟨_, hw', by rw [Array.toList_modify]; exact entry?_mod hk hv i hen⟩)⟩
              unfold Instr.mapUpdate
              rw [bind_ok (run_underlying hd)]
              simp only
              rw [bind_ok (run_getObj hres (fun _ _ _ h => by cases h))]
              simp only
              rw [bind_ok (run_checkKey hkk hk), bind_ok hfr]
              simp only
              have hg3 : res[i]? = some { key := k2', val := v2', born := b2 } := by simpa using hg2
              have hks : (Instr.keyThatStays (((res[i]?).map (·.key)).getD k') k').run P w = .ok k' w := by
                rw [hg3]
                unfold Instr.keyThatStays
                simp only [Option.map_some, Option.getD_some, hsb, if_true]; rfl
              rw [bind_ok hks, run_setObj hres (fun _ _ _ h => by cases h)]
            · rename_i hf
              cases h
              obtain ⟨o', hfr, rfl⟩ := run_findKey (w := w) hkk hk hf hen
              refine ⟨{ w with heap := w.heap.setIfInBounds e.blk (.map (res.push { key := k', val := v', born := c }) (c + 1)) }, ?_, R.object (.map (res.push { key := k', val := v', born := c }) (c + 1)) hb (fun r hr => by cases hr) (fun r hr => by cases hr) hE (by exact hb0) (fun w' hw' => ⟨_, hw', by rw [Array.toList_push]; exact entry?_append hen (by unfold entry?; rw [hk, hv]; rfl)⟩)⟩
              unfold Instr.mapUpdate
              rw [bind_ok (run_underlying hd)]
              simp only
              rw [bind_ok (run_getObj hres (fun _ _ _ h => by cases h))]
              simp only
              rw [bind_ok (run_checkKey hkk hk), bind_ok hfr]
              simp only
              rw [run_setObj hres (fun _ _ _ h => by cases h)]
            · cases h
          · cases h
        · cases h
    · cases h
  · cases h
def aDelete (P : Program) (A : St) (t : TypeId) (m k : AV) : Option St :=
  match P.underlying t with
  | some (.map kt _) => match keyKind P kt k with
    | true => match m with
      | .nilmap => some A
      | .map b => match b with
        | 0 => none
        | _ => match A.heap.at_ b with
          | some (.map es c) => match aFind k es 0 with
            | some (some (i, _)) => some { heap := A.heap.put b (.map (es.eraseIdx i) c), fams := A.fams, next := A.next }
            | some none => some A
            | none => none
          | _ => none
      | _ => none
    | false => none
  | _ => none
theorem aDelete_ok {P : Program} {G : Nat} {W0 : Base} {E : Env} {A A' : St} {w : World} (R : Rel G W0 E A w) {t t2 ty : TypeId} {m k : AV} {m' k' : Value} (h : aDelete P A t m k = some A') (hm : real E m = some m') (hk : real E k = some k') :
    ∃ w', (Builtin.delete_ #[t, t2] ty #[m', k']).run P w = .ok (.tuple #[]) w' ∧ Rel G W0 E A' w' := by
  unfold aDelete at h
  split at h
  · rename_i kt et hd
    split at h
    · rename_i hkk
      split at h
      · cases real_nilmap hm
        cases h
        refine ⟨w, ?_, R⟩
        unfold Builtin.delete_
        simp only [List.getElem?_toArray, List.getElem?_cons_zero, List.getElem?_cons_succ]
        rw [bind_ok (run_underlying hd)]
        simp only
        rw [bind_ok (run_checkKey hkk hk)]; rfl
      · rename_i b
        obtain ⟨e, hE, rfl⟩ := real_map hm
        split at h
        · cases h
        · rename_i hb0
          split at h
          · rename_i es c hb
            obtain ⟨res, hres, hen⟩ := map_at R hb hE
            split at h
            · rename_i i u hf
              cases h
              obtain ⟨o', hfr, x, hxr, rfl⟩ := run_findKey (w := w) hkk hk hf hen
              refine ⟨{ w with heap := w.heap.setIfInBounds e.blk (.map (res.eraseIdxIfInBounds i) c) }, ?_, R.object (.map (res.eraseIdxIfInBounds i) c) hb (fun r hr => by cases hr) (fun r hr => by cases hr) hE (by exact hb0) (fun w' hw' => ⟨_, hw', by rw [Array.toList_eraseIdxIfInBounds]; exact entry?_erase i hen⟩)⟩
              unfold Builtin.delete_
              simp only [List.getElem?_toArray, List.getElem?_cons_zero, List.getElem?_cons_succ]
              rw [bind_ok (run_underlying hd)]
              simp only
              rw [bind_ok (run_getObj hres (fun _ _ _ h => by cases h))]
              simp only
              rw [bind_ok (run_checkKey hkk hk), bind_ok hfr]
              simp only
              rw [bind_ok (run_setObj hres (fun _ _ _ h => by cases h))]; rfl
            · rename_i hf
              cases h
              obtain ⟨o', hfr, rfl⟩ := run_findKey (w := w) hkk hk hf hen
              refine ⟨w, ?_, R⟩
              unfold Builtin.delete_
              simp only [List.getElem?_toArray, List.getElem?_cons_zero, List.getElem?_cons_succ]
              rw [bind_ok (run_underlying hd)]
              simp only
              rw [bind_ok (run_getObj hres (fun _ _ _ h => by cases h))]
              simp only
              rw [bind_ok (run_checkKey hkk hk), bind_ok hfr]
              simp only
              rw [bind_ok (run_setObj hres (fun _ _ _ h => by cases h)), set_same _ _ _ hres]; rfl
            · cases h
          · cases h
      · cases h
    · cases h
  · cases h

end Go.Am
