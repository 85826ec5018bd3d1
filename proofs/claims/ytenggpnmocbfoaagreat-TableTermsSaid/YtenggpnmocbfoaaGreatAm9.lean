/-
  THE ABSTRACT MACHINE, part 9: strings cut, lengths, least and greatest, look-ups in maps, assertions.
-/
import Derived.Test.YtenggpnmocbfoaaGreatAm8
namespace Go.Am
set_option linter.unusedSectionVars false
variable [Sig]

/- A STRING IS CUT. -/
def bound? (d : Nat) (x : Option AV) : Option Nat :=
  match x with
  | none => some d
  | some (.int _ i) => if 0 ≤ i then some i.toNat else none
  | some _ => none
/-- the real operand of a bound -/
def bval (E : Env) (x : Option AV) (x' : Option Value) : Prop :=
  match x, x' with
  | none, none => True
  | some v, some y => real E v = some y
  | _, _ => False
theorem run_bound {P : Program} {E : Env} {w : World} {x : AV} {x' : Value} {n y : Nat} {code : BoundsCode} {d : Nat} (h : bound? d (some x) = some n) (hx : real E x = some x') (hy : n ≤ y) : (Instr.sliceBound x' y code).run P w = .ok n w := by
  unfold bound? at h
  split at h
  · rename_i e; cases e
  · rename_i k i e
    cases e
    split at h
    · rename_i h0
      cases h
      cases real_int hx
      exact run_sliceBound w k i y code h0 (by omega)
    · cases h
  · cases h
theorem run_bounds {P : Program} {E : Env} {w : World} {isSlice : Bool} {len cap : Nat} {lo hi : Option AV} {lo' hi' : Option Value} {l h : Nat} (hl : bound? 0 lo = some l) (hh : bound? len hi = some h) (vl : bval E lo lo') (vh : bval E hi hi')
    (h1 : l ≤ h) (h2 : h ≤ cap) : (Instr.sliceBounds isSlice len cap lo' hi' none).run P w = .ok (l, h, cap) w := by
  unfold Instr.sliceBounds
  rw [bind_ok (run_pure _)]
  cases hi with
  | none =>
    cases hi' with
    | some _ => exact vh.elim
    | none =>
      simp only [bound?] at hh
      cases hh
      simp only
      rw [bind_ok (run_pure _)]
      cases lo with
      | none =>
        cases lo' with
        | some _ => exact vl.elim
        | none => simp only [bound?] at hl; cases hl; rfl
      | some v =>
        cases lo' with
        | none => exact vl.elim
        | some y => simp only; rw [bind_ok (run_bound hl vl h1)]; rfl
  | some u =>
    cases hi' with
    | none => exact vh.elim
    | some z =>
      simp only
      rw [bind_ok (run_bound hh vh h2)]
      cases lo with
      | none =>
        cases lo' with
        | some _ => exact vl.elim
        | none => simp only [bound?] at hl; cases hl; rfl
      | some v =>
        cases lo' with
        | none => exact vl.elim
        | some y => simp only; rw [bind_ok (run_bound hl vl h1)]; rfl
def aSliceStr (P : Program) (t : TypeId) (s : List UInt8) (lo hi : Option AV) : Option AV :=
  match P.underlying t with
  | some .string => match bound? 0 lo, bound? s.length hi with
    | some l, some h => match Nat.ble l h, Nat.ble h s.length with
      | true, true => some (.str ((s.take h).drop l))
      | _, _ => none
    | _, _ => none
  | _ => none
theorem extract_mk (s : List UInt8) (l h : Nat) : (ByteArray.mk ⟨s⟩).extract l h = ByteArray.mk ⟨(s.take h).drop l⟩ := by
  apply ByteArray.ext
  apply Array.ext'
  simp only [ByteArray.data_extract, Array.toList_extract, List.extract_eq_take_drop]
  rw [List.drop_take]
theorem aSliceStr_ok {P : Program} {E : Env} {w : World} {t : TypeId} {s : List UInt8} {lo hi : Option AV} {lo' hi' : Option Value} {v : AV} (h : aSliceStr P t s lo hi = some v) (vl : bval E lo lo') (vh : bval E hi hi') :
    ∃ y, (Instr.sliceAt t (.string ⟨⟨s⟩⟩) lo' hi' none).run P w = .ok y w ∧ real E v = some y := by
  unfold aSliceStr at h
  split at h
  · rename_i hd
    split at h
    · rename_i l hh hl hh'
      split at h
      · rename_i h1 h2
        cases h
        have h1 := Nat.le_of_ble_eq_true h1
        have h2 := Nat.le_of_ble_eq_true h2
        refine ⟨_, ?_, rfl⟩
        rw [run_sliceAt_string w t _ _ _ _ hd]
        unfold Instr.slice
        rw [bind_ok (run_underlying hd)]
        simp only [Option.isSome_none, Bool.false_eq_true, if_false]
        have := run_bounds (P := P) (w := w) (isSlice := false) (cap := s.length) hl hh' vl vh h1 h2
        have hs : (ByteArray.mk ⟨s⟩).size = s.length := rfl
        rw [hs, bind_ok this]
        show Result.ok (Value.string ((ByteArray.mk ⟨s⟩).extract l hh)) w = _
        rw [extract_mk]
      · cases h
    · cases h
  · cases h

/- LENGTHS. -/
def aLen (P : Program) (A : St) (t : TypeId) (x : AV) : Option AV :=
  match P.underlying t with
  | some (.array n _) => some (.int .i64 n)
  | some .string => match x with | .str s => some (.int .i64 s.length) | _ => none
  | some (.slice _) => match x with | .slice _ _ len _ => some (.int .i64 len) | .nilslice => some (.int .i64 0) | _ => none
  | some (.map _ _) => match x with
    | .nilmap => some (.int .i64 0)
    | .map b => match A.heap.at_ b with | some (.map es _) => some (.int .i64 es.length) | _ => none
    | _ => none
  | some (.pointer arr) => match P.underlying arr with | some (.array n _) => some (.int .i64 n) | _ => none
  | _ => none
def aCap (P : Program) (t : TypeId) (x : AV) : Option AV :=
  match P.underlying t with
  | some (.slice _) => match x with | .nilslice => some (.int .i64 0) | _ => none
  | _ => none
theorem aCap_ok {P : Program} {E : Env} {w : World} {t ty : TypeId} {x v : AV} {x' : Value} (h : aCap P t x = some v) (hx : real E x = some x') :
    ∃ y, (Builtin.cap_ #[t] ty #[x']).run P w = .ok y w ∧ real E v = some y := by
  unfold aCap at h
  split at h
  · rename_i el hd
    split at h
    · cases real_nilslice hx
      cases h
      refine ⟨_, ?_, rfl⟩
      unfold Builtin.cap_
      simp only [List.getElem?_toArray, List.getElem?_cons_zero]
      rw [bind_ok (run_underlying hd)]; rfl
    · cases h
  · cases h
theorem entry?_length {E : Env} : ∀ {es : List (AV × AV × Nat)} {res : List MapEntry}, entry? E es = some res → res.length = es.length
  | [], res, h => by simp only [entry?] at h; cases h; rfl
  | (k, v, b) :: es, res, h => by
    unfold entry? at h
    split at h
    · rename_i k' v' es' hk hv he; cases h; simp [entry?_length he]
    · cases h
theorem map_at {G : Nat} {W0 : Base} {E : Env} {A : St} {w : World} (R : Rel G W0 E A w) {b : Nat} {es : List (AV × AV × Nat)} {c : Nat} {e : Ent} (h : A.heap.at_ b = some (.map es c)) (hE : E b = some e) :
    ∃ res, w.heap[e.blk]? = some (.map res c) ∧ entry? E es = some res.toList := by
  obtain ⟨e', he', hl⟩ := R.objs b _ h (fun r hr => by cases hr)
  rw [hE] at he'; cases he'; exact hl
theorem run_getObj {P : Program} {w : World} {b : Nat} {o : Obj} (h : w.heap[b]? = some o) (hn : ∀ c t f, o ≠ .cells c t f) : (getObj b).run P w = .ok o w := by
  unfold getObj
  simp only [Sem.run, h]
theorem aLen_ok {P : Program} {G : Nat} {W0 : Base} {E : Env} {A : St} {w : World} (R : Rel G W0 E A w) {t ty : TypeId} {x v : AV} {x' : Value} (h : aLen P A t x = some v) (hx : real E x = some x') :
    ∃ y, (Builtin.len_ #[t] ty #[x']).run P w = .ok y w ∧ real E v = some y := by
  unfold aLen at h
  split at h
  · rename_i n el hd
    cases h
    refine ⟨_, ?_, rfl⟩
    unfold Builtin.len_
    simp only [List.getElem?_toArray, List.getElem?_cons_zero]
    rw [bind_ok (run_underlying hd)]; rfl
  · rename_i hd
    split at h
    · rename_i s
      cases real_str hx
      cases h
      refine ⟨_, ?_, rfl⟩
      unfold Builtin.len_
      simp only [List.getElem?_toArray, List.getElem?_cons_zero]
      rw [bind_ok (run_underlying hd)]; rfl
    · cases h
  · rename_i el hd
    split at h
    · obtain ⟨e, hE, rfl⟩ := real_slice hx
      cases h
      refine ⟨_, ?_, rfl⟩
      unfold Builtin.len_
      simp only [List.getElem?_toArray, List.getElem?_cons_zero]
      rw [bind_ok (run_underlying hd)]; rfl
    · cases real_nilslice hx
      cases h
      refine ⟨_, ?_, rfl⟩
      unfold Builtin.len_
      simp only [List.getElem?_toArray, List.getElem?_cons_zero]
      rw [bind_ok (run_underlying hd)]; rfl
    · cases h
  · rename_i k el hd
    split at h
    · cases real_nilmap hx
      cases h
      refine ⟨_, ?_, rfl⟩
      unfold Builtin.len_
      simp only [List.getElem?_toArray, List.getElem?_cons_zero]
      rw [bind_ok (run_underlying hd)]; rfl
    · obtain ⟨e, hE, rfl⟩ := real_map hx
      split at h
      · rename_i es c hb
        cases h
        obtain ⟨res, hres, hen⟩ := map_at R hb hE
        refine ⟨_, ?_, rfl⟩
        unfold Builtin.len_
        simp only [List.getElem?_toArray, List.getElem?_cons_zero]
        rw [bind_ok (run_underlying hd)]
        simp only
        rw [bind_ok (run_getObj hres (fun _ _ _ h => by cases h))]
        have := entry?_length hen
        simp only [Array.length_toList] at this
        show Result.ok (goInt res.size) w = _
        rw [this]; rfl
      · cases h
    · cases h
  · rename_i arr hd
    split at h
    · rename_i n el ha
      cases h
      refine ⟨_, ?_, rfl⟩
      unfold Builtin.len_
      simp only [List.getElem?_toArray, List.getElem?_cons_zero]
      rw [bind_ok (run_underlying hd)]
      cases x' <;> (simp only; rw [bind_ok (run_underlying ha)]; rfl)
    · cases h
  · cases h

/- LEAST, GREATEST (of whole numbers). -/
def aFoldInt (great : Bool) (k : IntKind) : Int → List AV → Option AV
  | a, [] => some (.int k a)
  | a, .int _ b :: rest => aFoldInt great k (match great with | true => (if b > a then b else a) | false => (if b < a then b else a)) rest
  | _, _ => none
def aMinMax (great : Bool) (l : List AV) : Option AV :=
  match l with
  | .int k a :: rest => aFoldInt great k a rest
  | _ => none
theorem aFoldInt_ok {P : Program} {E : Env} {w : World} {great : Bool} {k : IntKind} : ∀ (l : List AV) (a : Int) (v : AV) (xs : List Value), aFoldInt great k a l = some v → reals E l = some xs →
    ∃ y, (xs.foldlM (if great then Builtin.max2 else Builtin.min2) (.int k a)).run P w = .ok y w ∧ real E v = some y
  | [], a, v, xs, h, hr => by simp only [reals, Option.some.injEq] at hr; subst hr; simp only [aFoldInt] at h; cases h; exact ⟨_, rfl, rfl⟩
  | u :: us, a, v, xs, h, hr => by
    obtain ⟨y, ys, rfl, hy, hys⟩ := reals_cons hr
    cases u <;> simp only [aFoldInt] at h <;> try (cases h; done)
    rename_i k' b
    cases real_int hy
    obtain ⟨z, hz, hrz⟩ := aFoldInt_ok us _ v ys h hys
    refine ⟨z, ?_, hrz⟩
    rw [List.foldlM_cons]
    cases great with
    | true =>
      simp only [if_true] at hz ⊢
      rw [bind_ok (a := .int k (if b > a then b else a)) rfl]; exact hz
    | false =>
      simp only [Bool.false_eq_true, if_false] at hz ⊢
      rw [bind_ok (a := .int k (if b < a then b else a)) rfl]; exact hz
theorem aMinMax_ok {P : Program} {E : Env} {w : World} {great : Bool} {l : List AV} {v : AV} {xs : Array Value} {ts : Array TypeId} {ty : TypeId} (h : aMinMax great l = some v) (hr : reals E l = some xs.toList) :
    ∃ y, (if great then Builtin.max_ ts ty xs else Builtin.min_ ts ty xs).run P w = .ok y w ∧ real E v = some y := by
  unfold aMinMax at h
  split at h
  · obtain ⟨y, ys, e, hy, hys⟩ := reals_cons hr
    cases real_int hy
    obtain ⟨z, hz, hrz⟩ := aFoldInt_ok (P := P) (w := w) _ _ v ys h hys
    refine ⟨z, ?_, hrz⟩
    cases great with
    | true => simp only [if_true] at hz ⊢; unfold Builtin.max_; rw [e]; exact hz
    | false => simp only [Bool.false_eq_true, if_false] at hz ⊢; unfold Builtin.min_; rw [e]; exact hz
  · cases h

/- MAPS: a key is looked for. -/
def keyKind (P : Program) (t : TypeId) (k : AV) : Bool :=
  match k with
  | .int _ _ => match P.underlying t with | some (.int _) => true | _ => false
  | .str _ => match P.underlying t with | some .string => true | _ => false
  | _ => false
def keyEq (a b : AV) : Option Bool :=
  match a, b with
  | .int k n, .int k' m => if k = k' then some (n == m) else none
  | .str s, .str r => some (s == r)
  | _, _ => none
def aFind (k : AV) : List (AV × AV × Nat) → Nat → Option (Option (Nat × AV))
  | [], _ => some none
  | (k', v, _) :: es, i => match keyEq k k' with
    | some true => some (some (i, v))
    | some false => aFind k es (i + 1)
    | none => none
theorem keyEq_ok {P : Program} {E : Env} {t : TypeId} {d : TypeDesc} {a b : AV} {a' b' : Value} {r : Bool} (hk : keyKind P t a = true) (hd : P.underlying t = some d) (h : keyEq a b = some r) (ha : real E a = some a') (hb : real E b = some b') :
    Instr.sameNow d a' b' = some r := by
  unfold keyEq at h
  split at h
  · cases real_int ha; cases real_int hb
    simp only [keyKind, hd] at hk
    split at hk
    · rename_i e; cases e
      simp only [Instr.sameNow]
      split at h
      · rename_i e; cases h; rw [if_pos e]
      · cases h
    · cases hk
  · cases real_str ha; cases real_str hb
    simp only [keyKind, hd] at hk
    split at hk
    · rename_i e; cases e
      cases h
      simp only [Instr.sameNow]
      rw [beq_toListBytes, toList_mk, toList_mk]
    · cases hk
  · cases h
theorem aFind_ok {P : Program} {E : Env} {t : TypeId} {d : TypeDesc} {k : AV} {k' : Value} (hk : keyKind P t k = true) (hd : P.underlying t = some d) (hr : real E k = some k') :
    ∀ (es : List (AV × AV × Nat)) (res : List MapEntry) (i : Nat) (o : Option (Nat × AV)), aFind k es i = some o → entry? E es = some res →
      (match o with
       | none => Instr.findNow d k' res i = some none
       | some (j, v) => ∃ x, real E v = some x ∧ Instr.findNow d k' res i = some (some (j, x)))
  | [], res, i, o, h, he => by simp only [entry?] at he; cases he; simp only [aFind] at h; cases h; rfl
  | (k2, v, b) :: es, res, i, o, h, he => by
    unfold entry? at he
    split at he
    · rename_i k2' v' es' hk2 hv hes
      cases he
      simp only [aFind] at h
      split at h
      · rename_i hq
        cases h
        have := keyEq_ok hk hd hq hr hk2
        exact ⟨v', hv, by simp only [Instr.findNow, this]⟩
      · rename_i hq
        have := keyEq_ok hk hd hq hr hk2
        have ih := aFind_ok hk hd hr es es' (i + 1) o h hes
        cases o with
        | none => simp only [Instr.findNow, this]; exact ih
        | some p => obtain ⟨j, u⟩ := p; simp only [Instr.findNow, this]; exact ih
      · cases h
    · cases he
theorem run_checkKey {P : Program} {E : Env} {w : World} {t : TypeId} {k : AV} {k' : Value} {b : Bool} (hk : keyKind P t k = true) (hr : real E k = some k') : (Instr.checkKey b 10000 t k').run P w = .ok () w := by
  unfold keyKind at hk
  split at hk
  · cases real_int hr
    split at hk
    · rename_i hd
      show (Instr.checkKey b (9999 + 1) t _).run P w = _
      unfold Instr.checkKey
      rw [bind_ok (run_underlying hd)]; rfl
    · cases hk
  · cases real_str hr
    split at hk
    · rename_i hd
      show (Instr.checkKey b (9999 + 1) t _).run P w = _
      unfold Instr.checkKey
      rw [bind_ok (run_underlying hd)]; rfl
    · cases hk
  · cases hk
theorem run_findKey {P : Program} {E : Env} {w : World} {t : TypeId} {k : AV} {k' : Value} {es : List (AV × AV × Nat)} {res : List MapEntry} {o : Option (Nat × AV)} (hk : keyKind P t k = true) (hr : real E k = some k') (h : aFind k es 0 = some o) (he : entry? E es = some res) :
    ∃ o', (Instr.findKey t k' res).run P w = .ok o' w ∧ (match o with | none => o' = none | some (j, v) => ∃ x, real E v = some x ∧ o' = some (j, x)) := by
  have hd : ∃ d, P.underlying t = some d := by
    unfold keyKind at hk
    split at hk
    · split at hk
      · rename_i hd; exact ⟨_, hd⟩
      · cases hk
    · split at hk
      · rename_i hd; exact ⟨_, hd⟩
      · cases hk
    · cases hk
  obtain ⟨d, hd⟩ := hd
  have := aFind_ok hk hd hr es res 0 o h he
  unfold Instr.findKey
  cases o with
  | none => exact ⟨none, by rw [bind_ok (run_underlying hd), this]; rfl, rfl⟩
  | some p =>
    obtain ⟨j, v⟩ := p
    obtain ⟨x, hx, hf⟩ := this
    exact ⟨some (j, x), by rw [bind_ok (run_underlying hd), hf]; rfl, x, hx, rfl⟩
def aZero (P : Program) (t : TypeId) : Option AV :=
  match P.info? t with
  | some i => match i.zero with
    | some z => ofValue z
    | none => none
  | none => none
theorem aZero_ok {P : Program} (E : Env) {w : World} {t : TypeId} {v : AV} (h : aZero P t = some v) : ∃ z, (zeroValue t).run P w = .ok z w ∧ real E v = some z := by
  unfold aZero at h
  split at h
  · rename_i i hi
    split at h
    · rename_i z hz; exact ⟨z, run_zeroValue hi hz, ofValue_ok E z v h⟩
    · cases h
  · cases h
def mapEntries (A : St) (x : AV) : Option (List (AV × AV × Nat)) :=
  match x with
  | .nilmap => some []
  | .map b => match A.heap.at_ b with | some (.map es _) => some es | _ => none
  | _ => none
def aLookup (P : Program) (A : St) (t : TypeId) (x k : AV) (ok : Bool) : Option AV :=
  match P.underlying t with
  | some (.map kt et) => match mapEntries A x with
    | some es => match keyKind P kt k with
      | true => match aFind k es 0 with
        | some (some (_, v)) => match ok with | true => some (.tuple [v, .bool true]) | false => some v
        | some none => match aZero P et with
          | some z => match ok with | true => some (.tuple [z, .bool false]) | false => some z
          | none => none
        | none => none
      | false => none
    | none => none
  | _ => none
theorem aLookup_ok {P : Program} {G : Nat} {W0 : Base} {E : Env} {A : St} {w : World} (R : Rel G W0 E A w) {t : TypeId} {x k v : AV} {ok : Bool} {x' k' : Value} (h : aLookup P A t x k ok = some v) (hx : real E x = some x') (hk : real E k = some k') :
    ∃ y, (Instr.lookup t x' k' ok).run P w = .ok y w ∧ real E v = some y := by
  unfold aLookup at h
  split at h
  · rename_i kt et hd
    split at h
    · rename_i es hes
      split at h
      · rename_i hkk
        have fin : ∀ res : Array MapEntry, entry? E es = some res.toList → ∃ y, ((do
            Instr.checkKey res.isEmpty 10000 kt k'
            let (v, ok') ← match ← Instr.findKey kt k' res.toList with
              | some (_, v) => pure (v, true)
              | none => pure (← zeroValue et, false)
            pure (if ok then Value.tuple #[v, .bool ok'] else v)) : Sem Value).run P w = .ok y w ∧ real E v = some y := by
          intro res hen
          rw [bind_ok (run_checkKey hkk hk)]
          split at h
          · rename_i j u ho
            obtain ⟨o', hf, x, hxr, rfl⟩ := run_findKey (w := w) hkk hk ho hen
            rw [bind_ok hf]
            cases ok with
            | true => cases h; exact ⟨_, rfl, real_tuple_mk (reals_mk hxr (reals_mk rfl rfl))⟩
            | false => cases h; exact ⟨_, rfl, hxr⟩
          · rename_i ho
            obtain ⟨o', hf, rfl⟩ := run_findKey (w := w) hkk hk ho hen
            rw [bind_ok hf]
            split at h
            · rename_i z hz
              obtain ⟨zv, hzr, hzz⟩ := aZero_ok (P := P) E (w := w) hz
              simp only
              rw [bind_ok hzr]
              cases ok with
              | true => cases h; exact ⟨_, rfl, real_tuple_mk (reals_mk hzz (reals_mk rfl rfl))⟩
              | false => cases h; exact ⟨_, rfl, hzz⟩
            · cases h
          · cases h
        unfold Instr.lookup
        rw [bind_ok (run_underlying hd)]
        unfold mapEntries at hes
        split at hes
        · cases real_nilmap hx
          cases hes
          exact fin #[] rfl
        · obtain ⟨e, hE, rfl⟩ := real_map hx
          split at hes
          · rename_i hb
            cases hes
            obtain ⟨res, hres, hen⟩ := map_at R hb hE
            simp only
            rw [bind_ok (run_getObj hres (fun _ _ _ h => by cases h))]
            exact fin res hen
          · cases hes
        · cases hes
      · cases h
    · cases h
  · cases h

/- ASSERTIONS. -/
def aAssert (P : Program) (x : AV) (asserted : TypeId) (ok : Bool) : Option AV :=
  match P.underlying asserted with
  | some (.interface want) => match x with
    | .iface t _ => match P.info? t with
      | some i => match Instr.missingMethod want i.methods with
        | none => match ok with | true => some (.tuple [x, .bool true]) | false => some x
        | some _ => match ok with
          | true => match aZero P asserted with | some z => some (.tuple [z, .bool false]) | none => none
          | false => none
      | none => none
    | .nilIface => match ok with
      | true => match aZero P asserted with | some z => some (.tuple [z, .bool false]) | none => none
      | false => none
    | _ => none
  | some _ => match x with
    | .iface t v => if t = asserted then (match ok with | true => some (.tuple [v, .bool true]) | false => some v)
      else match ok with
        | true => match aZero P asserted with | some z => some (.tuple [z, .bool false]) | none => none
        | false => none
    | .nilIface => match ok with
      | true => match aZero P asserted with | some z => some (.tuple [z, .bool false]) | none => none
      | false => none
    | _ => none
  | none => none
theorem aAssert_ok {P : Program} {E : Env} {w : World} {xt t : TypeId} {x v : AV} {ok : Bool} {x' : Value} (h : aAssert P x t ok = some v) (hx : real E x = some x') :
    ∃ y, (Instr.typeAssert x' xt t ok).run P w = .ok y w ∧ real E v = some y := by
  have zero : ∀ {z : AV}, aZero P t = some z → ∃ y, (do pure (Value.tuple #[← zeroValue t, .bool false]) : Sem Value).run P w = .ok y w ∧ real E (.tuple [z, .bool false]) = some y := by
    intro z hz
    obtain ⟨zv, hzr, hzz⟩ := aZero_ok (P := P) E (w := w) hz
    exact ⟨_, by rw [bind_ok hzr]; rfl, real_tuple_mk (reals_mk hzz (reals_mk rfl rfl))⟩
  unfold aAssert at h
  split at h
  · rename_i want hd
    split at h
    · rename_i u b
      obtain ⟨y, hy, rfl⟩ := real_iface hx
      split at h
      · rename_i i hi
        split at h
        · rename_i hm
          unfold Instr.typeAssert
          rw [bind_ok (run_underlying hd)]
          simp only
          rw [bind_ok (run_typeInfo hi)]
          simp only [hm]
          cases ok with
          | true => cases h; exact ⟨_, rfl, real_tuple_mk (reals_mk hx (reals_mk rfl rfl))⟩
          | false => cases h; exact ⟨_, rfl, hx⟩
        · rename_i m hm
          cases ok with
          | false => cases h
          | true =>
            simp only at h
            split at h
            · rename_i z hz
              cases h
              unfold Instr.typeAssert
              rw [bind_ok (run_underlying hd)]
              simp only
              rw [bind_ok (run_typeInfo hi)]
              simp only [hm]
              exact zero hz
            · cases h
      · cases h
    · cases real_nilIface hx
      cases ok with
      | false => cases h
      | true =>
        simp only at h
        split at h
        · rename_i z hz
          cases h
          unfold Instr.typeAssert
          rw [bind_ok (run_underlying hd)]
          exact zero hz
        · cases h
    · cases h
  · rename_i d hni hd
    split at h
    · rename_i u b
      obtain ⟨y, hy, rfl⟩ := real_iface hx
      split at h
      · rename_i hu
        unfold Instr.typeAssert
        rw [bind_ok (run_underlying hd)]
        cases d <;> first
          | exact (hni _ rfl).elim
          | (simp only [if_pos hu]
             cases ok with
             | true => cases h; exact ⟨_, rfl, real_tuple_mk (reals_mk hy (reals_mk rfl rfl))⟩
             | false => cases h; exact ⟨_, rfl, hy⟩)
      · rename_i hu
        cases ok with
        | false => cases h
        | true =>
          simp only at h
          split at h
          · rename_i z hz
            cases h
            unfold Instr.typeAssert
            rw [bind_ok (run_underlying hd)]
            cases d <;> first
              | exact (hni _ rfl).elim
              | (simp only [if_neg hu]; exact zero hz)
          · cases h
    · cases real_nilIface hx
      cases ok with
      | false => cases h
      | true =>
        simp only at h
        split at h
        · rename_i z hz
          cases h
          unfold Instr.typeAssert
          rw [bind_ok (run_underlying hd)]
          cases d <;> first
            | exact (hni _ rfl).elim
            | exact zero hz
        · cases h
    · cases h
  · cases h

end Go.Am
