/-
  THE ABSTRACT MACHINE, part 17: one operation, and the model's.
-/
import Derived.Test.YtenggpnmocbfoaaGreatAm16
namespace Go.Am
set_option linter.unusedSectionVars false
variable [Sig]

section
variable {P : Program} {W0 : Base} {E : Env} {A : St} {w : World} {ρ : PT AV} {a : Act}

theorem meets_ofC {G : Nat} (R : Rel G W0 E A w) {s d : TypeId} {v : AV} {x : Value} (hx : real E v = some x) :
    (ofC P A s d v).meets G W0 E w ((do pure (Next.value (← convert s d x)) : Sem Next).run P w) := by
  have gen : (ofP (aConvert P A s d v)).meets G W0 E w ((do pure (Next.value (← convert s d x)) : Sem Next).run P w) := meets_P fun u hu => aConvert_ok R hu hx
  unfold ofC
  split
  · split
    · cases real_str hx
      exact meets_E fun u A' hu => aStrBytes_ok R hu
    · exact gen
  · exact gen

theorem aMM_ok (C : Cfg P) {great : Bool} {l : List AV} {v : AV} {xs : Array Value} {ts : Array TypeId} {ty : TypeId} (h : aMM C great l = some v) (hr : reals E l = some xs.toList) :
    ∃ y, (if great then Builtin.max_ ts ty xs else Builtin.min_ ts ty xs).run P w = .ok y w ∧ real E v = some y := by
  unfold aMM at h
  split at h
  · rename_i r hm; cases h; exact aMinMax_ok hm hr
  · exact C.hmm _ _ _ h E xs w ts ty hr
theorem aBin2_ok (C : Cfg P) {G : Nat} (R : Rel G W0 E A w) {op : BinOp} {t : TypeId} {xo yo : Operand} {x y v : AV} {x' y' : Value}
    (h : aBin2 C A op t xo yo x y = some v) (hx : real E x = some x') (hy : real E y = some y') :
    ∃ z, ((do eqGuard op t xo yo x' y'; binOp op t x' y') : Sem Value).run P w = .ok z w ∧ real E v = some z := by
  unfold aBin2 at h
  split at h
  · rename_i r hm; cases h; exact aBin_ok R hm hx hy
  · exact C.hbin _ _ _ _ _ h E x' y' w xo yo hx hy
theorem meets_builtin (C : Cfg P) {G : Nat} (R : Rel G W0 E A w) {b : Builtin} {ts : Array TypeId} {ty : TypeId} {cs : Array Bool} {args : List AV} {xs : List Value} (hx : reals E args = some xs) :
    (aBuiltin C A b ts.toList args).meets G W0 E w ((builtin b ts ty cs xs.toArray).run P w) := by
  have two : ∀ {u v : AV}, args = [u, v] → ∃ x y, xs = [x, y] ∧ real E u = some x ∧ real E v = some y := by
    intro u v h; subst h
    obtain ⟨x, ys, rfl, h1, h2⟩ := reals_cons hx
    obtain ⟨y, zs, rfl, h3, h4⟩ := reals_cons h2
    simp only [reals, Option.some.injEq] at h4; subst h4
    exact ⟨x, y, rfl, h1, h3⟩
  have one : ∀ {u : AV}, args = [u] → ∃ x, xs = [x] ∧ real E u = some x := by
    intro u h; subst h
    obtain ⟨x, ys, rfl, h1, h2⟩ := reals_cons hx
    simp only [reals, Option.some.injEq] at h2; subst h2
    exact ⟨x, rfl, h1⟩
  obtain ⟨tl⟩ := ts
  cases b <;> simp only [aBuiltin] <;> try trivial
  case append =>
    split
    · rename_i t t2 s x
      obtain ⟨s', x', rfl, hs, hx'⟩ := two rfl
      exact meets_E fun v A' hv => aAppend_ok R hv hs hx'
    · trivial
  case cap =>
    split
    · rename_i t x
      obtain ⟨x', rfl, hx'⟩ := one rfl
      exact meets_P fun v hv => aCap_ok hv hx'
    · trivial
  case clear =>
    split
    · rename_i t x
      obtain ⟨x', rfl, hx'⟩ := one rfl
      cases hc : aClear P A t x with
      | none => trivial
      | some A' =>
        obtain ⟨w', h1, h2⟩ := aClear_ok (ty := ty) R hc hx'
        exact ⟨.tuple #[], w', Or.inl (run_value h1), E, E.le_refl, rfl, h2⟩
    · trivial
  case copy =>
    split
    · rename_i t t2 d s
      obtain ⟨d', s', rfl, hd, hs⟩ := two rfl
      exact meets_E fun v A' hv => aCopy_ok R hv hd hs
    · trivial
  case delete =>
    split
    · rename_i t t2 m k
      obtain ⟨m', k', rfl, hm, hk⟩ := two rfl
      cases hc : aDelete P A t m k with
      | none => trivial
      | some A' =>
        obtain ⟨w', h1, h2⟩ := aDelete_ok (t2 := t2) (ty := ty) R hc hm hk
        exact ⟨.tuple #[], w', Or.inl (run_value h1), E, E.le_refl, rfl, h2⟩
    · trivial
  case len =>
    split
    · rename_i t x
      obtain ⟨x', rfl, hx'⟩ := one rfl
      exact meets_P fun v hv => aLen_ok R hv hx'
    · trivial
  case max => exact meets_P fun v hv => aMM_ok C (great := true) (ts := ⟨tl⟩) (ty := ty) hv hx
  case min => exact meets_P fun v hv => aMM_ok C (great := false) (ts := ⟨tl⟩) (ty := ty) hv hx
  case unsafeSliceData =>
    split
    · obtain ⟨x', rfl, hx'⟩ := one rfl
      exact meets_P fun v hv => aSliceData_ok R hv hx'
    · trivial
  case unsafeString =>
    split
    · rename_i t t2 p n
      obtain ⟨p', n', rfl, hp, hn⟩ := two rfl
      exact meets_E fun v A' hv => aUnsafeString_ok R hv hp hn
    · trivial

theorem exec_ok (C : Cfg P) (R : Rel C.G W0 E A w) (o : Oper) (T : ∀ x ∈ o.op.operands.toList, ∀ v, evalO C.G ρ x = some v → real E v = some (a.eval x)) : (exec C A ρ o.op).meets C.G W0 E w ((execOp a.eval o).run P w) := by
  obtain ⟨dst, op, type, pos, after, guard⟩ := o
  have val : ∀ x, x ∈ op.operands.toList → (ofP (evalO C.G ρ x)).meets C.G W0 E w (Result.ok (.value (a.eval x)) w) := fun x hx => by
    cases h : evalO C.G ρ x with
    | none => trivial
    | some v => exact ⟨_, rfl, T x hx v h⟩
  simp only at T
  cases op <;> simp only [exec] <;> try trivial
  case move x => exact val x (by simp [Op.operands, Call.operands])
  case assign x => exact val x (by simp [Op.operands, Call.operands])
  case pick c x y =>
    split
    · rename_i hc
      have hb := real_bool (T _ (by simp [Op.operands, Call.operands]) _ hc)
      have : (execOp a.eval ⟨dst, .pick c x y, type, pos, after, guard⟩).run P w = .ok (.value (a.eval x)) w := by
        unfold execOp
        simp only [hb]
        have : (asBool (.bool true)).run P w = .ok true w := rfl
        rw [bind_ok this]; rfl
      rw [this]; exact val x (by simp [Op.operands, Call.operands])
    · rename_i hc
      have hb := real_bool (T _ (by simp [Op.operands, Call.operands]) _ hc)
      have : (execOp a.eval ⟨dst, .pick c x y, type, pos, after, guard⟩).run P w = .ok (.value (a.eval y)) w := by
        unfold execOp
        simp only [hb]
        have : (asBool (.bool false)).run P w = .ok false w := rfl
        rw [bind_ok this]; rfl
      rw [this]; exact val y (by simp [Op.operands, Call.operands])
    · trivial
  case alloc t => exact meets_E fun v A' hv => aAlloc_ok R hv
  case box t x =>
    split
    · rename_i v hv
      obtain ⟨y, w', h1, h2⟩ := aBox_ok (P := P) (t := t) R (T _ (by simp [Op.operands, Call.operands]) _ hv)
      exact ⟨y, w', Or.inl (run_value h1), h2⟩
    · trivial
  case build t ps =>
    split
    · rename_i l hl
      obtain ⟨h1, h2⟩ := evalP_ok (fun y hy => T y.2 (by simp only [Op.operands, List.toList_toArray]; exact List.mem_map.2 ⟨y, hy, rfl⟩)) hl
      refine meets_P fun v hv => aBuild_ok hv ?_ ?_
      · rw [h1]; simp
      · rw [h2]; simp
    · trivial
  case buildSlice t m ps =>
    split
    · rename_i l hl
      obtain ⟨h1, h2⟩ := evalP_ok (fun y hy => T y.2 (by simp only [Op.operands, List.toList_toArray]; exact List.mem_map.2 ⟨y, hy, rfl⟩)) hl
      refine meets_E fun v A' hv => aBuildSlice_ok R hv ?_ ?_
      · rw [h1]; simp
      · rw [h2]; simp
    · trivial
  case insert t m k x =>
    split
    · rename_i u v y hu hv hy
      exact meets_S fun A' h => aMapUpdate_ok R h (T _ (by simp [Op.operands, Call.operands]) _ hu) (T _ (by simp [Op.operands, Call.operands]) _ hv) (T _ (by simp [Op.operands, Call.operands]) _ hy)
    · trivial
  case load t x =>
    split
    · rename_i v hv; exact meets_P fun u hu => aLoad_ok R hu (T _ (by simp [Op.operands, Call.operands]) _ hv)
    · trivial
  case store t x y =>
    split
    · rename_i v u hv hu; exact meets_S fun A' h => aStore_ok R h (T _ (by simp [Op.operands, Call.operands]) _ hv) (T _ (by simp [Op.operands, Call.operands]) _ hu)
    · trivial
  case nilCheck x =>
    split
    · rename_i v hv
      have hr := T _ (by simp [Op.operands, Call.operands]) _ hv
      unfold aNilCheck
      split
      · obtain ⟨e, hE, hx⟩ := real_ptr hr
        refine ⟨a.eval x, ?_, hr⟩
        unfold execOp
        simp only [hx]; rfl
      · obtain ⟨xs, ys, h1, h2, hx⟩ := real_func hr
        refine ⟨a.eval x, ?_, hr⟩
        unfold execOp
        simp only [hx]; rfl
      · obtain ⟨y, h1, hx⟩ := real_iface hr
        refine ⟨a.eval x, ?_, hr⟩
        unfold execOp
        simp only [hx]; rfl
      · trivial
    · trivial
  case binOp op t x y yt =>
    split
    · rename_i v u hv hu; exact meets_P fun z hz => aBin2_ok C R hz (T _ (by simp [Op.operands, Call.operands]) _ hv) (T _ (by simp [Op.operands, Call.operands]) _ hu)
    · trivial
  case unOp op t x =>
    split
    · rename_i v hv; exact meets_P fun z hz => aUn_ok hz (T _ (by simp [Op.operands, Call.operands]) _ hv)
    · trivial
  case convert s d x =>
    split
    · rename_i v hv; exact meets_ofC R (T _ (by simp [Op.operands, Call.operands]) _ hv)
    · trivial
  case makeInterface t x =>
    split
    · rename_i v hv
      refine meets_P fun z hz => ?_
      unfold aIfaceOf at hz
      split at hz
      · cases hz
      · rename_i d hn hd
        cases hz
        refine ⟨_, ?_, real_iface_mk (T _ (by simp [Op.operands, Call.operands]) _ hv)⟩
        unfold Instr.makeInterface
        rw [bind_ok (run_underlying hd)]
        cases d <;> first | rfl | exact (hn _ rfl).elim
      · cases hz
    · trivial
  case makeFunc fn l m =>
    split
    · rename_i us vs hu hv
      refine ⟨_, ?_, real_func_mk (evalL_ok (fun y hy => T y (by simp only [Op.operands, Array.toList_append, List.mem_append]; exact Or.inl hy)) hu) (evalL_ok (fun y hy => T y (by simp only [Op.operands, Array.toList_append, List.mem_append]; exact Or.inr hy)) hv)⟩
      show Result.ok (Next.value (.func fn (l.map a.eval) (m.map a.eval))) w = _
      congr 3 <;> (apply Array.ext'; simp)
    · trivial
  case makeMap t r =>
    split
    · rename_i q hq; exact meets_E fun v A' hv => aMakeMap_ok R hv (evalQ_ok (fun y hy => T y (by subst hy; simp [Op.operands])) hq)
    · trivial
  case makeSlice t l c =>
    split
    · rename_i v u hv hu; exact meets_E fun z A' hz => aMakeSlice_ok R hz (T _ (by simp [Op.operands, Call.operands]) _ hv) (T _ (by simp [Op.operands, Call.operands]) _ hu)
    · trivial
  case slice t x lo hi mx =>
    cases mx with
    | some mx =>
      cases hi with
      | none => trivial
      | some hi =>
        simp only
        split
        · rename_i b off len sz l h m hx hl hh hm
          exact meets_E fun v A' hv => let ⟨y, h1, h2⟩ := aSlice3_ok R hv (T _ (by simp [Op.operands, Call.operands]) _ hx) (evalQ_ok (fun y hy => T y (by subst hy; simp [Op.operands])) hl) (T _ (by simp [Op.operands, Call.operands]) _ hh) (T _ (by simp [Op.operands, Call.operands]) _ hm); ⟨y, w, h1, h2⟩
        · rename_i l h m hx hl hh hm
          split
          · rename_i hs
            have hr := real_nilslice (T _ (by simp [Op.operands, Call.operands]) _ hx)
            have h1 := aSlice3Nil_ok (P := P) (w := w) hs (evalQ_ok (fun y hy => T y (by subst hy; simp [Op.operands])) hl) (T _ (by simp [Op.operands, Call.operands]) _ hh) (T _ (by simp [Op.operands, Call.operands]) _ hm)
            rw [← hr] at h1
            exact ⟨_, run_value h1, T _ (by simp [Op.operands, Call.operands]) _ hx⟩
          · trivial
        · trivial
    | none =>
      simp only
      split
      · rename_i s l h hx hl hh
        have hr := real_str (T _ (by simp [Op.operands, Call.operands]) _ hx)
        have := meets_P (G := C.G) (W0 := W0) (w := w) (s := Instr.sliceAt t (.string ⟨⟨s⟩⟩) (lo.map a.eval) (hi.map a.eval) none) (o := aSliceStr P t s l h) fun v hv => aSliceStr_ok hv (evalQ_ok (fun y hy => T y (by subst hy; simp [Op.operands])) hl) (evalQ_ok (fun y hy => T y (by subst hy; simp [Op.operands])) hh)
        rw [← hr] at this; exact this
      · rename_i b off len sz l h hx hl hh
        exact meets_E fun v A' hv => let ⟨y, h1, h2⟩ := aSliceSl_ok R hv (T _ (by simp [Op.operands, Call.operands]) _ hx) (evalQ_ok (fun y hy => T y (by subst hy; simp [Op.operands])) hl) (evalQ_ok (fun y hy => T y (by subst hy; simp [Op.operands])) hh); ⟨y, w, h1, h2⟩
      · rename_i b off l h hx hl hh
        exact meets_E fun v A' hv => let ⟨y, h1, h2⟩ := aSliceArr_ok R hv (T _ (by simp [Op.operands, Call.operands]) _ hx) (evalQ_ok (fun y hy => T y (by subst hy; simp [Op.operands])) hl) (evalQ_ok (fun y hy => T y (by subst hy; simp [Op.operands])) hh); ⟨y, w, h1, h2⟩
      · rename_i l h hx hl hh
        split
        · rename_i hs
          have hr := real_nilslice (T _ (by simp [Op.operands, Call.operands]) _ hx)
          have h1 := aSliceNil_ok (P := P) (w := w) hs (evalQ_ok (fun y hy => T y (by subst hy; simp [Op.operands])) hl) (evalQ_ok (fun y hy => T y (by subst hy; simp [Op.operands])) hh)
          rw [← hr] at h1
          exact ⟨_, run_value h1, T _ (by simp [Op.operands, Call.operands]) _ hx⟩
        · trivial
      · trivial
  case fieldAddr t x m =>
    split
    · rename_i v hv; exact meets_P fun z hz => aFieldAddr_ok R hz (T _ (by simp [Op.operands, Call.operands]) _ hv)
    · trivial
  case field t x m =>
    split
    · rename_i v hv; exact meets_P fun z hz => aField_ok hz (T _ (by simp [Op.operands, Call.operands]) _ hv)
    · trivial
  case indexAddr t x y =>
    split
    · rename_i v u hv hu; exact meets_P fun z hz => aIndexAddr_ok R hz (T _ (by simp [Op.operands, Call.operands]) _ hv) (T _ (by simp [Op.operands, Call.operands]) _ hu)
    · trivial
  case index t x y =>
    split
    · rename_i v u hv hu; exact meets_P fun z hz => aIndex_ok hz (T _ (by simp [Op.operands, Call.operands]) _ hv) (T _ (by simp [Op.operands, Call.operands]) _ hu)
    · trivial
  case lookup t x y ok =>
    split
    · rename_i v u hv hu; exact meets_P fun z hz => aLookup_ok R hz (T _ (by simp [Op.operands, Call.operands]) _ hv) (T _ (by simp [Op.operands, Call.operands]) _ hu)
    · trivial
  case mapUpdate t m k x =>
    split
    · rename_i u v y hu hv hy
      exact meets_S fun A' h => aMapUpdate_ok R h (T _ (by simp [Op.operands, Call.operands]) _ hu) (T _ (by simp [Op.operands, Call.operands]) _ hv) (T _ (by simp [Op.operands, Call.operands]) _ hy)
    · trivial
  case range t x =>
    split
    · rename_i v hv; exact meets_E fun z A' hz => aRange_ok R hz (T _ (by simp [Op.operands, Call.operands]) _ hv)
    · trivial
  case next x s =>
    cases s with
    | true => trivial
    | false =>
      simp only
      split
      · rename_i v hv; exact meets_E fun z A' hz => aNextMap_ok R hz (T _ (by simp [Op.operands, Call.operands]) _ hv)
      · trivial
  case entry x =>
    split
    · rename_i v hv; exact meets_P fun z hz => aEntry_ok R hz (T _ (by simp [Op.operands, Call.operands]) _ hv)
    · trivial
  case typeAssert x xt t ok =>
    split
    · rename_i v hv; exact meets_P fun z hz => aAssert_ok hz (T _ (by simp [Op.operands, Call.operands]) _ hv)
    · trivial
  case extract x i =>
    split
    · rename_i v hv
      refine meets_P fun z hz => ?_
      unfold aExtract at hz
      split at hz
      · rename_i l
        obtain ⟨xs, hxs, hx⟩ := real_tuple (T _ (by simp [Op.operands, Call.operands]) _ hv)
        obtain ⟨y, hy, hr⟩ := reals_get hxs i z hz
        refine ⟨y, ?_, hr⟩
        rw [hx]
        unfold Instr.extract
        have : xs.toArray[i]? = some y := by simpa using hy
        simp only [this]; rfl
      · cases hz
    · trivial
  case call c =>
    obtain ⟨callee, args, argTypes⟩ := c
    cases callee with
    | invoke r m => trivial
    | builtin b =>
      simp only
      split
      · rename_i l hl
        have h1 := evalL_ok (fun y hy => T y (by simp only [Op.operands, Call.operands, Array.toList_append, List.mem_append]; exact Or.inr hy)) hl
        have h2 := meets_builtin (P := P) C (b := b) (ts := argTypes) (ty := type) (cs := args.map fun | .const _ => true | _ => false) R h1
        have : (args.toList.map a.eval).toArray = args.map a.eval := by apply Array.ext'; simp
        rw [this] at h2
        exact h2
      · trivial
    | value f =>
      simp only
      split
      · rename_i v l hv hl
        have h1 := evalL_ok (fun y hy => T y (by simp only [Op.operands, Call.operands, Array.toList_append, List.mem_append]; exact Or.inr hy)) hl
        have hf := T _ (by simp [Op.operands, Call.operands]) _ hv
        unfold aCallValue
        split
        · rename_i g first captured
          obtain ⟨xs, ys, h2, h3, hx⟩ := real_func hf
          have hargs : reals E (first ++ l ++ captured) = some (xs ++ args.toList.map a.eval ++ ys) := reals_append (reals_append h2 h1) h3
          have harr : (xs.toArray ++ args.map a.eval) ++ ys.toArray = (xs ++ args.toList.map a.eval ++ ys).toArray := by apply Array.ext'; simp
          have hrun : (execOp a.eval ⟨dst, .call ⟨.value f, args, argTypes⟩, type, pos, after, guard⟩).run P w = (callFunc g (xs ++ args.toList.map a.eval ++ ys).toArray).run P w := by
            rw [← harr]
            unfold execOp resolve
            simp only [hx]
            rfl
          rw [hrun]
          split
          · rename_i hok
            exact ⟨_, C.hok g hok _ _, hargs⟩
          · split
            · rename_i z hne hz
              rw [hz] at hargs
              obtain ⟨y, ys', e, hy, hnil⟩ := reals_cons hargs
              simp only [reals, Option.some.injEq] at hnil
              subst hnil
              rw [e]
              exact ⟨y, C.hne g hne y w, hy⟩
            · trivial
        · trivial
      · trivial
end
end Go.Am
