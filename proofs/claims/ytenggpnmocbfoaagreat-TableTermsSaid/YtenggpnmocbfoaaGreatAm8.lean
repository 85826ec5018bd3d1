/-
  THE ABSTRACT MACHINE, part 8: aggregates, addresses, slices, lengths, least and greatest, look-ups, assertions.
-/
import Derived.Test.YtenggpnmocbfoaaGreatAm7
namespace Go.Am
set_option linter.unusedSectionVars false
variable [Sig]

/- BUILD. -/
def lspl : List AV → Nat → List AV → List AV
  | l, _, [] => l
  | l, off, x :: xs => lspl (l.set off x) (off + 1) xs
def aFill (place : Nat → Option (Nat × Nat)) (cells : List AV) : List (Nat × AV) → Option (List AV)
  | [] => some cells
  | (i, v) :: rest => match place i with
    | none => none
    | some (off, size) => match Nat.beq v.cells.length size, Nat.ble (off + v.cells.length) cells.length with
      | true, true => aFill place (lspl cells off v.cells) rest
      | _, _ => none
theorem foldl_spl : ∀ (l : List Value) (k off : Nat) (cs : Array Value), ((l.zipIdx k).foldl (fun cs (cj : Value × Nat) => cs.setIfInBounds (off + cj.2) cj.1) cs) = spl cs (off + k) l
  | [], _, _, _ => rfl
  | x :: xs, k, off, cs => by
    simp only [List.zipIdx_cons, List.foldl_cons, spl]
    exact foldl_spl xs (k + 1) off _
theorem reals_set {E : Env} : ∀ {l : List AV} {xs : List Value} (i : Nat) {v : AV} {x : Value}, reals E l = some xs → real E v = some x → reals E (l.set i v) = some (xs.set i x)
  | [], xs, i, v, x, h, hv => by simp only [reals, Option.some.injEq] at h; subst h; rfl
  | u :: us, xs, 0, v, x, h, hv => by obtain ⟨y, ys, rfl, h1, h'⟩ := reals_cons h; exact reals_mk hv h'
  | u :: us, xs, i + 1, v, x, h, hv => by obtain ⟨y, ys, rfl, h1, h'⟩ := reals_cons h; exact reals_mk h1 (reals_set i h' hv)
theorem reals_lspl {E : Env} : ∀ (vs : List AV) (xs : List Value) (l : List AV) (cs : Array Value) (off : Nat), reals E vs = some xs → reals E l = some cs.toList → reals E (lspl l off vs) = some (spl cs off xs).toList
  | [], xs, l, cs, off, h, hl => by simp only [reals, Option.some.injEq] at h; subst h; exact hl
  | v :: vs, xs, l, cs, off, h, hl => by
    obtain ⟨y, ys, rfl, h1, h'⟩ := reals_cons h
    simp only [lspl, spl]
    exact reals_lspl vs ys _ _ _ h' (by rw [Array.toList_setIfInBounds]; exact reals_set off hl h1)
theorem aFill_ok {E : Env} {place : Nat → Option (Nat × Nat)} : ∀ (ps : List (Nat × AV)) (qs : List (Nat × Value)) (l l' : List AV) (cs : Array Value),
    aFill place l ps = some l' → reals E l = some cs.toList → ps.map (·.1) = qs.map (·.1) → reals E (ps.map (·.2)) = some (qs.map (·.2)) → ∃ cs', Instr.fill place cs qs = some cs' ∧ reals E l' = some cs'.toList
  | [], [], l, l', cs, h, hl, _, _ => by simp only [aFill] at h; cases h; exact ⟨cs, rfl, hl⟩
  | [], _ :: _, _, _, _, _, _, h, _ => by simp at h
  | _ :: _, [], _, _, _, _, _, h, _ => by simp at h
  | (i, v) :: ps, (j, x) :: qs, l, l', cs, h, hl, hi, hr => by
    simp only [List.map_cons, List.cons.injEq] at hi
    obtain ⟨rfl, hi⟩ := hi
    obtain ⟨y, ys, e, hy, hr'⟩ := reals_cons hr
    simp only [List.map_cons, List.cons.injEq] at e
    obtain ⟨rfl, rfl⟩ := e
    simp only [aFill] at h
    split at h
    · cases h
    · rename_i off size hp
      split at h
      · rename_i h1 h2
        have hc := real_cells hy
        have hlen := reals_length hc
        have hlen2 := reals_length hl
        have h1 := Nat.eq_of_beq_eq_true h1
        have h2 := Nat.le_of_ble_eq_true h2
        simp only [Array.length_toList] at hlen hlen2
        obtain ⟨cs', hf, hl'⟩ := aFill_ok ps qs _ l' (spl cs off x.cells.toList) h (reals_lspl _ _ _ _ off hc hl) hi hr'
        refine ⟨cs', ?_, hl'⟩
        simp only [Instr.fill, hp]
        have hcond : (x.cells.size ≠ size || off + x.cells.size > cs.size) = false := by
          simp only [Bool.or_eq_false_iff, decide_eq_false_iff_not]; omega
        rw [hcond]
        simp only [Bool.false_eq_true, if_false]
        have hfold : x.cells.zipIdx.foldl (fun cs (x : Value × Nat) => cs.setIfInBounds (off + x.2) x.1) cs = spl cs off x.cells.toList := by
          rw [← Array.foldl_toList, Array.toList_zipIdx]
          exact foldl_spl x.cells.toList 0 off cs
        have hfold' : x.cells.zipIdx.foldl (fun cs x => match x with | (c, j) => cs.setIfInBounds (off + j) c) cs = spl cs off x.cells.toList := hfold
        rw [hfold']
        exact hf
      · cases h
def zeroCellsOf (P : Program) (t : TypeId) : Option (List AV) :=
  match P.info? t with
  | some i => match i.zero with
    | some z => match ofValue z with
      | some v => some v.cells
      | none => none
    | none => none
  | none => none
def aBuild (P : Program) (t : TypeId) (parts : List (Nat × AV)) : Option AV :=
  match zeroCellsOf P t with
  | some z => match P.underlying t with
    | some (.array _ e) => match P.info? e with
      | some ie => match aFill (fun i => some (i * ie.size, ie.size)) z parts with
        | some l => some (.agg l)
        | none => none
      | none => none
    | some (.struct fields) => match fields.toList.mapM (fun f => (P.info? f.type).map fun i => (f.offset, i.size)) with
      | some places => match aFill (fun i => places[i]?) z parts with
        | some l => some (.agg l)
        | none => none
      | none => none
    | _ => none
  | none => none
theorem zeroCellsOf_ok {P : Program} (E : Env) {t : TypeId} {l : List AV} (h : zeroCellsOf P t = some l) : ∃ i z, P.info? t = some i ∧ i.zero = some z ∧ reals E l = some z.cells.toList := by
  unfold zeroCellsOf at h
  split at h
  · rename_i i hi
    split at h
    · rename_i z hz
      split at h
      · rename_i v hv; cases h; exact ⟨i, z, hi, hz, real_cells (ofValue_ok E z v hv)⟩
      · cases h
    · cases h
  · cases h
theorem aBuild_ok {P : Program} {E : Env} {w : World} {t : TypeId} {ps : List (Nat × AV)} {qs : Array (Nat × Value)} {v : AV} (h : aBuild P t ps = some v) (hi : ps.map (·.1) = qs.toList.map (·.1)) (hr : reals E (ps.map (·.2)) = some (qs.toList.map (·.2))) :
    ∃ y, (Instr.build t qs).run P w = .ok y w ∧ real E v = some y := by
  unfold aBuild at h
  split at h
  · rename_i z hz
    obtain ⟨i, zz, hinfo, hzz, hzr⟩ := zeroCellsOf_ok E hz
    split at h
    · rename_i n e hd
      split at h
      · rename_i ie hie
        split at h
        · rename_i l hl
          cases h
          obtain ⟨cs', hf, hl'⟩ := aFill_ok ps qs.toList z l zz.cells hl hzr hi hr
          refine ⟨.agg cs', run_build w t qs cs' ?_, by rw [real_agg_mk hl']⟩
          unfold Program.built
          simp only [hinfo, hd, hzz, hie, hf]
        · cases h
      · cases h
    · rename_i fields hd
      split at h
      · rename_i places hpl
        split at h
        · rename_i l hl
          cases h
          obtain ⟨cs', hf, hl'⟩ := aFill_ok ps qs.toList z l zz.cells hl hzr hi hr
          refine ⟨.agg cs', run_build w t qs cs' ?_, by rw [real_agg_mk hl']⟩
          unfold Program.built
          simp only [hinfo, hd, hzz, hpl]
          have : (fun x : Nat => places.toArray[x]?) = (fun x : Nat => places[x]?) := by funext x; simp
          rw [this]; exact hf
        · cases h
      · cases h
    · cases h
  · cases h

/- FIELDS, ELEMENTS. -/
def fieldOf (P : Program) (t : TypeId) (n : Nat) : Option Field :=
  match P.underlying t with
  | some (.struct fs) => fs[n]?
  | _ => none
theorem fieldOf_ok {P : Program} {t : TypeId} {n : Nat} {f : Field} (h : fieldOf P t n = some f) : ∃ fs, P.underlying t = some (.struct fs) ∧ fs[n]? = some f := by
  unfold fieldOf at h
  split at h
  · rename_i fs hd; exact ⟨fs, hd, h⟩
  · cases h
def aField (P : Program) (t : TypeId) (x : AV) (n : Nat) : Option AV :=
  match x with
  | .agg l => match fieldOf P t n with
    | some f => aPart P f.type l f.offset
    | none => none
  | _ => none
theorem aField_ok {P : Program} {E : Env} {w : World} {t : TypeId} {x v : AV} {n : Nat} {x' : Value} (h : aField P t x n = some v) (hx : real E x = some x') : ∃ y, (Instr.field t x' n).run P w = .ok y w ∧ real E v = some y := by
  unfold aField at h
  split at h
  · obtain ⟨xs, hxs, rfl⟩ := real_agg hx
    split at h
    · rename_i f hf
      obtain ⟨fs, hd, hfs⟩ := fieldOf_ok hf
      obtain ⟨y, hy, hr⟩ := aPart_ok (w := w) h hxs
      refine ⟨y, ?_, hr⟩
      unfold Instr.field
      rw [bind_ok (run_underlying hd)]
      simp only [hfs]
      rw [bind_ok (a := xs.toArray) rfl]; exact hy
    · cases h
  · cases h
def aFieldAddr (P : Program) (A : St) (t : TypeId) (x : AV) (n : Nat) : Option AV :=
  match x with
  | .ptr b off => match fieldOf P t n with
    | some f => match P.info? f.type with
      | some i => match i.size with
        | 0 => none
        | _ => match rowOf A b with
          | some (r, _) => match Nat.ble r.lo off with
            | true => some (.ptr b (off + f.offset))
            | false => none
          | none => none
      | none => none
    | none => none
  | _ => none
theorem row_sh {G : Nat} {W0 : Base} {E : Env} {A : St} {w : World} (R : Rel G W0 E A w) {b : Nat} {r : Row} {f : Fam} {e : Ent} (hr : rowOf A b = some (r, f)) (hE : E b = some e) : r.lies E f e w := by
  obtain ⟨ha, hb, hc⟩ := rowOf_ok hr
  exact R.rows b r f e ha hb hc hE
theorem aFieldAddr_ok {P : Program} {G : Nat} {W0 : Base} {E : Env} {A : St} {w : World} (R : Rel G W0 E A w) {t : TypeId} {x v : AV} {n : Nat} {x' : Value} (h : aFieldAddr P A t x n = some v) (hx : real E x = some x') :
    ∃ y, (Instr.fieldAt t x' n).run P w = .ok y w ∧ real E v = some y := by
  unfold aFieldAddr at h
  split at h
  · obtain ⟨e, hE, rfl⟩ := real_ptr hx
    split at h
    · rename_i f hf
      obtain ⟨fs, hd, hfs⟩ := fieldOf_ok hf
      split at h
      · rename_i i hi
        split at h
        · cases h
        · rename_i hsz
          split at h
          · rename_i r ff hr
            split at h
            · rename_i hlo
              cases h
              have hlo := Nat.le_of_ble_eq_true hlo
              obtain ⟨cs, fz, hcs, _, hsh, _⟩ := row_sh R hr hE
              refine ⟨_, ?_, real_ptr_mk _ hE⟩
              unfold Instr.fieldAt
              rw [bind_ok (run_underlying hd)]
              simp only [hfs]
              unfold Instr.sureAddr
              rw [bind_ok (run_pure _)]
              unfold fieldPlace
              rw [bind_ok (a := _) (w' := w) (by rw [bind_ok (run_sizeOf hi), if_neg hsz]; rfl)]
              rw [plain_add]
              show Result.ok _ w = _
              congr 4; omega
            · cases h
          · cases h
      · cases h
    · cases h
  · cases h
def aIndex (P : Program) (t : TypeId) (x ix : AV) : Option AV :=
  match ix with
  | .int _ i => if 0 ≤ i then
      match x with
      | .agg l => match P.underlying t with
        | some (.array n e) => match P.info? e with
          | some ie => if i < n then aPart P e l (i.toNat * ie.size) else none
          | none => none
        | _ => none
      | .str s => match P.underlying t with
        | some .string => match s[i.toNat]? with
          | some b => some (.int .u8 b.toNat)
          | none => none
        | _ => none
      | _ => none
    else none
  | _ => none
theorem aIndex_ok {P : Program} {E : Env} {w : World} {t : TypeId} {x ix v : AV} {x' ix' : Value} (h : aIndex P t x ix = some v) (hx : real E x = some x') (hi : real E ix = some ix') :
    ∃ y, (Instr.index t x' ix').run P w = .ok y w ∧ real E v = some y := by
  unfold aIndex at h
  split at h
  · rename_i k i
    cases real_int hi
    split at h
    · rename_i h0
      split at h
      · rename_i l
        obtain ⟨xs, hxs, rfl⟩ := real_agg hx
        split at h
        · rename_i n e hd
          split at h
          · rename_i ie hie
            split at h
            · rename_i hlt
              obtain ⟨y, hy, hr⟩ := aPart_ok (w := w) h hxs
              refine ⟨y, ?_, hr⟩
              unfold Instr.index
              rw [bind_ok (a := (k, i)) rfl]
              simp only
              rw [bind_ok (run_underlying hd)]
              simp only
              rw [if_pos ⟨h0, hlt⟩, bind_ok (run_sizeOf hie)]; exact hy
            · cases h
          · cases h
        · cases h
      · rename_i s
        cases real_str hx
        split at h
        · rename_i hd
          split at h
          · rename_i b hb
            cases h
            refine ⟨.int .u8 b.toNat, ?_, rfl⟩
            unfold Instr.index
            rw [bind_ok (a := (k, i)) rfl]
            simp only
            rw [bind_ok (run_underlying hd)]
            simp only
            have hlt := (List.getElem?_eq_some_iff.1 hb).1
            have : (ByteArray.mk ⟨s⟩)[i.toNat]? = some b := by
              have hlt' : i.toNat < (ByteArray.mk ⟨s⟩).size := hlt
              rw [ByteArray.getElem?_lt' _ _ hlt']
              have := (List.getElem?_eq_some_iff.1 hb).2
              rw [← this]; rfl
            rw [if_pos h0, this]; rfl
          · cases h
        · cases h
      · cases h
    · cases h
  · cases h
def aIndexAddr (P : Program) (A : St) (t : TypeId) (x ix : AV) : Option AV :=
  match ix with
  | .int _ i => if 0 ≤ i then
      match x with
      | .ptr b off => match P.underlying t with
        | some (.array n e) => match P.info? e, rowOf A b with
          | some ie, some (r, _) => if i < n then (match Nat.ble r.lo off with | true => some (.ptr b (off + i.toNat * ie.size)) | false => none) else none
          | _, _ => none
        | _ => none
      | .slice b off len _ => match P.underlying t with
        | some (.slice e) => match P.info? e, rowOf A b with
          | some ie, some (r, _) => if i < len then (match Nat.ble r.lo off with | true => some (.ptr b (off + i.toNat * ie.size)) | false => none) else none
          | _, _ => none
        | _ => none
      | _ => none
    else none
  | _ => none
theorem aIndexAddr_ok {P : Program} {G : Nat} {W0 : Base} {E : Env} {A : St} {w : World} (R : Rel G W0 E A w) {t : TypeId} {x ix v : AV} {x' ix' : Value} (h : aIndexAddr P A t x ix = some v) (hx : real E x = some x') (hi : real E ix = some ix') :
    ∃ y, (Instr.indexAt t x' ix').run P w = .ok y w ∧ real E v = some y := by
  unfold aIndexAddr at h
  split at h
  · rename_i k i
    cases real_int hi
    split at h
    · rename_i h0
      split at h
      · rename_i b off
        obtain ⟨e, hE, rfl⟩ := real_ptr hx
        split at h
        · rename_i n el hd
          split at h
          · rename_i ie r f hie hr
            split at h
            · rename_i hlt
              split at h
              · rename_i hlo
                cases h
                have hlo := Nat.le_of_ble_eq_true hlo
                obtain ⟨cs, fz, hcs, _, hsh, _⟩ := row_sh R hr hE
                refine ⟨_, ?_, real_ptr_mk _ hE⟩
                unfold Instr.indexAt
                rw [bind_ok (a := (k, i)) rfl]
                simp only
                rw [bind_ok (run_underlying hd)]
                simp only
                unfold Instr.sureAddr
                rw [bind_ok (run_pure _), bind_ok (run_pure _), bind_ok (run_underlying hd)]
                simp only
                rw [if_pos ⟨h0, hlt⟩, bind_ok (run_sizeOf hie), plain_add]
                show Result.ok _ w = _
                congr 4; omega
              · cases h
            · cases h
          · cases h
        · cases h
      · rename_i b off len sz
        obtain ⟨e, hE, rfl⟩ := real_slice hx
        split at h
        · rename_i el hd
          split at h
          · rename_i ie r f hie hr
            split at h
            · rename_i hlt
              split at h
              · rename_i hlo
                cases h
                have hlo := Nat.le_of_ble_eq_true hlo
                obtain ⟨cs, fz, hcs, _, hsh, _⟩ := row_sh R hr hE
                refine ⟨_, ?_, real_ptr_mk _ hE⟩
                unfold Instr.indexAt
                rw [bind_ok (a := (k, i)) rfl]
                simp only
                rw [bind_ok (run_underlying hd)]
                simp only
                rw [bind_ok (run_pure _), bind_ok (run_underlying hd)]
                simp only
                rw [if_pos ⟨h0, hlt⟩, bind_ok (run_sizeOf hie), plain_add]
                show Result.ok _ w = _
                congr 4; omega
              · cases h
            · cases h
          · cases h
        · cases h
      · cases h
    · cases h
  · cases h

end Go.Am
