/-
  THE ABSTRACT MACHINE, part 15: strings laid over bytes, clear; one operation.
-/
import Derived.Test.YtenggpnmocbfoaaGreatAm14
namespace Go.Am
set_option linter.unusedSectionVars false
variable [Sig]

/- unsafe.SliceData, unsafe.String, as strings.Builder uses them. -/
def aSliceData (A : St) (x : AV) : Option AV :=
  match x with
  | .nilslice => some .nilp
  | .slice b off _ sz => match rowOf A b with
    | some (r, _) => if 0 < sz ∧ off + sz ≤ r.n then some (.ptr b off) else none
    | none => none
  | _ => none
theorem sd_eq (ts : Array TypeId) (ty : TypeId) (a : Addr) (l c : Nat) : Builtin.unsafeSliceData_ ts ty #[.slice (some a) l c] = (do
    if c ≠ 0 then pure (.pointer (some a))
    else if (← viewAt a.block).isSome then pure (.pointer (some a))
    else pure (.pointer (some ⟨← newObj (.view a (← elemOf ty)), 0, none⟩))) := rfl
theorem aSliceData_ok {P : Program} {G : Nat} {W0 : Base} {E : Env} {A : St} {w : World} (R : Rel G W0 E A w) {ts : Array TypeId} {ty : TypeId} {x v : AV} {x' : Value} (h : aSliceData A x = some v) (hx : real E x = some x') :
    ∃ y, (Builtin.unsafeSliceData_ ts ty #[x']).run P w = .ok y w ∧ real E v = some y := by
  unfold aSliceData at h
  split at h
  · cases real_nilslice hx; cases h; exact ⟨_, rfl, rfl⟩
  · rename_i b off len sz
    obtain ⟨e, hE, rfl⟩ := real_slice hx
    split at h
    · rename_i r f hr
      split at h
      · rename_i hc
        cases h
        obtain ⟨cs, fz, hcs, hex, hsh, hne, _⟩ := row_sh R hr hE
        refine ⟨_, ?_, real_ptr_mk _ hE⟩
        have : (e.ec - off) / sz ≠ 0 := by
          have : 1 ≤ (e.ec - off) / sz := by rw [Nat.le_div_iff_mul_le hc.1]; omega
          omega
        rw [sd_eq, if_pos this]; rfl
      · cases h
    · cases h
  · cases h
def freezeRow (A : St) (b : Nat) (r : Row) (f : Fam) (m : Nat) : St :=
  { heap := A.heap.put b (.row r), fams := A.fams.put r.fam { f with owner := b, since := A.next, frz := max f.frz m }, next := A.next }
def aUnsafeString (P : Program) (A : St) (t : TypeId) (p n : AV) : Option (AV × St) :=
  match n with
  | .int _ n => if n = 0 then (match p with | .nilp => some (.str [], A) | .ptr _ _ => some (.str [], A) | _ => none)
    else if 0 < n ∧ n ≤ 1073741824 then
      match p with
      | .ptr b off => match P.underlying t with
        | some (.pointer el) => match rowOf A b with
          | some (r, f) => if r.elem = el ∧ P.cellsOf el = 1 ∧ f.strish = false ∧ r.fam ≠ 0 then
              match cellsAt A b off n.toNat with
              | some l => match toBytes l with
                | some bs => some (.str bs, freezeRow A b r f (off + n.toNat))
                | none => none
              | none => none
            else none
          | none => none
        | _ => none
      | _ => none
    else none
  | _ => none
theorem run_loadBytes {P : Program} {w : World} {b o : Nat} {cs : Array Value} {t : TypeId} {fz : Nat × Nat} (h : w.heap[b]? = some (.cells cs t fz)) :
    ∀ (n i : Nat) (ns : List Int) (acc : ByteArray), ns.length = n → (∀ j, j < n → cs[o + i + j]? = (ns.map (Value.int .u8))[j]?) →
      (loadBytes ⟨b, o + i, none⟩ acc n).run P w = .ok (ns.foldl (fun r m => r.push m.toNat.toUInt8) acc) w := by
  intro n
  induction n with
  | zero => intro i ns acc hl _; have : ns = [] := List.eq_nil_of_length_eq_zero hl; subst this; rfl
  | succ n ih =>
    intro i ns acc hl hx
    cases ns with
    | nil => simp at hl
    | cons m ns =>
      unfold loadBytes
      have h0 := hx 0 (by omega)
      have hc : w.cell? ⟨b, o + i, none⟩ = some (.int .u8 m) := by rw [cell_of h]; simpa using h0
      rw [bind_ok (run_load hc)]
      simp only
      rw [add_plain, Nat.add_assoc]
      rw [ih (i + 1) ns _ (by simpa using hl) (fun j hj => by have := hx (j + 1) (by omega); rw [show o + (i + 1) + j = o + i + (j + 1) from by omega, this]; rfl)]
      rfl
theorem foldl_bytes : ∀ (ns : List Int) (l : List UInt8), ns.foldl (fun r (m : Int) => r.push m.toNat.toUInt8) (ByteArray.mk ⟨l⟩) = ByteArray.mk ⟨l ++ ns.map fun n => UInt8.ofNat n.toNat⟩
  | [], l => by simp
  | n :: ns, l => by
    simp only [List.foldl_cons, List.map_cons]
    have : (ByteArray.mk ⟨l⟩).push n.toNat.toUInt8 = ByteArray.mk ⟨l ++ [UInt8.ofNat n.toNat]⟩ := by
      apply ByteArray.ext; apply Array.ext'; simp
    rw [this, foldl_bytes ns]; simp
theorem liesAt_same {P : Program} {el count off n : Nat} (hc : P.cellsOf el = 1) (h : off + n ≤ count) : liesAt P P.depth el (count / P.cellsOf el) off el n = true := by
  have hd : ∃ d, P.depth = d + 1 := ⟨2 * (P.types.size + Made.depth) + 1, rfl⟩
  obtain ⟨d, hd⟩ := hd
  rw [hd]
  unfold liesAt
  have hr : rowAt P (fun x => sameLayout P P.depth x el) P.depth el (count / P.cellsOf el) off n = true := by
    rw [hd]
    unfold rowAt
    simp only [hc, Nat.div_one, Nat.mod_one]
    have hs : sameLayout P (d + 1) el el = true := by unfold sameLayout; simp
    have : decide (off + n ≤ count) = true := by simpa using h
    simp [this, hs]
  simp only [hr, Bool.true_or]
def usCore (t : TypeId) (p : Option Addr) (n : Int) : Sem Value := do
  let elem := t
  if n < 0 then runtimePanic (.error "unsafe.String: len out of range")
  if n > IntKind.i64.max then unsupported (.unsafePointer "String: a length above the largest int")
  match p with
  | none =>
    if n = 0 then pure (.string .empty)
    else runtimePanic (.error "unsafe.String: ptr is nil and len is not zero")
  | some a =>
    if n = 0 then pure (.string .empty)
    else if ← variablesAt a (← elemOf elem) n.toNat then do
      let s ← loadBytes a .empty n.toNat
      freeze a n.toNat
      pure (.string s)
    else unsupported (.unsafePointer "String: not so many bytes at ptr")
theorem us_eq (t t2 ty : TypeId) (p : Option Addr) (k : IntKind) (n : Int) : Builtin.unsafeString_ #[t, t2] ty #[.pointer p, .int k n] = usCore t p n := rfl
theorem aUnsafeString_ok {P : Program} {G : Nat} {W0 : Base} {E : Env} {A A' : St} {w : World} (R : Rel G W0 E A w) {t t2 ty : TypeId} {p n v : AV} {p' n' : Value} (h : aUnsafeString P A t p n = some (v, A')) (hp : real E p = some p') (hn : real E n = some n') :
    ∃ y w', (Builtin.unsafeString_ #[t, t2] ty #[p', n']).run P w = .ok y w' ∧ Good G W0 E A' v y w' := by
  unfold aUnsafeString at h
  split at h
  · rename_i k n
    cases real_int hn
    split at h
    · rename_i h0
      subst h0
      have hb : ¬ ((0 : Int) < 0) := by omega
      have hb2 : ¬ ((0 : Int) > IntKind.i64.max) := by
        have : IntKind.i64.max = 9223372036854775807 := by decide
        omega
      split at h
      · cases real_nilp hp
        cases h
        refine ⟨.string .empty, w, ?_, E, E.le_refl, rfl, R⟩
        rw [us_eq]
        unfold usCore
        rw [if_neg hb, if_neg hb2]
        rfl
      · obtain ⟨e, hE, rfl⟩ := real_ptr hp
        cases h
        refine ⟨.string .empty, w, ?_, E, E.le_refl, rfl, R⟩
        rw [us_eq]
        unfold usCore
        rw [if_neg hb, if_neg hb2]
        rfl
      · cases h
    · rename_i h0
      split at h
      · rename_i hb
        split at h
        · rename_i b off
          obtain ⟨e, hE, rfl⟩ := real_ptr hp
          split at h
          · rename_i el hd
            split at h
            · rename_i r f hr
              split at h
              · rename_i hc
                obtain ⟨hel, hce, hst, hf0⟩ := hc
                split at h
                · rename_i l hl
                  split at h
                  · rename_i bs hbs
                    cases h
                    obtain ⟨ha, hfm, hlets⟩ := rowOf_ok hr
                    obtain ⟨e', cs, u, fz, xs, he', hoff, hcs, hrs, hlen, hcc⟩ := cellsAt_ok R hl hE
                    rw [hE] at he'; cases he'
                    obtain ⟨cs2, fz2, hcs2, hex, hsh, hne, hcapr, hecs, hcells, hfr⟩ := row_sh R hr hE
                    rw [hcs] at hcs2
                    simp only [Option.some.injEq, Obj.cells.injEq] at hcs2
                    obtain ⟨rfl, hu, rfl⟩ := hcs2
                    obtain ⟨ns, rfl, rfl⟩ := toBytes_ok hbs hrs
                    have hnl : ns.length = n.toNat := by simpa using hlen
                    obtain ⟨r2, f2, hr2, hlo2, hn2, _⟩ := cellsAt_inv hl
                    rw [hr] at hr2; cases hr2
                    have hsz := R.size b e hE
                    have hown := R.own b e hE (by rw [grp_row ha]; exact hf0)
                    let w' := w.freeze ⟨e.blk, off - e.sh, none⟩ n.toNat
                    let fz' : Nat × Nat := if fz.1 == fz.2 then (off - e.sh, off - e.sh + n.toNat) else (min fz.1 (off - e.sh), max fz.2 (off - e.sh + n.toNat))
                    have hw' : w' = { w with heap := w.heap.setIfInBounds e.blk (.cells cs r.elem fz') } := by
                      show w.freeze _ _ = _
                      unfold World.freeze
                      rw [if_neg (by omega)]
                      congr 1
                      apply Array.ext_getElem?
                      intro k
                      rw [Array.getElem?_modify]
                      by_cases hk : e.blk = k
                      · subst hk
                        rw [if_pos rfl, hcs, Array.getElem?_setIfInBounds_self_of_lt hsz, hu]; rfl
                      · rw [if_neg hk, Array.getElem?_setIfInBounds_ne hk]
                    refine ⟨.string ⟨⟨ns.map fun n => UInt8.ofNat n.toNat⟩⟩, w', ?_, E, E.le_refl, rfl, ?_⟩
                    · rw [us_eq]
                      unfold usCore
                      have hb1 : ¬ (n < 0) := by omega
                      have hb2 : ¬ (n > IntKind.i64.max) := by
                        have : IntKind.i64.max = 9223372036854775807 := by decide
                        omega
                      rw [if_neg hb1, if_neg hb2]
                      simp only [if_neg h0]
                      have hel2 : (elemOf t).run P w = .ok el w := by unfold elemOf; rw [bind_ok (run_underlying hd)]; rfl
                      rw [bind_ok hel2]
                      have hv : (variablesAt ⟨e.blk, off - e.sh, none⟩ el n.toNat).run P w = .ok true w := by
                        unfold variablesAt
                        rw [bind_ok run_program]
                        have hshp : (shape e.blk).run P w = .ok (some (r.elem, cs.size)) w := by show Result.ok (w.shape? e.blk) w = _; rw [shape_of hcs, hu]
                        rw [bind_ok hshp]
                        simp only [hel]
                        rw [liesAt_same hce (by omega)]; rfl
                      rw [bind_ok hv]
                      simp only [if_true]
                      have hlb : (loadBytes ⟨e.blk, off - e.sh, none⟩ .empty n.toNat).run P w = .ok (ByteArray.mk ⟨ns.map fun n => UInt8.ofNat n.toNat⟩) w := by
                        have := run_loadBytes (P := P) (o := off - e.sh) hcs n.toNat 0 ns .empty hnl (by simpa using hcc)
                        rw [Nat.add_zero] at this
                        rw [this]
                        have := foldl_bytes ns []
                        simp only [List.nil_append] at this
                        exact congrArg (fun s => Result.ok s w) this
                      rw [bind_ok hlb]
                      have hfrz : (freeze ⟨e.blk, off - e.sh, none⟩ n.toNat).run P w = .ok () w' := rfl
                      rw [bind_ok hfrz]; rfl
                    · have hfz' : ∀ i, fz'.1 ≤ i → i < fz'.2 → i + e.sh < max f.frz (off + n.toNat) := by
                        intro i h1 h2
                        have hold := hfr.2 i (fun hs => by rw [hst] at hs; cases hs)
                        by_cases hq : fz.1 == fz.2
                        · have e1 : fz' = (off - e.sh, off - e.sh + n.toNat) := if_pos hq
                          rw [e1] at h1 h2
                          simp only at h1 h2
                          omega
                        · have e1 : fz' = (min fz.1 (off - e.sh), max fz.2 (off - e.sh + n.toNat)) := if_neg hq
                          rw [e1] at h1 h2
                          simp only at h1 h2
                          have hle := hfr.1
                          have hne2 : fz.1 ≠ fz.2 := by simpa using hq
                          have hlast := hfr.2 (fz.2 - 1) (fun hs => by rw [hst] at hs; cases hs) (by omega) (by omega)
                          omega
                      have hsz' : w'.heap.size = w.heap.size := by rw [hw']; simp
                      have hkeep : ∀ k, k ≠ e.blk → w'.heap[k]? = w.heap[k]? := fun k hk => by
                        rw [hw']
                        show (w.heap.setIfInBounds _ _)[k]? = _
                        rw [Array.getElem?_setIfInBounds_ne (Ne.symm hk)]
                      have hbelow : RowKit.Below W0.heap.size W0.toWorld w' := by
                        rw [hw']
                        exact ⟨R.below.os, R.below.tape, R.below.output, by simpa using R.below.size, fun k hk => by
                          show (w.heap.setIfInBounds _ _)[k]? = _
                          rw [Array.getElem?_setIfInBounds_ne (by omega)]; exact R.below.block k hk⟩
                      unfold freezeRow
                      refine R.turn _ ha hfm hlets hE hf0 rfl rfl (PT.at_put_same _ _ _) (fun k hk => PT.at_put_ne _ _ hk) (Nat.le_refl _) hkeep hsz' hbelow (fun _ => ⟨R.mx b r f ha hfm hf0 hlets, cs, fz', ?_, hex, hsh, hne, hcapr, hecs, hcells, ?_, fun i _ h1 h2 => hfz' i h1 h2⟩) ?_
                      · rw [hw']
                        show (w.heap.setIfInBounds _ _)[e.blk]? = _
                        rw [Array.getElem?_setIfInBounds_self_of_lt hsz]
                      · show fz'.1 ≤ fz'.2
                        simp only [fz']
                        split
                        · simp only; omega
                        · have := hfr.1; simp only; omega
                      · intro c rc hcb hcr hfam hlet
                        exfalso
                        have hcl := R.hlt hcr
                        unfold Fam.lets at hlet
                        simp only at hlet
                        split at hlet
                        · rename_i hq; have := Nat.eq_of_beq_eq_true hq; omega
                        · have := Nat.le_of_ble_eq_true hlet; omega
                  · cases h
                · cases h
              · cases h
            · cases h
          · cases h
        · cases h
      · cases h
  · cases h


/- clear -/
def aClear (P : Program) (A : St) (t : TypeId) (x : AV) : Option St :=
  match P.underlying t with
  | some (.slice el) => match x with
    | .nilslice => some A
    | .slice b off len sz => match len with
      | 0 => some A
      | _ => match zeroCellsOf P el with
        | some z => match Nat.beq z.length sz with
          | true => aWrite A b off (rep len z)
          | false => none
        | none => none
    | _ => none
  | some (.map _ _) => match x with
    | .nilmap => some A
    | .map b => match b with
      | 0 => none
      | _ => match A.heap.at_ b with
        | some (.map _ c) => some { heap := A.heap.put b (.map [] c), fams := A.fams, next := A.next }
        | _ => none
    | _ => none
  | _ => none
theorem aClear_ok {P : Program} {G : Nat} {W0 : Base} {E : Env} {A A' : St} {w : World} (R : Rel G W0 E A w) {t ty : TypeId} {x : AV} {x' : Value} (h : aClear P A t x = some A') (hx : real E x = some x') :
    ∃ w', (Builtin.clear_ #[t] ty #[x']).run P w = .ok (.tuple #[]) w' ∧ Rel G W0 E A' w' := by
  unfold aClear at h
  split at h
  · rename_i el hd
    split at h
    · cases real_nilslice hx
      cases h
      refine ⟨w, ?_, R⟩
      unfold Builtin.clear_
      simp only [List.getElem?_toArray, List.getElem?_cons_zero]
      rw [bind_ok (run_underlying hd)]; rfl
    · rename_i b off len sz
      obtain ⟨e, hE, rfl⟩ := real_slice hx
      split at h
      · cases h
        refine ⟨w, ?_, R⟩
        unfold Builtin.clear_
        simp only [List.getElem?_toArray, List.getElem?_cons_zero]
        rw [bind_ok (run_underlying hd)]; rfl
      · rename_i hl0
        split at h
        · rename_i z hz
          split at h
          · rename_i hzl
            obtain ⟨i, zv, hi, hzero, hzr⟩ := zeroCellsOf_ok E hz
            obtain ⟨w', hst, hR⟩ := R.write (P := P) h hE (reals_rep hzr len)
            refine ⟨w', ?_, hR⟩
            unfold Builtin.clear_
            simp only [List.getElem?_toArray, List.getElem?_cons_zero]
            rw [bind_ok (run_underlying hd)]
            have hl0 : len ≠ 0 := hl0
            obtain ⟨m, rfl⟩ : ∃ m, len = m + 1 := ⟨len - 1, by omega⟩
            simp only
            rw [bind_ok (run_zeroValue hi hzero)]
            have : (Builtin.zeroCells zv.cells (m + 1)).toList = ((Array.range ((m + 1) * zv.cells.size)).map (fun i => zv.cells[i % zv.cells.size]!)).toList := rfl
            rw [this, bind_ok hst]; rfl
          · cases h
        · cases h
    · cases h
  · rename_i kt et hd
    split at h
    · cases real_nilmap hx
      cases h
      refine ⟨w, ?_, R⟩
      unfold Builtin.clear_
      simp only [List.getElem?_toArray, List.getElem?_cons_zero]
      rw [bind_ok (run_underlying hd)]; rfl
    · rename_i b
      obtain ⟨e, hE, rfl⟩ := real_map hx
      split at h
      · cases h
      · rename_i hb0
        split at h
        · rename_i es c hb
          cases h
          obtain ⟨res, hres, hen⟩ := map_at R hb hE
          refine ⟨{ w with heap := w.heap.setIfInBounds e.blk (.map #[] c) }, ?_, R.object (.map #[] c) hb (fun r hr => by cases hr) (fun r hr => by cases hr) hE (by exact hb0) (fun w' hw' => ⟨_, hw', rfl⟩)⟩
          unfold Builtin.clear_
          simp only [List.getElem?_toArray, List.getElem?_cons_zero]
          rw [bind_ok (run_underlying hd)]
          rw [bind_ok (run_getObj hres (fun _ _ _ h => by cases h))]
          simp only
          rw [bind_ok (run_setObj hres (fun _ _ _ h => by cases h))]; rfl
        · cases h
    · cases h
  · cases h

end Go.Am
