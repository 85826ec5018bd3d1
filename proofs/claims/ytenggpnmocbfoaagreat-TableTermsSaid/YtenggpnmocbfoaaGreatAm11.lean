/-
  THE ABSTRACT MACHINE, part 11: append; slices cut; strings as bytes.
-/
import Derived.Test.YtenggpnmocbfoaaGreatAm10
namespace Go.Am
set_option linter.unusedSectionVars false
variable [Sig]

theorem growBy_le (m : Nat) : ∀ (r c : Nat), Builtin.growBy m r c ≤ max c (m + (m + 768) / 4)
  | 0, c => Nat.le_max_left _ _
  | r + 1, c => by
    unfold Builtin.growBy
    split
    · exact Nat.le_max_left _ _
    · rename_i h
      have := growBy_le m r (c + (c + 768) / 4)
      omega
theorem nextcap_le (need old : Nat) (h : old < need) : Builtin.nextslicecap need old ≤ 2 * need + 768 := by
  unfold Builtin.nextslicecap
  split
  · omega
  · split
    · omega
    · have := growBy_le need 4 old
      omega

def isIntT (P : Program) (t2 : Option TypeId) : Option Bool :=
  match t2 with
  | none => none
  | some t => match P.underlying t with
    | some (.int _) => some true
    | some _ => some false
    | none => none
/-- The cells that are appended, and how many values they are. -/
def appended (P : Program) (A : St) (el : TypeId) (sz : Nat) (t2 : Option TypeId) (x : AV) : Option (Nat × List AV) :=
  match isIntT P t2 with
  | none => none
  | some true => match x with
    | .int _ n => if 0 ≤ n ∧ n ≤ 1073741824 then
        match zeroCellsOf P el with
        | some z => match Nat.beq z.length sz with
          | true => some (n.toNat, rep n.toNat z)
          | false => none
        | none => none
      else none
    | _ => none
  | some false => match lenOfA x with
    | some n => match srcCells A n sz x with
      | some l => some (n, l)
      | none => none
    | none => none
theorem cellsAt_inv {A : St} {b off n : Nat} {l : List AV} (h : cellsAt A b off n = some l) : ∃ r f, rowOf A b = some (r, f) ∧ r.lo ≤ off ∧ off + n ≤ r.n ∧ r.cells.take off n = some l := by
  unfold cellsAt at h
  split at h
  · rename_i r f hr
    split at h
    · rename_i hlo
      split at h
      · rename_i hn; exact ⟨r, f, hr, Nat.le_of_ble_eq_true hlo, Nat.le_of_ble_eq_true hn, h⟩
      · cases h
    · cases h
  · cases h

/-- A new row for what was and what came. -/
def freshRow (A : St) (elem : TypeId) (l : List AV) : St :=
  { heap := A.heap.put A.next (.row { cells := PT.leaf.fill 0 l, n := l.length, lo := 0, elem, fam := A.next, exact := false, cap := none }),
    fams := A.fams.put A.next { owner := A.next, since := A.next, last := A.next, mx := l.length, frz := 0, strish := false },
    next := A.next + 1 }
/-- In place or anew: nobody knows. -/
def growRow (A : St) (r : Row) (f : Fam) (off p : Nat) (l : List AV) : St :=
  { heap := A.heap.put A.next (.row { cells := r.cells.fill p l, n := p + l.length, lo := off, elem := r.elem, fam := r.fam, exact := false, cap := none }),
    fams := A.fams.put r.fam (match Nat.ble f.mx p with
      | true => { f with last := A.next, mx := p + l.length }
      | false => { f with owner := A.next, since := A.next, last := A.next, mx := p + l.length }),
    next := A.next + 1 }
def aAppend (P : Program) (A : St) (t : TypeId) (t2 : Option TypeId) (s x : AV) : Option (AV × St) :=
  match P.underlying t with
  | some (.slice el) => match P.info? el with
    | some i => if 0 < i.size ∧ i.bytes ≤ 4096 ∧ (zeroCellsOf P el).map List.length = some i.size then
        match appended P A el i.size t2 x with
        | some (k, l) => match s with
          | .nilslice => match k with
            | 0 => match l with | [] => some (.nilslice, A) | _ => none
            | _ => if k ≤ 1073741824 ∧ l.length = k * i.size then some (.slice A.next 0 k i.size, freshRow A el l) else none
          | .slice b off len sz => match Nat.beq sz i.size, rowOf A b with
            | true, some (r, f) => match Nat.ble r.lo off with
              | false => none
              | true => match k with
                | 0 => match l with
                  | [] => match Nat.ble (off + len * sz) r.n with | true => some (s, A) | false => none
                  | _ => none
                | _ => if len + k ≤ 1073741824 ∧ l.length = k * i.size ∧ off + len * sz ≤ r.n then
                    match Nat.ble (off + (len + k) * sz) r.n with
                    | true => match aWrite A b (off + len * sz) l with
                      | some A' => some (.slice b off (len + k) sz, A')
                      | none => none
                    | false => match r.cap with
                      | some c => if (c - off) / sz < len + k then
                          match cellsAt A b off (len * sz) with
                          | some old => some (.slice A.next 0 (len + k) sz, freshRow A el (old ++ l))
                          | none => none
                        else none
                      | none => if r.fam ≠ 0 ∧ r.elem = el ∧ f.frz ≤ off + len * sz ∧ oneAll l = true then
                          match cellsAt A b off (len * sz) with
                          | some _ => some (.slice A.next off (len + k) sz, growRow A r f off (off + len * sz) l)
                          | none => none
                        else none
                  else none
            | _, _ => none
          | _ => none
        | none => none
      else none
    | none => none
  | _ => none

/-- a fresh row, of cells that may go on -/
theorem Rel.fresh' {G : Nat} {W0 : Base} {E : Env} {A : St} {w : World} (R : Rel G W0 E A w) (elem : TypeId) {l : List AV} {xs : List Value} (rest : List Value) (h : reals E l = some xs) (ec : Nat) (hec : ec = l.length + rest.length) :
    Rel G W0 (E.ins A.next ⟨w.heap.size, 0, ec⟩) (freshRow A elem l) { w with heap := w.heap.push (.cells (xs ++ rest).toArray elem) } := by
  refine R.push (.cells (xs ++ rest).toArray elem) _ _ 0 ec (fun k hk => PT.at_put_ne _ _ (by omega)) ?_ trivial
  intro r hr
  cases hr
  have hle : E.le (E.ins A.next ⟨w.heap.size, 0, ec⟩) := Env.ins_le R.nil
  have hlen := reals_length h
  refine ⟨rfl, _, PT.at_put_same _ _ _, Nat.le_refl _, Nat.le_refl _, (xs ++ rest).toArray, (0, 0), heap_push_new w _, fun hx => (by cases hx), Nat.le_refl _, by simp only; omega, fun c hc => (by cases hc), by simp; omega, ?_, Nat.le_refl _, fun i _ h1 h2 => by simp only at h2; omega⟩
  intro i v _ hi hv
  have hi' : i < l.length := hi
  have hv' : (PT.leaf.fill 0 l).at_ i = some v := hv
  rw [PT.at_fill, if_pos (by omega)] at hv'
  obtain ⟨x, hx, hr⟩ := reals_get h i v (by simpa using hv')
  refine ⟨x, real_le hle v x hr, ?_⟩
  simp only [Nat.sub_zero, List.getElem?_toArray]
  rw [List.getElem?_append_left (by omega)]; exact hx

/-- grown in place -/
theorem Rel.growIn {P : Program} {G : Nat} {W0 : Base} {E : Env} {A : St} {w : World} (R : Rel G W0 E A w) {b off p : Nat} {r : Row} {f : Fam} {e : Ent} {l : List AV} {xs : List Value} (hr : rowOf A b = some (r, f)) (hE : E b = some e) (hl : reals E l = some xs)
    (h0 : r.fam ≠ 0) (hlo : r.lo ≤ off) (hop : off ≤ p) (hp : p ≤ r.n) (hfz : f.frz ≤ p) (ho : oneAll l = true) (hec : p + l.length ≤ e.ec) :
    ∃ w', (storeCells ⟨e.blk, p - e.sh, none⟩ xs).run P w = .ok () w' ∧ Rel G W0 (E.ins A.next e) (growRow A r f off p l) w' := by
  obtain ⟨ha, hb, hc⟩ := rowOf_ok hr
  obtain ⟨cs, fz, hcs, hex, hsh, hne, hcap, hecs, hcells, hfr⟩ := row_sh R hr hE
  have hxl := reals_length hl
  have hsz := R.size b e hE
  have hown := R.own b e hE (by rw [grp_row ha]; exact h0)
  refine ⟨_, run_storeCells xs 0 w cs hcs (oneAll_ok ho hl) (by omega) (fun j h1 h2 hf => ?_), ?_⟩
  · have := hfr.2 j (fun _ => by omega) hf.1 hf.2
    omega
  simp only [Nat.add_zero]
  have hnew : ({ w with heap := w.heap.setIfInBounds e.blk (.cells (spl cs (p - e.sh) xs) r.elem fz) } : World).heap[e.blk]? = some (.cells (spl cs (p - e.sh) xs) r.elem fz) := by
    show (w.heap.setIfInBounds _ _)[e.blk]? = _
    rw [Array.getElem?_setIfInBounds_self_of_lt hsz]
  have hkeep : ∀ k, k ≠ e.blk → k < w.heap.size → ({ w with heap := w.heap.setIfInBounds e.blk (.cells (spl cs (p - e.sh) xs) r.elem fz) } : World).heap[k]? = w.heap[k]? := fun k hk _ => by
    show (w.heap.setIfInBounds _ _)[k]? = _
    rw [Array.getElem?_setIfInBounds_ne (Ne.symm hk)]
  have hbelow : RowKit.Below W0.heap.size W0.toWorld { w with heap := w.heap.setIfInBounds e.blk (.cells (spl cs (p - e.sh) xs) r.elem fz) } :=
    ⟨R.below.os, R.below.tape, R.below.output, by simpa using R.below.size, fun k hk => by
      show (w.heap.setIfInBounds _ _)[k]? = _
      rw [Array.getElem?_setIfInBounds_ne (by omega)]; exact R.below.block k hk⟩
  have hle : E.le (E.ins A.next e) := Env.ins_le R.nil
  have hmine : ∀ f' : Fam, f'.frz = f.frz → f'.strish = f.strish → ({ cells := r.cells.fill p l, n := p + l.length, lo := off, elem := r.elem, fam := r.fam, exact := false, cap := none } : Row).lies (E.ins A.next e) f' e { w with heap := w.heap.setIfInBounds e.blk (.cells (spl cs (p - e.sh) xs) r.elem fz) } := by
    intro f' hf1 hf2
    refine ⟨_, fz, hnew, fun hx => (by cases hx), by simp only; omega, hec, fun c hc => (by cases hc), by rw [spl_size]; exact hecs, ?_, ?_⟩
    · intro i v h1 h2 h3
      have h1' : off ≤ i := h1
      have h2' : i < p + l.length := h2
      have h3' : (r.cells.fill p l).at_ i = some v := h3
      rw [PT.at_fill] at h3'
      rw [spl_get _ _ _ _ (by omega)]
      by_cases hin : p ≤ i ∧ i < p + l.length
      · rw [if_pos hin] at h3'
        obtain ⟨x, hx, hrx⟩ := reals_get hl _ _ h3'
        refine ⟨x, real_le hle _ _ hrx, ?_⟩
        rw [if_pos (by omega), show i - e.sh - (p - e.sh) = i - p from by omega]; exact hx
      · rw [if_neg hin] at h3'
        obtain ⟨x, hrx, hx⟩ := hcells i v (by omega) (by omega) h3'
        refine ⟨x, real_le hle _ _ hrx, ?_⟩
        rw [if_neg (by omega)]; exact hx
    · refine ⟨hfr.1, fun i h1 h2 h3 => ?_⟩
      rw [hf1]
      exact hfr.2 i (fun hs => by have := h1 (by rw [hf2]; exact hs); rwa [spl_size] at this) h2 h3
  have hsm : ∀ c rc ec, A.heap.at_ c = some (.row rc) → rc.fam = r.fam → E c = some ec → ec.blk = e.blk → ec.ec ≤ rc.lo ∨ e.ec ≤ off ∨ ec.sh = e.sh := by
    intro c rc ec h1 h2 h3 h4
    rcases R.same c b rc r ec e h1 ha h2 (by rw [h2]; exact h0) h3 hE h4 with h | h | h
    · exact Or.inl h
    · exact Or.inr (Or.inl (by omega))
    · exact Or.inr (Or.inr h)
  unfold growRow
  split
  · rename_i hmx
    have hmx := Nat.le_of_ble_eq_true hmx
    refine R.member (A.fams.put r.fam _) ha hb hc hE h0 rfl (PT.at_put_same _ _ _) (fun k hk => PT.at_put_ne _ _ hk) (Nat.le_refl _) (Or.inl rfl) hkeep (by simp) (by simpa using hsz) hbelow hsm ⟨Nat.le_refl _, hmine _ rfl rfl⟩ ?_
    intro c rc hcr hfam hlet
    have hlet' : f.lets c = true := hlet
    refine ⟨hlet', fun h => by simp only; omega, fun ec hec' hl' => ?_⟩
    -- what was known of c lies ahead of p
    obtain ⟨cs2, fz2, h1, h2, h3, h4, h5, h6, h7, h8⟩ := hl'
    have hcn := R.mx c rc f hcr (by rw [hfam]; exact hb) (by rw [hfam]; exact h0) hlet'
    by_cases hblk : ec.blk = e.blk
    · rw [hblk, hcs] at h1
      simp only [Option.some.injEq, Obj.cells.injEq] at h1
      obtain ⟨rfl, helem, rfl⟩ := h1
      have hnew' : ({ w with heap := w.heap.setIfInBounds e.blk (.cells (spl cs (p - e.sh) xs) r.elem fz) } : World).heap[ec.blk]? = some (.cells (spl cs (p - e.sh) xs) r.elem fz) := by rw [hblk]; exact hnew
      refine ⟨spl cs (p - e.sh) xs, fz, by rw [← helem]; exact hnew', fun hx => ⟨(h2 hx).1, by rw [spl_size]; exact (h2 hx).2⟩, h3, h4, h5, by rw [spl_size]; exact h6, ?_, h8.1, fun i j1 j2 j3 => h8.2 i (fun hs => by have := j1 hs; rwa [spl_size] at this) j2 j3⟩
      intro i v j1 j2 j3
      obtain ⟨x, hx1, hx2⟩ := h7 i v j1 j2 j3
      refine ⟨x, hx1, ?_⟩
      have hrs := R.same c b rc r ec e hcr ha hfam (by rw [hfam]; exact h0) hec' hE hblk
      rw [spl_get _ _ _ _ (by omega), if_neg]
      · exact hx2
      · intro hh
        rcases hrs with h | h | h <;> omega
    · exact ⟨cs2, fz2, by rw [hkeep _ hblk (R.size c ec hec')]; exact h1, h2, h3, h4, h5, h6, h7, h8⟩
  · refine R.member (A.fams.put r.fam _) ha hb hc hE h0 rfl (PT.at_put_same _ _ _) (fun k hk => PT.at_put_ne _ _ hk) (Nat.le_refl _) (Or.inl rfl) hkeep (by simp) (by simpa using hsz) hbelow hsm ⟨Nat.le_refl _, hmine _ rfl rfl⟩ ?_
    intro c rc hcr hfam hlet
    exfalso
    have hcl := R.hlt hcr
    unfold Fam.lets at hlet
    simp only at hlet
    split at hlet
    · rename_i hq; have := Nat.eq_of_beq_eq_true hq; omega
    · have := Nat.le_of_ble_eq_true hlet; omega


/-- grown anew, in the same family -/
theorem Rel.growNew {G : Nat} {W0 : Base} {E : Env} {A : St} {w : World} (R : Rel G W0 E A w) {b off p : Nat} {r : Row} {f : Fam} {e : Ent} {l old : List AV} {xs os : List Value} (rest : List Value) (hr : rowOf A b = some (r, f)) (hE : E b = some e) (hl : reals E l = some xs)
    (hold : cellsAt A b off (p - off) = some old) (hos : reals E old = some os) (h0 : r.fam ≠ 0) (hop : off ≤ p) (_hp : p ≤ r.n) :
    Rel G W0 (E.ins A.next ⟨w.heap.size, off, p + l.length + rest.length⟩) (growRow A r f off p l) { w with heap := w.heap.push (.cells ((os ++ xs) ++ rest).toArray r.elem) } := by
  obtain ⟨ha, hb, hc⟩ := rowOf_ok hr
  have hxl := reals_length hl
  have hol := reals_length hos
  have hsz := R.size b e hE
  have hle : E.le (E.ins A.next ⟨w.heap.size, off, p + l.length + rest.length⟩) := Env.ins_le R.nil
  have hol2 : old.length = p - off := by
    obtain ⟨r', f', hr', _, _, ht⟩ := cellsAt_inv hold
    exact (PT.take_spec _ _ _ _ ht).1
  have hget : ∀ i, off ≤ i → i < p → r.cells.at_ i = old[i - off]? := fun i h1 h2 => by
    obtain ⟨r', f', hr', _, _, ht⟩ := cellsAt_inv hold
    rw [hr] at hr'; cases hr'
    have := (PT.take_spec _ _ _ _ ht).2 (i - off) (by omega)
    rw [show off + (i - off) = i from by omega] at this; exact this
  have hkeep : ∀ k, k ≠ e.blk → k < w.heap.size → ({ w with heap := w.heap.push (.cells ((os ++ xs) ++ rest).toArray r.elem) } : World).heap[k]? = w.heap[k]? := fun k _ hk => heap_push _ k hk
  have hmine : ∀ f' : Fam, ({ cells := r.cells.fill p l, n := p + l.length, lo := off, elem := r.elem, fam := r.fam, exact := false, cap := none } : Row).lies (E.ins A.next ⟨w.heap.size, off, p + l.length + rest.length⟩) f' ⟨w.heap.size, off, p + l.length + rest.length⟩ { w with heap := w.heap.push (.cells ((os ++ xs) ++ rest).toArray r.elem) } := by
    intro f'
    refine ⟨((os ++ xs) ++ rest).toArray, (0, 0), heap_push_new w _, fun hx => (by cases hx), Nat.le_refl _, by simp only; omega, fun c hc => (by cases hc), by simp; omega, ?_, Nat.le_refl _, fun i _ h1 h2 => by simp only at h2; omega⟩
    intro i v h1 h2 h3
    have h1' : off ≤ i := h1
    have h2' : i < p + l.length := h2
    have h3' : (r.cells.fill p l).at_ i = some v := h3
    rw [PT.at_fill] at h3'
    by_cases hin : p ≤ i ∧ i < p + l.length
    · rw [if_pos hin] at h3'
      obtain ⟨x, hx, hrx⟩ := reals_get hl _ _ h3'
      refine ⟨x, real_le hle _ _ hrx, ?_⟩
      simp only [List.getElem?_toArray]
      rw [List.getElem?_append_left (by simp; omega), List.getElem?_append_right (by omega), show i - off - os.length = i - p from by omega]; exact hx
    · rw [if_neg hin, hget i h1' (by omega)] at h3'
      obtain ⟨x, hx, hrx⟩ := reals_get hos _ _ h3'
      refine ⟨x, real_le hle _ _ hrx, ?_⟩
      simp only [List.getElem?_toArray]
      rw [List.getElem?_append_left (by simp; omega), List.getElem?_append_left (by omega)]; exact hx
  have hsm : ∀ c rc ec, A.heap.at_ c = some (.row rc) → rc.fam = r.fam → E c = some ec → ec.blk = w.heap.size → ec.ec ≤ rc.lo ∨ p + l.length + rest.length ≤ off ∨ ec.sh = off := by
    intro c rc ec h1 h2 h3 h4
    have := R.size c ec h3
    omega
  have hlies : ∀ f' : Fam, f'.frz = f.frz → f'.strish = f.strish → ∀ c rc ec, E c = some ec → rc.lies E f ec w → Row.lies E f' rc ec { w with heap := w.heap.push (.cells ((os ++ xs) ++ rest).toArray r.elem) } := by
    intro f' hf1 hf2 c rc ec hec hl'
    obtain ⟨cs2, fz2, h1, h2, h3, h4, h5, h6, h7, h8⟩ := hl'
    exact ⟨cs2, fz2, by rw [heap_push _ _ (R.size c ec hec)]; exact h1, h2, h3, h4, h5, h6, h7, h8.1, fun i j1 j2 j3 => by rw [hf1]; exact h8.2 i (fun hs => j1 (by rw [hf2]; exact hs)) j2 j3⟩
  unfold growRow
  split
  · rename_i hmx
    have hmx := Nat.le_of_ble_eq_true hmx
    refine R.member (A.fams.put r.fam _) ha hb hc hE h0 rfl (PT.at_put_same _ _ _) (fun k hk => PT.at_put_ne _ _ hk) (Nat.le_refl _) (Or.inr rfl) hkeep (by simp) (by simp) (below_push R.below R.below.size _) hsm ⟨Nat.le_refl _, hmine _⟩ ?_
    intro c rc hcr hfam hlet
    have hlet' : f.lets c = true := hlet
    exact ⟨hlet', fun h => by simp only; omega, fun ec hec hl' => hlies _ rfl rfl c rc ec hec hl'⟩
  · refine R.member (A.fams.put r.fam _) ha hb hc hE h0 rfl (PT.at_put_same _ _ _) (fun k hk => PT.at_put_ne _ _ hk) (Nat.le_refl _) (Or.inr rfl) hkeep (by simp) (by simp) (below_push R.below R.below.size _) hsm ⟨Nat.le_refl _, hmine _⟩ ?_
    intro c rc hcr hfam hlet
    exfalso
    have hcl := R.hlt hcr
    unfold Fam.lets at hlet
    simp only at hlet
    split at hlet
    · rename_i hq; have := Nat.eq_of_beq_eq_true hq; omega
    · have := Nat.le_of_ble_eq_true hlet; omega


/-- The model's own text, behind the count of what is appended. -/
def appNew (elem : TypeId) (size : Nat) (zeros : Bool) (x : Value) (n : Nat) : Sem (Array Value) :=
  if !zeros then Builtin.firstCells size n x
  else if n * size = 0 then pure #[]
  else do pure (Builtin.zeroCells (← zeroValue elem).cells n)
def appCore (elem : TypeId) (size : Nat) (zeros : Bool) (x : Value) (base : Option Addr) (sLen sCap : Nat) (s : Value) (n : Nat) : Sem Value := do
  let appended : Sem (Array Value) := appNew elem size zeros x n
  let need := sLen + n
  if need ≤ sCap then
    let new ← appended
    if let some a := base then storeCells (a.add (sLen * size)) new.toList
    pure (.slice base need sCap)
  else
    if (need : Int) > IntKind.i64.max ∧ (zeros ∨ (← typeInfo elem).bytes = 0) then runtimePanic (.error "growslice: len out of range")
    if Builtin.nextslicecap need sCap * (← typeInfo elem).bytes > 2 ^ 48 then (if zeros then runtimePanic (.error "growslice: len out of range") else do
      if !(← Builtin.mayShare size sLen n base x) then mark .noRoom
      unsupported (.resourceLimit "append: a slice or a string whose bytes no memory bears"))
    let newCap ← choose (.appendCap need sCap elem)
    askRoom (newCap * (← typeInfo elem).bytes)
    let old ← Builtin.firstCells size sLen s
    let new ← appended
    let rest := Builtin.zeroCells (← zeroValue elem).cells (newCap - need)
    pure (.slice (some (← Go.newRow elem (old ++ new ++ rest))) need newCap)
/-- What is appended, in the model: the count, then the core. -/
theorem appended_ok {P : Program} {G : Nat} {W0 : Base} {E : Env} {A : St} {w : World} (R : Rel G W0 E A w) {t ty el : TypeId} {i : TypeInfo} {t2 : TypeId} {x : AV} {x' : Value} {k : Nat} {l : List AV} (ht : P.underlying t = some (.slice el)) (hi : P.info? el = some i) (hby : i.bytes ≤ 4096)
    (h : appended P A el i.size (some t2) x = some (k, l)) (hx : real E x = some x') :
    ∃ (zeros : Bool) (xs : Array Value), (∀ base sLen sCap, (Builtin.append_ #[t, t2] ty #[.slice base sLen sCap, x']).run P w = (appCore el i.size zeros x' base sLen sCap (.slice base sLen sCap) k).run P w) ∧
      (∀ w', w'.heap = w.heap → RowKit.Below W0.heap.size W0.toWorld w' → (appNew el i.size zeros x' k).run P w' = .ok xs w') ∧ reals E l = some xs.toList := by
  unfold appended at h
  cases hz2 : isIntT P (some t2) with
  | none => rw [hz2] at h; cases h
  | some zz =>
    rw [hz2] at h
    unfold isIntT at hz2
    cases zz with
    | true =>
      simp only at h hz2
      have hd : ∃ kd, P.underlying t2 = some (.int kd) := by
        split at hz2
        · rename_i kd hd; exact ⟨kd, hd⟩
        · cases hz2
        · cases hz2
      obtain ⟨kd, hd⟩ := hd
      cases x <;> simp only at h <;> first | (cases h; done) | skip
      rename_i kk n
      cases real_int hx
      split at h
      · rename_i hb
        split at h
        · rename_i z hz
          split at h
          · rename_i hzl
            cases h
            have hzl := Nat.eq_of_beq_eq_true hzl
            obtain ⟨i', zv, hinfo', hzero, hzr⟩ := zeroCellsOf_ok E hz
            rw [hi] at hinfo'; cases hinfo'
            have hzs := reals_length hzr
            simp only [Array.length_toList] at hzs
            refine ⟨true, (Array.range (n.toNat * zv.cells.size)).map (fun j => zv.cells[j % zv.cells.size]!), ?_, ?_, reals_rep hzr n.toNat⟩
            · intro base sLen sCap
              unfold Builtin.append_
              simp only [List.getElem?_toArray, List.getElem?_cons_zero, List.getElem?_cons_succ]
              rw [bind_ok (run_underlying ht)]
              simp only
              rw [bind_ok (run_sizeOf hi), bind_ok (run_underlying hd), bind_ok (run_pure _)]
              refine Eq.trans (congrArg (fun s => Sem.run P s w) (if_pos rfl)) ?_
              have hai : (asInt (.int kk n)).run P w = .ok n w := rfl
              refine Eq.trans (bind_ok hai) ?_
              have hw := wrap_small hb.1 hb.2
              have hlt : ¬ (n < 0) := by omega
              have hbb : ¬ (n * (i.bytes : Int) > 2 ^ 48) := by
                have h1 : n * (i.bytes : Int) ≤ n * 4096 := Int.mul_le_mul_of_nonneg_left (by omega) hb.1
                have h2 : n * 4096 ≤ 2 ^ 48 := by omega
                omega
              rw [hw]
              refine Eq.trans (congrArg (fun s => Sem.run P s w) (if_neg hlt)) ?_
              refine Eq.trans (bind_ok (run_typeInfo hi)) ?_
              refine Eq.trans (congrArg (fun s => Sem.run P s w) (if_neg hbb)) ?_
              rfl
            · intro w' _ _
              unfold appNew
              simp only [Bool.not_true, Bool.false_eq_true, if_false]
              by_cases h0 : n.toNat * i.size = 0
              · rw [if_pos h0]
                have : n.toNat * zv.cells.size = 0 := by rw [hzs, hzl]; exact h0
                rw [this]
                have e0 : ∀ f : Nat → Value, (Array.range 0).map f = #[] := fun f => by simp
                rw [e0]; rfl
              · rw [if_neg h0, bind_ok (run_zeroValue hi hzero)]; rfl
          · cases h
        · cases h
      · cases h
    | false =>
      simp only at h hz2
      have hd : ∃ d, P.underlying t2 = some d ∧ (d matches .int _) = false := by
        split at hz2
        · cases hz2
        · rename_i d hn hd
          refine ⟨d, hd, ?_⟩
          cases d <;> first | rfl | exact (hn _ rfl).elim
        · cases hz2
      obtain ⟨d, hd, hdi⟩ := hd
      split at h
      · rename_i n hn
        split at h
        · rename_i l' hl
          cases h
          obtain ⟨xs, hxs, hr⟩ := srcCells_ok (P := P) R hl hx
          refine ⟨false, xs, ?_, ?_, hr⟩
          · intro base sLen sCap
            unfold Builtin.append_
            simp only [List.getElem?_toArray, List.getElem?_cons_zero, List.getElem?_cons_succ]
            rw [bind_ok (run_underlying ht)]
            simp only
            rw [bind_ok (run_sizeOf hi), bind_ok (run_underlying hd), bind_ok (run_pure _)]
            have hlen := lenOfA_ok (P := P) (w := w) hn hx
            clear hd
            cases d <;> first
              | (exact Bool.noConfusion (show true = false from hdi))
              | exact Eq.trans (congrArg (fun s => Sem.run P s w) (if_neg Bool.false_ne_true)) (Eq.trans (bind_ok hlen) rfl)
          · intro w' hw' hb'
            unfold appNew
            simp only [Bool.not_false, if_true]
            obtain ⟨xs', hxs', hr'⟩ := srcCells_ok (P := P) (R.alike hw' hb') hl hx
            rw [hr] at hr'
            have : xs' = xs := by
              have := Option.some.inj hr'
              exact (Array.toList_inj.1 this).symm
            rw [← this]; exact hxs'
        · cases h
      · cases h


theorem appCore_in {P : Program} {w w' : World} {el : TypeId} {sz : Nat} {zeros : Bool} {x : Value} {a : Addr} {sLen sCap k : Nat} {s : Value} {xs : Array Value} (hx : (appNew el sz zeros x k).run P w = .ok xs w) (hcap : sLen + k ≤ sCap)
    (hst : (storeCells (a.add (sLen * sz)) xs.toList).run P w = .ok () w') : (appCore el sz zeros x (some a) sLen sCap s k).run P w = .ok (.slice (some a) (sLen + k) sCap) w' := by
  unfold appCore
  rw [if_pos hcap, bind_ok hx]
  simp only
  rw [bind_ok hst]; rfl
theorem appCore_new {P : Program} {w : World} {el : TypeId} {i : TypeInfo} {z : Value} {zeros : Bool} {x : Value} {base : Option Addr} {sLen sCap k : Nat} {s : Value} {xs os : Array Value} (hi : P.info? el = some i) (hz : i.zero = some z) (hby : i.bytes ≤ 4096) (hneed : sLen + k ≤ 1073741824) (hcap : sCap < sLen + k)
    (hx : (appNew el i.size zeros x k).run P { w with drawn := w.drawn + 1 } = .ok xs { w with drawn := w.drawn + 1 }) (ho : (Builtin.firstCells i.size sLen s).run P { w with drawn := w.drawn + 1 } = .ok os { w with drawn := w.drawn + 1 }) :
    ∃ c, sLen + k ≤ c ∧ (appCore el i.size zeros x base sLen sCap s k).run P w = .ok (.slice (some ⟨w.heap.size, 0, none⟩) (sLen + k) c) { w with drawn := w.drawn + 1, heap := w.heap.push (.cells (os ++ xs ++ Builtin.zeroCells z.cells (c - (sLen + k))) el) } := by
  refine ⟨(Question.appendCap (sLen + k) sCap el).cut (w.tape w.drawn (.appendCap (sLen + k) sCap el)), ?_, ?_⟩
  · simp only [Question.cut]; omega
  · have hn := nextcap_le (sLen + k) sCap hcap
    have h1 : ¬ (((sLen + k : Nat) : Int) > IntKind.i64.max ∧ (zeros = true ∨ i.bytes = 0)) := by
      have : IntKind.i64.max = 9223372036854775807 := by decide
      rw [this]; omega
    have h2 : ¬ (Builtin.nextslicecap (sLen + k) sCap * i.bytes > 2 ^ 48) := by
      have h3 : Builtin.nextslicecap (sLen + k) sCap * i.bytes ≤ (2 * 1073741824 + 768) * 4096 := Nat.mul_le_mul (by omega) hby
      omega
    have hask : ∀ n (u : World), (askRoom n).run P u = .ok () u := fun n u => by unfold askRoom; split <;> rfl
    have hch : (choose (.appendCap (sLen + k) sCap el)).run P w = .ok ((Question.appendCap (sLen + k) sCap el).cut (w.tape w.drawn (.appendCap (sLen + k) sCap el))) { w with drawn := w.drawn + 1 } := rfl
    unfold appCore
    simp only
    rw [if_neg (by omega), bind_ok (run_typeInfo hi), if_neg h1, bind_ok (run_typeInfo hi), if_neg h2, bind_ok hch, bind_ok (run_typeInfo hi), bind_ok (hask _ _), bind_ok ho, bind_ok hx, bind_ok (run_zeroValue hi hz)]
    rfl
theorem aAppend_ok {P : Program} {G : Nat} {W0 : Base} {E : Env} {A A' : St} {w : World} (R : Rel G W0 E A w) {t t2 ty : TypeId} {s x v : AV} {s' x' : Value} (h : aAppend P A t (some t2) s x = some (v, A')) (hs : real E s = some s') (hx : real E x = some x') :
    ∃ y w', (Builtin.append_ #[t, t2] ty #[s', x']).run P w = .ok y w' ∧ Good G W0 E A' v y w' := by
  unfold aAppend at h
  split at h
  · rename_i el hd
    split at h
    · rename_i i hi
      split at h
      · rename_i hb
        obtain ⟨hsz0, hby, hzz⟩ := hb
        split at h
        · rename_i k l hap
          obtain ⟨zeros, xs, hrun, hnew, hl⟩ := appended_ok (ty := ty) R hd hi hby hap hx
          have hlen := reals_length hl
          simp only [Array.length_toList] at hlen
          have hzero : ∃ z, i.zero = some z ∧ z.cells.size = i.size := by
            cases hzc : zeroCellsOf P el with
            | none => rw [hzc] at hzz; cases hzz
            | some zl =>
              rw [hzc] at hzz
              obtain ⟨i', zv, hinfo', hz, hzr⟩ := zeroCellsOf_ok E hzc
              rw [hi] at hinfo'; cases hinfo'
              have := reals_length hzr
              simp only [Array.length_toList] at this
              have hzz := Option.some.inj hzz
              exact ⟨zv, hz, by omega⟩
          obtain ⟨z, hz, hzs⟩ := hzero
          have hdrew : Rel G W0 E A { w with drawn := w.drawn + 1 } := R.drew
          have hzc : ∀ n, (Builtin.zeroCells z.cells n).toList.length = n * i.size := fun n => by simp [Builtin.zeroCells, hzs]
          split at h
          · -- nil
            cases real_nilslice hs
            rw [hrun none 0 0]
            split at h
            · split at h
              · cases h
                have hx0 : xs = #[] := by simpa using hlen
                refine ⟨.slice none 0 0, w, ?_, E, E.le_refl, rfl, R⟩
                unfold appCore
                rw [if_pos (by omega), bind_ok (hnew w rfl R.below)]; rfl
              · cases h
            · rename_i hk
              have hk : k ≠ 0 := hk
              split at h
              · rename_i hkl
                obtain ⟨hk1, hk2⟩ := hkl
                cases h
                obtain ⟨c, hc, hrr⟩ := appCore_new (P := P) (w := w) (base := none) (s := .slice none 0 0) (sLen := 0) (sCap := 0) (os := #[]) hi hz hby (by omega) (by omega) (hnew _ rfl hdrew.below) rfl
                refine ⟨_, _, hrr, ?_⟩
                have hec : c * i.size = l.length + (Builtin.zeroCells z.cells (c - (0 + k))).toList.length := by
                  rw [hzc, hk2, ← Nat.add_mul]; congr 1; omega
                have hf := hdrew.fresh' el (Builtin.zeroCells z.cells (c - (0 + k))).toList hl (c * i.size) hec
                have hcells : (xs.toList ++ (Builtin.zeroCells z.cells (c - (0 + k))).toList).toArray = #[] ++ xs ++ Builtin.zeroCells z.cells (c - (0 + k)) := by
                  apply Array.ext'; simp
                rw [hcells] at hf
                refine ⟨_, Env.ins_le R.nil, ?_, hf⟩
                rw [real_slice_mk 0 k i.size (Env.ins_same _ _ _)]
                simp only [Nat.sub_zero, Nat.zero_add]
                rw [Nat.mul_div_cancel _ hsz0]
              · cases h
          · rename_i b off len sz
            obtain ⟨e, hE, rfl⟩ := real_slice hs
            rw [hrun]
            split at h
            · rename_i r f hsz hr
              have hsz := Nat.eq_of_beq_eq_true hsz
              subst hsz
              obtain ⟨ha, hb, hc⟩ := rowOf_ok hr
              obtain ⟨cs, fz, hcs, hex, hsh, hne, hcapr, hecs, hcells, hfr⟩ := row_sh R hr hE
              split at h
              · cases h
              · rename_i hlo
                have hlo := Nat.le_of_ble_eq_true hlo
                have capge : ∀ n, off + n * i.size ≤ e.ec → n ≤ (e.ec - off) / i.size := fun n hn => by
                  rw [Nat.le_div_iff_mul_le hsz0]; omega
                have capge' : ∀ n, n ≤ (e.ec - off) / i.size → off + n * i.size ≤ e.ec ∨ n = 0 := fun n hn => by
                  rw [Nat.le_div_iff_mul_le hsz0] at hn
                  rcases Nat.eq_zero_or_pos n with h0 | h0
                  · exact Or.inr h0
                  · left
                    have : 0 < n * i.size := Nat.mul_pos h0 hsz0
                    omega
                split at h
                · split at h
                  · split at h
                    · rename_i hin
                      have hin := Nat.le_of_ble_eq_true hin
                      cases h
                      have hx0 : xs = #[] := by simpa using hlen
                      subst hx0
                      refine ⟨_, w, appCore_in (hnew w rfl R.below) (by have := capge len (by omega); omega) rfl, E, E.le_refl, hs, R⟩
                    · cases h
                  · cases h
                · split at h
                  · rename_i hk0 hcond
                    have hk0 : k ≠ 0 := hk0
                    obtain ⟨hsm, hlk, hin⟩ := hcond
                    have hplace : (Addr.add ⟨e.blk, off - e.sh, none⟩ (len * i.size)) = ⟨e.blk, off + len * i.size - e.sh, none⟩ := by
                      rw [add_plain]; congr 1; omega
                    split at h
                    · rename_i hfit
                      have hfit := Nat.le_of_ble_eq_true hfit
                      split at h
                      · rename_i A2 hA2
                        cases h
                        obtain ⟨w', hst, hR⟩ := R.write (P := P) hA2 hE hl
                        refine ⟨_, w', appCore_in (hnew w rfl R.below) (capge _ (by omega)) (by rw [hplace]; exact hst), E, E.le_refl, real_slice_mk off (len + k) i.size hE, hR⟩
                      · cases h
                    · rename_i hfit
                      split at h
                      · rename_i c hrc
                        split at h
                        · rename_i hcn
                          split at h
                          · rename_i old hold
                            cases h
                            have hec : e.ec = c := hcapr c hrc
                            obtain ⟨e1, cs1, u1, fz1, os, he1, _, hcs1, hro, hol, hoc⟩ := cellsAt_ok hdrew hold hE
                            rw [hE] at he1; cases he1
                            have hfirst : (Builtin.firstCells i.size len (.slice (some ⟨e.blk, off - e.sh, none⟩) len ((e.ec - off) / i.size))).run P { w with drawn := w.drawn + 1 } = .ok os.toArray { w with drawn := w.drawn + 1 } := run_loadCells' hcs1 hol hoc
                            obtain ⟨cc, hcc, hrr⟩ := appCore_new (P := P) (w := w) (base := some ⟨e.blk, off - e.sh, none⟩) (sCap := (e.ec - off) / i.size) (sLen := len) hi hz hby hsm (by rw [hec]; exact hcn) (hnew _ rfl hdrew.below) hfirst
                            refine ⟨_, _, hrr, ?_⟩
                            have hlo2 := reals_length hro
                            have hec2 : cc * i.size = (old ++ l).length + (Builtin.zeroCells z.cells (cc - (len + k))).toList.length := by
                              rw [hzc, List.length_append, hlk, ← hlo2, hol, ← Nat.add_mul, ← Nat.add_mul]; congr 1; omega
                            have hf := hdrew.fresh' el (Builtin.zeroCells z.cells (cc - (len + k))).toList (reals_append hro hl) (cc * i.size) hec2
                            have hcl : (os ++ xs.toList ++ (Builtin.zeroCells z.cells (cc - (len + k))).toList).toArray = os.toArray ++ xs ++ Builtin.zeroCells z.cells (cc - (len + k)) := by
                              apply Array.ext'; simp
                            rw [hcl] at hf
                            refine ⟨_, Env.ins_le R.nil, ?_, hf⟩
                            rw [real_slice_mk 0 (len + k) i.size (Env.ins_same _ _ _)]
                            simp only [Nat.sub_zero]
                            rw [Nat.mul_div_cancel _ hsz0]
                          · cases h
                        · cases h
                      · split at h
                        · rename_i hcond2
                          obtain ⟨hf0, hel, hfz, hone⟩ := hcond2
                          split at h
                          · rename_i old hold
                            cases h
                            by_cases hroom : len + k ≤ (e.ec - off) / i.size
                            · have hk1 : len + k ≠ 0 := by omega
                              have hroom' := (capge' _ hroom).resolve_right hk1
                              obtain ⟨w', hst, hR⟩ := R.growIn (P := P) (off := off) (p := off + len * i.size) hr hE hl hf0 hlo (by omega) hin hfz hone (by rw [hlk, Nat.add_assoc, ← Nat.add_mul]; exact hroom')
                              refine ⟨_, w', appCore_in (hnew w rfl R.below) hroom (by rw [hplace]; exact hst), _, Env.ins_le R.nil, real_slice_mk off (len + k) i.size (Env.ins_same _ _ _), hR⟩
                            · obtain ⟨e1, cs1, u1, fz1, os, he1, _, hcs1, hro, hol, hoc⟩ := cellsAt_ok hdrew hold hE
                              rw [hE] at he1; cases he1
                              have hfirst : (Builtin.firstCells i.size len (.slice (some ⟨e.blk, off - e.sh, none⟩) len ((e.ec - off) / i.size))).run P { w with drawn := w.drawn + 1 } = .ok os.toArray { w with drawn := w.drawn + 1 } := run_loadCells' hcs1 hol hoc
                              obtain ⟨cc, hcc, hrr⟩ := appCore_new (P := P) (w := w) (base := some ⟨e.blk, off - e.sh, none⟩) (sCap := (e.ec - off) / i.size) (sLen := len) hi hz hby hsm (by omega) (hnew _ rfl hdrew.below) hfirst
                              refine ⟨_, _, hrr, ?_⟩
                              have hf := hdrew.growNew (off := off) (p := off + len * i.size) (Builtin.zeroCells z.cells (cc - (len + k))).toList hr hE hl (by rw [Nat.add_sub_cancel_left]; exact hold) hro hf0 (by omega) hin
                              have hcl : (os ++ xs.toList ++ (Builtin.zeroCells z.cells (cc - (len + k))).toList).toArray = os.toArray ++ xs ++ Builtin.zeroCells z.cells (cc - (len + k)) := by
                                apply Array.ext'; simp
                              rw [hcl, hel] at hf
                              refine ⟨_, Env.ins_le R.nil, ?_, hf⟩
                              rw [real_slice_mk off (len + k) i.size (Env.ins_same _ _ _)]
                              simp only [Nat.sub_self]
                              have : (off + len * i.size + l.length + (Builtin.zeroCells z.cells (cc - (len + k))).toList.length - off) / i.size = cc := by
                                have h1 : off + len * i.size + l.length + (Builtin.zeroCells z.cells (cc - (len + k))).toList.length - off = cc * i.size := by
                                  rw [hzc, hlk]
                                  have : cc * i.size = (len + k + (cc - (len + k))) * i.size := by congr 1; omega
                                  rw [this, Nat.add_mul, Nat.add_mul]; omega
                                rw [h1, Nat.mul_div_cancel _ hsz0]
                              rw [this]
                          · cases h
                        · cases h
                  · cases h
            · cases h
          · cases h
        · cases h
      · cases h
    · cases h
  · cases h

end Go.Am
