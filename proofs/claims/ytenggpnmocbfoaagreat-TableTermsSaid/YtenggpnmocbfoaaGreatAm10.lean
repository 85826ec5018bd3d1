/-
  THE ABSTRACT MACHINE, part 10: new memory, stores, copies.
-/
import Derived.Test.YtenggpnmocbfoaaGreatAm9
namespace Go.Am
set_option linter.unusedSectionVars false
variable [Sig]

/-- What a step that makes or writes memory owes. -/
def Good (G : Nat) (W0 : Base) (E : Env) (A' : St) (v : AV) (y : Value) (w' : World) : Prop :=
  ∃ E', E.le E' ∧ real E' v = some y ∧ Rel G W0 E' A' w'

/- STORES. -/
def writeRow (A : St) (b : Nat) (r : Row) (f : Fam) (off : Nat) (l : List AV) : St :=
  { heap := A.heap.put b (.row { r with cells := r.cells.fill off l }),
    fams := match Nat.beq f.owner b && ((Nat.beq f.last b && Nat.beq f.since b) || Nat.blt f.last f.since) with
      | true => A.fams
      | false => A.fams.put r.fam { f with owner := b, since := A.next },
    next := A.next }
def oneAll : List AV → Bool
  | [] => true
  | v :: vs => v.one && oneAll vs
theorem oneAll_ok {E : Env} : ∀ {l : List AV} {xs : List Value}, oneAll l = true → reals E l = some xs → ∀ x ∈ xs, x.oneCell = true
  | [], xs, _, h => by simp only [reals, Option.some.injEq] at h; subst h; simp
  | v :: vs, xs, ho, h => by
    obtain ⟨y, ys, rfl, hy, hys⟩ := reals_cons h
    simp only [oneAll, Bool.and_eq_true] at ho
    intro x hx
    rcases List.mem_cons.1 hx with rfl | hx
    · exact real_oneCell hy ho.1
    · exact oneAll_ok ho.2 hys x hx
/-- Cells are written: the abstract side. -/
def aWrite (A : St) (b off : Nat) (l : List AV) : Option St :=
  match rowOf A b with
  | some (r, f) => match r.fam with
    | 0 => none
    | _ => match Nat.ble r.lo off, Nat.ble (off + l.length) r.n, Nat.ble f.frz off, oneAll l with
      | true, true, true, true => some (writeRow A b r f off l)
      | _, _, _, _ => none
  | none => none
theorem Rel.write {P : Program} {G : Nat} {W0 : Base} {E : Env} {A A' : St} {w : World} (R : Rel G W0 E A w) {b off : Nat} {l : List AV} {xs : List Value} {e : Ent} (h : aWrite A b off l = some A') (hE : E b = some e) (hl : reals E l = some xs) :
    ∃ w', (storeCells ⟨e.blk, off - e.sh, none⟩ xs).run P w = .ok () w' ∧ Rel G W0 E A' w' := by
  unfold aWrite at h
  split at h
  · rename_i r f hr
    split at h
    · cases h
    · rename_i h0
      split at h
      · rename_i hlo hn hfz ho
        cases h
        obtain ⟨ha, hb, hc⟩ := rowOf_ok hr
        have hlies := row_sh R hr hE
        obtain ⟨cs, fz, hcs, hex, hsh, hne, hcap, hec, hcells, hfr⟩ := hlies
        have hlo := Nat.le_of_ble_eq_true hlo
        have hn := Nat.le_of_ble_eq_true hn
        have hfz := Nat.le_of_ble_eq_true hfz
        have hxl := reals_length hl
        have hb1 := oneAll_ok ho hl
        have hown := R.own b e hE (by rw [grp_row ha]; exact h0)
        have hsz := R.size b e hE
        refine ⟨_, run_storeCells xs 0 w cs hcs hb1 (by simp only [Nat.add_zero]; omega) (fun j h1 h2 hf => ?_), ?_⟩
        · have := hfr.2 j (fun _ => by omega) hf.1 hf.2
          omega
        · simp only [Nat.add_zero]
          have hnew : ({ w with heap := w.heap.setIfInBounds e.blk (.cells (spl cs (off - e.sh) xs) r.elem fz) } : World).heap[e.blk]? = some (.cells (spl cs (off - e.sh) xs) r.elem fz) := by
            show (w.heap.setIfInBounds _ _)[e.blk]? = _
            rw [Array.getElem?_setIfInBounds_self_of_lt hsz]
          have hlies' : ∀ f' : Fam, f'.frz = f.frz → f'.strish = f.strish → ({ r with cells := r.cells.fill off l } : Row).lies E f' e { w with heap := w.heap.setIfInBounds e.blk (.cells (spl cs (off - e.sh) xs) r.elem fz) } := by
            intro f' hf1 hf2
            refine ⟨_, fz, hnew, fun hx => ⟨(hex hx).1, by rw [spl_size]; exact (hex hx).2⟩, hsh, hne, hcap, by rw [spl_size]; exact hec, ?_, ?_⟩
            · intro i v h1 h2 h3
              have h3' : (r.cells.fill off l).at_ i = some v := h3
              rw [PT.at_fill] at h3'
              rw [spl_get _ _ _ _ (by omega)]
              by_cases hin : off ≤ i ∧ i < off + l.length
              · rw [if_pos hin] at h3'
                obtain ⟨x, hx, hrx⟩ := reals_get hl _ _ h3'
                refine ⟨x, hrx, ?_⟩
                rw [if_pos (by omega), show i - e.sh - (off - e.sh) = i - off from by omega]; exact hx
              · rw [if_neg hin] at h3'
                obtain ⟨x, hrx, hx⟩ := hcells i v h1 h2 h3'
                refine ⟨x, hrx, ?_⟩
                have h1' : r.lo ≤ i := h1
                rw [if_neg (by omega)]; exact hx
            · refine ⟨hfr.1, fun i h1 h2 h3 => ?_⟩
              rw [hf1]
              exact hfr.2 i (fun hs => by have := h1 (by rw [hf2]; exact hs); rwa [spl_size] at this) h2 h3
          have hbelow : RowKit.Below W0.heap.size W0.toWorld { w with heap := w.heap.setIfInBounds e.blk (.cells (spl cs (off - e.sh) xs) r.elem fz) } :=
            ⟨R.below.os, R.below.tape, R.below.output, by simpa using R.below.size, fun k hk => by
              show (w.heap.setIfInBounds _ _)[k]? = _
              rw [Array.getElem?_setIfInBounds_ne (by omega)]; exact R.below.block k hk⟩
          have hkeep : ∀ k, k ≠ e.blk → ({ w with heap := w.heap.setIfInBounds e.blk (.cells (spl cs (off - e.sh) xs) r.elem fz) } : World).heap[k]? = w.heap[k]? := fun k hk => by
            show (w.heap.setIfInBounds _ _)[k]? = _
            rw [Array.getElem?_setIfInBounds_ne (Ne.symm hk)]
          have hmx := R.mx b r f ha hb h0 hc
          have hlast := R.last b r f ha hb h0
          unfold writeRow
          split
          · rename_i hcond
            simp only [Bool.and_eq_true, Bool.or_eq_true] at hcond
            obtain ⟨ho1, ho2⟩ := hcond
            have ho1 := Nat.eq_of_beq_eq_true ho1
            refine R.turn A.fams ha hb hc hE h0 rfl rfl hb (fun _ _ => rfl) (Nat.le_refl _) hkeep (by simp) hbelow (fun _ => ⟨hmx, hlies' f rfl rfl⟩) ?_
            intro c rc hcb hcr hfam hlet
            -- no other one may be read
            exfalso
            have hcl := R.last c rc f hcr (by rw [hfam]; exact hb) (by rw [hfam]; exact h0)
            have hcl' := R.famlt c rc hcr
            unfold Fam.lets at hlet
            split at hlet
            · rename_i hq; have := Nat.eq_of_beq_eq_true hq; omega
            · have := Nat.le_of_ble_eq_true hlet
              rcases ho2 with h | h
              · have h1 := Nat.eq_of_beq_eq_true h.1
                have h2 := Nat.eq_of_beq_eq_true h.2
                omega
              · have h := Nat.le_of_ble_eq_true h
                omega
          · refine R.turn (A.fams.put r.fam { f with owner := b, since := A.next }) ha hb hc hE h0 rfl rfl (PT.at_put_same _ _ _) (fun k hk => PT.at_put_ne _ _ hk) (Nat.le_refl _) hkeep (by simp) hbelow (fun _ => ⟨hmx, hlies' _ rfl rfl⟩) ?_
            intro c rc hcb hcr hfam hlet
            exfalso
            have hcl := R.hlt hcr
            unfold Fam.lets at hlet
            simp only at hlet
            split at hlet
            · rename_i hq; have := Nat.eq_of_beq_eq_true hq; omega
            · have := Nat.le_of_ble_eq_true hlet; omega
      · cases h
  · cases h


def aStore (P : Program) (A : St) (t : TypeId) (p v : AV) : Option St :=
  match p with
  | .ptr b off => match P.info? t with
    | some i => match Nat.beq v.cells.length i.size with
      | true => aWrite A b off v.cells
      | false => none
    | none => none
  | _ => none
theorem aStore_ok {P : Program} {G : Nat} {W0 : Base} {E : Env} {A A' : St} {w : World} (R : Rel G W0 E A w) {t : TypeId} {p v : AV} {p' v' : Value} (h : aStore P A t p v = some A') (hp : real E p = some p') (hv : real E v = some v') :
    ∃ w', (Instr.storeAt t p' v').run P w = .ok () w' ∧ Rel G W0 E A' w' := by
  unfold aStore at h
  split at h
  · obtain ⟨e, hE, rfl⟩ := real_ptr hp
    split at h
    · rename_i i hi
      split at h
      · rename_i hsz
        have hc := real_cells hv
        obtain ⟨w', hrun, hR⟩ := R.write (P := P) h hE hc
        refine ⟨w', ?_, hR⟩
        unfold Instr.storeAt Instr.sureAddr
        rw [bind_ok (run_pure _)]
        unfold storeVar
        rw [bind_ok (run_sizeOf hi)]
        have hl := reals_length hc
        have hsz := Nat.eq_of_beq_eq_true hsz
        simp only [Array.length_toList] at hl
        have : v'.cells.size = i.size := by omega
        simp only [this, ne_eq, not_true_eq_false, if_false]
        exact hrun
      · cases h
    · cases h
  · cases h

/- NEW ROWS. -/
theorem Rel.new {P : Program} {G : Nat} {W0 : Base} {E : Env} {A : St} {w : World} (R : Rel G W0 E A w) (elem : TypeId) {l : List AV} {xs : Array Value} (h : reals E l = some xs.toList) :
    ∃ w', (Go.newRow elem xs).run P w = .ok ⟨w.heap.size, 0, none⟩ w' ∧ E A.next = none ∧ Rel G W0 (E.ins A.next ⟨w.heap.size, 0, l.length⟩) (Am.newRow A elem l) w' := by
  obtain ⟨h1, h2⟩ := R.newRow elem l xs h
  exact ⟨_, rfl, h1, h2⟩
theorem good_ptr {G : Nat} {W0 : Base} {E : Env} {A A' : St} {b ec : Nat} {w' : World} (hn : E A.next = none) (hR : Rel G W0 (E.ins A.next ⟨b, 0, ec⟩) A' w') : Good G W0 E A' (.ptr A.next 0) (.pointer (some ⟨b, 0, none⟩)) w' :=
  ⟨_, Env.ins_le hn, real_ptr_mk 0 (Env.ins_same _ _ _), hR⟩
def aAlloc (P : Program) (A : St) (t : TypeId) : Option (AV × St) :=
  match aZero P t with
  | some z => some (.ptr A.next 0, newRow A t z.cells)
  | none => none
theorem aAlloc_ok {P : Program} {G : Nat} {W0 : Base} {E : Env} {A A' : St} {w : World} (R : Rel G W0 E A w) {t : TypeId} {v : AV} (h : aAlloc P A t = some (v, A')) :
    ∃ y w', (Instr.alloc t true (.tuple #[])).run P w = .ok y w' ∧ Good G W0 E A' v y w' := by
  unfold aAlloc at h
  split at h
  · rename_i z hz
    cases h
    obtain ⟨zv, hzr, hzz⟩ := aZero_ok (P := P) E (w := w) hz
    obtain ⟨w', hrun, hn, hR⟩ := R.new (P := P) t (real_cells hzz)
    refine ⟨_, w', ?_, good_ptr hn hR⟩
    unfold Instr.alloc
    rw [bind_ok hzr]
    simp only
    unfold newVar
    rw [bind_ok hrun]; rfl
  · cases h
def aBox (A : St) (t : TypeId) (x : AV) : AV × St := (.ptr A.next 0, newRow A t x.cells)
theorem aBox_ok {P : Program} {G : Nat} {W0 : Base} {E : Env} {A : St} {w : World} (R : Rel G W0 E A w) {t : TypeId} {x : AV} {x' : Value} (hx : real E x = some x') :
    ∃ y w', (Instr.box t x').run P w = .ok y w' ∧ Good G W0 E (aBox A t x).2 (aBox A t x).1 y w' := by
  obtain ⟨w', hrun, hn, hR⟩ := R.new (P := P) t (real_cells hx)
  refine ⟨_, w', ?_, good_ptr hn hR⟩
  unfold Instr.box newVar
  rw [bind_ok hrun]; rfl

def rep (n : Nat) (l : List AV) : List AV :=
  match n with
  | 0 => []
  | n + 1 => l ++ rep n l
theorem rep_length : ∀ (n : Nat) (l : List AV), (rep n l).length = n * l.length
  | 0, l => by simp [rep]
  | n + 1, l => by simp [rep, rep_length n l, Nat.succ_mul, Nat.add_comm]
/-- n times the cells of a zero -/
theorem reals_rep {E : Env} {l : List AV} {zs : Array Value} (h : reals E l = some zs.toList) : ∀ n, reals E (rep n l) = some ((Array.range (n * zs.size)).map (fun i => zs[i % zs.size]!)).toList := by
  intro n
  induction n with
  | zero => simp [rep, reals]
  | succ n ih =>
    have hl := reals_length h
    simp only [Array.length_toList] at hl
    have : reals E (rep (n + 1) l) = some (zs.toList ++ ((Array.range (n * zs.size)).map (fun i => zs[i % zs.size]!)).toList) := reals_append h ih
    rw [this]
    congr 1
    apply List.ext_getElem?
    intro i
    rcases Nat.eq_zero_or_pos zs.size with h0 | h0
    · have : zs = #[] := by simpa using h0
      subst this; simp
    by_cases hi : i < zs.size
    · rw [List.getElem?_append_left (by simpa using hi)]
      have hi2 : i < (n + 1) * zs.size := by rw [Nat.succ_mul]; omega
      simp [hi2, hi, Nat.mod_eq_of_lt hi]
    · rw [List.getElem?_append_right (by simp; omega)]
      simp only [Array.length_toList]
      by_cases hi2 : i < (n + 1) * zs.size
      · have hi3 : i - zs.size < n * zs.size := by rw [Nat.succ_mul] at hi2; omega
        have hm : (i - zs.size) % zs.size = i % zs.size := by
          conv => rhs; rw [show i = (i - zs.size) + zs.size from by omega]
          rw [Nat.add_mod_right]
        simp [hi2, hi3, hm]
      · have hi3 : ¬ i - zs.size < n * zs.size := by rw [Nat.succ_mul] at hi2; omega
        simp [hi2, hi3]

/-- A slice that is written out. -/
def aBuildSlice (P : Program) (A : St) (t : TypeId) (len : Nat) (parts : List (Nat × AV)) : Option (AV × St) :=
  match P.underlying t with
  | some (.slice el) => match P.info? el with
    | some i => match i.size, Nat.ble (len * i.size) 16777216 with
      | 0, _ => none
      | _, false => none
      | sz, true => match zeroCellsOf P el with
        | some z => match Nat.beq z.length sz with
          | true => match aFill (fun j => some (j * sz, sz)) (rep len z) parts with
            | some l => some (.slice A.next 0 len sz, newRow A el l)
            | none => none
          | false => none
        | none => none
    | none => none
  | _ => none
theorem lspl_length : ∀ (vs l : List AV) (off : Nat), (lspl l off vs).length = l.length
  | [], l, off => rfl
  | v :: vs, l, off => by simp [lspl, lspl_length vs]
theorem aFill_length {place : Nat → Option (Nat × Nat)} : ∀ (ps : List (Nat × AV)) (l l' : List AV), aFill place l ps = some l' → l'.length = l.length
  | [], l, l', h => by simp only [aFill] at h; cases h; rfl
  | (i, v) :: ps, l, l', h => by
    simp only [aFill] at h
    split at h
    · cases h
    · split at h
      · rw [aFill_length ps _ l' h, lspl_length]
      · cases h
theorem good_slice {G : Nat} {W0 : Base} {E : Env} {A A' : St} {b ec len sz c : Nat} {w' : World} (hn : E A.next = none) (hR : Rel G W0 (E.ins A.next ⟨b, 0, ec⟩) A' w') (hc : ec / sz = c) : Good G W0 E A' (.slice A.next 0 len sz) (.slice (some ⟨b, 0, none⟩) len c) w' :=
  ⟨_, Env.ins_le hn, by rw [real_slice_mk 0 len sz (Env.ins_same _ _ _)]; simp only [Nat.sub_zero, hc], hR⟩
theorem aBuildSlice_ok {P : Program} {G : Nat} {W0 : Base} {E : Env} {A A' : St} {w : World} (R : Rel G W0 E A w) {t : TypeId} {len : Nat} {ps : List (Nat × AV)} {qs : Array (Nat × Value)} {v : AV}
    (h : aBuildSlice P A t len ps = some (v, A')) (hi : ps.map (·.1) = qs.toList.map (·.1)) (hr : reals E (ps.map (·.2)) = some (qs.toList.map (·.2))) :
    ∃ y w', (Instr.buildSlice t len qs).run P w = .ok y w' ∧ Good G W0 E A' v y w' := by
  unfold aBuildSlice at h
  split at h
  · rename_i el hd
    split at h
    · rename_i i hinfo
      split at h
      · cases h
      · cases h
      · rename_i hbig hs0
        split at h
        · rename_i z hz
          split at h
          · rename_i hzl
            split at h
            · rename_i l hl
              cases h
              have hbig := Nat.le_of_ble_eq_true hbig
              have hzl := Nat.eq_of_beq_eq_true hzl
              obtain ⟨i', zv, hinfo', hzero, hzr⟩ := zeroCellsOf_ok E hz
              rw [hinfo] at hinfo'; cases hinfo'
              have hzs := reals_length hzr
              simp only [Array.length_toList] at hzs
              obtain ⟨cs', hf, hl'⟩ := aFill_ok ps qs.toList _ l _ hl (reals_rep hzr len) hi hr
              have hll : l.length = len * i.size := by rw [aFill_length _ _ _ hl, rep_length, hzl]
              obtain ⟨w', hrun, hn, hR⟩ := R.new (P := P) el hl'
              have hne : i.size ≠ 0 := fun e => hs0 e
              refine ⟨.slice (some ⟨w.heap.size, 0, none⟩) len len, w', ?_, good_slice hn hR (by rw [hll]; exact Nat.mul_div_cancel _ (Nat.pos_of_ne_zero hne))⟩
              unfold Instr.buildSlice
              rw [bind_ok (run_underlying hd)]
              simp only
              rw [bind_ok (run_sizeOf hinfo)]
              have h1 : ¬ (len * i.size > 2 ^ 24) := by omega
              rw [if_neg h1]
              have hzi : zv.cells.size = i.size := by omega
              rw [hzi] at hf
              by_cases h0 : len * i.size = 0
              · rw [if_pos h0, bind_ok (run_pure _), h0]
                rw [h0] at hf
                have e0 : ∀ f : Nat → Value, (Array.range 0).map f = #[] := fun f => by simp
                rw [e0] at hf
                simp only [e0, hf]
                rw [bind_ok hrun]; rfl
              · rw [if_neg h0, bind_ok (run_zeroValue hinfo hzero), bind_ok (run_pure _)]
                simp only [hzi, hf]
                rw [bind_ok hrun]; rfl
            · cases h
          · cases h
        · cases h
    · cases h
  · cases h


/- make([]T, len, cap) -/
def aMakeSlice (P : Program) (A : St) (t : TypeId) (len cap : AV) : Option (AV × St) :=
  match len, cap with
  | .int _ l, .int _ c => match P.underlying t with
    | some (.slice el) => match P.info? el with
      | some i => if 0 ≤ l ∧ l ≤ c ∧ c ≤ 1073741824 ∧ i.bytes ≤ 4096 ∧ 0 < i.size then
          match zeroCellsOf P el with
          | some z => match Nat.beq z.length i.size with
            | true => some (.slice A.next 0 l.toNat i.size, newRow A el (rep c.toNat z))
            | false => none
          | none => none
        else none
      | none => none
    | _ => none
  | _, _ => none
theorem wrap_small {n : Int} (h0 : 0 ≤ n) (h1 : n ≤ 1073741824) : IntKind.i64.wrap n = n := by
  have e1 : (2 ^ IntKind.i64.bits : Int) = 18446744073709551616 := by decide
  have e2 : (2 ^ (IntKind.i64.bits - 1) : Int) = 9223372036854775808 := by decide
  unfold IntKind.wrap
  rw [e1, e2]
  have : n % 18446744073709551616 = n := by omega
  simp only [this]
  rw [if_neg]
  simp only [Bool.and_eq_true, decide_eq_true_eq, not_and]
  intro _; omega
theorem aMakeSlice_ok {P : Program} {G : Nat} {W0 : Base} {E : Env} {A A' : St} {w : World} (R : Rel G W0 E A w) {t : TypeId} {len cap v : AV} {len' cap' : Value} (h : aMakeSlice P A t len cap = some (v, A')) (hl : real E len = some len') (hc : real E cap = some cap') :
    ∃ y w', (Instr.makeSlice t len' cap').run P w = .ok y w' ∧ Good G W0 E A' v y w' := by
  unfold aMakeSlice at h
  split at h
  · rename_i k1 l k2 c
    cases real_int hl; cases real_int hc
    split at h
    · rename_i el hd
      split at h
      · rename_i i hinfo
        split at h
        · rename_i hcond
          obtain ⟨h0, hlc, hcb, hby, hsz⟩ := hcond
          split at h
          · rename_i z hz
            split at h
            · rename_i hzl
              cases h
              have hzl := Nat.eq_of_beq_eq_true hzl
              obtain ⟨i', zv, hinfo', hzero, hzr⟩ := zeroCellsOf_ok E hz
              rw [hinfo] at hinfo'; cases hinfo'
              have hzs := reals_length hzr
              simp only [Array.length_toList] at hzs
              have hzi : zv.cells.size = i.size := by omega
              have hrep := reals_rep hzr c.toNat
              obtain ⟨w', hrun, hn, hR⟩ := R.new (P := P) el hrep
              refine ⟨.slice (some ⟨w.heap.size, 0, none⟩) l.toNat c.toNat, w', ?_, good_slice hn hR (by rw [rep_length, hzl]; exact Nat.mul_div_cancel _ hsz)⟩
              unfold Instr.makeSlice
              rw [bind_ok (run_underlying hd)]
              simp only
              rw [bind_ok (a := l) rfl, bind_ok (a := c) rfl, bind_ok (run_typeInfo hinfo)]
              have hw1 : IntKind.i64.wrap l = l := wrap_small h0 (by omega)
              have hw2 : IntKind.i64.wrap c = c := wrap_small (by omega) hcb
              have hb : (i.bytes : Int) * c ≤ 2 ^ 48 := by
                have h1 : (i.bytes : Int) * c ≤ 4096 * c := Int.mul_le_mul_of_nonneg_right (by omega) (by omega)
                have : (4096 : Int) * c ≤ 2 ^ 48 := by omega
                omega
              simp only [hw1, hw2]
              have hbad : ((decide (c < 0) || decide ((i.bytes : Int) * c > 2 ^ 48)) || decide (l < 0) || decide (l > c)) = false := by
                simp only [Bool.or_eq_false_iff, decide_eq_false_iff_not]; omega
              rw [hbad]
              simp only [Bool.false_eq_true, if_false]
              have hask : ∀ n, (askRoom n).run P w = .ok () w := fun n => by unfold askRoom; split <;> rfl
              rw [bind_ok (hask _), bind_ok (run_sizeOf hinfo)]
              have hl2 : l.toNat = l.toNat := rfl
              rw [hzi] at hrun
              by_cases hcz : c.toNat * i.size = 0
              · rw [if_pos hcz, bind_ok (run_pure _)]
                rw [hcz] at hrun ⊢
                have e0 : ∀ f : Nat → Value, (Array.range 0).map f = #[] := fun f => by simp
                simp only [e0] at hrun ⊢
                rw [bind_ok hrun]; rfl
              · rw [if_neg hcz, bind_ok (run_zeroValue hinfo hzero), bind_ok (run_pure _)]
                simp only [hzi]
                rw [bind_ok hrun]; rfl
            · cases h
          · cases h
        · cases h
      · cases h
    · cases h
  · cases h

/- COPY. -/
def srcCells (A : St) (n sz : Nat) (x : AV) : Option (List AV) :=
  match x with
  | .nilslice => some []
  | .slice b off _ _ => cellsAt A b off (n * sz)
  | .str s => match Nat.beq sz 1 with
    | true => some ((s.take n).map fun b => .int .u8 b.toNat)
    | false => none
  | _ => none
def lenOfA (x : AV) : Option Nat :=
  match x with
  | .nilslice => some 0
  | .slice _ _ len _ => some len
  | .str s => some s.length
  | _ => none
theorem reals_bytes {E : Env} : ∀ s : List UInt8, reals E (s.map fun b => AV.int .u8 b.toNat) = some (s.map fun b => Value.int .u8 b.toNat)
  | [] => rfl
  | b :: s => reals_mk rfl (reals_bytes s)
theorem lenOfA_ok {P : Program} {E : Env} {w : World} {x : AV} {x' : Value} {n : Nat} (h : lenOfA x = some n) (hx : real E x = some x') : (Builtin.lenOf x').run P w = .ok n w := by
  cases x <;> simp only [lenOfA] at h <;> first | (cases h; done) | skip
  · cases real_str hx; cases h; rfl
  · obtain ⟨e, _, rfl⟩ := real_slice hx; cases h; rfl
  · cases real_nilslice hx; cases h; rfl
theorem srcCells_ok {P : Program} {G : Nat} {W0 : Base} {E : Env} {A : St} {w : World} (R : Rel G W0 E A w) {n sz : Nat} {x : AV} {x' : Value} {l : List AV} (h : srcCells A n sz x = some l) (hx : real E x = some x') :
    ∃ xs, (Builtin.firstCells sz n x').run P w = .ok xs w ∧ reals E l = some xs.toList := by
  unfold srcCells at h
  split at h
  · cases real_nilslice hx; cases h; exact ⟨#[], rfl, rfl⟩
  · obtain ⟨e0, hE, rfl⟩ := real_slice hx
    obtain ⟨e, cs, u, fz, xs, he, _, hcs, hr, hl, hc⟩ := cellsAt_ok R h hE
    rw [hE] at he; cases he
    exact ⟨xs.toArray, run_loadCells' hcs hl hc, hr⟩
  · rename_i s
    cases real_str hx
    split at h
    · cases h
      refine ⟨_, rfl, ?_⟩
      rw [extract_mk]
      have : (s.take n).drop 0 = s.take n := rfl
      simp only [this]
      show _ = some ((Array.map _ (⟨s.take n⟩ : Array UInt8)).toList)
      rw [Array.toList_map]
      exact reals_bytes _
    · cases h
  · cases h
def aCopy (P : Program) (A : St) (t : TypeId) (dst src : AV) : Option (AV × St) :=
  match P.underlying t with
  | some (.slice el) => match P.info? el with
    | some i => match lenOfA src with
      | some m => match dst with
        | .nilslice => match srcCells A (Nat.min m 0) i.size src with
          | some _ => some (.int .i64 (Nat.min m 0), A)
          | none => none
        | .slice b off len _ => match srcCells A (Nat.min m len) i.size src with
          | some l => match aWrite A b off l with
            | some A' => some (.int .i64 (Nat.min m len), A')
            | none => none
          | none => none
        | _ => none
      | none => none
    | none => none
  | _ => none
theorem aCopy_ok {P : Program} {G : Nat} {W0 : Base} {E : Env} {A A' : St} {w : World} (R : Rel G W0 E A w) {t t2 ty : TypeId} {dst src v : AV} {dst' src' : Value} (h : aCopy P A t dst src = some (v, A')) (hd : real E dst = some dst') (hs : real E src = some src') :
    ∃ y w', (Builtin.copy_ #[t, t2] ty #[dst', src']).run P w = .ok y w' ∧ Good G W0 E A' v y w' := by
  unfold aCopy at h
  split at h
  · rename_i el hdt
    split at h
    · rename_i i hi
      split at h
      · rename_i m hm
        have hlen := lenOfA_ok (P := P) (w := w) hm hs
        split at h
        · cases real_nilslice hd
          split at h
          · rename_i l hl
            cases h
            obtain ⟨xs, hxs, hr⟩ := srcCells_ok (P := P) R hl hs
            refine ⟨_, w, ?_, E, E.le_refl, rfl, R⟩
            unfold Builtin.copy_
            simp only [List.getElem?_toArray, List.getElem?_cons_zero, List.getElem?_cons_succ]
            rw [bind_ok (run_underlying hdt)]
            simp only
            rw [bind_ok hlen, bind_ok (run_sizeOf hi), bind_ok hxs]; rfl
          · cases h
        · rename_i b off len sz
          obtain ⟨e, hE, rfl⟩ := real_slice hd
          split at h
          · rename_i l hl
            split at h
            · rename_i A2 hA2
              cases h
              obtain ⟨xs, hxs, hr⟩ := srcCells_ok (P := P) R hl hs
              obtain ⟨w', hrun, hR⟩ := R.write (P := P) hA2 hE hr
              refine ⟨_, w', ?_, E, E.le_refl, rfl, hR⟩
              unfold Builtin.copy_
              simp only [List.getElem?_toArray, List.getElem?_cons_zero, List.getElem?_cons_succ]
              rw [bind_ok (run_underlying hdt)]
              simp only
              rw [bind_ok hlen, bind_ok (run_sizeOf hi), bind_ok hxs, bind_ok hrun]; rfl
            · cases h
          · cases h
        · cases h
      · cases h
    · cases h
  · cases h

end Go.Am
