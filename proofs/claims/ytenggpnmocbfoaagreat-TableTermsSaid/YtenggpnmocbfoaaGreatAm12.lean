/-
  THE ABSTRACT MACHINE, part 12: slices of slices and arrays; strings as bytes; strings over bytes.
-/
import Derived.Test.YtenggpnmocbfoaaGreatAm11
namespace Go.Am
set_option linter.unusedSectionVars false
variable [Sig]

/-- A further name for a part of a row. -/
def aliasRow (A : St) (r : Row) (f : Fam) (lo n : Nat) (cap : Option Nat) : St :=
  { heap := A.heap.put A.next (.row { cells := r.cells, n, lo, elem := r.elem, fam := r.fam, exact := false, cap }),
    fams := A.fams.put r.fam { f with last := A.next },
    next := A.next + 1 }
theorem Rel.alias {G : Nat} {W0 : Base} {E : Env} {A : St} {w : World} (R : Rel G W0 E A w) {b lo n : Nat} {r : Row} {f : Fam} {e : Ent} (cap : Option Nat) (e' : Ent) (hr : rowOf A b = some (r, f)) (hE : E b = some e)
    (h0 : r.fam ≠ 0) (hlo : r.lo ≤ lo) (hn : n ≤ r.n) (hblk : e'.blk = e.blk) (hec : n ≤ e'.ec) (hcap : ∀ c, cap = some c → e'.ec = c) (hsh : e'.sh ≤ lo) (hroom : e'.ec - e'.sh ≤ e.ec - e.sh)
    (hw : e'.sh = e.sh ∨ (n ≤ lo ∧ e'.ec ≤ lo ∧ f.frz = 0)) :
    Rel G W0 (E.ins A.next e') (aliasRow A r f lo n cap) w := by
  obtain ⟨ha, hb, hc⟩ := rowOf_ok hr
  obtain ⟨cs, fz, hcs, hex, hesh, hne, hcapr, hecs, hcells, hfr⟩ := row_sh R hr hE
  have hle : E.le (E.ins A.next e') := Env.ins_le R.nil
  have hmx := R.mx b r f ha hb h0 hc
  unfold aliasRow
  refine R.member (w' := w) (A.fams.put r.fam { f with last := A.next }) ha hb hc hE h0 rfl (PT.at_put_same _ _ _) (fun k hk => PT.at_put_ne _ _ hk) (Nat.le_refl _) (Or.inl hblk) (fun _ _ _ => rfl) (Nat.le_refl _) (by rw [hblk]; exact R.size b e hE) R.below ?_ ⟨by simp only; omega, ?_⟩ ?_
  · intro c rc ec h1 h2 h3 h4
    rcases hw with hw | hw
    · rcases R.same c b rc r ec e h1 ha h2 (by rw [h2]; exact h0) h3 hE (by rw [h4, hblk]) with h | h | h
      · exact Or.inl h
      · right; left
        show e'.ec ≤ lo
        omega
      · right; right; rw [h, hw]
    · exact Or.inr (Or.inl hw.2.1)
  · refine ⟨cs, fz, by rw [hblk]; exact hcs, fun hx => (by cases hx), hsh, hec, hcap, by omega, ?_, ?_⟩
    · intro i v h1 h2 h3
      have h1' : lo ≤ i := h1
      have h2' : i < n := h2
      rcases hw with hw | hw
      · obtain ⟨x, hx, hcx⟩ := hcells i v (by omega) (by omega) h3
        exact ⟨x, real_le hle _ _ hx, by rw [hw]; exact hcx⟩
      · omega
    · refine ⟨hfr.1, fun i h1 h2 h3 => ?_⟩
      show i + e'.sh < f.frz
      have h := hfr.2 i h1 h2 h3
      rcases hw with hw | hw
      · rw [hw]; exact h
      · omega
  · intro c rc hcr hfam hlet
    have hlet' : f.lets c = true := hlet
    exact ⟨hlet', fun h => h, fun ec _ hl' => hl'⟩

def aSliceSl (P : Program) (A : St) (t : TypeId) (b off len sz : Nat) (lo hi : Option AV) : Option (AV × St) :=
  match P.underlying t with
  | some (.slice el) => match P.info? el, rowOf A b, bound? 0 lo, bound? len hi with
    | some i, some (r, f), some l, some h => if i.size = sz ∧ 0 < sz ∧ r.lo ≤ off ∧ l ≤ h ∧ off + h * sz ≤ r.n then
        match l with
        | 0 => some (.slice b off h sz, A)
        | _ => match Nat.ble (off + (l + 1) * sz) r.n with
          | true => some (.slice b (off + l * sz) (h - l) sz, A)
          | false => if r.fam ≠ 0 ∧ f.frz = 0 ∧ h = l then some (.slice A.next (off + l * sz) 0 sz, aliasRow A r f (off + l * sz) (off + l * sz) none) else none
      else none
    | _, _, _, _ => none
  | _ => none
theorem run_slice {P : Program} {w : World} {t el : TypeId} {i : TypeInfo} {a : Option Addr} {len cap l h m : Nat} {lo hi mx : Option Value} (hd : P.underlying t = some (.slice el)) (hi' : P.info? el = some i)
    (hb : (Instr.sliceBounds true len cap lo hi mx).run P w = .ok (l, h, m) w) : (Instr.sliceAt t (.slice a len cap) lo hi mx).run P w = .ok (.slice (if m = l then a else a.map (·.add (l * i.size))) (h - l) (m - l)) w := by
  unfold Instr.sliceAt
  rw [bind_ok (run_underlying hd)]
  simp only
  unfold Instr.slice
  rw [bind_ok (run_underlying hd)]
  simp only
  rw [bind_ok hb, bind_ok (run_sizeOf hi')]; rfl
theorem aSliceSl_ok {P : Program} {G : Nat} {W0 : Base} {E : Env} {A A' : St} {w : World} (R : Rel G W0 E A w) {t : TypeId} {b off len sz : Nat} {lo hi : Option AV} {lo' hi' : Option Value} {v : AV} {x' : Value}
    (h : aSliceSl P A t b off len sz lo hi = some (v, A')) (hx : real E (.slice b off len sz) = some x') (vl : bval E lo lo') (vh : bval E hi hi') :
    ∃ y, (Instr.sliceAt t x' lo' hi' none).run P w = .ok y w ∧ Good G W0 E A' v y w := by
  obtain ⟨e, hE, rfl⟩ := real_slice hx
  unfold aSliceSl at h
  split at h
  · rename_i el hd
    split at h
    · rename_i i r f l hh hi2 hr hl hhh
      split at h
      · rename_i hcond
        obtain ⟨hsz, hsz0, hlo, hlh, hin⟩ := hcond
        obtain ⟨cs, fz, hcs, hex, hesh, hne, hcapr, hecs, hcells, hfr⟩ := row_sh R hr hE
        have hcap : hh ≤ (e.ec - off) / sz := by rw [Nat.le_div_iff_mul_le hsz0]; omega
        have hrun := run_slice (a := some ⟨e.blk, off - e.sh, none⟩) hd hi2 (run_bounds (P := P) (w := w) (isSlice := true) (cap := (e.ec - off) / sz) hl hhh vl vh hlh hcap)
        refine ⟨_, hrun, ?_⟩
        rw [hsz]
        split at h
        · cases h
          refine ⟨E, E.le_refl, ?_, R⟩
          rw [real_slice_mk off hh sz hE]
          congr 2
          split
          · rfl
          · simp only [Option.map_some]; rw [add_plain]; congr 2; omega
        · rename_i hl0
          have hl0 : l ≠ 0 := hl0
          split at h
          · rename_i hmore
            have hmore := Nat.le_of_ble_eq_true hmore
            cases h
            have hlt : l + 1 ≤ (e.ec - off) / sz := by rw [Nat.le_div_iff_mul_le hsz0]; omega
            refine ⟨E, E.le_refl, ?_, R⟩
            rw [real_slice_mk _ _ sz hE, if_neg (by omega)]
            simp only [Option.map_some]
            rw [add_plain]
            congr 2
            · congr 2; omega
            · rw [Nat.sub_add_eq, Nat.mul_comm l sz, Nat.sub_mul_div]
          · split at h
            · rename_i hc2
              obtain ⟨h0, hfz, hhl⟩ := hc2
              cases h
              subst hhl
              simp only [Nat.sub_self]
              by_cases hm : (e.ec - off) / sz = hh
              · rw [if_pos hm, hm, Nat.sub_self]
                refine ⟨_, Env.ins_le R.nil, ?_, R.alias none ⟨e.blk, e.sh + hh * sz, off + hh * sz⟩ hr hE h0 (by omega) hin rfl (Nat.le_refl _) (fun c hc => by cases hc) (by simp only; omega) (by simp only; omega) (Or.inr ⟨Nat.le_refl _, Nat.le_refl _, hfz⟩)⟩
                rw [real_slice_mk _ _ sz (Env.ins_same _ _ _)]
                simp only [Nat.sub_self, Nat.zero_div]
                congr 4; omega
              · rw [if_neg hm]
                simp only [Option.map_some]
                rw [add_plain]
                refine ⟨_, Env.ins_le R.nil, ?_, R.alias none e hr hE h0 (by omega) hin rfl (by omega) (fun c hc => by cases hc) (by omega) (Nat.le_refl _) (Or.inl rfl)⟩
                rw [real_slice_mk _ _ sz (Env.ins_same _ _ _)]
                congr 2
                · congr 2; omega
                · rw [Nat.sub_add_eq, Nat.mul_comm hh sz, Nat.sub_mul_div]
            · cases h
      · cases h
    · cases h
  · cases h
def aSliceArr (P : Program) (A : St) (t : TypeId) (b off : Nat) (lo hi : Option AV) : Option (AV × St) :=
  match P.underlying t with
  | some (.array n el) => match P.info? el, rowOf A b, bound? 0 lo, bound? n hi with
    | some i, some (r, _), some l, some h => if 0 < i.size ∧ r.lo ≤ off ∧ l ≤ h ∧ h ≤ n ∧ r.cap = some (off + n * i.size) ∧ (l < n ∨ l = 0) then
        some (.slice b (off + l * i.size) (h - l) i.size, A)
      else none
    | _, _, _, _ => none
  | _ => none
theorem aSliceArr_ok {P : Program} {G : Nat} {W0 : Base} {E : Env} {A A' : St} {w : World} (R : Rel G W0 E A w) {t : TypeId} {b off : Nat} {lo hi : Option AV} {lo' hi' : Option Value} {v : AV} {x' : Value}
    (h : aSliceArr P A t b off lo hi = some (v, A')) (hx : real E (.ptr b off) = some x') (vl : bval E lo lo') (vh : bval E hi hi') :
    ∃ y, (Instr.sliceAt t x' lo' hi' none).run P w = .ok y w ∧ Good G W0 E A' v y w := by
  obtain ⟨e, hE, rfl⟩ := real_ptr hx
  unfold aSliceArr at h
  split at h
  · rename_i n el hd
    split at h
    · rename_i i r f l hh hi2 hr hl hhh
      split at h
      · rename_i hcond
        obtain ⟨hsz0, hlo, hlh, hhn, hcap, hln⟩ := hcond
        cases h
        obtain ⟨cs, fz, hcs, hex, hesh, hne, hcapr, hecs, hcells, hfr⟩ := row_sh R hr hE
        have hec := hcapr _ hcap
        refine ⟨.slice (some ⟨e.blk, off + l * i.size - e.sh, none⟩) (hh - l) (n - l), ?_, E, E.le_refl, ?_, R⟩
        · unfold Instr.sliceAt
          rw [bind_ok (run_underlying hd)]
          simp only
          unfold Instr.sureAddr
          rw [bind_ok (run_pure _), bind_ok (run_bounds (P := P) (w := w) (isSlice := false) (cap := n) hl hhh vl vh hlh hhn)]
          simp only
          rw [bind_ok (run_sizeOf hi2)]
          show Result.ok _ w = _
          congr 3
          split
          · rename_i hnl
            have : l = 0 := by omega
            subst this; congr 1; omega
          · rw [add_plain]; congr 1; omega
        · rw [real_slice_mk _ _ i.size hE]
          congr 2
          rw [hec]
          have : off + n * i.size - (off + l * i.size) = (n - l) * i.size := by rw [Nat.sub_mul]; omega
          rw [this, Nat.mul_div_cancel _ hsz0]
      · cases h
    · cases h
  · cases h
def aSliceNil (P : Program) (t : TypeId) (lo hi : Option AV) : Bool :=
  match P.underlying t with
  | some (.slice el) => match P.info? el, bound? 0 lo, bound? 0 hi with
    | some _, some 0, some 0 => true
    | _, _, _ => false
  | _ => false
theorem aSliceNil_ok {P : Program} {E : Env} {w : World} {t : TypeId} {lo hi : Option AV} {lo' hi' : Option Value} (h : aSliceNil P t lo hi = true) (vl : bval E lo lo') (vh : bval E hi hi') :
    (Instr.sliceAt t (.slice none 0 0) lo' hi' none).run P w = .ok (.slice none 0 0) w := by
  unfold aSliceNil at h
  split at h
  · rename_i el hd
    split at h
    · rename_i i hi2 hl hhh
      have := run_slice (a := none) hd hi2 (run_bounds (P := P) (w := w) (isSlice := true) (cap := 0) hl hhh vl vh (Nat.le_refl _) (Nat.le_refl _))
      rw [this]; simp
    · cases h
  · cases h

/- A STRING AS BYTES. -/
def strRow (A : St) (elem : TypeId) (s : List UInt8) : St :=
  { heap := A.heap.put A.next (.row { cells := PT.leaf.fill 0 (s.map fun b => AV.int .u8 b.toNat), n := s.length, lo := 0, elem, fam := A.next, exact := false, cap := none }),
    fams := A.fams.put A.next { owner := A.next, since := A.next, last := A.next, mx := s.length, frz := 0, strish := true },
    next := A.next + 1 }
def aStrBytes (P : Program) (A : St) (src dst : TypeId) (s : List UInt8) : Option (AV × St) :=
  match P.underlying src with
  | some .string => match P.underlying dst with
    | some (.slice el) => match P.underlying el with
      | some (.int .u8) => some (.slice A.next 0 s.length 1, strRow A el s)
      | _ => none
    | _ => none
  | _ => none
theorem aStrBytes_ok {P : Program} {G : Nat} {W0 : Base} {E : Env} {A A' : St} {w : World} (R : Rel G W0 E A w) {src dst : TypeId} {s : List UInt8} {v : AV} (h : aStrBytes P A src dst s = some (v, A')) :
    ∃ y w', (convert src dst (.string ⟨⟨s⟩⟩)).run P w = .ok y w' ∧ Good G W0 E A' v y w' := by
  unfold aStrBytes at h
  split at h
  · rename_i hs
    split at h
    · rename_i el hd
      split at h
      · rename_i he
        cases h
        let c := (Question.appendCap s.length 0 el).cut (w.tape w.drawn (.appendCap s.length 0 el))
        have hcge : s.length ≤ c := by show s.length ≤ s.length + _; omega
        let cells : Array Value := (s.map fun b => Value.int .u8 b.toNat).toArray ++ Array.replicate (c - s.length) (.int .u8 0)
        have hsz : cells.size = c := by simp only [cells]; simp; omega
        let w1 : World := { w with drawn := w.drawn + 1 }
        let w2 : World := { w1 with heap := w1.heap.push (.cells cells el) }
        let w3 : World := { w1 with heap := w1.heap.push (.cells cells el (c, c + 1)) }
        have hfreeze : w2.freeze { block := w.heap.size, off := c } 1 = w3 := by
          unfold World.freeze
          rw [if_neg (by decide)]
          simp only [w2, w3, w1]
          congr 1
          apply Array.ext_getElem?
          intro k
          rw [Array.getElem?_modify]
          by_cases hk : w.heap.size = k
          · subst hk; simp
          · rw [if_neg hk, Array.getElem?_push, Array.getElem?_push, if_neg (Ne.symm hk), if_neg (Ne.symm hk)]
        refine ⟨.slice (some ⟨w.heap.size, 0, none⟩) s.length c, w3, ?_, ?_⟩
        · unfold convert
          rw [bind_ok (run_underlying hs), bind_ok (run_underlying hd)]
          simp only
          rw [bind_ok (run_underlying he)]
          simp only
          unfold Conv.stringToBytes
          have hch : (choose (.appendCap (ByteArray.mk ⟨s⟩).size 0 el)).run P w = .ok c w1 := rfl
          rw [bind_ok hch]
          have hel : ((ByteArray.mk ⟨s⟩).data.map fun b => Value.int .u8 b.toNat) ++ Array.replicate (c - (ByteArray.mk ⟨s⟩).size) (.int .u8 0) = cells := by
            have : (ByteArray.mk ⟨s⟩).size = s.length := rfl
            rw [this]
            simp only [cells]
            congr 1
            apply Array.ext'; simp
          have hnr : (Go.newRow el cells).run P w1 = .ok ⟨w.heap.size, 0, none⟩ w2 := rfl
          simp only [hel]
          rw [bind_ok hnr]
          have hms : (markStringish ⟨w.heap.size, 0, none⟩).run P w2 = .ok () w3 := by
            unfold markStringish
            have hsh : (shape w.heap.size).run P w2 = .ok (some (el, c)) w2 := by
              show Result.ok (w2.shape? w.heap.size) w2 = _
              rw [shape_of (b := w.heap.size) (cs := cells) (t := el) (fz := (0, 0)) (heap_push_new w1 _), hsz]
            rw [bind_ok hsh]
            simp only
            show Result.ok () (w2.freeze _ 1) = _
            rw [hfreeze]
          rw [bind_ok hms]; rfl
        · have hR := R.drew
          refine ⟨_, Env.ins_le R.nil, ?_, hR.push (.cells cells el (c, c + 1)) _ _ 0 c (fun k hk => PT.at_put_ne _ _ (Nat.ne_of_lt hk)) ?_ trivial⟩
          · rw [real_slice_mk 0 s.length 1 (Env.ins_same _ _ _)]; simp
          · intro r hr
            cases hr
            have hle : E.le (E.ins A.next ⟨w.heap.size, 0, c⟩) := Env.ins_le R.nil
            refine ⟨rfl, _, PT.at_put_same _ _ _, Nat.le_refl _, Nat.le_refl _, cells, (c, c + 1), heap_push_new w1 _, fun hx => (by cases hx), Nat.le_refl _, hcge, fun c hc => (by cases hc), by simp only; omega, ?_, Nat.le_succ _, fun i h1 h2 h3 => ?_⟩
            · intro i v _ hi hv
              have hi' : i < s.length := hi
              have hv' : (PT.leaf.fill 0 (s.map fun b => AV.int .u8 b.toNat)).at_ i = some v := hv
              rw [PT.at_fill, if_pos (by simp; omega)] at hv'
              obtain ⟨x, hx, hr⟩ := reals_get (reals_bytes (E := E) s) i v (by simpa using hv')
              refine ⟨x, real_le hle v x hr, ?_⟩
              simp only [cells, Nat.sub_zero]
              rw [Array.getElem?_append_left (by simp; omega)]
              simpa using hx
            · have := h1 rfl
              simp only at h2
              omega
      · cases h
    · cases h
  · cases h

end Go.Am
