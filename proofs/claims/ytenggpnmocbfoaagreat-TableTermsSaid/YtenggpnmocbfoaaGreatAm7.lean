/-
  THE ABSTRACT MACHINE, part 7: the other operations that only read.
-/
import Derived.Test.YtenggpnmocbfoaaGreatAm6
import Derived.Laws.Tables
import Derived.Laws.Slices
import Derived.Laws.BytesArg
import Derived.Laws.BytesString
namespace Go.Am
set_option linter.unusedSectionVars false
variable [Sig]

theorem plain_add (b o i : Nat) : (Addr.add ⟨b, o, none⟩ i) = ⟨b, o + i, none⟩ := add_plain b o i

/- ONE OPERAND. -/
def aUn (op : UnOp) (x : AV) : Option AV :=
  match op, x with
  | .neg, .int k n => some (.int k (k.wrap (0 - n)))
  | .xor, .int k n => intBin .xor k (if k.signed then -1 else k.max) n
  | .not, .bool b => some (.bool (!b))
  | _, _ => none
theorem aUn_ok {P : Program} {E : Env} {w : World} {op : UnOp} {x v : AV} {x' : Value} (h : aUn op x = some v) (hx : real E x = some x') :
    ∃ y, (Op.unary op x').run P w = .ok y w ∧ real E v = some y := by
  unfold aUn at h
  split at h
  · cases real_int hx; cases h; exact ⟨_, rfl, rfl⟩
  · cases real_int hx; cases h; exact ⟨_, rfl, rfl⟩
  · cases real_bool hx; cases h; exact ⟨_, rfl, rfl⟩
  · cases h

/- BYTES AS A STRING. -/
def toByte : AV → Option UInt8
  | .int .u8 n => some (UInt8.ofNat n.toNat)
  | _ => none
def toBytes : List AV → Option (List UInt8)
  | [] => some []
  | v :: vs => match toByte v with
    | some b => match toBytes vs with
      | some bs => some (b :: bs)
      | none => none
    | none => none
theorem toBytes_ok {E : Env} : ∀ {vs : List AV} {bs : List UInt8} {xs : List Value}, toBytes vs = some bs → reals E vs = some xs → ∃ ns : List Int, xs = ns.map (Value.int .u8) ∧ bs = ns.map (fun n => UInt8.ofNat n.toNat)
  | [], bs, xs, h, hr => by simp only [toBytes] at h; cases h; simp only [reals] at hr; cases hr; exact ⟨[], rfl, rfl⟩
  | v :: vs, bs, xs, h, hr => by
    obtain ⟨y, ys, rfl, hy, hys⟩ := reals_cons hr
    simp only [toBytes] at h
    split at h
    · rename_i b hb
      split at h
      · rename_i bs' hbs
        cases h
        obtain ⟨ns, rfl, rfl⟩ := toBytes_ok hbs hys
        unfold toByte at hb
        split at hb
        · rename_i n
          cases hb
          cases real_int hy
          exact ⟨n :: ns, rfl, rfl⟩
        · cases hb
      · cases h
    · cases h
def aBytesToString (A : St) (x : AV) : Option AV :=
  match x with
  | .nilslice => some (.str [])
  | .slice b off len sz => match Nat.beq sz 1 with
    | true => match cellsAt A b off len with
      | some vs => match toBytes vs with
        | some bs => some (.str bs)
        | none => none
      | none => none
    | false => none
  | _ => none
def aConvert (P : Program) (A : St) (src dst : TypeId) (x : AV) : Option AV :=
  match x with
  | .int _ n => match P.underlying src with
    | some _ => match P.underlying dst with
      | some (.int k) => some (.int k (k.wrap n))
      | _ => none
    | none => none
  | .str s => match P.underlying src with
    | some _ => match P.underlying dst with
      | some .string => some (.str s)
      | _ => none
    | none => none
  | .slice _ _ _ _ => match P.underlying src with
    | some (.slice e) => match P.underlying e with
      | some (.int .u8) => match P.underlying dst with
        | some .string => aBytesToString A x
        | _ => none
      | _ => none
    | _ => none
  | .nilslice => match P.underlying src with
    | some (.slice e) => match P.underlying e with
      | some (.int .u8) => match P.underlying dst with
        | some .string => aBytesToString A x
        | _ => none
      | _ => none
    | _ => none
  | .nilp => match P.underlying src, P.underlying dst with
    | some (.pointer _), some .unsafePointer => some .nilp
    | some .unsafePointer, some (.pointer _) => some .nilp
    | _, _ => none
  | .ptr b off => match P.underlying src, P.underlying dst with
    | some (.pointer t), some .unsafePointer => match rowOf A b, P.info? t with
      | some (r, _), some i => match r.exact, Nat.ble 1 i.size, Nat.blt off r.n with
        | true, true, true => some (.ptr b off)
        | _, _, _ => none
      | _, _ => none
    | some .unsafePointer, some (.pointer u) => match rowOf A b, P.info? u with
      | some (r, _), some i => match r.exact, Nat.ble 1 i.size, liesAt P P.depth r.elem (r.n / P.cellsOf r.elem) off u 1 with
        | true, true, true => some (.ptr b off)
        | _, _, _ => none
      | _, _ => none
    | _, _ => none
  | _ => none
theorem aBytesToString_ok {P : Program} {G : Nat} {W0 : Base} {E : Env} {A : St} {w : World} (R : Rel G W0 E A w) {src dst e : TypeId} {x v : AV} {x' : Value} (hs : P.underlying src = some (.slice e)) (he : P.underlying e = some (.int .u8)) (hd : P.underlying dst = some .string)
    (h : aBytesToString A x = some v) (hx : real E x = some x') : ∃ y, (convert src dst x').run P w = .ok y w ∧ real E v = some y := by
  unfold aBytesToString at h
  split at h
  · cases real_nilslice hx
    cases h
    exact ⟨_, run_convert_bytes_nil w src e hs he 0 0 dst hd, rfl⟩
  · rename_i b off len sz
    split at h
    · rename_i hsz
      split at h
      · rename_i vs hv
        split at h
        · rename_i bs hbs
          cases h
          obtain ⟨ee, hee, rfl⟩ := real_slice hx
          obtain ⟨e', cs, u, fz, xs, he', _, hcs, hr, hl, hc⟩ := cellsAt_ok R hv hee
          rw [hee] at he'; cases he'
          obtain ⟨ns, rfl, rfl⟩ := toBytes_ok hbs hr
          have hl' : ns.length = len := by simpa using hl
          refine ⟨_, run_convert_bytes_arg w src e hs he ee.blk (off - ee.sh) len _ ns hl' (fun i hi => ?_) dst hd, ?_⟩
          · rw [cell_of hcs, hc i hi]
            have hi' : i < ns.length := by omega
            simp [List.getElem?_eq_getElem hi']
          · show some (Value.string ⟨⟨_⟩⟩) = some (.string (strOfNums ns))
            congr 2
        · cases h
      · cases h
    · cases h
  · cases h
theorem run_seenAt {P : Program} {w : World} {b o : Nat} {cs : Array Value} {t : TypeId} {fz : Nat × Nat} (h : w.heap[b]? = some (.cells cs t fz)) : (Conv.seenAt ⟨b, o, none⟩).run P w = .ok ⟨b, o, none⟩ w := by
  unfold Conv.seenAt viewAt
  simp [Sem.run, shape, shape_of h, bind, Sem.bind, pure]
theorem run_cellsIn {P : Program} {w : World} {b : Nat} {cs : Array Value} {t : TypeId} {fz : Nat × Nat} (h : w.heap[b]? = some (.cells cs t fz)) : (cellsIn b).run P w = .ok (some cs.size) w := by
  unfold cellsIn
  simp [Sem.run, shape, shape_of h, bind, Sem.bind, pure]
theorem aConvert_ok {P : Program} {G : Nat} {W0 : Base} {E : Env} {A : St} {w : World} (R : Rel G W0 E A w) {src dst : TypeId} {x v : AV} {x' : Value} (h : aConvert P A src dst x = some v) (hx : real E x = some x') :
    ∃ y, (convert src dst x').run P w = .ok y w ∧ real E v = some y := by
  unfold aConvert at h
  split at h
  · rename_i k n
    cases real_int hx
    split at h
    · rename_i d0 hd0
      split at h
      · rename_i k' hd
        cases h
        refine ⟨.int k' (k'.wrap n), ?_, rfl⟩
        unfold convert
        rw [bind_ok (run_underlying hd0), bind_ok (run_underlying hd)]
        cases d0 <;> rfl
      · cases h
    · cases h
  · rename_i s
    cases real_str hx
    split at h
    · rename_i d0 hd0
      split at h
      · rename_i hd
        cases h
        refine ⟨_, ?_, rfl⟩
        unfold convert
        rw [bind_ok (run_underlying hd0), bind_ok (run_underlying hd)]
        cases d0 <;> rfl
      · cases h
    · cases h
  · split at h
    · rename_i e hs
      split at h
      · rename_i he
        split at h
        · rename_i hd; exact aBytesToString_ok R hs he hd h hx
        · cases h
      · cases h
    · cases h
  · split at h
    · rename_i e hs
      split at h
      · rename_i he
        split at h
        · rename_i hd; exact aBytesToString_ok R hs he hd h hx
        · cases h
      · cases h
    · cases h
  · cases real_nilp hx
    split at h
    · rename_i e hs hd
      cases h
      refine ⟨_, ?_, rfl⟩
      unfold convert
      rw [bind_ok (run_underlying hs), bind_ok (run_underlying hd)]
      simp only
      unfold Conv.unsafePointer
      rw [bind_ok (run_underlying hs), bind_ok (run_underlying hd)]; rfl
    · rename_i e hs hd
      cases h
      refine ⟨_, ?_, rfl⟩
      unfold convert
      rw [bind_ok (run_underlying hs), bind_ok (run_underlying hd)]
      simp only
      unfold Conv.unsafePointer
      rw [bind_ok (run_underlying hs), bind_ok (run_underlying hd)]; rfl
    · cases h
  · rename_i b off
    obtain ⟨e, hE, rfl⟩ := real_ptr hx
    split at h
    · rename_i t hs hd
      split at h
      · rename_i r f i hr hi
        split at h
        · rename_i hex hsz hlt
          cases h
          obtain ⟨ha, hb, hc⟩ := rowOf_ok hr
          obtain ⟨cs, fz, hcs, hex', hsh, _⟩ := R.rows b r f e ha hb hc hE
          obtain ⟨hsh0, hcz⟩ := hex' hex
          have hlt := Nat.le_of_ble_eq_true hlt
          have hsz := Nat.le_of_ble_eq_true hsz
          refine ⟨_, ?_, real_ptr_mk off hE⟩
          unfold convert
          rw [bind_ok (run_underlying hs), bind_ok (run_underlying hd)]
          simp only
          unfold Conv.unsafePointer
          rw [bind_ok (run_underlying hs), bind_ok (run_underlying hd)]
          simp only
          rw [bind_ok (run_seenAt hcs), bind_ok (run_cellsIn hcs)]
          simp only
          rw [bind_ok (run_sizeOf hi)]
          have h1 : (i.size = 0) = False := by simp; omega
          have h2 : decide (off - e.sh ≥ cs.size) = false := by simp; omega
          simp only [h1, h2, decide_false, Bool.false_and, Bool.or_self, Bool.false_eq_true, if_false]; rfl
        · cases h
      · cases h
    · rename_i u hs hd
      split at h
      · rename_i r f i hr hi
        split at h
        · rename_i hex hsz hlt
          cases h
          obtain ⟨ha, hb, hc⟩ := rowOf_ok hr
          obtain ⟨cs, fz, hcs, hex', hsh, _⟩ := R.rows b r f e ha hb hc hE
          obtain ⟨hsh0, hcz⟩ := hex' hex
          have hsz := Nat.le_of_ble_eq_true hsz
          refine ⟨_, ?_, real_ptr_mk off hE⟩
          unfold convert
          rw [bind_ok (run_underlying hs), bind_ok (run_underlying hd)]
          simp only
          unfold Conv.unsafePointer
          rw [bind_ok (run_underlying hs), bind_ok (run_underlying hd)]
          simp only
          rw [bind_ok (run_seenAt hcs), bind_ok (run_sizeOf hi)]
          have h1 : (i.size = 0) = False := by simp; omega
          have hv : (variablesAt ⟨e.blk, off - e.sh, none⟩ u 1).run P w = .ok true w := by
            unfold variablesAt
            rw [bind_ok run_program]
            have hshp : (shape e.blk).run P w = .ok (some (r.elem, cs.size)) w := by show Result.ok (w.shape? e.blk) w = _; rw [shape_of hcs]
            rw [bind_ok hshp]
            simp only [hsh0, Nat.sub_zero, hcz, hlt]; rfl
          rw [bind_ok hv]
          simp only [h1, decide_false, Bool.or_true, if_true]; rfl
        · cases h
      · cases h
    · cases h
  · cases h

end Go.Am
