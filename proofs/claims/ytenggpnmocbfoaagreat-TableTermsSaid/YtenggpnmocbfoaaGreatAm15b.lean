/-
  THE ABSTRACT MACHINE, part 15b: a slice with a bound for its room.
-/
import Derived.Test.YtenggpnmocbfoaaGreatAm15
namespace Go.Am
set_option linter.unusedSectionVars false
variable [Sig]

theorem run_bounds3 {P : Program} {E : Env} {w : World} {isSlice : Bool} {len cap : Nat} {lo : Option AV} {lo' : Option Value} {hi mx : AV} {hi' mx' : Value} {l h m : Nat} (hl : bound? 0 lo = some l) (hh : bound? 0 (some hi) = some h)
    (hm : bound? 0 (some mx) = some m) (vl : bval E lo lo') (vh : real E hi = some hi') (vm : real E mx = some mx') (h1 : l ≤ h) (h2 : h ≤ m) (h3 : m ≤ cap) :
    (Instr.sliceBounds isSlice len cap lo' (some hi') (some mx')).run P w = .ok (l, h, m) w := by
  unfold Instr.sliceBounds
  simp only
  rw [bind_ok (run_bound hm vm h3), bind_ok (run_bound hh vh h2)]
  cases lo with
  | none =>
    cases lo' with
    | some _ => exact vl.elim
    | none => simp only [bound?] at hl; cases hl; rfl
  | some v =>
    cases lo' with
    | none => exact vl.elim
    | some y => simp only; rw [bind_ok (run_bound hl vl h1)]; rfl

def aSlice3 (P : Program) (A : St) (t : TypeId) (b off sz : Nat) (lo : Option AV) (hi mx : AV) : Option (AV × St) :=
  match P.underlying t with
  | some (.slice el) => match P.info? el, rowOf A b, bound? 0 lo, bound? 0 (some hi), bound? 0 (some mx) with
    | some i, some (r, f), some l, some h, some m => if i.size = sz ∧ 0 < sz ∧ r.lo ≤ off ∧ l ≤ h ∧ h ≤ m ∧ off + m * sz ≤ r.n ∧ r.fam ≠ 0 then
        match Nat.beq m l with
        | true => some (.slice A.next off 0 sz, aliasRow A r f off off (some off))
        | false => some (.slice A.next (off + l * sz) (h - l) sz, aliasRow A r f off (off + m * sz) (some (off + m * sz)))
      else none
    | _, _, _, _, _ => none
  | _ => none
theorem aSlice3_ok {P : Program} {G : Nat} {W0 : Base} {E : Env} {A A' : St} {w : World} (R : Rel G W0 E A w) {t : TypeId} {b off len sz : Nat} {lo : Option AV} {lo' : Option Value} {hi mx : AV} {hi' mx' : Value} {v : AV} {x' : Value}
    (h : aSlice3 P A t b off sz lo hi mx = some (v, A')) (hx : real E (.slice b off len sz) = some x') (vl : bval E lo lo') (vh : real E hi = some hi') (vm : real E mx = some mx') :
    ∃ y, (Instr.sliceAt t x' lo' (some hi') (some mx')).run P w = .ok y w ∧ Good G W0 E A' v y w := by
  obtain ⟨e, hE, rfl⟩ := real_slice hx
  unfold aSlice3 at h
  split at h
  · rename_i el hd
    split at h
    · rename_i i r f l hh m hi2 hr hl hhh hmm
      split at h
      · rename_i hcond
        obtain ⟨hsz, hsz0, hlo, hlh, hhm, hin, h0⟩ := hcond
        obtain ⟨cs, fz, hcs, hex, hesh, hne, hcapr, hecs, hcells, hfr⟩ := row_sh R hr hE
        have hcap : m ≤ (e.ec - off) / sz := by rw [Nat.le_div_iff_mul_le hsz0]; omega
        have hrun := run_slice (a := some ⟨e.blk, off - e.sh, none⟩) hd hi2 (run_bounds3 (P := P) (w := w) (isSlice := true) (len := len) (cap := (e.ec - off) / sz) hl hhh hmm vl vh vm hlh hhm hcap)
        refine ⟨_, hrun, ?_⟩
        rw [hsz]
        split at h
        · rename_i hml
          have hml := Nat.eq_of_beq_eq_true hml
          cases h
          have hh0 : hh - l = 0 := by omega
          rw [if_pos hml, hml, Nat.sub_self, hh0]
          refine ⟨_, Env.ins_le R.nil, ?_, R.alias (some off) ⟨e.blk, e.sh, off⟩ hr hE h0 hlo (by omega) rfl (Nat.le_refl _) (fun c hc => Option.some.inj hc) (by simp only; omega) (by simp only; omega) (Or.inl rfl)⟩
          rw [real_slice_mk _ _ sz (Env.ins_same _ _ _)]
          simp only [Nat.sub_self, Nat.zero_div]
        · rename_i hml
          have hml : m ≠ l := fun e => by subst e; rw [Nat.beq_refl] at hml; cases hml
          cases h
          rw [if_neg hml]
          refine ⟨_, Env.ins_le R.nil, ?_, R.alias (some (off + m * sz)) ⟨e.blk, e.sh, off + m * sz⟩ hr hE h0 hlo hin rfl (Nat.le_refl _) (fun c hc => Option.some.inj hc) (by simp only; omega) (by simp only; omega) (Or.inl rfl)⟩
          rw [real_slice_mk _ _ sz (Env.ins_same _ _ _)]
          simp only [Option.map_some]
          rw [add_plain]
          congr 2
          · congr 2; omega
          · rw [Nat.add_sub_add_left, ← Nat.sub_mul, Nat.mul_div_cancel _ hsz0]
      · cases h
    · cases h
  · cases h
def aSlice3Nil (P : Program) (t : TypeId) (lo : Option AV) (hi mx : AV) : Bool :=
  match P.underlying t with
  | some (.slice el) => match P.info? el, bound? 0 lo, bound? 0 (some hi), bound? 0 (some mx) with
    | some _, some 0, some 0, some 0 => true
    | _, _, _, _ => false
  | _ => false
theorem aSlice3Nil_ok {P : Program} {E : Env} {w : World} {t : TypeId} {lo : Option AV} {lo' : Option Value} {hi mx : AV} {hi' mx' : Value} (h : aSlice3Nil P t lo hi mx = true) (vl : bval E lo lo') (vh : real E hi = some hi') (vm : real E mx = some mx') :
    (Instr.sliceAt t (.slice none 0 0) lo' (some hi') (some mx')).run P w = .ok (.slice none 0 0) w := by
  unfold aSlice3Nil at h
  split at h
  · rename_i el hd
    split at h
    · rename_i i hi2 hl hhh hmm
      have := run_slice (a := none) hd hi2 (run_bounds3 (P := P) (w := w) (isSlice := true) (len := 0) (cap := 0) hl hhh hmm vl vh vm (Nat.le_refl _) (Nat.le_refl _) (Nat.le_refl _))
      rw [this]; simp
    · cases h
  · cases h
end Go.Am
