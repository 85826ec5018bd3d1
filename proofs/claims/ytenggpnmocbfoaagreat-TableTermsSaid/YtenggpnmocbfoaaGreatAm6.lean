/-
  THE ABSTRACT MACHINE, part 6: binary operations.
-/
import Derived.Test.YtenggpnmocbfoaaGreatAm5
namespace Go.Am
set_option linter.unusedSectionVars false
variable [Sig]

/- BINARY OPERATIONS. -/
def isConstO : Operand → Bool
  | .const _ => true
  | _ => false
/-- may '==' and '!=' go on? -/
def guardOk (P : Program) (t : TypeId) (xo yo : Operand) (x y : AV) : Bool :=
  match x, y with
  | .nilIface, .nilIface => isConstO xo || isConstO yo
  | .agg _, .agg _ => match P.eqGuardType P.depth t with | true => false | false => true
  | _, _ => true
def symQ : AV → Bool
  | .sym _ => true
  | _ => false
def aBin (P : Program) (A : St) (op : BinOp) (t : TypeId) (xo yo : Operand) (x y : AV) : Option AV :=
  match x, y with
  | .int k a, .int k' b => match shiftOp op with
    | true => intBin op k a b
    | false => if k = k' then intBin op k a b else none
  | .str a, .str b => strBin op a b
  | x, y => match symQ x, symQ y with
    | false, false => match op with
      | .eql => match guardOk P t xo yo x y with
        | true => match aEq P A 10000 t x y with | some r => some (.bool r) | none => none
        | false => none
      | .neq => match guardOk P t xo yo x y with
        | true => match aEq P A 10000 t x y with | some r => some (.bool (!r)) | none => none
        | false => none
      | _ => none
    | _, _ => none
theorem real_eq_int {E : Env} {v : AV} {k : IntKind} {n : Int} (hq : symQ v = false) (h : real E v = some (.int k n)) : v = .int k n := by
  cases v <;> first | (cases hq; done) | (unfold real at h; cases h; rfl) | (unfold real at h; (repeat' split at h) <;> cases h)
theorem real_eq_str {E : Env} {v : AV} {s : ByteArray} (hq : symQ v = false) (h : real E v = some (.string s)) : v = .str s.data.toList := by
  cases v <;> first | (cases hq; done) | (unfold real at h; cases h; rfl) | (unfold real at h; (repeat' split at h) <;> cases h)
theorem real_no_float {E : Env} {v : AV} {k : FloatKind} {n : Nat} (hq : symQ v = false) (h : real E v = some (.float k n)) : False := by
  cases v <;> first | (cases hq; done) | (unfold real at h; (repeat' split at h) <;> cases h)
theorem real_no_complex {E : Env} {v : AV} {k : FloatKind} {n m : Nat} (hq : symQ v = false) (h : real E v = some (.complex k n m)) : False := by
  cases v <;> first | (cases hq; done) | (unfold real at h; (repeat' split at h) <;> cases h)
theorem binOp_eql {P : Program} {E : Env} {w : World} {t : TypeId} {x y : AV} {x' y' : Value} {r : Bool} (qx : symQ x = false) (qy : symQ y = false) (hx : real E x = some x') (hy : real E y = some y')
    (hni : ∀ k a k' b, x = .int k a → y = .int k' b → False) (hns : ∀ a b, x = .str a → y = .str b → False) (h : (Op.equal t x' y').run P w = .ok r w) :
    (binOp .eql t x' y').run P w = .ok (.bool r) w ∧ (binOp .neq t x' y').run P w = .ok (.bool (!r)) w := by
  constructor
  · unfold binOp
    split <;> first | contradiction | skip
    · exact (hni _ _ _ _ (real_eq_int qx hx) (real_eq_int qy hy)).elim
    · exact (real_no_float qx hx).elim
    · exact (real_no_complex qx hx).elim
    · exact (hns _ _ (real_eq_str qx hx) (real_eq_str qy hy)).elim
    · rw [bind_ok h]; rfl
  · unfold binOp
    split <;> first | contradiction | skip
    · exact (hni _ _ _ _ (real_eq_int qx hx) (real_eq_int qy hy)).elim
    · exact (real_no_float qx hx).elim
    · exact (real_no_complex qx hx).elim
    · exact (hns _ _ (real_eq_str qx hx) (real_eq_str qy hy)).elim
    · rw [bind_ok h]; rfl
theorem guardOk_ok {P : Program} {E : Env} {w : World} {op : BinOp} {t : TypeId} {xo yo : Operand} {x y : AV} {x' y' : Value} (qx : symQ x = false) (qy : symQ y = false) (h : guardOk P t xo yo x y = true) (hx : real E x = some x') (hy : real E y = some y') :
    (eqGuard op t xo yo x' y').run P w = .ok () w := by
  have triv : ∀ (a b : Value), (∀ c d, a = .agg c → b = .agg d → False) → (a = .nilIface → b = .nilIface → False) → (eqGuard op t xo yo a b).run P w = .ok () w := by
    intro a b h1 h2
    unfold eqGuard
    cases op
    case eql => simp only [Bool.not_true, Bool.false_eq_true, if_false]; rfl
    case neq => simp only [Bool.not_true, Bool.false_eq_true, if_false]; rfl
    all_goals rfl
  have g1 : ∀ {v : AV} {z : Value}, symQ v = false → real E v = some z → z = .nilIface → v = .nilIface := by
    intro v z hq hv hz; subst hz
    cases v <;> first | (cases hq; done) | rfl | (unfold real at hv; (repeat' split at hv) <;> cases hv)
  have g2 : ∀ {v : AV} {z : Value} {c}, symQ v = false → real E v = some z → z = .agg c → ∃ l, v = .agg l := by
    intro v z c hq hv hz; subst hz
    cases v <;> first | (cases hq; done) | exact ⟨_, rfl⟩ | (unfold real at hv; (repeat' split at hv) <;> cases hv)
  by_cases hn : x' = .nilIface ∧ y' = .nilIface
  · obtain ⟨rfl, rfl⟩ := hn
    cases g1 qx hx rfl; cases g1 qy hy rfl
    simp only [guardOk, Bool.or_eq_true] at h
    unfold eqGuard
    rcases h with h | h
    · cases xo with
      | const v => cases op <;> rfl
      | _ => cases h
    · cases yo with
      | const v => cases op <;> cases xo <;> rfl
      | _ => cases h
  by_cases ha : (∃ c, x' = .agg c) ∧ (∃ c, y' = .agg c)
  · obtain ⟨⟨c, rfl⟩, ⟨c', rfl⟩⟩ := ha
    obtain ⟨l, rfl⟩ := g2 qx hx rfl
    obtain ⟨l', rfl⟩ := g2 qy hy rfl
    simp only [guardOk] at h
    split at h
    · cases h
    · rename_i hm; exact run_eqGuard_agg w op t xo yo _ _ hm
  · exact triv x' y' (fun c d h1 h2 => ha ⟨⟨c, h1⟩, ⟨d, h2⟩⟩) (fun h1 h2 => hn ⟨h1, h2⟩)
theorem aBin_ok {P : Program} {G : Nat} {W0 : Base} {E : Env} {A : St} {w : World} (R : Rel G W0 E A w) {op : BinOp} {t : TypeId} {xo yo : Operand} {x y v : AV} {x' y' : Value}
    (h : aBin P A op t xo yo x y = some v) (hx : real E x = some x') (hy : real E y = some y') :
    ∃ z, ((do eqGuard op t xo yo x' y'; binOp op t x' y') : Sem Value).run P w = .ok z w ∧ real E v = some z := by
  unfold aBin at h
  split at h
  · rename_i k a k' b
    have hg : (eqGuard op t xo yo x' y').run P w = .ok () w := guardOk_ok (x := .int k a) (y := .int k' b) rfl rfl rfl hx hy
    cases real_int hx; cases real_int hy
    rw [bind_ok hg]
    split at h
    · rename_i hs; exact intBin_ok (Or.inl hs) h
    · split at h
      · rename_i hk; exact intBin_ok (Or.inr hk) h
      · cases h
  · rename_i a b
    have hg : (eqGuard op t xo yo x' y').run P w = .ok () w := guardOk_ok (x := .str a) (y := .str b) rfl rfl rfl hx hy
    cases real_str hx; cases real_str hy
    rw [bind_ok hg]
    exact strBin_ok h
  · rename_i x y hni hns
    split at h
    case h_2 => cases h
    rename_i qx qy
    split at h
    · split at h
      · rename_i hg
        split at h
        · rename_i r hr
          cases h
          refine ⟨.bool r, ?_, rfl⟩
          rw [bind_ok (guardOk_ok qx qy hg hx hy)]
          exact (binOp_eql qx qy hx hy hni hns (aEq_ok R _ _ _ _ _ _ _ hr hx hy)).1
        · cases h
      · cases h
    · split at h
      · rename_i hg
        split at h
        · rename_i r hr
          cases h
          refine ⟨.bool (!r), ?_, rfl⟩
          rw [bind_ok (guardOk_ok qx qy hg hx hy)]
          exact (binOp_eql qx qy hx hy hni hns (aEq_ok R _ _ _ _ _ _ _ hr hx hy)).2
        · cases h
      · cases h
    · cases h

end Go.Am
