/-
  THE ABSTRACT MACHINE, part 24: staged: what hangs on the code alone is reckoned once. One operation; regions.
-/
import Derived.Test.YtenggpnmocbfoaaGreatAm23
namespace Go.Am
set_option linter.unusedSectionVars false
variable [Sig]

structure FO where
  run : PT AV → Option AV
structure FX where
  run : PT AV → St → Out
structure FR where
  run : PT AV → St → Option (PT AV × St)

def getT (ρ : PT AV) (k : List Bool) : Option AV := match ρ.get k with | some v => some v | none => some undefA
def opd (G : Nat) (x : Operand) : FO :=
  match x with
  | .tmp t => ⟨fun ρ => getT ρ (key t)⟩
  | .const v => ⟨fun _ => ofValue v⟩
  | .global g => ⟨fun _ => match Nat.blt g G with | true => some (.ptr g 0) | false => none⟩
  | .func f => ⟨fun _ => some (.func (.func f) [] [])⟩
theorem opd_eq (G : Nat) (x : Operand) (ρ : PT AV) : (opd G x).run ρ = evalO G ρ x := by cases x <;> rfl

/-- A binary operation: integers first. -/
def binS {P : Program} (C : Cfg P) (op : BinOp) (t : TypeId) (xo yo : Operand) (A : St) (x y : AV) : Option AV :=
  match x with
  | .int k a => match y with
    | .int k' b => match shiftOp op with
      | true => match intFast op k a b with | some r => some r | none => C.bin op t (.int k a) (.int k' b)
      | false => match Nat.beq (kidx k) (kidx k') with
        | true => match intFast op k a b with | some r => some r | none => C.bin op t (.int k a) (.int k' b)
        | false => C.bin op t (.int k a) (.int k' b)
    | _ => aBin2 C A op t xo yo x y
  | _ => aBin2 C A op t xo yo x y
theorem binS_eq {P : Program} (C : Cfg P) (op : BinOp) (t : TypeId) (xo yo : Operand) (A : St) (x y : AV) : binS C op t xo yo A x y = aBin2 C A op t xo yo x y := by
  cases x <;> try rfl
  cases y <;> try rfl
  rename_i k a k' b
  simp only [binS, aBin2, aBin]
  cases shiftOp op with
  | true => simp only [intFast_eq]; cases intBin op k a b <;> rfl
  | false =>
    simp only [intFast_eq]
    by_cases hk : k = k'
    · subst hk; rw [Nat.beq_refl]; simp only [if_true]; cases intBin op k a b <;> rfl
    · rw [if_neg hk]
      cases hb : Nat.beq (kidx k) (kidx k') with
      | true => exact absurd (kidx_inj hb) hk
      | false => rfl

section
variable {P : Program} (C : Cfg P)
def x1 (a : FO) (f : AV → St → Out) : FX := ⟨fun ρ A => match a.run ρ with | some v => f v A | none => .no⟩
def x2 (a b : FO) (f : AV → AV → St → Out) : FX := ⟨fun ρ A => match a.run ρ with | some v => (match b.run ρ with | some u => f v u A | none => .no) | none => .no⟩
def dec (o : Op) : FX :=
  match o with
  | .move x => ⟨fun ρ _ => ofP ((opd C.G x).run ρ)⟩
  | .assign x => ⟨fun ρ _ => ofP ((opd C.G x).run ρ)⟩
  | .load t x => x1 (opd C.G x) fun v A => ofP (aLoad P A t v)
  | .store t x y => x2 (opd C.G x) (opd C.G y) fun v u A => ofS (aStore P A t v u)
  | .binOp op t x y _ => x2 (opd C.G x) (opd C.G y) fun v u A => ofP (binS C op t x y A v u)
  | .fieldAddr t x n => x1 (opd C.G x) fun v A => ofP (aFieldAddr P A t v n)
  | .indexAddr t x y => x2 (opd C.G x) (opd C.G y) fun v u A => ofP (aIndexAddr P A t v u)
  | .convert s d x => x1 (opd C.G x) fun v A => ofC P A s d v
  | .extract x i => x1 (opd C.G x) fun v _ => ofP (aExtract v i)
  | .nilCheck x => x1 (opd C.G x) fun v _ => ofP (aNilCheck v)
  | .field t x n => x1 (opd C.G x) fun v _ => ofP (aField P t v n)
  | .index t x y => x2 (opd C.G x) (opd C.G y) fun v u _ => ofP (aIndex P t v u)
  | .unOp op _ x => x1 (opd C.G x) fun v _ => ofP (aUn op v)
  | o => ⟨fun ρ A => exec C A ρ o⟩
theorem dec_eq (o : Op) (ρ : PT AV) (A : St) : (dec C o).run ρ A = exec C A ρ o := by
  have two : ∀ (x y : Operand) (f : AV → AV → St → Out), (x2 (opd C.G x) (opd C.G y) f).run ρ A = (match evalO C.G ρ x, evalO C.G ρ y with | some v, some u => f v u A | _, _ => Out.no) := by
    intro x y f
    simp only [x2, opd_eq]
    cases evalO C.G ρ x with
    | none => cases evalO C.G ρ y <;> rfl
    | some v => cases evalO C.G ρ y <;> rfl
  cases o
  case load t x => simp only [dec, x1, opd_eq]; rw [exec]; cases evalO C.G ρ x <;> rfl
  case store t x y => simp only [dec, two]; rw [exec]; cases evalO C.G ρ x <;> cases evalO C.G ρ y <;> rfl
  case nilCheck x => simp only [dec, x1, opd_eq]; rw [exec]; cases evalO C.G ρ x <;> rfl
  case binOp op t x y yt => simp only [dec, two, binS_eq]; rw [exec]; cases evalO C.G ρ x <;> cases evalO C.G ρ y <;> rfl
  case unOp op t x => simp only [dec, x1, opd_eq]; rw [exec]; cases evalO C.G ρ x <;> rfl
  case convert s d x => simp only [dec, x1, opd_eq]; rw [exec]; cases evalO C.G ρ x <;> rfl
  case fieldAddr t x n => simp only [dec, x1, opd_eq]; rw [exec]; cases evalO C.G ρ x <;> rfl
  case field t x n => simp only [dec, x1, opd_eq]; rw [exec]; cases evalO C.G ρ x <;> rfl
  case indexAddr t x y => simp only [dec, two]; rw [exec]; cases evalO C.G ρ x <;> cases evalO C.G ρ y <;> rfl
  case index t x y => simp only [dec, two]; rw [exec]; cases evalO C.G ρ x <;> cases evalO C.G ρ y <;> rfl
  case extract x i => simp only [dec, x1, opd_eq]; rw [exec]; cases evalO C.G ρ x <;> rfl
  case move x => simp only [dec, opd_eq]; rw [exec]
  case assign x => simp only [dec, opd_eq]; rw [exec]
  all_goals rfl

variable (call : FuncId → List AV → St → Option (AV × St))
/-- One operation, then the rest. -/
def stepK {β : Type} (fx : FX) (n : Nat) (d : Option Tmp) (k : PT AV → St → Option β) (ρ : PT AV) (A : St) : Option β :=
  match fx.run ρ A with
  | .pure v => putK ρ n d v fun ρ' => k ρ' A
  | .eff v A' => putK ρ n d v fun ρ' => k ρ' A'
  | .call f args => match call f args A with
    | some (v, A') => putK ρ n d v fun ρ' => k ρ' A'
    | none => none
  | .no => none
def decL (n : Nat) (ops : Array Oper) : List Oper → FR
  | [] => ⟨fun ρ A => some (ρ, A)⟩
  | o :: rest => match o.guard with
    | none => ⟨fun ρ A => stepK call (dec C o.op) n o.dst (decL n ops rest).run ρ A⟩
    | some _ => ⟨fun ρ A => match wantedA ops ρ o with
      | some true => stepK call (dec C o.op) n o.dst (decL n ops rest).run ρ A
      | some false => putK ρ n o.dst undefA fun ρ' => (decL n ops rest).run ρ' A
      | none => none⟩
theorem stepK_eq {β : Type} (o : Op) (n : Nat) (d : Option Tmp) (k : PT AV → St → Option β) (ρ : PT AV) (A : St) :
    stepK call (dec C o) n d k ρ A = match stepA C call A ρ o with
      | some (_, v, A') => match putT ρ n d v with
        | some ρ' => k ρ' A'
        | none => none
      | none => none := by
  unfold stepK stepA
  rw [dec_eq]
  cases exec C A ρ o with
  | pure v => simp only [putK_eq]; cases putT ρ n d v <;> rfl
  | eff v A' => simp only [putK_eq]; cases putT ρ n d v <;> rfl
  | call f args =>
    simp only [putK_eq]
    cases call f args A with
    | none => rfl
    | some p => obtain ⟨v, A'⟩ := p; dsimp only; cases putT ρ n d v <;> rfl
  | no => rfl
theorem decL_eq (n : Nat) (ops : Array Oper) : ∀ (l : List Oper) (ρ : PT AV) (A : St), (decL C call n ops l).run ρ A = runSeq C call n ops l ρ A
  | [], ρ, A => rfl
  | o :: rest, ρ, A => by
    have ih : (decL C call n ops rest).run = runSeq C call n ops rest := by funext ρ A; exact decL_eq n ops rest ρ A
    simp only [decL, runSeq]
    cases hg : o.guard with
    | none =>
      have : wantedA ops ρ o = some true := by unfold wantedA; rw [hg]
      simp only [this, stepK_eq, ih]
      cases stepA C call A ρ o.op with
      | none => rfl
      | some p => obtain ⟨b, v, A'⟩ := p; dsimp only; cases putT ρ n o.dst v <;> rfl
    | some g =>
      simp only [stepK_eq, putK_eq, ih]
      cases wantedA ops ρ o with
      | none => rfl
      | some b => cases b with
        | false => dsimp only; cases putT ρ n o.dst undefA <;> rfl
        | true =>
          dsimp only
          cases stepA C call A ρ o.op with
          | none => rfl
          | some p => obtain ⟨b, v, A'⟩ := p; dsimp only; cases putT ρ n o.dst v <;> rfl

/- REGIONS THAT DRAW, with less to look at. -/
def statRec (ops : Array Oper) (ms : List Nat) (ix : List (Nat × Oper)) (i : Nat) (o : Oper) : Bool :=
  (o.after.toList.all fun e => match Region.binds .any e with | true => Nat.blt e.on i | false => true) &&
  (ix.all fun (j, q) => match q.dst with
    | none => true
    | some t => (match o.dst with | some u => (match Nat.beq t u with | true => Nat.beq i j | false => true) | none => true) &&
      (match (Oper.looksAt ops o).contains t with | true => (ms.getD i 0).testBit j | false => true))
def stat (ops : Array Oper) : Bool :=
  let ix := idx 0 ops.toList
  ix.all fun (i, o) => statRec ops (masksGo ops.toList []) ix i o
def dynRec (ms : List Nat) (recs : List Rec) (anchs : List (Nat × Rec)) (st : List (Nat × St)) (i : Nat) (r : Rec) : Bool :=
  match r.anch with
  | true => anchs.all fun (j, _) => match Nat.blt j i with | true => (ms.getD i 0).testBit j | false => true
  | false => match r.want with
    | true => st.all fun (s, B) => match Nat.beq s (cnt recs i) with
      | true => true
      | false => match lowHigh ms anchs recs i s with | true => okStage C call r B | false => true
    | false => true
def dyn (ms : List Nat) (recs : List Rec) (Af : St) : Bool :=
  let ix := idx 0 recs
  match ix.filter fun (_, r) => r.anch with
  | [] => true
  | anchs => ix.all fun (i, r) => dynRec C call ms recs anchs (idx 0 (stages recs Af)) i r
def runDraw2 (n : Nat) (ops : Array Oper) (ρ : PT AV) (A : St) : Option (PT AV × St) :=
  match stat ops with
  | true => match hoist P ops.toList A with
    | none => none
    | some A1 => match drawGo C call n ops ops.toList A.next ρ A1 with
      | some (recs, ρf, Af) => match dyn C call (masksGo ops.toList []) recs Af with
        | true => some (ρf, Af)
        | false => none
      | none => none
  | false => none
theorem idx_mem {α : Type} : ∀ {l : List α} {k j : Nat} {q : α}, (j, q) ∈ idx k l → k ≤ j ∧ l[j - k]? = some q
  | [], k, j, q, h => by simp [idx] at h
  | x :: l, k, j, q, h => by
    simp only [idx, List.mem_cons, Prod.mk.injEq] at h
    rcases h with ⟨rfl, rfl⟩ | h
    · simp
    · obtain ⟨h1, h2⟩ := idx_mem h
      refine ⟨by omega, ?_⟩
      rw [show j - k = (j - (k + 1)) + 1 from by omega]; simpa using h2
theorem look2 {n : Nat} {ops : Array Oper} {ρ : PT AV} {A : St} {recs : List Rec} {ρf : PT AV} {Af : St} {c : Nat} (S : Spec C call n ops ops.toList ρ A recs ρf Af c) (hs : stat ops = true) (hd : dyn C call (masksGo ops.toList []) recs Af = true) :
    Looked C call ops (masksGo ops.toList []) recs Af := by
  have mi : ∀ {α : Type} {l : List α} {j : Nat} {q : α}, l[j]? = some q → (j, q) ∈ idx 0 l := fun hq => by have := mem_idx (k := 0) hq; rwa [Nat.zero_add] at this
  have hst : ∀ (i : Nat) r, recs[i]? = some r → statRec ops (masksGo ops.toList []) (idx 0 ops.toList) i r.o = true := fun i r hr => by
    unfold stat at hs
    simp only at hs
    rw [List.all_eq_true] at hs
    exact hs (i, r.o) (mi (S.here i r hr).1)
  have hdy : ∀ (i : Nat) r, recs[i]? = some r → (∃ (j : Nat) (q : Rec), recs[j]? = some q ∧ q.anch = true) → ∃ anchs, anchs = (idx 0 recs).filter (fun x => x.2.anch) ∧ dynRec C call (masksGo ops.toList []) recs anchs (idx 0 (stages recs Af)) i r = true := by
    intro i r hr hex
    unfold dyn at hd
    simp only at hd
    split at hd
    · rename_i he
      obtain ⟨j, q, hq, hqa⟩ := hex
      have : (j, q) ∈ (idx 0 recs).filter (fun x => x.2.anch) := List.mem_filter.2 ⟨mi hq, hqa⟩
      have he' : (idx 0 recs).filter (fun x => x.2.anch) = [] := he
      rw [he'] at this; cases this
    · rw [List.all_eq_true] at hd
      exact ⟨_, rfl, hd (i, r) (mi hr)⟩
  refine ⟨?_, ?_, ?_, ?_, ?_⟩
  · intro i r hr e he hb
    have := hst i r hr
    unfold statRec at this
    rw [Bool.and_eq_true] at this
    have h1 := this.1
    rw [List.all_eq_true] at h1
    have := h1 e he
    rw [hb] at this
    exact Nat.le_of_ble_eq_true this
  · intro i j r q t hr hq hrt hqt
    have := hst i r hr
    unfold statRec at this
    rw [Bool.and_eq_true] at this
    have h1 := this.2
    rw [List.all_eq_true] at h1
    have := h1 (j, q.o) (mi (S.here j q hq).1)
    simp only [hqt, hrt, Nat.beq_refl, Bool.and_eq_true] at this
    exact Nat.eq_of_beq_eq_true this.1
  · intro i j r q t hr hq hqt hlook
    have := hst i r hr
    unfold statRec at this
    rw [Bool.and_eq_true] at this
    have h1 := this.2
    rw [List.all_eq_true] at h1
    have := h1 (j, q.o) (mi (S.here j q hq).1)
    have hc : (Oper.looksAt ops r.o).contains t = true := by simpa using hlook
    simp only [hqt, hc, Bool.and_eq_true] at this
    exact this.2
  · intro i j r q hr hq hra hqa hji
    obtain ⟨anchs, rfl, h⟩ := hdy i r hr ⟨j, q, hq, hqa⟩
    unfold dynRec at h
    rw [hra] at h
    simp only at h
    rw [List.all_eq_true] at h
    have := h (j, q) (List.mem_filter.2 ⟨mi hq, hqa⟩)
    have hb : Nat.blt j i = true := Nat.ble_eq_true_of_le hji
    simp only [hb] at this
    exact this
  · intro i r hr hra hrw s B hB hlo hhi
    by_cases hsc : s = cnt recs i
    · obtain ⟨h1, h2, h3, h4, h5, h6⟩ := S.here i r hr
      rw [hsc, h2] at hB
      cases hB
      obtain ⟨A', h7, _⟩ := h6 hrw
      rw [hra] at h7
      exact ⟨A', h7⟩
    · have hex : ∃ (j : Nat) (q : Rec), recs[j]? = some q ∧ q.anch = true := by
        have h2 : (stages recs Af).length = cnt recs recs.length + 1 := by unfold stages cnt; simp
        have h3 := (List.getElem?_eq_some_iff.1 hB).1
        rcases Nat.eq_zero_or_pos (cnt recs recs.length) with h | h
        · exfalso
          have hz : cnt recs i = 0 := by
            rcases Nat.eq_zero_or_pos (cnt recs i) with h' | h'
            · exact h'
            · obtain ⟨j, q, g1, g2, g3, g4⟩ := cnt_ex recs i (cnt recs i - 1) (by omega)
              have := cnt_lt recs j recs.length q (List.getElem?_eq_some_iff.1 g2).1 g2 g3
              omega
          omega
        · obtain ⟨j, q, g1, g2, g3, g4⟩ := cnt_ex recs recs.length (cnt recs recs.length - 1) (by omega)
          exact ⟨j, q, g2, g3⟩
      obtain ⟨anchs, rfl, h⟩ := hdy i r hr hex
      unfold dynRec at h
      rw [hra, hrw] at h
      simp only at h
      rw [List.all_eq_true] at h
      have := h (s, B) (mi hB)
      have hne : Nat.beq s (cnt recs i) = false := by
        cases hq : Nat.beq s (cnt recs i) with
        | true => exact absurd (Nat.eq_of_beq_eq_true hq) hsc
        | false => rfl
      have hlh : lowHigh (masksGo ops.toList []) ((idx 0 recs).filter (fun x => x.2.anch)) recs i s = true := by
        unfold lowHigh
        rw [List.all_eq_true]
        rintro ⟨j, q⟩ hjq
        obtain ⟨hm1, hm2⟩ := List.mem_filter.1 hjq
        obtain ⟨_, hq⟩ := idx_mem hm1
        rw [Nat.sub_zero] at hq
        simp only
        split
        · rfl
        · rename_i hqa
          split
          · rename_i hb; exact Nat.ble_eq_true_of_le (hlo j q hq hqa hb)
          · rename_i hb _; exact Nat.ble_eq_true_of_le (hhi j q hq hqa hb)
          · rfl
      simp only [hne, hlh] at this
      unfold okStage at this
      split at this
      · rename_i v A' hs2
        rw [AV.same_eq this] at hs2
        exact ⟨A', hs2⟩
      · cases this
variable {C call}
theorem runDraw2_ok (hm : P.follows .mixedOrders = true) (hcall : CallsOk C call) {W0 : Base} {n id : Nat} {ops : Array Oper} {Q : Exit → Act → World → Prop} {E : Env} {ρ ρ' : PT AV} {A A' : St} {a : Act} {w : World}
    (h : runDraw2 C call n ops ρ A = some (ρ', A')) (R : Rel C.G W0 E A w) (T : TR E ρ n a)
    (hQ : ∀ E' a' w', E.le E' → Rel C.G W0 E' A' w' → TR E' ρ' n a' → a'.defers = a.defers → Q .normal a' w') : (Code.region id ops true).wp P Q a w := by
  unfold runDraw2 at h
  split at h
  · rename_i hst
    split at h
    · cases h
    rename_i A1 hho
    split at h
    · rename_i recs ρf Af hd
      split at h
      · rename_i hc
        cases h
        have S := drawGo_spec C call hd
        have L := look2 C call S hst hc
        have hmask : MaskOk ops.toList (masksGo ops.toList []) := by
          have := masksGo_ok ops.toList [] [] rfl (fun i j h => by simp at h)
          simpa using this
        refine wp_region_any hm ?_
        refine draw_any hcall (fun d hd => (R.keep d hd).2) S L hmask hQ ops.size _ E 0 a _ ?_ ⟨by simp [S.len], ?_, ?_, E.le_refl, ⟨A1, S.first, start_kb S (hoist_ok hho R.drew)⟩, T.size, ?_, rfl⟩
        · simp [falses_rep]
        · intro i r hr hl; exact (rep_no hl).elim
        · intro i r hr hra
          constructor
          · intro hl; exact (rep_no hl).elim
          · intro hl; omega
        · intro t
          refine ⟨fun i r hr hl => (rep_no hl).elim, fun _ => ⟨fun v hv => T.some t v hv, fun hv => T.none t hv⟩⟩
      · cases h
    · cases h
  · cases h
end
end Go.Am
