/-
  THE ABSTRACT MACHINE, part 20: a region that draws its order: every order comes to what the text's order comes to.
-/
import Derived.Test.YtenggpnmocbfoaaGreatAm19
namespace Go.Am
set_option linter.unusedSectionVars false
variable [Sig]

section
variable {P : Program} (C : Cfg P) (call : FuncId → List AV → St → Option (AV × St))
/-- At a region's head: the blocks of what floats are promised. -/
def hoist (P : Program) : List Oper → St → Option St
  | [], A => some A
  | o :: rest, A => match flT o with
    | some t => match aZero P t with
      | some z => hoist P rest (newRow A t z.cells)
      | none => none
    | none => hoist P rest A
theorem hoist_ok {G : Nat} {E : Env} {w : World} : ∀ {l : List Oper} {W0 : Base} {A A1 : St}, hoist P l A = some A1 → Rel G W0 E A w → Rel G { W0 with K := fun b => W0.K b ∨ (A.next ≤ b ∧ b < A.next + nf l) } E A1 w
  | [], W0, A, A1, h, R => by
    simp only [hoist, Option.some.injEq] at h
    subst h
    exact R.weaken fun c hc => by rcases hc with hc | ⟨h1, h2⟩; exact hc; simp only [nf] at h2; omega
  | o :: rest, W0, A, A1, h, R => by
    simp only [hoist] at h
    cases hT : flT o with
    | none =>
      rw [hT] at h
      exact (hoist_ok h R).weaken fun c hc => by simp only [nf, hT] at hc; exact hc
    | some t =>
      rw [hT] at h
      simp only at h
      split at h
      · rename_i z hz
        refine (hoist_ok h (R.promise t z.cells)).weaken fun c hc => ?_
        simp only [nf, hT] at hc
        have hn : (newRow A t z.cells).next = A.next + 1 := rfl
        rw [hn]
        rcases hc with hc | ⟨h1, h2⟩
        · exact Or.inl (Or.inl hc)
        · by_cases hca : c = A.next
          · exact Or.inl (Or.inr hca)
          · exact Or.inr ⟨by omega, by omega⟩
      · cases h
/-- All indices of a list with what stands there. -/
def idx {α : Type} : Nat → List α → List (Nat × α)
  | _, [] => []
  | i, x :: xs => (i, x) :: idx (i + 1) xs
theorem mem_idx {α : Type} : ∀ {l : List α} {k i : Nat} {x : α}, l[i]? = some x → (k + i, x) ∈ idx k l
  | [], k, i, x, h => by simp at h
  | y :: l, k, i, x, h => by
    cases i with
    | zero => simp only [List.getElem?_cons_zero, Option.some.injEq] at h; subst h; simp [idx]
    | succ i => simp only [List.getElem?_cons_succ] at h; have := mem_idx (k := k + 1) h; rw [show k + (i + 1) = k + 1 + i from by omega]; simp [idx, this]
def okStage (r : Rec) (s : St) : Bool :=
  match stepF C call r.flt s r.ρ r.o.op with
  | some (false, v, _) => AV.same v r.v
  | _ => false
def lowHigh (ms : List Nat) (recs : List (Nat × Rec)) (all : List Rec) (i s : Nat) : Bool :=
  recs.all fun (j, q) => match q.anch with
    | false => true
    | true => match (ms.getD i 0).testBit j, (ms.getD j 0).testBit i with
      | true, _ => Nat.blt (cnt all j) s
      | _, true => Nat.ble s (cnt all j)
      | _, _ => true
def chkRec (ops : Array Oper) (ms : List Nat) (recs : List Rec) (ix : List (Nat × Rec)) (st : List (Nat × St)) (i : Nat) (r : Rec) : Bool :=
  (r.o.after.toList.all fun e => match Region.binds .any e with | true => Nat.blt e.on i | false => true) &&
  (ix.all fun (j, q) => match q.o.dst with
    | none => true
    | some t => (match r.o.dst with | some u => (match Nat.beq t u with | true => Nat.beq i j | false => true) | none => true) &&
      (match (Oper.looksAt ops r.o).contains t with | true => (ms.getD i 0).testBit j | false => true)) &&
  (match r.anch with
    | true => ix.all fun (j, q) => match q.anch, Nat.blt j i with | true, true => (ms.getD i 0).testBit j | _, _ => true
    | false => match r.want with
      | true => st.all fun (s, B) => match lowHigh ms ix recs i s with | true => okStage C call r B | false => true
      | false => true)
def chk (ops : Array Oper) (recs : List Rec) (Af : St) : Bool :=
  let ms := masksGo ops.toList []
  let ix := idx 0 recs
  let st := idx 0 (stages recs Af)
  ix.all fun (i, r) => chkRec C call ops ms recs ix st i r
def runDraw (n : Nat) (ops : Array Oper) (ρ : PT AV) (A : St) : Option (PT AV × St) :=
  match hoist P ops.toList A with
  | none => none
  | some A1 => match drawGo C call n ops ops.toList A.next ρ A1 with
    | some (recs, ρf, Af) => match chk C call ops recs Af with
      | true => some (ρf, Af)
      | false => none
    | none => none

/-- What the look gives. -/
structure Looked (ops : Array Oper) (ms : List Nat) (recs : List Rec) (Af : St) : Prop where
  edges : ∀ (i : Nat) r, recs[i]? = some r → ∀ e ∈ r.o.after.toList, Region.binds .any e = true → e.on < i
  apart : ∀ (i j : Nat) r q t, recs[i]? = some r → recs[j]? = some q → r.o.dst = some t → q.o.dst = some t → i = j
  looks : ∀ (i j : Nat) r q t, recs[i]? = some r → recs[j]? = some q → q.o.dst = some t → t ∈ Oper.looksAt ops r.o → (ms.getD i 0).testBit j = true
  anchs : ∀ (i j : Nat) r q, recs[i]? = some r → recs[j]? = some q → r.anch = true → q.anch = true → j < i → (ms.getD i 0).testBit j = true
  stays : ∀ (i : Nat) r, recs[i]? = some r → r.anch = false → r.want = true → ∀ (s : Nat) B, (stages recs Af)[s]? = some B →
    (∀ (j : Nat) q, recs[j]? = some q → q.anch = true → (ms.getD i 0).testBit j = true → cnt recs j < s) →
    (∀ (j : Nat) q, recs[j]? = some q → q.anch = true → (ms.getD j 0).testBit i = true → s ≤ cnt recs j) →
    ∃ A', stepF C call r.flt B r.ρ r.o.op = some (false, r.v, A')
theorem chk_ok {ops : Array Oper} {recs : List Rec} {Af : St} (h : chk C call ops recs Af = true) : Looked C call ops (masksGo ops.toList []) recs Af := by
  unfold chk at h
  simp only at h
  rw [List.all_eq_true] at h
  have at_ : ∀ (i : Nat) r, recs[i]? = some r → chkRec C call ops (masksGo ops.toList []) recs (idx 0 recs) (idx 0 (stages recs Af)) i r = true := fun i r hr => by
    have := mem_idx (k := 0) hr
    rw [Nat.zero_add] at this
    exact h (i, r) this
  have parts : ∀ (i : Nat) r, recs[i]? = some r → _ := fun i r hr => by
    have := at_ i r hr
    unfold chkRec at this
    rw [Bool.and_eq_true, Bool.and_eq_true] at this
    exact this
  have mi : ∀ {j : Nat} {q : Rec}, recs[j]? = some q → (j, q) ∈ idx 0 recs := fun hq => by have := mem_idx (k := 0) hq; rwa [Nat.zero_add] at this
  refine ⟨?_, ?_, ?_, ?_, ?_⟩
  · intro i r hr e he hb
    have := (parts i r hr).1.1
    rw [List.all_eq_true] at this
    have := this e he
    rw [hb] at this
    exact Nat.le_of_ble_eq_true this
  · intro i j r q t hr hq hrt hqt
    have := (parts i r hr).1.2
    rw [List.all_eq_true] at this
    have := this (j, q) (mi hq)
    simp only [hqt, hrt, Nat.beq_refl, Bool.and_eq_true] at this
    exact Nat.eq_of_beq_eq_true this.1
  · intro i j r q t hr hq hqt hlook
    have := (parts i r hr).1.2
    rw [List.all_eq_true] at this
    have := this (j, q) (mi hq)
    have hc : (Oper.looksAt ops r.o).contains t = true := by simpa using hlook
    simp only [hqt, hc, Bool.and_eq_true] at this
    exact this.2
  · intro i j r q hr hq hra hqa hji
    have := (parts i r hr).2
    rw [hra] at this
    simp only at this
    rw [List.all_eq_true] at this
    have := this (j, q) (mi hq)
    have hb : Nat.blt j i = true := Nat.ble_eq_true_of_le hji
    simp only [hqa, hb] at this
    exact this
  · intro i r hr hra hrw s B hB hlo hhi
    have := (parts i r hr).2
    rw [hra, hrw] at this
    simp only at this
    rw [List.all_eq_true] at this
    have hms := mem_idx (k := 0) hB
    rw [Nat.zero_add] at hms
    have := this (s, B) hms
    have hlh : lowHigh (masksGo ops.toList []) (idx 0 recs) recs i s = true := by
      unfold lowHigh
      rw [List.all_eq_true]
      rintro ⟨j, q⟩ hjq
      have hq : recs[j]? = some q := by
        have : ∀ (l : List Rec) (k j : Nat) (q : Rec), (j, q) ∈ idx k l → k ≤ j ∧ l[j - k]? = some q := by
          intro l
          induction l with
          | nil => intro k j q h; simp [idx] at h
          | cons x l ih =>
            intro k j q h
            simp only [idx, List.mem_cons, Prod.mk.injEq] at h
            rcases h with ⟨rfl, rfl⟩ | h
            · simp
            · obtain ⟨h1, h2⟩ := ih (k + 1) j q h
              refine ⟨by omega, ?_⟩
              rw [show j - k = (j - (k + 1)) + 1 from by omega]; simpa using h2
        simpa using (this recs 0 j q hjq).2
      simp only
      split
      · rfl
      · rename_i hqa
        split
        · rename_i hb; exact Nat.ble_eq_true_of_le (hlo j q hq hqa hb)
        · rename_i hb _; exact Nat.ble_eq_true_of_le (hhi j q hq hqa hb)
        · rfl
    rw [hlh] at this
    simp only at this
    unfold okStage at this
    split at this
    · rename_i v A' hs
      rw [AV.same_eq this] at hs
      exact ⟨A', hs⟩
    · cases this
end
end Go.Am
