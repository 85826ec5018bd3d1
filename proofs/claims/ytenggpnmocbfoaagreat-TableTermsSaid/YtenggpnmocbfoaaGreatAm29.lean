/-
  THE ABSTRACT MACHINE, part 29: a heap may be told anew: blocks renamed, what is no longer wanted left out, values made symbols.
-/
import Derived.Test.YtenggpnmocbfoaaGreatAm28
namespace Go.Am
set_option linter.unusedSectionVars false

theorem same_eq {a b : AV} (h : AV.same a b = true) : a = b := @AV.same_eq ⟨fun _ => .bool false⟩ _ _ h
mutual
  /-- A value of the new heap, in the words of the old one: fm names the blocks, sm the symbols. -/
  def ren (fm : PT Nat) (sm : PT AV) : AV → Option AV
    | .ptr b off => match fm.at_ b with | some c => some (.ptr c off) | none => none
    | .slice b off len sz => match fm.at_ b with | some c => some (.slice c off len sz) | none => none
    | .map b => match fm.at_ b with | some c => some (.map c) | none => none
    | .func f l m => match rens fm sm l with
      | some l' => match rens fm sm m with
        | some m' => some (.func f l' m')
        | none => none
      | none => none
    | .iface t v => match ren fm sm v with | some v' => some (.iface t v') | none => none
    | .agg l => match rens fm sm l with | some l' => some (.agg l') | none => none
    | .tuple l => match rens fm sm l with | some l' => some (.tuple l') | none => none
    | .sym i => sm.at_ i
    | v => some v
  def rens (fm : PT Nat) (sm : PT AV) : List AV → Option (List AV)
    | [] => some []
    | v :: vs => match ren fm sm v with
      | some v' => match rens fm sm vs with
        | some vs' => some (v' :: vs')
        | none => none
      | none => none
 end
/-- The new blocks' places. -/
def Env.of (E : Env) (fm : PT Nat) : Env := fun b => match fm.at_ b with | some c => E c | none => none
/-- What the new symbols stand for. -/
def SymOk (S S' : Sig) (E : Env) (sm : PT AV) : Prop := ∀ i v, sm.at_ i = some v → @real S E v = single (S'.val i)
mutual
  theorem ren_ok {S S' : Sig} {E : Env} {fm : PT Nat} {sm : PT AV} (hs : SymOk S S' E sm) : ∀ (v v' : AV), ren fm sm v = some v' → @real S' (E.of fm) v = @real S E v'
    | .bool b, v', h => by simp only [ren, Option.some.injEq] at h; subst h; rfl
    | .int k n, v', h => by simp only [ren, Option.some.injEq] at h; subst h; rfl
    | .str s, v', h => by simp only [ren, Option.some.injEq] at h; subst h; rfl
    | .ptr b off, v', h => by
      simp only [ren] at h
      split at h
      · rename_i c hc; cases h; simp only [real, Env.of, hc]
      · cases h
    | .nilp, v', h => by simp only [ren, Option.some.injEq] at h; subst h; rfl
    | .slice b off len sz, v', h => by
      simp only [ren] at h
      split at h
      · rename_i c hc; cases h; simp only [real, Env.of, hc]
      · cases h
    | .nilslice, v', h => by simp only [ren, Option.some.injEq] at h; subst h; rfl
    | .map b, v', h => by
      simp only [ren] at h
      split at h
      · rename_i c hc; cases h; simp only [real, Env.of, hc]
      · cases h
    | .nilmap, v', h => by simp only [ren, Option.some.injEq] at h; subst h; rfl
    | .func f l m, v', h => by
      simp only [ren] at h
      split at h
      · rename_i l' hl
        split at h
        · rename_i m' hm
          cases h
          have e1 := rens_ok hs l l' hl
          have e2 := rens_ok hs m m' hm
          simp only [real, e1, e2]
        · cases h
      · cases h
    | .nilFunc, v', h => by simp only [ren, Option.some.injEq] at h; subst h; rfl
    | .iface t v, v', h => by
      simp only [ren] at h
      split at h
      · rename_i u hu; cases h; have e1 := ren_ok hs v u hu; simp only [real, e1]
      · cases h
    | .nilIface, v', h => by simp only [ren, Option.some.injEq] at h; subst h; rfl
    | .agg l, v', h => by
      simp only [ren] at h
      split at h
      · rename_i l' hl; cases h; have e1 := rens_ok hs l l' hl; simp only [real, e1]
      · cases h
    | .tuple l, v', h => by
      simp only [ren] at h
      split at h
      · rename_i l' hl; cases h; have e1 := rens_ok hs l l' hl; simp only [real, e1]
      · cases h
    | .sym i, v', h => by
      simp only [ren] at h
      have := hs i v' h
      simp only [real]
      exact this.symm
  theorem rens_ok {S S' : Sig} {E : Env} {fm : PT Nat} {sm : PT AV} (hs : SymOk S S' E sm) : ∀ (l l' : List AV), rens fm sm l = some l' → @reals S' (E.of fm) l = @reals S E l'
    | [], l', h => by simp only [rens, Option.some.injEq] at h; subst h; rfl
    | v :: vs, l', h => by
      simp only [rens] at h
      split at h
      · rename_i v' hv
        split at h
        · rename_i vs' hvs
          cases h
          have e1 := ren_ok hs v v' hv
          have e2 := rens_ok hs vs vs' hvs
          simp only [reals, e1, e2]
        · cases h
      · cases h
 end

/-- The cells from i on, n of them: what the new row says, the old one says. -/
def cellsSub (fm : PT Nat) (sm : PT AV) (new old : PT AV) (i : Nat) : Nat → Bool
  | 0 => true
  | n + 1 => match new.at_ i with
    | none => cellsSub fm sm new old (i + 1) n
    | some v => match ren fm sm v, old.at_ i with
      | some v', some u => match AV.same v' u with
        | true => cellsSub fm sm new old (i + 1) n
        | false => false
      | _, _ => false
theorem cellsSub_ok {fm : PT Nat} {sm : PT AV} {new old : PT AV} : ∀ (n i : Nat), cellsSub fm sm new old i n = true → ∀ j v, i ≤ j → j < i + n → new.at_ j = some v → ∃ v', ren fm sm v = some v' ∧ old.at_ j = some v'
  | 0, i, _, j, v, h1, h2, _ => by omega
  | n + 1, i, h, j, v, h1, h2, hv => by
    simp only [cellsSub] at h
    by_cases hij : j = i
    · subst hij
      rw [hv] at h
      simp only at h
      split at h
      · rename_i v' u h3 h4
        split at h
        · rename_i hs; exact ⟨v', h3, by rw [h4, same_eq hs]⟩
        · cases h
      · cases h
    · have hrest : cellsSub fm sm new old (i + 1) n = true := by
        split at h
        · exact h
        · split at h
          · split at h
            · exact h
            · cases h
          · cases h
      exact cellsSub_ok n (i + 1) hrest j v (by omega) (by omega) hv
def renE (fm : PT Nat) (sm : PT AV) : List (AV × AV × Nat) → Option (List (AV × AV × Nat))
  | [] => some []
  | (k, v, n) :: es => match ren fm sm k with
    | some k' => match ren fm sm v with
      | some v' => match renE fm sm es with
        | some es' => some ((k', v', n) :: es')
        | none => none
      | none => none
    | none => none
theorem renE_ok {S S' : Sig} {E : Env} {fm : PT Nat} {sm : PT AV} (hs : SymOk S S' E sm) : ∀ (l l' : List (AV × AV × Nat)), renE fm sm l = some l' → @entry? S' (E.of fm) l = @entry? S E l'
  | [], l', h => by simp only [renE, Option.some.injEq] at h; subst h; rfl
  | (k, v, n) :: es, l', h => by
    simp only [renE] at h
    split at h
    · rename_i k' hk
      split at h
      · rename_i v' hv
        split at h
        · rename_i es' he
          cases h
          simp only [entry?, ren_ok hs k k' hk, ren_ok hs v v' hv, renE_ok hs es es' he]
        · cases h
      · cases h
    · cases h
def sameE : List (AV × AV × Nat) → List (AV × AV × Nat) → Bool
  | [], [] => true
  | (k, v, n) :: es, (k', v', n') :: es' => match AV.same k k', AV.same v v', Nat.beq n n' with
    | true, true, true => sameE es es'
    | _, _, _ => false
  | _, _ => false
theorem sameE_eq : ∀ {l l' : List (AV × AV × Nat)}, sameE l l' = true → l = l'
  | [], [], _ => rfl
  | (k, v, n) :: es, (k', v', n') :: es', h => by
    simp only [sameE] at h
    split at h
    · rename_i h1 h2 h3
      rw [same_eq h1, same_eq h2, Nat.eq_of_beq_eq_true h3, sameE_eq h]
    · cases h
  | [], _ :: _, h => by cases h
  | _ :: _, [], h => by cases h

/-- One block of the new heap. -/
def subAt (B : St) (fm : PT Nat) (sm : PT AV) (A : St) (b : Nat) : Bool :=
  match B.heap.at_ b with
  | none => match fm.at_ b with | none => true | some _ => false
  | some (.row r) => match fm.at_ b with
    | none => false
    | some c => match A.heap.at_ c with
      | some (.row q) => match Nat.beq r.lo q.lo, Nat.beq r.n q.n, Nat.beq r.elem q.elem, Nat.beq r.fam b with
        | true, true, true, true => match (match r.exact with | true => q.exact | false => true), (match r.cap with | none => true | some k => match q.cap with | some k' => Nat.beq k k' | none => false) with
          | true, true => match B.fams.at_ b with
            | some f => match A.fams.at_ q.fam with
              | some g => match g.lets c, Nat.beq f.frz g.frz, (match f.strish with | true => g.strish | false => !g.strish), Nat.ble b f.last, Nat.ble r.n f.mx with
                | true, true, true, true, true => match Nat.beq q.fam 0 with
                  | true => false
                  | false => cellsSub fm sm r.cells q.cells r.lo (r.n - r.lo)
                | _, _, _, _, _ => false
              | none => false
            | none => false
          | _, _ => false
        | _, _, _, _ => false
      | _ => false
  | some (.map es c) => match fm.at_ b with
    | none => false
    | some d => match A.heap.at_ d with
      | some (.map es' c') => match renE fm sm es, Nat.beq c c', Nat.blt 0 d with
        | some l, true, true => sameE l es'
        | _, _, _ => false
      | _ => false
  | some _ => false
def subAll (B : St) (fm : PT Nat) (sm : PT AV) (A : St) : Nat → Bool
  | 0 => true
  | n + 1 => match subAt B fm sm A n with
    | true => subAll B fm sm A n
    | false => false
theorem subAll_at {B : St} {fm : PT Nat} {sm : PT AV} {A : St} : ∀ {n : Nat}, subAll B fm sm A n = true → ∀ b, b < n → subAt B fm sm A b = true
  | 0, _, b, hb => by omega
  | n + 1, h, b, hb => by
    simp only [subAll] at h
    split at h
    · rename_i h1
      by_cases hbn : b = n
      · subst hbn; exact h1
      · exact subAll_at h b (by omega)
    · cases h
/-- The groups of the blocks that are meant, one after the other. -/
def grpsOf (fm : PT Nat) (A : St) : Nat → List Nat
  | 0 => []
  | n + 1 => match fm.at_ n with
    | some c => A.grp c :: grpsOf fm A n
    | none => grpsOf fm A n
def allNe (x : Nat) : List Nat → Bool
  | [] => true
  | y :: ys => match Nat.beq x y with | true => false | false => allNe x ys
def nodupB : List Nat → Bool
  | [] => true
  | x :: xs => match allNe x xs with | true => nodupB xs | false => false
theorem allNe_ok {x : Nat} : ∀ {l : List Nat}, allNe x l = true → x ∉ l
  | [], _ => by simp
  | y :: ys, h => by
    simp only [allNe] at h
    split at h
    · cases h
    · rename_i hb
      intro hm
      simp only [List.mem_cons] at hm
      rcases hm with rfl | hm
      · rw [Nat.beq_refl] at hb; cases hb
      · exact allNe_ok h hm
theorem grps_mem {fm : PT Nat} {A : St} : ∀ {n b c : Nat}, b < n → fm.at_ b = some c → A.grp c ∈ grpsOf fm A n
  | 0, b, c, hb, _ => by omega
  | n + 1, b, c, hb, hc => by
    simp only [grpsOf]
    by_cases hbn : b = n
    · subst hbn; rw [hc]; simp
    · have := grps_mem (A := A) (show b < n by omega) hc
      split <;> simp [this]
theorem grps_ne {fm : PT Nat} {A : St} : ∀ {n : Nat}, nodupB (grpsOf fm A n) = true → ∀ {b b' c c' : Nat}, b < n → b' < n → b ≠ b' → fm.at_ b = some c → fm.at_ b' = some c' → A.grp c ≠ A.grp c'
  | 0, _, b, _, _, _, hb, _, _, _, _ => by omega
  | n + 1, h, b, b', c, c', hb, hb', hne, hc, hc' => by
    simp only [grpsOf] at h
    by_cases hbn : b = n
    · subst hbn
      rw [hc] at h
      simp only [nodupB] at h
      split at h
      · rename_i h1
        intro e
        exact allNe_ok h1 (e ▸ grps_mem (show b' < b by omega) hc')
      · cases h
    · by_cases hbn' : b' = n
      · subst hbn'
        rw [hc'] at h
        simp only [nodupB] at h
        split at h
        · rename_i h1
          intro e
          exact allNe_ok h1 (e.symm ▸ grps_mem (show b < b' by omega) hc)
        · cases h
      · have h2 : nodupB (grpsOf fm A n) = true := by
          split at h
          · simp only [nodupB] at h
            split at h
            · exact h
            · cases h
          · exact h
        exact grps_ne h2 (by omega) (by omega) hne hc hc'
/-- No name is given past the new heap's end. -/
def capped {α : Type} : PT α → List Bool → Nat → Bool
  | .leaf, _, _ => true
  | .node l v r, k, n => (match v with | some _ => Nat.blt (unbits k.reverse) n | none => true) && (capped l (false :: k) n && capped r (true :: k) n)
/-- the new heap B says no more than A, block b being A's block fm b -/
def subB (B : St) (fm : PT Nat) (sm : PT AV) (A : St) : Bool :=
  subAll B fm sm A B.next && nodupB (grpsOf fm A B.next) && Nat.blt 0 B.next
/-- what stands at or past the end is nothing -/
def Ends (B : St) (fm : PT Nat) : Prop := ∀ b, B.next ≤ b → fm.at_ b = none ∧ B.heap.at_ b = none

theorem Rel.sub {S S' : Sig} {W0 : Base} {E : Env} {A B : St} {w : World} {fm : PT Nat} {sm : PT AV} (R : @Rel S 0 W0 E A w) (h : subB B fm sm A = true) (hend : Ends B fm) (hs : SymOk S S' E sm) :
    @Rel S' 0 ⟨W0.toWorld, fun _ => False⟩ (E.of fm) B w := by
  unfold subB at h
  rw [Bool.and_eq_true, Bool.and_eq_true] at h
  obtain ⟨⟨hall, hnd⟩, hpos⟩ := h
  have hpos : 0 < B.next := Nat.le_of_ble_eq_true hpos
  have lt_of : ∀ b o, B.heap.at_ b = some o → b < B.next := fun b o hb => by
    rcases Nat.lt_or_ge b B.next with h | h
    · exact h
    · rw [(hend b h).2] at hb; cases hb
  have elt : ∀ b e, (E.of fm) b = some e → b < B.next := fun b e hb => by
    rcases Nat.lt_or_ge b B.next with h | h
    · exact h
    · unfold Env.of at hb; rw [(hend b h).1] at hb; cases hb
  have eof : ∀ b e, (E.of fm) b = some e → ∃ c, fm.at_ b = some c ∧ E c = some e := fun b e hb => by
    unfold Env.of at hb
    split at hb
    · rename_i c hc; exact ⟨c, hc, hb⟩
    · cases hb
  have row : ∀ b r, B.heap.at_ b = some (.row r) → ∃ c q f g, fm.at_ b = some c ∧ A.heap.at_ c = some (.row q) ∧ r.lo = q.lo ∧ r.n = q.n ∧ r.elem = q.elem ∧ r.fam = b ∧ (r.exact = true → q.exact = true) ∧ (∀ k, r.cap = some k → q.cap = some k) ∧
      B.fams.at_ b = some f ∧ A.fams.at_ q.fam = some g ∧ g.lets c = true ∧ f.frz = g.frz ∧ f.strish = g.strish ∧ b ≤ f.last ∧ r.n ≤ f.mx ∧ q.fam ≠ 0 ∧ cellsSub fm sm r.cells q.cells r.lo (r.n - r.lo) = true := by
    intro b r hb
    have h1 := subAll_at hall b (lt_of b _ hb)
    unfold subAt at h1
    rw [hb] at h1
    simp only at h1
    split at h1
    · cases h1
    rename_i c hc
    split at h1
    · rename_i q hq
      split at h1
      · rename_i h2 h3 h4 h5
        split at h1
        · rename_i h6 h7
          split at h1
          · rename_i f hf
            split at h1
            · rename_i g hg
              split at h1
              · rename_i h8 h9 h10 h11 h12
                split at h1
                · cases h1
                · rename_i h13
                  refine ⟨c, q, f, g, hc, hq, Nat.eq_of_beq_eq_true h2, Nat.eq_of_beq_eq_true h3, Nat.eq_of_beq_eq_true h4, Nat.eq_of_beq_eq_true h5, ?_, ?_, hf, hg, h8, Nat.eq_of_beq_eq_true h9, ?_, Nat.le_of_ble_eq_true h11, Nat.le_of_ble_eq_true h12, ?_, h1⟩
                  · intro hx; rw [hx] at h6; exact h6
                  · intro k hk
                    rw [hk] at h7
                    simp only at h7
                    split at h7
                    · rename_i k' hk'; rw [Nat.eq_of_beq_eq_true h7]; exact hk'
                    · cases h7
                  · cases hs1 : f.strish with
                    | true => rw [hs1] at h10; exact h10.symm
                    | false => rw [hs1] at h10; cases hs2 : g.strish with
                      | true => rw [hs2] at h10; cases h10
                      | false => rfl
                  · intro e; rw [e] at h13; cases h13
              · cases h1
            · cases h1
          · cases h1
        · cases h1
      · cases h1
    · cases h1
  have obj : ∀ b o, B.heap.at_ b = some o → (∀ r, o ≠ .row r) → ∃ d es es' c, o = .map es c ∧ fm.at_ b = some d ∧ A.heap.at_ d = some (.map es' c) ∧ renE fm sm es = some es' ∧ 0 < d := by
    intro b o hb hn
    have h1 := subAll_at hall b (lt_of b _ hb)
    unfold subAt at h1
    rw [hb] at h1
    cases o with
    | row r => exact absurd rfl (hn r)
    | map es c =>
      simp only at h1
      split at h1
      · cases h1
      rename_i d hd
      split at h1
      · rename_i es' c' hm
        split at h1
        · rename_i l hl hcc hd0
          have := sameE_eq h1
          subst this
          rw [← Nat.eq_of_beq_eq_true hcc] at hm
          exact ⟨d, es, l, c, rfl, hd, hm, hl, Nat.le_of_ble_eq_true hd0⟩
        · cases h1
      · cases h1
    | strIter s pos => simp at h1
    | mapIter m since seen stepped => simp at h1
  have grpne : ∀ b c, fm.at_ b = some c → b < B.next → A.grp c ≠ 0 ∧ B.grp b = b := by
    intro b c hc hb
    have h1 := subAll_at hall b hb
    cases hh : B.heap.at_ b with
    | none =>
      unfold subAt at h1
      rw [hh, hc] at h1
      cases h1
    | some o =>
      cases o with
      | row r =>
        obtain ⟨c', q, f, g, hc', hq, _, _, _, hfam, _, _, _, _, _, _, _, _, _, hne, _⟩ := row b r hh
        rw [hc] at hc'; cases hc'
        refine ⟨?_, ?_⟩
        · unfold St.grp; rw [hq]; exact hne
        · unfold St.grp; rw [hh]; exact hfam
      | map es k =>
        obtain ⟨d, es2, es', k2, _, hd, hm, _, hd0⟩ := obj b _ hh (by intro r h; cases h)
        rw [hc] at hd; cases hd
        have hcpos : c ≠ 0 := by omega
        refine ⟨?_, ?_⟩
        · unfold St.grp; rw [hm]; exact hcpos
        · unfold St.grp; rw [hh]
      | strIter s pos => unfold subAt at h1; rw [hh] at h1; simp at h1
      | mapIter m since seen stepped => unfold subAt at h1; rw [hh] at h1; simp at h1
  exact {
    pos := hpos
    fresh := fun b hb => ⟨by unfold Env.of; rw [(hend b hb).1], (hend b hb).2⟩
    glob := fun g hg => absurd hg (Nat.not_lt_zero g)
    keep := fun b hb => hb.elim
    rows := fun b r f e h1 h2 h3 he => by
      obtain ⟨c, q, f', g, hc, hq, e1, e2, e3, e4, e5, e6, hf, hg, hl, e7, e8, _, _, _, hcell⟩ := row b r h1
      rw [e4, hf] at h2
      cases h2
      obtain ⟨c', hc', hE⟩ := eof b e he
      rw [hc] at hc'; cases hc'
      obtain ⟨cs, fz, g1, g2, g3, g4, g5, g6, g7, g8, g9⟩ := @Rel.rows S 0 W0 E A w R c q g e hq hg hl hE
      refine ⟨cs, fz, by rw [e3]; exact g1, fun hx => by rw [e2]; exact g2 (e5 hx), by rw [e1]; exact g3, by rw [e2]; exact g4, fun k hk => g5 k (e6 k hk), g6, ?_, g8, ?_⟩
      · intro i v hlo hn hv
        obtain ⟨v', hr, ho⟩ := cellsSub_ok _ _ hcell i v hlo (by omega) hv
        obtain ⟨x, hx, hcs⟩ := g7 i v' (by omega) (by omega) ho
        exact ⟨x, by rw [ren_ok hs v v' hr]; exact hx, hcs⟩
      · intro i hi
        rw [e7]
        exact g9 i (by rw [← e8]; exact hi)
    objs := fun b o h1 h2 => by
      obtain ⟨d, es, es', c, rfl, hd, hm, hr, _⟩ := obj b o h1 h2
      obtain ⟨e, hE, res, hres, hent⟩ := @Rel.objs S 0 W0 E A w R d _ hm (by intro r h; cases h)
      refine ⟨e, by unfold Env.of; rw [hd]; exact hE, res, hres, ?_⟩
      rw [renE_ok hs es es' hr]; exact hent
    famlt := fun b r h1 => by
      obtain ⟨c, q, f, g, _, _, _, _, _, hfam, _⟩ := row b r h1
      rw [hfam]; exact Nat.le_refl _
    last := fun b r f h1 h2 _ => by
      obtain ⟨c, q, f', g, _, _, _, _, _, hfam, _, _, hf, _, _, _, _, hl, _⟩ := row b r h1
      rw [hfam, hf] at h2; cases h2
      exact hl
    mx := fun b r f h1 h2 _ _ => by
      obtain ⟨c, q, f', g, _, _, _, _, _, hfam, _, _, hf, _, _, _, _, _, hm, _⟩ := row b r h1
      rw [hfam, hf] at h2; cases h2
      exact hm
    same := fun b b' r r' e e' h1 h2 h3 _ h5 h6 _ => by
      obtain ⟨c, q, f, g, _, _, _, _, _, hfam, _⟩ := row b r h1
      obtain ⟨c', q', f', g', _, _, _, _, _, hfam', _⟩ := row b' r' h2
      have : b = b' := by rw [← hfam, ← hfam', h3]
      subst this
      rw [h5] at h6; cases h6
      exact Or.inr (Or.inr rfl)
    apart := fun b b' e e' h1 h2 h3 => by
      obtain ⟨c, hc, hE⟩ := eof b e h1
      obtain ⟨c', hc', hE'⟩ := eof b' e' h2
      have hb := elt b e h1
      have hb' := elt b' e' h2
      have hne : b ≠ b' := fun e => h3 (by rw [e])
      exact @Rel.apart S 0 W0 E A w R c c' e e' hE hE' (grps_ne hnd hb hb' hne hc hc')
    own := fun b e h1 h2 => by
      obtain ⟨c, hc, hE⟩ := eof b e h1
      exact @Rel.own S 0 W0 E A w R c e hE (grpne b c hc (elt b e h1)).1
    size := fun b e h1 => by
      obtain ⟨c, hc, hE⟩ := eof b e h1
      exact @Rel.size S 0 W0 E A w R c e hE
    below := @Rel.below S 0 W0 E A w R }
end Go.Am
