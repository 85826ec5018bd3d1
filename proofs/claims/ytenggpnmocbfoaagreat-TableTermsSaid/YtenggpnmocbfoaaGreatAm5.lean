/-
  THE ABSTRACT MACHINE, part 5: more operations that only read: parts, equality, addresses, slices of strings, lengths, look-ups.
-/
import Derived.Test.YtenggpnmocbfoaaGreatAm4
import Derived.Laws.StructEq
import Derived.ChangeKeysEq
namespace Go.Am
set_option linter.unusedSectionVars false
variable [Sig]

theorem reals_drop {E : Env} : ∀ {l : List AV} {xs : List Value} (n : Nat), reals E l = some xs → reals E (l.drop n) = some (xs.drop n)
  | l, xs, 0, h => h
  | [], xs, n + 1, h => by simp only [reals, Option.some.injEq] at h; subst h; rfl
  | v :: vs, xs, n + 1, h => by obtain ⟨y, ys, rfl, _, h'⟩ := reals_cons h; exact reals_drop n h'
theorem reals_take {E : Env} : ∀ {l : List AV} {xs : List Value} (n : Nat), reals E l = some xs → reals E (l.take n) = some (xs.take n)
  | l, xs, 0, h => rfl
  | [], xs, n + 1, h => by simp only [reals, Option.some.injEq] at h; subst h; rfl
  | v :: vs, xs, n + 1, h => by obtain ⟨y, ys, rfl, h1, h'⟩ := reals_cons h; exact reals_mk h1 (reals_take n h')

/-- a part of an aggregate -/
def aPart (P : Program) (t : TypeId) (l : List AV) (off : Nat) : Option AV :=
  match P.underlying t with
  | some d => match aggOf d with
    | true => match P.info? t with
      | some i => some (.agg ((l.drop off).take i.size))
      | none => none
    | false => l[off]?
  | none => none
theorem aPart_ok {P : Program} {E : Env} {w : World} {t : TypeId} {l : List AV} {xs : List Value} {off : Nat} {v : AV} (h : aPart P t l off = some v) (hl : reals E l = some xs) :
    ∃ y, (part t xs.toArray off).run P w = .ok y w ∧ real E v = some y := by
  unfold aPart at h
  split at h
  · rename_i d hd
    split at h
    · rename_i hag
      split at h
      · rename_i i hi
        cases h
        refine ⟨.agg ((xs.drop off).take i.size).toArray, ?_, real_agg_mk (reals_take _ (reals_drop _ hl))⟩
        unfold part
        rw [bind_ok (run_isAgg hd), hag]
        simp only [if_true]
        rw [bind_ok (run_sizeOf hi)]
        have : xs.toArray.extract off (off + i.size) = ((xs.drop off).take i.size).toArray := by
          apply Array.ext'
          simp
        rw [this]; rfl
      · cases h
    · rename_i hag
      obtain ⟨x, hx, hr⟩ := reals_get hl off v h
      refine ⟨x, ?_, hr⟩
      unfold part
      rw [bind_ok (run_isAgg hd), hag]
      simp only [Bool.false_eq_true, if_false]
      have : xs.toArray[off]? = some x := by simpa using hx
      simp only [this]; rfl
  · cases h

def aEqFields (P : Program) (eq : TypeId → AV → AV → Option Bool) (xs ys : List AV) : List Field → Option Bool
  | [] => some true
  | f :: fs => if f.name ≠ "_" then
      match aPart P f.type xs f.offset with
      | some a => match aPart P f.type ys f.offset with
        | some b => match eq f.type a b with
          | some true => aEqFields P eq xs ys fs
          | some false => some false
          | none => none
        | none => none
      | none => none
    else aEqFields P eq xs ys fs
/-- Two blocks that surely lie apart, none of them shared with a string. -/
def clean (A : St) (b : Nat) : Option Nat :=
  match rowOf A b with
  | some (r, f) => match f.strish with
    | true => none
    | false => match f.frz with
      | 0 => some r.fam
      | _ => none
  | none => none
def aEqPtr (A : St) (b o b' o' : Nat) : Option Bool :=
  match Nat.beq b b' with
  | true => match rowOf A b with
    | some (r, _) => match Nat.ble r.lo o with
      | true => match Nat.ble r.lo o' with
        | true => some (Nat.beq o o')
        | false => none
      | false => none
    | none => none
  | false => match clean A b with
    | some x => match clean A b' with
      | some y => match Nat.beq x y with
        | true => none
        | false => some false
      | none => none
    | none => none
def aEqItems (P : Program) (eq : AV → AV → Option Bool) (e : TypeId) (c : Nat) (l m : List AV) : List Nat → Option Bool
  | [] => some true
  | i :: is => match aPart P e l (i * c) with
    | some a => match aPart P e m (i * c) with
      | some b => match eq a b with
        | some true => aEqItems P eq e c l m is
        | some false => some false
        | none => none
      | none => none
    | none => none
def aEq (P : Program) (A : St) : Nat → TypeId → AV → AV → Option Bool
  | 0, _, _, _ => none
  | d + 1, t, x, y =>
    match x, y with
    | .bool a, .bool b => match P.underlying t with | some .bool => some (a == b) | _ => none
    | .int k a, .int k' b => match P.underlying t with | some (.int _) => if k = k' then some (a == b) else none | _ => none
    | .str a, .str b => match P.underlying t with | some .string => some (a == b) | _ => none
    | .nilp, .nilp => match P.underlying t with | some (.pointer _) => some true | _ => none
    | .nilp, .ptr _ _ => match P.underlying t with | some (.pointer _) => some false | _ => none
    | .ptr _ _, .nilp => match P.underlying t with | some (.pointer _) => some false | _ => none
    | .ptr b o, .ptr b' o' => match P.underlying t with
      | some (.pointer elem) => match P.info? elem with
        | some i => match i.size with
          | 0 => none
          | _ => aEqPtr A b o b' o'
        | none => none
      | _ => none
    | .nilIface, .nilIface => match P.underlying t with | some (.interface _) => some true | _ => none
    | .nilIface, .iface _ _ => match P.underlying t with | some (.interface _) => some false | _ => none
    | .iface _ _, .nilIface => match P.underlying t with | some (.interface _) => some false | _ => none
    | .iface tx vx, .iface ty vy => match P.underlying t with
      | some (.interface _) => if tx ≠ ty then some false else match P.info? tx with
        | some i => match i.comparable with
          | true => aEq P A d tx vx vy
          | false => none
        | none => none
      | _ => none
    | .agg xs, .agg ys => match P.underlying t with
      | some (.struct fs) => match P.stoodInHeld t with
        | true => none
        | false => aEqFields P (aEq P A d) xs ys fs.toList
      | some (.array n e) => match P.info? e with
        | some _ => aEqItems P (aEq P A d e) e (P.cellsOf e) xs ys (List.range n)
        | none => none
      | _ => none
    | .nilslice, .nilslice => match P.underlying t with | some (.slice _) => some true | _ => none
    | .nilslice, .slice _ _ _ _ => match P.underlying t with | some (.slice _) => some false | _ => none
    | .slice _ _ _ _, .nilslice => match P.underlying t with | some (.slice _) => some false | _ => none
    | .nilmap, .nilmap => match P.underlying t with | some (.map _ _) => some true | _ => none
    | .nilmap, .map _ => match P.underlying t with | some (.map _ _) => some false | _ => none
    | .map _, .nilmap => match P.underlying t with | some (.map _ _) => some false | _ => none
    | .nilFunc, .nilFunc => match P.underlying t with | some (.func _ _ _) => some true | _ => none
    | .nilFunc, .func _ _ _ => match P.underlying t with | some (.func _ _ _) => some false | _ => none
    | .func _ _ _, .nilFunc => match P.underlying t with | some (.func _ _ _) => some false | _ => none
    | _, _ => none

theorem aEqItems_ok {P : Program} {E : Env} {w : World} {d : Nat} {eq : AV → AV → Option Bool} {e : TypeId} {c : Nat} {l m : List AV} {xs ys : List Value} (hl : reals E l = some xs) (hm : reals E m = some ys)
    (he : ∀ x y r x' y', eq x y = some r → real E x = some x' → real E y = some y' → (Op.equalIn d e x' y').run P w = .ok r w) :
    ∀ (is : List Nat) (r : Bool), aEqItems P eq e c l m is = some r → (Op.eqItems d e c xs.toArray ys.toArray is).run P w = .ok r w
  | [], r, h => by simp only [aEqItems] at h; cases h; rfl
  | i :: is, r, h => by
    simp only [aEqItems] at h
    simp only [Op.eqItems]
    split at h
    · rename_i a ha
      split at h
      · rename_i b hb
        obtain ⟨a', ha', hra⟩ := aPart_ok (w := w) ha hl
        obtain ⟨b', hb', hrb⟩ := aPart_ok (w := w) hb hm
        rw [bind_ok ha', bind_ok hb']
        split at h
        · rename_i h1
          rw [bind_ok (he _ _ _ _ _ h1 hra hrb)]
          simp only [Bool.not_true, Bool.false_eq_true, if_false]
          exact aEqItems_ok hl hm he is r h
        · rename_i h1
          cases h
          rw [bind_ok (he _ _ _ _ _ h1 hra hrb)]
          simp only [Bool.not_false, if_true]; rfl
        · cases h
      · cases h
    · cases h
theorem aEqFields_ok {P : Program} {E : Env} {w : World} {d : Nat} {eq : TypeId → AV → AV → Option Bool} {l m : List AV} {xs ys : List Value} (hl : reals E l = some xs) (hm : reals E m = some ys)
    (he : ∀ t x y r x' y', eq t x y = some r → real E x = some x' → real E y = some y' → (Op.equalIn d t x' y').run P w = .ok r w) :
    ∀ (fs : List Field) (r : Bool), aEqFields P eq l m fs = some r → (Op.eqFields d xs.toArray ys.toArray fs).run P w = .ok r w
  | [], r, h => by simp only [aEqFields] at h; cases h; rfl
  | f :: fs, r, h => by
    simp only [aEqFields] at h
    simp only [Op.eqFields]
    split at h
    · rename_i hn
      rw [if_pos hn]
      split at h
      · rename_i a ha
        split at h
        · rename_i b hb
          obtain ⟨a', ha', hra⟩ := aPart_ok (w := w) ha hl
          obtain ⟨b', hb', hrb⟩ := aPart_ok (w := w) hb hm
          rw [bind_ok ha', bind_ok hb']
          split at h
          · rename_i h1
            rw [bind_ok (he _ _ _ _ _ _ h1 hra hrb)]
            simp only [Bool.not_true, Bool.false_eq_true, if_false]
            exact aEqFields_ok hl hm he fs r h
          · rename_i h1
            cases h
            rw [bind_ok (he _ _ _ _ _ _ h1 hra hrb)]
            simp only [Bool.not_false, if_true]; rfl
          · cases h
        · cases h
      · cases h
    · rename_i hn
      rw [if_neg hn]
      exact aEqFields_ok hl hm he fs r h

theorem shape_of {w : World} {b : Nat} {cs : Array Value} {t : TypeId} {fz : Nat × Nat} (h : w.heap[b]? = some (.cells cs t fz)) : w.shape? b = some (t, cs.size) := by
  unfold World.shape?; rw [h]

theorem aEqPtr_ok {P : Program} {G : Nat} {W0 : Base} {E : Env} {A : St} {w : World} (R : Rel G W0 E A w) {b o b' o' : Nat} {r : Bool} {e e' : Ent} (h : aEqPtr A b o b' o' = some r) (he : E b = some e) (he' : E b' = some e') :
    (sameAddr ⟨e.blk, o - e.sh, none⟩ ⟨e'.blk, o' - e'.sh, none⟩).run P w = .ok r w := by
  unfold aEqPtr at h
  split at h
  · rename_i hbb
    have := Nat.eq_of_beq_eq_true hbb
    subst this
    rw [he] at he'; cases he'
    split at h
    · rename_i rr f hr
      split at h
      · rename_i h1
        split at h
        · rename_i h2
          cases h
          obtain ⟨ha, hb, hc⟩ := rowOf_ok hr
          obtain ⟨cs, fz, hcs, hex, hsh, _⟩ := R.rows b rr f e ha hb hc he
          have h1 := Nat.le_of_ble_eq_true h1
          have h2 := Nat.le_of_ble_eq_true h2
          unfold sameAddr
          simp only [beq_self_eq_true, if_true]
          show Result.ok _ w = _
          congr 1
          by_cases hoo : o = o'
          · subst hoo; simp
          · have : Nat.beq o o' = false := by
              cases hq : Nat.beq o o' with
              | true => exact absurd (Nat.eq_of_beq_eq_true hq) hoo
              | false => rfl
            rw [this]
            simp only [beq_eq_false_iff_ne, ne_eq, Addr.mk.injEq, true_and, and_true]
            omega
        · cases h
      · cases h
    · cases h
  · split at h
    · rename_i x hx
      split at h
      · rename_i y hy
        split at h
        · cases h
        · rename_i hxy
          cases h
          have clean_spec : ∀ c z ec, clean A c = some z → E c = some ec → ∃ cs t fz, w.heap[ec.blk]? = some (.cells cs t fz) ∧ (∀ i, ¬(fz.1 ≤ i ∧ i < fz.2)) ∧ A.grp c = z := by
            intro c z ec hcl hec
            unfold clean at hcl
            split at hcl
            · rename_i rr f hr
              split at hcl
              · cases hcl
              · rename_i hst
                split at hcl
                · rename_i hfr
                  cases hcl
                  obtain ⟨ha, hb, hc⟩ := rowOf_ok hr
                  obtain ⟨cs, fz, hcs, _, _, _, _, _, _, hfz⟩ := R.rows c rr f _ ha hb hc hec
                  refine ⟨cs, _, fz, hcs, fun i hi => ?_, grp_row ha⟩
                  have := hfz.2 i (fun hs => by rw [hst] at hs; cases hs) hi.1 hi.2
                  rw [hfr] at this; omega
                · cases hcl
            · cases hcl
          obtain ⟨cs, t, fz, hcs, hfz, hg⟩ := clean_spec b x e hx he
          obtain ⟨cs', t', fz', hcs', hfz', hg'⟩ := clean_spec b' y e' hy he'
          have hne : e.blk ≠ e'.blk := R.apart b b' e e' he he' (by
            rw [hg, hg']; intro hq; subst hq; rw [Nat.beq_refl] at hxy; cases hxy)
          have f1 : ∀ o, w.frozen? ⟨e.blk, o, none⟩ = false := fun o => by
            rw [frozen_of hcs]
            have := hfz o
            simp only [Bool.and_eq_false_iff, decide_eq_false_iff_not]; omega
          have f2 : ∀ o, w.frozen? ⟨e'.blk, o, none⟩ = false := fun o => by
            rw [frozen_of hcs']
            have := hfz' o
            simp only [Bool.and_eq_false_iff, decide_eq_false_iff_not]; omega
          have nv1 : ∀ o, (noView ⟨e.blk, o, none⟩).run P w = .ok () w := fun o => by
            unfold noView viewAt
            simp [Sem.run, shape, shape_of hcs, bind, Sem.bind, pure]
          have nv2 : ∀ o, (noView ⟨e'.blk, o, none⟩).run P w = .ok () w := fun o => by
            unfold noView viewAt
            simp [Sem.run, shape, shape_of hcs', bind, Sem.bind, pure]
          have st1 : ∀ o, (stringish ⟨e.blk, o, none⟩).run P w = .ok false w := fun o => by
            unfold stringish
            simp [Sem.run, shape, shape_of hcs, bind, Sem.bind, pure, frozen, f1]
          have st2 : ∀ o, (stringish ⟨e'.blk, o, none⟩).run P w = .ok false w := fun o => by
            unfold stringish
            simp [Sem.run, shape, shape_of hcs', bind, Sem.bind, pure, frozen, f2]
          have hm : (mayBeOne ⟨e.blk, o - e.sh, none⟩ ⟨e'.blk, o' - e'.sh, none⟩).run P w = .ok false w := by
            unfold mayBeOne
            rw [bind_ok (st1 _), bind_ok (st2 _)]
            simp [Sem.run, shape, bind, Sem.bind, pure]
          have hnb : (e.blk == e'.blk) = false := by simp [hne]
          unfold sameAddr
          simp only [hnb, Bool.false_eq_true, if_false]
          have hfro : ∀ a : Addr, (frozen a).run P w = .ok (w.frozen? a) w := fun a => rfl
          simp only [bind_ok (hfro _), f1, Bool.false_and, Bool.false_eq_true, if_false]
          rw [bind_ok (nv1 _), bind_ok (nv2 _), bind_ok hm]; rfl
      · cases h
    · cases h


theorem aEq_ok {P : Program} {G : Nat} {W0 : Base} {E : Env} {A : St} {w : World} (R : Rel G W0 E A w) :
    ∀ (d : Nat) (t : TypeId) (x y : AV) (r : Bool) (x' y' : Value), aEq P A d t x y = some r → real E x = some x' → real E y = some y' → (Op.equalIn d t x' y').run P w = .ok r w := by
  intro d
  induction d with
  | zero => intro t x y r x' y' h; simp [aEq] at h
  | succ d ih =>
    intro t x y r x' y' h hx hy
    cases x <;> cases y <;> (try (simp only [aEq] at h; cases h; done))
    case bool.bool a b =>
      cases real_bool hx; cases real_bool hy
      simp only [aEq] at h; split at h
      · rename_i hd; cases h; simp only [Op.equalIn]; rw [bind_ok (run_underlying hd)]; rfl
      · cases h
    case int.int k a k' b =>
      cases real_int hx; cases real_int hy
      simp only [aEq] at h; split at h
      · rename_i hd
        split at h
        · rename_i hk; cases h; subst hk; simp only [Op.equalIn]; rw [bind_ok (run_underlying hd)]; simp only [if_true]; rfl
        · cases h
      · cases h
    case str.str a b =>
      cases real_str hx; cases real_str hy
      simp only [aEq] at h; split at h
      · rename_i hd; cases h; rw [run_equalIn_string w d t _ _ hd]; rw [toList_mk, toList_mk]
      · cases h
    case nilp.nilp =>
      cases real_nilp hx; cases real_nilp hy
      simp only [aEq] at h; split at h
      · rename_i hd; cases h; simp only [Op.equalIn]; rw [bind_ok (run_underlying hd)]; rfl
      · cases h
    case nilp.ptr b o =>
      cases real_nilp hx; obtain ⟨e, he, rfl⟩ := real_ptr hy
      simp only [aEq] at h; split at h
      · rename_i hd; cases h; simp only [Op.equalIn]; rw [bind_ok (run_underlying hd)]; rfl
      · cases h
    case ptr.nilp b o =>
      cases real_nilp hy; obtain ⟨e, he, rfl⟩ := real_ptr hx
      simp only [aEq] at h; split at h
      · rename_i hd; cases h; simp only [Op.equalIn]; rw [bind_ok (run_underlying hd)]; rfl
      · cases h
    case ptr.ptr b o b' o' =>
      obtain ⟨e, he, rfl⟩ := real_ptr hx; obtain ⟨e', he', rfl⟩ := real_ptr hy
      simp only [aEq] at h; split at h
      · rename_i elem hd
        split at h
        · rename_i i hi
          split at h
          · cases h
          · rename_i hn
            simp only [Op.equalIn]; rw [bind_ok (run_underlying hd)]
            simp only
            rw [bind_ok (run_sizeOf hi), if_pos hn]
            exact aEqPtr_ok R h he he'
        · cases h
      · cases h
    case nilIface.nilIface =>
      cases real_nilIface hx; cases real_nilIface hy
      simp only [aEq] at h; split at h
      · rename_i hd; cases h; simp only [Op.equalIn]; rw [bind_ok (run_underlying hd)]; rfl
      · cases h
    case nilIface.iface u v =>
      cases real_nilIface hx; obtain ⟨z, hz, rfl⟩ := real_iface hy
      simp only [aEq] at h; split at h
      · rename_i hd; cases h; simp only [Op.equalIn]; rw [bind_ok (run_underlying hd)]; rfl
      · cases h
    case iface.nilIface u v =>
      cases real_nilIface hy; obtain ⟨z, hz, rfl⟩ := real_iface hx
      simp only [aEq] at h; split at h
      · rename_i hd; cases h; simp only [Op.equalIn]; rw [bind_ok (run_underlying hd)]; rfl
      · cases h
    case iface.iface tx vx ty vy =>
      obtain ⟨z, hz, rfl⟩ := real_iface hx; obtain ⟨z', hz', rfl⟩ := real_iface hy
      simp only [aEq] at h; split at h
      · rename_i hd
        split at h
        · rename_i hne; cases h; simp only [Op.equalIn]; rw [bind_ok (run_underlying hd)]; simp only [if_pos hne]; rfl
        · rename_i hne
          split at h
          · rename_i i hi
            split at h
            · rename_i hc
              simp only [Op.equalIn]; rw [bind_ok (run_underlying hd)]; simp only [if_neg hne]
              rw [bind_ok (run_typeInfo hi), hc]
              simp only [Bool.not_true, Bool.false_eq_true, if_false]
              exact ih _ _ _ _ _ _ h hz hz'
            · cases h
          · cases h
      · cases h
    case agg.agg xs ys =>
      obtain ⟨us, hu, rfl⟩ := real_agg hx; obtain ⟨vs, hv, rfl⟩ := real_agg hy
      simp only [aEq] at h; split at h
      · rename_i fs hd
        split at h
        · cases h
        · rename_i hst
          have hf : P.fieldsOf t = fs := by unfold Program.fieldsOf; rw [hd]
          rw [run_equalIn_struct w d t _ _ (by rw [hf]; exact hd) hst, hf]
          exact aEqFields_ok hu hv (fun t x y r x' y' h1 h2 h3 => ih t x y r x' y' h1 h2 h3) _ _ h
      · rename_i n e hd
        split at h
        · rename_i i hi
          rw [run_equalIn_array w d us.toArray vs.toArray hd hi]
          exact aEqItems_ok hu hv (fun x y r x' y' h1 h2 h3 => ih e x y r x' y' h1 h2 h3) _ _ h
        · cases h
      · cases h
    case nilslice.nilslice =>
      cases real_nilslice hx; cases real_nilslice hy
      simp only [aEq] at h; split at h
      · rename_i hd; cases h; simp only [Op.equalIn]; rw [bind_ok (run_underlying hd)]; rfl
      · cases h
    case nilslice.slice =>
      cases real_nilslice hx; obtain ⟨e, he, rfl⟩ := real_slice hy
      simp only [aEq] at h; split at h
      · rename_i hd; cases h; simp only [Op.equalIn]; rw [bind_ok (run_underlying hd)]; rfl
      · cases h
    case slice.nilslice =>
      cases real_nilslice hy; obtain ⟨e, he, rfl⟩ := real_slice hx
      simp only [aEq] at h; split at h
      · rename_i hd; cases h; simp only [Op.equalIn]; rw [bind_ok (run_underlying hd)]; rfl
      · cases h
    case nilmap.nilmap =>
      cases real_nilmap hx; cases real_nilmap hy
      simp only [aEq] at h; split at h
      · rename_i hd; cases h; simp only [Op.equalIn]; rw [bind_ok (run_underlying hd)]; rfl
      · cases h
    case nilmap.map =>
      cases real_nilmap hx; obtain ⟨e, he, rfl⟩ := real_map hy
      simp only [aEq] at h; split at h
      · rename_i hd; cases h; simp only [Op.equalIn]; rw [bind_ok (run_underlying hd)]; rfl
      · cases h
    case map.nilmap =>
      cases real_nilmap hy; obtain ⟨e, he, rfl⟩ := real_map hx
      simp only [aEq] at h; split at h
      · rename_i hd; cases h; simp only [Op.equalIn]; rw [bind_ok (run_underlying hd)]; rfl
      · cases h
    case nilFunc.nilFunc =>
      cases real_nilFunc hx; cases real_nilFunc hy
      simp only [aEq] at h; split at h
      · rename_i hd; cases h; simp only [Op.equalIn]; rw [bind_ok (run_underlying hd)]; rfl
      · cases h
    case nilFunc.func =>
      cases real_nilFunc hx; obtain ⟨_, _, _, _, rfl⟩ := real_func hy
      simp only [aEq] at h; split at h
      · rename_i hd; cases h; simp only [Op.equalIn]; rw [bind_ok (run_underlying hd)]; rfl
      · cases h
    case func.nilFunc =>
      cases real_nilFunc hy; obtain ⟨_, _, _, _, rfl⟩ := real_func hx
      simp only [aEq] at h; split at h
      · rename_i hd; cases h; simp only [Op.equalIn]; rw [bind_ok (run_underlying hd)]; rfl
      · cases h

end Go.Am
