/-
  THE ABSTRACT MACHINE, part 23: integers and temporaries, quicker to reckon.
-/
import Derived.Test.YtenggpnmocbfoaaGreatAm22
namespace Go.Am
set_option linter.unusedSectionVars false
variable [Sig]

/- FORCED. -/
def forceN {β : Type} (n : Nat) (k : Nat → β) : β := match n with | 0 => k 0 | Nat.succ p => k (Nat.succ p)
theorem forceN_eq {β : Type} (n : Nat) (k : Nat → β) : forceN n k = k n := by cases n <;> rfl
def forceI {β : Type} (n : Int) (k : Int → β) : β := match n with | .ofNat m => forceN m fun m => k (.ofNat m) | .negSucc m => forceN m fun m => k (.negSucc m)
theorem forceI_eq {β : Type} (n : Int) (k : Int → β) : forceI n k = k n := by cases n <;> simp only [forceI, forceN_eq]

/- A KIND's NUMBERS. -/
def kidx : IntKind → Nat
  | .i8 => 0 | .i16 => 1 | .i32 => 2 | .i64 => 3 | .u8 => 4 | .u16 => 5 | .u32 => 6 | .u64 => 7
theorem kidx_inj {a b : IntKind} (h : Nat.beq (kidx a) (kidx b) = true) : a = b := by
  have := Nat.eq_of_beq_eq_true h
  cases a <;> cases b <;> first | rfl | (simp [kidx] at this)
/-- 2 to the bits -/
def pw : IntKind → Nat
  | .i8 => 256 | .i16 => 65536 | .i32 => 4294967296 | .i64 => 18446744073709551616 | .u8 => 256 | .u16 => 65536 | .u32 => 4294967296 | .u64 => 18446744073709551616
/-- from here on a signed one is negative; an unsigned one never -/
def hf : IntKind → Nat
  | .i8 => 128 | .i16 => 32768 | .i32 => 2147483648 | .i64 => 9223372036854775808 | .u8 => 256 | .u16 => 65536 | .u32 => 4294967296 | .u64 => 18446744073709551616
def wrapM (k : IntKind) (m : Nat) : Int := match Nat.blt m (hf k) with | true => .ofNat m | false => .negSucc (Nat.sub (Nat.sub (pw k) 1) m)
def wrapF (k : IntKind) (n : Int) : Int :=
  match n with
  | .ofNat m => match Nat.blt m (hf k) with
    | true => .ofNat m
    | false => wrapM k (Nat.mod m (pw k))
  | .negSucc m => wrapM k (Nat.sub (Nat.sub (pw k) 1) (Nat.mod m (pw k)))
theorem pow_pw (k : IntKind) : (2 ^ k.bits : Int) = (pw k : Int) := by cases k <;> decide
theorem wrapM_eq (k : IntKind) (m : Nat) (h : m < pw k) : wrapM k m = k.wrap (m : Int) := by
  have hm : (m : Int) % (pw k : Int) = (m : Int) := by
    exact Int.emod_eq_of_lt (Int.natCast_nonneg m) (by omega)
  have half : (2 ^ (k.bits - 1) : Int) = ((pw k / 2 : Nat) : Int) := by cases k <;> decide
  unfold IntKind.wrap
  rw [pow_pw, half]
  simp only [hm]
  unfold wrapM
  cases hb : Nat.blt m (hf k) with
  | true =>
    have hb := Nat.le_of_ble_eq_true hb
    rw [if_neg]
    · rfl
    · cases k <;> simp [IntKind.signed, hf, pw] at hb ⊢ <;> omega
  | false =>
    have hb : ¬ (m < hf k) := fun h2 => by rw [show Nat.blt m (hf k) = true from Nat.ble_eq_true_of_le h2] at hb; cases hb
    have hsg : k.signed = true := by cases k <;> simp [hf, pw] at hb h ⊢ <;> first | rfl | omega
    have hge : ((pw k / 2 : Nat) : Int) ≤ (m : Int) := by cases k <;> simp [hf, pw] at hb h ⊢ <;> omega
    rw [if_pos (by rw [hsg]; simpa using hge)]
    simp only [Int.negSucc_eq]
    have : Nat.sub (Nat.sub (pw k) 1) m = pw k - 1 - m := rfl
    rw [this]
    omega
theorem wrapF_eq (k : IntKind) (n : Int) : wrapF k n = k.wrap n := by
  have hpos : 0 < pw k := by cases k <;> decide
  have gen : ∀ n : Int, k.wrap n = k.wrap (n % (pw k : Int)) := fun n => by
    unfold IntKind.wrap
    rw [pow_pw, Int.emod_emod_of_dvd _ (Int.dvd_refl _)]
  cases n with
  | ofNat m =>
    unfold wrapF
    simp only
    cases hb : Nat.blt m (hf k) with
    | true =>
      simp only
      have hlt : m < hf k := Nat.le_of_ble_eq_true hb
      have hle : hf k ≤ pw k := by cases k <;> decide
      have := wrapM_eq k m (by omega)
      unfold wrapM at this
      rw [hb] at this
      exact this
    | false =>
      simp only
      have : Nat.mod m (pw k) = m % pw k := rfl
      rw [this, wrapM_eq k _ (Nat.mod_lt _ hpos), gen (Int.ofNat m)]
      rfl
  | negSucc m =>
    unfold wrapF
    simp only
    have e : Nat.sub (Nat.sub (pw k) 1) (Nat.mod m (pw k)) = pw k - 1 - m % pw k := rfl
    have hlt := Nat.mod_lt m hpos
    rw [e, wrapM_eq k _ (by omega), gen (Int.negSucc m)]
    congr 1
    rw [Int.negSucc_emod _ (by omega)]
    omega

/- COMPARED. -/
def ltI (a b : Int) : Bool :=
  match a, b with
  | .ofNat x, .ofNat y => Nat.blt x y
  | .ofNat _, .negSucc _ => false
  | .negSucc _, .ofNat _ => true
  | .negSucc x, .negSucc y => Nat.blt y x
theorem ltI_eq (a b : Int) : ltI a b = decide (a < b) := by
  have key : ∀ (p : Prop) [Decidable p] (c : Bool), (c = true ↔ p) → c = decide p := fun p _ c h => by
    cases c with
    | true => exact (decide_eq_true (h.1 rfl)).symm
    | false => exact (decide_eq_false (fun hp => by have := h.2 hp; cases this)).symm
  apply key
  cases a with
  | ofNat x =>
    cases b with
    | ofNat y => simp only [ltI]; rw [Nat.blt_eq]; exact Int.ofNat_lt.symm
    | negSucc y => simp only [ltI]; constructor; intro h; cases h; intro h; have := Int.negSucc_lt_zero y; have : (0 : Int) ≤ Int.ofNat x := Int.natCast_nonneg x; omega
  | negSucc x =>
    cases b with
    | ofNat y => simp only [ltI, true_iff]; have := Int.negSucc_lt_zero x; have : (0 : Int) ≤ Int.ofNat y := Int.natCast_nonneg y; omega
    | negSucc y => simp only [ltI]; rw [Nat.blt_eq, Int.negSucc_eq, Int.negSucc_eq]; omega
def eqI (a b : Int) : Bool :=
  match a, b with
  | .ofNat x, .ofNat y => Nat.beq x y
  | .negSucc x, .negSucc y => Nat.beq x y
  | _, _ => false
theorem eqI_eq (a b : Int) : eqI a b = (a == b) := by
  cases a with
  | ofNat x =>
    cases b with
    | ofNat y =>
      simp only [eqI]
      rw [Bool.eq_iff_iff, beq_iff_eq]
      constructor
      · intro h; rw [Nat.eq_of_beq_eq_true h]
      · intro h; cases h; exact Nat.beq_refl _
    | negSucc y => rfl
  | negSucc x =>
    cases b with
    | ofNat y => rfl
    | negSucc y =>
      simp only [eqI]
      rw [Bool.eq_iff_iff, beq_iff_eq]
      constructor
      · intro h; rw [Nat.eq_of_beq_eq_true h]
      · intro h; cases h; exact Nat.beq_refl _

/- THE OPERATIONS ON INTEGERS. -/
def mkI (k : IntKind) (n : Int) : Option AV := forceI n fun n => some (.int k n)
def intFast (op : BinOp) (k : IntKind) (a b : Int) : Option AV :=
  match op with
  | .add => mkI k (wrapF k (Int.add a b))
  | .sub => mkI k (wrapF k (Int.sub a b))
  | .mul => mkI k (wrapF k (Int.mul a b))
  | .and => match a, b with
    | .ofNat x, .ofNat y => mkI k (wrapF k (.ofNat (Nat.land (Nat.mod x (pw k)) (Nat.mod y (pw k)))))
    | _, _ => intBin .and k a b
  | .or => match a, b with
    | .ofNat x, .ofNat y => mkI k (wrapF k (.ofNat (Nat.lor (Nat.mod x (pw k)) (Nat.mod y (pw k)))))
    | _, _ => intBin .or k a b
  | .xor => match a, b with
    | .ofNat x, .ofNat y => mkI k (wrapF k (.ofNat (Nat.xor (Nat.mod x (pw k)) (Nat.mod y (pw k)))))
    | _, _ => intBin .xor k a b
  | .shr => match a, b with
    | .ofNat x, .ofNat s => match Nat.ble s 64 with
      | true => mkI k (.ofNat (Nat.div x (Nat.pow 2 (match Nat.ble s k.bits with | true => s | false => k.bits))))
      | false => intBin .shr k a b
    | _, _ => intBin .shr k a b
  | .shl => match b with
    | .ofNat s => mkI k (wrapF k (Int.mul a (.ofNat (Nat.pow 2 (match Nat.ble s k.bits with | true => s | false => k.bits)))))
    | _ => intBin .shl k a b
  | .eql => some (.bool (eqI a b))
  | .neq => some (.bool (match eqI a b with | true => false | false => true))
  | .lss => some (.bool (ltI a b))
  | .leq => some (.bool (match ltI b a with | true => false | false => true))
  | .gtr => some (.bool (ltI b a))
  | .geq => some (.bool (match ltI a b with | true => false | false => true))
  | op => intBin op k a b
theorem mkI_eq (k : IntKind) (n : Int) : mkI k n = some (.int k n) := forceI_eq _ _
theorem ofInt_nat (k : IntKind) (x : Nat) : (BitVec.ofInt k.bits (Int.ofNat x)).toNat = x % pw k := by
  have : (2 ^ k.bits : Nat) = pw k := by cases k <;> decide
  rw [← this]
  simp
theorem min_eq (s b : Nat) : (match Nat.ble s b with | true => s | false => b) = min s b := by
  cases h : Nat.ble s b with
  | true => have := Nat.le_of_ble_eq_true h; simp only; omega
  | false =>
    have : ¬ s ≤ b := fun h2 => by rw [Nat.ble_eq_true_of_le h2] at h; cases h
    simp only; omega
theorem not_m (b : Bool) : (match b with | true => false | false => true) = !b := by cases b <;> rfl
theorem intFast_eq (op : BinOp) (k : IntKind) (a b : Int) : intFast op k a b = intBin op k a b := by
  cases op <;> simp only [intFast]
  case add => rw [mkI_eq, wrapF_eq]; rfl
  case sub => rw [mkI_eq, wrapF_eq]; rfl
  case mul => rw [mkI_eq, wrapF_eq]; rfl
  case and =>
    split
    · rename_i x y
      rw [mkI_eq, wrapF_eq]
      simp only [intBin, BitVec.toNat_and, ofInt_nat]; rfl
    · rfl
  case or =>
    split
    · rename_i x y
      rw [mkI_eq, wrapF_eq]
      simp only [intBin, BitVec.toNat_or, ofInt_nat]; rfl
    · rfl
  case xor =>
    split
    · rename_i x y
      rw [mkI_eq, wrapF_eq]
      simp only [intBin, BitVec.toNat_xor, ofInt_nat]; rfl
    · rfl
  case shr =>
    split
    · rename_i x s
      split
      · rw [mkI_eq, min_eq]
        have hn : ¬ (Int.ofNat s < 0) := by have := Int.natCast_nonneg s; show ¬ ((s : Int) < 0); omega
        simp only [intBin, if_neg hn]
        congr 2
        show Int.ofNat (x / 2 ^ (min s k.bits)) = (Int.ofNat x).fdiv (2 ^ min (Int.ofNat s).toNat k.bits)
        have : (2 ^ min (Int.ofNat s).toNat k.bits : Int) = ((2 ^ min s k.bits : Nat) : Int) := by push_cast; rfl
        rw [this]; exact (Int.ofNat_fdiv x (2 ^ min s k.bits))
      · rfl
    · rfl
  case shl =>
    split
    · rename_i s
      rw [mkI_eq, wrapF_eq, min_eq]
      have hn : ¬ (Int.ofNat s < 0) := by have := Int.natCast_nonneg s; show ¬ ((s : Int) < 0); omega
      simp only [intBin, if_neg hn]
      congr 3
    · rfl
  case eql => rw [eqI_eq]; rfl
  case neq => rw [eqI_eq, not_m]; rfl
  case lss => rw [ltI_eq]; rfl
  case gtr => rw [ltI_eq]; rfl
  case leq =>
    rw [ltI_eq, not_m]
    simp only [intBin]
    congr 2
    rw [Bool.eq_iff_iff]; simp
  case geq =>
    rw [ltI_eq, not_m]
    simp only [intBin]
    congr 2
    rw [Bool.eq_iff_iff]; simp

/- TEMPORARIES. -/
namespace PT
def setK {α β : Type} : PT α → List Bool → α → (PT α → β) → β
  | leaf, [], x, k => k (node leaf (some x) leaf)
  | leaf, b :: bs, x, k => match b with | true => setK leaf bs x fun r => k (node leaf none r) | false => setK leaf bs x fun l => k (node l none leaf)
  | node l _ r, [], x, k => k (node l (some x) r)
  | node l v r, b :: bs, x, k => match b with | true => setK r bs x fun r' => k (node l v r') | false => setK l bs x fun l' => k (node l' v r)
theorem setK_eq {α β : Type} : ∀ (t : PT α) (ks : List Bool) (x : α) (k : PT α → β), setK t ks x k = k (set t ks x)
  | leaf, [], x, k => rfl
  | leaf, b :: bs, x, k => by cases b <;> simp only [setK, set, setK_eq]
  | node l _ r, [], x, k => rfl
  | node l v r, b :: bs, x, k => by cases b <;> simp only [setK, set, setK_eq]
end PT
def putK {β : Type} (ρ : PT AV) (n : Nat) (d : Option Tmp) (v : AV) (k : PT AV → Option β) : Option β :=
  match d with
  | none => k ρ
  | some t => match Nat.blt t n with | true => PT.setK ρ (key t) v k | false => none
theorem putK_eq {β : Type} (ρ : PT AV) (n : Nat) (d : Option Tmp) (v : AV) (k : PT AV → Option β) : putK ρ n d v k = match putT ρ n d v with | some ρ' => k ρ' | none => none := by
  cases d with
  | none => rfl
  | some t =>
    simp only [putK, putT]
    cases Nat.blt t n with
    | true => simp only [PT.setK_eq]; rfl
    | false => rfl

end Go.Am
