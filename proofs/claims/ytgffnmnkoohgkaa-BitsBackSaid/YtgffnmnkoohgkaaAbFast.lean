/- The abstract machine's arithmetic, spelled so that the kernel reckons it fast. -/
import Derived.Test.YtgffnmnkoohgkaaAbOps6
set_option linter.unusedSimpArgs false
set_option linter.unusedVariables false
namespace Go.Ab
section
variable {P : Program}

def lim : IntKind → Nat
  | .i8 => 128
  | .i16 => 32768
  | .i32 => 2147483648
  | .i64 => 9223372036854775808
  | .u8 => 256
  | .u16 => 65536
  | .u32 => 4294967296
  | .u64 => 18446744073709551616

def wrapF (k : IntKind) (n : Int) : Int :=
  match n with
  | .ofNat m => bif Nat.blt m (lim k) then .ofNat m else k.wrap (.ofNat m)
  | .negSucc m => bif k.signed && Nat.blt m (lim k) then .negSucc m else k.wrap (.negSucc m)

theorem wrapF_eq (k : IntKind) (n : Int) : wrapF k n = k.wrap n := by
  unfold wrapF
  split
  · rename_i m
    cases h : Nat.blt m (lim k) with
    | false => rfl
    | true =>
      have := blt_iff.1 h
      simp only [cond_true]
      cases k <;> simp only [lim] at this <;> simp only [IntKind.wrap, IntKind.bits, IntKind.signed, Int.ofNat_eq_natCast] <;> simp <;> omega
  · rename_i m
    cases hs : (k.signed && Nat.blt m (lim k)) with
    | false => rfl
    | true =>
      simp only [Bool.and_eq_true] at hs
      have := blt_iff.1 hs.2
      simp only [cond_true]
      have h1 := hs.1
      cases k <;> simp only [IntKind.signed] at h1 <;> first | cases h1 | skip
      all_goals simp only [lim] at this; simp only [IntKind.wrap, IntKind.bits, IntKind.signed, Int.negSucc_eq]; simp; omega

def ikEq : IntKind → IntKind → Bool
  | .i64, .i64 | .u8, .u8 | .u64, .u64 | .i32, .i32 | .u32, .u32 | .i8, .i8 | .i16, .i16 | .u16, .u16 => true
  | _, _ => false
theorem ikEq_eq {j k : IntKind} (h : ikEq j k = true) : j = k := by cases j <;> cases k <;> first | rfl | cases h

/-- Is one number less than the other? -/
def iltF (a b : Int) : Bool :=
  match a, b with
  | .ofNat m, .ofNat n => Nat.blt m n
  | .ofNat _, .negSucc _ => false
  | .negSucc _, .ofNat _ => true
  | .negSucc m, .negSucc n => Nat.blt n m
theorem iltF_eq (a b : Int) : iltF a b = decide (a < b) := by
  unfold iltF
  split
  · rename_i m n; rw [Bool.eq_iff_iff, blt_iff, decide_eq_true_eq]; simp
  · rename_i m n; symm; rw [decide_eq_false_iff_not]; simp only [Int.ofNat_eq_natCast]; omega
  · rename_i m n; symm; rw [decide_eq_true_eq]; simp only [Int.ofNat_eq_natCast]; omega
  · rename_i m n; rw [Bool.eq_iff_iff, blt_iff, decide_eq_true_eq]; omega

def ieqF (a b : Int) : Bool :=
  match a, b with
  | .ofNat m, .ofNat n => Nat.beq m n
  | .negSucc m, .negSucc n => Nat.beq m n
  | _, _ => false
theorem ieqF_eq (a b : Int) : ieqF a b = (a == b) := by
  rw [Bool.eq_iff_iff, beq_iff_eq]
  unfold ieqF
  split
  · rename_i m n; rw [Nat.beq_eq]; simp only [Int.ofNat_eq_natCast]; omega
  · rename_i m n; rw [Nat.beq_eq]; omega
  · rename_i h1 h2
    constructor
    · intro h; cases h
    · rintro rfl
      cases a with
      | ofNat m => exact absurd rfl (h1 m m rfl)
      | negSucc m => exact absurd rfl (h2 m m rfl)

/-- Two whole numbers, by an operator (bits: of numbers from 0 on). -/
def aint (op : BinOp) (k : IntKind) (a : Int) (k' : IntKind) (b : Int) : Option Value :=
  match op with
  | .add => gd (ikEq k k') (some (.int k (wrapF k (a + b))))
  | .sub => gd (ikEq k k') (some (.int k (wrapF k (a - b))))
  | .mul => gd (ikEq k k') (some (.int k (wrapF k (a * b))))
  | .eql => gd (ikEq k k') (some (.bool (ieqF a b)))
  | .neq => gd (ikEq k k') (some (.bool (!(ieqF a b))))
  | .lss => gd (ikEq k k') (some (.bool (iltF a b)))
  | .leq => gd (ikEq k k') (some (.bool (!(iltF b a))))
  | .gtr => gd (ikEq k k') (some (.bool (iltF b a)))
  | .geq => gd (ikEq k k') (some (.bool (!(iltF a b))))
  | .quo => gd (ikEq k k' && !(ieqF b 0)) (some (.int k (wrapF k (a.tdiv b))))
  | .rem => gd (ikEq k k' && !(ieqF b 0)) (some (.int k (a.tmod b)))
  | .shl => match b with
    | .ofNat n => some (.int k (wrapF k (a * 2 ^ (min n k.bits))))
    | .negSucc _ => none
  | .shr => match b with
    | .ofNat n => some (.int k (a.fdiv (2 ^ (min n k.bits))))
    | .negSucc _ => none
  | .and => match a, b with
    | .ofNat m, .ofNat n => gd (ikEq k k' && Nat.blt m (lim k) && Nat.blt n (lim k)) (some (.int k (.ofNat (Nat.land m n))))
    | _, _ => none
  | .or => match a, b with
    | .ofNat m, .ofNat n => gd (ikEq k k' && Nat.blt m (lim k) && Nat.blt n (lim k)) (some (.int k (.ofNat (Nat.lor m n))))
    | _, _ => none
  | .xor => match a, b with
    | .ofNat m, .ofNat n => gd (ikEq k k' && Nat.blt m (lim k) && Nat.blt n (lim k)) (some (.int k (.ofNat (Nat.xor m n))))
    | _, _ => none
  | _ => none

def abin (op : BinOp) (x y : Value) : Option Value :=
  match x with
  | .int k a =>
    match y with
    | .int k' b => aint op k a k' b
    | _ => none
  | _ => none

theorem lim_le (k : IntKind) : lim k ≤ 2 ^ k.bits := by cases k <;> decide
theorem lim_wrap {k : IntKind} {n : Nat} (h : n < lim k) : k.wrap (n : Int) = n := by
  rw [← wrapF_eq]
  show (bif Nat.blt n (lim k) then Int.ofNat n else k.wrap (.ofNat n)) = n
  rw [blt_iff.2 h]; rfl
theorem lim_pow (k : IntKind) : ∃ j, lim k = 2 ^ j := by
  cases k
  · exact ⟨7, rfl⟩
  · exact ⟨15, rfl⟩
  · exact ⟨31, rfl⟩
  · exact ⟨63, rfl⟩
  · exact ⟨8, rfl⟩
  · exact ⟨16, rfl⟩
  · exact ⟨32, rfl⟩
  · exact ⟨64, rfl⟩

theorem bv_of {k : IntKind} {n : Nat} : (BitVec.ofInt k.bits (n : Int)) = BitVec.ofNat k.bits n := by
  rw [BitVec.ofInt_natCast]

theorem abin_sound {op : BinOp} {t : TypeId} {ox oy : Operand} {x y v : Value} (h : abin op x y = some v) (w : World) :
    (do eqGuard op t ox oy x y; binOp op t x y : Sem Value).run P w = .ok v w := by
  unfold abin at h
  split at h
  · rename_i k a
    split at h
    · rename_i k' b
      have hguard : ∀ f : Sem Value, (do eqGuard op t ox oy (.int k a) (.int k' b); f : Sem Value).run P w = f.run P w := by
        intro f
        cases op <;> simp [eqGuard]
      rw [hguard]
      unfold aint at h
      split at h
      case h_1 | h_2 | h_3 => 
        replace h := gd_some h; obtain ⟨hk, h⟩ := h
        obtain rfl := ikEq_eq hk
        obtain rfl := Option.some.inj h
        simp [binOp, Op.intArith, wrapF_eq]
      case h_4 | h_5 =>
        replace h := gd_some h; obtain ⟨hk, h⟩ := h
        obtain rfl := ikEq_eq hk
        obtain rfl := Option.some.inj h
        simp [binOp, Op.intCmp, ieqF_eq, bne]
      case h_6 | h_7 | h_8 | h_9 =>
        replace h := gd_some h; obtain ⟨hk, h⟩ := h
        obtain rfl := ikEq_eq hk
        obtain rfl := Option.some.inj h
        simp only [binOp, Op.intCmp, iltF_eq]
        simp
        try (rw [Bool.eq_iff_iff]; simp)
      case h_10 | h_11 =>
        replace h := gd_some h; obtain ⟨hk, h⟩ := h
        simp only [Bool.and_eq_true] at hk
        obtain rfl := ikEq_eq hk.1
        have hb : ¬ b = 0 := by
          intro e; have := hk.2; rw [ieqF_eq, e] at this; simp at this
        obtain rfl := Option.some.inj h
        simp [binOp, Op.intDiv, hb, wrapF_eq]
      case h_12 | h_13 =>
        split at h
        · rename_i n
          obtain rfl := Option.some.inj h
          have hn : ¬ ((n : Int) < 0) := by omega
          simp [binOp, Op.shift, wrapF_eq, hn]
        · cases h
      case h_14 | h_15 | h_16 =>
        split at h
        · rename_i m n
          replace h := gd_some h; obtain ⟨hk, h⟩ := h
          simp only [Bool.and_eq_true] at hk
          obtain ⟨⟨h1, h2⟩, h3⟩ := hk
          obtain rfl := ikEq_eq h1
          have h2 := blt_iff.1 h2
          have h3 := blt_iff.1 h3
          obtain rfl := Option.some.inj h
          have hle := lim_le k
          obtain ⟨j, hj⟩ := lim_pow k
          simp only [binOp, Op.intBits, Int.ofNat_eq_natCast, bv_of]
          simp only [ne_eq, not_true_eq_false, if_false, Sem.run_pure]
          congr 2
          simp only [BitVec.toNat_and, BitVec.toNat_or, BitVec.toNat_xor, BitVec.toNat_ofNat, Nat.mod_eq_of_lt (Nat.lt_of_lt_of_le h2 hle), Nat.mod_eq_of_lt (Nat.lt_of_lt_of_le h3 hle)]
          refine lim_wrap ?_
          rw [hj] at h2 h3 ⊢
          first
            | exact Nat.and_lt_two_pow _ h3
            | exact Nat.or_lt_two_pow h2 h3
            | exact Nat.xor_lt_two_pow h2 h3
        · cases h
      all_goals cases h
    · cases h
  · cases h

theorem abin_rel {op : BinOp} {x y v : Value} (h : abin op x y = some v) : ∃ k a k' b, x = .int k a ∧ y = .int k' b ∧ ((∃ j c, v = .int j c) ∨ ∃ c, v = .bool c) := by
  unfold abin at h
  split at h
  · rename_i k a
    split at h
    · rename_i k' b
      refine ⟨k, a, k', b, rfl, rfl, ?_⟩
      unfold aint at h
      split at h
      all_goals first
        | (replace h := gd_some h; obtain ⟨_, h⟩ := h; obtain rfl := Option.some.inj h; first | exact .inl ⟨_, _, rfl⟩ | exact .inr ⟨_, rfl⟩)
        | (split at h
           · first
             | (replace h := gd_some h; obtain ⟨_, h⟩ := h; obtain rfl := Option.some.inj h; exact .inl ⟨_, _, rfl⟩)
             | (obtain rfl := Option.some.inj h; exact .inl ⟨_, _, rfl⟩)
           · cases h)
        | cases h
    · cases h
  · cases h

/-- Numbers turned into another kind. -/
def aconvInt (P : Program) (s d : TypeId) (x : Value) : Option Value :=
  match x with
  | .int _ n =>
    match P.underlying s, P.underlying d with
    | some _, some (.int k) => some (.int k (wrapF k n))
    | _, _ => none
  | _ => none

theorem aconvInt_sound {s d : TypeId} {x v : Value} (h : aconvInt P s d x = some v) (w : World) : (convert s d x).run P w = .ok v w := by
  unfold aconvInt at h
  split at h
  · split at h
    · rename_i k n d' k2 hs hd
      obtain rfl := Option.some.inj h
      simp [convert, run_underlying hs, run_underlying hd, Conv.intToInt, wrapF_eq]
    · cases h
  · cases h

def aun (op : UnOp) (x : Value) : Option Value :=
  match op, x with
  | .not, .bool b => some (.bool (!b))
  | .neg, .int k n => some (.int k (wrapF k (0 - n)))
  | _, _ => none

theorem aun_sound {op : UnOp} {x v : Value} (h : aun op x = some v) (w : World) : (Op.unary op x).run P w = .ok v w := by
  unfold aun at h
  split at h
  · obtain rfl := Option.some.inj h; rfl
  · obtain rfl := Option.some.inj h; simp [Op.unary, Op.intArith, wrapF_eq]
  · cases h
end

end Go.Ab
