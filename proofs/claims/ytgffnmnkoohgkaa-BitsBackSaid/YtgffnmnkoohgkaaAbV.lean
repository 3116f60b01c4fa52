/- The abstract machine's operations on numbers that are not known, spelled as the model reckons. -/
import Derived.Test.YtgffnmnkoohgkaaAbRow
set_option linter.unusedSimpArgs false
set_option linter.unusedVariables false
namespace Go.Ab
open Go.RowKit (Below)

def iand (k : IntKind) (a b : Int) : Int := k.wrap (BitVec.ofInt k.bits a &&& BitVec.ofInt k.bits b).toNat
def ior (k : IntKind) (a b : Int) : Int := k.wrap (BitVec.ofInt k.bits a ||| BitVec.ofInt k.bits b).toNat
def ixor (k : IntKind) (a b : Int) : Int := k.wrap (BitVec.ofInt k.bits a ^^^ BitVec.ofInt k.bits b).toNat
def ishl (k : IntKind) (a b : Int) : Int := k.wrap (a * 2 ^ (min b.toNat k.bits))
def ishr (k : IntKind) (a b : Int) : Int := a.fdiv (2 ^ (min b.toNat k.bits))
/-- Two whole numbers, by an operator. -/
def sint (op : BinOp) (k : IntKind) (a : Int) (k' : IntKind) (b : Int) : Option Value :=
  match op with
  | .add => if k = k' then some (.int k (k.wrap (a + b))) else none
  | .sub => if k = k' then some (.int k (k.wrap (a - b))) else none
  | .mul => if k = k' then some (.int k (k.wrap (a * b))) else none
  | .eql => if k = k' then some (.bool (a == b)) else none
  | .neq => if k = k' then some (.bool (a != b)) else none
  | .lss => if k = k' then some (.bool (decide (a < b))) else none
  | .leq => if k = k' then some (.bool (decide (a ≤ b))) else none
  | .gtr => if k = k' then some (.bool (decide (a > b))) else none
  | .geq => if k = k' then some (.bool (decide (a ≥ b))) else none
  | .quo => if k = k' then if b = 0 then none else some (.int k (k.wrap (a.tdiv b))) else none
  | .rem => if k = k' then if b = 0 then none else some (.int k (a.tmod b)) else none
  | .shl => if b < 0 then none else some (.int k (ishl k a b))
  | .shr => if b < 0 then none else some (.int k (ishr k a b))
  | .and => if k = k' then some (.int k (iand k a b)) else none
  | .or => if k = k' then some (.int k (ior k a b)) else none
  | .xor => if k = k' then some (.int k (ixor k a b)) else none
  | _ => none

/-- Two texts, by an operator. -/
def stext (op : BinOp) (a b : ByteArray) : Option Value :=
  match op with
  | .eql => some (.bool (a.toList == b.toList))
  | .neq => some (.bool (!(a.toList == b.toList)))
  | _ => none

def vbin (P : Program) (r : Env) (o : Oper) (op : BinOp) (t : TypeId) (x y : Value) (M : Mem) : Option Out :=
  match x, y with
  | .int k a, .int k' b => oval (sint op k a k' b) M
  | .string a, .string b => oval (stext op a b) M
  | x, y =>
    match aeq P op t x y with
    | some v => some (.val v M)
    | none => aop P r o M

/-- Bytes as a text. -/
def acvs (P : Program) (s d : TypeId) (M : Mem) : Value → Option Value
  | .slice none 0 0 =>
    match P.underlying s, P.underlying d with
    | some (.slice e), some .string =>
      match P.underlying e with
      | some (.int .u8) => some (.string .empty)
      | _ => none
    | _, _ => none
  | .slice (some a) l c =>
    match P.underlying s, P.underlying d with
    | some (.slice _), some .string => (aconvert P s d M (.slice (some a) l c)).map (·.1)
    | _, _ => none
  | _ => none

theorem pureRun_bind {α β : Type} (P : Program) (s : Sem α) (f : α → Sem β) {v : α} (h : pureRun P s = some v) : pureRun P (s >>= f) = pureRun P (f v) := by
  induction s with
  | pure a => simp only [pureRun, Option.some.injEq] at h; subst h; rfl
  | program k ih =>
    simp only [pureRun] at h
    exact ih P h
  | _ => simp [pureRun] at h

theorem pureRun_under {P : Program} {t : TypeId} {d : TypeDesc} (h : P.underlying t = some d) : pureRun P (underlying t) = some d := by
  show pureRun P (match P.underlying t with | some d => pure d | none => stuck "no such type" : Sem TypeDesc) = some d
  rw [h]; rfl
theorem acvs_aop {P : Program} {r : Env} {dst : Option Tmp} {s d : TypeId} {x : Operand} {ty : TypeId} {p : String} {af : Array Edge} {g : Option (Nat × Bool)} {M : Mem} {v : Value}
    (h : acvs P s d M (r.eval x) = some v) : aop P r ⟨dst, .convert s d x, ty, p, af, g⟩ M = some (.val v M) := by
  unfold acvs at h
  split at h
  · rename_i hx
    split at h
    · rename_i e h1 h2
      split at h
      · rename_i h3
        cases h
        have e1 : aflat P r ⟨dst, .convert s d x, ty, p, af, g⟩ = some (.string .empty) := by
          have e2 : pureRun P (convert s d (.slice none 0 0)) = some (.string .empty) := by
            unfold convert
            rw [pureRun_bind P _ _ (pureRun_under h1), pureRun_bind P _ _ (pureRun_under h2)]
            show pureRun P (underlying e >>= _) = _
            rw [pureRun_bind P _ _ (pureRun_under h3)]
            rfl
          unfold aflat
          have e3 : pureRun P (execOp r.eval ⟨dst, .convert s d x, ty, p, af, g⟩) = some (.value (.string .empty)) := by
            show pureRun P (convert s d (r.eval x) >>= fun v => (pure (.value v) : Sem Next)) = _
            rw [hx, pureRun_bind P _ _ e2]; rfl
          rw [e3]
          simp [Op.operands, hx, isSelect, gd, flat, base]
        unfold aop
        simp only [hx, aconvInt, h1, h2, e1]
      · cases h
    · cases h
  · rename_i a l c hx
    split at h
    · rename_i e h1 h2
      obtain ⟨⟨u, M'⟩, h3, rfl⟩ := Option.map_eq_some_iff.1 h
      have hM : M' = M := by
        unfold aconvert at h3
        rw [h1, h2] at h3
        simp only at h3
        split at h3
        · split at h3
          · rcases cond_split h3 with ⟨_, h3⟩ | ⟨_, h3⟩
            · cases h3; rfl
            split at h3
            · obtain ⟨_, h3⟩ := gd_some h3
              split at h3
              · cases h3; rfl
              · cases h3
            · cases h3
          · cases h3
        · cases h3
      subst hM
      have e1 : aflat P r ⟨dst, .convert s d x, ty, p, af, g⟩ = none := by
        unfold aflat
        have : ((⟨dst, .convert s d x, ty, p, af, g⟩ : Oper).op.operands.toList.all (fun x => flat 4 (r.eval x)) && !isSelect (⟨dst, .convert s d x, ty, p, af, g⟩ : Oper).op) = false := by
          simp [Op.operands, hx, flat, base]
        rw [this]; rfl
      unfold aop
      simp only [hx, aconvInt, h1, h2, e1, h3]
      rfl
    · cases h
  · cases h

def vconv (P : Program) (r : Env) (o : Oper) (s d : TypeId) (x : Value) (M : Mem) : Option Out :=
  match x with
  | .int _ n =>
    match P.underlying s, P.underlying d with
    | some _, some (.int k) => some (.val (.int k (k.wrap n)) M)
    | _, _ => aop P r o M
  | x =>
    match acvs P s d M x with
    | some v => some (.val v M)
    | none => aop P r o M

def vun (op : UnOp) (x : Value) : Option Value :=
  match op, x with
  | .not, .bool b => some (.bool (!b))
  | .neg, .int k n => some (.int k (k.wrap (-n)))
  | _, _ => none

def vop (P : Program) (r : Env) (o : Oper) (M : Mem) : Option Out :=
  match o.op with
  | .binOp op t x y _ => vbin P r o op t (r.eval x) (r.eval y) M
  | .convert s d x => vconv P r o s d (r.eval x) M
  | .unOp op _ x => oval (vun op (r.eval x)) M
  | _ => aop P r o M

def vOp (P : Program) (r : Env) (o : Oper) (M : Mem) : Option Out := gd (okOp o) (vop P r o M)

section
variable {P : Program} {N0 : Nat → Prop} {w0 : World} {m : LM} {M : Mem} {w : World} {r : Env} {a : Act}

theorem guard_int {op : BinOp} {t : TypeId} {ox oy : Operand} {k k' : IntKind} {a b : Int} (f : Sem Value) (w : World) : (do eqGuard op t ox oy (.int k a) (.int k' b); f : Sem Value).run P w = f.run P w := by
  cases op <;> simp [eqGuard]
theorem guard_string {op : BinOp} {t : TypeId} {ox oy : Operand} {a b : ByteArray} (f : Sem Value) (w : World) : (do eqGuard op t ox oy (.string a) (.string b); f : Sem Value).run P w = f.run P w := by
  cases op <;> simp [eqGuard]

theorem sint_sound {op : BinOp} {t : TypeId} {ox oy : Operand} {k k' : IntKind} {a b : Int} {v : Value} (h : sint op k a k' b = some v) (w : World) :
    (do eqGuard op t ox oy (.int k a) (.int k' b); binOp op t (.int k a) (.int k' b) : Sem Value).run P w = .ok v w ∧ VRel m v v := by
  rw [guard_int]
  unfold sint at h
  split at h
  case h_12 | h_13 =>
    split at h
    · cases h
    · rename_i hb
      obtain rfl := Option.some.inj h
      exact ⟨by simp [binOp, Op.shift, hb, ishl, ishr], .int _ _⟩
  case h_10 | h_11 =>
    split at h
    · rename_i e; subst e
      split at h
      · cases h
      · rename_i hb
        obtain rfl := Option.some.inj h
        exact ⟨by simp [binOp, Op.intDiv, hb], .int _ _⟩
    · cases h
  case h_17 => cases h
  all_goals
    split at h
    · rename_i e; subst e
      obtain rfl := Option.some.inj h
      refine ⟨?_, ?_⟩
      · first
          | (simp only [binOp, ne_eq, not_true_eq_false, if_false, Op.intBits, Sem.run_pure, iand, ior, ixor]; done)
          | (simp [binOp, Op.intArith]; done)
          | (simp [binOp, Op.intCmp]; done)
      · first
          | exact VRel.int _ _
          | exact VRel.bool _
    · cases h

theorem stext_sound {op : BinOp} {t : TypeId} {ox oy : Operand} {a b : ByteArray} {v : Value} (h : stext op a b = some v) (w : World) :
    (do eqGuard op t ox oy (.string a) (.string b); binOp op t (.string a) (.string b) : Sem Value).run P w = .ok v w ∧ VRel m v v := by
  rw [guard_string]
  unfold stext at h
  split at h
  · obtain rfl := Option.some.inj h
    exact ⟨by simp [binOp, Op.stringOp], .bool _⟩
  · obtain rfl := Option.some.inj h
    exact ⟨by simp [binOp, Op.stringOp], .bool _⟩
  · cases h

theorem vOp_sound (hE : ERel m r a) (hR : Rl N0 w0 m M w) {o : Oper} {out : Out} (h : vOp P r o M = some out) : Fits P N0 w0 m w (execOp a.eval o) out := by
  unfold vOp at h
  replace h := gd_some h; obtain ⟨hk, h⟩ := h
  have old : ∀ {out : Out}, aop P r o M = some out → Fits P N0 w0 m w (execOp a.eval o) out := fun h => aOp_sound hE hR (by unfold aOp; rw [hk]; exact h)
  have hmem : ∀ x ∈ o.op.operands, VRel m (r.eval x) (a.eval x) := fun x hx => hE.eval (okOp_mem hk hx)
  unfold vop at h
  split at h
  · rename_i op t x y t2 ho
    obtain ⟨dst, op', type, pos, after, guard⟩ := o
    subst ho
    have hx := hmem x (by simp [Op.operands])
    have hy := hmem y (by simp [Op.operands])
    unfold vbin at h
    split at h
    · rename_i k n k' n' e1 e2
      obtain ⟨v, hv, rfl⟩ := oval_some h
      rw [e1] at hx; rw [e2] at hy
      generalize hu1 : a.eval x = u1 at hx
      generalize hu2 : a.eval y = u2 at hy
      cases hx; cases hy
      have hs := sint_sound (P := P) (m := m) (t := t) (ox := x) (oy := y) hv w
      refine Fits.of_value (s := (do eqGuard op t x y (a.eval x) (a.eval y); binOp op t (a.eval x) (a.eval y))) hR ?_ hs.2
      rw [hu1, hu2]; exact hs.1
    · rename_i s s' e1 e2
      obtain ⟨v, hv, rfl⟩ := oval_some h
      rw [e1] at hx; rw [e2] at hy
      generalize hu1 : a.eval x = u1 at hx
      generalize hu2 : a.eval y = u2 at hy
      cases hx; cases hy
      have hs := stext_sound (P := P) (m := m) (t := t) (ox := x) (oy := y) hv w
      refine Fits.of_value (s := (do eqGuard op t x y (a.eval x) (a.eval y); binOp op t (a.eval x) (a.eval y))) hR ?_ hs.2
      rw [hu1, hu2]; exact hs.1
    · split at h
      · rename_i v hv
        obtain rfl := Option.some.inj h
        have := aeq_sound (ox := x) (oy := y) hx hy hv w
        refine Fits.of_value (s := (do eqGuard op t x y (a.eval x) (a.eval y); binOp op t (a.eval x) (a.eval y))) hR this ?_
        unfold aeq at hv
        split at hv
        · obtain ⟨b, _, rfl⟩ := Option.map_eq_some_iff.1 hv; exact .bool _
        · obtain ⟨b, _, rfl⟩ := Option.map_eq_some_iff.1 hv; exact .bool _
        · cases hv
      · exact old h
  · rename_i s d x ho
    obtain ⟨dst, op', type, pos, after, guard⟩ := o
    subst ho
    have hx := hmem x (by simp [Op.operands])
    unfold vconv at h
    split at h
    · rename_i k n e1
      split at h
      · rename_i d1 k2 hs hd
        obtain rfl := Option.some.inj h
        rw [e1] at hx
        generalize hu1 : a.eval x = u1 at hx
        cases hx
        refine Fits.of_value (s := convert s d (a.eval x)) (u := .int k2 (k2.wrap n)) hR ?_ (.int _ _)
        rw [hu1]
        simp [convert, run_underlying hs, run_underlying hd, Conv.intToInt]
      · exact old h
    · split at h
      · rename_i v hv
        cases h
        exact old (acvs_aop hv)
      · exact old h
  · rename_i op t x ho
    obtain ⟨dst, op', type, pos, after, guard⟩ := o
    subst ho
    have hx := hmem x (by simp [Op.operands])
    obtain ⟨v, hv, rfl⟩ := oval_some h
    unfold vun at hv
    split at hv
    · rename_i b e1
      obtain rfl := Option.some.inj hv
      rw [e1] at hx
      generalize hu1 : a.eval x = u1 at hx
      cases hx
      refine Fits.of_value (s := Op.unary .not (a.eval x)) (u := .bool (!b)) hR ?_ (.bool _)
      rw [hu1]; rfl
    · rename_i k n e1
      obtain rfl := Option.some.inj hv
      rw [e1] at hx
      generalize hu1 : a.eval x = u1 at hx
      cases hx
      refine Fits.of_value (s := Op.unary .neg (a.eval x)) (u := .int k (k.wrap (-n))) hR ?_ (.int _ _)
      rw [hu1]; simp [Op.unary, Op.intArith]
    · cases hv
  · exact old h
end

end Go.Ab
