/- The abstract machine's steps as equations, for 'simp only'. -/
import Derived.Test.YtgffnmnkoohgkaaAbW
set_option linter.unusedSimpArgs false
set_option linter.unusedVariables false
namespace Go.Ab
open Go.RowKit (Below)

section
variable {P : Program} {r : Env} {M : Mem} {ops : Array Oper} {rest : List Oper} {K : Env → Mem → Prop} {Kv : Value → Mem → Prop}
variable {d : Option Tmp} {op : Op} {ty : TypeId} {p : String} {af : Array Edge} {g : Option (Nat × Bool)}

/-- What an operation came to, and the row behind it. -/
def StepW (P : Program) (ops : Array Oper) (d : Option Tmp) (rest : List Oper) (r : Env) (M : Mem) (K : Env → Mem → Prop) (x : Option Out) : Prop :=
  OpW P x M (fun v M' => OpsW P ops rest (r.put d v) M' K)

theorem sNil : OpsW P ops [] r M K = K r M := rfl
theorem sCons : OpsW P ops (⟨d, op, ty, p, af, none⟩ :: rest) r M K = StepW P ops d rest r M K (vOp P r ⟨d, op, ty, p, af, none⟩ M) := by
  simp [OpsW, wantedA, StepW]
/-- An operation under a guard. -/
theorem sConsG {j : Nat} {want b : Bool} (hy : yieldedA ops r j = some b) : OpsW P ops (⟨d, op, ty, p, af, some (j, want)⟩ :: rest) r M K =
    if b = want then StepW P ops d rest r M K (vOp P r ⟨d, op, ty, p, af, some (j, want)⟩ M) else OpsW P ops rest (r.put d undef) M K := by
  simp only [OpsW, wantedA, hy, StepW]
  by_cases h : b = want
  · subst h; simp
  · simp [h]

theorem sVal {v : Value} {M' : Mem} : StepW P ops d rest r M K (some (.val v M')) = OpsW P ops rest (r.put d v) M' K := rfl
theorem sCall {f : FuncId} {args : List Value} : StepW P ops d rest r M K (some (.call f args)) = CallW P f args M (fun v M' => OpsW P ops rest (r.put d v) M' K) := rfl

theorem oMove {x : Operand} : vOp P r ⟨d, .move x, ty, p, af, g⟩ M = gd (okOperand x && true) (some (.val (r.eval x) M)) := rfl
theorem oAssign {x : Operand} : vOp P r ⟨d, .assign x, ty, p, af, g⟩ M = gd (okOperand x && true) (some (.val (r.eval x) M)) := rfl
theorem oPick {c x y : Operand} : vOp P r ⟨d, .pick c x y, ty, p, af, g⟩ M = gd (okOperand c && (okOperand x && (okOperand y && true))) (oval (apick (r.eval c) (r.eval x) (r.eval y)) M) := rfl
theorem oLoad {t : TypeId} {x : Operand} : vOp P r ⟨d, .load t x, ty, p, af, g⟩ M = gd (okOperand x && true) (oval (aload P t M (r.eval x)) M) := rfl
theorem oStore {t : TypeId} {x y : Operand} : vOp P r ⟨d, .store t x y, ty, p, af, g⟩ M = gd (okOperand x && (okOperand y && true)) ((astore P t M (r.eval x) (r.eval y)).bind fun M' => some (.val undef M')) := by
  simp only [vOp, vop, aop]
  cases astore P t M (r.eval x) (r.eval y) <;> rfl
theorem oBox {t : TypeId} {x : Operand} : vOp P r ⟨d, .box t x, ty, p, af, g⟩ M = gd (okOperand x && true) (omem (abox P t M (r.eval x))) := rfl
theorem oNil {x : Operand} : vOp P r ⟨d, .nilCheck x, ty, p, af, g⟩ M = gd (okOperand x && true) (oval (anil (r.eval x)) M) := rfl
theorem oFieldAddr {t : TypeId} {x : Operand} {f : Nat} : vOp P r ⟨d, .fieldAddr t x f, ty, p, af, g⟩ M = gd (okOperand x && true) (oval (afield P t f (r.eval x)) M) := rfl
theorem oIndexAddr {t : TypeId} {x i : Operand} : vOp P r ⟨d, .indexAddr t x i, ty, p, af, g⟩ M = gd (okOperand x && (okOperand i && true)) (oval (aindex P t (r.eval x) (r.eval i)) M) := rfl
theorem oField {t : TypeId} {x : Operand} {f : Nat} : vOp P r ⟨d, .field t x f, ty, p, af, g⟩ M = gd (okOperand x && true) (oval (afieldOf P t f (r.eval x)) M) := rfl
theorem oExtract {x : Operand} {k : Nat} : vOp P r ⟨d, .extract x k, ty, p, af, g⟩ M = gd (okOperand x && true) (oval (aextract k (r.eval x)) M) := rfl
theorem oBin {b : BinOp} {t t2 : TypeId} {x y : Operand} : vOp P r ⟨d, .binOp b t x y t2, ty, p, af, g⟩ M =
    gd (okOperand x && (okOperand y && true)) (vbin P r ⟨d, .binOp b t x y t2, ty, p, af, g⟩ b t (r.eval x) (r.eval y) M) := rfl
theorem oUn {u : UnOp} {t : TypeId} {x : Operand} : vOp P r ⟨d, .unOp u t x, ty, p, af, g⟩ M = gd (okOperand x && true) (oval (vun u (r.eval x)) M) := rfl
theorem oConv {s t : TypeId} {x : Operand} : vOp P r ⟨d, .convert s t x, ty, p, af, g⟩ M = gd (okOperand x && true) (vconv P r ⟨d, .convert s t x, ty, p, af, g⟩ s t (r.eval x) M) := rfl
theorem oCall {f : FuncId} {xs : Array Operand} {ts : Array TypeId} : vOp P r ⟨d, .call ⟨.value (.func f), xs, ts⟩, ty, p, af, g⟩ M =
    gd (okOp ⟨d, .call ⟨.value (.func f), xs, ts⟩, ty, p, af, g⟩) (gd (callable P f) (some (.call f (xs.toList.map r.eval)))) := by
  simp only [vOp, vop, aop, acall, Env.eval]
  simp
theorem oLen {x : Operand} {t : TypeId} : vOp P r ⟨d, .call ⟨.builtin .len, #[x], #[t]⟩, ty, p, af, g⟩ M = gd (okOperand x && true) (match P.underlying t, r.eval x with
    | some (.slice _), .slice _ n _ => some (.val (goInt n) M)
    | some .string, .string s => some (.val (goInt s.size) M)
    | _, _ => none) := rfl
theorem oAppend {x y : Operand} {t tx : TypeId} : vOp P r ⟨d, .call ⟨.builtin .append, #[x, y], #[t, tx]⟩, ty, p, af, g⟩ M =
    gd (okOperand x && (okOperand y && true)) (omem (aappend P t tx M (r.eval x) (r.eval y))) := rfl

theorem vbin_int {o : Oper} {b : BinOp} {t : TypeId} {k k' : IntKind} {n n' : Int} : vbin P r o b t (.int k n) (.int k' n') M = oval (sint b k n k' n') M := rfl
theorem vbin_string {o : Oper} {b : BinOp} {t : TypeId} {s s' : ByteArray} : vbin P r o b t (.string s) (.string s') M = oval (stext b s s') M := rfl
theorem vconv_int {o : Oper} {s t : TypeId} {k k2 : IntKind} {n : Int} {d1 : TypeDesc} (h1 : P.underlying s = some d1) (h2 : P.underlying t = some (.int k2)) :
    vconv P r o s t (.int k n) M = some (.val (.int k2 (k2.wrap n)) M) := by
  simp only [vconv, h1, h2]
theorem vun_not {b : Bool} : vun .not (.bool b) = some (.bool (!b)) := rfl
theorem vun_neg {k : IntKind} {n : Int} : vun .neg (.int k n) = some (.int k (k.wrap (-n))) := rfl
theorem apick_true {x y : Value} : apick (.bool true) x y = some x := rfl
theorem apick_false {x y : Value} : apick (.bool false) x y = some y := rfl
theorem apick_ite {b : Bool} {x y : Value} : apick (.bool b) x y = some (if b then x else y) := by cases b <;> rfl
theorem oval_of {v : Value} : oval (some v) M = some (.val v M) := rfl
theorem omem_of {v : Value} {M' : Mem} : omem (some (v, M')) = some (.val v M') := rfl
theorem gd_true {α : Type} {x : Option α} : gd true x = x := rfl

theorem kTmp {t : Tmp} : okOperand (.tmp t) = true := rfl
theorem kFunc {f : FuncId} : okOperand (.func f) = true := rfl
theorem kInt {k : IntKind} {n : Int} : okOperand (.const (.int k n)) = true := rfl
theorem kBool {b : Bool} : okOperand (.const (.bool b)) = true := rfl
theorem kString {s : ByteArray} : okOperand (.const (.string s)) = true := rfl
theorem kSlice : okOperand (.const (.slice none 0 0)) = true := rfl
theorem kPtr : okOperand (.const (.pointer none)) = true := rfl

theorem eTmp {t : Tmp} : r.eval (.tmp t) = r.get t := rfl
theorem eConst {v : Value} : r.eval (.const v) = v := rfl
theorem pNone {v : Value} : r.put none v = r := rfl
theorem gPut {s t : Nat} {v : Value} : (r.put (some s) v).get t = if t = s ∧ s < r.size then v else r.get t := Env.get_set r s t v
theorem zPut {s : Option Nat} {v : Value} : (r.put s v).size = r.size := Env.size_put r s v
theorem zEnter {args : List Value} {n : Nat} : (enterA args n).size = args.length + (n - args.length) := rfl
theorem gEnter {args : List Value} {n t : Nat} : (enterA args n).get t = args.getD t undef := by
  simp only [Env.get, enterA, fillArgs_get, Nat.zero_le, true_and, Nat.zero_add, Nat.sub_zero, Tr.get_leaf]
  by_cases h : t < args.length
  · rw [if_pos h]
    simp [h]
  · rw [if_neg h]
    simp only [List.getD_eq_getElem?_getD]
    rw [List.getElem?_eq_none (by omega)]
    rfl

theorem rNil : ares P r M [] = some [] := rfl
theorem rTmp {t : Tmp} {rs : List ResultVar} : ares P r M (.tmp t :: rs) = (ares P r M rs).map fun vs => r.get t :: vs := rfl
/-! ### Places in code -/
def L : Code → Code
  | .seq x _ | .cond _ x _ | .block _ x | .loop x | .scope x => x
  | c => c
def R : Code → Code
  | .seq _ y | .cond _ _ y => y
  | c => c
def bodyOf (f : Func) : Code :=
  match f.body with
  | some c => c
  | none => .skip
def isSeq : Code → Bool
  | .seq _ _ => true
  | _ => false
def opsOf : Code → Option (List Oper)
  | .region _ ops false => some ops.toList
  | _ => none
def arrOf : Code → Array Oper
  | .region _ ops _ => ops
  | _ => #[]
def condOf : Code → Option Operand
  | .cond c _ _ => some c
  | _ => none
def blockOf : Code → Option Nat
  | .block i _ => some i
  | _ => none
def exitOf : Code → Option Nat
  | .exit i => some i
  | _ => none
def isLoop : Code → Bool
  | .loop _ => true
  | _ => false
def isRet : Code → Bool
  | .ret => true
  | _ => false
def isSkip : Code → Bool
  | .skip => true
  | _ => false

theorem W.pSeq {c : Code} {K : Ex → Env → Mem → Prop} (hc : isSeq c = true) (h : W P (L c) r M (thenK P (R c) K)) : W P c r M K := by
  unfold isSeq at hc
  split at hc
  · exact W.seq h
  · cases hc
theorem W.pRegion {c : Code} {K : Ex → Env → Mem → Prop} {l : List Oper} (hc : opsOf c = some l) (h : OpsW P (arrOf c) l r M (K .normal)) : W P c r M K := by
  unfold opsOf at hc
  split at hc
  · obtain rfl := Option.some.inj hc
    exact W.region h
  · cases hc
/-- A region, and what stands behind it. -/
theorem W.pRow {c : Code} {K : Ex → Env → Mem → Prop} {l : List Oper} (hs : isSeq c = true) (hc : opsOf (L c) = some l) (h : OpsW P (arrOf (L c)) l r M (fun r' M' => W P (R c) r' M' K)) : W P c r M K :=
  W.pSeq hs (W.pRegion hc h)
theorem W.pCond {c : Code} {K : Ex → Env → Mem → Prop} {x : Operand} (hc : condOf c = some x) (b : Bool) (hk : okOperand x = true) (hb : r.eval x = .bool b)
    (h1 : b = true → W P (L c) r M K) (h2 : b = false → W P (R c) r M K) : W P c r M K := by
  unfold condOf at hc
  split at hc
  · obtain rfl := Option.some.inj hc
    exact W.cond b hk hb h1 h2
  · cases hc
theorem W.pBlock {c : Code} {K : Ex → Env → Mem → Prop} {i : Nat} (hc : blockOf c = some i) (h : W P (L c) r M (blockK i K)) : W P c r M K := by
  unfold blockOf at hc
  split at hc
  · obtain rfl := Option.some.inj hc
    exact W.block h
  · cases hc
theorem W.pExit {c : Code} {K : Ex → Env → Mem → Prop} {i : Nat} (hc : exitOf c = some i) (h : K (.exit i) r M) : W P c r M K := by
  unfold exitOf at hc
  split at hc
  · obtain rfl := Option.some.inj hc
    exact W.exit h
  · cases hc
theorem W.pRet {c : Code} {K : Ex → Env → Mem → Prop} (hc : isRet c = true) (h : K .ret r M) : W P c r M K := by
  unfold isRet at hc
  split at hc
  · exact W.ret h
  · cases hc
theorem W.pSkip {c : Code} {K : Ex → Env → Mem → Prop} (hc : isSkip c = true) (h : K .normal r M) : W P c r M K := by
  unfold isSkip at hc
  split at hc
  · exact W.skip h
  · cases hc
theorem W.pLoop {c : Code} {K : Ex → Env → Mem → Prop} (hc : isLoop c = true) (I : Nat → Env → Mem → Prop) (n : Nat) (h0 : I n r M) (hs : ∀ n r M, I n r M → W P (L c) r M (loopK I n K)) : W P c r M K := by
  unfold isLoop at hc
  split at hc
  · exact W.loop I n h0 hs
  · cases hc
theorem CallW.ofBody {f : FuncId} {fn : Func} {args : List Value} {K : Value → Mem → Prop} {n : Nat} {rs : List ResultVar} (hf : P.funcs[f]? = some fn) (hb : fn.body.isSome = true) (hn : fn.ntmps = n) (hr : fn.results.toList = rs)
    (h : W P (bodyOf fn) (enterA args n) M (resK P rs K)) : CallW P f args M K := by
  subst hn; subst hr
  cases hc : fn.body with
  | none => rw [hc] at hb; cases hb
  | some c =>
    refine CallW.of hf hc ?_
    unfold bodyOf at h
    rw [hc] at h
    exact h

theorem pack1 {v : Value} : packA [v] = v := rfl
end

end Go.Ab
