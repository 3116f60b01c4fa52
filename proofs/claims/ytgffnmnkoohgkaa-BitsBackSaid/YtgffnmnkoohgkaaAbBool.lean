/- Bools compared, in open proofs. -/
import Derived.Test.YtgffnmnkoohgkaaAbArg
set_option linter.unusedSimpArgs false
set_option linter.unusedVariables false
namespace Go.Ab
theorem vbin_bool {P : Program} {r : Env} {M : Mem} {d : Option Tmp} {t t2 : TypeId} {x y : Operand} {ty : TypeId} {p : String} {af : Array Edge} {g : Option (Nat × Bool)} {a b : Bool} (hx : r.eval x = .bool a) (hy : r.eval y = .bool b) (ht : P.underlying t = some .bool) :
    vbin P r ⟨d, .binOp .eql t x y t2, ty, p, af, g⟩ .eql t (.bool a) (.bool b) M = some (.val (.bool (a == b)) M) := by
  have e0 : aeq P .eql t (.bool a) (.bool b) = none := by unfold aeq; simp [aeqnil]
  have e1 : aflat P r ⟨d, .binOp .eql t x y t2, ty, p, af, g⟩ = some (.bool (a == b)) := by
    have e2 : pureRun P (do eqGuard .eql t x y (.bool a) (.bool b); binOp .eql t (.bool a) (.bool b) : Sem Value) = some (.bool (a == b)) := by
      have e4 : pureRun P (Op.equal t (.bool a) (.bool b)) = some (a == b) := by
        unfold Op.equal Op.maxDepth Op.equalIn
        rw [pureRun_bind P _ _ (pureRun_under ht)]
        rfl
      unfold eqGuard binOp
      simp
      show pureRun P (Op.equal t (.bool a) (.bool b) >>= fun c => (pure (.bool c) : Sem Value)) = _
      rw [pureRun_bind P _ _ e4]; rfl
    unfold aflat
    have e3 : pureRun P (execOp r.eval ⟨d, .binOp .eql t x y t2, ty, p, af, g⟩) = some (.value (.bool (a == b))) := by
      simp only [execOp, hx, hy]
      show pureRun P ((do eqGuard .eql t x y (.bool a) (.bool b); binOp .eql t (.bool a) (.bool b) : Sem Value) >>= fun v => (pure (.value v) : Sem Next)) = _
      rw [pureRun_bind P _ _ e2]; rfl
    rw [e3]
    simp [Op.operands, hx, hy, isSelect, gd, flat, base]
  unfold vbin
  simp only [e0]
  unfold aop
  simp only [hx, hy, abin, e1]
end Go.Ab
