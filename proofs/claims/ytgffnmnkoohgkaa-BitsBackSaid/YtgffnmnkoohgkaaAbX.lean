/- The steps' equations as one set for 'simp only'. -/
import Derived.Test.YtgffnmnkoohgkaaAbT
set_option linter.unusedSimpArgs false
set_option linter.unusedVariables false
namespace Go.Ab
section
variable {P : Program} {r : Env} {M : Mem} {ops : Array Oper} {rest : List Oper} {K : Env → Mem → Prop}
variable {d : Option Tmp} {op : Op} {ty : TypeId} {p : String} {af : Array Edge} {g : Option (Nat × Bool)}

/-! ### Guards -/
def yt (ops : Array Oper) (j : Nat) : Option Tmp :=
  match ops[j]? with
  | some o => o.dst
  | none => none
def asB : Value → Option Bool
  | .bool b => some b
  | _ => none
theorem asB_bool {b : Bool} : asB (.bool b) = some b := rfl
def GuardW (want : Bool) : Option Bool → Prop → Prop → Prop
  | some b, A, B => if b = want then A else B
  | none, _, _ => False
theorem GuardW_some {want b : Bool} {A B : Prop} : GuardW want (some b) A B = if b = want then A else B := rfl

theorem sGuard {j t : Nat} {want : Bool} (hy : yt ops j = some t) (h : GuardW want (asB (r.get t)) (StepW P ops d rest r M K (vOp P r ⟨d, op, ty, p, af, some (j, want)⟩ M)) (OpsW P ops rest (r.put d undef) M K)) :
    OpsW P ops (⟨d, op, ty, p, af, some (j, want)⟩ :: rest) r M K := by
  have e : yieldedA ops r j = asB (r.get t) := by
    unfold yieldedA yt at *
    cases ho : ops[j]? with
    | none => rw [ho] at hy; cases hy
    | some o =>
      rw [ho] at hy
      simp only [] at hy ⊢
      rw [hy]
      rfl
  rw [← e] at h
  unfold OpsW wantedA
  cases hb : yieldedA ops r j with
  | none => rw [hb] at h; exact h.elim
  | some b =>
    rw [hb] at h
    simp only [GuardW] at h
    split at h
    · rename_i e; subst e
      exact .inl ⟨by simp [hb], h⟩
    · rename_i e
      exact .inr ⟨by simpa [hb] using e, h⟩

variable {call : CallF}
theorem dGuard {j t : Nat} {want : Bool} (hy : yt ops j = some t) (h : GuardW want (asB (r.get t)) (StepD P call ops d rest r M K (vOp P r ⟨d, op, ty, p, af, some (j, want)⟩ M)) (OpsD P call ops rest (r.put d undef) M K)) :
    OpsD P call ops (⟨d, op, ty, p, af, some (j, want)⟩ :: rest) r M K := by
  have e : yieldedA ops r j = asB (r.get t) := by
    unfold yieldedA yt at *
    cases ho : ops[j]? with
    | none => rw [ho] at hy; cases hy
    | some o =>
      rw [ho] at hy
      simp only [] at hy ⊢
      rw [hy]
      rfl
  rw [← e] at h
  unfold OpsD wantedA
  cases hb : yieldedA ops r j with
  | none => rw [hb] at h; exact h.elim
  | some b =>
    rw [hb] at h
    simp only [GuardW] at h
    split at h
    · rename_i e; subst e
      refine .inl ⟨by simp [hb], ?_⟩
      unfold StepD at h
      split at h
      · rename_i hv; simp only [hv]; exact h
      · rename_i hv; simp only [hv]; exact h
      · exact h.elim
    · rename_i e
      exact .inr ⟨by simpa [hb] using e, h⟩

theorem CallW.by {f : FuncId} {args : List Value} {M M' : Mem} {v : Value} {Kv : Value → Mem → Prop} (h : CallOk P f args M v M') (k : Kv v M') : CallW P f args M Kv := ⟨v, M', h, k⟩

theorem gdAnd {α : Type} {a b : Bool} {x : Option α} (ha : a = true) : gd (a && b) x = gd b x := by subst ha; rfl
theorem oMin {x y : Operand} {ts : Array TypeId} : vOp P r ⟨d, .call ⟨.builtin .min, #[x, y], ts⟩, ty, p, af, g⟩ M =
    gd (okOperand x && (okOperand y && true)) (oval (abest (fun x y => if y < x then y else x) [r.eval x, r.eval y]) M) := rfl
theorem oMax {x y : Operand} {ts : Array TypeId} : vOp P r ⟨d, .call ⟨.builtin .max, #[x, y], ts⟩, ty, p, af, g⟩ M =
    gd (okOperand x && (okOperand y && true)) (oval (abest (fun x y => if y > x then y else x) [r.eval x, r.eval y]) M) := rfl
theorem abest_two {f : Int → Int → Int} {k k' : IntKind} {a b : Int} : abest f [.int k a, .int k' b] = some (.int k (f a b)) := rfl
theorem stCall {f : FuncId} {xs : Array Operand} {ts : Array TypeId} {args : List Value} {v : Value} {M' : Mem} {ds : Option Tmp} (hk : okOp ⟨d, .call ⟨.value (.func f), xs, ts⟩, ty, p, af, g⟩ = true) (hc : callable P f = true)
    (h : CallOk P f args M v M') (ha : xs.toList.map r.eval = args) (k : OpsW P ops rest (r.put ds v) M' K) : StepW P ops ds rest r M K (vOp P r ⟨d, .call ⟨.value (.func f), xs, ts⟩, ty, p, af, g⟩ M) := by
  rw [oCall, hk, hc, ha]
  exact ⟨v, M', h, k⟩
theorem dtCall {f : FuncId} {xs : Array Operand} {ts : Array TypeId} {args : List Value} {v : Value} {ds : Option Tmp} (hk : okOp ⟨d, .call ⟨.value (.func f), xs, ts⟩, ty, p, af, g⟩ = true) (hc : callable P f = true)
    (h : call f args M = some (v, M)) (ha : xs.toList.map r.eval = args) (k : OpsD P call ops rest (r.put ds v) M K) : StepD P call ops ds rest r M K (vOp P r ⟨d, .call ⟨.value (.func f), xs, ts⟩, ty, p, af, g⟩ M) := by
  rw [oCall, hk, hc, ha]
  exact ⟨v, h, k⟩
end
attribute [go_sem] List.map_cons List.map_nil
attribute [go_sem] oMin oMax abest_two
attribute [go_sem] sNil sCons sVal sCall oMove oAssign oPick oLoad oStore oBox oNil oFieldAddr oIndexAddr oField oExtract oBin oUn oConv oLen oAppend vbin_int vbin_string vun_not vun_neg apick_true apick_false oval_of omem_of gd_true
attribute [go_sem] kTmp kFunc kInt kBool kString kSlice kPtr eTmp eConst pNone gPut zPut zEnter gEnter rNil rTmp pack1 thenK_normal thenK_exit thenK_ret blockK_normal blockK_exit blockK_ret loopK_exit loopK_ret resK_normal resK_ret
attribute [go_sem] dNil dCons dVal qInt qBool qString qPtr qSlice asB_bool GuardW_some
attribute [go_sem] Bool.and_self and_true true_and and_self if_true if_false false_and List.length_cons List.length_nil List.getD_cons_zero List.getD_cons_succ Option.map_some Option.some.injEq exists_eq_left'
end Go.Ab
