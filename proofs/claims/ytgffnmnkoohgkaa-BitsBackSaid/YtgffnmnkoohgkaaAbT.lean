/- Regions whose order is drawn, in open proofs: operations that write nothing. -/
import Derived.Test.YtgffnmnkoohgkaaAbS
set_option linter.unusedSimpArgs false
set_option linter.unusedVariables false
namespace Go.Ab
open Go.RowKit (Below)

section
variable {P : Program} {r : Env} {M : Mem}

theorem guard_int_pure {op : BinOp} {t : TypeId} {ox oy : Operand} {k k' : IntKind} {a b : Int} (f : Sem Value) : pureRun P (do eqGuard op t ox oy (.int k a) (.int k' b); f : Sem Value) = pureRun P f := by
  cases op <;> rfl
theorem guard_string_pure {op : BinOp} {t : TypeId} {ox oy : Operand} {a b : ByteArray} (f : Sem Value) : pureRun P (do eqGuard op t ox oy (.string a) (.string b); f : Sem Value) = pureRun P f := by
  cases op <;> rfl

theorem sint_pure {op : BinOp} {t : TypeId} {ox oy : Operand} {k k' : IntKind} {a b : Int} {v : Value} (h : sint op k a k' b = some v) :
    pureRun P (do eqGuard op t ox oy (.int k a) (.int k' b); binOp op t (.int k a) (.int k' b) : Sem Value) = some v := by
  rw [guard_int_pure]
  unfold sint at h
  split at h
  case h_12 | h_13 =>
    split at h
    · cases h
    · rename_i hb
      obtain rfl := Option.some.inj h
      simp only [binOp, Op.shift, hb, if_false]; rfl
  case h_10 | h_11 =>
    split at h
    · rename_i e; subst e
      split at h
      · cases h
      · rename_i hb
        obtain rfl := Option.some.inj h
        simp only [binOp, Op.intDiv, hb, if_false, ne_eq, not_true_eq_false]; rfl
    · cases h
  case h_17 => cases h
  all_goals
    split at h
    · rename_i e; subst e
      obtain rfl := Option.some.inj h
      simp only [binOp, ne_eq, not_true_eq_false, if_false]
      rfl
    · cases h

theorem stext_pure {op : BinOp} {t : TypeId} {ox oy : Operand} {a b : ByteArray} {v : Value} (h : stext op a b = some v) :
    pureRun P (do eqGuard op t ox oy (.string a) (.string b); binOp op t (.string a) (.string b) : Sem Value) = some v := by
  rw [guard_string_pure]
  unfold stext at h
  split at h
  · obtain rfl := Option.some.inj h; rfl
  · obtain rfl := Option.some.inj h; rfl
  · cases h

theorem run_unique {α : Type} {s : Sem α} {w : World} {a b : α} (h1 : s.run P w = .ok a w) (h2 : s.run P w = .ok b w) : a = b := by
  rw [h1] at h2; cases h2; rfl

theorem flat_int {k : IntKind} {n : Int} : flat 4 (.int k n) = true := rfl
theorem flat_string {s : ByteArray} : flat 4 (.string s) = true := rfl

theorem vOp_aOp (w : World) {o : Oper} {out : Out} (h : vOp P r o M = some out) : aOp P r o M = some out := by
  unfold vOp at h
  replace h := gd_some h; obtain ⟨hk, h⟩ := h
  unfold aOp
  rw [hk]
  show aop P r o M = some out
  unfold vop at h
  split at h
  · rename_i op t x y t2 ho
    obtain ⟨dst, op', type, pos, after, guard⟩ := o
    subst ho
    unfold vbin at h
    split at h
    · rename_i k n k' n' e1 e2
      obtain ⟨v, hv, rfl⟩ := oval_some h
      have hr := (sint_sound (P := P) (m := ⟨fun _ => none, 0, 0⟩) (t := t) (ox := x) (oy := y) hv w).1
      simp only [aop, e1, e2]
      cases hab : abin op (.int k n) (.int k' n') with
      | some v' =>
        rw [run_unique (abin_sound (P := P) (t := t) (ox := x) (oy := y) hab w) hr]
      | none =>
        have hvf : flat 4 v = true := by
          have hs := sint_sound (P := P) (m := ⟨fun _ => none, 0, 0⟩) (t := t) (ox := x) (oy := y) hv w
          have h2 := hs.2
          unfold sint at hv
          split at hv <;> (try split at hv) <;> (try split at hv) <;> first | cases hv; rfl | cases hv
        have : aflat P r ⟨dst, .binOp op t x y t2, type, pos, after, guard⟩ = some v := by
          unfold aflat
          have hp : pureRun P (execOp r.eval ⟨dst, .binOp op t x y t2, type, pos, after, guard⟩) = some (.value v) := by
            have := sint_pure (P := P) (t := t) (ox := x) (oy := y) hv
            simp only [execOp, e1, e2]
            have h3 : pureRun P ((do eqGuard op t x y (.int k n) (.int k' n'); binOp op t (.int k n) (.int k' n') : Sem Value) >>= fun v => (pure (.value v) : Sem Next)) = some (.value v) := by
              rw [pureRun_bind P _ _ this]; rfl
            simpa using h3
          rw [hp]
          simp [Op.operands, e1, e2, flat_int, isSelect, gd, hvf]
        rw [this]
    · rename_i s s' e1 e2
      obtain ⟨v, hv, rfl⟩ := oval_some h
      simp only [aop, e1, e2]
      have hab : abin op (.string s) (.string s') = none := rfl
      rw [hab]
      have hvf : flat 4 v = true := by
        unfold stext at hv
        split at hv <;> first | cases hv; rfl | cases hv
      have : aflat P r ⟨dst, .binOp op t x y t2, type, pos, after, guard⟩ = some v := by
        unfold aflat
        have hp : pureRun P (execOp r.eval ⟨dst, .binOp op t x y t2, type, pos, after, guard⟩) = some (.value v) := by
          have := stext_pure (P := P) (t := t) (ox := x) (oy := y) hv
          simp only [execOp, e1, e2]
          have h3 : pureRun P ((do eqGuard op t x y (.string s) (.string s'); binOp op t (.string s) (.string s') : Sem Value) >>= fun v => (pure (.value v) : Sem Next)) = some (.value v) := by
            rw [pureRun_bind P _ _ this]; rfl
          simpa using h3
        rw [hp]
        simp [Op.operands, e1, e2, flat_string, isSelect, gd, hvf]
      rw [this]
    · rename_i hn1 hn2
      split at h
      · rename_i v hv
        obtain rfl := Option.some.inj h
        simp only [aop]
        have hab : abin op (r.eval x) (r.eval y) = none := by
          unfold abin
          split
          · rename_i k n e1
            split
            · rename_i k' n' e2
              exact absurd e2 (hn1 k n k' n' e1)
            · rfl
          · rfl
        rw [hab]
        cases haf : aflat P r ⟨dst, .binOp op t x y t2, type, pos, after, guard⟩ with
        | none => simp only [hv]; rfl
        | some v' =>
          unfold aflat at haf
          replace haf := gd_some haf; obtain ⟨hg, haf⟩ := haf
          simp only [Bool.and_eq_true] at hg
          split at haf
          · rename_i v2 hp
            replace haf := gd_some haf; obtain ⟨_, haf⟩ := haf
            obtain rfl := Option.some.inj haf
            have hfl := List.all_eq_true.1 hg.1
            have hx := hfl x (by simp [Op.operands])
            have hy := hfl y (by simp [Op.operands])
            have hs := aeq_sound (P := P) (ox := x) (oy := y) (VRel.of_flat ⟨fun _ => none, 0, 0⟩ 4 _ hx) (VRel.of_flat ⟨fun _ => none, 0, 0⟩ 4 _ hy) hv w
            have hp := pureRun_run hp w
            have hs2 : (execOp r.eval ⟨dst, .binOp op t x y t2, type, pos, after, guard⟩).run P w = .ok (.value v) w := by
              have : ((do eqGuard op t x y (r.eval x) (r.eval y); binOp op t (r.eval x) (r.eval y) : Sem Value) >>= fun v => (pure (.value v) : Sem Next)).run P w = .ok (.value v) w := by
                rw [Sem.run_bind, hs]; rfl
              simpa [execOp] using this
            have := run_unique hp hs2
            injection this with this
            subst this
            rfl
          · cases haf
      · exact h
  · rename_i s d x ho
    obtain ⟨dst, op', type, pos, after, guard⟩ := o
    subst ho
    unfold vconv at h
    split at h
    · rename_i k n e1
      split at h
      · rename_i d1 k2 hs hd
        obtain rfl := Option.some.inj h
        simp only [aop, e1, aconvInt, hs, hd, wrapF_eq]
      · exact h
    · split at h
      · rename_i v hv
        cases h
        exact acvs_aop hv
      · exact h
  · rename_i op t x ho
    obtain ⟨dst, op', type, pos, after, guard⟩ := o
    subst ho
    obtain ⟨v, hv, rfl⟩ := oval_some h
    simp only [aop]
    unfold vun at hv
    split at hv
    · rename_i b e1
      obtain rfl := Option.some.inj hv
      rw [e1]; rfl
    · rename_i k n e1
      obtain rfl := Option.some.inj hv
      rw [e1]
      simp only [aun, wrapF_eq]
      rw [show (0 : Int) - n = -n by omega]; rfl
    · cases hv
  · exact h

/-! ### The row -/
/-- A row of operations that write nothing, among them calls that 'call' tells and that leave the memory as it is. -/
def OpsD (P : Program) (call : CallF) (ops : Array Oper) : List Oper → Env → Mem → (Env → Mem → Prop) → Prop
  | [], r, M, K => K r M
  | o :: rest, r, M, K =>
    (wantedA ops r o = true ∧ (match vOp P r o M with
      | some (.val v _) => veq 4 v v = true ∧ OpsD P call ops rest (r.put o.dst v) M K
      | some (.call f args) => ∃ v, call f args M = some (v, M) ∧ OpsD P call ops rest (r.put o.dst v) M K
      | none => False)) ∨
    (wantedA ops r o = false ∧ OpsD P call ops rest (r.put o.dst undef) M K)

def Quiet (P : Program) (M : Mem) (es : List Ent) : Prop := ∀ en ∈ es, en.M = M ∧
  match en.cls with
  | .n | .p | .e => True
  | .r => aOp P en.r en.o M = some (.val en.v M) ∧ veq 4 en.v en.v = true
  | _ => False

theorem Quiet.add {M : Mem} {es : List Ent} {en : Ent} (h : Quiet P M es) (h2 : Quiet P M [en]) : Quiet P M (es ++ [en]) := by
  intro x hx
  rcases List.mem_append.1 hx with hx | hx
  · exact h x hx
  · exact h2 x hx

theorem Quiet.addSel {M M' : Mem} {base : Nat} {f : Nat → Bool} : ∀ {es : List Ent} {i : Nat}, Quiet P M es → Ab.addSel base f es i M' = M'
  | [], _, _ => rfl
  | en :: es, i, h => by
    have h1 := (h en (by simp)).2
    have h2 : Quiet P M es := fun x hx => h x (by simp [hx])
    unfold Ab.addSel
    split
    · rename_i obj hc; rw [hc] at h1; exact h1.elim
    · exact Quiet.addSel h2

def isCallV : Op → Bool
  | .call c =>
    match c.callee with
    | .value _ => true
    | _ => false
  | _ => false
theorem isCallV_kinds {op : Op} (h : isCallV op = true) : kindP op = false ∧ kindR P op = false ∧ kindA op = false := by
  cases op <;> try (exact absurd h Bool.false_ne_true)
  rename_i c
  obtain ⟨callee, args, ts⟩ := c
  cases callee <;> first | exact absurd h Bool.false_ne_true | exact ⟨rfl, rfl, rfl⟩

def prOps (P : Program) (os : List Oper) : Bool := os.all fun o => kindP o.op || kindR P o.op || isCallV o.op

theorem not_call {o : Oper} {f : FuncId} {args : List Value} (hk : (kindP o.op || kindR P o.op) = true) (h : aOp P r o M = some (.call f args)) : False := by
  rw [Bool.or_eq_true] at hk
  rcases hk with hk | hk
  · obtain ⟨v, e, _⟩ := kindP_indep hk h; cases e
  · obtain ⟨v, e⟩ := kindR_same hk h; cases e

theorem not_val {o : Oper} {v : Value} {M1 : Mem} (hk : isCallV o.op = true) (h : aOp P r o M = some (.val v M1)) : False := by
  obtain ⟨dst, op, ty, p, af, g⟩ := o
  cases op <;> try (exact absurd hk Bool.false_ne_true)
  rename_i c
  obtain ⟨callee, args, ts⟩ := c
  cases callee <;> try (exact absurd hk Bool.false_ne_true)
  unfold aOp at h
  replace h := gd_some h; obtain ⟨_, h⟩ := h
  simp only [aop] at h
  unfold acall at h
  split at h
  · replace h := gd_some h; obtain ⟨_, h⟩ := h
    cases h
  · cases h

theorem OpsD.go {ops : Array Oper} {base : Nat} {call : CallF} : ∀ (os : List Oper) (r : Env) (M : Mem) (K : Env → Mem → Prop), prOps P os = true → OpsD P call ops os r M K →
    ∃ r', K r' M ∧ ∀ (_ : World) (acc : List Ent), Quiet P M acc → ∃ es, drawGo P (fun _ => call) ops base os acc r M = some (es, r', M) ∧ Quiet P M es
  | [], r, M, K, _, h => ⟨r, h, fun _ acc ha => ⟨acc, rfl, ha⟩⟩
  | o :: os, r, M, K, hp, h => by
    unfold prOps at hp
    rw [List.all_cons, Bool.and_eq_true] at hp
    obtain ⟨hp1, hp2⟩ := hp
    rcases h with ⟨hw, h⟩ | ⟨hw, h⟩
    · split at h
      · rename_i v M1 hv
        obtain ⟨hveq, h⟩ := h
        obtain ⟨r', hk, hgo⟩ := OpsD.go (ops := ops) (base := base) (call := call) os _ M K hp2 h
        refine ⟨r', hk, fun w acc ha => ?_⟩
        have hv2 := vOp_aOp w hv
        unfold drawGo
        rw [hw, cond_true]
        cases hkp : kindP o.op with
        | true =>
          rw [cond_true, hv2]
          exact hgo w _ (ha.add fun x hx => by simp at hx; subst hx; exact ⟨rfl, trivial⟩)
        | false =>
          rw [hkp, Bool.false_or, Bool.or_eq_true] at hp1
          rcases hp1 with hp1 | hp1
          · rw [hp1, cond_false, cond_true, ha.addSel, hv2]
            have hM : M1 = M := by
              obtain ⟨v', e⟩ := kindR_same hp1 hv2
              injection e
            refine hgo w _ (ha.add fun x hx => ?_)
            simp at hx; subst hx
            exact ⟨rfl, by rw [hv2, hM], hveq⟩
          · obtain ⟨_, k2, k3⟩ := isCallV_kinds (P := P) hp1
            rw [k2, k3, cond_false, cond_false, cond_false, ha.addSel]
            exact (not_val hp1 hv2).elim
      · rename_i f args hv
        obtain ⟨v, hc, h⟩ := h
        obtain ⟨r', hk, hgo⟩ := OpsD.go (ops := ops) (base := base) (call := call) os _ M K hp2 h
        refine ⟨r', hk, fun w acc ha => ?_⟩
        have hv2 := vOp_aOp w hv
        unfold drawGo
        rw [hw, cond_true]
        cases hkp : kindP o.op with
        | true => exact (not_call (P := P) (by rw [hkp]; rfl) hv2).elim
        | false =>
          rw [hkp, Bool.false_or, Bool.or_eq_true] at hp1
          rcases hp1 with hp1 | hp1
          · exact (not_call (P := P) (by rw [hp1, Bool.or_true]) hv2).elim
          · obtain ⟨_, k2, k3⟩ := isCallV_kinds (P := P) hp1
            rw [k2, k3, cond_false, cond_false, cond_false, ha.addSel]
            have : stepOp P call r o M = some (v, M) := by unfold stepOp; rw [hv2]; exact hc
            rw [this]
            exact hgo w _ (ha.add fun x hx => by simp at hx; subst hx; exact ⟨rfl, trivial⟩)
      · exact h.elim
    · obtain ⟨r', hk, hgo⟩ := OpsD.go (ops := ops) (base := base) (call := call) os _ M K hp2 h
      refine ⟨r', hk, fun w acc ha => ?_⟩
      unfold drawGo
      rw [hw, cond_false]
      exact hgo w _ (ha.add fun x hx => by simp at hx; subst hx; exact ⟨rfl, trivial⟩)

theorem Quiet.memAt {M : Mem} {es : List Ent} (h : Quiet P M es) (p : Nat) : Ab.memAt es M p = M := by
  unfold Ab.memAt
  split
  · rename_i e he; exact (h e (List.mem_of_getElem? he)).1
  · rfl

theorem Quiet.steady {M : Mem} {es : List Ent} {ops : Array Oper} {base : Nat} (h : Quiet P M es) : Ab.steady P ops base es M = true := by
  unfold Ab.steady
  rw [List.all_eq_true]
  rintro ⟨en, j⟩ hj
  have hen := List.fst_mem_of_mem_zipIdx hj
  have h1 := (h en hen).2
  dsimp only
  cases hc : en.cls with
  | n => rfl
  | p => rfl
  | e => rfl
  | a obj => rw [hc] at h1; exact h1.elim
  | r =>
    rw [hc] at h1
    dsimp only at h1 ⊢
    rw [List.all_eq_true]
    intro p _
    rw [h.memAt, h.addSel, h1.1]
    simp only [h1.2, Bool.or_true]

def drawOpsOf : Code → Option (List Oper)
  | .region _ ops true => some ops.toList
  | _ => none

/-- A region whose order is drawn, of operations that write nothing: its row; some names are passed by. -/
theorem W.drawRow (hm : P.follows .mixedOrders = true) {id : Nat} {ops : Array Oper} {r : Env} {M : Mem} {K : Ex → Env → Mem → Prop} {call : CallF} (hC : CallsOk P call)
    (hpr : prOps P ops.toList = true) (hd : drawOk P ops = true) (hf : dstsFit ops.toList r.size = true) (h : OpsD P call ops ops.toList r ⟨M.next + ops.size, M.tbl⟩ (K .normal)) : W P (.region id ops true) r M K := by
  obtain ⟨r', hk, hgo⟩ := OpsD.go (ops := ops) (base := M.next) (call := call) _ r _ _ hpr h
  refine ⟨.normal, r', ⟨M.next + ops.size, M.tbl⟩, ?_, hk⟩
  intro N0 w0 m w
  obtain ⟨es, h1, h2⟩ := hgo w [] (fun x hx => by simp at hx)
  have : drawA P (fun _ => call) ops r M = some (r', ⟨M.next + ops.size, M.tbl⟩) := by
    unfold drawA
    rw [hd, hf, Bool.and_self, h1]
    simp only [gd, h2.steady, h2.addSel]
  exact drawA_ok hm (fun _ => hC) this N0 w0 m w

theorem W.pDraw (hm : P.follows .mixedOrders = true) {c : Code} {n : Nat} {r : Env} {M : Mem} {K : Ex → Env → Mem → Prop} {l : List Oper} {call : CallF} (hC : CallsOk P call) (hc : drawOpsOf c = some l)
    (hpr : prOps P l = true) (hd : drawOk P (arrOf c) = true) (hs : r.size = n) (hf : dstsFit l n = true) (h : OpsD P call (arrOf c) l r ⟨M.next + l.length, M.tbl⟩ (K .normal)) : W P c r M K := by
  unfold drawOpsOf at hc
  split at hc
  · obtain rfl := Option.some.inj hc
    refine W.drawRow hm hC hpr hd (hs ▸ hf) ?_
    simpa [arrOf] using h
  · cases hc
theorem W.pDrawRow (hm : P.follows .mixedOrders = true) {c : Code} {n : Nat} {r : Env} {M : Mem} {K : Ex → Env → Mem → Prop} {l : List Oper} {call : CallF} (hC : CallsOk P call) (hq : isSeq c = true) (hc : drawOpsOf (L c) = some l)
    (hpr : prOps P l = true) (hd : drawOk P (arrOf (L c)) = true) (hs : r.size = n) (hf : dstsFit l n = true) (h : OpsD P call (arrOf (L c)) l r ⟨M.next + l.length, M.tbl⟩ (fun r' M' => W P (R c) r' M' K)) : W P c r M K :=
  W.pSeq hq (W.pDraw hm hC hc hpr hd hs hf h)

variable {ops : Array Oper} {rest : List Oper} {K : Env → Mem → Prop} {d : Option Tmp} {op : Op} {ty : TypeId} {p : String} {af : Array Edge}
def StepD (P : Program) (call : CallF) (ops : Array Oper) (d : Option Tmp) (rest : List Oper) (r : Env) (M : Mem) (K : Env → Mem → Prop) : Option Out → Prop
  | some (.val v _) => veq 4 v v = true ∧ OpsD P call ops rest (r.put d v) M K
  | some (.call f args) => ∃ v, call f args M = some (v, M) ∧ OpsD P call ops rest (r.put d v) M K
  | none => False
variable {call : CallF}
theorem dNil : OpsD P call ops [] r M K = K r M := rfl
theorem dCons : OpsD P call ops (⟨d, op, ty, p, af, none⟩ :: rest) r M K = StepD P call ops d rest r M K (vOp P r ⟨d, op, ty, p, af, none⟩ M) := by
  simp only [OpsD, wantedA, true_and, Bool.true_eq_false, false_and, or_false]
  cases vOp P r ⟨d, op, ty, p, af, none⟩ M with
  | none => rfl
  | some o => cases o <;> rfl
theorem dVal {v : Value} {M' : Mem} : StepD P call ops d rest r M K (some (.val v M')) = (veq 4 v v = true ∧ OpsD P call ops rest (r.put d v) M K) := rfl
theorem dCall {f : FuncId} {args : List Value} {v : Value} (h : call f args M = some (v, M)) (k : OpsD P call ops rest (r.put d v) M K) : StepD P call ops d rest r M K (some (.call f args)) := ⟨v, h, k⟩
theorem qInt {k : IntKind} {n : Int} : veq 4 (.int k n) (.int k n) = true := by simp [veq, veq0]
theorem qBool {b : Bool} : veq 4 (.bool b) (.bool b) = true := by simp [veq, veq0]
theorem qString {b : ByteArray} : veq 4 (.string b) (.string b) = true := by simp [veq, veq0]
theorem qPtr {b : Option Addr} : veq 4 (.pointer b) (.pointer b) = true := by simp [veq, veq0]
theorem qSlice {b : Option Addr} {l c : Nat} : veq 4 (.slice b l c) (.slice b l c) = true := by simp [veq, veq0]
end
end Go.Ab
