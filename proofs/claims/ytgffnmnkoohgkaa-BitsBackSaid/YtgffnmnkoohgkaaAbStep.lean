/- The abstract machine: one operation and a plain row of them. -/
import Derived.Test.YtgffnmnkoohgkaaAbOps7
set_option linter.unusedSimpArgs false
set_option linter.unusedVariables false
namespace Go.Ab
open Go.RowKit (Below)

inductive Ex where
  | normal
  | exit (id : Nat)
  | ret

abbrev CallF := FuncId → List Value → Mem → Option (Value × Mem)

def yieldedA (ops : Array Oper) (r : Env) (j : Nat) : Option Bool :=
  match ops[j]? with
  | some o =>
    match o.dst with
    | some t =>
      match r.get t with
      | .bool b => some b
      | _ => none
    | none => none
  | none => none

def wantedA (ops : Array Oper) (r : Env) (o : Oper) : Bool :=
  match o.guard with
  | none => true
  | some (j, want) =>
    match yieldedA ops r j with
    | some b => b == want
    | none => false

def stepOp (P : Program) (call : CallF) (r : Env) (o : Oper) (M : Mem) : Option (Value × Mem) :=
  match aOp P r o M with
  | some (.val v M') => some (v, M')
  | some (.call f args) => call f args M
  | none => none

def runOps (P : Program) (call : CallF) (ops : Array Oper) : List Oper → Env → Mem → Option (Env × Mem)
  | [], r, M => some (r, M)
  | o :: rest, r, M =>
    bif wantedA ops r o then
      match stepOp P call r o M with
      | some (v, M') => runOps P call ops rest (r.put o.dst v) M'
      | none => none
    else runOps P call ops rest (r.put o.dst undef) M

/-- What a call comes to stands for what the model's call comes to. -/
def CallOk (P : Program) (f : FuncId) (args : List Value) (M : Mem) (v : Value) (M' : Mem) : Prop :=
  ∀ (N0 : Nat → Prop) (w0 : World) (m : LM) (w : World) (args' : Array Value), Rl N0 w0 m M w → LRel m args args'.toList →
    Calls P f args' w fun e w' => ∃ u m', e = .returned u ∧ m.le m' ∧ VRel m' v u ∧ Rl N0 w0 m' M' w'

def CallsOk (P : Program) (call : CallF) : Prop := ∀ f args M v M', call f args M = some (v, M') → CallOk P f args M v M'

section
variable {P : Program} {N0 : Nat → Prop} {w0 : World}

theorem yielded_rel {m : LM} {r : Env} {a : Act} (hE : ERel m r a) (ops : Array Oper) (j : Nat) : yielded ops a.tmps j = yieldedA ops r j := by
  unfold yielded yieldedA
  cases ho : ops[j]? with
  | none => rfl
  | some o =>
    cases hd : o.dst with
    | none => simp [hd]
    | some t =>
      have h := hE.rel t
      simp only [Option.bind_some, hd]
      rw [Array.getD_eq_getD_getElem?] at h
      cases hv : a.tmps[t]? with
      | none =>
        rw [hv] at h
        simp only [Option.getD_none] at h
        generalize r.get t = v at h
        unfold undef at h
        cases h
        rfl
      | some u =>
        rw [hv] at h
        simp only [Option.getD_some] at h
        generalize r.get t = v at h
        cases h <;> rfl

theorem wanted_rel {m : LM} {r : Env} {a : Act} (hE : ERel m r a) (ops : Array Oper) (o : Oper) : Region.wanted o (yielded ops a.tmps) = wantedA ops r o := by
  unfold Region.wanted wantedA
  cases hg : o.guard with
  | none => rfl
  | some p =>
    obtain ⟨j, want⟩ := p
    simp only [yielded_rel hE]
    cases yieldedA ops r j with
    | none => rfl
    | some b => simp

/-- One operation, in the model's words. -/
theorem stepOp_wp {call : CallF} (hC : CallsOk P call) {m : LM} {M M' : Mem} {w : World} {r : Env} {a : Act} (hE : ERel m r a) (hR : Rl N0 w0 m M w) {o : Oper} {v : Value}
    (h : stepOp P call r o M = some (v, M')) {next : Act → World → Prop} {Q : Exit → Act → World → Prop}
    (hn : ∀ m' u w', m.le m' → VRel m' v u → Rl N0 w0 m' M' w' → next (a.put o.dst u) w') : o.wp P a w next Q := by
  unfold stepOp at h
  split at h
  · rename_i v1 M1 ho
    simp only [Option.some.injEq, Prod.mk.injEq] at h
    obtain ⟨rfl, rfl⟩ := h
    obtain ⟨rr, w', u, m', h1, h2, h3, h4, h5⟩ := aOp_sound hE hR ho
    unfold Oper.wp
    rw [h1]
    rcases h2 with rfl | ⟨rfl, rfl⟩
    · exact hn m' u w' h3 h4 h5
    · exact hn m' undef w' h3 h4 h5
  · rename_i f args ho
    obtain ⟨args', h1, h2⟩ := aOp_sound hE hR ho
    unfold Oper.wp
    rw [h1]
    refine (hC f args M v M' h N0 w0 m w args' hR h2).mono fun e w' he => ?_
    obtain ⟨u, m', rfl, h3, h4, h5⟩ := he
    exact hn m' u w' h3 h4 h5
  · cases h

theorem runOps_wp {call : CallF} (hC : CallsOk P call) (ops : Array Oper) {Q : Exit → Act → World → Prop} : ∀ (l : List Nat) (os : List Oper) (r : Env) (M : Mem) (r' : Env) (M' : Mem) (m : LM) (a : Act) (w : World),
    l.map (fun i => ops[i]?) = os.map some → ERel m r a → Rl N0 w0 m M w → runOps P call ops os r M = some (r', M') →
    (∀ m' a' w', m.le m' → ERel m' r' a' → Rl N0 w0 m' M' w' → Q .normal a' w') → wpOps P ops Q l a w
  | [], os, r, M, r', M', m, a, w, hl, hE, hR, h, hQ => by
    have : os = [] := by cases os with
      | nil => rfl
      | cons x xs => simp at hl
    subst this
    simp only [runOps, Option.some.injEq, Prod.mk.injEq] at h
    obtain ⟨rfl, rfl⟩ := h
    exact hQ m a w (LM.le_refl m) hE hR
  | i :: l, os, r, M, r', M', m, a, w, hl, hE, hR, h, hQ => by
    cases os with
    | nil => simp at hl
    | cons o os =>
      simp only [List.map_cons, List.cons.injEq] at hl
      obtain ⟨hi, hl⟩ := hl
      simp only [wpOps, hi]
      rw [wanted_rel hE]
      simp only [runOps] at h
      replace h := cond_split h; rcases h with ⟨hw, h⟩ | ⟨hw, h⟩
      · rw [hw]
        simp only [if_true]
        refine .inl ?_
        split at h
        · rename_i v M1 hs
          refine stepOp_wp hC hE hR hs fun m' u w' h1 h2 h3 => ?_
          exact runOps_wp hC ops l os _ _ r' M' m' _ w' hl ((hE.mono h1.sub).put h2 o.dst) h3 h fun m2 a2 w2 k1 k2 k3 => hQ m2 a2 w2 (h1.trans' k1) k2 k3
        · cases h
      · rw [hw]
        simp only [Bool.false_eq_true, if_false]
        exact runOps_wp hC ops l os _ _ r' M' m _ w hl (hE.put (.undef m) o.dst) hR h hQ
end

def Ex.conv : Ex → Exit
  | .normal => .normal
  | .exit id => .exit id
  | .ret => .ret

/-- A run of the abstract machine, in the model's words. -/
def CodeOk (P : Program) (c : Code) (r : Env) (M : Mem) (e : Ex) (r' : Env) (M' : Mem) : Prop :=
  ∀ (N0 : Nat → Prop) (w0 : World) (m : LM) (w : World) (a : Act) (Q : Exit → Act → World → Prop), ERel m r a → Rl N0 w0 m M w →
    (∀ m' a' w', m.le m' → ERel m' r' a' → Rl N0 w0 m' M' w' → Q e.conv a' w') → c.wp P Q a w

end Go.Ab
