/- The abstract machine, by what holds behind: rules for open proofs. -/
import Derived.Test.YtgffnmnkoohgkaaAbV
set_option linter.unusedSimpArgs false
set_option linter.unusedVariables false
namespace Go.Ab
open Go.RowKit (Below)

/-- What holds behind a call. -/
def CallW (P : Program) (f : FuncId) (args : List Value) (M : Mem) (K : Value → Mem → Prop) : Prop :=
  ∃ v M', CallOk P f args M v M' ∧ K v M'

def OpW (P : Program) (x : Option Out) (M : Mem) (K : Value → Mem → Prop) : Prop :=
  match x with
  | some (.val v M') => K v M'
  | some (.call f args) => CallW P f args M K
  | none => False

def OpsW (P : Program) (ops : Array Oper) : List Oper → Env → Mem → (Env → Mem → Prop) → Prop
  | [], r, M, K => K r M
  | o :: rest, r, M, K =>
    (wantedA ops r o = true ∧ OpW P (vOp P r o M) M (fun v M' => OpsW P ops rest (r.put o.dst v) M' K)) ∨
    (wantedA ops r o = false ∧ OpsW P ops rest (r.put o.dst undef) M K)

/-- What holds behind a piece of code. -/
def W (P : Program) (c : Code) (r : Env) (M : Mem) (K : Ex → Env → Mem → Prop) : Prop := ∃ e r' M', CodeOk P c r M e r' M' ∧ K e r' M'

section
variable {P : Program}

theorem CallW.mono {f : FuncId} {args : List Value} {M : Mem} {K K' : Value → Mem → Prop} (h : CallW P f args M K) (hk : ∀ v M', K v M' → K' v M') : CallW P f args M K' :=
  let ⟨v, M', a, b⟩ := h; ⟨v, M', a, hk v M' b⟩

theorem W.mono {c : Code} {r : Env} {M : Mem} {K K' : Ex → Env → Mem → Prop} (h : W P c r M K) (hk : ∀ e r' M', K e r' M' → K' e r' M') : W P c r M K' :=
  let ⟨e, r', M', a, b⟩ := h; ⟨e, r', M', a, hk e r' M' b⟩

theorem OpW.ok {r : Env} {o : Oper} {M : Mem} {K : Value → Mem → Prop} (h : OpW P (vOp P r o M) M K) : ∃ v M', K v M' ∧
    ∀ (N0 : Nat → Prop) (w0 : World) (m : LM) (w : World) (a : Act) (next : Act → World → Prop) (Q : Exit → Act → World → Prop), ERel m r a → Rl N0 w0 m M w →
      (∀ m' u w', m.le m' → VRel m' v u → Rl N0 w0 m' M' w' → next (a.put o.dst u) w') → o.wp P a w next Q := by
  unfold OpW at h
  split at h
  · rename_i v M' ho
    refine ⟨v, M', h, fun N0 w0 m w a next Q hE hR hn => ?_⟩
    obtain ⟨rr, w', u, m', h1, h2, h3, h4, h5⟩ := vOp_sound hE hR ho
    unfold Oper.wp
    rw [h1]
    rcases h2 with rfl | ⟨rfl, rfl⟩
    · exact hn m' u w' h3 h4 h5
    · exact hn m' undef w' h3 h4 h5
  · rename_i f args ho
    obtain ⟨v, M', hc, hk⟩ := h
    refine ⟨v, M', hk, fun N0 w0 m w a next Q hE hR hn => ?_⟩
    obtain ⟨args', h1, h2⟩ := vOp_sound hE hR ho
    unfold Oper.wp
    rw [h1]
    refine (hc N0 w0 m w args' hR h2).mono fun e w' he => ?_
    obtain ⟨u, m', rfl, h3, h4, h5⟩ := he
    exact hn m' u w' h3 h4 h5
  · exact h.elim

theorem OpsW.ok (ops : Array Oper) : ∀ (os : List Oper) (r : Env) (M : Mem) (K : Env → Mem → Prop), OpsW P ops os r M K → ∃ r' M', K r' M' ∧
    ∀ (N0 : Nat → Prop) (w0 : World) (m : LM) (w : World) (a : Act) (Q : Exit → Act → World → Prop) (l : List Nat), l.map (fun i => ops[i]?) = os.map some → ERel m r a → Rl N0 w0 m M w →
      (∀ m' a' w', m.le m' → ERel m' r' a' → Rl N0 w0 m' M' w' → Q .normal a' w') → wpOps P ops Q l a w
  | [], r, M, K, h => by
    refine ⟨r, M, h, fun N0 w0 m w a Q l hl hE hR hQ => ?_⟩
    have : l = [] := by cases l with
      | nil => rfl
      | cons x xs => simp at hl
    subst this
    exact hQ m a w (LM.le_refl m) hE hR
  | o :: os, r, M, K, h => by
    rcases h with ⟨hw, h⟩ | ⟨hw, h⟩
    · obtain ⟨v, M1, h1, h2⟩ := OpW.ok h
      obtain ⟨r', M', h3, h4⟩ := OpsW.ok ops os _ _ K h1
      refine ⟨r', M', h3, fun N0 w0 m w a Q l hl hE hR hQ => ?_⟩
      cases l with
      | nil => simp at hl
      | cons i l =>
        simp only [List.map_cons, List.cons.injEq] at hl
        obtain ⟨hi, hl⟩ := hl
        simp only [wpOps, hi]
        rw [wanted_rel hE, hw]
        simp only [if_true]
        refine .inl ?_
        exact h2 N0 w0 m w a _ Q hE hR fun m' u w' k1 k2 k3 => h4 N0 w0 m' w' _ Q l hl ((hE.mono k1.sub).put k2 o.dst) k3 fun m2 a2 w2 j1 j2 j3 => hQ m2 a2 w2 (k1.trans' j1) j2 j3
    · obtain ⟨r', M', h3, h4⟩ := OpsW.ok ops os _ _ K h
      refine ⟨r', M', h3, fun N0 w0 m w a Q l hl hE hR hQ => ?_⟩
      cases l with
      | nil => simp at hl
      | cons i l =>
        simp only [List.map_cons, List.cons.injEq] at hl
        obtain ⟨hi, hl⟩ := hl
        simp only [wpOps, hi]
        rw [wanted_rel hE, hw]
        simp only [Bool.false_eq_true, if_false]
        exact h4 N0 w0 m w _ Q l hl (hE.put (.undef m) o.dst) hR hQ

theorem W.region {id : Nat} {ops : Array Oper} {r : Env} {M : Mem} {K : Ex → Env → Mem → Prop} (h : OpsW P ops ops.toList r M (K .normal)) : W P (.region id ops false) r M K := by
  obtain ⟨r', M', h1, h2⟩ := OpsW.ok ops _ r M _ h
  exact ⟨.normal, r', M', fun N0 w0 m w a Q hE hR hQ => wp_region (h2 N0 w0 m w a Q _ (range_map_get ops) hE hR hQ), h1⟩

theorem W.draw (hm : P.follows .mixedOrders = true) {id : Nat} {ops : Array Oper} {r : Env} {M : Mem} {K : Ex → Env → Mem → Prop} {call : Nat → CallF} (hC : ∀ j, CallsOk P (call j)) {r' : Env} {M' : Mem} (h : drawA P call ops r M = some (r', M'))
    (hk : K .normal r' M') : W P (.region id ops true) r M K := ⟨.normal, r', M', drawA_ok hm hC h, hk⟩

theorem W.skip {r : Env} {M : Mem} {K : Ex → Env → Mem → Prop} (h : K .normal r M) : W P .skip r M K :=
  ⟨.normal, r, M, fun _ _ m w a _ hE hR hQ => wp_skip (hQ m a w (LM.le_refl m) hE hR), h⟩
theorem W.exit {id : Nat} {r : Env} {M : Mem} {K : Ex → Env → Mem → Prop} (h : K (.exit id) r M) : W P (.exit id) r M K :=
  ⟨.exit id, r, M, fun _ _ m w a _ hE hR hQ => wp_exit (hQ m a w (LM.le_refl m) hE hR), h⟩
theorem W.ret {r : Env} {M : Mem} {K : Ex → Env → Mem → Prop} (h : K .ret r M) : W P .ret r M K :=
  ⟨.ret, r, M, fun _ _ m w a _ hE hR hQ => wp_ret (hQ m a w (LM.le_refl m) hE hR), h⟩

def thenK (P : Program) (y : Code) (K : Ex → Env → Mem → Prop) : Ex → Env → Mem → Prop
  | .normal, r, M => W P y r M K
  | e, r, M => K e r M
theorem thenK_normal {y : Code} {K : Ex → Env → Mem → Prop} {r : Env} {M : Mem} : thenK P y K .normal r M = W P y r M K := rfl
theorem thenK_exit {y : Code} {K : Ex → Env → Mem → Prop} {r : Env} {M : Mem} {i : Nat} : thenK P y K (.exit i) r M = K (.exit i) r M := rfl
theorem thenK_ret {y : Code} {K : Ex → Env → Mem → Prop} {r : Env} {M : Mem} : thenK P y K .ret r M = K .ret r M := rfl

theorem W.seq {x y : Code} {r : Env} {M : Mem} {K : Ex → Env → Mem → Prop} (h : W P x r M (thenK P y K)) : W P (.seq x y) r M K := by
  obtain ⟨e, r1, M1, h1, h2⟩ := h
  cases e with
  | normal =>
    obtain ⟨e, r2, M2, h3, h4⟩ := h2
    exact ⟨e, r2, M2, fun N0 w0 m w a Q hE hR hQ => wp_seq (h1 N0 w0 m w a _ hE hR fun m1 a1 w1 j1 j2 j3 => h3 N0 w0 m1 w1 a1 Q j2 j3 fun m' a' w' k1 k2 k3 => hQ m' a' w' (j1.trans' k1) k2 k3), h4⟩
  | exit id => exact ⟨_, r1, M1, fun N0 w0 m w a Q hE hR hQ => wp_seq (h1 N0 w0 m w a _ hE hR fun m1 a1 w1 j1 j2 j3 => hQ m1 a1 w1 j1 j2 j3), h2⟩
  | ret => exact ⟨_, r1, M1, fun N0 w0 m w a Q hE hR hQ => wp_seq (h1 N0 w0 m w a _ hE hR fun m1 a1 w1 j1 j2 j3 => hQ m1 a1 w1 j1 j2 j3), h2⟩

theorem W.cond {c : Operand} {x y : Code} {r : Env} {M : Mem} {K : Ex → Env → Mem → Prop} (b : Bool) (hc : okOperand c = true) (hb : r.eval c = .bool b)
    (h1 : b = true → W P x r M K) (h2 : b = false → W P y r M K) : W P (.cond c x y) r M K := by
  cases b with
  | true =>
    obtain ⟨e, r', M', a, k⟩ := h1 rfl
    refine ⟨e, r', M', fun N0 w0 m w ac Q hE hR hQ => ?_, k⟩
    have hv := hE.eval hc
    rw [hb] at hv
    generalize hu : ac.eval c = u at hv
    cases hv
    exact wp_cond_true hu (a N0 w0 m w ac Q hE hR hQ)
  | false =>
    obtain ⟨e, r', M', a, k⟩ := h2 rfl
    refine ⟨e, r', M', fun N0 w0 m w ac Q hE hR hQ => ?_, k⟩
    have hv := hE.eval hc
    rw [hb] at hv
    generalize hu : ac.eval c = u at hv
    cases hv
    exact wp_cond_false hu (a N0 w0 m w ac Q hE hR hQ)

def blockK (id : Nat) (K : Ex → Env → Mem → Prop) : Ex → Env → Mem → Prop
  | .exit i, r, M => if i = id then K .normal r M else K (.exit i) r M
  | e, r, M => K e r M
theorem blockK_normal {id : Nat} {K : Ex → Env → Mem → Prop} {r : Env} {M : Mem} : blockK id K .normal r M = K .normal r M := rfl
theorem blockK_exit {id i : Nat} {K : Ex → Env → Mem → Prop} {r : Env} {M : Mem} : blockK id K (.exit i) r M = if i = id then K .normal r M else K (.exit i) r M := rfl
theorem blockK_ret {id : Nat} {K : Ex → Env → Mem → Prop} {r : Env} {M : Mem} : blockK id K .ret r M = K .ret r M := rfl

theorem W.block {id : Nat} {x : Code} {r : Env} {M : Mem} {K : Ex → Env → Mem → Prop} (h : W P x r M (blockK id K)) : W P (.block id x) r M K := by
  obtain ⟨e, r1, M1, h1, h2⟩ := h
  cases e with
  | normal => exact ⟨.normal, r1, M1, fun N0 w0 m w a Q hE hR hQ => wp_block (h1 N0 w0 m w a _ hE hR fun m1 a1 w1 j1 j2 j3 => hQ m1 a1 w1 j1 j2 j3), h2⟩
  | ret => exact ⟨.ret, r1, M1, fun N0 w0 m w a Q hE hR hQ => wp_block (h1 N0 w0 m w a _ hE hR fun m1 a1 w1 j1 j2 j3 => hQ m1 a1 w1 j1 j2 j3), h2⟩
  | exit i =>
    by_cases hi : i = id
    · rw [blockK_exit, if_pos hi] at h2
      exact ⟨.normal, r1, M1, fun N0 w0 m w a Q hE hR hQ => wp_block (h1 N0 w0 m w a _ hE hR fun m1 a1 w1 j1 j2 j3 => by
        simp only [Ex.conv, Exit.inBlock]; rw [if_pos hi]; exact hQ m1 a1 w1 j1 j2 j3), h2⟩
    · rw [blockK_exit, if_neg hi] at h2
      exact ⟨.exit i, r1, M1, fun N0 w0 m w a Q hE hR hQ => wp_block (h1 N0 w0 m w a _ hE hR fun m1 a1 w1 j1 j2 j3 => by
        simp only [Ex.conv, Exit.inBlock]; rw [if_neg hi]; exact hQ m1 a1 w1 j1 j2 j3), h2⟩

theorem LoopOk.next {c : Code} {r r1 r' : Env} {M M1 M' : Mem} {e : Ex} (hb : CodeOk P c r M .normal r1 M1) (hl : LoopOk P c r1 M1 e r' M') : LoopOk P c r M e r' M' := by
  intro N0 w0 m w a Q hE hR hQ
  refine loop_arrives (fun a1 w1 => ∃ m1, m.le m1 ∧ ERel m1 r1 a1 ∧ Rl N0 w0 m1 M1 w1) ?_ ?_
  · rintro a1 w1 ⟨m1, k1, k2, k3⟩
    exact hl N0 w0 m1 w1 a1 Q k2 k3 fun m' a' w' j1 j2 j3 => hQ m' a' w' (k1.trans' j1) j2 j3
  · exact hb N0 w0 m w a _ hE hR fun m' a' w' j1 j2 j3 => ⟨m', j1, j2, j3⟩

theorem LoopOk.stop {c : Code} {r r' : Env} {M M' : Mem} {e : Ex} (hne : e ≠ .normal) (hb : CodeOk P c r M e r' M') : LoopOk P c r M e r' M' := by
  intro N0 w0 m w a Q hE hR hQ
  refine loop_arrives (fun _ _ => False) (fun _ _ hf => hf.elim) ?_
  refine hb N0 w0 m w a _ hE hR fun m' a' w' j1 j2 j3 => ?_
  have := hQ m' a' w' j1 j2 j3
  cases e with
  | normal => exact absurd rfl hne
  | exit id => exact this
  | ret => exact this

def loopK (I : Nat → Env → Mem → Prop) (n : Nat) (K : Ex → Env → Mem → Prop) : Ex → Env → Mem → Prop
  | .normal, r, M => ∃ n', n' < n ∧ I n' r M
  | e, r, M => K e r M
theorem loopK_normal {I : Nat → Env → Mem → Prop} {n : Nat} {K : Ex → Env → Mem → Prop} {r : Env} {M : Mem} : loopK I n K .normal r M = ∃ n', n' < n ∧ I n' r M := rfl
theorem loopK_exit {I : Nat → Env → Mem → Prop} {n i : Nat} {K : Ex → Env → Mem → Prop} {r : Env} {M : Mem} : loopK I n K (.exit i) r M = K (.exit i) r M := rfl
theorem loopK_ret {I : Nat → Env → Mem → Prop} {n : Nat} {K : Ex → Env → Mem → Prop} {r : Env} {M : Mem} : loopK I n K .ret r M = K .ret r M := rfl

theorem W.loop_ok {c : Code} {K : Ex → Env → Mem → Prop} (I : Nat → Env → Mem → Prop) (hs : ∀ n r M, I n r M → W P c r M (loopK I n K)) : ∀ n r M, I n r M → ∃ e r' M', LoopOk P c r M e r' M' ∧ K e r' M' := by
  intro n
  induction n using Nat.strongRecOn with
  | ind n ih =>
    intro r M h
    obtain ⟨e, r1, M1, h1, h2⟩ := hs n r M h
    cases e with
    | normal =>
      obtain ⟨n', hn, h3⟩ := h2
      obtain ⟨e, r', M', h4, h5⟩ := ih n' hn r1 M1 h3
      exact ⟨e, r', M', LoopOk.next h1 h4, h5⟩
    | exit i => exact ⟨_, r1, M1, LoopOk.stop (by simp) h1, h2⟩
    | ret => exact ⟨_, r1, M1, LoopOk.stop (by simp) h1, h2⟩

/-- A loop, by what holds ahead of each turn, and a number that falls. -/
theorem W.loop {c : Code} {r : Env} {M : Mem} {K : Ex → Env → Mem → Prop} (I : Nat → Env → Mem → Prop) (n : Nat) (h0 : I n r M) (hs : ∀ n r M, I n r M → W P c r M (loopK I n K)) : W P (.loop c) r M K := by
  obtain ⟨e, r', M', h1, h2⟩ := W.loop_ok I hs n r M h0
  exact ⟨e, r', M', h1.code, h2⟩

/-- What a function's code leaves, as its result. -/
def resK (P : Program) (rs : List ResultVar) (K : Value → Mem → Prop) : Ex → Env → Mem → Prop
  | .exit _, _, _ => False
  | _, r, M => ∃ vs, ares P r M rs = some vs ∧ K (packA vs) M
theorem resK_normal {rs : List ResultVar} {K : Value → Mem → Prop} {r : Env} {M : Mem} : resK P rs K .normal r M = ∃ vs, ares P r M rs = some vs ∧ K (packA vs) M := rfl
theorem resK_ret {rs : List ResultVar} {K : Value → Mem → Prop} {r : Env} {M : Mem} : resK P rs K .ret r M = ∃ vs, ares P r M rs = some vs ∧ K (packA vs) M := rfl

theorem CallW.of {f : FuncId} {fn : Func} {c : Code} {args : List Value} {M : Mem} {K : Value → Mem → Prop} (hf : P.funcs[f]? = some fn) (hb : fn.body = some c)
    (h : W P c (enterA args fn.ntmps) M (resK P fn.results.toList K)) : CallW P f args M K := by
  obtain ⟨e, r', M', h1, h2⟩ := h
  have fin : ∀ vs, ares P r' M' fn.results.toList = some vs → K (packA vs) M' → (e = Ex.normal ∨ e = Ex.ret) → CallW P f args M K := by
    intro vs hvs hk he
    refine ⟨packA vs, M', fun N0 w0 m w args' hR hA => ?_, hk⟩
    refine calls_of_wp hf hb (h1 N0 w0 m w _ _ (enterA_rel hR.glob hA fn.ntmps) hR fun m1 a1 w1 j1 j2 j3 => ?_)
    obtain ⟨us, h3, h4⟩ := ares_sound j2 j3 _ vs hvs
    have hres : (results fn a1.tmps).run P w1 = .ok (if h : us.toArray.size = 1 then us.toArray[0] else .tuple us.toArray) w1 := by
      rw [results_eq, Sem.run_bind, Array.mapM_eq_mapM_toList, Sem.run_map, h3]
      rfl
    rcases he with rfl | rfl
    · exact ⟨j2.defers, _, hres, _, m1, rfl, j1, packA_rel h4, j3⟩
    · exact ⟨j2.defers, _, hres, _, m1, rfl, j1, packA_rel h4, j3⟩
  cases e with
  | normal => obtain ⟨vs, h3, h4⟩ := h2; exact fin vs h3 h4 (.inl rfl)
  | ret => obtain ⟨vs, h3, h4⟩ := h2; exact fin vs h3 h4 (.inr rfl)
  | exit i => exact h2.elim
end

end Go.Ab
