/- The abstract machine: code and calls; each run of it stands for one of the model's. -/
import Derived.Test.YtgffnmnkoohgkaaAbDraw3
set_option linter.unusedSimpArgs false
set_option linter.unusedVariables false
namespace Go.Ab
open Go.RowKit (Below)

/-! ### Code -/
def regionA (P : Program) (call : CallF) (ops : Array Oper) (draw : Bool) (r : Env) (M : Mem) : Option (Env × Mem) :=
  match draw with
  | false => runOps P call ops ops.toList r M
  | true => drawA P (fun _ => call) ops r M

def aRun (P : Program) (call : CallF) : Nat → Code → Env → Mem → Option (Ex × Env × Mem)
  | 0, _, _, _ => none
  | k + 1, c, r, M =>
    match c with
    | .skip => some (.normal, r, M)
    | .region _ ops draw =>
      match regionA P call ops draw r M with
      | some (r', M') => some (.normal, r', M')
      | none => none
    | .seq x y =>
      match aRun P call k x r M with
      | some (.normal, r', M') => aRun P call k y r' M'
      | e => e
    | .cond c x y =>
      gd (okOperand c) <|
      match r.eval c with
      | .bool true => aRun P call k x r M
      | .bool false => aRun P call k y r M
      | _ => none
    | .block id x =>
      match aRun P call k x r M with
      | some (.exit id', r', M') => bif Nat.beq id' id then some (.normal, r', M') else some (.exit id', r', M')
      | e => e
    | .loop x =>
      match aRun P call k x r M with
      | some (.normal, r', M') => aRun P call k (.loop x) r' M'
      | e => e
    | .exit id => some (.exit id, r, M)
    | .ret => some (.ret, r, M)
    | _ => none

section
variable {P : Program}

theorem range_map_get (ops : Array Oper) : (List.range ops.size).map (fun i => ops[i]?) = ops.toList.map some := by
  apply List.ext_getElem?
  intro i
  rw [List.getElem?_map, List.getElem?_map]
  by_cases hi : i < ops.size
  · rw [List.getElem?_range hi]
    simp [hi]
  · rw [List.getElem?_eq_none (by simp; omega), List.getElem?_eq_none (by simp; omega)]
    rfl

theorem regionA_ok (hm : P.follows .mixedOrders = true) {call : CallF} (hC : CallsOk P call) {id : Nat} {ops : Array Oper} {draw : Bool} {r r' : Env} {M M' : Mem} (h : regionA P call ops draw r M = some (r', M')) :
    CodeOk P (.region id ops draw) r M .normal r' M' := by
  unfold regionA at h
  split at h
  · intro N0 w0 m w a Q hE hR hQ
    exact wp_region (runOps_wp hC ops _ _ r M r' M' m a w (range_map_get ops) hE hR h hQ)
  · exact drawA_ok hm (fun _ => hC) h

/-- The same of a loop that is under way. -/
def LoopOk (P : Program) (c : Code) (r : Env) (M : Mem) (e : Ex) (r' : Env) (M' : Mem) : Prop :=
  ∀ (N0 : Nat → Prop) (w0 : World) (m : LM) (w : World) (a : Act) (Q : Exit → Act → World → Prop), ERel m r a → Rl N0 w0 m M w →
    (∀ m' a' w', m.le m' → ERel m' r' a' → Rl N0 w0 m' M' w' → Q e.conv a' w') →
    ∀ (b : Frame) (k : List Item) (cs : List Frame), ∃ e2 a' w', Q e2 a' w' ∧ Arrives P (lone (b.at a (.code c :: .inLoop c :: k)) cs w) b k cs e2 a' w'

theorem LoopOk.code {c : Code} {r : Env} {M : Mem} {e : Ex} {r' : Env} {M' : Mem} (h : LoopOk P c r M e r' M') : CodeOk P (.loop c) r M e r' M' := by
  intro N0 w0 m w a Q hE hR hQ b k cs
  obtain ⟨e2, a', w', hq, harr⟩ := h N0 w0 m w a Q hE hR hQ b k cs
  exact ⟨e2, a', w', hq, .of_steps (.one step_loop) harr⟩

theorem loop_arrives {c : Code} {Q : Exit → Act → World → Prop} {a : Act} {w : World} (next : Act → World → Prop)
    (hnext : ∀ a1 w1, next a1 w1 → ∀ (b : Frame) (k : List Item) (cs : List Frame), ∃ e2 a' w', Q e2 a' w' ∧ Arrives P (lone (b.at a1 (.code c :: .inLoop c :: k)) cs w1) b k cs e2 a' w')
    (h : c.wp P (Exit.then next Q) a w) (b : Frame) (k : List Item) (cs : List Frame) :
    ∃ e2 a' w', Q e2 a' w' ∧ Arrives P (lone (b.at a (.code c :: .inLoop c :: k)) cs w) b k cs e2 a' w' := by
  obtain ⟨e, a₁, w₁, hq, harr⟩ := h b (.inLoop c :: k) cs
  cases e with
  | normal =>
    obtain ⟨e₂, a₂, w₂, hq₂, harr₂⟩ := hnext a₁ w₁ hq b k cs
    exact ⟨e₂, a₂, w₂, hq₂, .of_steps (Steps.trans harr (.one step_inLoop)) harr₂⟩
  | exit id => exact ⟨_, a₁, w₁, hq, .pass (x := .inLoop c) rfl (fun _ _ => .inl (by simp)) harr⟩
  | goto l => exact ⟨_, a₁, w₁, hq, .pass (x := .inLoop c) rfl (fun _ _ => .inl (by simp)) harr⟩
  | ret => exact ⟨_, a₁, w₁, hq, .pass (x := .inLoop c) rfl (fun _ _ => .inl (by simp)) harr⟩
  | panic ch => exact ⟨_, a₁, w₁, hq, .pass (x := .inLoop c) rfl (fun _ _ => .inl (by simp)) harr⟩
  | outgrown => exact ⟨_, a₁, w₁, hq, .pass (x := .inLoop c) rfl (fun _ _ => .inl (by simp)) harr⟩

theorem aRun_ok (hm : P.follows .mixedOrders = true) {call : CallF} (hC : CallsOk P call) : ∀ n : Nat,
    (∀ c r M e r' M', aRun P call n c r M = some (e, r', M') → CodeOk P c r M e r' M') ∧
    (∀ c r M e r' M', aRun P call n (.loop c) r M = some (e, r', M') → LoopOk P c r M e r' M')
  | 0 => ⟨fun c r M e r' M' h => by simp [aRun] at h, fun c r M e r' M' h => by simp [aRun] at h⟩
  | n + 1 => by
    obtain ⟨ih1, ih2⟩ := aRun_ok hm hC n
    have hloop : ∀ c r M e r' M', aRun P call (n + 1) (.loop c) r M = some (e, r', M') → LoopOk P c r M e r' M' := by
      intro c r M e r' M' h N0 w0 m w a Q hE hR hQ
      simp only [aRun] at h
      split at h
      · rename_i r1 M1 h1
        have hb := ih1 c r M .normal r1 M1 h1
        refine loop_arrives (fun a1 w1 => ∃ m1, m.le m1 ∧ ERel m1 r1 a1 ∧ Rl N0 w0 m1 M1 w1) ?_ ?_
        · rintro a1 w1 ⟨m1, k1, k2, k3⟩
          exact ih2 c r1 M1 e r' M' h N0 w0 m1 w1 a1 Q k2 k3 fun m' a' w' j1 j2 j3 => hQ m' a' w' (k1.trans' j1) j2 j3
        · exact hb N0 w0 m w a _ hE hR fun m' a' w' j1 j2 j3 => ⟨m', j1, j2, j3⟩
      · rename_i hne
        have hb := ih1 c r M e r' M' h
        refine loop_arrives (fun _ _ => False) (fun _ _ hf => hf.elim) ?_
        refine hb N0 w0 m w a _ hE hR fun m' a' w' j1 j2 j3 => ?_
        have := hQ m' a' w' j1 j2 j3
        cases e with
        | normal => exact absurd h (hne _ _)
        | exit id => exact this
        | ret => exact this
    refine ⟨?_, hloop⟩
    intro c r M e r' M' h
    cases c with
    | loop c => exact (hloop c r M e r' M' h).code
    | skip =>
      simp only [aRun, Option.some.injEq, Prod.mk.injEq] at h
      obtain ⟨rfl, rfl, rfl⟩ := h
      intro N0 w0 m w a Q hE hR hQ
      exact wp_skip (hQ m a w (LM.le_refl m) hE hR)
    | region id ops draw =>
      simp only [aRun] at h
      split at h
      · rename_i r1 M1 h1
        simp only [Option.some.injEq, Prod.mk.injEq] at h
        obtain ⟨rfl, rfl, rfl⟩ := h
        exact regionA_ok hm hC h1
      · cases h
    | seq x y =>
      simp only [aRun] at h
      intro N0 w0 m w a Q hE hR hQ
      split at h
      · rename_i r1 M1 h1
        refine wp_seq (ih1 x r M .normal r1 M1 h1 N0 w0 m w a _ hE hR fun m1 a1 w1 j1 j2 j3 => ?_)
        exact ih1 y r1 M1 e r' M' h N0 w0 m1 w1 a1 Q j2 j3 fun m' a' w' k1 k2 k3 => hQ m' a' w' (j1.trans' k1) k2 k3
      · rename_i hne
        refine wp_seq (ih1 x r M e r' M' h N0 w0 m w a _ hE hR fun m1 a1 w1 j1 j2 j3 => ?_)
        have := hQ m1 a1 w1 j1 j2 j3
        cases e with
        | normal => exact absurd h (hne _ _)
        | exit id => exact this
        | ret => exact this
    | cond cc x y =>
      simp only [aRun] at h
      replace h := gd_some h; obtain ⟨hg, h⟩ := h
      intro N0 w0 m w a Q hE hR hQ
      have hc := hE.eval hg
      split at h
      · rename_i hb
        rw [hb] at hc
        generalize hu : a.eval cc = u at hc
        cases hc
        exact wp_cond_true hu (ih1 x r M e r' M' h N0 w0 m w a Q hE hR hQ)
      · rename_i hb
        rw [hb] at hc
        generalize hu : a.eval cc = u at hc
        cases hc
        exact wp_cond_false hu (ih1 y r M e r' M' h N0 w0 m w a Q hE hR hQ)
      · cases h
    | block id x =>
      simp only [aRun] at h
      intro N0 w0 m w a Q hE hR hQ
      split at h
      · rename_i id' r1 M1 h1
        refine wp_block (ih1 x r M (.exit id') r1 M1 h1 N0 w0 m w a _ hE hR fun m1 a1 w1 j1 j2 j3 => ?_)
        replace h := cond_split h; rcases h with ⟨hb, h⟩ | ⟨hb, h⟩
        · simp only [Option.some.injEq, Prod.mk.injEq] at h
          obtain ⟨rfl, rfl, rfl⟩ := h
          simp only [Ex.conv, Exit.inBlock]
          rw [if_pos (beq_eq hb)]
          exact hQ m1 a1 w1 j1 j2 j3
        · simp only [Option.some.injEq, Prod.mk.injEq] at h
          obtain ⟨rfl, rfl, rfl⟩ := h
          simp only [Ex.conv, Exit.inBlock]
          rw [if_neg (fun e => by rw [beqT e] at hb; cases hb)]
          exact hQ m1 a1 w1 j1 j2 j3
      · rename_i hne
        refine wp_block (ih1 x r M e r' M' h N0 w0 m w a _ hE hR fun m1 a1 w1 j1 j2 j3 => ?_)
        have := hQ m1 a1 w1 j1 j2 j3
        cases e with
        | normal => exact this
        | exit id => exact absurd h (hne _ _ _)
        | ret => exact this
    | exit id =>
      simp only [aRun, Option.some.injEq, Prod.mk.injEq] at h
      obtain ⟨rfl, rfl, rfl⟩ := h
      intro N0 w0 m w a Q hE hR hQ
      exact wp_exit (hQ m a w (LM.le_refl m) hE hR)
    | ret =>
      simp only [aRun, Option.some.injEq, Prod.mk.injEq] at h
      obtain ⟨rfl, rfl, rfl⟩ := h
      intro N0 w0 m w a Q hE hR hQ
      exact wp_ret (hQ m a w (LM.le_refl m) hE hR)
    | rangeFunc f ps x y => simp [aRun] at h
    | scope x => simp [aRun] at h
    | label l => simp [aRun] at h
    | goto l => simp [aRun] at h
    | refuse s => simp [aRun] at h
end

/-! ### Calls -/
def fillArgs : List Value → Nat → Tr Value → Tr Value
  | [], _, t => t
  | v :: r, i, t => fillArgs r (i + 1) (t.set i (some v))

def enterA (args : List Value) (n : Nat) : Env := ⟨args.length + (n - args.length), fillArgs args 0 .leaf⟩

def ares (P : Program) (r : Env) (M : Mem) : List ResultVar → Option (List Value)
  | [] => some []
  | .tmp t :: rest => (ares P r M rest).map fun vs => r.get t :: vs
  | .cell a t :: rest =>
    match aload P t M (r.get a) with
    | some v => (ares P r M rest).map fun vs => v :: vs
    | none => none

def packA : List Value → Value
  | [v] => v
  | vs => .tuple vs.toArray

def aCall (P : Program) (loops : Nat) : Nat → CallF
  | 0 => fun _ _ _ => none
  | k + 1 => fun f args M =>
    match P.funcs[f]? with
    | some fn =>
      match fn.body with
      | some c =>
        match aRun P (aCall P loops k) loops c (enterA args fn.ntmps) M with
        | some (.normal, r', M') | some (.ret, r', M') =>
          match ares P r' M' fn.results.toList with
          | some vs => some (packA vs, M')
          | none => none
        | _ => none
      | none => none
    | none => none

theorem fillArgs_get : ∀ (args : List Value) (i : Nat) (t : Tr Value) (s : Nat), (fillArgs args i t).get s = if i ≤ s ∧ s < i + args.length then args[s - i]? else t.get s
  | [], i, t, s => by simp only [fillArgs]; rw [if_neg (by simp only [List.length_nil]; omega)]
  | v :: r, i, t, s => by
    simp only [fillArgs]
    rw [fillArgs_get r (i + 1), Tr.get_set]
    by_cases h : s = i
    · subst h
      rw [if_neg (by omega), if_pos rfl, if_pos ⟨Nat.le_refl _, by simp⟩]; simp
    · by_cases h2 : i + 1 ≤ s ∧ s < i + 1 + r.length
      · rw [if_pos h2, if_pos ⟨by omega, by simp; omega⟩]
        rw [show s - i = (s - (i + 1)) + 1 by omega]; rfl
      · rw [if_neg h2, if_neg h, if_neg (by simp; omega)]

theorem enterA_rel {m : LM} (hg : GlobOk m) {args : List Value} {args' : Array Value} (h : LRel m args args'.toList) (n : Nat) :
    ERel m (enterA args n) { tmps := args' ++ Array.replicate (n - args'.size) undef, defers := [] } := by
  have hs : args.length = args'.size := by have := h.1; simpa using this
  refine ⟨by simp [enterA, hs], fun t => ?_, rfl, hg⟩
  simp only [Env.get, enterA, fillArgs_get, Nat.zero_le, true_and, Nat.zero_add, Nat.sub_zero]
  rw [Array.getD_eq_getD_getElem?, Array.getElem?_append]
  by_cases ht : t < args.length
  · rw [if_pos ht, if_pos (by omega)]
    have h1 : args[t]? = some args[t] := List.getElem?_eq_getElem ht
    obtain ⟨u, hu, hv⟩ := h.get h1
    rw [h1]
    rw [Array.getElem?_toList] at hu
    rw [hu]
    exact hv
  · rw [if_neg ht, if_neg (by omega)]
    simp only [Tr.get_leaf, Array.getElem?_replicate]
    split <;> exact .undef m

def resSem (tmps : Array Value) : ResultVar → Sem Value
  | .tmp t => pure (tmps.getD t undef)
  | .cell c t => do loadVar t (← asAddr (tmps.getD c undef))

theorem results_eq (fn : Func) (tmps : Array Value) : results fn tmps = (do let vs ← fn.results.mapM (resSem tmps); pure (if h : vs.size = 1 then vs[0] else .tuple vs)) := by
  unfold results
  congr 1

theorem cell_run {P : Program} {w : World} {q u : Value} {t : TypeId} (h : (Instr.loadAt t q).run P w = .ok u w) : (do loadVar t (← asAddr q) : Sem Value).run P w = .ok u w := by
  cases q with
  | pointer p =>
    cases p with
    | none => simp [Instr.loadAt, Instr.sureAddr, stuck] at h
    | some p => simpa [Instr.loadAt, Instr.sureAddr, asAddr] using h
  | _ => simp [Instr.loadAt, Instr.sureAddr, stuck] at h

theorem ares_sound {P : Program} {N0 : Nat → Prop} {w0 : World} {m : LM} {M : Mem} {w : World} {r : Env} {a : Act} (hE : ERel m r a) (hR : Rl N0 w0 m M w) : ∀ (rs : List ResultVar) (vs : List Value), ares P r M rs = some vs →
    ∃ us, (rs.mapM (resSem a.tmps)).run P w = .ok us w ∧ LRel m vs us
  | [], vs, h => by
    simp only [ares, Option.some.injEq] at h
    subst h
    exact ⟨[], by simp, LRel.nil m⟩
  | .tmp t :: rest, vs, h => by
    simp only [ares] at h
    obtain ⟨vs', h1, rfl⟩ := Option.map_eq_some_iff.1 h
    obtain ⟨us, h2, h3⟩ := ares_sound hE hR rest vs' h1
    refine ⟨a.tmps.getD t undef :: us, ?_, LRel.cons (hE.rel t) h3⟩
    rw [List.mapM_cons, Sem.run_bind]
    simp only [resSem, Sem.run_pure, Result.andThen_ok, Sem.run_bind, h2]
  | .cell c t :: rest, vs, h => by
    simp only [ares] at h
    split at h
    · rename_i v hv
      obtain ⟨vs', h1, rfl⟩ := Option.map_eq_some_iff.1 h
      obtain ⟨us, h2, h3⟩ := ares_sound hE hR rest vs' h1
      obtain ⟨u, h4, h5⟩ := aload_sound hR (hE.rel c) hv
      refine ⟨u :: us, ?_, LRel.cons h5 h3⟩
      have h6 : (resSem a.tmps (.cell c t)).run P w = .ok u w := cell_run h4
      rw [List.mapM_cons, Sem.run_bind, h6, Result.andThen_ok, Sem.run_bind, h2]
      rfl
    · cases h

theorem packA_rel {m : LM} {vs us : List Value} (h : LRel m vs us) : VRel m (packA vs) (if h : us.toArray.size = 1 then us.toArray[0] else .tuple us.toArray) := by
  cases vs with
  | nil =>
    have : us = [] := List.eq_nil_of_length_eq_zero (by have := h.1; simpa using this.symm)
    subst this
    exact .tuple _ _ rfl (fun i v u a b => by simp at a)
  | cons v vs =>
    cases us with
    | nil => have := h.1; simp at this
    | cons u us =>
      cases vs with
      | nil =>
        have : us = [] := List.eq_nil_of_length_eq_zero (by have := h.1; simpa using this.symm)
        subst this
        exact h.2 0 v u (by simp) (by simp)
      | cons v2 vs =>
        have hl := h.1
        rw [dif_neg (by simp only [List.length_cons, List.size_toArray] at hl ⊢; omega)]
        exact .tuple _ _ (by simpa using hl) (fun i x y a b => h.2 i x y (by simpa using a) (by simpa using b))

theorem aCall_ok {P : Program} (hm : P.follows .mixedOrders = true) (loops : Nat) : ∀ k, CallsOk P (aCall P loops k)
  | 0 => fun f args M v M' h => by simp [aCall] at h
  | k + 1 => by
    have ih := aCall_ok hm loops k
    intro f args M v M' h N0 w0 m w args' hR hA
    simp only [aCall] at h
    split at h
    · rename_i fn hf
      split at h
      · rename_i c hb
        have fin : ∀ e r' M1, (e = Ex.normal ∨ e = Ex.ret) → aRun P (aCall P loops k) loops c (enterA args fn.ntmps) M = some (e, r', M1) →
            (match ares P r' M1 fn.results.toList with | some vs => some (packA vs, M1) | none => none) = some (v, M') →
            Calls P f args' w fun e w' => ∃ u m', e = .returned u ∧ m.le m' ∧ VRel m' v u ∧ Rl N0 w0 m' M' w' := by
          intro e r' M1 he hrun h
          split at h
          · rename_i vs hvs
            simp only [Option.some.injEq, Prod.mk.injEq] at h
            obtain ⟨rfl, rfl⟩ := h
            refine calls_of_wp hf hb (((aRun_ok hm ih loops).1 c _ M e r' M1 hrun) N0 w0 m w _ _ (enterA_rel hR.glob hA fn.ntmps) hR fun m1 a1 w1 j1 j2 j3 => ?_)
            obtain ⟨us, h1, h2⟩ := ares_sound j2 j3 _ vs hvs
            have hres : (results fn a1.tmps).run P w1 = .ok (if h : us.toArray.size = 1 then us.toArray[0] else .tuple us.toArray) w1 := by
              rw [results_eq, Sem.run_bind, Array.mapM_eq_mapM_toList, Sem.run_map, h1]
              rfl
            rcases he with rfl | rfl
            · exact ⟨j2.defers, _, hres, _, m1, rfl, j1, packA_rel h2, j3⟩
            · exact ⟨j2.defers, _, hres, _, m1, rfl, j1, packA_rel h2, j3⟩
          · cases h
        split at h
        · rename_i r' M1 hrun; exact fin _ r' M1 (.inl rfl) hrun h
        · rename_i r' M1 hrun; exact fin _ r' M1 (.inr rfl) hrun h
        · cases h
      · cases h
    · cases h

end Go.Ab
