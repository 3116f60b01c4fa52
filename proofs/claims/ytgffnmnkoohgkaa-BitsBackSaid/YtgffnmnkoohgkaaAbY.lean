/- Memory in one form: a base, and a row of new blocks; growth; branches. -/
import Derived.Test.YtgffnmnkoohgkaaAbX
import Derived.Test.YtgffnmnkoohgkaaAbB
set_option linter.unusedSimpArgs false
set_option linter.unusedVariables false
namespace Go.Ab

/-! ### Tries: the order of settings does not matter -/
theorem Tr.setP_setP {α : Type} (o o' : Option α) : ∀ (p : List Bool) (t : Tr α), Tr.setP o p (Tr.setP o' p t) = Tr.setP o p t
  | [], t => rfl
  | b :: p, t => by cases b <;> simp [Tr.setP, Tr.val, Tr.lt, Tr.rt, Tr.setP_setP o o' p]

theorem Tr.setP_comm {α : Type} (o o' : Option α) : ∀ (p q : List Bool) (t : Tr α), p ≠ q → Tr.setP o p (Tr.setP o' q t) = Tr.setP o' q (Tr.setP o p t)
  | [], [], _, h => absurd rfl h
  | [], c :: q, t, _ => by cases c <;> simp [Tr.setP, Tr.val, Tr.lt, Tr.rt]
  | b :: p, [], t, _ => by cases b <;> simp [Tr.setP, Tr.val, Tr.lt, Tr.rt]
  | b :: p, c :: q, t, h => by
    cases b <;> cases c <;> simp [Tr.setP, Tr.val, Tr.lt, Tr.rt]
    · exact Tr.setP_comm o o' p q _ (fun e => h (by rw [e]))
    · exact Tr.setP_comm o o' p q _ (fun e => h (by rw [e]))

theorem Tr.set_set {α : Type} (t : Tr α) (n : Nat) (a b : Option α) : (t.set n a).set n b = t.set n b := Tr.setP_setP _ _ _ _
theorem Tr.set_comm {α : Type} (t : Tr α) {n m : Nat} (h : n ≠ m) (a b : Option α) : (t.set n a).set m b = (t.set m b).set n a :=
  Tr.setP_comm _ _ _ _ _ (fun e => h (path_inj e).symm)

/-! ### A base and a row of new blocks -/
/-- none: passed by; some none: let go; some (some o): an object. -/
abbrev Slot := Option (Option AObj)
abbrev ob (o : AObj) : Slot := some (some o)
abbrev gone : Slot := some none

def layT : Tr AObj → Nat → List Slot → Tr AObj
  | t, _, [] => t
  | t, n, none :: l => layT t (n + 1) l
  | t, n, some x :: l => layT (t.set n x) (n + 1) l

/-- What is written over in the base. -/
def baseT (t : Tr AObj) (b : List (Nat × Option AObj)) : Tr AObj := b.foldr (fun p t => t.set p.1 p.2) t
def upd : List (Nat × Option AObj) → Nat → Option AObj → List (Nat × Option AObj)
  | [], A, x => [(A, x)]
  | (B, y) :: b, A, x => if A = B then (A, x) :: b else (B, y) :: upd b A x
def look (M : Mem) : List (Nat × Option AObj) → Nat → Option AObj
  | [], A => M.get A
  | (B, y) :: b, A => if A = B then y else look M b A

def X (M : Mem) (b : List (Nat × Option AObj)) (l : List Slot) : Mem := ⟨M.next + l.length, layT (baseT M.tbl b) M.next l⟩

/-- The i-th new name behind a base. -/
def loc (M : Mem) (i : Nat) : Nat := M.next + i
def off (a b : Nat) : Nat := a + b
theorem off_loc {M : Mem} {i j : Nat} : off (loc M i) j = loc M (i + j) := by unfold off loc; omega
theorem X_nil (M : Mem) : X M [] [] = M := rfl
theorem X_next (M : Mem) (b : List (Nat × Option AObj)) (l : List Slot) : (X M b l).next = loc M l.length := rfl
theorem baseT_upd (t : Tr AObj) (A : Nat) (x : Option AObj) : ∀ b : List (Nat × Option AObj), baseT t (upd b A x) = (baseT t b).set A x
  | [] => rfl
  | (B, y) :: b => by
    simp only [upd]
    by_cases h : A = B
    · subst h
      rw [if_pos rfl]
      simp only [baseT, List.foldr_cons, Tr.set_set]
    · rw [if_neg h]
      have ih := baseT_upd t A x b
      simp only [baseT, List.foldr_cons] at ih ⊢
      rw [ih, Tr.set_comm _ h]
theorem baseT_get (M : Mem) (A : Nat) : ∀ b : List (Nat × Option AObj), (baseT M.tbl b).get A = look M b A
  | [] => rfl
  | (B, y) :: b => by
    simp only [baseT, List.foldr_cons, Tr.get_set, look]
    by_cases h : A = B
    · rw [if_pos h, if_pos h]
    · rw [if_neg h, if_neg h]; exact baseT_get M A b

theorem layT_append : ∀ (l k : List Slot) (t : Tr AObj) (n : Nat), layT t n (l ++ k) = layT (layT t n l) (n + l.length) k
  | [], k, t, n => rfl
  | none :: l, k, t, n => by simp only [List.cons_append, layT, List.length_cons]; rw [layT_append l k, show n + 1 + l.length = n + (l.length + 1) by omega]
  | some x :: l, k, t, n => by simp only [List.cons_append, layT, List.length_cons]; rw [layT_append l k, show n + 1 + l.length = n + (l.length + 1) by omega]

theorem X_new (M : Mem) (b : List (Nat × Option AObj)) (l : List Slot) (o : AObj) : (X M b l).new o = X M b (l ++ [ob o]) := by
  unfold X Mem.new
  rw [layT_append]
  simp only [List.length_append, List.length_cons, List.length_nil, layT]
  rfl

theorem X_skip (M : Mem) (b : List (Nat × Option AObj)) (l : List Slot) (k : Nat) : (⟨(X M b l).next + k, (X M b l).tbl⟩ : Mem) = X M b (l ++ List.replicate k none) := by
  have h : ∀ (k : Nat) (t : Tr AObj) (n : Nat), layT t n (List.replicate k none) = t := by
    intro k
    induction k with
    | zero => intros; rfl
    | succ k ih => intro t n; simp only [List.replicate_succ, layT]; exact ih _ _
  unfold X
  rw [layT_append, h]
  simp only [List.length_append, List.length_replicate, Nat.add_assoc]

theorem layT_set_lt : ∀ (l : List Slot) (t : Tr AObj) (n A : Nat) (x : Option AObj), A < n → (layT t n l).set A x = layT (t.set A x) n l
  | [], t, n, A, x, h => rfl
  | none :: l, t, n, A, x, h => by simp only [layT]; exact layT_set_lt l t (n + 1) A x (by omega)
  | some y :: l, t, n, A, x, h => by
    simp only [layT]
    rw [layT_set_lt l _ (n + 1) A x (by omega), Tr.set_comm _ (by omega)]

theorem layT_set_loc : ∀ (l : List Slot) (t : Tr AObj) (n i : Nat) (x : Option AObj), i < l.length → (layT t n l).set (n + i) x = layT t n (l.set i (some x))
  | [], t, n, i, x, h => by simp at h
  | none :: l, t, n, 0, x, h => by
    simp only [layT, List.set_cons_zero, Nat.add_zero]
    exact layT_set_lt l t (n + 1) n x (by omega)
  | some y :: l, t, n, 0, x, h => by
    simp only [layT, List.set_cons_zero, Nat.add_zero]
    rw [layT_set_lt l _ (n + 1) n x (by omega), Tr.set_set]
  | none :: l, t, n, i + 1, x, h => by
    simp only [layT, List.set_cons_succ]
    rw [show n + (i + 1) = n + 1 + i by omega]
    exact layT_set_loc l t (n + 1) i x (by simpa using h)
  | some y :: l, t, n, i + 1, x, h => by
    simp only [layT, List.set_cons_succ]
    rw [show n + (i + 1) = n + 1 + i by omega]
    exact layT_set_loc l _ (n + 1) i x (by simpa using h)

theorem layT_get_lt : ∀ (l : List Slot) (t : Tr AObj) (n A : Nat), A < n → (layT t n l).get A = t.get A
  | [], t, n, A, h => rfl
  | none :: l, t, n, A, h => by simp only [layT]; exact layT_get_lt l t (n + 1) A (by omega)
  | some y :: l, t, n, A, h => by
    simp only [layT]
    rw [layT_get_lt l _ (n + 1) A (by omega), Tr.get_set, if_neg (by omega)]

theorem layT_get_loc : ∀ (l : List Slot) (t : Tr AObj) (n i : Nat) (x : Option AObj), l[i]? = some (some x) → (layT t n l).get (n + i) = x
  | [], t, n, i, x, h => by simp at h
  | s :: l, t, n, 0, x, h => by
    simp only [List.getElem?_cons_zero, Option.some.injEq] at h
    subst h
    simp only [layT, Nat.add_zero]
    rw [layT_get_lt l _ (n + 1) n (by omega), Tr.get_set, if_pos rfl]
  | none :: l, t, n, i + 1, x, h => by
    simp only [layT]
    rw [show n + (i + 1) = n + 1 + i by omega]
    exact layT_get_loc l t (n + 1) i x (by simpa using h)
  | some y :: l, t, n, i + 1, x, h => by
    simp only [layT]
    rw [show n + (i + 1) = n + 1 + i by omega]
    exact layT_get_loc l _ (n + 1) i x (by simpa using h)

/-- The object in a slot. -/
def Slot.obj : Option Slot → Option AObj
  | some (some x) => x
  | _ => none
def laid : Option Slot → Bool
  | some (some _) => true
  | _ => false
section
variable {M : Mem} {b : List (Nat × Option AObj)} {l : List Slot} {A i : Nat} {o : AObj}
theorem X_get_base (h : A < M.next) : (X M b l).get A = look M b A := (layT_get_lt l _ _ A h).trans (baseT_get M A b)
theorem X_get_loc (h : laid l[i]? = true) : (X M b l).get (loc M i) = Slot.obj l[i]? := by
  unfold laid at h
  split at h
  · rename_i x hx
    rw [hx]
    exact layT_get_loc l _ _ i x hx
  · cases h
theorem X_set_base (h : A < M.next) : (X M b l).set A o = X M (upd b A (some o)) l := by
  unfold X Mem.set
  simp only [layT_set_lt _ _ _ _ _ h, baseT_upd]
theorem X_set_loc (h : i < l.length) : (X M b l).set (loc M i) o = X M b (l.set i (ob o)) := by
  unfold X Mem.set loc
  simp only [layT_set_loc _ _ _ _ _ h, List.length_set]
theorem X_del_base (h : A < M.next) : (X M b l).del A = X M (upd b A none) l := by
  unfold X Mem.del
  simp only [layT_set_lt _ _ _ _ _ h, baseT_upd]
theorem X_del_loc (h : i < l.length) : (X M b l).del (loc M i) = X M b (l.set i gone) := by
  unfold X Mem.del loc
  simp only [layT_set_loc _ _ _ _ _ h, List.length_set]
end
theorem set_next (M : Mem) (A : Nat) (o : AObj) : (M.set A o).next = M.next := rfl
theorem del_next (M : Mem) (A : Nat) : (M.del A).next = M.next := rfl
theorem set_get_self (M : Mem) (A : Nat) (o : AObj) : (M.set A o).get A = some o := by rw [Mem.get_set, if_pos rfl]
theorem set_get_ne {M : Mem} {A B : Nat} {o : AObj} (h : B ≠ A) : (M.set A o).get B = M.get B := by rw [Mem.get_set, if_neg h]
theorem del_get_ne {M : Mem} {A B : Nat} (h : B ≠ A) : (M.del A).get B = M.get B := by rw [Mem.get_del, if_neg h]
theorem set_set_self (M : Mem) (A : Nat) (o o' : AObj) : (M.set A o).set A o' = M.set A o' := by
  unfold Mem.set; simp only [Tr.set_set]

/-! ### Growth -/
/-- What was there is as it was. -/
structure Grow (M M' : Mem) : Prop where
  nx : M.next ≤ M'.next
  same : ∀ A, A < M.next → M'.get A = M.get A
theorem Grow.refl (M : Mem) : Grow M M := ⟨Nat.le_refl _, fun _ _ => rfl⟩
theorem Grow.trans {a b c : Mem} (h : Grow a b) (k : Grow b c) : Grow a c := ⟨Nat.le_trans h.nx k.nx, fun A hA => (k.same A (Nat.lt_of_lt_of_le hA h.nx)).trans (h.same A hA)⟩
theorem Grow.X (M : Mem) (l : List Slot) : Grow M (X M [] l) := ⟨Nat.le_add_right _ _, fun _ h => X_get_base h⟩
theorem Grow.get {M M' : Mem} (h : Grow M M') {A : Nat} {o : AObj} (hl : A < M.next) (hA : M.get A = some o) : M'.get A = some o := (h.same A hl).trans hA
theorem Grow.lt {M M' : Mem} (h : Grow M M') {A : Nat} (hl : A < M.next) : A < M'.next := Nat.lt_of_lt_of_le hl h.nx
/-- .. but for one block. -/
structure GrowB (b : Nat) (M M' : Mem) : Prop where
  nx : M.next ≤ M'.next
  same : ∀ A, A < M.next → A ≠ b → M'.get A = M.get A
theorem GrowB.refl (b : Nat) (M : Mem) : GrowB b M M := ⟨Nat.le_refl _, fun _ _ _ => rfl⟩
theorem GrowB.trans {b : Nat} {M M1 M2 : Mem} (h : GrowB b M M1) (k : GrowB b M1 M2) : GrowB b M M2 := ⟨Nat.le_trans h.nx k.nx, fun A hA hb => (k.same A (Nat.lt_of_lt_of_le hA h.nx) hb).trans (h.same A hA hb)⟩
theorem Grow.but {M M' : Mem} (h : Grow M M') (b : Nat) : GrowB b M M' := ⟨h.nx, fun A hA _ => h.same A hA⟩
theorem GrowB.get {b : Nat} {M M' : Mem} (h : GrowB b M M') {A : Nat} {o : AObj} (hb : A ≠ b) (hl : A < M.next) (hA : M.get A = some o) : M'.get A = some o := (h.same A hl hb).trans hA
theorem GrowB.lt {b : Nat} {M M' : Mem} (h : GrowB b M M') {A : Nat} (hl : A < M.next) : A < M'.next := Nat.lt_of_lt_of_le hl h.nx
/-- Only a block that is new to M0 is not kept. -/
theorem Grow.of_but {b : Nat} {M0 M M' : Mem} (h : Grow M0 M) (k : GrowB b M M') (hb : M0.next ≤ b) : Grow M0 M' :=
  ⟨Nat.le_trans h.nx k.nx, fun A hA => (k.same A (Nat.lt_of_lt_of_le hA h.nx) (by omega)).trans (h.same A hA)⟩
theorem GrowB.set {M : Mem} (A : Nat) (o : AObj) : GrowB A M (M.set A o) := ⟨Nat.le_refl _, fun _ _ h => set_get_ne h⟩
theorem GrowB.del {M : Mem} (A : Nat) : GrowB A M (M.del A) := ⟨Nat.le_refl _, fun _ _ h => del_get_ne h⟩

section
variable {P : Program} {r : Env} {M : Mem} {K : Ex → Env → Mem → Prop} {Kv : Value → Mem → Prop}

/-! ### Branches -/
def IfK (v : Value) (A B : Prop) : Prop := ∃ b, v = .bool b ∧ (b = true → A) ∧ (b = false → B)
theorem IfK_bool {b : Bool} {A B : Prop} : IfK (.bool b) A B = ((b = true → A) ∧ (b = false → B)) := by
  simp [IfK]
theorem IfK_true {A B : Prop} : IfK (.bool true) A B = A := by simp [IfK]
theorem IfK_false {A B : Prop} : IfK (.bool false) A B = B := by simp [IfK]
theorem W.pIf {c : Code} {x : Operand} (hc : condOf c = some x) (hk : okOperand x = true) (h : IfK (r.eval x) (W P (L c) r M K) (W P (R c) r M K)) : W P c r M K := by
  obtain ⟨b, hb, h1, h2⟩ := h
  exact W.pCond hc b hk hb h1 h2

/-- A call whose contract is known; memory in its form. -/
theorem CallW.use {f : FuncId} {args : List Value} {J : Value → Mem → Prop} (h : CallW P f args M J) (k : ∀ v M', J v M' → Kv v (X M' [] [])) : CallW P f args M Kv := h.mono k
/-- A call that leaves memory as it is. -/
theorem CallW.keep {f : FuncId} {args : List Value} {J : Value → Prop} (h : CallW P f args M (fun v M' => M' = M ∧ J v)) (k : ∀ v, J v → Kv v M) : CallW P f args M Kv :=
  h.mono fun v M' ⟨e, j⟩ => by subst e; exact k v j
theorem CallW.val {f : FuncId} {args : List Value} {u : Value} (h : CallW P f args M (fun v M' => M' = M ∧ v = u)) (k : Kv u M) : CallW P f args M Kv :=
  h.keep fun v e => by subst e; exact k
theorem CallW.same {f : FuncId} {args : List Value} {v : Value} (h : CallOk P f args M v M) (k : Kv v M) : CallW P f args M Kv := ⟨v, M, h, k⟩
theorem CallW.into {f : FuncId} {fn : Func} {args : List Value} {n : Nat} {rs : List ResultVar} (hf : P.funcs[f]? = some fn) (hb : fn.body.isSome = true) (hn : fn.ntmps = n) (hr : fn.results.toList = rs)
    (h : W P (bodyOf fn) (enterA args n) (X M [] []) (resK P rs Kv)) : CallW P f args M Kv := CallW.ofBody hf hb hn hr h

theorem W.pLoopX {c : Code} (hc : isLoop c = true) (I : Nat → Env → Mem → Prop) (n : Nat) (h0 : I n r M) (hs : ∀ n r M, I n r M → W P (L c) r (X M [] []) (loopK I n K)) : W P c r M K := W.pLoop hc I n h0 hs
theorem pack2 {v u : Value} : packA [v, u] = .tuple #[v, u] := rfl
theorem pack3 {v u x : Value} : packA [v, u, x] = .tuple #[v, u, x] := rfl
theorem pack0 : packA [] = .tuple #[] := rfl
theorem rCell {a t : Nat} {rs : List ResultVar} : ares P r M (.cell a t :: rs) = (aload P t M (r.get a)).bind fun v => (ares P r M rs).map fun vs => v :: vs := by
  conv => lhs; unfold ares
  cases aload P t M (r.get a) <;> rfl

/-! ### A loop, turn by turn -/
def UL (P : Program) (c : Code) : Nat → Env → Mem → (Ex → Env → Mem → Prop) → Prop
  | 0, _, _, _ => False
  | n + 1, r, M, K => W P (L c) r M fun e r' M' => match e with
    | .normal => UL P c n r' M' K
    | e => K e r' M'
def uK (P : Program) (c : Code) (n : Nat) (K : Ex → Env → Mem → Prop) : Ex → Env → Mem → Prop
  | .normal, r, M => UL P c n r M K
  | e, r, M => K e r M
theorem UL_succ {c : Code} {n : Nat} : UL P c (n + 1) r M K = W P (L c) r M (uK P c n K) := by
  unfold UL
  congr 1
  funext e r' M'
  cases e <;> rfl
theorem uK_normal {c : Code} {n : Nat} : uK P c n K .normal r M = UL P c n r M K := rfl
theorem uK_exit {c : Code} {n i : Nat} : uK P c n K (.exit i) r M = K (.exit i) r M := rfl
theorem uK_ret {c : Code} {n : Nat} : uK P c n K .ret r M = K .ret r M := rfl
theorem UL.ok {c x : Code} (hx : c = .loop x) : ∀ (n : Nat) (r : Env) (M : Mem), UL P c n r M K → ∃ e r' M', LoopOk P x r M e r' M' ∧ K e r' M'
  | 0, _, _, h => h.elim
  | n + 1, r, M, h => by
    subst hx
    obtain ⟨e, r1, M1, h1, h2⟩ := h
    cases e with
    | normal =>
      obtain ⟨e', r2, M2, h3, h4⟩ := UL.ok rfl n r1 M1 h2
      exact ⟨e', r2, M2, LoopOk.next h1 h3, h4⟩
    | exit i => exact ⟨_, r1, M1, LoopOk.stop (by simp) h1, h2⟩
    | ret => exact ⟨_, r1, M1, LoopOk.stop (by simp) h1, h2⟩
/-- A loop of so many turns at most. -/
theorem W.pUnroll {c : Code} (hc : isLoop c = true) (n : Nat) (h : UL P c n r M K) : W P c r M K := by
  unfold isLoop at hc
  split at hc
  · rename_i x
    obtain ⟨e, r', M', h1, h2⟩ := UL.ok rfl n r M h
    exact ⟨e, r', M', h1.code, h2⟩
  · cases hc

theorem OpsW.cut {ops : Array Oper} {l : List Oper} {K J : Env → Mem → Prop} (h : OpsW P ops l r M J) (k : ∀ r' M', J r' M' → K r' M') : OpsW P ops l r M K := by
  induction l generalizing r M with
  | nil => exact k _ _ h
  | cons o l ih =>
    unfold OpsW at h ⊢
    rcases h with ⟨h1, h2⟩ | ⟨h1, h2⟩
    · refine .inl ⟨h1, ?_⟩
      unfold OpW at h2 ⊢
      split at h2
      · exact ih h2
      · exact h2.mono fun v M' h3 => ih h3
      · exact h2.elim
    · exact .inr ⟨h1, ih h2⟩
end
end Go.Ab
