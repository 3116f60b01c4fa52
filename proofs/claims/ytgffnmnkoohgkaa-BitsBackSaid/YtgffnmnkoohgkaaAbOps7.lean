/- The abstract machine's operations, seventh part: one operation, whichever it is. -/
import Derived.Test.YtgffnmnkoohgkaaAbFast
set_option linter.unusedSimpArgs false
set_option linter.unusedVariables false
namespace Go.Ab
open Go.RowKit (Below)
section
variable {P : Program} {N0 : Nat → Prop} {w0 : World} {m : LM} {M : Mem} {w : World} {r : Env} {a : Act}

/-! ### Operations on values without addresses: the model's own -/
def isSelect : Op → Bool
  | .select _ _ => true
  | _ => false

def aflat (P : Program) (r : Env) (o : Oper) : Option Value :=
  gd (o.op.operands.toList.all (fun x => flat 4 (r.eval x)) && !isSelect o.op) <|
  match pureRun P (execOp r.eval o) with
  | some (.value v) => gd (flat 4 v) (some v)
  | _ => none

theorem aflat_sound (hE : ERel m r a) {o : Oper} (hk : okOp o = true) {v : Value} (h : aflat P r o = some v) (w : World) :
    (execOp a.eval o).run P w = .ok (.value v) w ∧ flat 4 v = true := by
  unfold aflat at h
  replace h := gd_some h; obtain ⟨hg, h⟩ := h
  simp only [Bool.and_eq_true] at hg
  split at h
  · rename_i v' hv
    replace h := gd_some h; obtain ⟨hf, h⟩ := h
    obtain rfl := Option.some.inj h
    have hcong : execOp r.eval o = execOp a.eval o := by
      refine execOp_congr o (fun cs b e => ?_) (fun x hx => ?_)
      · have := hg.2; rw [e] at this; simp [isSelect] at this
      · have hx' : x ∈ o.op.operands.toList := Array.mem_toList_iff.2 hx
        have hfl := List.all_eq_true.1 hg.1 x hx'
        have hok := List.all_eq_true.1 hk x hx'
        exact ((hE.eval hok).flat_eq 4 hfl).symm
    rw [← hcong]
    exact ⟨pureRun_run hv w, hf⟩
  · cases h

/-! ### Calls -/
def callable (P : Program) (f : FuncId) : Bool :=
  match P.funcs[f]? with
  | some fn => fn.body.isSome && !(fn.name == "runtime.NumGoroutine")
  | none => false

theorem callFunc_run {f : FuncId} (h : callable P f = true) (args : Array Value) (w : World) : (callFunc f args).run P w = .ok (.enter f args) w := by
  unfold callable at h
  split at h
  · rename_i fn hf
    simp only [Bool.and_eq_true, Bool.not_eq_true'] at h
    obtain ⟨c, hb⟩ := Option.isSome_iff_exists.1 h.1
    have hne : ¬ fn.name = "runtime.NumGoroutine" := by simpa using h.2
    simp [callFunc, hf, hne, hb]
  · cases h

theorem LRel.map {xs : List Operand} (hE : ERel m r a) (hk : xs.all okOperand = true) : LRel m (xs.map r.eval) (xs.map a.eval) := by
  refine ⟨by simp, fun i v u h1 h2 => ?_⟩
  rw [List.getElem?_map] at h1 h2
  cases hx : xs[i]? with
  | none => rw [hx] at h1; cases h1
  | some x =>
    rw [hx] at h1 h2
    simp only [Option.map_some, Option.some.injEq] at h1 h2
    subst h1; subst h2
    exact hE.eval (List.all_eq_true.1 hk x (List.mem_of_getElem? hx))

def acall (P : Program) (f : Value) (args : List Value) : Option Out :=
  match f with
  | .func (.func g) first captured => gd (callable P g) (some (.call g (first.toList ++ args ++ captured.toList)))
  | _ => none

theorem acall_sound {f f' : Value} {args : List Value} {args' : Array Value} {out : Out} (hf : VRel m f f') (ha : LRel m args args'.toList) (h : acall P f args = some out) :
    Fits P N0 w0 m w (do let d ← Deferred.ofValue f' args'; invoke d.target d.args) out := by
  unfold acall at h
  split at h
  · rename_i g first captured
    replace h := gd_some h; obtain ⟨hc, h⟩ := h
    obtain rfl := Option.some.inj h
    cases hf with
    | func _ _ _ f1 _ c1 h1 h2 h3 h4 =>
      refine ⟨f1 ++ args' ++ c1, ?_, ?_⟩
      · simp [Deferred.ofValue, invoke, callFunc_run hc]
      · simp only [Array.toList_append]
        have l1 : LRel m first.toList f1.toList := ⟨by simpa using h1, fun i v u x y => h3 i v u (by simpa using x) (by simpa using y)⟩
        have l2 : LRel m captured.toList c1.toList := ⟨by simpa using h2, fun i v u x y => h4 i v u (by simpa using x) (by simpa using y)⟩
        exact (l1.append ha).append l2
  · cases h

/-! ### One operation -/
def oval (x : Option Value) (M : Mem) : Option Out :=
  match x with
  | some v => some (.val v M)
  | none => none
def omem (x : Option (Value × Mem)) : Option Out :=
  match x with
  | some (v, M) => some (.val v M)
  | none => none

def alen : Value → Option Value
  | .slice _ n _ => some (goInt n)
  | _ => none

def anil : Value → Option Value
  | .pointer (some a) => some (.pointer (some a))
  | .func (.func f) x y => some (.func (.func f) x y)
  | _ => none

def apick (c x y : Value) : Option Value :=
  match c with
  | .bool true => some x
  | .bool false => some y
  | _ => none

def azero (P : Program) (t : TypeId) : Option Value :=
  match P.info? t with
  | some i =>
    match i.zero with
    | some z => gd (flat 4 z) (some z)
    | none => none
  | none => none

def intOr : Option Value → Bool
  | none => true
  | some (.int _ _) => true
  | _ => false

def aiface (P : Program) (t : TypeId) (x : Value) : Option Value :=
  match P.underlying t with
  | some (.interface _) | none => none
  | _ => some (.iface t x)

/-- The least, or the greatest, of some numbers. -/
def abest (f : Int → Int → Int) : List Value → Option Value
  | [.int k x] => some (.int k x)
  | [.int k x, .int _ y] => some (.int k (f x y))
  | _ => none

def abuiltin (P : Program) (r : Env) (o : Oper) (b : Builtin) (xs : List Operand) (ts : List TypeId) (M : Mem) : Option Out :=
  match b, xs, ts with
  | .append, [s, x], [t, tx] => omem (aappend P t tx M (r.eval s) (r.eval x))
  | .copy, [d, x], [t, _] => omem (acopy P t M (r.eval d) (r.eval x))
  | .len, [x], [t] =>
    match P.underlying t, r.eval x with
    | some (.slice _), .slice _ n _ => some (.val (goInt n) M)
    | some .string, .string s => some (.val (goInt s.size) M)
    | _, _ => none
  | .min, xs, _ => oval (abest (fun x y => if y < x then y else x) (xs.map r.eval)) M
  | .max, xs, _ => oval (abest (fun x y => if y > x then y else x) (xs.map r.eval)) M
  | _, _, _ => oval (aflat P r o) M

def aop (P : Program) (r : Env) (o : Oper) (M : Mem) : Option Out :=
  match o.op with
  | .move x | .assign x => some (.val (r.eval x) M)
  | .pick c x y => oval (apick (r.eval c) (r.eval x) (r.eval y)) M
  | .load t x => oval (aload P t M (r.eval x)) M
  | .store t x y =>
    match astore P t M (r.eval x) (r.eval y) with
    | some M' => some (.val undef M')
    | none => none
  | .box t x => omem (abox P t M (r.eval x))
  | .alloc t =>
    match azero P t with
    | some z => omem (abox P t M z)
    | none => none
  | .nilCheck x => oval (anil (r.eval x)) M
  | .fieldAddr t x f => oval (afield P t f (r.eval x)) M
  | .indexAddr t x i => oval (aindex P t (r.eval x) (r.eval i)) M
  | .field t x f => oval (afieldOf P t f (r.eval x)) M
  | .index t x i =>
    match r.eval x with
    | .agg _ => oval (aindexOf P t (r.eval x) (r.eval i)) M
    | _ => oval (aflat P r o) M
  | .extract x k => oval (aextract k (r.eval x)) M
  | .build t ps => oval (abuild P t (ps.toList.map fun (i, x) => (i, r.eval x))) M
  | .buildSlice t n ps => omem (abuildSlice P t n (ps.toList.map fun (i, x) => (i, r.eval x)) M)
  | .makeInterface t x => oval (aiface P t (r.eval x)) M
  | .makeFunc fn f c => gd (Fn.plain fn) (some (.val (.func fn (f.toList.map r.eval).toArray (c.toList.map r.eval).toArray) M))
  | .slice t x lo hi mx =>
    match r.eval x with
    | .slice _ _ _ => gd (intOr (lo.map r.eval) && intOr (hi.map r.eval) && intOr (mx.map r.eval)) (oval (aslice P t M (r.eval x) (lo.map r.eval) (hi.map r.eval) (mx.map r.eval)) M)
    | _ => oval (aflat P r o) M
  | .convert s d x =>
    match aconvInt P s d (r.eval x) with
    | some v => some (.val v M)
    | none =>
      match aflat P r o with
      | some v => some (.val v M)
      | none => omem (aconvert P s d M (r.eval x))
  | .binOp op t x y _ =>
    match abin op (r.eval x) (r.eval y) with
    | some v => some (.val v M)
    | none =>
      match aflat P r o with
      | some v => some (.val v M)
      | none => oval (aeq P op t (r.eval x) (r.eval y)) M
  | .unOp op _ x => oval (aun op (r.eval x)) M
  | .call c =>
    match c.callee with
    | .value f => acall P (r.eval f) (c.args.toList.map r.eval)
    | .builtin b => abuiltin P r o b c.args.toList c.argTypes.toList M
    | .invoke _ _ => none
  | _ => oval (aflat P r o) M

def aOp (P : Program) (r : Env) (o : Oper) (M : Mem) : Option Out := gd (okOp o) (aop P r o M)

theorem oval_some {x : Option Value} {M : Mem} {out : Out} (h : oval x M = some out) : ∃ v, x = some v ∧ out = .val v M := by
  cases x with
  | none => cases h
  | some v => exact ⟨v, rfl, (Option.some.inj h).symm⟩
theorem omem_some {x : Option (Value × Mem)} {out : Out} (h : omem x = some out) : ∃ v M, x = some (v, M) ∧ out = .val v M := by
  cases x with
  | none => cases h
  | some v => exact ⟨v.1, v.2, rfl, (Option.some.inj h).symm⟩

theorem aflat_fits (hE : ERel m r a) (hR : Rl N0 w0 m M w) {o : Oper} (hk : okOp o = true) {out : Out} (h : oval (aflat P r o) M = some out) : Fits P N0 w0 m w (execOp a.eval o) out := by
  obtain ⟨v, hv, rfl⟩ := oval_some h
  obtain ⟨h1, h2⟩ := aflat_sound hE hk hv w
  exact ⟨.value v, w, v, m, h1, .inl rfl, LM.le_refl m, .of_flat m 4 v h2, hR⟩

theorem idx_rel {v u : Value} {l n : Nat} (h : VRel m v u) (hn : idx l v = some n) : u = v := by
  obtain ⟨k, rfl, _⟩ := idx_some hn
  cases h; rfl

theorem intOr_rel (hE : ERel m r a) {x : Option Operand} (hk : ∀ y, x = some y → okOperand y = true) (h : intOr (x.map r.eval) = true) : x.map a.eval = x.map r.eval := by
  cases x with
  | none => rfl
  | some y =>
    simp only [Option.map_some] at h ⊢
    have hv := hE.eval (hk y rfl)
    congr 1
    generalize a.eval y = u at hv
    generalize r.eval y = v at hv h
    unfold intOr at h
    split at h
    · rename_i e; cases e
    · rename_i e; simp only [Option.some.injEq] at e; subst e; cases hv; rfl
    · cases h

theorem pairs_rel (hE : ERel m r a) {ps : List (Nat × Operand)} (hk : ∀ p ∈ ps, okOperand p.2 = true) :
    (ps.map fun (i, x) => (i, r.eval x)).map (·.1) = (ps.map fun (i, x) => (i, a.eval x)).map (·.1) ∧
    LRel m ((ps.map fun (i, x) => (i, r.eval x)).map (·.2)) ((ps.map fun (i, x) => (i, a.eval x)).map (·.2)) := by
  have e1 : ∀ f : Operand → Value, (ps.map fun (i, x) => (i, f x)).map (·.1) = ps.map (·.1) := fun f => by simp [Function.comp_def]
  have e2 : ∀ f : Operand → Value, (ps.map fun (i, x) => (i, f x)).map (·.2) = (ps.map (·.2)).map f := fun f => by simp [Function.comp_def]
  refine ⟨by rw [e1, e1], ?_⟩
  rw [e2, e2]
  exact LRel.map hE (List.all_eq_true.2 fun x hx => by obtain ⟨p, hp, rfl⟩ := List.mem_map.1 hx; exact hk p hp)

theorem arr_map (f : Operand → Value) (xs : Array Operand) : (xs.toList.map f).toArray = xs.map f := by
  apply Array.ext'; simp

theorem arr_pairs (f : Operand → Value) (ps : Array (Nat × Operand)) : (ps.toList.map fun (i, x) => (i, f x)).toArray = ps.map fun (i, x) => (i, f x) := by
  apply Array.ext'; simp

theorem okOp_mem {o : Oper} (hk : okOp o = true) {x : Operand} (hx : x ∈ o.op.operands) : okOperand x = true := List.all_eq_true.1 hk x (Array.mem_toList_iff.2 hx)

theorem abest_rel {f : Int → Int → Int} {xs : List Value} {v : Value} (h : abest f xs = some v) : VRel m v v := by
  unfold abest at h
  split at h
  · cases h; exact .int _ _
  · cases h; exact .int _ _
  · cases h

theorem abest_eq {f : Int → Int → Int} {xs ys : List Value} {v : Value} (hr : LRel m xs ys) (h : abest f xs = some v) : abest f xs = abest f ys := by
  have : ys = xs := by
    unfold abest at h
    split at h
    · rename_i k x
      cases ys with
      | nil => have := hr.1; simp at this
      | cons y ys =>
        have hl := hr.1
        have hn : ys = [] := List.eq_nil_of_length_eq_zero (by simp only [List.length_cons, List.length_nil] at hl; omega)
        subst hn
        have := hr.2 0 _ y rfl rfl
        cases this; rfl
    · rename_i k x k2 x2
      match ys, hr with
      | [], hr => have := hr.1; simp at this
      | [y], hr => have := hr.1; simp at this
      | [y, z], hr =>
        have h1 := hr.2 0 _ y rfl rfl
        have h2 := hr.2 1 _ z rfl rfl
        cases h1; cases h2; rfl
      | y :: z :: t :: ys, hr => have := hr.1; simp at this
    · cases h
  rw [this]

set_option maxHeartbeats 1000000 in
theorem aOp_sound (hE : ERel m r a) (hR : Rl N0 w0 m M w) {o : Oper} {out : Out} (h : aOp P r o M = some out) : Fits P N0 w0 m w (execOp a.eval o) out := by
  unfold aOp at h
  replace h := gd_some h; obtain ⟨hk, h⟩ := h
  have hmem : ∀ x ∈ o.op.operands, VRel m (r.eval x) (a.eval x) := fun x hx => hE.eval (okOp_mem hk hx)
  have hok : ∀ x ∈ o.op.operands, okOperand x = true := fun x hx => okOp_mem hk hx
  have hfl : ∀ {out : Out}, oval (aflat P r o) M = some out → Fits P N0 w0 m w (execOp a.eval o) out := fun h => aflat_fits hE hR hk h
  unfold aop at h
  obtain ⟨dst, op, type, pos, after, guard⟩ := o
  have val : ∀ {s : Sem Value} {v : Value}, (∃ u, s.run P w = .ok u w ∧ VRel m v u) → Fits P N0 w0 m w (do pure (.value (← s))) (.val v M) :=
    fun ⟨u, h1, h2⟩ => Fits.of_value hR h1 h2
  have mem : ∀ {s : Sem Value} {v : Value} {M' : Mem}, (∃ u w' m', s.run P w = .ok u w' ∧ m.le m' ∧ VRel m' v u ∧ Rl N0 w0 m' M' w') → Fits P N0 w0 m w (do pure (.value (← s))) (.val v M') :=
    fun ⟨u, w', m', h1, h2, h3, h4⟩ => Fits.of_value' h4 h1 h2 h3
  cases op <;> simp only [] at h hmem hok hfl ⊢
  case move x =>
    obtain rfl := Option.some.inj h
    exact Fits.of_value (s := Pure.pure (a.eval x)) hR rfl (hmem x (by simp [Op.operands]))
  case assign x =>
    obtain rfl := Option.some.inj h
    exact Fits.of_value (s := Pure.pure (a.eval x)) hR rfl (hmem x (by simp [Op.operands]))
  case pick c x y =>
    obtain ⟨v, hv, rfl⟩ := oval_some h
    have hc := hmem c (by simp [Op.operands])
    unfold apick at hv
    split at hv
    · rename_i e
      obtain rfl := Option.some.inj hv
      rw [e] at hc
      cases hcc : a.eval c <;> rw [hcc] at hc <;> cases hc
      refine ⟨.value (a.eval x), w, a.eval x, m, ?_, .inl rfl, LM.le_refl m, hmem x (by simp [Op.operands]), hR⟩
      simp [execOp, hcc, asBool]
    · rename_i e
      obtain rfl := Option.some.inj hv
      rw [e] at hc
      cases hcc : a.eval c <;> rw [hcc] at hc <;> cases hc
      refine ⟨.value (a.eval y), w, a.eval y, m, ?_, .inl rfl, LM.le_refl m, hmem y (by simp [Op.operands]), hR⟩
      simp [execOp, hcc, asBool]
    · cases hv
  case alloc t =>
    split at h
    · rename_i z hz
      obtain ⟨v, M', hv, rfl⟩ := omem_some h
      unfold azero at hz
      split at hz
      · rename_i i hi
        split at hz
        · rename_i z' hz'
          replace hz := gd_some hz; obtain ⟨hf, hz⟩ := hz
          obtain rfl := Option.some.inj hz
          obtain ⟨q, w', m', h1, h2, h3, h4⟩ := abox_sound (P := P) hR (.of_flat m 4 z' hf) hv
          refine ⟨.value q, w', q, m', ?_, .inl rfl, h2, h3, h4⟩
          have : (Instr.alloc t true (.tuple #[])).run P w = .ok q w' := by
            have hb : (Instr.box t z').run P w = .ok q w' := h1
            simp [Instr.box] at hb
            simp [Instr.alloc, zeroValue, typeInfo, hi, hz', hb]
          simp [execOp, this]
        · cases hz
      · cases hz
    · cases h
  case box t x =>
    obtain ⟨v, M', hv, rfl⟩ := omem_some h
    exact mem (abox_sound hR (hmem x (by simp [Op.operands])) hv)
  case build t ps =>
    obtain ⟨v, hv, rfl⟩ := oval_some h
    have hp := pairs_rel hE (ps := ps.toList) (fun p hp => hok p.2 (by simp only [Op.operands]; simp; exact ⟨p.1, by simpa using hp⟩))
    have := abuild_sound hp.1 hp.2 hv w
    rw [arr_pairs] at this
    exact val this
  case buildSlice t n ps =>
    obtain ⟨v, M', hv, rfl⟩ := omem_some h
    have hp := pairs_rel hE (ps := ps.toList) (fun p hp => hok p.2 (by simp only [Op.operands]; simp; exact ⟨p.1, by simpa using hp⟩))
    have := abuildSlice_sound hR hp.1 hp.2 hv
    rw [arr_pairs] at this
    exact mem this
  case load t x =>
    obtain ⟨v, hv, rfl⟩ := oval_some h
    exact val (aload_sound hR (hmem x (by simp [Op.operands])) hv)
  case store t x y =>
    split at h
    · rename_i M' hv
      obtain rfl := Option.some.inj h
      obtain ⟨w', h1, h2⟩ := astore_sound hR (hmem x (by simp [Op.operands])) (hmem y (by simp [Op.operands])) hv
      exact ⟨.skip, w', undef, m, by simp [execOp, h1], .inr ⟨rfl, rfl⟩, LM.le_refl m, .undef m, h2⟩
    · cases h
  case nilCheck x =>
    obtain ⟨v, hv, rfl⟩ := oval_some h
    have hx := hmem x (by simp [Op.operands])
    unfold anil at hv
    split at hv
    · rename_i e
      obtain rfl := Option.some.inj hv
      rw [e] at hx
      cases hcc : a.eval x <;> rw [hcc] at hx <;> cases hx
      rename_i A o L hL
      exact ⟨.value _, w, _, m, by simp [execOp, hcc], .inl rfl, LM.le_refl m, .ptr A o L hL, hR⟩
    · rename_i e
      obtain rfl := Option.some.inj hv
      rw [e] at hx
      generalize hcc : a.eval x = u at hx
      have hx2 := hx
      cases hx
      exact ⟨.value _, w, _, m, by simp [execOp, hcc], .inl rfl, LM.le_refl m, hx2, hR⟩
    · cases hv
  case unOp op t x =>
    obtain ⟨v, hv, rfl⟩ := oval_some h
    have hx := hmem x (by simp [Op.operands])
    have he : a.eval x = r.eval x := by
      unfold aun at hv
      split at hv
      · rename_i e; rw [e] at hx; generalize a.eval x = u at hx; cases hx; rw [e]
      · rename_i e; rw [e] at hx; generalize a.eval x = u at hx; cases hx; rw [e]
      · cases hv
    refine val (s := Op.unary op (a.eval x)) ⟨v, by rw [he]; exact aun_sound hv w, ?_⟩
    unfold aun at hv
    split at hv
    · obtain rfl := Option.some.inj hv; exact .bool _
    · obtain rfl := Option.some.inj hv; exact .int _ _
    · cases hv
  case binOp op t x y t2 =>
    split at h
    · rename_i v hv
      obtain rfl := Option.some.inj h
      obtain ⟨k, n, k', n', e1, e2, hr⟩ := abin_rel hv
      have hx := hmem x (by simp [Op.operands])
      have hy := hmem y (by simp [Op.operands])
      rw [e1] at hx
      rw [e2] at hy
      have h1 : a.eval x = r.eval x := by rw [e1]; generalize a.eval x = u at hx; cases hx; rfl
      have h2 : a.eval y = r.eval y := by rw [e2]; generalize a.eval y = u at hy; cases hy; rfl
      refine val (s := (do eqGuard op t x y (a.eval x) (a.eval y); binOp op t (a.eval x) (a.eval y))) ⟨v, by rw [h1, h2]; exact abin_sound hv w, ?_⟩
      rcases hr with ⟨j, c, rfl⟩ | ⟨c, rfl⟩
      · exact .int _ _
      · exact .bool _
    split at h
    · rename_i v hv
      exact hfl (by rw [hv]; exact h)
    · obtain ⟨v, hv, rfl⟩ := oval_some h
      have := aeq_sound (ox := x) (oy := y) (hmem x (by simp [Op.operands])) (hmem y (by simp [Op.operands])) hv w
      refine val (s := (do eqGuard op t x y (a.eval x) (a.eval y); binOp op t (a.eval x) (a.eval y))) ⟨v, this, ?_⟩
      unfold aeq at hv
      split at hv
      · obtain ⟨b, _, rfl⟩ := Option.map_eq_some_iff.1 hv; exact .bool _
      · obtain ⟨b, _, rfl⟩ := Option.map_eq_some_iff.1 hv; exact .bool _
      · cases hv
  case convert s d x =>
    split at h
    · rename_i v hv
      obtain rfl := Option.some.inj h
      have hx := hmem x (by simp [Op.operands])
      have he : a.eval x = r.eval x := by
        unfold aconvInt at hv
        split at hv
        · rename_i e; rw [e] at hx; generalize a.eval x = u at hx; cases hx; rw [e]
        · cases hv
      refine val (s := convert s d (a.eval x)) ⟨v, by rw [he]; exact aconvInt_sound hv w, ?_⟩
      unfold aconvInt at hv
      split at hv
      · split at hv
        · obtain rfl := Option.some.inj hv; exact .int _ _
        · cases hv
      · cases hv
    split at h
    · rename_i v hv
      exact hfl (by rw [hv]; exact h)
    · obtain ⟨v, M', hv, rfl⟩ := omem_some h
      exact mem (aconvert_sound hR (hmem x (by simp [Op.operands])) hv)
  case makeInterface t x =>
    obtain ⟨v, hv, rfl⟩ := oval_some h
    have hx := hmem x (by simp [Op.operands])
    unfold aiface at hv
    split at hv
    · cases hv
    · cases hv
    · rename_i hn1 hn2
      obtain rfl := Option.some.inj hv
      refine val ⟨.iface t (a.eval x), ?_, .iface _ _ _ hx⟩
      cases hu : P.underlying t with
      | none => exact absurd hu hn2
      | some d => cases d <;> first | exact absurd hu (hn1 _) | simp [Instr.makeInterface, run_underlying hu]
  case makeFunc fn f c =>
    replace h := gd_some h; obtain ⟨hp, h⟩ := h
    obtain rfl := Option.some.inj h
    have h1 := LRel.map hE (xs := f.toList) (List.all_eq_true.2 fun x hx => hok x (by simp [Op.operands]; exact .inl (by simpa using hx)))
    have h2 := LRel.map hE (xs := c.toList) (List.all_eq_true.2 fun x hx => hok x (by simp [Op.operands]; exact .inr (by simpa using hx)))
    refine val ⟨.func fn (f.map a.eval) (c.map a.eval), rfl, .func fn hp _ _ _ _ (by simp) (by simp) (fun i v u x y => ?_) (fun i v u x y => ?_)⟩
    · exact h1.2 i v u (by simpa using x) (by simpa using y)
    · exact h2.2 i v u (by simpa using x) (by simpa using y)
  case slice t x lo hi mx =>
    split at h
    · replace h := gd_some h; obtain ⟨hg, h⟩ := h
      simp only [Bool.and_eq_true] at hg
      obtain ⟨⟨g1, g2⟩, g3⟩ := hg
      obtain ⟨v, hv, rfl⟩ := oval_some h
      have e1 := intOr_rel hE (x := lo) (fun y e => hok y (by subst e; simp [Op.operands])) g1
      have e2 := intOr_rel hE (x := hi) (fun y e => hok y (by subst e; simp [Op.operands])) g2
      have e3 := intOr_rel hE (x := mx) (fun y e => hok y (by subst e; simp [Op.operands])) g3
      have := aslice_sound hR (hmem x (by simp [Op.operands])) hv
      rw [← e1, ← e2, ← e3] at this
      exact val this
    · exact hfl h
  case fieldAddr t x f =>
    obtain ⟨v, hv, rfl⟩ := oval_some h
    exact val (afield_sound (hmem x (by simp [Op.operands])) hv w)
  case field t x f =>
    obtain ⟨v, hv, rfl⟩ := oval_some h
    exact val (afieldOf_sound (hmem x (by simp [Op.operands])) hv w)
  case indexAddr t x i =>
    obtain ⟨v, hv, rfl⟩ := oval_some h
    have hi := hmem i (by simp [Op.operands])
    have he : a.eval i = r.eval i := by
      unfold aindex at hv
      split at hv
      · split at hv
        · split at hv
          · rename_i hx _; exact idx_rel hi hx
          · cases hv
        · cases hv
      · split at hv
        · split at hv
          · rename_i hx _; exact idx_rel hi hx
          · cases hv
        · cases hv
      · cases hv
    have := aindex_sound (hmem x (by simp [Op.operands])) hv w
    rw [← he] at this
    exact val this
  case index t x i =>
    split at h
    · obtain ⟨v, hv, rfl⟩ := oval_some h
      have hi := hmem i (by simp [Op.operands])
      have he : a.eval i = r.eval i := by
        unfold aindexOf at hv
        split at hv
        · split at hv
          · split at hv
            · rename_i hx _; exact idx_rel hi hx
            · cases hv
          · cases hv
        · cases hv
      have := aindexOf_sound (hmem x (by simp [Op.operands])) hv w
      rw [← he] at this
      exact val this
    · exact hfl h
  case extract x k =>
    obtain ⟨v, hv, rfl⟩ := oval_some h
    exact val (aextract_sound (hmem x (by simp [Op.operands])) hv w)
  case call c =>
    obtain ⟨callee, args, ts⟩ := c
    cases callee <;> simp only [] at h
    case value f =>
      have h1 := hmem f (by simp [Op.operands, Call.operands])
      have h2 := LRel.map hE (xs := args.toList) (List.all_eq_true.2 fun x hx => hok x (by simp [Op.operands, Call.operands]; exact .inr (by simpa using hx)))
      have : LRel m (args.toList.map r.eval) (args.map a.eval).toList := by simpa using h2
      exact acall_sound h1 this h
    case invoke x name => cases h
    case builtin b =>
      unfold abuiltin at h
      split at h
      · rename_i s x t tx he1 he2
        obtain ⟨v, M', hv, rfl⟩ := omem_some h
        have ea : args = #[s, x] := by apply Array.ext'; simpa using he1
        have et : ts = #[t, tx] := by apply Array.ext'; simpa using he2
        subst ea; subst et
        have := aappend_sound (ty := type) hR (hmem s (by simp [Op.operands, Call.operands])) (hmem x (by simp [Op.operands, Call.operands])) hv
        rw [show #[a.eval s, a.eval x] = (#[s, x] : Array Operand).map a.eval by simp] at this
        exact mem this
      · rename_i s x t tx he1 he2
        obtain ⟨v, M', hv, rfl⟩ := omem_some h
        have ea : args = #[s, x] := by apply Array.ext'; simpa using he1
        have et : ts = #[t, tx] := by apply Array.ext'; simpa using he2
        subst ea; subst et
        obtain ⟨u, w', h1, h2, h3⟩ := acopy_sound (tx := tx) (ty := type) hR (hmem s (by simp [Op.operands, Call.operands])) (hmem x (by simp [Op.operands, Call.operands])) hv
        rw [show #[a.eval s, a.eval x] = (#[s, x] : Array Operand).map a.eval by simp] at h1
        exact mem ⟨u, w', m, h1, LM.le_refl m, h2, h3⟩
      · rename_i x t he1 he2
        have ea : args = #[x] := by apply Array.ext'; simpa using he1
        have et : ts = #[t] := by apply Array.ext'; simpa using he2
        subst ea; subst et
        split at h
        · rename_i e n c q hu hx
          obtain rfl := Option.some.inj h
          have hx' := hmem x (by simp [Op.operands, Call.operands])
          rw [hx] at hx'
          refine val ⟨goInt c, ?_, .int _ _⟩
          cases hcc : a.eval x <;> rw [hcc] at hx' <;> cases hx' <;> simp [Builtin.len_, run_underlying hu, hcc]
        · rename_i s hu hx
          obtain rfl := Option.some.inj h
          have hx' := hmem x (by simp [Op.operands, Call.operands])
          rw [hx] at hx'
          refine val ⟨goInt s.size, ?_, .int _ _⟩
          cases hcc : a.eval x <;> rw [hcc] at hx' <;> cases hx' <;> simp [Builtin.len_, run_underlying hu, hcc]
        · cases h
      · obtain ⟨v, hv, rfl⟩ := oval_some h
        have h2 := LRel.map hE (xs := args.toList) (List.all_eq_true.2 fun x hx => hok x (by simp [Op.operands, Call.operands]; simpa using hx))
        rw [abest_eq h2 hv] at hv
        refine val (s := Builtin.min_ ts type (args.map a.eval)) ⟨v, ?_, abest_rel hv⟩
        unfold Builtin.min_
        rw [Array.toList_map]
        unfold abest at hv
        split at hv
        · rename_i hl; rw [hl]; cases hv; rfl
        · rename_i hl; rw [hl]; cases hv; rfl
        · cases hv
      · obtain ⟨v, hv, rfl⟩ := oval_some h
        have h2 := LRel.map hE (xs := args.toList) (List.all_eq_true.2 fun x hx => hok x (by simp [Op.operands, Call.operands]; simpa using hx))
        rw [abest_eq h2 hv] at hv
        refine val (s := Builtin.max_ ts type (args.map a.eval)) ⟨v, ?_, abest_rel hv⟩
        unfold Builtin.max_
        rw [Array.toList_map]
        unfold abest at hv
        split at hv
        · rename_i hl; rw [hl]; cases hv; rfl
        · rename_i hl; rw [hl]; cases hv; rfl
        · cases hv
      · exact hfl h
  all_goals exact hfl h
end

end Go.Ab
