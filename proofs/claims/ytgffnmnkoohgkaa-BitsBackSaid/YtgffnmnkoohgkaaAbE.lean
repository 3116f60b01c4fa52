/- A region whose order is drawn, in open proofs: calls by contracts, new blocks, reading operations that stay the same. -/
import Derived.Test.YtgffnmnkoohgkaaAbQ
set_option linter.unusedSimpArgs false
set_option linter.unusedVariables false
namespace Go.Ab

inductive Kd | p | r | a | e
def kdOf (P : Program) (op : Op) : Kd := bif kindP op then .p else bif kindR P op then .r else bif kindA op then .a else .e

/-- The block that a reading operation reads. -/
def rdep (r : Env) : Op → Option Nat
  | .load _ x => blk (r.eval x)
  | .slice _ x _ _ _ => blk (r.eval x)
  | .convert _ _ x => blk (r.eval x)
  | _ => none

section
variable {P : Program} {ops : Array Oper}

theorem aload_local {t : TypeId} {M1 M2 : Mem} {q v : Value} (h : aload P t M1 q = some v) (hd : ∀ A, blk q = some A → M2.get A = M1.get A) : aload P t M2 q = some v := by
  unfold aload at h ⊢
  split at h
  · rename_i A o
    rw [hd A rfl]; exact h
  · cases h
theorem aslice_local {t : TypeId} {M1 M2 : Mem} {q v : Value} {lo hi mx : Option Value} (h : aslice P t M1 q lo hi mx = some v) (hd : ∀ A, blk q = some A → M2.get A = M1.get A) : aslice P t M2 q lo hi mx = some v := by
  unfold aslice at h ⊢
  split at h
  · rename_i e hu
    split at h
    · rename_i i hi
      split at h
      · exact h
      · rename_i A o l c
        rw [hd A rfl]; exact h
      · cases h
    · cases h
  · cases h
theorem kindR_local {r : Env} {o : Oper} (hk : kindR P o.op = true) {M1 M2 Mx : Mem} {v : Value} (h : aOp P r o M1 = some (.val v Mx)) (hd : ∀ A, rdep r o.op = some A → M2.get A = M1.get A) :
    aOp P r o M2 = some (.val v M2) := by
  unfold aOp at h ⊢
  replace h := gd_some h; obtain ⟨hg, h⟩ := h
  rw [hg]
  simp only [gd]
  obtain ⟨dst, op, type, pos, after, guard⟩ := o
  unfold aop at h ⊢
  cases op <;> simp only [kindR] at hk <;> first | cases hk | skip
  all_goals simp only [rdep] at h hd ⊢
  case load t x =>
    obtain ⟨u, hu, e⟩ := oval_some h
    cases e
    rw [aload_local hu hd]; rfl
  case slice t x lo hi mx =>
    split at h
    · rename_i a l c e1
      replace h := gd_some h; obtain ⟨hp, h⟩ := h
      obtain ⟨u, hu, e⟩ := oval_some h
      cases e
      simp only [hp, gd]
      rw [aslice_local hu (by rw [e1] at hd ⊢; exact hd)]; rfl
    · obtain ⟨u, hu, e⟩ := oval_some h
      cases e
      simp only [hu, oval]
  case convert s d x =>
    split at h
    · rename_i u hu; cases h; rfl
    split at h
    · rename_i u hu; cases h; rfl
    · obtain ⟨u, M', hv, e⟩ := omem_some h
      cases e
      have : aconvert P s d M2 (r.eval x) = some (v, M2) := by
        unfold aconvert at hv ⊢
        split at hv
        · rename_i e1 h1 h2
          split at hv
          · split at hv
            · rename_i A o l c ex
              rw [hd A (by rw [ex]; rfl)]
              cases hzz : (Nat.beq l 0 && Nat.beq c 0) with
              | true =>
                simp only [hzz, cond_true, Option.some.injEq, Prod.mk.injEq] at hv ⊢
                exact ⟨hv.1, trivial⟩
              | false =>
              simp only [hzz, cond_false] at hv ⊢
              split at hv
              · rename_i cs esz ro hA
                replace hv := gd_some hv; obtain ⟨hv1, hv⟩ := hv
                split at hv
                · rename_i bs hbs
                  simp only [Option.some.injEq, Prod.mk.injEq] at hv
                  obtain ⟨rfl, _⟩ := hv
                  simp only [hv1, gd, hbs]
                · cases hv
              · cases hv
            · cases hv
          · cases hv
        · rename_i h1 h2; rw [h2] at hk; cases hk
        · rename_i h1 h2; rw [h2] at hk; cases hk
        · cases hv
      rw [this]; rfl
  case call c =>
    obtain ⟨callee, args, ts⟩ := c
    cases callee <;> simp only [] at h hk ⊢
    case builtin b =>
      unfold abuiltin at h ⊢
      split at h
      · cases hk
      · cases hk
      · split at h
        · cases h; rfl
        · cases h; rfl
        · cases h
      · obtain ⟨u, hu, e⟩ := oval_some h; cases e; simp only [hu, oval]
      · obtain ⟨u, hu, e⟩ := oval_some h; cases e; simp only [hu, oval]
      · obtain ⟨u, hu, e⟩ := oval_some h; cases e; simp only [hu, oval]
    all_goals cases hk

/-! ### The order that is forced -/
theorem edges_set {acc : List Nat} {i : Nat} : ∀ {es : List Edge} {e : Edge}, e ∈ es → Region.binds .any e = true → (e.on = i ∨ (acc.getD e.on 0).testBit i = true) → (edges acc es).testBit i = true
  | x :: es, e, he, hb, h => by
    simp only [edges]
    rcases List.mem_cons.1 he with rfl | he
    · rw [hb]
      simp only [cond_true, Nat.testBit_or, Bool.or_eq_true]
      rcases h with rfl | h
      · exact .inl (.inl (by simp [Nat.testBit_two_pow]))
      · exact .inl (.inr h)
    · cases hx : Region.binds .any x with
      | false => exact edges_set he hb h
      | true =>
        simp only [cond_true, Nat.testBit_or, Bool.or_eq_true]
        exact .inr (edges_set he hb h)

theorem befAt_set {j i : Nat} {o : Oper} {e : Edge} (ho : ops[j]? = some o) (he : e ∈ o.after) (hb : Region.binds .any e = true) (hlt : e.on < j) (h : e.on = i ∨ ahead ops i e.on = true) : ahead ops i j = true := by
  unfold ahead befAt bef at h ⊢
  obtain ⟨ext, h1, h2, h3⟩ := befGo_spec ops.toList []
  obtain ⟨acc', k1, k2, k3⟩ := h3 j o (by simpa using ho)
  simp only [List.length_nil, Nat.zero_add] at k2 k3
  rw [List.getD_eq_getElem?_getD, k3, Option.getD_some]
  refine edges_set (by simpa using he) hb (h.imp id fun h => ?_)
  rw [k1, List.getD_eq_getElem?_getD, List.getElem?_append_left (by omega), ← List.getD_eq_getElem?_getD] at h
  exact h

theorem low_of (hlow : lowEdges ops = true) {j : Nat} {o : Oper} (ho : ops[j]? = some o) {e : Edge} (he : e ∈ o.after) (hb : Region.binds .any e = true) : e.on < j := by
  have := zip_all hlow (i := j) (x := o) (by simpa using ho)
  have := List.all_eq_true.1 this e (by simpa using he)
  rw [hb] at this
  exact blt_iff.1 (by simpa using this)
theorem ahead_lt (hlow : lowEdges ops = true) {i j : Nat} (hj : j < ops.size) (h : ahead ops i j = true) : i < j := by
  have ho : ops[j]? = some ops[j] := Array.getElem?_eq_getElem hj
  refine ahead_in hlow (S := fun i => i < j) (fun k o hk ho e he hb => ?_) j i _ ho (fun e he hb => low_of hlow ho he hb) h
  have := low_of hlow ho he hb
  have hk' : k < j := hk
  show e.on < j
  omega
theorem ahead_trans (hlow : lowEdges ops = true) : ∀ (j i k : Nat), j < ops.size → ahead ops k i = true → ahead ops i j = true → ahead ops k j = true := by
  intro j
  induction j using Nat.strongRecOn with
  | _ j ih =>
    intro i k hj h1 h2
    have ho : ops[j]? = some ops[j] := Array.getElem?_eq_getElem hj
    obtain ⟨e, he, hb, h⟩ := befAt_bit ho (fun e he hb => low_of hlow ho he hb) h2
    have hlt := low_of hlow ho he hb
    rcases h with h | h
    · exact befAt_set ho he hb hlt (.inr (h ▸ h1))
    · exact befAt_set ho he hb hlt (.inr (ih e.on hlt i k (by omega) h1 h))

/-- The pairs that have no order: (reading, acting) in ue, (new block, reading) in ua. -/
def tabOk (P : Program) (ops : Array Oper) (ue ua : List (Nat × Nat)) : Bool := ops.toList.zipIdx.all fun (o, j) =>
  match kdOf P o.op with
  | .r => ops.toList.zipIdx.all fun (o2, i) =>
    match kdOf P o2.op with
    | .e => ahead ops i j || ahead ops j i || ue.any fun x => Nat.beq x.1 j && Nat.beq x.2 i
    | .a => !(Nat.blt i j) || ahead ops i j || ua.any fun x => Nat.beq x.1 i && Nat.beq x.2 j
    | _ => true
  | .a => ops.toList.zipIdx.all fun (o2, i) =>
    match kdOf P o2.op with
    | .e => ahead ops i j || ahead ops j i
    | _ => true
  | _ => true

theorem tab_re {ue ua : List (Nat × Nat)} (h : tabOk P ops ue ua = true) {i j : Nat} {o o2 : Oper} (ho : ops[j]? = some o) (ho2 : ops[i]? = some o2) (hr : kdOf P o.op = .r) (he : kdOf P o2.op = .e) :
    ahead ops i j = true ∨ ahead ops j i = true ∨ (j, i) ∈ ue := by
  have h1 := zip_all h (i := j) (x := o) (by simpa using ho)
  simp only [hr] at h1
  have h2 := zip_all h1 (i := i) (x := o2) (by simpa using ho2)
  simp only [he, Bool.or_eq_true, List.any_eq_true, Bool.and_eq_true] at h2
  rcases h2 with (h2 | h2) | ⟨x, hx, h3, h4⟩
  · exact .inl h2
  · exact .inr (.inl h2)
  · obtain ⟨a, b⟩ := x
    have e1 : a = j := beq_eq h3
    have e2 : b = i := beq_eq h4
    subst e1; subst e2
    exact .inr (.inr hx)
theorem tab_ra {ue ua : List (Nat × Nat)} (h : tabOk P ops ue ua = true) {i j : Nat} {o o2 : Oper} (ho : ops[j]? = some o) (ho2 : ops[i]? = some o2) (hr : kdOf P o.op = .r) (he : kdOf P o2.op = .a) (hij : i < j) :
    ahead ops i j = true ∨ (i, j) ∈ ua := by
  have h1 := zip_all h (i := j) (x := o) (by simpa using ho)
  simp only [hr] at h1
  have h2 := zip_all h1 (i := i) (x := o2) (by simpa using ho2)
  simp only [he, Bool.or_eq_true, List.any_eq_true, Bool.and_eq_true, blt_iff.2 hij, Bool.not_true, Bool.false_eq_true, false_or] at h2
  rcases h2 with h2 | ⟨x, hx, h3, h4⟩
  · exact .inl h2
  · obtain ⟨a, b⟩ := x
    have e1 : a = i := beq_eq h3
    have e2 : b = j := beq_eq h4
    subst e1; subst e2
    exact .inr hx
theorem tab_ae {ue ua : List (Nat × Nat)} (h : tabOk P ops ue ua = true) {i j : Nat} {o o2 : Oper} (ho : ops[j]? = some o) (ho2 : ops[i]? = some o2) (hr : kdOf P o.op = .a) (he : kdOf P o2.op = .e) :
    ahead ops i j = true ∨ ahead ops j i = true := by
  have h1 := zip_all h (i := j) (x := o) (by simpa using ho)
  simp only [hr] at h1
  have h2 := zip_all h1 (i := i) (x := o2) (by simpa using ho2)
  simpa only [he, Bool.or_eq_true] using h2

/-! ### The row -/
/-- What a reading operation reads is the same ahead of those that acted earlier without order. -/
def RdOk (ue ua : List (Nat × Nat)) (base j : Nat) (d : Option Nat) (ms : List (Nat × Mem)) (M : Mem) : Prop :=
  (∀ p ∈ ms, (j, p.1) ∈ ue → ∀ A, d = some A → p.2.get A = M.get A) ∧ (∀ q ∈ ua, q.2 = j → ∀ A, d = some A → A ≠ base + q.1)
/-- What was read is the same behind one that acts. -/
def AcOk (ue : List (Nat × Nat)) (j : Nat) (rs : List (Nat × Option Nat × Mem)) (M' : Mem) : Prop :=
  ∀ p ∈ rs, (p.1, j) ∈ ue → ∀ A, p.2.1 = some A → M'.get A = p.2.2.get A
def FrOk (base j : Nat) (ms : List (Nat × Mem)) (M : Mem) : Prop := M.get (base + j) = none ∧ ∀ p ∈ ms, p.2.get (base + j) = none

def OpsS (P : Program) (ops : Array Oper) (base : Nat) (ue ua : List (Nat × Nat)) : List Oper → Nat → List (Nat × Option Nat × Mem) → List (Nat × Mem) → Env → Mem → (Env → Mem → Prop) → Prop
  | [], _, _, _, r, M, K => K r M
  | o :: rest, j, rs, ms, r, M, K =>
    (wantedA ops r o = true ∧
      match kdOf P o.op with
      | .p =>
        match vOp P r o M with
        | some (.val v _) => OpsS P ops base ue ua rest (j + 1) rs ms (r.put o.dst v) M K
        | _ => False
      | .r =>
        match vOp P r o M with
        | some (.val v _) => RdOk ue ua base j (rdep r o.op) ms M ∧ OpsS P ops base ue ua rest (j + 1) ((j, rdep r o.op, M) :: rs) ms (r.put o.dst v) M K
        | _ => False
      | .a =>
        match aAlloc P r o (base + j) with
        | some (v, obj) => FrOk base j ms M ∧ OpsS P ops base ue ua rest (j + 1) rs ms (r.put o.dst v) (M.set (base + j) obj) K
        | none => False
      | .e =>
        match vOp P r o M with
        | some (.val v M') => AcOk ue j rs M' ∧ OpsS P ops base ue ua rest (j + 1) rs ((j, M) :: ms) (r.put o.dst v) M' K
        | some (.call f args) => CallW P f args M fun v M' => AcOk ue j rs M' ∧ OpsS P ops base ue ua rest (j + 1) rs ((j, M) :: ms) (r.put o.dst v) M' K
        | none => False) ∨
    (wantedA ops r o = false ∧ OpsS P ops base ue ua rest (j + 1) rs ms (r.put o.dst undef) M K)

/-! ### Why it stands for all orders -/
variable {base : Nat}
theorem addSel_snoc {f : Nat → Bool} {en : Ent} : ∀ (acc : List Ent) (i : Nat) (M : Mem), addSel base f (acc ++ [en]) i M = addSel base (fun _ => f (i + acc.length)) [en] (i + acc.length) (addSel base f acc i M)
  | [], i, M => by
    simp only [List.nil_append, addSel, List.length_nil, Nat.add_zero]
  | e0 :: acc, i, M => by
    simp only [List.cons_append, addSel, List.length_cons]
    have e : ∀ M, addSel base f (acc ++ [en]) (i + 1) M = addSel base (fun _ => f (i + (acc.length + 1))) [en] (i + (acc.length + 1)) (addSel base f acc (i + 1) M) := fun M => by
      rw [addSel_snoc acc (i + 1) M, show i + 1 + acc.length = i + (acc.length + 1) by omega]
    simp only [addSel] at e
    split
    · cases f i <;> simp only [cond_true, cond_false] <;> exact e _
    · exact e _

theorem addSel_congr {f g : Nat → Bool} : ∀ (acc : List Ent) (i : Nat) (M : Mem), (∀ k en obj, acc[k]? = some en → en.cls = .a obj → f (i + k) = g (i + k)) → addSel base f acc i M = addSel base g acc i M
  | [], i, M, _ => rfl
  | e0 :: acc, i, M, h => by
    have ih : ∀ M, addSel base f acc (i + 1) M = addSel base g acc (i + 1) M := fun M => addSel_congr acc (i + 1) M fun k en obj h1 h2 => by
      have := h (k + 1) en obj (by simpa using h1) h2
      rwa [show i + (k + 1) = i + 1 + k by omega] at this
    simp only [addSel]
    split
    · rename_i obj hc
      have := h 0 e0 obj rfl hc
      rw [Nat.add_zero] at this
      rw [this]
      cases g i <;> simp only [cond_true, cond_false] <;> exact ih _
    · exact ih _

theorem addSel_none {f : Nat → Bool} : ∀ (acc : List Ent) (i : Nat) (M : Mem), (∀ k en obj, acc[k]? = some en → en.cls = .a obj → f (i + k) = false) → addSel base f acc i M = M
  | [], i, M, _ => rfl
  | e0 :: acc, i, M, h => by
    have ih : ∀ M, addSel base f acc (i + 1) M = M := fun M => addSel_none acc (i + 1) M fun k en obj h1 h2 => by
      have := h (k + 1) en obj (by simpa using h1) h2
      rwa [show i + (k + 1) = i + 1 + k by omega] at this
    simp only [addSel]
    split
    · rename_i obj hc
      have := h 0 e0 obj rfl hc
      rw [Nat.add_zero] at this
      rw [this]
      exact ih _
    · exact ih _

end
end Go.Ab
