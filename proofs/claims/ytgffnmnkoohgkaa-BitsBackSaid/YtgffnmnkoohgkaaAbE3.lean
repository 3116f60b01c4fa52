/- A region whose order is drawn, in open proofs: the rule. -/
import Derived.Test.YtgffnmnkoohgkaaAbE2
set_option linter.unusedSimpArgs false
set_option linter.unusedVariables false
namespace Go.Ab
open Go.RowKit (Below)

section
variable {P : Program} {r : Env} {M : Mem} {ops : Array Oper} {rest : List Oper}

/-- Names that are kept free. -/
def delN : Nat → Nat → Mem → Mem
  | 0, _, M => M
  | k + 1, A, M => delN k (A + 1) (M.del A)
theorem delN_next : ∀ (k A : Nat) (M : Mem), (delN k A M).next = M.next
  | 0, _, _ => rfl
  | k + 1, A, M => delN_next k (A + 1) (M.del A)
theorem Rl.delN {N0 : Nat → Prop} {w0 : World} {m : LM} {w : World} : ∀ (k A : Nat) (M : Mem), Rl N0 w0 m M w → Rl N0 w0 m (delN k A M) w
  | 0, _, _, h => h
  | k + 1, A, _, h => Rl.delN k (A + 1) _ (h.del A)

theorem X_delN (M : Mem) (b : List (Nat × Option AObj)) : ∀ (k : Nat) (l : List Slot), (⟨(X M b l).next + k, (delN k (X M b l).next (X M b l)).tbl⟩ : Mem) = X M b (l ++ List.replicate k gone) := by
  have h : ∀ (k : Nat) (N : Mem) (A : Nat), (delN k A N).tbl = layT N.tbl A (List.replicate k gone) := by
    intro k
    induction k with
    | zero => intros; rfl
    | succ k ih =>
      intro N A
      simp only [delN, List.replicate_succ, layT]
      rw [ih]; rfl
  intro k l
  unfold X
  rw [layT_append, h]
  simp only [List.length_append, List.length_replicate, Nat.add_assoc]

theorem W.drawS (hm : P.follows .mixedOrders = true) {id : Nat} {K : Ex → Env → Mem → Prop} {ue ua : List (Nat × Nat)} {b : List (Nat × Option AObj)} {s : List Slot}
    (ht : tabOk P ops ue ua = true) (hd : drawOk P ops = true) (hf : dstsFit ops.toList r.size = true)
    (h : OpsS P ops (loc M s.length) ue ua ops.toList 0 [] [] r (X M b (s ++ List.replicate ops.size gone)) (K .normal)) : W P (.region id ops true) r (X M b s) K := by
  have hlow : lowEdges ops = true := by
    unfold drawOk at hd
    simp only [Bool.and_eq_true] at hd
    exact hd.1.1
  have hX : X M b (s ++ List.replicate ops.size gone) = ⟨(delN ops.size (X M b s).next (X M b s)).next + ops.size, (delN ops.size (X M b s).next (X M b s)).tbl⟩ := by
    rw [delN_next, X_delN]
  generalize hN : delN ops.size (X M b s).next (X M b s) = N at hX
  have hNn : N.next = loc M s.length := by rw [← hN, delN_next]; rfl
  rw [hX, ← hNn] at h
  have hI : Inv P ops N.next ue ua [] [] [] ⟨N.next + ops.size, N.tbl⟩ ⟨N.next + ops.size, N.tbl⟩ :=
    ⟨Nat.zero_le _, fun j en hj => by simp at hj, rfl, fun j en hj => by simp at hj, fun j en hj => by simp at hj, fun j en hj => by simp at hj, fun j en hj => by simp at hj, fun j en hj => by simp at hj⟩
  obtain ⟨w⟩ : Nonempty World := ⟨default⟩
  obtain ⟨r', call, es, Mf, h1, h2, h3, h4⟩ := OpsS.go hlow ht ops.toList [] [] [] r _ _ w h (by simp) hI
  refine ⟨.normal, r', _, ?_, h1⟩
  have hok := drawP_ok (id := id) hm h2 (r0 := r) (M0 := N) (by rw [hd, hf]; rfl) (h3 call fun _ _ => rfl) h4
  intro N0 w0 m w a Q hE hR hQ
  exact hok N0 w0 m w a Q hE (hN ▸ hR.delN ops.size _ _) hQ

theorem W.pDrawS (hm : P.follows .mixedOrders = true) {c : Code} {n : Nat} {K : Ex → Env → Mem → Prop} {l : List Oper} {b : List (Nat × Option AObj)} {s : List Slot} (ue ua : List (Nat × Nat)) (hc : drawOpsOf c = some l)
    (ht : tabOk P (arrOf c) ue ua = true) (hd : drawOk P (arrOf c) = true) (hs : r.size = n) (hf : dstsFit l n = true)
    (h : OpsS P (arrOf c) (loc M s.length) ue ua l 0 [] [] r (X M b (s ++ List.replicate l.length gone)) (K .normal)) : W P c r (X M b s) K := by
  unfold drawOpsOf at hc
  split at hc
  · obtain rfl := Option.some.inj hc
    refine W.drawS hm ht hd (hs ▸ hf) ?_
    simpa [arrOf] using h
  · cases hc
theorem W.pDrawRowS (hm : P.follows .mixedOrders = true) {c : Code} {n : Nat} {K : Ex → Env → Mem → Prop} {l : List Oper} {b : List (Nat × Option AObj)} {s : List Slot} (ue ua : List (Nat × Nat)) (hq : isSeq c = true) (hc : drawOpsOf (L c) = some l)
    (ht : tabOk P (arrOf (L c)) ue ua = true) (hd : drawOk P (arrOf (L c)) = true) (hs : r.size = n) (hf : dstsFit l n = true)
    (h : OpsS P (arrOf (L c)) (loc M s.length) ue ua l 0 [] [] r (X M b (s ++ List.replicate l.length gone)) (fun r' M' => W P (R c) r' M' K)) : W P c r (X M b s) K :=
  W.pSeq hq (W.pDrawS hm ue ua hc ht hd hs hf h)

/-! ### As equations -/
variable {base j : Nat} {ue ua : List (Nat × Nat)} {rs : List (Nat × Option Nat × Mem)} {ms : List (Nat × Mem)} {K : Env → Mem → Prop}
variable {d : Option Tmp} {op : Op} {ty : TypeId} {p : String} {af : Array Edge} {g : Option (Nat × Bool)}
def StepS (P : Program) (ops : Array Oper) (base : Nat) (ue ua : List (Nat × Nat)) (o : Oper) (rest : List Oper) (j : Nat) (rs : List (Nat × Option Nat × Mem)) (ms : List (Nat × Mem)) (r : Env) (M : Mem) (K : Env → Mem → Prop) : Kd → Prop
  | .p =>
    match vOp P r o M with
    | some (.val v _) => OpsS P ops base ue ua rest (j + 1) rs ms (r.put o.dst v) M K
    | _ => False
  | .r =>
    match vOp P r o M with
    | some (.val v _) => RdOk ue ua base j (rdep r o.op) ms M ∧ OpsS P ops base ue ua rest (j + 1) ((j, rdep r o.op, M) :: rs) ms (r.put o.dst v) M K
    | _ => False
  | .a =>
    match aAlloc P r o (off base j) with
    | some (v, obj) => FrOk base j ms M ∧ OpsS P ops base ue ua rest (j + 1) rs ms (r.put o.dst v) (M.set (off base j) obj) K
    | none => False
  | .e =>
    match vOp P r o M with
    | some (.val v M') => AcOk ue j rs M' ∧ OpsS P ops base ue ua rest (j + 1) rs ((j, M) :: ms) (r.put o.dst v) M' K
    | some (.call f args) => CallW P f args M fun v M' => AcOk ue j rs M' ∧ OpsS P ops base ue ua rest (j + 1) rs ((j, M) :: ms) (r.put o.dst v) M' K
    | none => False
theorem eNil : OpsS P ops base ue ua [] j rs ms r M K = K r M := rfl
theorem eCons : OpsS P ops base ue ua (⟨d, op, ty, p, af, none⟩ :: rest) j rs ms r M K = StepS P ops base ue ua ⟨d, op, ty, p, af, none⟩ rest j rs ms r M K (kdOf P op) := by
  unfold OpsS StepS
  simp only [wantedA, true_and, Bool.true_eq_false, false_and, or_false]
  cases kdOf P op <;> rfl
theorem eGuard {i t : Nat} {want : Bool} (hy : yt ops i = some t)
    (h : GuardW want (asB (r.get t)) (StepS P ops base ue ua ⟨d, op, ty, p, af, some (i, want)⟩ rest j rs ms r M K (kdOf P op)) (OpsS P ops base ue ua rest (j + 1) rs ms (r.put d undef) M K)) :
    OpsS P ops base ue ua (⟨d, op, ty, p, af, some (i, want)⟩ :: rest) j rs ms r M K := by
  have e : yieldedA ops r i = asB (r.get t) := by
    unfold yieldedA yt at *
    cases ho : ops[i]? with
    | none => rw [ho] at hy; cases hy
    | some o =>
      rw [ho] at hy
      simp only [] at hy ⊢
      rw [hy]
      rfl
  rw [← e] at h
  unfold OpsS wantedA
  cases hb : yieldedA ops r i with
  | none => rw [hb] at h; exact h.elim
  | some b =>
    rw [hb] at h
    simp only [GuardW] at h
    split at h
    · rename_i e; subst e
      refine .inl ⟨by simp [hb], ?_⟩
      unfold StepS at h
      revert h
      cases kdOf P op <;> exact id
    · rename_i e
      exact .inr ⟨by simpa [hb] using e, h⟩
def ePK (P : Program) (ops : Array Oper) (base : Nat) (ue ua : List (Nat × Nat)) (d : Option Tmp) (rest : List Oper) (j : Nat) (rs : List (Nat × Option Nat × Mem)) (ms : List (Nat × Mem)) (r : Env) (M : Mem) (K : Env → Mem → Prop) : Option Out → Prop
  | some (.val v _) => OpsS P ops base ue ua rest (j + 1) rs ms (r.put d v) M K
  | _ => False
def eRK (P : Program) (ops : Array Oper) (base : Nat) (ue ua : List (Nat × Nat)) (d : Option Tmp) (dep : Option Nat) (rest : List Oper) (j : Nat) (rs : List (Nat × Option Nat × Mem)) (ms : List (Nat × Mem)) (r : Env) (M : Mem) (K : Env → Mem → Prop) : Option Out → Prop
  | some (.val v _) => RdOk ue ua base j dep ms M ∧ OpsS P ops base ue ua rest (j + 1) ((j, dep, M) :: rs) ms (r.put d v) M K
  | _ => False
def eAK (P : Program) (ops : Array Oper) (base : Nat) (ue ua : List (Nat × Nat)) (d : Option Tmp) (rest : List Oper) (j : Nat) (rs : List (Nat × Option Nat × Mem)) (ms : List (Nat × Mem)) (r : Env) (M : Mem) (K : Env → Mem → Prop) : Option (Value × AObj) → Prop
  | some (v, obj) => FrOk base j ms M ∧ OpsS P ops base ue ua rest (j + 1) rs ms (r.put d v) (M.set (off base j) obj) K
  | none => False
def eEK (P : Program) (ops : Array Oper) (base : Nat) (ue ua : List (Nat × Nat)) (d : Option Tmp) (rest : List Oper) (j : Nat) (rs : List (Nat × Option Nat × Mem)) (ms : List (Nat × Mem)) (r : Env) (M : Mem) (K : Env → Mem → Prop) : Option Out → Prop
  | some (.val v M') => AcOk ue j rs M' ∧ OpsS P ops base ue ua rest (j + 1) rs ((j, M) :: ms) (r.put d v) M' K
  | some (.call f args) => CallW P f args M fun v M' => AcOk ue j rs M' ∧ OpsS P ops base ue ua rest (j + 1) rs ((j, M) :: ms) (r.put d v) M' K
  | none => False
theorem eP : StepS P ops base ue ua ⟨d, op, ty, p, af, g⟩ rest j rs ms r M K .p = ePK P ops base ue ua d rest j rs ms r M K (vOp P r ⟨d, op, ty, p, af, g⟩ M) := by
  unfold StepS ePK; simp only
theorem eR : StepS P ops base ue ua ⟨d, op, ty, p, af, g⟩ rest j rs ms r M K .r = eRK P ops base ue ua d (rdep r op) rest j rs ms r M K (vOp P r ⟨d, op, ty, p, af, g⟩ M) := by
  unfold StepS eRK; simp only
theorem eA : StepS P ops base ue ua ⟨d, op, ty, p, af, g⟩ rest j rs ms r M K .a = eAK P ops base ue ua d rest j rs ms r M K (aAlloc P r ⟨d, op, ty, p, af, g⟩ (off base j)) := by
  unfold StepS eAK; simp only
theorem eE : StepS P ops base ue ua ⟨d, op, ty, p, af, g⟩ rest j rs ms r M K .e = eEK P ops base ue ua d rest j rs ms r M K (vOp P r ⟨d, op, ty, p, af, g⟩ M) := by
  unfold StepS eEK; simp only
theorem ePv {v : Value} {M' : Mem} : ePK P ops base ue ua d rest j rs ms r M K (some (.val v M')) = OpsS P ops base ue ua rest (j + 1) rs ms (r.put d v) M K := rfl
theorem eRv {v : Value} {M' : Mem} {dep : Option Nat} : eRK P ops base ue ua d dep rest j rs ms r M K (some (.val v M')) = (RdOk ue ua base j dep ms M ∧ OpsS P ops base ue ua rest (j + 1) ((j, dep, M) :: rs) ms (r.put d v) M K) := rfl
theorem eAv {v : Value} {obj : AObj} : eAK P ops base ue ua d rest j rs ms r M K (some (v, obj)) = (FrOk base j ms M ∧ OpsS P ops base ue ua rest (j + 1) rs ms (r.put d v) (M.set (off base j) obj) K) := rfl
theorem eEv {v : Value} {M' : Mem} : eEK P ops base ue ua d rest j rs ms r M K (some (.val v M')) = (AcOk ue j rs M' ∧ OpsS P ops base ue ua rest (j + 1) rs ((j, M) :: ms) (r.put d v) M' K) := rfl
theorem eEc {f : FuncId} {args : List Value} : eEK P ops base ue ua d rest j rs ms r M K (some (.call f args)) = CallW P f args M fun v M' => AcOk ue j rs M' ∧ OpsS P ops base ue ua rest (j + 1) rs ((j, M) :: ms) (r.put d v) M' K := rfl

/-! ### Kinds -/
theorem kd_move {x : Operand} : kdOf P (.move x) = .p := rfl
theorem kd_assign {x : Operand} : kdOf P (.assign x) = .p := rfl
theorem kd_pick {x y z : Operand} : kdOf P (.pick x y z) = .p := rfl
theorem kd_nil {x : Operand} : kdOf P (.nilCheck x) = .p := rfl
theorem kd_fieldAddr {t : TypeId} {x : Operand} {f : Nat} : kdOf P (.fieldAddr t x f) = .p := rfl
theorem kd_indexAddr {t : TypeId} {x y : Operand} : kdOf P (.indexAddr t x y) = .p := rfl
theorem kd_field {t : TypeId} {x : Operand} {f : Nat} : kdOf P (.field t x f) = .p := rfl
theorem kd_index {t : TypeId} {x y : Operand} : kdOf P (.index t x y) = .p := rfl
theorem kd_extract {x : Operand} {k : Nat} : kdOf P (.extract x k) = .p := rfl
theorem kd_build {t : TypeId} {ps : Array (Nat × Operand)} : kdOf P (.build t ps) = .p := rfl
theorem kd_iface {t : TypeId} {x : Operand} : kdOf P (.makeInterface t x) = .p := rfl
theorem kd_func {f : Fn} {x y : Array Operand} : kdOf P (.makeFunc f x y) = .p := rfl
theorem kd_un {u : UnOp} {t : TypeId} {x : Operand} : kdOf P (.unOp u t x) = .p := rfl
theorem kd_bin {u : BinOp} {t t2 : TypeId} {x y : Operand} : kdOf P (.binOp u t x y t2) = .p := rfl
theorem kd_load {t : TypeId} {x : Operand} : kdOf P (.load t x) = .r := rfl
theorem kd_slice {t : TypeId} {x : Operand} {a b c : Option Operand} : kdOf P (.slice t x a b c) = .r := rfl
theorem kd_len {x : Array Operand} {ts : Array TypeId} : kdOf P (.call ⟨.builtin .len, x, ts⟩) = .r := rfl
theorem kd_min {x : Array Operand} {ts : Array TypeId} : kdOf P (.call ⟨.builtin .min, x, ts⟩) = .r := rfl
theorem kd_max {x : Array Operand} {ts : Array TypeId} : kdOf P (.call ⟨.builtin .max, x, ts⟩) = .r := rfl
theorem kd_convS {s t : TypeId} {x : Operand} (h : isSli (P.underlying t) = true) : kdOf P (.convert s t x) = .e := by
  unfold isSli at h
  split at h
  · rename_i e he; simp [kdOf, kindP, kindR, kindA, he]
  · cases h
theorem kd_convR {s t : TypeId} {x : Operand} (h : isSli (P.underlying t) = false) : kdOf P (.convert s t x) = .r := by
  unfold isSli at h
  split at h
  · cases h
  · rename_i he
    unfold kdOf kindP kindR
    simp only
    rfl
theorem kd_box {t : TypeId} {x : Operand} : kdOf P (.box t x) = .a := rfl
theorem kd_alloc {t : TypeId} : kdOf P (.alloc t) = .a := rfl
theorem kd_buildSlice {t : TypeId} {n : Nat} {ps : Array (Nat × Operand)} : kdOf P (.buildSlice t n ps) = .a := rfl
theorem kd_store {t : TypeId} {x y : Operand} : kdOf P (.store t x y) = .e := rfl
theorem kd_callv {x : Operand} {xs : Array Operand} {ts : Array TypeId} : kdOf P (.call ⟨.value x, xs, ts⟩) = .e := rfl
theorem kd_append {x : Array Operand} {ts : Array TypeId} : kdOf P (.call ⟨.builtin .append, x, ts⟩) = .e := rfl
theorem kd_copy {x : Array Operand} {ts : Array TypeId} : kdOf P (.call ⟨.builtin .copy, x, ts⟩) = .e := rfl

theorem rd_load {t : TypeId} {x : Operand} : rdep r (.load t x) = blk (r.eval x) := rfl
theorem rd_slice {t : TypeId} {x : Operand} {a b c : Option Operand} : rdep r (.slice t x a b c) = blk (r.eval x) := rfl
theorem rd_conv {s t : TypeId} {x : Operand} : rdep r (.convert s t x) = blk (r.eval x) := rfl
theorem rd_call {c : Call} : rdep r (.call c) = none := rfl
theorem bk_ptr {a o : Nat} : blk (.pointer (some ⟨a, o, none⟩)) = some a := rfl
theorem bk_slice {a o l c : Nat} : blk (.slice (some ⟨a, o, none⟩) l c) = some a := rfl
theorem bk_nil : blk (.slice none 0 0) = none := rfl
theorem bk_int {k : IntKind} {n : Int} : blk (.int k n) = none := rfl
theorem bk_string {s : ByteArray} : blk (.string s) = none := rfl

/-! ### New blocks -/
theorem al_box {t : TypeId} {x : Operand} {id : Nat} : aAlloc P r ⟨d, .box t x, ty, p, af, g⟩ id = gd (okOperand x && true) ((sz P t).map fun n => (.pointer (some ⟨id, 0, none⟩), .cells (r.eval x).cells.toList n false)) := by
  unfold aAlloc sz
  simp only
  cases P.info? t <;> rfl
theorem al_alloc {t : TypeId} {id : Nat} : aAlloc P r ⟨d, .alloc t, ty, p, af, g⟩ id = (azero P t).bind fun z => (sz P t).map fun n => (.pointer (some ⟨id, 0, none⟩), .cells z.cells.toList n false) := by
  unfold aAlloc sz
  rw [show okOp ⟨d, .alloc t, ty, p, af, g⟩ = true from rfl]
  simp only
  cases azero P t <;> cases P.info? t <;> rfl
def bsA (x : Option (Nat × Nat × List Value)) (len : Nat) (ps : List (Nat × Value)) (id : Nat) : Option (Value × AObj) :=
  match x with
  | some (n, _, z) => gd (Nat.ble (len * n) 16777216)
      ((afill (fun i => some (i * n, n)) (zs len z) ps).bind fun cs => gd (Nat.beq cs.length (len * n)) (some (.slice (some ⟨id, 0, none⟩) len len, .cells cs n false)))
  | none => none
theorem bsA_of {n zb : Nat} {z : List Value} {len id : Nat} {ps : List (Nat × Value)} : bsA (some (n, zb, z)) len ps id = gd (Nat.ble (len * n) 16777216)
      ((afill (fun i => some (i * n, n)) (zs len z) ps).bind fun cs => gd (Nat.beq cs.length (len * n)) (some (.slice (some ⟨id, 0, none⟩) len len, .cells cs n false))) := rfl
theorem al_slice {t e : TypeId} {len id : Nat} {ps : Array (Nat × Operand)} {x : Nat × Nat × List Value} (h1 : el P t = some (true, 0, e)) (h2 : ez P e = some x) :
    aAlloc P r ⟨d, .buildSlice t len ps, ty, p, af, g⟩ id = gd (ps.toList.all fun x => okOperand x.2) (bsA (some x) len (ps.toList.map fun x => (x.1, r.eval x.2)) id) := by
  have hu := el_slice h1
  unfold ez at h2
  split at h2
  · rename_i i hi
    split at h2
    · rename_i z hz
      obtain ⟨hg, h2⟩ := gd_some h2
      obtain rfl := Option.some.inj h2
      simp only [Bool.and_eq_true] at hg
      obtain ⟨⟨g1, g2⟩, g3⟩ := hg
      unfold aAlloc bsA
      simp only [hu, hi, hz, g1, g3, Bool.true_and]
      have e2 : zrow z (len * i.size) = zs len z.cells.toList := by
        have e3 : z.cells.toList.length = i.size := by rw [← beq_eq g2]; simp
        rw [← zs_eq _ (by rw [e3]; exact blt_iff.1 g3), e3]
        unfold zrow; rw [beq_eq g2]
      rw [e2]
      congr 1
      · simp [okOp, Op.operands, Function.comp_def]
      · congr 1
        cases afill (fun i_1 => some (i_1 * i.size, i.size)) (zs len z.cells.toList) (ps.toList.map fun x => (x.1, r.eval x.2)) <;> rfl
    · cases h2
  · cases h2

/-! ### The conditions -/
theorem rdOk_none : RdOk ue ua base j none ms M = True := by simp [RdOk]
theorem rdOk_some {A : Nat} : RdOk ue ua base j (some A) ms M = ((∀ p ∈ ms, (j, p.1) ∈ ue → p.2.get A = M.get A) ∧ ∀ q ∈ ua, q.2 = j → A ≠ off base q.1) := by
  simp [RdOk, off]
theorem acOk_nil {M' : Mem} : AcOk ue j [] M' = True := by simp [AcOk]
theorem acOk_none {i : Nat} {N M' : Mem} : AcOk ue j ((i, none, N) :: rs) M' = AcOk ue j rs M' := by simp [AcOk]
theorem acOk_some {i A : Nat} {N M' : Mem} : AcOk ue j ((i, some A, N) :: rs) M' = (((i, j) ∈ ue → M'.get A = N.get A) ∧ AcOk ue j rs M') := by simp [AcOk]
theorem rdOk_nil {dep : Option Nat} : RdOk [] [] base j dep ms M = True := by simp [RdOk]
theorem acOk_nilE {M' : Mem} : AcOk [] j rs M' = True := by simp [AcOk]
theorem frOk_eq : FrOk base j ms M = (M.get (off base j) = none ∧ ∀ p ∈ ms, p.2.get (off base j) = none) := rfl
end
attribute [go_sem] eNil eCons eP eR eA eE ePv eRv eAv eEv eEc kd_move kd_assign kd_pick kd_nil kd_fieldAddr kd_indexAddr kd_field kd_index kd_extract kd_build kd_iface kd_func kd_un kd_bin kd_load kd_slice kd_len kd_min kd_max kd_convS kd_convR kd_box kd_alloc kd_buildSlice kd_store kd_callv kd_append kd_copy
attribute [go_sem] off_loc rd_load rd_slice rd_conv rd_call bk_ptr bk_slice bk_nil bk_int bk_string al_box al_alloc bsA_of rdOk_nil acOk_nilE rdOk_none rdOk_some acOk_nil acOk_none acOk_some frOk_eq
attribute [go_sem] List.mem_cons List.not_mem_nil Prod.mk.injEq false_or or_false or_self and_false false_implies implies_true forall_eq_or_imp forall_eq  List.replicate_succ List.replicate_zero Nat.add_assoc
end Go.Ab
