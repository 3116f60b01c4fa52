/- The set of equations for walks; regions whose order is drawn, in memory's form. -/
import Derived.Test.YtgffnmnkoohgkaaAbSl
set_option linter.unusedSimpArgs false
set_option linter.unusedVariables false
namespace Go.Ab
section
variable {P : Program} {r : Env} {M : Mem} {ops : Array Oper} {rest : List Oper} {K : Env → Mem → Prop} {Kv : Value → Mem → Prop}
theorem look_nil {A : Nat} : look M [] A = M.get A := rfl
theorem look_cons {A B : Nat} {y : Option AObj} {b : List (Nat × Option AObj)} : look M ((B, y) :: b) A = if A = B then y else look M b A := rfl
theorem upd_nil {A : Nat} {x : Option AObj} : upd [] A x = [(A, x)] := rfl
theorem upd_cons {A B : Nat} {x y : Option AObj} {b : List (Nat × Option AObj)} : upd ((B, y) :: b) A x = if A = B then (A, x) :: b else (B, y) :: upd b A x := rfl
theorem laid_ob {x : Option AObj} : laid (some (some x)) = true := by simp [laid]
theorem obj_ob {x : Option AObj} : Slot.obj (some (some x)) = x := rfl
theorem gd_of {α : Type} {b : Bool} {x : Option α} (h : b = true) : gd b x = x := by subst h; rfl
theorem splice_def {cs vs : List Value} {o : Nat} : splice cs o vs = cs.take o ++ vs ++ cs.drop (o + vs.length) := rfl
theorem bsK_of {n zb : Nat} {z : List Value} {len : Nat} {ps : List (Nat × Value)} : bsK (some (n, zb, z)) len ps M = gd (Nat.ble (len * n) 16777216)
    ((afill (fun i => some (i * n, n)) (zs len z) ps).bind fun cs =>
      gd (Nat.beq cs.length (len * n)) (some (.slice (some ⟨M.next, 0, none⟩) len len, M.new (.cells cs n false)))) := by
  unfold bsK
  simp only
  congr 1
  cases afill (fun i => some (i * n, n)) (zs len z) ps <;> rfl
theorem osome {α β : Type} {a : α} {f : α → Option β} : (some a).bind f = f a := rfl
theorem omap {α β : Type} {a : α} {f : α → β} : (some a).map f = some (f a) := rfl
theorem wantedNone : (none : Option Operand).map r.eval = none := rfl

/-- As W.pDraw, memory in its form. -/
theorem W.pDrawX (hm : P.follows .mixedOrders = true) {c : Code} {n : Nat} {b : List (Nat × Option AObj)} {s : List Slot} {K : Ex → Env → Mem → Prop} {l : List Oper} {call : CallF} (hC : CallsOk P call) (hc : drawOpsOf c = some l)
    (hpr : prOps P l = true) (hd : drawOk P (arrOf c) = true) (hs : r.size = n) (hf : dstsFit l n = true) (h : OpsD P call (arrOf c) l r (X M b (s ++ List.replicate l.length none)) (K .normal)) : W P c r (X M b s) K := by
  refine W.pDraw hm hC hc hpr hd hs hf ?_
  rw [X_skip]; exact h
theorem W.pDrawRowX (hm : P.follows .mixedOrders = true) {c : Code} {n : Nat} {b : List (Nat × Option AObj)} {s : List Slot} {K : Ex → Env → Mem → Prop} {l : List Oper} {call : CallF} (hC : CallsOk P call) (hq : isSeq c = true) (hc : drawOpsOf (L c) = some l)
    (hpr : prOps P l = true) (hd : drawOk P (arrOf (L c)) = true) (hs : r.size = n) (hf : dstsFit l n = true) (h : OpsD P call (arrOf (L c)) l r (X M b (s ++ List.replicate l.length none)) (fun r' M' => W P (R c) r' M' K)) : W P c r (X M b s) K :=
  W.pSeq hq (W.pDrawX hm hC hc hpr hd hs hf h)
theorem noCalls : CallsOk P (fun _ _ _ => none) := fun f args M v M' h => by cases h

/-- What the type is, where nil is compared. -/
def isPtr : Option TypeDesc → Bool
  | some (.pointer _) => true
  | _ => false
def isSli : Option TypeDesc → Bool
  | some (.slice _) => true
  | _ => false
def isFun : Option TypeDesc → Bool
  | some (.func _ _ _) => true
  | _ => false
theorem vbin_eq_nil {o : Oper} {t : TypeId} {x y : Value} {b : Bool} (h : aeqnil P t x y = some b) (hi : ∀ k n, x ≠ .int k n) (hs : ∀ k, x ≠ .string k) :
    vbin P r o .eql t x y M = some (.val (.bool b) M) ∧ vbin P r o .neq t x y M = some (.val (.bool (!b)) M) := by
  unfold vbin
  split
  · rename_i k a k' b' ; exact absurd rfl (hi k a)
  · rename_i a b'; exact absurd rfl (hs a)
  · simp only [aeq, h, Option.map_some, and_self]
theorem nq_pp {o : Oper} {t : TypeId} {a : Addr} (h : isPtr (P.underlying t) = true) : vbin P r o .eql t (.pointer (some a)) (.pointer none) M = some (.val (.bool false) M) := by
  refine (vbin_eq_nil (b := false) ?_ (fun _ _ h => by cases h) (fun _ h => by cases h)).1
  unfold isPtr at h; split at h
  · rename_i e; simp only [aeqnil, e]
  · cases h
theorem nn_pp {o : Oper} {t : TypeId} {a : Addr} (h : isPtr (P.underlying t) = true) : vbin P r o .neq t (.pointer (some a)) (.pointer none) M = some (.val (.bool true) M) := by
  refine (vbin_eq_nil (b := false) ?_ (fun _ _ h => by cases h) (fun _ h => by cases h)).2
  unfold isPtr at h; split at h
  · rename_i e; simp only [aeqnil, e]
  · cases h
theorem nq_p0 {o : Oper} {t : TypeId} (h : isPtr (P.underlying t) = true) : vbin P r o .eql t (.pointer none) (.pointer none) M = some (.val (.bool true) M) := by
  refine (vbin_eq_nil (b := true) ?_ (fun _ _ h => by cases h) (fun _ h => by cases h)).1
  unfold isPtr at h; split at h
  · rename_i e; simp only [aeqnil, e]
  · cases h
theorem nn_p0 {o : Oper} {t : TypeId} (h : isPtr (P.underlying t) = true) : vbin P r o .neq t (.pointer none) (.pointer none) M = some (.val (.bool false) M) := by
  refine (vbin_eq_nil (b := true) ?_ (fun _ _ h => by cases h) (fun _ h => by cases h)).2
  unfold isPtr at h; split at h
  · rename_i e; simp only [aeqnil, e]
  · cases h
theorem nq_ss {o : Oper} {t : TypeId} {a : Addr} {l c : Nat} (h : isSli (P.underlying t) = true) : vbin P r o .eql t (.slice (some a) l c) (.slice none 0 0) M = some (.val (.bool false) M) := by
  refine (vbin_eq_nil (b := false) ?_ (fun _ _ h => by cases h) (fun _ h => by cases h)).1
  unfold isSli at h; split at h
  · rename_i e; simp only [aeqnil, e]
  · cases h
theorem nn_ss {o : Oper} {t : TypeId} {a : Addr} {l c : Nat} (h : isSli (P.underlying t) = true) : vbin P r o .neq t (.slice (some a) l c) (.slice none 0 0) M = some (.val (.bool true) M) := by
  refine (vbin_eq_nil (b := false) ?_ (fun _ _ h => by cases h) (fun _ h => by cases h)).2
  unfold isSli at h; split at h
  · rename_i e; simp only [aeqnil, e]
  · cases h
theorem nq_s0 {o : Oper} {t : TypeId} (h : isSli (P.underlying t) = true) : vbin P r o .eql t (.slice none 0 0) (.slice none 0 0) M = some (.val (.bool true) M) := by
  refine (vbin_eq_nil (b := true) ?_ (fun _ _ h => by cases h) (fun _ h => by cases h)).1
  unfold isSli at h; split at h
  · rename_i e; simp only [aeqnil, e]
  · cases h
theorem nn_s0 {o : Oper} {t : TypeId} (h : isSli (P.underlying t) = true) : vbin P r o .neq t (.slice none 0 0) (.slice none 0 0) M = some (.val (.bool false) M) := by
  refine (vbin_eq_nil (b := true) ?_ (fun _ _ h => by cases h) (fun _ h => by cases h)).2
  unfold isSli at h; split at h
  · rename_i e; simp only [aeqnil, e]
  · cases h
theorem nn_ff {o : Oper} {t : TypeId} {f : Fn} {a b : Array Value} (h : isFun (P.underlying t) = true) : vbin P r o .neq t (.func f a b) .nilFunc M = some (.val (.bool true) M) := by
  refine (vbin_eq_nil (b := false) ?_ (fun _ _ h => by cases h) (fun _ h => by cases h)).2
  unfold isFun at h; split at h
  · rename_i e; simp only [aeqnil, e]
  · cases h
theorem nn_f0 {o : Oper} {t : TypeId} (h : isFun (P.underlying t) = true) : vbin P r o .neq t .nilFunc .nilFunc M = some (.val (.bool false) M) := by
  refine (vbin_eq_nil (b := true) ?_ (fun _ _ h => by cases h) (fun _ h => by cases h)).2
  unfold isFun at h; split at h
  · rename_i e; simp only [aeqnil, e]
  · cases h

/-! ### Parts of slices; elements of arrays -/
variable {d : Option Tmp} {ty : TypeId} {p : String} {af : Array Edge} {g : Option (Nat × Bool)}
def slK (P : Program) (t : TypeId) (M : Mem) (v : Value) (lo hi mx : Option Value) (alt : Option Out) : Option Out :=
  match v with
  | .slice a l c => gd (intOr lo && intOr hi && intOr mx) (oval (aslice P t M (.slice a l c) lo hi mx) M)
  | _ => alt
theorem oSliceK {t : TypeId} {x : Operand} {lo hi mx : Option Operand} : vOp P r ⟨d, .slice t x lo hi mx, ty, p, af, g⟩ M =
    gd (okOperand x && optOk lo && optOk hi && optOk mx) (slK P t M (r.eval x) (lo.map r.eval) (hi.map r.eval) (mx.map r.eval) (oval (aflat P r ⟨d, .slice t x lo hi mx, ty, p, af, g⟩) M)) := by
  unfold vOp
  have : okOp ⟨d, .slice t x lo hi mx, ty, p, af, g⟩ = (okOperand x && optOk lo && optOk hi && optOk mx) := by
    cases lo <;> cases hi <;> cases mx <;> simp [okOp, Op.operands, optOk, Bool.and_assoc]
  rw [this]
  congr 1
  unfold slK
  simp only [vop, aop]
  cases r.eval x <;> rfl
theorem slK_slice {t : TypeId} {a : Option Addr} {l c : Nat} {lo hi mx : Option Value} {alt : Option Out} : slK P t M (.slice a l c) lo hi mx alt = gd (intOr lo && intOr hi && intOr mx) (oval (aslice P t M (.slice a l c) lo hi mx) M) := rfl
theorem optOk_none : optOk none = true := rfl
theorem optOk_some {x : Operand} : optOk (some x) = okOperand x := rfl
theorem intOr_none : intOr none = true := rfl
theorem intOr_int {k : IntKind} {n : Int} : intOr (some (.int k n)) = true := rfl
theorem omapS {x : Operand} : (some x).map r.eval = some (r.eval x) := rfl

/-- Conversions of numbers. -/
def cvK (a b : Option TypeDesc) (n : Int) (M : Mem) (x : Option Out) : Option Out :=
  match a, b with
  | some _, some (.int k) => some (.val (.int k (k.wrap n)) M)
  | _, _ => x
theorem vconv_cv {o : Oper} {s t : TypeId} {k : IntKind} {n : Int} : vconv P r o s t (.int k n) M = cvK (P.underlying s) (P.underlying t) n M (aop P r o M) := rfl
theorem cvK_int {a : TypeDesc} {k : IntKind} {n : Int} {x : Option Out} : cvK (some a) (some (.int k)) n M x = some (.val (.int k (k.wrap n)) M) := rfl

/-- An element's address, by the tables. -/
def aiK (x : Option (Bool × Nat × TypeId)) (P : Program) (A o l : Nat) (n : Int) : Option Value :=
  match x with
  | some (true, _, e) => (sz P e).bind fun s => if 0 ≤ n ∧ n < l then some (.pointer (some ⟨A, o + n.toNat * s, none⟩)) else none
  | _ => none
theorem aindex_sl {t : TypeId} {A o l c : Nat} {k : IntKind} {n : Int} : aindex P t (.slice (some ⟨A, o, none⟩) l c) (.int k n) = aiK (el P t) P A o l n := by
  unfold aindex el aiK sz
  cases P.underlying t with
  | none => rfl
  | some d =>
    cases d <;> try rfl
    rename_i e
    simp only
    cases P.info? e with
    | none => cases idx l (.int k n) <;> rfl
    | some i =>
      simp only [Option.bind_some]
      cases n with
      | ofNat m =>
        simp only [idx]
        by_cases h : m < l
        · rw [blt_iff.2 h, if_pos ⟨by simp, by simp; omega⟩]; rfl
        · have : Nat.blt m l = false := by
            cases e : Nat.blt m l with
            | false => rfl
            | true => exact absurd (blt_iff.1 e) h
          rw [this, if_neg (by simp; omega)]; rfl
      | negSucc m =>
        simp only [idx]
        rw [if_neg (by omega)]
theorem aiK_of {e : TypeId} {q A o l : Nat} {n : Int} : aiK (some (true, q, e)) P A o l n = (sz P e).bind fun s => if 0 ≤ n ∧ n < l then some (.pointer (some ⟨A, o + n.toNat * s, none⟩)) else none := rfl
def aaK (x : Option (Bool × Nat × TypeId)) (P : Program) (A o : Nat) (n : Int) : Option Value :=
  match x with
  | some (false, l, e) => (sz P e).bind fun s => if 0 ≤ n ∧ n < l then some (.pointer (some ⟨A, o + n.toNat * s, none⟩)) else none
  | _ => none
theorem aindex_ar {t : TypeId} {A o : Nat} {k : IntKind} {n : Int} : aindex P t (.pointer (some ⟨A, o, none⟩)) (.int k n) = aaK (el P t) P A o n := by
  unfold aindex el aaK sz
  cases P.underlying t with
  | none => rfl
  | some d =>
    cases d <;> try rfl
    rename_i l e
    simp only
    cases P.info? e with
    | none => cases idx l (.int k n) <;> rfl
    | some i =>
      simp only [Option.bind_some]
      cases n with
      | ofNat m =>
        simp only [idx]
        by_cases h : m < l
        · rw [blt_iff.2 h, if_pos ⟨by simp, by simp; omega⟩]; rfl
        · have : Nat.blt m l = false := by
            cases e : Nat.blt m l with
            | false => rfl
            | true => exact absurd (blt_iff.1 e) h
          rw [this, if_neg (by simp; omega)]; rfl
      | negSucc m =>
        simp only [idx]
        rw [if_neg (by omega)]
theorem aaK_of {e : TypeId} {l A o : Nat} {n : Int} : aaK (some (false, l, e)) P A o n = (sz P e).bind fun s => if 0 ≤ n ∧ n < l then some (.pointer (some ⟨A, o + n.toNat * s, none⟩)) else none := rfl
theorem wrap_u8_id {n : Int} (h1 : 0 ≤ n) (h2 : n < 256) : IntKind.u8.wrap n = n := by
  simp [IntKind.wrap, IntKind.bits, IntKind.signed]; omega
theorem wrap_u8_eq (n : Int) : IntKind.u8.wrap n = n % 256 := by simp [IntKind.wrap, IntKind.bits, IntKind.signed]
theorem loc_lt {N : Mem} {i j : Nat} : (loc N i < loc N j) = (i < j) := by unfold loc; simp
theorem loc_eq {N : Mem} {i j : Nat} : (loc N i = loc N j) = (i = j) := by unfold loc; simp
theorem lt_loc {N : Mem} {A i : Nat} (h : A < N.next) : (A < loc N i) = True := by unfold loc; simp; omega
theorem ne_loc {N : Mem} {A i : Nat} (h : A < N.next) : (A = loc N i) = False := by unfold loc; simp; omega
theorem loc_ne {N : Mem} {A i : Nat} (h : A < N.next) : (loc N i = A) = False := by unfold loc; simp; omega
def cvB (x : Option Value) (M : Mem) (alt : Option Out) : Option Out :=
  match x with
  | some v => some (.val v M)
  | none => alt
theorem vconv_sl {o : Oper} {s t : TypeId} {a : Option Addr} {l c : Nat} : vconv P r o s t (.slice a l c) M = cvB (acvs P s t M (.slice a l c)) M (aop P r o M) := by
  unfold vconv cvB
  simp only
  cases acvs P s t M (.slice a l c) <;> rfl
theorem cvB_some {v : Value} {alt : Option Out} : cvB (some v) M alt = some (.val v M) := rfl
theorem stext_eql {a b : ByteArray} : stext .eql a b = some (.bool (decide (a = b))) := by
  show some (Value.bool (a.toList == b.toList)) = _
  rw [str_beq]
theorem stext_neq {a b : ByteArray} : stext .neq a b = some (.bool (!decide (a = b))) := by
  show some (Value.bool (!(a.toList == b.toList))) = _
  rw [str_beq]
theorem goInt_eq (n : Nat) : goInt n = .int .i64 n := rfl
end
attribute [go_sem] X_next X_new X_get_base X_get_loc X_set_base X_set_loc X_del_base X_del_loc look_nil look_cons upd_nil upd_cons laid_ob obj_ob gd_of osome omap
attribute [go_sem] aload_tk ldK_one ldK_row astore_sz stK_of abox_sz oAlloc afield_fo faK_of apart_tk ptK_one ptK_row afieldOf_fo foK_of bdK_of afill_nil afill_cons bsK_of splice_def
attribute [go_sem] cl_agg cl_int cl_bool cl_string cl_ptr cl_slice cl_map cl_func cl_nilFunc cl_nilIface cl_iface on_int on_bool on_string on_ptr on_slice on_map on_func on_nilFunc on_nilIface on_iface
attribute [go_sem] exTuple anil_ptr anil_func oCallV acall_func eFunc eGlobal oMakeFunc oBuild oBuildSlice IfK_true IfK_false IfK_bool rCell pack0 pack2 pack3 nq_pp nn_pp nq_p0 nn_p0 nq_ss nn_ss nq_s0 nn_s0 nn_ff nn_f0 vconv_cv cvK_int zs_zero zs_succ List.map_cons List.map_nil wantedNone goInt_eq
attribute [go_sem] List.getElem?_cons_zero List.getElem?_cons_succ List.set_cons_zero List.set_cons_succ List.cons_append List.nil_append List.append_nil List.take_succ_cons List.take_zero List.drop_succ_cons List.drop_zero List.all_cons List.all_nil List.getElem?_toArray List.extract_toArray
attribute [go_sem] aindex_sl aiK_of aindex_ar aaK_of
attribute [go_sem] loc_lt loc_eq lt_loc ne_loc loc_ne ne_eq not_false_eq_true
attribute [go_sem] oSliceK slK_slice optOk_none optOk_some intOr_none intOr_int omapS
attribute [go_sem] vconv_sl cvB_some stext_eql stext_neq
attribute [go_sem] UL_succ uK_normal uK_exit uK_ret
attribute [go_sem] Nat.beq_eq Nat.ble_eq Nat.blt_eq Bool.and_true Bool.true_and Bool.and_eq_true Bool.not_true Bool.not_false Bool.or_false Bool.false_or Bool.true_or Bool.or_true Bool.and_false Bool.false_and
attribute [go_sem] decide_eq_true_eq decide_eq_false_iff_not beq_iff_eq bne_iff_ne beq_eq_false_iff_ne forall_const imp_self true_implies Option.bind_some Option.bind_none
end Go.Ab
