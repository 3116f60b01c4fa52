/- Operations on memory, by tables of types: equations for 'simp only'. -/
import Derived.Test.YtgffnmnkoohgkaaAbY
set_option linter.unusedSimpArgs false
set_option linter.unusedVariables false
namespace Go.Ab

section
variable {P : Program} {r : Env} {M : Mem} {ops : Array Oper} {rest : List Oper} {K : Env → Mem → Prop} {Kv : Value → Mem → Prop}
variable {d : Option Tmp} {op : Op} {ty : TypeId} {p : String} {af : Array Edge} {g : Option (Nat × Bool)}

/-! ### What the operations ask of a type -/
/-- Is it a row of cells? how many? -/
def tk (P : Program) (t : TypeId) : Option (Bool × Nat) :=
  match P.underlying t, P.info? t with
  | some d, some i => some (d.isRow, i.size)
  | _, _ => none
def sz (P : Program) (t : TypeId) : Option Nat :=
  match P.info? t with
  | some i => some i.size
  | none => none
/-- A field's offset, and its type. -/
def fo (P : Program) (s : TypeId) (f : Nat) : Option (Nat × TypeId) :=
  match P.underlying s with
  | some (.struct fields) =>
    match fields[f]? with
    | some fd => some (fd.offset, fd.type)
    | none => none
  | _ => none
/-- A slice's, or an array's, elements. -/
def el (P : Program) (t : TypeId) : Option (Bool × Nat × TypeId) :=
  match P.underlying t with
  | some (.slice e) => some (true, 0, e)
  | some (.array n e) => some (false, n, e)
  | _ => none
/-- A struct's or an array's zero cells, and the places of its parts. -/
def bd (P : Program) (t : TypeId) : Option (List Value × List (Nat × Nat)) :=
  match P.info? t, P.underlying t with
  | some it, some (.struct fields) =>
    match it.zero, places P fields.toList with
    | some z, some pl => gd (flat 4 z) (some (z.cells.toList, pl))
    | _, _ => none
  | _, _ => none
/-- Of a type of elements: cells, bytes, zero cells. -/
def ez (P : Program) (e : TypeId) : Option (Nat × Nat × List Value) :=
  match P.info? e with
  | some i =>
    match i.zero with
    | some z => gd (flat 4 z && Nat.beq z.cells.size i.size && Nat.blt 0 i.size) (some (i.size, i.bytes, z.cells.toList))
    | none => none
  | none => none

def ldK (k : Option (Bool × Nat)) (o : Nat) (x : Option AObj) : Option Value :=
  match k, x with
  | some (true, n), some (.cells cs _ _) => gd (Nat.beq ((cs.drop o).take n).length n) (some (.agg ((cs.drop o).take n).toArray))
  | some (false, _), some (.cells cs _ _) => cs[o]?
  | _, _ => none
theorem aload_tk {t : TypeId} {A o : Nat} : aload P t M (.pointer (some ⟨A, o, none⟩)) = ldK (tk P t) o (M.get A) := by
  unfold aload tk
  simp only
  cases M.get A with
  | none => cases P.underlying t <;> cases P.info? t <;> simp [ldK]
  | some x =>
    cases x with
    | map es c => cases P.underlying t <;> cases P.info? t <;> simp [ldK]
    | cells cs esz ro =>
      cases P.underlying t with
      | none => rfl
      | some d =>
        cases P.info? t with
        | none => rfl
        | some i =>
          simp only [ldK]
          cases d.isRow <;> rfl
theorem ldK_one {n o : Nat} {cs : List Value} {e : Nat} {ro : Bool} : ldK (some (false, n)) o (some (.cells cs e ro)) = cs[o]? := rfl
theorem ldK_row {n o : Nat} {cs : List Value} {e : Nat} {ro : Bool} : ldK (some (true, n)) o (some (.cells cs e ro)) = gd (Nat.beq ((cs.drop o).take n).length n) (some (.agg ((cs.drop o).take n).toArray)) := rfl

def stK (k : Option Nat) (M : Mem) (A o : Nat) (x : Option AObj) (vs : List Value) : Option Mem :=
  match k, x with
  | some n, some (.cells cs esz false) => gd (Nat.beq vs.length n && Nat.ble (o + vs.length) cs.length && vs.all one) (some (M.set A (.cells (splice cs o vs) esz false)))
  | _, _ => none
theorem astore_sz {t : TypeId} {A o : Nat} {v : Value} : astore P t M (.pointer (some ⟨A, o, none⟩)) v = stK (sz P t) M A o (M.get A) v.cells.toList := by
  unfold astore sz
  simp only
  cases M.get A with
  | none => cases P.info? t <;> rfl
  | some x =>
    cases x with
    | map es c => cases P.info? t <;> rfl
    | cells cs esz ro =>
      cases ro <;> cases P.info? t <;> rfl
theorem stK_of {n A o : Nat} {cs vs : List Value} {esz : Nat} : stK (some n) M A o (some (.cells cs esz false)) vs = gd (Nat.beq vs.length n && Nat.ble (o + vs.length) cs.length && vs.all one) (some (M.set A (.cells (splice cs o vs) esz false))) := rfl

theorem abox_sz {t : TypeId} {v : Value} : abox P t M v = (sz P t).map fun n => (.pointer (some ⟨M.next, 0, none⟩), M.new (.cells v.cells.toList n false)) := by
  unfold abox sz
  cases P.info? t <;> rfl
theorem oAlloc {t : TypeId} : vOp P r ⟨d, .alloc t, ty, p, af, g⟩ M = (azero P t).bind fun z => omem (abox P t M z) := by
  simp only [vOp, vop, aop]
  rw [show okOp ⟨d, .alloc t, ty, p, af, g⟩ = true from rfl]
  cases azero P t <;> rfl

def faK (A o : Nat) (x : Option (Nat × TypeId)) (P : Program) : Option Value :=
  match x with
  | some (k, t) =>
    match sz P t with
    | some n => gd (Nat.blt 0 n) (some (.pointer (some ⟨A, o + k, none⟩)))
    | none => none
  | none => none
theorem afield_fo {s : TypeId} {f A o : Nat} : afield P s f (.pointer (some ⟨A, o, none⟩)) = faK A o (fo P s f) P := by
  unfold afield fo faK sz
  simp only
  cases P.underlying s with
  | none => rfl
  | some dd =>
    cases dd <;> try rfl
    rename_i fields
    simp only
    cases fields[f]? with
    | none => rfl
    | some fd =>
      simp only
      cases P.info? fd.type <;> rfl
theorem faK_of {A o k : Nat} {t : TypeId} : faK A o (some (k, t)) P = (sz P t).bind fun n => gd (Nat.blt 0 n) (some (.pointer (some ⟨A, o + k, none⟩))) := by
  unfold faK
  simp only
  cases sz P t <;> rfl

def ptK (k : Option (Bool × Nat)) (cs : Array Value) (off : Nat) : Option Value :=
  match k with
  | some (true, n) => some (.agg (cs.extract off (off + n)))
  | some (false, _) => cs[off]?
  | none => none
theorem apart_tk {t : TypeId} {cs : Array Value} {off : Nat} : apart P t cs off = ptK (tk P t) cs off := by
  unfold apart tk ptK
  cases P.underlying t with
  | none => rfl
  | some d =>
    cases P.info? t with
    | none => rfl
    | some i => simp only; cases d.isRow <;> rfl
theorem ptK_one {n off : Nat} {cs : Array Value} : ptK (some (false, n)) cs off = cs[off]? := rfl
theorem ptK_row {n off : Nat} {cs : Array Value} : ptK (some (true, n)) cs off = some (.agg (cs.extract off (off + n))) := rfl
def foK (x : Option (Nat × TypeId)) (P : Program) (cs : Array Value) : Option Value :=
  match x with
  | some (k, t) => apart P t cs k
  | none => none
theorem afieldOf_fo {s : TypeId} {f : Nat} {cs : Array Value} : afieldOf P s f (.agg cs) = foK (fo P s f) P cs := by
  unfold afieldOf fo foK
  simp only
  cases P.underlying s with
  | none => rfl
  | some dd =>
    cases dd <;> try rfl
    rename_i fields
    simp only
    cases fields[f]? <;> rfl
theorem foK_of {k : Nat} {t : TypeId} {cs : Array Value} : foK (some (k, t)) P cs = apart P t cs k := rfl

def bdK (x : Option (List Value × List (Nat × Nat))) (ps : List (Nat × Value)) : Option Value :=
  match x with
  | some (z, pl) => (afill (fun k => pl[k]?) z ps).map fun cs => .agg cs.toArray
  | none => none
theorem abuild_bd {t : TypeId} {x : List Value × List (Nat × Nat)} {ps : List (Nat × Value)} (h : bd P t = some x) : abuild P t ps = bdK (some x) ps := by
  unfold bd at h
  split at h
  · rename_i it fields h1 h2
    split at h
    · rename_i z pl h3 h4
      obtain ⟨h5, h⟩ := gd_some h
      obtain rfl := Option.some.inj h
      unfold abuild bdK
      rw [h1, h2]
      simp only [h3, h4, h5]
      rfl
    · cases h
  · cases h
theorem bdK_of {z : List Value} {pl : List (Nat × Nat)} {ps : List (Nat × Value)} : bdK (some (z, pl)) ps = (afill (fun k => pl[k]?) z ps).map fun cs => .agg cs.toArray := rfl
theorem afill_nil {f : Nat → Option (Nat × Nat)} {cs : List Value} : afill f cs [] = some cs := rfl
theorem afill_cons {f : Nat → Option (Nat × Nat)} {cs : List Value} {i : Nat} {v : Value} {ps : List (Nat × Value)} : afill f cs ((i, v) :: ps) = (f i).bind fun x =>
    gd (Nat.beq v.cells.toList.length x.2 && Nat.ble (x.1 + v.cells.toList.length) cs.length) (afill f (splice cs x.1 v.cells.toList) ps) := by
  simp only [afill]
  cases f i <;> rfl

/-- Zeros, for so many elements. -/
def zs : Nat → List Value → List Value
  | 0, _ => []
  | k + 1, z => z ++ zs k z
theorem zs_zero {z : List Value} : zs 0 z = [] := rfl
theorem zs_succ {k : Nat} {z : List Value} : zs (k + 1) z = z ++ zs k z := rfl
theorem zs_length (z : List Value) : ∀ k, (zs k z).length = k * z.length
  | 0 => by simp [zs]
  | k + 1 => by simp [zs, zs_length z k, Nat.add_mul, Nat.add_comm]
theorem zs_eq (z : List Value) (hz : 0 < z.length) : ∀ k, (List.range (k * z.length)).map (fun j => z.getD (j % z.length) default) = zs k z
  | 0 => by simp [zs]
  | k + 1 => by
    apply List.ext_getElem?
    intro i
    simp only [zs, List.getElem?_map, List.getElem?_append]
    by_cases h : i < (k + 1) * z.length
    · rw [List.getElem?_range h]
      simp only [Option.map_some]
      by_cases h2 : i < z.length
      · rw [if_pos h2, Nat.mod_eq_of_lt h2, List.getD_eq_getElem?_getD, List.getElem?_eq_getElem h2]; rfl
      · rw [if_neg h2, ← zs_eq z hz k]
        have h3 : i - z.length < k * z.length := by rw [Nat.add_mul] at h; omega
        rw [List.getElem?_map, List.getElem?_range h3]
        simp only [Option.map_some]
        rw [← Nat.mod_eq_sub_mod (by omega)]
    · have e1 : (List.range ((k + 1) * z.length))[i]? = none := List.getElem?_eq_none (by rw [List.length_range]; omega)
      rw [e1]
      have h4 := zs_length z k
      rw [Nat.add_mul] at h
      rw [if_neg (by omega), List.getElem?_eq_none (by omega)]
      rfl

def bsK (x : Option (Nat × Nat × List Value)) (len : Nat) (ps : List (Nat × Value)) (M : Mem) : Option (Value × Mem) :=
  match x with
  | some (n, _, z) => gd (Nat.ble (len * n) 16777216)
      (match afill (fun i => some (i * n, n)) (zs len z) ps with
       | some cs => gd (Nat.beq cs.length (len * n)) (some (.slice (some ⟨M.next, 0, none⟩) len len, M.new (.cells cs n false)))
       | none => none)
  | none => none
theorem abuildSlice_ez {t e : TypeId} {len : Nat} {ps : List (Nat × Value)} {x : Nat × Nat × List Value} (h1 : el P t = some (true, 0, e)) (h2 : ez P e = some x) : abuildSlice P t len ps M = bsK (some x) len ps M := by
  unfold el at h1
  unfold ez at h2
  split at h1
  · rename_i e' hu
    simp only [Option.some.injEq, Prod.mk.injEq, true_and] at h1
    subst h1
    split at h2
    · rename_i i hi
      split at h2
      · rename_i z hz
        obtain ⟨hg, h2⟩ := gd_some h2
        obtain rfl := Option.some.inj h2
        simp only [Bool.and_eq_true] at hg
        obtain ⟨⟨g1, g2⟩, g3⟩ := hg
        unfold abuildSlice bsK
        simp only [hu, hi, hz, g1, g3, Bool.true_and]
        have e2 : zrow z (len * i.size) = zs len z.cells.toList := by
          have e3 : z.cells.toList.length = i.size := by rw [← beq_eq g2]; simp
          rw [← zs_eq _ (by rw [e3]; exact blt_iff.1 g3), e3]
          unfold zrow; rw [beq_eq g2]
        rw [e2]
        rfl
      · cases h2
    · cases h2
  · simp at h1
  · cases h1

/-! ### Addresses of elements -/
theorem aindex_slice {t e : TypeId} {A o l c : Nat} {k : IntKind} {n : Int} {s i : Nat} (h1 : el P t = some (true, 0, e)) (h2 : sz P e = some s) (hn : n = i) (hi : i < l) :
    aindex P t (.slice (some ⟨A, o, none⟩) l c) (.int k n) = some (.pointer (some ⟨A, o + i * s, none⟩)) := by
  unfold el at h1
  unfold sz at h2
  split at h1
  · rename_i e' hu
    simp only [Option.some.injEq, Prod.mk.injEq, true_and] at h1
    subst h1
    split at h2
    · rename_i x hx
      obtain rfl := Option.some.inj h2
      subst hn
      unfold aindex
      simp only [hu, hx, idx, blt_iff.2 hi, gd]
    · cases h2
  · simp at h1
  · cases h1
theorem aindex_array {t e : TypeId} {A o len : Nat} {k : IntKind} {n : Int} {s i : Nat} (h1 : el P t = some (false, len, e)) (h2 : sz P e = some s) (hn : n = i) (hi : i < len) :
    aindex P t (.pointer (some ⟨A, o, none⟩)) (.int k n) = some (.pointer (some ⟨A, o + i * s, none⟩)) := by
  unfold el at h1
  unfold sz at h2
  split at h1
  · simp at h1
  · rename_i len' e' hu
    simp only [Option.some.injEq, Prod.mk.injEq, true_and] at h1
    obtain ⟨rfl, rfl⟩ := h1
    split at h2
    · rename_i x hx
      obtain rfl := Option.some.inj h2
      subst hn
      unfold aindex
      simp only [hu, hx, idx, blt_iff.2 hi, gd]
    · cases h2
  · cases h1

/-! ### Cells -/
theorem cl_agg {c : Array Value} : (Value.agg c).cells = c := rfl
theorem cl_int {k : IntKind} {n : Int} : (Value.int k n).cells = #[.int k n] := rfl
theorem cl_bool {b : Bool} : (Value.bool b).cells = #[.bool b] := rfl
theorem cl_string {b : ByteArray} : (Value.string b).cells = #[.string b] := rfl
theorem cl_ptr {b : Option Addr} : (Value.pointer b).cells = #[.pointer b] := rfl
theorem cl_slice {b : Option Addr} {l c : Nat} : (Value.slice b l c).cells = #[.slice b l c] := rfl
theorem cl_map {b : Option Nat} : (Value.map b).cells = #[.map b] := rfl
theorem cl_func {f : Fn} {a b : Array Value} : (Value.func f a b).cells = #[.func f a b] := rfl
theorem cl_nilFunc : Value.nilFunc.cells = #[.nilFunc] := rfl
theorem cl_nilIface : Value.nilIface.cells = #[.nilIface] := rfl
theorem cl_iface {t : TypeId} {v : Value} : (Value.iface t v).cells = #[.iface t v] := rfl
theorem on_int {k : IntKind} {n : Int} : one (.int k n) = true := rfl
theorem on_bool {b : Bool} : one (.bool b) = true := rfl
theorem on_string {b : ByteArray} : one (.string b) = true := rfl
theorem on_ptr {b : Option Addr} : one (.pointer b) = true := rfl
theorem on_slice {b : Option Addr} {l c : Nat} : one (.slice b l c) = true := rfl
theorem on_map {b : Option Nat} : one (.map b) = true := rfl
theorem on_func {f : Fn} {a b : Array Value} : one (.func f a b) = true := rfl
theorem on_nilFunc : one .nilFunc = true := rfl
theorem on_nilIface : one .nilIface = true := rfl
theorem on_iface {t : TypeId} {v : Value} : one (.iface t v) = true := rfl

theorem exTuple {c : Array Value} {k : Nat} : aextract k (.tuple c) = c[k]? := rfl
theorem anil_ptr {a : Addr} : anil (.pointer (some a)) = some (.pointer (some a)) := rfl
theorem anil_func {f : FuncId} {x y : Array Value} : anil (.func (.func f) x y) = some (.func (.func f) x y) := rfl

/-! ### Calls -/
theorem okCall {f : Operand} {xs : Array Operand} {ts : Array TypeId} : okOp ⟨d, .call ⟨.value f, xs, ts⟩, ty, p, af, g⟩ = (okOperand f && xs.toList.all okOperand) := by
  simp [okOp, Op.operands, Call.operands]
theorem oCallV {f : Operand} {xs : Array Operand} {ts : Array TypeId} : vOp P r ⟨d, .call ⟨.value f, xs, ts⟩, ty, p, af, g⟩ M =
    gd (okOperand f && xs.toList.all okOperand) (acall P (r.eval f) (xs.toList.map r.eval)) := by
  simp only [vOp, vop, aop, okCall]
theorem acall_func {f : FuncId} {x y : Array Value} {args : List Value} : acall P (.func (.func f) x y) args = gd (callable P f) (some (.call f (x.toList ++ args ++ y.toList))) := rfl
theorem eFunc {f : FuncId} : r.eval (.func f) = .func (.func f) #[] #[] := rfl
theorem eGlobal {f : Nat} : r.eval (.global f) = .pointer (some ⟨f, 0, none⟩) := rfl
theorem oMakeFunc {fn : Fn} {f c : Array Operand} : vOp P r ⟨d, .makeFunc fn f c, ty, p, af, g⟩ M =
    gd (f.toList.all okOperand && c.toList.all okOperand) (gd (Fn.plain fn) (some (.val (.func fn (f.toList.map r.eval).toArray (c.toList.map r.eval).toArray) M))) := by
  simp only [vOp, vop, aop]
  congr 1
  simp [okOp, Op.operands]
theorem oBuild {t : TypeId} {ps : Array (Nat × Operand)} : vOp P r ⟨d, .build t ps, ty, p, af, g⟩ M = gd (ps.toList.all fun x => okOperand x.2) (oval (abuild P t (ps.toList.map fun x => (x.1, r.eval x.2))) M) := by
  simp only [vOp, vop, aop]
  congr 1
  simp [okOp, Op.operands, Function.comp_def]
theorem oBuildSlice {t : TypeId} {n : Nat} {ps : Array (Nat × Operand)} : vOp P r ⟨d, .buildSlice t n ps, ty, p, af, g⟩ M = gd (ps.toList.all fun x => okOperand x.2) (omem (abuildSlice P t n (ps.toList.map fun x => (x.1, r.eval x.2)) M)) := by
  simp only [vOp, vop, aop]
  congr 1
  simp [okOp, Op.operands, Function.comp_def]
theorem oIndex {t : TypeId} {x i : Operand} {c : Array Value} (h : r.eval x = .agg c) : vOp P r ⟨d, .index t x i, ty, p, af, g⟩ M = gd (okOperand x && (okOperand i && true)) (oval (aindexOf P t (r.eval x) (r.eval i)) M) := by
  simp only [vOp, vop, aop, h]
  rfl
def optOk : Option Operand → Bool
  | none => true
  | some x => okOperand x
theorem oSlice {t : TypeId} {x : Operand} {lo hi mx : Option Operand} {a : Option Addr} {l c : Nat} (h : r.eval x = .slice a l c) : vOp P r ⟨d, .slice t x lo hi mx, ty, p, af, g⟩ M =
    gd (okOperand x && optOk lo && optOk hi && optOk mx) (gd (intOr (lo.map r.eval) && intOr (hi.map r.eval) && intOr (mx.map r.eval)) (oval (aslice P t M (.slice a l c) (lo.map r.eval) (hi.map r.eval) (mx.map r.eval)) M)) := by
  simp only [vOp, vop, aop, h]
  congr 1
  cases lo <;> cases hi <;> cases mx <;> simp [okOp, Op.operands, optOk, Bool.and_assoc]
end
end Go.Ab
