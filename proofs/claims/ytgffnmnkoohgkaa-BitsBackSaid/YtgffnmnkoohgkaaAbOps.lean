/- The abstract machine's operations, each with the proof that it stands for the model's. -/
import Derived.Test.YtgffnmnkoohgkaaAbMem
set_option linter.unusedSimpArgs false
set_option linter.unusedVariables false
namespace Go.Ab
open Go.RowKit (Below)

/-! ### Operations without memory -/
def pureRun {α : Type} (P : Program) : Sem α → Option α
  | .pure a => some a
  | .program k => pureRun P (k P)
  | _ => none

theorem pureRun_run {α : Type} {P : Program} {s : Sem α} {v : α} (h : pureRun P s = some v) (w : World) : s.run P w = .ok v w := by
  induction s with
  | pure a => simp [pureRun] at h; subst h; rfl
  | program k ih => simp only [pureRun] at h; simp only [Sem.run]; exact ih P h
  | _ => simp [pureRun] at h

/-- Goes on only where a test holds. -/
def gd {α : Type} (b : Bool) (x : Option α) : Option α :=
  match b with
  | true => x
  | false => none
theorem gd_some {α : Type} {b : Bool} {x : Option α} {v : α} (h : gd b x = some v) : b = true ∧ x = some v := by
  cases b with
  | true => exact ⟨rfl, h⟩
  | false => cases h

/-! ### Variables -/
structure Env where
  size : Nat
  tr : Tr Value

def Env.get (r : Env) (t : Nat) : Value :=
  match r.tr.get t with
  | some v => v
  | none => undef
def Env.set (r : Env) (t : Nat) (v : Value) : Env := bif Nat.blt t r.size then ⟨r.size, r.tr.set t (some v)⟩ else r
def Env.put (r : Env) (d : Option Tmp) (v : Value) : Env :=
  match d with
  | some t => r.set t v
  | none => r
def Env.eval (r : Env) : Operand → Value
  | .tmp t => r.get t
  | .const v => v
  | .global g => .pointer (some ⟨g, 0, none⟩)
  | .func f => .func (.func f) #[] #[]

structure ERel (m : LM) (r : Env) (a : Act) : Prop where
  size : a.tmps.size = r.size
  rel : ∀ t, VRel m (r.get t) (a.tmps.getD t undef)
  defers : a.defers = []
  glob : GlobOk m

theorem blt_iff {a b : Nat} : Nat.blt a b = true ↔ a < b := by simp [Nat.blt_eq]

theorem Env.get_set (r : Env) (t s : Nat) (v : Value) : (r.set t v).get s = if s = t ∧ t < r.size then v else r.get s := by
  unfold Env.set
  by_cases h : t < r.size
  · rw [blt_iff.2 h]
    simp only [cond_true, Env.get, Tr.get_set, h, and_true]
    by_cases e : s = t <;> simp [e]
  · have : Nat.blt t r.size = false := by
      cases e : Nat.blt t r.size with
      | false => rfl
      | true => exact absurd (blt_iff.1 e) h
    rw [this, if_neg (by omega)]; rfl

theorem Env.size_put (r : Env) (d : Option Tmp) (v : Value) : (r.put d v).size = r.size := by
  cases d with
  | none => rfl
  | some t => simp only [Env.put, Env.set]; cases Nat.blt t r.size <;> rfl

theorem ERel.mono {m m' : LM} (hm : m.sub m') {r : Env} {a : Act} (h : ERel m r a) : ERel m' r a := ⟨h.size, fun t => (h.rel t).mono hm, h.defers, h.glob.mono hm⟩

theorem ERel.put {m : LM} {r : Env} {a : Act} (h : ERel m r a) {v u : Value} (hv : VRel m v u) (d : Option Tmp) : ERel m (r.put d v) (a.put d u) := by
  cases d with
  | none => exact h
  | some t =>
    refine ⟨by rw [Env.size_put]; simp [Act.put, h.size], fun s => ?_, h.defers, h.glob⟩
    simp only [Env.put, Act.put]
    rw [Env.get_set]
    have hs := h.size
    simp only [Array.getD_eq_getD_getElem?, Array.getElem?_setIfInBounds]
    by_cases e : s = t
    · subst e
      by_cases hlt : s < r.size
      · rw [if_pos ⟨rfl, hlt⟩, if_pos rfl, if_pos (by omega)]; exact hv
      · rw [if_neg (by omega), if_pos rfl, if_neg (by omega)]
        have := h.rel s
        simp only [Array.getD_eq_getD_getElem?] at this
        rw [Array.getElem?_eq_none (by omega)] at this; exact this
    · rw [if_neg (by omega), if_neg (Ne.symm e)]
      have := h.rel s
      simp only [Array.getD_eq_getD_getElem?] at this; exact this

/-- The constants of an operation stand for themselves. -/
def okOperand : Operand → Bool
  | .const v => flat 4 v
  | .global g => Nat.blt g globs
  | _ => true

theorem ERel.eval {m : LM} {r : Env} {a : Act} (h : ERel m r a) {x : Operand} (hx : okOperand x = true) : VRel m (r.eval x) (a.eval x) := by
  cases x with
  | tmp t => exact h.rel t
  | const v => exact .of_flat m 4 v hx
  | global g =>
    obtain ⟨L, h1, h2, h3⟩ := h.glob g (blt_iff.1 hx)
    have := VRel.ptr (m := m) g 0 L h1
    rw [h2, h3] at this
    exact this
  | func f => exact .func _ rfl _ _ _ _ rfl rfl (fun i v u a _ => by simp at a) (fun i v u a _ => by simp at a)

def okOp (o : Oper) : Bool := o.op.operands.toList.all okOperand

/-! ### What an operation comes to -/
inductive Out where
  | val (v : Value) (M : Mem)
  | call (f : FuncId) (args : List Value)

/-- The model's operation does what the abstract one does. -/
def Fits (P : Program) (N0 : Nat → Prop) (w0 : World) (m : LM) (w : World) (s : Sem Next) : Out → Prop
  | .val v M' => ∃ r w' u m', s.run P w = .ok r w' ∧ (r = .value u ∨ (r = .skip ∧ u = undef)) ∧ m.le m' ∧ VRel m' v u ∧ Rl N0 w0 m' M' w'
  | .call f args => ∃ args', s.run P w = .ok (.enter f args') w ∧ LRel m args args'.toList

section
variable {P : Program} {N0 : Nat → Prop} {w0 : World} {m : LM} {M : Mem} {w : World}

theorem Fits.of_value {s : Sem Value} {v u : Value} (hR : Rl N0 w0 m M w) (h : s.run P w = .ok u w) (hv : VRel m v u) :
    Fits P N0 w0 m w (do pure (.value (← s))) (.val v M) :=
  ⟨.value u, w, u, m, by simp [h], .inl rfl, LM.le_refl m, hv, hR⟩

theorem Fits.of_value' {s : Sem Value} {v u : Value} {w' : World} {m' : LM} {M' : Mem} (hR : Rl N0 w0 m' M' w') (h : s.run P w = .ok u w') (hm : m.le m') (hv : VRel m' v u) :
    Fits P N0 w0 m w (do pure (.value (← s))) (.val v M') :=
  ⟨.value u, w', u, m', by simp [h], .inl rfl, hm, hv, hR⟩

/-! ### load, store, box -/
def aload (P : Program) (t : TypeId) (M : Mem) : Value → Option Value
  | .pointer (some ⟨A, o, none⟩) =>
    match M.get A with
    | some (.cells cs _ _) =>
      match P.underlying t, P.info? t with
      | some d, some i =>
        bif d.isRow then
          let xs := (cs.drop o).take i.size
          gd (Nat.beq xs.length i.size) (some (.agg xs.toArray))
        else cs[o]?
      | _, _ => none
    | _ => none
  | _ => none

theorem beq_eq {a b : Nat} (h : Nat.beq a b = true) : a = b := Nat.eq_of_beq_eq_true h

theorem VRel.agg_list {m : LM} {xs us : List Value} (h : LRel m xs us) : VRel m (.agg xs.toArray) (.agg us.toArray) :=
  .agg _ _ (by simpa using h.1) (fun i v u a b => h.2 i v u (by simpa using a) (by simpa using b))

theorem isAgg_run {t : TypeId} {d : TypeDesc} (hu : P.underlying t = some d) (w : World) : (isAgg t).run P w = .ok d.isRow w := by
  unfold isAgg
  rw [Sem.run_bind, run_underlying hu w]
  cases d <;> simp [TypeDesc.isRow]

theorem aload_sound (hR : Rl N0 w0 m M w) {t : TypeId} {p q v : Value} (hp : VRel m p q) (h : aload P t M p = some v) :
    ∃ u, (Instr.loadAt t q).run P w = .ok u w ∧ VRel m v u := by
  unfold aload at h
  split at h
  · rename_i A o
    cases hp with
    | ptr _ _ L hL =>
    split at h
    · rename_i cs esz ro hA
      obtain ⟨L0, hL0, hO⟩ := hR.obj A _ hA
      obtain rfl : L0 = L := Option.some.inj (hL0.symm.trans hL)
      split at h
      · rename_i d i hd hi
        by_cases hr : d.isRow = true
        · rw [hr] at h
          simp only [cond_true] at h
          replace h := gd_some h; obtain ⟨hlen, h⟩ := h
          obtain ⟨us, h1, h2⟩ := hO.range o i.size
          have hl := beq_eq hlen
          obtain rfl := Option.some.inj h
          refine ⟨.agg us.toArray, ?_, VRel.agg_list h2⟩
          exact run_loadAt_mid w L0.blk (L0.base + o) t us d h1 hd hr (by rw [hi]; have := h2.1; simp only [Option.map_some, Option.some.injEq]; omega)
        · have hr' : d.isRow = false := by simpa using hr
          rw [hr'] at h
          simp only [cond_false] at h
          obtain ⟨u, h1, h2⟩ := hO.read h
          refine ⟨u, ?_, h2⟩
          have hag := isAgg_run (P := P) hd w
          simp [Instr.loadAt, Instr.sureAddr, loadVar, hag, hr', h1]
      · cases h
    · cases h
  · cases h

def splice (cs : List Value) (o : Nat) (vs : List Value) : List Value := cs.take o ++ vs ++ cs.drop (o + vs.length)

def one (v : Value) : Bool :=
  match v with
  | .agg _ | .tuple _ => false
  | _ => true
theorem one_eq (v : Value) : v.oneCell' = one v := by cases v <;> rfl

def astore (P : Program) (t : TypeId) (M : Mem) (p v : Value) : Option Mem :=
  match p with
  | .pointer (some ⟨A, o, none⟩) =>
    match M.get A with
    | some (.cells cs esz false) =>
      match P.info? t with
      | some i =>
        let vs := v.cells.toList
        gd (Nat.beq vs.length i.size && Nat.ble (o + vs.length) cs.length && vs.all one) (some (M.set A (.cells (splice cs o vs) esz false)))
      | none => none
    | _ => none
  | _ => none

theorem VRel.cells {m : LM} {v u : Value} (h : VRel m v u) : LRel m v.cells.toList u.cells.toList := by
  cases h with
  | agg c c' h2 hc => exact ⟨by simpa [Value.cells] using h2, fun i v u a b => hc i v u (by simpa [Value.cells] using a) (by simpa [Value.cells] using b)⟩
  | bool b => exact LRel.cons (.bool b) (LRel.nil m)
  | int k n => exact LRel.cons (.int k n) (LRel.nil m)
  | string s => exact LRel.cons (.string s) (LRel.nil m)
  | ptrNil => exact LRel.cons .ptrNil (LRel.nil m)
  | ptr A o L h => exact LRel.cons (.ptr A o L h) (LRel.nil m)
  | sliceNil => exact LRel.cons .sliceNil (LRel.nil m)
  | slice A o l c' L a' c h hl hc ha => exact LRel.cons (.slice A o l c' L a' c h hl hc ha) (LRel.nil m)
  | mapNil => exact LRel.cons .mapNil (LRel.nil m)
  | map A L h => exact LRel.cons (.map A L h) (LRel.nil m)
  | func fn hp f f' c c' h1 h2 hf hc => exact LRel.cons (.func fn hp f f' c c' h1 h2 hf hc) (LRel.nil m)
  | nilFunc => exact LRel.cons .nilFunc (LRel.nil m)
  | nilIface => exact LRel.cons .nilIface (LRel.nil m)
  | iface t v u h => exact LRel.cons (.iface t v u h) (LRel.nil m)
  | tuple c c' h2 hc => exact LRel.cons (.tuple c c' h2 hc) (LRel.nil m)

theorem VRel.one {m : LM} {v u : Value} (h : VRel m v u) : Ab.one u = Ab.one v := by cases h <;> rfl

theorem LRel.all_one {m : LM} {vs us : List Value} (h : LRel m vs us) (ho : vs.all Ab.one = true) : ∀ u ∈ us, u.oneCell' = true := by
  intro u hu
  obtain ⟨i, hi, rfl⟩ := List.getElem_of_mem hu
  have hv : i < vs.length := by rw [h.1]; exact hi
  have := h.2 i vs[i] us[i] (List.getElem?_eq_getElem hv) (List.getElem?_eq_getElem hi)
  rw [one_eq, this.one]
  exact List.all_eq_true.1 ho _ (List.getElem_mem hv)

theorem ble_le {a b : Nat} (h : Nat.ble a b = true) : a ≤ b := Nat.le_of_ble_eq_true h

theorem astore_sound (hR : Rl N0 w0 m M w) {t : TypeId} {p q v u : Value} {M' : Mem} (hp : VRel m p q) (hv : VRel m v u) (h : astore P t M p v = some M') :
    ∃ w', (Instr.storeAt t q u).run P w = .ok () w' ∧ Rl N0 w0 m M' w' := by
  unfold astore at h
  split at h
  · rename_i A o
    cases hp with
    | ptr _ _ L hL =>
    split at h
    · rename_i cs esz hA
      obtain ⟨L0, hL0, hO⟩ := hR.obj A _ hA
      obtain rfl : L0 = L := Option.some.inj (hL0.symm.trans hL)
      split at h
      · rename_i i hi
        replace h := gd_some h; obtain ⟨hg, h⟩ := h
        simp only [Bool.and_eq_true] at hg
        obtain ⟨⟨g1, g2⟩, g3⟩ := hg
        have hlen := beq_eq g1
        have hle := ble_le g2
        obtain rfl := Option.some.inj h
        have hc := hv.cells
        have hfit : L0.base + o + v.cells.toList.length ≤ L0.top := by
          obtain ⟨_, _, arr, e, fz, hh, h4, h5, h6, h7⟩ := hO
          omega
        have hth := hO.there o u.cells.toList.length (by rw [← hc.1]; exact hfit)
        have hst := run_storeCells_cells (P := P) L0.blk (L0.base + o) u.cells.toList 0 w (fun j hj => by simpa using (hth j hj).1) (fun j hj => by simpa using (hth j hj).2) (hc.all_one g3)
        simp only [Nat.add_zero] at hst
        refine ⟨w.setCells L0.blk (L0.base + o) u.cells.toList, ?_, ?_⟩
        · have hsz : u.cells.size = i.size := by have := hc.1; simp at this hlen; omega
          simp [Instr.storeAt, Instr.sureAddr, storeVar, sizeOf, typeInfo, hi, hsz, hst]
        · exact hR.write hA rfl hL (Agree.setCells _ _ _ _) (hO.over (by omega) hc hfit)
      · cases h
    · cases h
  · cases h

/-- A new variable. -/
def abox (P : Program) (elem : TypeId) (M : Mem) (v : Value) : Option (Value × Mem) :=
  match P.info? elem with
  | some i => some (.pointer (some ⟨M.next, 0, none⟩), M.new (.cells v.cells.toList i.size false))
  | none => none

theorem abox_sound (hR : Rl N0 w0 m M w) {elem : TypeId} {v u r : Value} {M' : Mem} (hv : VRel m v u) (h : abox P elem M v = some (r, M')) :
    ∃ q w' m', (Instr.box elem u).run P w = .ok q w' ∧ m.le m' ∧ VRel m' r q ∧ Rl N0 w0 m' M' w' := by
  unfold abox at h
  split at h
  · rename_i i hi
    simp only [Option.some.injEq, Prod.mk.injEq] at h
    obtain ⟨rfl, rfl⟩ := h
    have hle : m.le (m.put M.next ⟨w.heap.size, 0, u.cells.toList.length + ([] : List Value).length, i.size⟩) := LM.le_put hR.fresh_m
    have ho := ORel.fresh (w := w) (tail := []) (hv.cells.mono hle.sub) hR.nsz elem i.size
    have hrow : (u.cells.toList ++ ([] : List Value)).toArray = u.cells := by simp
    rw [hrow] at ho
    refine ⟨.pointer (some ⟨w.heap.size, 0, none⟩), _, _, ?_, hle, ?_, hR.new (Agree.alloc w.heap.size w _) (Nat.le_refl _) (Nat.le_refl _) ho⟩
    · simp [Instr.box, newVar, newRow]
    · exact .ptr M.next 0 ⟨w.heap.size, 0, u.cells.toList.length + ([] : List Value).length, i.size⟩ (LM.put_self _ _ _)
  · cases h

/-! ### Addresses -/
def afield (P : Program) (s : TypeId) (f : Nat) : Value → Option Value
  | .pointer (some ⟨A, o, none⟩) =>
    match P.underlying s with
    | some (.struct fields) =>
      match fields[f]? with
      | some fd =>
        match P.info? fd.type with
        | some i => gd (Nat.blt 0 i.size) (some (.pointer (some ⟨A, o + fd.offset, none⟩)))
        | none => none
      | none => none
    | _ => none
  | _ => none

theorem Addr.add_eq (b o n : Nat) : (⟨b, o, none⟩ : Addr).add n = ⟨b, o + n, none⟩ := by
  unfold Addr.add; split
  · rename_i h; subst h; rfl
  · rfl

theorem afield_sound {s : TypeId} {f : Nat} {p q v : Value} (hp : VRel m p q) (h : afield P s f p = some v) (w : World) :
    ∃ u, (Instr.fieldAt s q f).run P w = .ok u w ∧ VRel m v u := by
  unfold afield at h
  split at h
  · rename_i A o
    cases hp with
    | ptr _ _ L hL =>
    split at h
    · rename_i fields hs
      split at h
      · rename_i fd hf
        split at h
        · rename_i i hi
          replace h := gd_some h; obtain ⟨hg, h⟩ := h
          obtain rfl := Option.some.inj h
          have h0 : ¬ i.size = 0 := by have := blt_iff.1 hg; omega
          refine ⟨.pointer (some ⟨L.blk, L.base + (o + fd.offset), none⟩), ?_, .ptr A _ L hL⟩
          simp [Instr.fieldAt, run_underlying hs, hf, Instr.sureAddr, fieldPlace, sizeOf, typeInfo, hi, h0, Addr.add_eq, Nat.add_assoc]
        · cases h
      · cases h
    · cases h
  · cases h

/-- An index in bounds. -/
def idx (len : Nat) : Value → Option Nat
  | .int _ (.ofNat n) => gd (Nat.blt n len) (some n)
  | _ => none

theorem idx_some {len n : Nat} {x : Value} (h : idx len x = some n) : ∃ k, x = .int k (.ofNat n) ∧ n < len := by
  unfold idx at h
  split at h
  · rename_i k j
    replace h := gd_some h; obtain ⟨hg, h⟩ := h
    obtain rfl := Option.some.inj h
    exact ⟨k, rfl, blt_iff.1 hg⟩
  · cases h

def aindex (P : Program) (t : TypeId) (p x : Value) : Option Value :=
  match P.underlying t with
  | some (.slice e) =>
    match p with
    | .slice (some ⟨A, o, none⟩) len _ =>
      match idx len x, P.info? e with
      | some n, some i => some (.pointer (some ⟨A, o + n * i.size, none⟩))
      | _, _ => none
    | _ => none
  | some (.array len e) =>
    match p with
    | .pointer (some ⟨A, o, none⟩) =>
      match idx len x, P.info? e with
      | some n, some i => some (.pointer (some ⟨A, o + n * i.size, none⟩))
      | _, _ => none
    | _ => none
  | _ => none

theorem aindex_sound {t : TypeId} {p q x v : Value} (hp : VRel m p q) (h : aindex P t p x = some v) (w : World) :
    ∃ u, (Instr.indexAt t q x).run P w = .ok u w ∧ VRel m v u := by
  unfold aindex at h
  split at h
  · rename_i e ht
    split at h
    · rename_i A o len c'
      cases hp with
      | slice _ _ _ _ L a' c hL hl hc ha =>
      split at h
      · rename_i n i hx hi
        obtain ⟨k, rfl, hlt⟩ := idx_some hx
        obtain rfl := Option.some.inj h
        have ha' : a' = ⟨L.blk, L.base + o, none⟩ := ha.resolve_right (by omega)
        subst ha'
        refine ⟨.pointer (some ⟨L.blk, L.base + (o + n * i.size), none⟩), ?_, .ptr A _ L hL⟩
        simp [Instr.indexAt, asIntOf, run_underlying ht, hlt, sizeOf, typeInfo, hi, Addr.add_eq, Nat.add_assoc]
      · cases h
    · cases h
  · rename_i len e ht
    split at h
    · rename_i A o
      cases hp with
      | ptr _ _ L hL =>
      split at h
      · rename_i n i hx hi
        obtain ⟨k, rfl, hlt⟩ := idx_some hx
        obtain rfl := Option.some.inj h
        refine ⟨.pointer (some ⟨L.blk, L.base + (o + n * i.size), none⟩), ?_, .ptr A _ L hL⟩
        simp [Instr.indexAt, asIntOf, run_underlying ht, hlt, Instr.sureAddr, sizeOf, typeInfo, hi, Addr.add_eq, Nat.add_assoc]
      · cases h
    · cases h
  · cases h
end

end Go.Ab
