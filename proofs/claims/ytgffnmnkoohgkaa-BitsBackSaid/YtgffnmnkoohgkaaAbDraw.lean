/- The abstract machine at a region that draws its order: one order is run; tests on the region and on what was met show that every other order comes to the same. -/
import Derived.Test.YtgffnmnkoohgkaaAbStep
set_option linter.unusedSimpArgs false
set_option linter.unusedVariables false
namespace Go.Ab
open Go.RowKit (Below)

/-! ### Kinds of operations -/
/-- Operations that hang on their operands alone. -/
def kindP : Op → Bool
  | .move _ | .assign _ | .pick _ _ _ | .nilCheck _ | .fieldAddr _ _ _ | .indexAddr _ _ _ | .field _ _ _ | .index _ _ _ | .extract _ _ | .build _ _
  | .makeInterface _ _ | .makeFunc _ _ _ | .unOp _ _ _ | .binOp _ _ _ _ _ => true
  | _ => false

/-- Operations that only read memory. -/
def kindR (P : Program) : Op → Bool
  | .load _ _ | .slice _ _ _ _ _ => true
  | .convert _ d _ =>
    match P.underlying d with
    | some (.slice _) => false
    | _ => true
  | .call c =>
    match c.callee with
    | .builtin .len | .builtin .min | .builtin .max => true
    | _ => false
  | _ => false

/-- Operations that only make one new block. -/
def kindA : Op → Bool
  | .box _ _ | .alloc _ | .buildSlice _ _ _ => true
  | _ => false

def kindE (P : Program) (o : Oper) : Bool := !(kindP o.op || kindR P o.op || kindA o.op)

theorem aflat_oval {P : Program} {r : Env} {o : Oper} {M : Mem} {out : Out} (h : oval (aflat P r o) M = some out) : ∃ v, aflat P r o = some v ∧ out = .val v M := oval_some h

theorem kindP_indep {P : Program} {r : Env} {o : Oper} (hk : kindP o.op = true) {M : Mem} {out : Out} (h : aOp P r o M = some out) :
    ∃ v, out = .val v M ∧ ∀ M', aOp P r o M' = some (.val v M') := by
  unfold aOp at h ⊢
  replace h := gd_some h; obtain ⟨hg, h⟩ := h
  rw [hg]
  simp only [gd]
  obtain ⟨dst, op, type, pos, after, guard⟩ := o
  unfold aop at h ⊢
  cases op <;> simp only [kindP] at hk <;> first | cases hk | skip
  all_goals simp only [] at h ⊢
  case move x => exact ⟨_, (Option.some.inj h).symm, fun M' => rfl⟩
  case assign x => exact ⟨_, (Option.some.inj h).symm, fun M' => rfl⟩
  case index t x i =>
    split at h
    · obtain ⟨v, hv, rfl⟩ := oval_some h
      rename_i e
      exact ⟨v, rfl, fun M' => by simp only [hv, oval]⟩
    · obtain ⟨v, hv, rfl⟩ := oval_some h
      exact ⟨v, rfl, fun M' => by simp only [hv, oval]⟩
  case binOp b t x y t2 =>
    split at h
    · rename_i v hv
      exact ⟨v, (Option.some.inj h).symm, fun M' => rfl⟩
    split at h
    · rename_i v hv
      exact ⟨v, (Option.some.inj h).symm, fun M' => rfl⟩
    · obtain ⟨v, hv, rfl⟩ := oval_some h
      exact ⟨v, rfl, fun M' => by simp only [hv, oval]⟩
  case makeFunc fn f c =>
    replace h := gd_some h; obtain ⟨hp, h⟩ := h
    rw [hp]
    exact ⟨_, (Option.some.inj h).symm, fun M' => rfl⟩
  all_goals
    obtain ⟨v, hv, rfl⟩ := oval_some h
    exact ⟨v, rfl, fun M' => by simp only [hv, oval]⟩

theorem kindR_same {P : Program} {r : Env} {o : Oper} (hk : kindR P o.op = true) {M : Mem} {out : Out} (h : aOp P r o M = some out) : ∃ v, out = .val v M := by
  unfold aOp at h
  replace h := gd_some h; obtain ⟨hg, h⟩ := h
  obtain ⟨dst, op, type, pos, after, guard⟩ := o
  unfold aop at h
  cases op <;> simp only [kindR] at hk <;> first | cases hk | skip
  all_goals simp only [] at h
  case load t x => obtain ⟨v, hv, rfl⟩ := oval_some h; exact ⟨v, rfl⟩
  case slice t x lo hi mx =>
    split at h
    · replace h := gd_some h; obtain ⟨hp, h⟩ := h
      obtain ⟨v, hv, rfl⟩ := oval_some h; exact ⟨v, rfl⟩
    · obtain ⟨v, hv, rfl⟩ := oval_some h; exact ⟨v, rfl⟩
  case convert s d x =>
    split at h
    · exact ⟨_, (Option.some.inj h).symm⟩
    split at h
    · exact ⟨_, (Option.some.inj h).symm⟩
    · obtain ⟨v, M', hv, rfl⟩ := omem_some h
      unfold aconvert at hv
      split at hv
      · split at hv
        · split at hv
          · replace hv := cond_split hv
            rcases hv with ⟨_, hv⟩ | ⟨_, hv⟩
            · simp only [Option.some.injEq, Prod.mk.injEq] at hv; obtain ⟨_, rfl⟩ := hv; exact ⟨v, rfl⟩
            split at hv
            · replace hv := gd_some hv; obtain ⟨_, hv⟩ := hv
              split at hv
              · simp only [Option.some.injEq, Prod.mk.injEq] at hv; obtain ⟨_, rfl⟩ := hv; exact ⟨v, rfl⟩
              · cases hv
            · cases hv
          · cases hv
        · cases hv
      · rename_i h1 h2; rw [h2] at hk; cases hk
      · rename_i h1 h2; rw [h2] at hk; cases hk
      · cases hv
  case call c =>
    obtain ⟨callee, args, ts⟩ := c
    cases callee <;> simp only [] at h hk
    case builtin b =>
      unfold abuiltin at h
      split at h
      · cases hk
      · cases hk
      · split at h
        · exact ⟨_, (Option.some.inj h).symm⟩
        · exact ⟨_, (Option.some.inj h).symm⟩
        · cases h
      · obtain ⟨v, hv, rfl⟩ := oval_some h; exact ⟨v, rfl⟩
      · obtain ⟨v, hv, rfl⟩ := oval_some h; exact ⟨v, rfl⟩
      · obtain ⟨v, hv, rfl⟩ := oval_some h; exact ⟨v, rfl⟩
    all_goals cases hk

/-! ### New blocks at names that are kept for them -/
def aAlloc (P : Program) (r : Env) (o : Oper) (id : Nat) : Option (Value × AObj) :=
  gd (okOp o) <|
  match o.op with
  | .box t x =>
    match P.info? t with
    | some i => some (.pointer (some ⟨id, 0, none⟩), .cells (r.eval x).cells.toList i.size false)
    | none => none
  | .alloc t =>
    match azero P t, P.info? t with
    | some z, some i => some (.pointer (some ⟨id, 0, none⟩), .cells z.cells.toList i.size false)
    | _, _ => none
  | .buildSlice t len ps =>
    match P.underlying t with
    | some (.slice e) =>
      match P.info? e with
      | some ie =>
        match ie.zero with
        | some z =>
          gd (flat 4 z && Nat.blt 0 ie.size && Nat.ble (len * ie.size) 16777216)
            (match afill (fun i => some (i * ie.size, ie.size)) (zrow z (len * ie.size)) (ps.toList.map fun (i, x) => (i, r.eval x)) with
             | some cs => gd (Nat.beq cs.length (len * ie.size)) (some (.slice (some ⟨id, 0, none⟩) len len, .cells cs ie.size false))
             | none => none)
        | none => none
      | none => none
    | _ => none
  | _ => none

theorem box_at {P : Program} {N0 : Nat → Prop} {w0 : World} {m : LM} {M : Mem} {w : World} (hR : Rl N0 w0 m M w) {t : TypeId} {i : TypeInfo} {v u : Value} (hv : VRel m v u) (id : Nat) :
    ∃ o' L, (Instr.box t u).run P w = .ok (.pointer (some ⟨w.heap.size, 0, none⟩)) (w.alloc o') ∧ L.blk = w.heap.size ∧
      ∀ m2, m.sub m2 → m2 id = some L → VRel m2 (.pointer (some ⟨id, 0, none⟩)) (.pointer (some ⟨w.heap.size, 0, none⟩)) ∧ ORel N0 m2 (w.alloc o') L (.cells v.cells.toList i.size false) := by
  refine ⟨.cells u.cells t, ⟨w.heap.size, 0, u.cells.toList.length + ([] : List Value).length, i.size⟩, by simp [Instr.box, newVar, newRow], rfl, fun m2 hm hid => ⟨.ptr id 0 _ hid, ?_⟩⟩
  have ho := ORel.fresh (N0 := N0) (w := w) (tail := []) (hv.cells.mono hm) (by rw [hm.bt]; exact hR.nsz) t i.size
  have hrow : (u.cells.toList ++ ([] : List Value)).toArray = u.cells := by simp
  rw [hrow] at ho
  exact ho

theorem aAlloc_sound {P : Program} {N0 : Nat → Prop} {w0 : World} {m : LM} {M : Mem} {w : World} {r : Env} {a : Act} (hE : ERel m r a) (hR : Rl N0 w0 m M w) {o : Oper} {id : Nat} {v : Value} {obj : AObj}
    (h : aAlloc P r o id = some (v, obj)) : ∃ u o' L, (execOp a.eval o).run P w = .ok (.value u) (w.alloc o') ∧ L.blk = w.heap.size ∧ obj.rw = true ∧
      ∀ m2, m.sub m2 → m2 id = some L → VRel m2 v u ∧ ORel N0 m2 (w.alloc o') L obj := by
  unfold aAlloc at h
  replace h := gd_some h; obtain ⟨hk, h⟩ := h
  have hmem : ∀ x ∈ o.op.operands, VRel m (r.eval x) (a.eval x) := fun x hx => hE.eval (okOp_mem hk hx)
  have hok : ∀ x ∈ o.op.operands, okOperand x = true := fun x hx => okOp_mem hk hx
  obtain ⟨dst, op, type, pos, after, guard⟩ := o
  cases op <;> simp only [] at h hmem hok <;> first | cases h | skip
  case box t x =>
    split at h
    · rename_i i hi
      simp only [Option.some.injEq, Prod.mk.injEq] at h
      obtain ⟨rfl, rfl⟩ := h
      obtain ⟨o', L, h1, h2, h3⟩ := box_at (P := P) (t := t) (i := i) hR (hmem x (by simp [Op.operands])) id
      exact ⟨_, o', L, by simp [execOp, h1], h2, rfl, h3⟩
    · cases h
  case alloc t =>
    split at h
    · rename_i z i hz hi
      simp only [Option.some.injEq, Prod.mk.injEq] at h
      obtain ⟨rfl, rfl⟩ := h
      unfold azero at hz
      rw [hi] at hz
      simp only [] at hz
      split at hz
      · rename_i z' hz'
        replace hz := gd_some hz; obtain ⟨hf, hz⟩ := hz
        obtain rfl := Option.some.inj hz
        obtain ⟨o', L, h1, h2, h3⟩ := box_at (P := P) (t := t) (i := i) hR (.of_flat m 4 z' hf) id
        refine ⟨_, o', L, ?_, h2, rfl, h3⟩
        have : (Instr.alloc t true (.tuple #[])).run P w = .ok (.pointer (some ⟨w.heap.size, 0, none⟩)) (w.alloc o') := by
          simp [Instr.box] at h1
          simp [Instr.alloc, zeroValue, typeInfo, hi, hz', h1]
        simp [execOp, this]
      · cases hz
    · cases h
  case buildSlice t len ps =>
    split at h
    · rename_i e ht
      split at h
      · rename_i ie hie
        split at h
        · rename_i z hz
          replace h := gd_some h; obtain ⟨hg, h⟩ := h
          simp only [Bool.and_eq_true] at hg
          obtain ⟨⟨g1, g2⟩, g3⟩ := hg
          have g2 := blt_iff.1 g2
          have g3 := ble_le g3
          split at h
          · rename_i cs hcs
            replace h := gd_some h; obtain ⟨g4, h⟩ := h
            have g4 := beq_eq g4
            simp only [Option.some.injEq, Prod.mk.injEq] at h
            obtain ⟨rfl, rfl⟩ := h
            have hp := pairs_rel hE (ps := ps.toList) (fun p hp => hok p.2 (by simp only [Op.operands]; simp; exact ⟨p.1, by simpa using hp⟩))
            obtain ⟨r', h3, h4⟩ := afill_sound (m := m) _ _ _ _ ((Array.range (len * ie.size)).map (z.cells[· % z.cells.size]!)) cs (zrow_rel g1 _) hp.1 hp.2 hcs
            have hrun : (Instr.buildSlice t len (ps.map fun (i, x) => (i, a.eval x))).run P w = .ok (.slice (some ⟨w.heap.size, 0, none⟩) len len) (w.alloc (.cells r' e)) := by
              have hsmall : ¬ len * ie.size > 2 ^ 24 := by omega
              have h3' : Instr.fill (fun i => some (i * ie.size, ie.size)) ((Array.range (len * ie.size)).map (z.cells[· % z.cells.size]!)) (ps.map fun (i, x) => (i, a.eval x)).toList = some r' := by
                rw [← arr_pairs]; exact h3
              exact buildSlice_run w ht hie hz hsmall h3'
            refine ⟨.slice (some ⟨w.heap.size, 0, none⟩) len len, .cells r' e, ⟨w.heap.size, 0, r'.toList.length + ([] : List Value).length, ie.size⟩, by simp only [execOp]; rw [Sem.run_bind, hrun]; rfl, rfl, rfl, fun m2 hm hid => ⟨?_, ?_⟩⟩
            · refine .slice id 0 len len _ _ len hid (Nat.le_refl _) ?_ (.inl rfl)
              have hl := h4.1
              have hb : len ≤ len * ie.size := Nat.le_mul_of_pos_right _ g2
              refine .inr ⟨rfl, by unfold capU; omega, ?_⟩
              show 0 + 0 + len * ie.size ≤ r'.toList.length + 0
              omega
            · have ho := ORel.fresh (N0 := N0) (w := w) (tail := []) (h4.mono hm) (by rw [hm.bt]; exact hR.nsz) e ie.size
              have hrow : (r'.toList ++ ([] : List Value)).toArray = r' := by simp
              rw [hrow] at ho
              exact ho
          · cases h
        · cases h
      · cases h
    · cases h

/-! ### What reads goes on reading when there is more memory -/
theorem aload_more {P : Program} {t : TypeId} {M M' : Mem} (hM : ∀ A x, M.get A = some x → M'.get A = some x) {p v : Value} (h : aload P t M p = some v) : aload P t M' p = some v := by
  unfold aload at h ⊢
  split at h
  · rename_i A o
    simp only []
    split at h
    · rename_i cs esz ro hA
      rw [hM _ _ hA]
      exact h
    · cases h
  · cases h

theorem aslice_more {P : Program} {t : TypeId} {M M' : Mem} (hM : ∀ A x, M.get A = some x → M'.get A = some x) {x v : Value} {lo hi mx : Option Value} (h : aslice P t M x lo hi mx = some v) :
    aslice P t M' x lo hi mx = some v := by
  unfold aslice at h ⊢
  split at h
  · rename_i e he
    split at h
    · rename_i i hi'
      split at h
      · exact h
      · rename_i A o l c
        cases hz : (Nat.beq l 0 && Nat.beq c 0 && mx.isNone) with
        | true => simp only [hz, cond_true] at h ⊢; exact h
        | false =>
          simp only [hz, cond_false] at h ⊢
          split at h
          · rename_i cs esz ro hA
            rw [hM _ _ hA]
            exact h
          · cases h
      · cases h
    · cases h
  · cases h

theorem aconvert_more {P : Program} {s d : TypeId} {M M' : Mem} (hM : ∀ A x, M.get A = some x → M'.get A = some x) {x v : Value} (hk : (match P.underlying d with
    | some (.slice _) => false
    | _ => true) = true) {M1 : Mem} (h : aconvert P s d M x = some (v, M1)) : aconvert P s d M' x = some (v, M') := by
  unfold aconvert at h ⊢
  split at h
  · rename_i e h1 h2
    split at h
    · split at h
      · rename_i A o l c
        cases hz : (Nat.beq l 0 && Nat.beq c 0) with
        | true =>
          simp only [hz, cond_true, Option.some.injEq, Prod.mk.injEq] at h ⊢
          exact ⟨h.1, trivial⟩
        | false =>
        simp only [hz, cond_false] at h ⊢
        split at h
        · rename_i cs esz ro hA
          rw [hM _ _ hA]
          replace h := gd_some h; obtain ⟨hg, h⟩ := h
          simp only []
          rw [hg]
          simp only [gd]
          split at h
          · simp only [Option.some.injEq, Prod.mk.injEq] at h
            rename_i bs hbs
            rw [h.1]
          · cases h
        · cases h
      · cases h
    · cases h
  · rename_i h1 h2
    rw [h2] at hk; cases hk
  · rename_i h1 h2
    rw [h2] at hk; cases hk
  · cases h

theorem kindR_more {P : Program} {r : Env} {o : Oper} (hk : kindR P o.op = true) {M M' : Mem} (hM : ∀ A x, M.get A = some x → M'.get A = some x) {v : Value} {M1 : Mem} (h : aOp P r o M = some (.val v M1)) :
    aOp P r o M' = some (.val v M') := by
  unfold aOp at h ⊢
  replace h := gd_some h; obtain ⟨hg, h⟩ := h
  rw [hg]
  simp only [gd]
  obtain ⟨dst, op, type, pos, after, guard⟩ := o
  unfold aop at h ⊢
  have fl : ∀ {o : Oper}, oval (aflat P r o) M = some (.val v M1) → oval (aflat P r o) M' = some (.val v M') := by
    intro o h
    obtain ⟨v', hv, he⟩ := oval_some h
    cases he
    rw [hv]; rfl
  cases op <;> simp only [kindR] at hk <;> first | cases hk | skip
  all_goals simp only [] at h ⊢
  case load t x =>
    obtain ⟨v', hv, he⟩ := oval_some h
    cases he
    rw [aload_more hM hv]; rfl
  case slice t x lo hi mx =>
    split at h
    · replace h := gd_some h; obtain ⟨hp, h⟩ := h
      obtain ⟨v', hv, he⟩ := oval_some h
      cases he
      rw [hp]
      simp only [gd]
      rw [aslice_more hM hv]; rfl
    · exact fl h
  case convert s d x =>
    split at h
    · cases h; rfl
    split at h
    · cases h; rfl
    · obtain ⟨v', M2, hv, he⟩ := omem_some h
      cases he
      rw [aconvert_more hM hk hv]; rfl
  case call c =>
    obtain ⟨callee, args, ts⟩ := c
    cases callee <;> simp only [] at h hk ⊢
    case builtin b =>
      unfold abuiltin at h ⊢
      split at h
      · cases hk
      · cases hk
      · split at h
        · cases h; rfl
        · cases h; rfl
        · cases h
      · obtain ⟨v', hv, he⟩ := oval_some h
        cases he
        simp only [hv]; rfl
      · obtain ⟨v', hv, he⟩ := oval_some h
        cases he
        simp only [hv]; rfl
      · exact fl h
    all_goals cases hk

/-! ### Operands -/
theorem aop_congr {P : Program} {r r' : Env} {o : Oper} (h : ∀ x ∈ o.op.operands, r.eval x = r'.eval x) (M : Mem) : aOp P r o M = aOp P r' o M := by
  unfold aOp
  cases hk : okOp o with
  | false => rfl
  | true =>
    simp only [gd]
    have hfl : aflat P r o = aflat P r' o := by
      unfold aflat
      have h1 : o.op.operands.toList.all (fun x => flat 4 (r.eval x)) = o.op.operands.toList.all (fun x => flat 4 (r'.eval x)) := by
        rw [Bool.eq_iff_iff, List.all_eq_true, List.all_eq_true]
        exact ⟨fun hh x hx => by rw [← h x (Array.mem_toList_iff.1 hx)]; exact hh x hx, fun hh x hx => by rw [h x (Array.mem_toList_iff.1 hx)]; exact hh x hx⟩
      rw [h1]
      cases hs : isSelect o.op with
      | true => simp [gd]
      | false =>
        rw [execOp_congr o (fun cs b e => by rw [e] at hs; simp [isSelect] at hs) h]
    have pairs : ∀ ps : List (Nat × Operand), (∀ p ∈ ps, r.eval p.2 = r'.eval p.2) → (ps.map fun (i, x) => (i, r.eval x)) = ps.map fun (i, x) => (i, r'.eval x) :=
      fun ps hp => List.map_congr_left fun p hm => by obtain ⟨i, x⟩ := p; simp only [hp _ hm]
    have maps : ∀ xs : List Operand, (∀ x ∈ xs, r.eval x = r'.eval x) → xs.map r.eval = xs.map r'.eval := fun xs hx => List.map_congr_left hx
    obtain ⟨dst, op, type, pos, after, guard⟩ := o
    unfold aop
    cases op <;> simp only [Op.operands] at h ⊢
    case build t ps => rw [pairs _ fun p hp => h p.2 (by simp; exact ⟨p.1, by simpa using hp⟩)]
    case buildSlice t n ps => rw [pairs _ fun p hp => h p.2 (by simp; exact ⟨p.1, by simpa using hp⟩)]
    case makeFunc fn f c =>
      rw [maps f.toList fun x hx => h x (by simp; exact .inl (by simpa using hx)), maps c.toList fun x hx => h x (by simp; exact .inr (by simpa using hx))]
    case slice t x lo hi mx =>
      have hx := h x (by simp)
      have e1 : lo.map r.eval = lo.map r'.eval := by cases lo with
        | none => rfl
        | some y => simp [h y (by simp)]
      have e2 : hi.map r.eval = hi.map r'.eval := by cases hi with
        | none => rfl
        | some y => simp [h y (by simp)]
      have e3 : mx.map r.eval = mx.map r'.eval := by cases mx with
        | none => rfl
        | some y => simp [h y (by simp)]
      rw [hx, e1, e2, e3, hfl]
    case call c =>
      obtain ⟨callee, args, ts⟩ := c
      have ha : args.toList.map r.eval = args.toList.map r'.eval := maps _ fun x hx => h x (by simp [Call.operands]; exact .inr (by simpa using hx))
      cases callee with
      | value f => simp only []; rw [ha, h f (by simp [Call.operands])]
      | invoke x n => rfl
      | builtin b =>
        simp only []
        unfold abuiltin
        split
        · rename_i s x t tx he1 he2
          have hs : s ∈ args.toList := by rw [he1]; simp
          have hx : x ∈ args.toList := by rw [he1]; simp
          rw [h s (by simp [Call.operands]; simpa using hs), h x (by simp [Call.operands]; simpa using hx)]
        · rename_i s x t tx he1 he2
          have hs : s ∈ args.toList := by rw [he1]; simp
          have hx : x ∈ args.toList := by rw [he1]; simp
          rw [h s (by simp [Call.operands]; simpa using hs), h x (by simp [Call.operands]; simpa using hx)]
        · rename_i x t he1 he2
          have hx : x ∈ args.toList := by rw [he1]; simp
          rw [h x (by simp [Call.operands]; simpa using hx)]
        · rw [ha]
        · rw [ha]
        · rw [hfl]
    all_goals try simp only [hfl]
    all_goals try simp_all

theorem wanted_congr {ops : Array Oper} {r r' : Env} {o : Oper} (h : ∀ t ∈ o.looksAt ops, r.get t = r'.get t) : wantedA ops r o = wantedA ops r' o := by
  unfold wantedA
  cases hg : o.guard with
  | none => rfl
  | some p =>
    obtain ⟨j, want⟩ := p
    have : yieldedA ops r j = yieldedA ops r' j := by
      unfold yieldedA
      cases ho : ops[j]? with
      | none => rfl
      | some o2 =>
        cases hd : o2.dst with
        | none => simp [hd]
        | some t =>
          simp only [hd]
          rw [h t (by unfold Oper.looksAt; simp [hg, ho, hd])]
    simp only [this]

theorem eval_congr {ops : Array Oper} {r r' : Env} {o : Oper} (h : ∀ t ∈ o.looksAt ops, r.get t = r'.get t) : ∀ x ∈ o.op.operands, r.eval x = r'.eval x := by
  intro x hx
  cases x with
  | tmp t =>
    simp only [Env.eval]
    refine h t ?_
    unfold Oper.looksAt
    exact List.mem_append_left _ (List.mem_filterMap.2 ⟨.tmp t, by simpa using hx, rfl⟩)
  | _ => rfl

/-! ### The order that is forced -/
def edges (acc : List Nat) : List Edge → Nat
  | [] => 0
  | e :: r => bif Region.binds .any e then 2 ^ e.on ||| acc.getD e.on 0 ||| edges acc r else edges acc r

def befGo : List Oper → List Nat → List Nat
  | [], acc => acc
  | o :: r, acc => befGo r (acc ++ [edges acc o.after.toList])

/-- For each operation the set of those that must come ahead of it. -/
def bef (ops : Array Oper) : List Nat := befGo ops.toList []

theorem edges_bit {acc : List Nat} {i : Nat} : ∀ {es : List Edge}, (edges acc es).testBit i = true → ∃ e ∈ es, Region.binds .any e = true ∧ (e.on = i ∨ (acc.getD e.on 0).testBit i = true)
  | [], h => by simp [edges] at h
  | e :: r, h => by
    simp only [edges] at h
    cases hb : Region.binds .any e with
    | false =>
      rw [hb] at h
      obtain ⟨e', h1, h2⟩ := edges_bit h
      exact ⟨e', by simp [h1], h2⟩
    | true =>
      rw [hb] at h
      simp only [cond_true, Nat.testBit_or, Bool.or_eq_true] at h
      rcases h with (h | h) | h
      · exact ⟨e, by simp, hb, .inl (by simpa [Nat.testBit_two_pow] using h)⟩
      · exact ⟨e, by simp, hb, .inr h⟩
      · obtain ⟨e', h1, h2⟩ := edges_bit h
        exact ⟨e', by simp [h1], h2⟩

theorem befGo_spec : ∀ (l : List Oper) (acc : List Nat), ∃ ext, befGo l acc = acc ++ ext ∧ ext.length = l.length ∧
    ∀ j o, l[j]? = some o → ∃ acc', befGo l acc = acc' ++ (befGo l acc).drop acc'.length ∧ acc'.length = acc.length + j ∧ (befGo l acc)[acc.length + j]? = some (edges acc' o.after.toList)
  | [], acc => ⟨[], by simp [befGo], rfl, fun j o h => by simp at h⟩
  | o :: r, acc => by
    simp only [befGo]
    obtain ⟨ext, h1, h2, h3⟩ := befGo_spec r (acc ++ [edges acc o.after.toList])
    refine ⟨[edges acc o.after.toList] ++ ext, by rw [h1]; simp, by simp [h2], fun j o' hj => ?_⟩
    cases j with
    | zero =>
      simp only [List.getElem?_cons_zero, Option.some.injEq] at hj
      subst hj
      refine ⟨acc, by rw [h1]; simp, by simp, ?_⟩
      rw [h1]; simp
    | succ j =>
      obtain ⟨acc', k1, k2, k3⟩ := h3 j o' (by simpa using hj)
      refine ⟨acc', k1, by rw [k2]; simp; omega, ?_⟩
      have : acc.length + (j + 1) = (acc ++ [edges acc o.after.toList]).length + j := by simp; omega
      rw [this]; exact k3

def befAt (ops : Array Oper) (j : Nat) : Nat := (bef ops).getD j 0

/-- What must come ahead comes by an edge. -/
theorem befAt_bit {ops : Array Oper} {j i : Nat} {o : Oper} (ho : ops[j]? = some o) (hlow : ∀ e ∈ o.after, Region.binds .any e = true → e.on < j) (h : (befAt ops j).testBit i = true) :
    ∃ e ∈ o.after, Region.binds .any e = true ∧ (e.on = i ∨ (befAt ops e.on).testBit i = true) := by
  unfold befAt bef at h
  obtain ⟨ext, h1, h2, h3⟩ := befGo_spec ops.toList []
  obtain ⟨acc', k1, k2, k3⟩ := h3 j o (by simpa using ho)
  simp only [List.length_nil, Nat.zero_add] at k2 k3
  rw [List.getD_eq_getElem?_getD, k3, Option.getD_some] at h
  obtain ⟨e, he, hb, hh⟩ := edges_bit h
  have he' : e ∈ o.after := by simpa using he
  refine ⟨e, he', hb, hh.imp id fun hh => ?_⟩
  have hlt := hlow e he' hb
  unfold befAt bef
  rw [k1, List.getD_eq_getElem?_getD, List.getElem?_append_left (by omega), ← List.getD_eq_getElem?_getD]
  exact hh

/-! ### The tests on a region -/
def lowEdges (ops : Array Oper) : Bool := ops.toList.zipIdx.all fun (o, j) => o.after.toList.all fun e => !(Region.binds .any e) || Nat.blt e.on j

def isDst (ops : Array Oper) (i t : Nat) : Bool :=
  match ops[i]? with
  | some o =>
    match o.dst with
    | some d => Nat.beq d t
    | none => false
  | none => false

def ahead (ops : Array Oper) (i j : Nat) : Bool := (befAt ops j).testBit i

/-- Each operation's result has one writer, and who looks at it stands ahead of it or behind it. -/
def oneWriter (ops : Array Oper) : Bool := ops.toList.zipIdx.all fun (o, i) =>
  match o.dst with
  | some t => ops.toList.zipIdx.all fun (o2, j) => Nat.beq i j || (!(isDst ops j t) && (!((o2.looksAt ops).contains t) || ahead ops i j || ahead ops j i))
  | none => true

/-- Those that act stand in a row. -/
def rowOfE (P : Program) (ops : Array Oper) : Bool := ops.toList.zipIdx.all fun (o, j) => !(kindE P o) ||
  ops.toList.zipIdx.all fun (o2, i) => !(kindE P o2) || !(Nat.blt i j) || ahead ops i j

def drawOk (P : Program) (ops : Array Oper) : Bool := lowEdges ops && oneWriter ops && rowOfE P ops

def dstsFit (ops : List Oper) (n : Nat) : Bool := ops.all fun o =>
  match o.dst with
  | some t => Nat.blt t n
  | none => true

/-! ### Equal values, by a test -/
def veq0 : Value → Value → Bool
  | .bool a, .bool b => a == b
  | .int j a, .int k b => decide (j = k) && decide (a = b)
  | .string a, .string b => decide (a = b)
  | .pointer a, .pointer b => decide (a = b)
  | .slice a l c, .slice b k d => decide (a = b) && Nat.beq l k && Nat.beq c d
  | .map a, .map b => decide (a = b)
  | .nilFunc, .nilFunc => true
  | .nilIface, .nilIface => true
  | _, _ => false

def veqL (f : Value → Value → Bool) : List Value → List Value → Bool
  | [], [] => true
  | a :: x, b :: y => f a b && veqL f x y
  | _, _ => false

def veq : Nat → Value → Value → Bool
  | n + 1, .agg a, .agg b => veqL (veq n) a.toList b.toList
  | n + 1, .tuple a, .tuple b => veqL (veq n) a.toList b.toList
  | n + 1, .iface t v, .iface u x => Nat.beq t u && veq n v x
  | n + 1, .func f a c, .func g b d => decide (f = g) && veqL (veq n) a.toList b.toList && veqL (veq n) c.toList d.toList
  | _, a, b => veq0 a b

theorem veq0_eq {a b : Value} (h : veq0 a b = true) : a = b := by
  unfold veq0 at h
  split at h
  all_goals first | cases h | skip
  all_goals try simp only [Bool.and_eq_true, decide_eq_true_eq, beq_iff_eq, Nat.beq_eq] at h
  all_goals first | rfl | (subst h; rfl) | (obtain ⟨h1, h2⟩ := h; subst h1; subst h2; rfl) | (obtain ⟨⟨h1, h2⟩, h3⟩ := h; subst h1; subst h2; subst h3; rfl)

theorem veqL_eq {f : Value → Value → Bool} (hf : ∀ a b, f a b = true → a = b) : ∀ {x y : List Value}, veqL f x y = true → x = y
  | [], [], _ => rfl
  | [], _ :: _, h => by cases h
  | _ :: _, [], h => by cases h
  | a :: x, b :: y, h => by
    simp only [veqL, Bool.and_eq_true] at h
    rw [hf a b h.1, veqL_eq hf h.2]

theorem veq_eq : ∀ (n : Nat) {a b : Value}, veq n a b = true → a = b
  | 0, a, b, h => veq0_eq (by simpa [veq] using h)
  | n + 1, a, b, h => by
    have ih : ∀ a b, veq n a b = true → a = b := fun a b h => veq_eq n h
    unfold veq at h
    split at h
    · rename_i k x y hk
      cases hk
      have := veqL_eq ih h
      rw [Array.ext' this]
    · rename_i k x y hk
      cases hk
      have := veqL_eq ih h
      rw [Array.ext' this]
    · rename_i k t v u x hk
      cases hk
      simp only [Bool.and_eq_true] at h
      rw [beq_eq h.1, ih _ _ h.2]
    · rename_i k f x c g y d hk
      cases hk
      simp only [Bool.and_eq_true, decide_eq_true_eq] at h
      obtain ⟨⟨h1, h2⟩, h3⟩ := h
      rw [h1, Array.ext' (veqL_eq ih h2), Array.ext' (veqL_eq ih h3)]
    · exact veq0_eq h

theorem veqL_refl {f : Value → Value → Bool} (hf : ∀ a, f a a = true) : ∀ x : List Value, veqL f x x = true
  | [] => rfl
  | a :: x => by simp [veqL, hf a, veqL_refl hf x]

end Go.Ab
