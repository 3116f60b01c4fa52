/- The abstract machine at a region that draws its order, second half: the run, and why it stands for every order. -/
import Derived.Test.YtgffnmnkoohgkaaAbDraw
import Derived.Test.YtgffnmnkoohgkaaAbMem2
set_option linter.unusedSimpArgs false
set_option linter.unusedVariables false
namespace Go.Ab
open Go.RowKit (Below)

inductive Cls where
  | n
  | p
  | r
  | a (obj : AObj)
  | e

def Cls.isE : Cls → Bool
  | .e => true
  | _ => false

structure Ent where
  o : Oper
  r : Env
  M : Mem
  v : Value
  cls : Cls

/-- Has operation i's new block been shown to one that acts? -/
def mat (ops : Array Oper) (es : List Ent) (i : Nat) : Bool := es.zipIdx.any fun (en, e) => en.cls.isE && ahead ops i e

/-- New blocks, some of those that were made, laid into memory. -/
def addSel (base : Nat) (f : Nat → Bool) : List Ent → Nat → Mem → Mem
  | [], _, M => M
  | en :: rest, i, M =>
    match en.cls with
    | .a obj => bif f i then addSel base f rest (i + 1) (M.set (base + i) obj) else addSel base f rest (i + 1) M
    | _ => addSel base f rest (i + 1) M

def selB (ops : Array Oper) (es : List Ent) (j i : Nat) : Bool := ahead ops i j && !(mat ops es i)

def drawGo (P : Program) (call : Nat → CallF) (ops : Array Oper) (base : Nat) : List Oper → List Ent → Env → Mem → Option (List Ent × Env × Mem)
  | [], acc, r, M => some (acc, r, M)
  | o :: rest, acc, r, M =>
    bif wantedA ops r o then
      bif kindP o.op then
        match aOp P r o M with
        | some (.val v _) => drawGo P call ops base rest (acc ++ [⟨o, r, M, v, .p⟩]) (r.put o.dst v) M
        | _ => none
      else bif kindR P o.op then
        match aOp P r o (addSel base (selB ops acc acc.length) acc 0 M) with
        | some (.val v _) => drawGo P call ops base rest (acc ++ [⟨o, r, M, v, .r⟩]) (r.put o.dst v) M
        | _ => none
      else bif kindA o.op then
        match aAlloc P r o (base + acc.length) with
        | some (v, obj) => drawGo P call ops base rest (acc ++ [⟨o, r, M, v, .a obj⟩]) (r.put o.dst v) M
        | none => none
      else
        match stepOp P (call acc.length) r o (addSel base (selB ops acc acc.length) acc 0 M) with
        | some (v, M') => drawGo P call ops base rest (acc ++ [⟨o, r, M, v, .e⟩]) (r.put o.dst v) M'
        | none => none
    else drawGo P call ops base rest (acc ++ [⟨o, r, M, undef, .n⟩]) (r.put o.dst undef) M

def memAt (es : List Ent) (Mf : Mem) (p : Nat) : Mem :=
  match es[p]? with
  | some e => e.M
  | none => Mf
def envAt (es : List Ent) (rf : Env) (p : Nat) : Env :=
  match es[p]? with
  | some e => e.r
  | none => rf

/-- May the memory ahead of place p be the one that operation j meets? -/
def compat (ops : Array Oper) (es : List Ent) (p j : Nat) : Bool := es.zipIdx.all fun (en, e) =>
  !(en.cls.isE) || ((!(ahead ops e j) || Nat.blt e p) && (!(ahead ops j e) || Nat.ble p e))

def eAt (es : List Ent) (i : Nat) : Bool :=
  match es[i]? with
  | some en => en.cls.isE
  | none => false

/-- The places at which memory may be another one. -/
def places? (es : List Ent) : List Nat := (List.range (es.length + 1)).filter fun p => Nat.beq p 0 || eAt es (p - 1)

/-- What an operation that reads tells is the same at all places at which it may stand. -/
def steady (P : Program) (ops : Array Oper) (base : Nat) (es : List Ent) (Mf : Mem) : Bool := es.zipIdx.all fun (en, j) =>
  match en.cls with
  | .r => (places? es).all fun p => !(compat ops es p j) ||
      match aOp P en.r en.o (addSel base (selB ops (es.take p) j) es 0 (memAt es Mf p)) with
      | some (.val v _) => veq 4 v en.v
      | _ => false
  | .a _ => (places? es).all fun p => mat ops (es.take p) j || ((memAt es Mf p).get (base + j)).isNone
  | _ => true

def drawA (P : Program) (call : Nat → CallF) (ops : Array Oper) (r : Env) (M : Mem) : Option (Env × Mem) :=
  gd (drawOk P ops && dstsFit ops.toList r.size) <|
  match drawGo P call ops M.next ops.toList [] r ⟨M.next + ops.size, M.tbl⟩ with
  | some (es, rf, Mf) => gd (steady P ops M.next es Mf) (some (rf, addSel M.next (fun i => !(mat ops es i)) es 0 Mf))
  | none => none

section
variable {P : Program} {call : Nat → CallF} {ops : Array Oper}

def EStep (P : Program) (call : Nat → CallF) (ops : Array Oper) (base : Nat) (pre : List Ent) (en : Ent) (r' : Env) (M' : Mem) : Prop :=
  r' = en.r.put en.o.dst en.v ∧
  match en.cls with
  | .n => wantedA ops en.r en.o = false ∧ en.v = undef ∧ M' = en.M
  | .p => wantedA ops en.r en.o = true ∧ kindP en.o.op = true ∧ (∃ M1, aOp P en.r en.o en.M = some (.val en.v M1)) ∧ M' = en.M
  | .r => wantedA ops en.r en.o = true ∧ kindR P en.o.op = true ∧ M' = en.M
  | .a obj => wantedA ops en.r en.o = true ∧ aAlloc P en.r en.o (base + pre.length) = some (en.v, obj) ∧ M' = en.M
  | .e => wantedA ops en.r en.o = true ∧ kindE P en.o = true ∧ stepOp P (call pre.length) en.r en.o (addSel base (selB ops pre pre.length) pre 0 en.M) = some (en.v, M')

theorem drawGo_spec {base : Nat} : ∀ (l : List Oper) (acc : List Ent) (r : Env) (M : Mem) (es : List Ent) (rf : Env) (Mf : Mem), drawGo P call ops base l acc r M = some (es, rf, Mf) →
    ∃ ext, es = acc ++ ext ∧ ext.map (·.o) = l ∧ envAt ext rf 0 = r ∧ memAt ext Mf 0 = M ∧
      ∀ j en, ext[j]? = some en → EStep P call ops base (es.take (acc.length + j)) en (envAt ext rf (j + 1)) (memAt ext Mf (j + 1))
  | [], acc, r, M, es, rf, Mf, h => by
    simp only [drawGo, Option.some.injEq, Prod.mk.injEq] at h
    obtain ⟨rfl, rfl, rfl⟩ := h
    exact ⟨[], by simp, rfl, rfl, rfl, fun j en hj => by simp at hj⟩
  | o :: rest, acc, r, M, es, rf, Mf, h => by
    simp only [drawGo] at h
    have fin : ∀ v M' c, drawGo P call ops base rest (acc ++ [⟨o, r, M, v, c⟩]) (r.put o.dst v) M' = some (es, rf, Mf) →
        EStep P call ops base acc ⟨o, r, M, v, c⟩ (r.put o.dst v) M' →
        ∃ ext, es = acc ++ ext ∧ ext.map (·.o) = o :: rest ∧ envAt ext rf 0 = r ∧ memAt ext Mf 0 = M ∧
          ∀ j en, ext[j]? = some en → EStep P call ops base (es.take (acc.length + j)) en (envAt ext rf (j + 1)) (memAt ext Mf (j + 1)) := by
      intro v M' c h1 h2
      obtain ⟨ext, k0, k1, k2, k3, k4⟩ := drawGo_spec rest _ _ _ es rf Mf h1
      refine ⟨⟨o, r, M, v, c⟩ :: ext, by rw [k0]; simp, by simp [k1], rfl, rfl, fun j en hj => ?_⟩
      have e1 : ∀ p, envAt (⟨o, r, M, v, c⟩ :: ext) rf (p + 1) = envAt ext rf p := fun p => rfl
      have e2 : ∀ p, memAt (⟨o, r, M, v, c⟩ :: ext) Mf (p + 1) = memAt ext Mf p := fun p => rfl
      rw [e1, e2]
      cases j with
      | zero =>
        simp only [List.getElem?_cons_zero, Option.some.injEq] at hj
        subst hj
        rw [k2, k3, k0]
        simp only [Nat.add_zero, List.append_assoc, List.take_left']
        exact h2
      | succ j =>
        have := k4 j en (by simpa using hj)
        rwa [show (acc ++ [(⟨o, r, M, v, c⟩ : Ent)]).length + j = acc.length + (j + 1) by simp; omega] at this
    replace h := cond_split h; rcases h with ⟨hw, h⟩ | ⟨hw, h⟩
    · replace h := cond_split h; rcases h with ⟨hp, h⟩ | ⟨hp, h⟩
      · split at h
        · rename_i v M1 hs
          exact fin v M .p h ⟨rfl, hw, hp, ⟨M1, hs⟩, rfl⟩
        · cases h
      · replace h := cond_split h; rcases h with ⟨hr, h⟩ | ⟨hr, h⟩
        · split at h
          · rename_i v M1 hs
            exact fin v M .r h ⟨rfl, hw, hr, rfl⟩
          · cases h
        · replace h := cond_split h; rcases h with ⟨ha, h⟩ | ⟨ha, h⟩
          · split at h
            · rename_i v obj hs
              exact fin v M (.a obj) h ⟨rfl, hw, hs, rfl⟩
            · cases h
          · split at h
            · rename_i v M1 hs
              refine fin v M1 .e h ⟨rfl, hw, ?_, hs⟩
              unfold kindE
              simp only [hp, hr, ha]; rfl
            · cases h
    · exact fin undef M .n h ⟨rfl, hw, rfl, rfl⟩

theorem step_same {base : Nat} {pre : List Ent} {en : Ent} {r' : Env} {M' : Mem} (h : EStep P call ops base pre en r' M') (hk : en.cls.isE = false) : M' = en.M := by
  obtain ⟨_, h⟩ := h
  cases hc : en.cls with
  | n => rw [hc] at h; exact h.2.2
  | p => rw [hc] at h; exact h.2.2.2
  | r => rw [hc] at h; exact h.2.2
  | a obj => rw [hc] at h; exact h.2.2
  | e => rw [hc] at hk; cases hk

theorem mat_iff {es : List Ent} {i : Nat} : mat ops es i = true ↔ ∃ e en, es[e]? = some en ∧ en.cls.isE = true ∧ ahead ops i e = true := by
  unfold mat
  rw [List.any_eq_true]
  constructor
  · rintro ⟨⟨en, e⟩, hm, h⟩
    rw [List.mem_iff_getElem?] at hm
    obtain ⟨q, hq⟩ := hm
    rw [List.getElem?_zipIdx, Option.map_eq_some_iff] at hq
    obtain ⟨oq, hoq, hqe⟩ := hq
    simp only [Nat.zero_add, Prod.mk.injEq] at hqe
    obtain ⟨rfl, rfl⟩ := hqe
    simp only [Bool.and_eq_true] at h
    exact ⟨q, oq, hoq, h.1, h.2⟩
  · rintro ⟨e, en, h1, h2, h3⟩
    refine ⟨(en, e), ?_, by simp [h2, h3]⟩
    rw [List.mem_iff_getElem?]
    exact ⟨e, by rw [List.getElem?_zipIdx, h1]; simp⟩

theorem addSel_next (base : Nat) (f : Nat → Bool) : ∀ (es : List Ent) (i : Nat) (M : Mem), (addSel base f es i M).next = M.next
  | [], i, M => rfl
  | en :: rest, i, M => by
    simp only [addSel]
    split
    · cases f i <;> simp only [cond_true, cond_false] <;> rw [addSel_next base f rest]
      rfl
    · rw [addSel_next base f rest]

theorem addSel_out (base : Nat) (f : Nat → Bool) (id : Nat) : ∀ (es : List Ent) (i : Nat) (M : Mem), (∀ k en obj, es[k]? = some en → en.cls = .a obj → f (i + k) = true → id ≠ base + (i + k)) →
    (addSel base f es i M).get id = M.get id
  | [], i, M, _ => rfl
  | en :: rest, i, M, h => by
    simp only [addSel]
    have hr : ∀ k en obj, rest[k]? = some en → en.cls = .a obj → f (i + 1 + k) = true → id ≠ base + (i + 1 + k) := fun k en' obj h1 h2 h3 => by
      have := h (k + 1) en' obj (by simpa using h1) h2 (by rwa [show i + (k + 1) = i + 1 + k by omega])
      rwa [show i + (k + 1) = i + 1 + k by omega] at this
    split
    · rename_i obj hc
      cases hf : f i with
      | true =>
        simp only [cond_true]
        rw [addSel_out base f id rest _ _ hr, Mem.get_set, if_neg]
        have := h 0 en obj (by simp) hc (by simpa using hf)
        simpa using this
      | false => simp only [cond_false]; exact addSel_out base f id rest _ _ hr
    · exact addSel_out base f id rest _ _ hr

theorem addSel_in (base : Nat) (f : Nat → Bool) : ∀ (es : List Ent) (i k : Nat) (en : Ent) (obj : AObj) (M : Mem), es[k]? = some en → en.cls = .a obj → f (i + k) = true →
    (addSel base f es i M).get (base + (i + k)) = some obj
  | [], i, k, en, obj, M, h, _, _ => by simp at h
  | e0 :: rest, i, k, en, obj, M, h, hc, hf => by
    cases k with
    | zero =>
      simp only [List.getElem?_cons_zero, Option.some.injEq] at h
      subst h
      simp only [addSel, hc]
      rw [show f i = true by simpa using hf]
      simp only [cond_true]
      rw [addSel_out base f _ rest _ _ (fun k en' obj' h1 h2 h3 => by omega), Mem.get_set, if_pos (by omega)]
    | succ k =>
      have h' : rest[k]? = some en := by simpa using h
      have hf' : f (i + 1 + k) = true := by rwa [show i + 1 + k = i + (k + 1) by omega]
      rw [show base + (i + (k + 1)) = base + (i + 1 + k) by omega]
      simp only [addSel]
      split
      · cases f i <;> simp only [cond_true, cond_false] <;> exact addSel_in base f rest (i + 1) k en obj _ h' hc hf'
      · exact addSel_in base f rest (i + 1) k en obj _ h' hc hf'

theorem zip_all {α : Type} {l : List α} {f : α × Nat → Bool} (h : l.zipIdx.all f = true) {i : Nat} {x : α} (hx : l[i]? = some x) : f (x, i) = true := by
  refine List.all_eq_true.1 h (x, i) ?_
  rw [List.mem_iff_getElem?]
  exact ⟨i, by rw [List.getElem?_zipIdx, hx]; simp⟩

/-- Closed downwards. -/
def Down (ops : Array Oper) (S : Nat → Prop) : Prop := ∀ j o, S j → ops[j]? = some o → ∀ e ∈ o.after, Region.binds .any e = true → S e.on

theorem ahead_in (hlow : lowEdges ops = true) {S : Nat → Prop} (hS : Down ops S) : ∀ (j i : Nat) (o : Oper), ops[j]? = some o → (∀ e ∈ o.after, Region.binds .any e = true → S e.on) → ahead ops i j = true → S i := by
  intro j
  induction j using Nat.strongRecOn with
  | _ j ih =>
    intro i o ho he ha
    have hl : ∀ e ∈ o.after, Region.binds .any e = true → e.on < j := by
      intro e hm hb
      have := zip_all hlow (i := j) (x := o) (by simpa using ho)
      have := List.all_eq_true.1 this e (by simpa using hm)
      rw [hb] at this
      exact blt_iff.1 (by simpa using this)
    obtain ⟨e, hm, hb, h⟩ := befAt_bit ho hl ha
    rcases h with rfl | h
    · exact he e hm hb
    · have hs := he e hm hb
      have hlt := hl e hm hb
      have hj : j < ops.size := (Array.getElem?_eq_some_iff.1 ho).1
      have ho2 : ops[e.on]? = some ops[e.on] := Array.getElem?_eq_getElem (by omega)
      exact ih e.on hlt i _ ho2 (hS e.on _ hs ho2) h

/-- What variables hold when the operations of S have been done. -/
structure Chr (ops : Array Oper) (r0 : Env) (val : Nat → Value) (S : Nat → Prop) (r : Env) : Prop where
  size : r.size = r0.size
  old : ∀ t, (∀ i, S i → isDst ops i t = false) → r.get t = r0.get t
  new : ∀ i t, S i → isDst ops i t = true → r.get t = val i

theorem isDst_iff {i t : Nat} : isDst ops i t = true ↔ ∃ o, ops[i]? = some o ∧ o.dst = some t := by
  unfold isDst
  constructor
  · intro h
    split at h
    · rename_i o ho
      split at h
      · rename_i d hd
        exact ⟨o, ho, by rw [hd, beq_eq h]⟩
      · cases h
    · cases h
  · rintro ⟨o, ho, hd⟩
    rw [ho]
    simp only [hd]
    exact beqT rfl

theorem Chr.step (h1w : oneWriter ops = true) {r0 : Env} {val : Nat → Value} {S : Nat → Prop} {r : Env} (h : Chr ops r0 val S r) {i : Nat} {o : Oper} (ho : ops[i]? = some o) (hi : ¬ S i)
    (hfit : ∀ t, o.dst = some t → t < r0.size) : Chr ops r0 val (fun k => S k ∨ k = i) (r.put o.dst (val i)) := by
  refine ⟨by rw [Env.size_put]; exact h.size, fun t ht => ?_, fun k t hk hd => ?_⟩
  · have hn := ht i (.inr rfl)
    cases hd : o.dst with
    | none => exact h.old t fun k hk => ht k (.inl hk)
    | some d =>
      simp only [Env.put]
      rw [Env.get_set, if_neg]
      · exact h.old t fun k hk => ht k (.inl hk)
      · rintro ⟨rfl, _⟩
        rw [isDst_iff.2 ⟨o, ho, hd⟩] at hn
        cases hn
  · cases hdd : o.dst with
    | none =>
      rcases hk with hk | rfl
      · exact h.new k t hk hd
      · obtain ⟨o', ho', hd'⟩ := isDst_iff.1 hd
        rw [ho] at ho'
        obtain rfl := Option.some.inj ho'
        rw [hdd] at hd'; cases hd'
    | some d =>
      simp only [Env.put]
      rw [Env.get_set]
      rcases hk with hk | rfl
      · rw [if_neg]
        · exact h.new k t hk hd
        · rintro ⟨rfl, _⟩
          have hki : k ≠ i := fun e => hi (e ▸ hk)
          have := zip_all h1w (i := i) (x := o) (by simpa using ho)
          simp only [hdd] at this
          obtain ⟨o', ho', hd'⟩ := isDst_iff.1 hd
          have := zip_all this (i := k) (x := o') (by simpa using ho')
          simp only [Bool.or_eq_true, Bool.and_eq_true] at this
          rcases this with this | this
          · exact hki (beq_eq this).symm
          · rw [hd] at this; simp at this
      · obtain ⟨o', ho', hd'⟩ := isDst_iff.1 hd
        rw [ho] at ho'
        obtain rfl := Option.some.inj ho'
        rw [hdd] at hd'
        obtain rfl := Option.some.inj hd'
        rw [if_pos ⟨rfl, by rw [h.size]; exact hfit _ hdd⟩]

theorem Chr.looks (h1w : oneWriter ops = true) {r0 : Env} {val : Nat → Value} {S S' : Nat → Prop} {r r' : Env} (h : Chr ops r0 val S r) (h' : Chr ops r0 val S' r') {j : Nat} {o : Oper} (ho : ops[j]? = some o)
    (hj : ¬ S j) (hj' : ¬ S' j) (ha : ∀ i, ahead ops i j = true → S i) (ha' : ∀ i, ahead ops i j = true → S' i) (hb : ∀ i, S i → ahead ops j i = false) (hb' : ∀ i, S' i → ahead ops j i = false) :
    ∀ t ∈ o.looksAt ops, r.get t = r'.get t := by
  intro t ht
  by_cases hw : ∃ i, isDst ops i t = true ∧ ahead ops i j = true
  · obtain ⟨i, h1, h2⟩ := hw
    rw [h.new i t (ha i h2) h1, h'.new i t (ha' i h2) h1]
  · have none : ∀ T : Nat → Prop, ¬ T j → (∀ i, T i → ahead ops j i = false) → ∀ i, T i → isDst ops i t = false := by
      intro T hTj hTb i hi
      cases hd : isDst ops i t with
      | false => rfl
      | true =>
        exfalso
        obtain ⟨o', ho', hd'⟩ := isDst_iff.1 hd
        have := zip_all h1w (i := i) (x := o') (by simpa using ho')
        simp only [hd'] at this
        have := zip_all this (i := j) (x := o) (by simpa using ho)
        simp only [Bool.or_eq_true, Bool.and_eq_true] at this
        rcases this with this | ⟨_, this⟩
        · exact hTj (beq_eq this ▸ hi)
        · rcases this with (this | this) | this
          · have hc : (o.looksAt ops).contains t = true := List.contains_iff_mem.2 ht
            rw [hc] at this; cases this
          · exact hw ⟨i, hd, this⟩
          · rw [hTb i hi] at this; cases this
    rw [h.old t (none S hj hb), h'.old t (none S' hj' hb')]
end

end Go.Ab
