/- The abstract machine's memory, and how it stands for the model's memory: proved once, no program in it. -/
import Derived.Orders
import Derived.Below
import Derived.ArgAppend
import Derived.Deep.MidRow
set_option linter.unusedSimpArgs false
set_option linter.unusedVariables false
namespace Go.Ab
open Go.RowKit (Below)

/-! ### Binary tries -/
theorem beqT {a b : Nat} (h : a = b) : Nat.beq a b = true := by subst h; exact Nat.beq_refl a
theorem beqF {a b : Nat} (h : a ≠ b) : Nat.beq a b = false := by
  cases e : Nat.beq a b with
  | false => rfl
  | true => exact absurd (Nat.eq_of_beq_eq_true e) h

inductive Tr (α : Type) where
  | leaf
  | node (v : Option α) (l r : Tr α)

/-- The way to a place: closed for a numeral, so that the kernel finds it once. -/
def pathAux : Nat → Nat → List Bool
  | 0, _ => []
  | k + 1, n => bif Nat.beq n 0 then [] else bif Nat.beq (n % 2) 1 then true :: pathAux k (n / 2) else false :: pathAux k (n / 2 - 1)
def path (n : Nat) : List Bool := pathAux (n + 1) n

def unpath : List Bool → Nat
  | [] => 0
  | true :: p => 2 * unpath p + 1
  | false :: p => 2 * unpath p + 2

theorem unpath_aux : ∀ (k n : Nat), n < k → unpath (pathAux k n) = n
  | 0, n, h => by omega
  | k + 1, n, h => by
    simp only [pathAux]
    by_cases h0 : n = 0
    · rw [beqT h0]; simp [unpath, h0]
    · rw [beqF h0]
      simp only [cond_false]
      by_cases h2 : n % 2 = 1
      · rw [beqT h2]
        simp only [cond_true, unpath]
        rw [unpath_aux k _ (by omega)]; omega
      · rw [beqF h2]
        simp only [cond_false, unpath]
        rw [unpath_aux k _ (by omega)]; omega

theorem path_inj {n m : Nat} (h : path n = path m) : n = m := by
  have h1 := unpath_aux (n + 1) n (Nat.lt_succ_self n)
  have h2 := unpath_aux (m + 1) m (Nat.lt_succ_self m)
  have h3 : pathAux (n + 1) n = pathAux (m + 1) m := h
  rw [h3, h2] at h1
  exact h1.symm

def Tr.val {α : Type} : Tr α → Option α
  | .leaf => none
  | .node v _ _ => v
def Tr.lt {α : Type} : Tr α → Tr α
  | .leaf => .leaf
  | .node _ l _ => l
def Tr.rt {α : Type} : Tr α → Tr α
  | .leaf => .leaf
  | .node _ _ r => r

def Tr.getP {α : Type} : List Bool → Tr α → Option α
  | [], t => t.val
  | b :: p, t => Tr.getP p (bif b then t.lt else t.rt)

def Tr.setP {α : Type} (o : Option α) : List Bool → Tr α → Tr α
  | [], t => .node o t.lt t.rt
  | b :: p, t => bif b then .node t.val (Tr.setP o p t.lt) t.rt else .node t.val t.lt (Tr.setP o p t.rt)

def Tr.get {α : Type} (t : Tr α) (n : Nat) : Option α := Tr.getP (path n) t
def Tr.set {α : Type} (t : Tr α) (n : Nat) (o : Option α) : Tr α := Tr.setP o (path n) t

theorem Tr.getP_leaf {α : Type} : ∀ p : List Bool, Tr.getP p (.leaf : Tr α) = none
  | [] => rfl
  | b :: p => by cases b <;> exact Tr.getP_leaf p
theorem Tr.get_leaf {α : Type} (n : Nat) : (.leaf : Tr α).get n = none := Tr.getP_leaf _

theorem Tr.getP_setP {α : Type} (o : Option α) : ∀ (q p : List Bool) (t : Tr α), Tr.getP p (Tr.setP o q t) = if p = q then o else Tr.getP p t
  | [], p, t => by
    cases p with
    | nil => simp [Tr.setP, Tr.getP, Tr.val]
    | cons b p => cases b <;> simp [Tr.setP, Tr.getP, Tr.lt, Tr.rt]
  | c :: q, p, t => by
    cases p with
    | nil => cases c <;> simp [Tr.setP, Tr.getP, Tr.val]
    | cons b p =>
      cases b <;> cases c <;> simp [Tr.setP, Tr.getP, Tr.lt, Tr.rt, Tr.getP_setP o q p]

theorem Tr.get_set {α : Type} (t : Tr α) (n m : Nat) (o : Option α) : (t.set n o).get m = if m = n then o else t.get m := by
  unfold Tr.get Tr.set
  rw [Tr.getP_setP]
  by_cases h : m = n
  · subst h; simp
  · rw [if_neg h, if_neg (fun e => h (path_inj e))]

/-! ### Values -/
/-- Where an abstract block lies: in block 'blk', from cell 'base' to below cell 'top'; its elements have 'esz' cells. -/
structure Loc where
  blk : Nat
  base : Nat
  top : Nat
  esz : Nat

/-- Where the abstract blocks lie; from 'next' on none is used. Blocks that are only read lie below 'bot', the others from there on. -/
structure LM where
  f : Nat → Option Loc
  next : Nat
  bot : Nat
instance : CoeFun LM (fun _ => Nat → Option Loc) := ⟨LM.f⟩

structure LM.sub (m m' : LM) : Prop where
  to : ∀ A L, m A = some L → m' A = some L
  bt : m'.bot = m.bot
theorem LM.sub_refl (m : LM) : m.sub m := ⟨fun _ _ h => h, rfl⟩
theorem LM.sub.trans' {a b c : LM} (h : a.sub b) (k : b.sub c) : a.sub c := ⟨fun A L x => k.to A L (h.to A L x), k.bt.trans h.bt⟩

/-- More is known; what was free below 'next' is free. -/
structure LM.le (m m' : LM) : Prop where
  sub : m.sub m'
  nx : m.next ≤ m'.next
  st : ∀ A, A < m.next → m' A = m A
theorem LM.le_refl (m : LM) : m.le m := ⟨LM.sub_refl m, Nat.le_refl _, fun _ _ => rfl⟩
theorem LM.le.trans' {a b c : LM} (h : a.le b) (k : b.le c) : a.le c :=
  ⟨h.sub.trans' k.sub, Nat.le_trans h.nx k.nx, fun A hA => (k.st A (Nat.lt_of_lt_of_le hA h.nx)).trans (h.st A hA)⟩

/-- The capacity of a slice of which nothing is known. -/
def capU : Nat := 18446744073709551616

def Fn.plain : Fn → Bool
  | .yield _ => false
  | _ => true

inductive VRel (m : LM) : Value → Value → Prop where
  | bool (b : Bool) : VRel m (.bool b) (.bool b)
  | int (k : IntKind) (n : Int) : VRel m (.int k n) (.int k n)
  | string (s : ByteArray) : VRel m (.string s) (.string s)
  | ptrNil : VRel m (.pointer none) (.pointer none)
  | ptr (A o : Nat) (L : Loc) (h : m A = some L) : VRel m (.pointer (some ⟨A, o, none⟩)) (.pointer (some ⟨L.blk, L.base + o, none⟩))
  | sliceNil : VRel m (.slice none 0 0) (.slice none 0 0)
  | slice (A o l c' : Nat) (L : Loc) (a' : Addr) (c : Nat) (h : m A = some L) (hl : l ≤ c)
      (hc : (c' = capU ∧ L.base + o + c * L.esz = L.top) ∨ (c' = c ∧ c' ≠ capU ∧ L.base + o + c * L.esz ≤ L.top))
      (ha : a' = ⟨L.blk, L.base + o, none⟩ ∨ c = 0) : VRel m (.slice (some ⟨A, o, none⟩) l c') (.slice (some a') l c)
  | mapNil : VRel m (.map none) (.map none)
  | map (A : Nat) (L : Loc) (h : m A = some L) : VRel m (.map (some A)) (.map (some L.blk))
  | func (fn : Fn) (hp : Fn.plain fn = true) (f f' c c' : Array Value) (h1 : f.size = f'.size) (h2 : c.size = c'.size)
      (hf : ∀ (i : Nat) (v u : Value), f[i]? = some v → f'[i]? = some u → VRel m v u)
      (hc : ∀ (i : Nat) (v u : Value), c[i]? = some v → c'[i]? = some u → VRel m v u) : VRel m (.func fn f c) (.func fn f' c')
  | nilFunc : VRel m .nilFunc .nilFunc
  | nilIface : VRel m .nilIface .nilIface
  | iface (t : TypeId) (v u : Value) (h : VRel m v u) : VRel m (.iface t v) (.iface t u)
  | agg (c c' : Array Value) (h2 : c.size = c'.size)
      (hc : ∀ (i : Nat) (v u : Value), c[i]? = some v → c'[i]? = some u → VRel m v u) : VRel m (.agg c) (.agg c')
  | tuple (c c' : Array Value) (h2 : c.size = c'.size)
      (hc : ∀ (i : Nat) (v u : Value), c[i]? = some v → c'[i]? = some u → VRel m v u) : VRel m (.tuple c) (.tuple c')

theorem VRel.mono {m m' : LM} (hm : m.sub m') {v u : Value} (h : VRel m v u) : VRel m' v u := by
  induction h with
  | bool b => exact .bool b
  | int k n => exact .int k n
  | string s => exact .string s
  | ptrNil => exact .ptrNil
  | ptr A o L h => exact .ptr A o L (hm.to _ _ h)
  | sliceNil => exact .sliceNil
  | slice A o l c' L a' c h hl hc ha => exact .slice A o l c' L a' c (hm.to _ _ h) hl hc ha
  | mapNil => exact .mapNil
  | map A L h => exact .map A L (hm.to _ _ h)
  | func fn hp f f' c c' h1 h2 _ _ ih1 ih2 => exact .func fn hp f f' c c' h1 h2 ih1 ih2
  | nilFunc => exact .nilFunc
  | nilIface => exact .nilIface
  | iface t v u _ ih => exact .iface t v u ih
  | agg c c' h2 _ ih => exact .agg c c' h2 ih
  | tuple c c' h2 _ ih => exact .tuple c c' h2 ih

theorem VRel.undef (m : LM) : VRel m Go.undef Go.undef := .tuple _ _ rfl (fun i v u h => by simp at h)

/-- Lists of values, each one related. -/
def LRel (m : LM) (xs ys : List Value) : Prop := xs.length = ys.length ∧ ∀ (i : Nat) (v u : Value), xs[i]? = some v → ys[i]? = some u → VRel m v u

theorem LRel.mono {m m' : LM} (hm : m.sub m') {xs ys : List Value} (h : LRel m xs ys) : LRel m' xs ys :=
  ⟨h.1, fun i v u a b => (h.2 i v u a b).mono hm⟩
theorem LRel.nil (m : LM) : LRel m [] [] := ⟨rfl, fun i v u h => by simp at h⟩
theorem LRel.cons {m : LM} {x y : Value} {xs ys : List Value} (h : VRel m x y) (t : LRel m xs ys) : LRel m (x :: xs) (y :: ys) :=
  ⟨by simp [t.1], fun i v u a b => by
    cases i with
    | zero => simp at a b; subst a; subst b; exact h
    | succ i => simp at a b; exact t.2 i v u a b⟩
theorem LRel.append {m : LM} {a b c d : List Value} (h : LRel m a b) (k : LRel m c d) : LRel m (a ++ c) (b ++ d) := by
  refine ⟨by simp [h.1, k.1], fun i v u x y => ?_⟩
  rw [List.getElem?_append] at x y
  rw [← h.1] at y
  split at x
  · rename_i hi; rw [if_pos hi] at y; exact h.2 i v u x y
  · rename_i hi; rw [if_neg hi] at y; exact k.2 _ v u x y
theorem LRel.take {m : LM} {a b : List Value} (h : LRel m a b) (n : Nat) : LRel m (a.take n) (b.take n) := by
  refine ⟨by simp [h.1], fun i v u x y => ?_⟩
  rw [List.getElem?_take] at x y
  split at x
  · rename_i hi; rw [if_pos hi] at y; exact h.2 i v u x y
  · simp at x
theorem LRel.drop {m : LM} {a b : List Value} (h : LRel m a b) (n : Nat) : LRel m (a.drop n) (b.drop n) := by
  refine ⟨by simp [h.1], fun i v u x y => ?_⟩
  rw [List.getElem?_drop] at x y
  exact h.2 _ v u x y
theorem LRel.get {m : LM} {a b : List Value} (h : LRel m a b) {i : Nat} {v : Value} (hv : a[i]? = some v) : ∃ u, b[i]? = some u ∧ VRel m v u := by
  have hi : i < a.length := by
    rcases Nat.lt_or_ge i a.length with h' | h'
    · exact h'
    · rw [List.getElem?_eq_none h'] at hv; cases hv
  have hb : i < b.length := h.1 ▸ hi
  exact ⟨b[i], List.getElem?_eq_getElem hb, h.2 i v _ hv (List.getElem?_eq_getElem hb)⟩

/-- A value without addresses: it stands for itself. -/
def base : Value → Bool
  | .bool _ | .int _ _ | .string _ | .pointer none | .slice none 0 0 | .map none | .nilFunc | .nilIface => true
  | .func fn f c => Fn.plain fn && f.size == 0 && c.size == 0
  | _ => false
def flat : Nat → Value → Bool
  | n + 1, .agg c => c.toList.all (flat n)
  | n + 1, .tuple c => c.toList.all (flat n)
  | n + 1, .iface _ v => flat n v
  | _, v => base v

theorem VRel.of_base (m : LM) {v : Value} (h : base v = true) : VRel m v v := by
  unfold base at h
  split at h
  · exact .bool _
  · exact .int _ _
  · exact .string _
  · exact .ptrNil
  · exact .sliceNil
  · exact .mapNil
  · exact .nilFunc
  · exact .nilIface
  · rename_i fn f c
    simp at h
    obtain ⟨⟨h1, h2⟩, h3⟩ := h
    exact .func fn h1 f f c c rfl rfl (fun i v u a _ => by subst h2; simp at a) (fun i v u a _ => by subst h3; simp at a)
  · cases h

theorem VRel.of_flat (m : LM) : ∀ (n : Nat) (v : Value), flat n v = true → VRel m v v := by
  intro n
  induction n with
  | zero => intro v h; exact .of_base m (by simpa [flat] using h)
  | succ n ih =>
    intro v h
    unfold flat at h
    split at h
    · rename_i k c hn; cases hn
      have h := List.all_eq_true.1 h
      refine .agg c c rfl fun i v u a b => ?_
      rw [a] at b
      obtain rfl := Option.some.inj b
      exact ih v (h v (Array.mem_toList_iff.2 (Array.mem_of_getElem? a)))
    · rename_i k c hn; cases hn
      have h := List.all_eq_true.1 h
      refine .tuple c c rfl fun i v u a b => ?_
      rw [a] at b
      obtain rfl := Option.some.inj b
      exact ih v (h v (Array.mem_toList_iff.2 (Array.mem_of_getElem? a)))
    · rename_i hn; cases hn; exact .iface _ _ _ (ih _ h)
    · exact .of_base m h

theorem array_ext_rel {c c' : Array Value} (h2 : c.size = c'.size) (h : ∀ (i : Nat) (v u : Value), c[i]? = some v → c'[i]? = some u → u = v) : c' = c := by
  apply Array.ext h2.symm
  intro i h1 h3
  exact h i c[i] c'[i] (Array.getElem?_eq_getElem h3) (Array.getElem?_eq_getElem h1)

theorem VRel.flat_eq {m : LM} {v u : Value} (h : VRel m v u) : ∀ (n : Nat), flat n v = true → u = v := by
  induction h with
  | bool b => intros; rfl
  | int k n => intros; rfl
  | string s => intros; rfl
  | ptrNil => intros; rfl
  | ptr A o L h => intro n hf; cases n <;> simp [flat, base] at hf
  | sliceNil => intros; rfl
  | slice A o l c' L a' c h hl hc ha => intro n hf; cases n <;> simp [flat, base] at hf
  | mapNil => intros; rfl
  | map A L h => intro n hf; cases n <;> simp [flat, base] at hf
  | func fn hp f f' c c' h1 h2 _ _ _ _ =>
    intro n hf
    have : f.size = 0 ∧ c.size = 0 := by cases n <;> simp [flat, base] at hf <;> simp [hf]
    have e1 : f' = f := array_ext_rel h1 fun i v u a b => by
      have := Array.eq_empty_of_size_eq_zero this.1; subst this; simp at a
    have e2 : c' = c := array_ext_rel h2 fun i v u a b => by
      have := Array.eq_empty_of_size_eq_zero this.2; subst this; simp at a
    rw [e1, e2]
  | nilFunc => intros; rfl
  | nilIface => intros; rfl
  | iface t v u _ ih =>
    intro n hf
    cases n with
    | zero => simp [flat, base] at hf
    | succ n => rw [ih n (by simpa [flat] using hf)]
  | agg c c' h2 _ ih =>
    intro n hf
    cases n with
    | zero => simp [flat, base] at hf
    | succ n =>
      have hf := List.all_eq_true.1 (show _ = true from hf)
      rw [array_ext_rel h2 fun i v u a b => ih i v u a b n (hf v (Array.mem_toList_iff.2 (Array.mem_of_getElem? a)))]
  | tuple c c' h2 _ ih =>
    intro n hf
    cases n with
    | zero => simp [flat, base] at hf
    | succ n =>
      have hf := List.all_eq_true.1 (show _ = true from hf)
      rw [array_ext_rel h2 fun i v u a b => ih i v u a b n (hf v (Array.mem_toList_iff.2 (Array.mem_of_getElem? a)))]

/-! ### Memory -/
inductive AObj where
  | cells (cs : List Value) (esz : Nat) (ro : Bool)
  | map (es : List MapEntry) (clock : Nat)

def AObj.rw : AObj → Bool
  | .cells _ _ ro => !ro
  | .map _ _ => true

structure Mem where
  next : Nat
  tbl : Tr AObj

def Mem.empty : Mem := ⟨8, .leaf⟩
def Mem.get (M : Mem) (A : Nat) : Option AObj := M.tbl.get A
def Mem.set (M : Mem) (A : Nat) (o : AObj) : Mem := ⟨M.next, M.tbl.set A (some o)⟩
def Mem.del (M : Mem) (A : Nat) : Mem := ⟨M.next, M.tbl.set A none⟩
def Mem.new (M : Mem) (o : AObj) : Mem := ⟨M.next + 1, M.tbl.set M.next (some o)⟩

theorem Mem.get_set (M : Mem) (A B : Nat) (o : AObj) : (M.set A o).get B = if B = A then some o else M.get B := Tr.get_set _ _ _ _
theorem Mem.get_del (M : Mem) (A B : Nat) : (M.del A).get B = if B = A then none else M.get B := Tr.get_set _ _ _ _
theorem Mem.get_new (M : Mem) (B : Nat) (o : AObj) : (M.new o).get B = if B = M.next then some o else M.get B := Tr.get_set _ _ _ _
theorem Mem.next_set (M : Mem) (A : Nat) (o : AObj) : (M.set A o).next = M.next := rfl
theorem Mem.next_del (M : Mem) (A : Nat) : (M.del A).next = M.next := rfl
theorem Mem.next_new (M : Mem) (o : AObj) : (M.new o).next = M.next + 1 := rfl

def ORel (N0 : Nat → Prop) (m : LM) (w : World) (L : Loc) : AObj → Prop
  | .cells cs esz ro => L.esz = esz ∧ ((ro = true → L.blk < m.bot) ∧ (ro = false → ¬ N0 L.blk ∧ m.bot ≤ L.blk)) ∧
      ∃ arr e fz, w.heap[L.blk]? = some (.cells arr e fz) ∧ L.top ≤ arr.size ∧ L.base + cs.length ≤ L.top ∧
        (ro = false → (fz.1 = fz.2 ∨ arr.size ≤ fz.1)) ∧ ∀ (i : Nat) (v : Value), cs[i]? = some v → ∃ u, arr[L.base + i]? = some u ∧ VRel m v u
  | .map es clock => (¬ N0 L.blk ∧ m.bot ≤ L.blk) ∧ ∃ es', w.heap[L.blk]? = some (.map es' clock) ∧ es.length = es'.size ∧
      ∀ (i : Nat) (x y : MapEntry), es[i]? = some x → es'[i]? = some y → VRel m x.key y.key ∧ VRel m x.val y.val ∧ y.born = x.born

/-- What N0 names is as it was. -/
structure Fr (N0 : Nat → Prop) (w w' : World) : Prop where
  os : w'.os = w.os
  tape : w'.tape = w.tape
  output : w'.output = w.output
  size : w.heap.size ≤ w'.heap.size
  block : ∀ k, N0 k → w'.heap[k]? = w.heap[k]?

theorem Fr.refl (N0 : Nat → Prop) (w : World) : Fr N0 w w := ⟨rfl, rfl, rfl, Nat.le_refl _, fun _ _ => rfl⟩
theorem Fr.trans {N0 : Nat → Prop} {u v w : World} (h : Fr N0 u v) (k : Fr N0 v w) : Fr N0 u w :=
  ⟨k.os.trans h.os, k.tape.trans h.tape, k.output.trans h.output, Nat.le_trans h.size k.size, fun i a => (k.block i a).trans (h.block i a)⟩
theorem Fr.below {B : Nat} {w w' : World} (h : Fr (fun k => k < B) w w') : Below B w w' := ⟨h.os, h.tape, h.output, h.size, h.block⟩

/-- The first abstract blocks are the program's variables: each at its own place. -/
def globs : Nat := 8
def GlobOk (m : LM) : Prop := ∀ g, g < globs → ∃ L, m g = some L ∧ L.blk = g ∧ L.base = 0
theorem GlobOk.mono {m m' : LM} (h : GlobOk m) (hm : m.sub m') : GlobOk m' := fun g hg => let ⟨L, a, b⟩ := h g hg; ⟨L, hm.to _ _ a, b⟩

structure Rl (N0 : Nat → Prop) (w0 : World) (m : LM) (M : Mem) (w : World) : Prop where
  fr : Fr N0 w0 w
  n0 : ∀ k, N0 k → k < w.heap.size
  glob : GlobOk m
  obj : ∀ A o, M.get A = some o → ∃ L, m A = some L ∧ ORel N0 m w L o
  inj : ∀ A B oA oB LA LB, A ≠ B → M.get A = some oA → M.get B = some oB → oA.rw = true → m A = some LA → m B = some LB → LA.blk ≠ LB.blk
  fresh : ∀ A, M.next ≤ A → M.get A = none ∧ m A = none
  nx : M.next = m.next
  bt : m.bot ≤ w.heap.size

/-- The world is as it was but for block b (and blocks that are new). -/
structure Agree (b : Nat) (w w' : World) : Prop where
  os : w'.os = w.os
  tape : w'.tape = w.tape
  output : w'.output = w.output
  size : w.heap.size ≤ w'.heap.size
  block : ∀ k, k ≠ b → k < w.heap.size → w'.heap[k]? = w.heap[k]?

theorem Agree.refl (b : Nat) (w : World) : Agree b w w := ⟨rfl, rfl, rfl, Nat.le_refl _, fun _ _ _ => rfl⟩
theorem Agree.drew (b : Nat) (w : World) : Agree b w w.drew := ⟨rfl, rfl, rfl, Nat.le_refl _, fun _ _ _ => rfl⟩
theorem Agree.trans {b : Nat} {u v w : World} (h : Agree b u v) (k : Agree b v w) : Agree b u w :=
  ⟨k.os.trans h.os, k.tape.trans h.tape, k.output.trans h.output, Nat.le_trans h.size k.size, fun i a c => (k.block i a (Nat.lt_of_lt_of_le c h.size)).trans (h.block i a c)⟩
theorem Agree.alloc (b : Nat) (w : World) (o : Obj) : Agree b w (w.alloc o) :=
  ⟨rfl, rfl, rfl, by simp, fun k _ h => by show (w.heap.push o)[k]? = _; rw [Array.getElem?_push, if_neg (by omega)]⟩
theorem Agree.setCell (b : Nat) (w : World) (o : Nat) (v : Value) : Agree b w (w.setCell ⟨b, o, none⟩ v) :=
  ⟨rfl, rfl, rfl, by simp [World.setCell], fun k h _ => Below.heap_setCell _ _ _ _ h⟩
theorem Agree.setCells (b : Nat) : ∀ (vs : List Value) (o : Nat) (w : World), Agree b w (w.setCells b o vs)
  | [], _, w => Agree.refl b w
  | v :: r, o, w => (Agree.setCell b w o v).trans (Agree.setCells b r (o + 1) _)
theorem Agree.fr {b : Nat} {N0 : Nat → Prop} {w0 w w' : World} (h : Agree b w w') (hb : ¬ N0 b) (hn : ∀ k, N0 k → k < w.heap.size) (k : Fr N0 w0 w) : Fr N0 w0 w' :=
  k.trans ⟨h.os, h.tape, h.output, h.size, fun i hi => h.block i (fun e => hb (e ▸ hi)) (hn i hi)⟩

theorem lt_of_heap {w : World} {b : Nat} {o : Obj} (h : w.heap[b]? = some o) : b < w.heap.size := by
  rcases Nat.lt_or_ge b w.heap.size with h' | h'
  · exact h'
  · rw [Array.getElem?_eq_none h'] at h; cases h

theorem ORel.lt {N0 : Nat → Prop} {m : LM} {w : World} {L : Loc} {o : AObj} (h : ORel N0 m w L o) : L.blk < w.heap.size := by
  cases o with
  | cells cs esz ro => obtain ⟨_, _, arr, e, fz, hh, _⟩ := h; exact lt_of_heap hh
  | map es clock => obtain ⟨_, es', hh, _⟩ := h; exact lt_of_heap hh

theorem ORel.ge {N0 : Nat → Prop} {m : LM} {w : World} {L : Loc} {o : AObj} (h : ORel N0 m w L o) (hr : o.rw = true) : ¬ N0 L.blk ∧ m.bot ≤ L.blk := by
  cases o with
  | cells cs esz ro => exact h.2.1.2 (by simpa [AObj.rw] using hr)
  | map es clock => exact h.1

theorem ORel.keep {N0 : Nat → Prop} {b : Nat} {m m' : LM} {w w' : World} {L : Loc} {o : AObj} (h : ORel N0 m w L o) (ha : Agree b w w') (hb : L.blk ≠ b) (hm : m.sub m') : ORel N0 m' w' L o := by
  have hlt := h.lt
  have he := ha.block L.blk hb hlt
  cases o with
  | cells cs esz ro =>
    obtain ⟨h1, h2, arr, e, fz, hh, h4, h5, h6, h7⟩ := h
    exact ⟨h1, by rw [hm.bt]; exact h2, arr, e, fz, by rw [he]; exact hh, h4, h5, h6, fun i v hv => let ⟨u, a, c⟩ := h7 i v hv; ⟨u, a, c.mono hm⟩⟩
  | map es clock =>
    obtain ⟨h1, es', hh, h2, h3⟩ := h
    exact ⟨by rw [hm.bt]; exact h1, es', by rw [he]; exact hh, h2, fun i x y a c => let ⟨p, q, r⟩ := h3 i x y a c; ⟨p.mono hm, q.mono hm, r⟩⟩

theorem ORel.keepm {N0 : Nat → Prop} {m m' : LM} {w : World} {L : Loc} {o : AObj} (h : ORel N0 m w L o) (hm : m.sub m') : ORel N0 m' w L o :=
  h.keep (b := L.blk + 1) (Agree.refl _ w) (by omega) hm

def LM.put (m : LM) (A : Nat) (L : Loc) : LM := ⟨fun B => if B = A then some L else m B, m.next + 1, m.bot⟩
theorem LM.le_put {m : LM} {A : Nat} {L : Loc} (h : m A = none ∧ A = m.next) : m.le (m.put A L) := by
  refine ⟨⟨fun B K hB => ?_, rfl⟩, Nat.le_succ _, fun B hB => ?_⟩
  · show (if B = A then some L else m B) = some K
    split
    · rename_i e; subst e; rw [h.1] at hB; cases hB
    · exact hB
  · show (if B = A then some L else m B) = m B
    rw [if_neg (by omega)]
theorem LM.put_ne (m : LM) {A B : Nat} (L : Loc) (h : B ≠ A) : (m.put A L) B = m B := if_neg h
theorem LM.put_self (m : LM) (A : Nat) (L : Loc) : (m.put A L) A = some L := by simp [LM.put]

section
variable {N0 : Nat → Prop} {w0 : World} {m : LM} {M : Mem} {w w' : World}

theorem Rl.fresh_m (h : Rl N0 w0 m M w) : m M.next = none ∧ M.next = m.next := ⟨(h.fresh _ (Nat.le_refl _)).2, h.nx⟩
theorem Rl.lt_next (h : Rl N0 w0 m M w) {A : Nat} {o : AObj} (hA : M.get A = some o) : A < M.next := by
  rcases Nat.lt_or_ge A M.next with h' | h'
  · exact h'
  · rw [(h.fresh A h').1] at hA; cases hA

theorem Rl.nsz (h : Rl N0 w0 m M w) : ¬ N0 w.heap.size ∧ m.bot ≤ w.heap.size := ⟨fun e => by have := h.n0 _ e; omega, h.bt⟩

/-- The world changes nowhere that is looked at. -/
theorem Rl.same (h : Rl N0 w0 m M w) {b : Nat} (ha : Agree b w w') (hb : w.heap.size ≤ b) : Rl N0 w0 m M w' := by
  refine ⟨ha.fr (fun e => by have := h.n0 _ e; omega) h.n0 h.fr, fun k hk => Nat.lt_of_lt_of_le (h.n0 k hk) ha.size, h.glob, fun A o hA => ?_, h.inj, h.fresh, h.nx, Nat.le_trans h.bt ha.size⟩
  obtain ⟨L, hL, ho⟩ := h.obj A o hA
  exact ⟨L, hL, ho.keep ha (by have := ho.lt; omega) (LM.sub_refl _)⟩

/-- One block is written. -/
theorem Rl.write (h : Rl N0 w0 m M w) {A : Nat} {o o' : AObj} {L : Loc} (hA : M.get A = some o) (hrw : o.rw = true) (hL : m A = some L)
    (ha : Agree L.blk w w') (ho' : ORel N0 m w' L o') : Rl N0 w0 m (M.set A o') w' := by
  obtain ⟨L0, hL0, hoL⟩ := h.obj A o hA
  obtain rfl : L0 = L := Option.some.inj (hL0.symm.trans hL)
  have hge := hoL.ge hrw
  refine ⟨ha.fr hge.1 h.n0 h.fr, fun k hk => Nat.lt_of_lt_of_le (h.n0 k hk) ha.size, h.glob, fun B oB hB => ?_, fun B C oB oC LB LC hne hB hC rB mB mC => ?_, fun B hB => ?_, h.nx, Nat.le_trans h.bt ha.size⟩
  · rw [Mem.get_set] at hB
    split at hB
    · rename_i e; subst e; obtain rfl := Option.some.inj hB; exact ⟨_, hL, ho'⟩
    · rename_i e
      obtain ⟨LB, hLB, hoB⟩ := h.obj B oB hB
      refine ⟨LB, hLB, hoB.keep ha ?_ (LM.sub_refl _)⟩
      exact fun eb => h.inj A B o oB L0 LB (Ne.symm e) hA hB hrw hL hLB eb.symm
  · have hx : ∀ D oD, (M.set A o').get D = some oD → ∃ oD', M.get D = some oD' ∧ (oD.rw = true → oD'.rw = true) := by
      intro D oD hD
      rw [Mem.get_set] at hD
      split at hD
      · rename_i e; subst e; exact ⟨o, hA, fun _ => hrw⟩
      · exact ⟨oD, hD, id⟩
    obtain ⟨oB', hB', rB'⟩ := hx B oB hB
    obtain ⟨oC', hC', _⟩ := hx C oC hC
    exact h.inj B C oB' oC' LB LC hne hB' hC' (rB' rB) mB mC
  · rw [Mem.next_set] at hB
    have := h.lt_next hA
    rw [Mem.get_set, if_neg (by omega)]
    exact h.fresh B hB

/-- A new block. -/
theorem Rl.new (h : Rl N0 w0 m M w) {o : AObj} {L : Loc} {b : Nat} (ha : Agree b w w') (hb : w.heap.size ≤ b) (hL : w.heap.size ≤ L.blk)
    (ho : ORel N0 (m.put M.next L) w' L o) : Rl N0 w0 (m.put M.next L) (M.new o) w' := by
  have hle : m.le (m.put M.next L) := LM.le_put h.fresh_m
  refine ⟨ha.fr (fun e => by have := h.n0 _ e; omega) h.n0 h.fr, fun k hk => Nat.lt_of_lt_of_le (h.n0 k hk) ha.size, h.glob.mono hle.sub, fun B oB hB => ?_, fun B C oB oC LB LC hne hB hC rB mB mC => ?_, fun B hB => ?_, congrArg (· + 1) h.nx, Nat.le_trans h.bt ha.size⟩
  · rw [Mem.get_new] at hB
    split at hB
    · rename_i e; subst e; obtain rfl := Option.some.inj hB; exact ⟨L, LM.put_self _ _ _, ho⟩
    · obtain ⟨LB, hLB, hoB⟩ := h.obj B oB hB
      exact ⟨LB, hle.sub.to _ _ hLB, hoB.keep ha (by have := hoB.lt; omega) hle.sub⟩
  · rw [Mem.get_new] at hB hC
    simp only [LM.put] at mB mC
    split at hB <;> split at hC
    · rename_i e1 e2; exact absurd (e1.trans e2.symm) hne
    · rename_i e1 e2
      rw [if_pos e1] at mB; rw [if_neg e2] at mC
      obtain rfl := Option.some.inj mB
      obtain ⟨L1, hL1, ho1⟩ := h.obj C oC hC
      obtain rfl := Option.some.inj (hL1.symm.trans mC)
      have := ho1.lt; omega
    · rename_i e1 e2
      rw [if_pos e2] at mC; rw [if_neg e1] at mB
      obtain rfl := Option.some.inj mC
      obtain ⟨L1, hL1, ho1⟩ := h.obj B oB hB
      obtain rfl := Option.some.inj (hL1.symm.trans mB)
      have := ho1.lt; omega
    · rename_i e1 e2
      rw [if_neg e1] at mB; rw [if_neg e2] at mC
      exact h.inj B C oB oC LB LC hne hB hC rB mB mC
  · rw [Mem.next_new] at hB
    rw [Mem.get_new, if_neg (by omega), LM.put_ne m L (by omega)]
    exact h.fresh B (by omega)

/-- A block is let go. -/
theorem Rl.del (h : Rl N0 w0 m M w) (A : Nat) : Rl N0 w0 m (M.del A) w := by
  have hx : ∀ D oD, (M.del A).get D = some oD → M.get D = some oD := by
    intro D oD hD
    rw [Mem.get_del] at hD
    split at hD
    · cases hD
    · exact hD
  refine ⟨h.fr, h.n0, h.glob, fun B oB hB => h.obj B oB (hx B oB hB), fun B C oB oC LB LC hne hB hC => h.inj B C oB oC LB LC hne (hx _ _ hB) (hx _ _ hC), fun B hB => ?_, h.nx, h.bt⟩
  rw [Mem.next_del] at hB
  have := h.fresh B hB
  refine ⟨?_, this.2⟩
  rw [Mem.get_del]
  split
  · rfl
  · exact this.1

/-- A block moves: it is let go, and a new one stands for its place in memory (or for a new one). -/
theorem Rl.move (h : Rl N0 w0 m M w) {A : Nat} {o o' : AObj} {L L' : Loc} (hA : M.get A = some o) (hrw : o.rw = true) (hL : m A = some L)
    (ha : Agree L.blk w w') (hL' : L'.blk = L.blk) (ho' : ORel N0 (m.put M.next L') w' L' o') : Rl N0 w0 (m.put M.next L') ((M.del A).new o') w' := by
  have hle : m.le (m.put M.next L') := LM.le_put h.fresh_m
  obtain ⟨L0, hL0, hoL⟩ := h.obj A o hA
  obtain rfl : L0 = L := Option.some.inj (hL0.symm.trans hL)
  have hge := hoL.ge hrw
  have hx : ∀ D oD, (M.del A).get D = some oD → D ≠ A ∧ M.get D = some oD := by
    intro D oD hD
    rw [Mem.get_del] at hD
    split at hD
    · cases hD
    · rename_i e; exact ⟨e, hD⟩
  have apart : ∀ D oD LD, D ≠ A → M.get D = some oD → m D = some LD → LD.blk ≠ L0.blk := by
    intro D oD LD e hD hLD
    obtain ⟨L1, hL1, ho1⟩ := h.obj D oD hD
    obtain rfl := Option.some.inj (hL1.symm.trans hLD)
    exact fun eb => h.inj A D o oD L0 L1 (Ne.symm e) hA hD hrw hL hLD eb.symm
  refine ⟨ha.fr hge.1 h.n0 h.fr, fun k hk => Nat.lt_of_lt_of_le (h.n0 k hk) ha.size, h.glob.mono hle.sub, fun B oB hB => ?_, fun B C oB oC LB LC hne hB hC rB mB mC => ?_, fun B hB => ?_, congrArg (· + 1) h.nx, Nat.le_trans h.bt ha.size⟩
  · rw [Mem.get_new, Mem.next_del] at hB
    split at hB
    · rename_i e; subst e; obtain rfl := Option.some.inj hB; exact ⟨L', LM.put_self _ _ _, ho'⟩
    · obtain ⟨e, hB⟩ := hx _ _ hB
      obtain ⟨LB, hLB, hoB⟩ := h.obj B oB hB
      exact ⟨LB, hle.sub.to _ _ hLB, hoB.keep ha (apart B oB LB e hB hLB) hle.sub⟩
  · rw [Mem.get_new, Mem.next_del] at hB hC
    simp only [LM.put] at mB mC
    split at hB <;> split at hC
    · rename_i e1 e2; exact absurd (e1.trans e2.symm) hne
    · rename_i e1 e2
      rw [if_pos e1] at mB; rw [if_neg e2] at mC
      obtain rfl := Option.some.inj mB
      obtain ⟨e, hC⟩ := hx _ _ hC
      have := apart C oC LC e hC mC
      omega
    · rename_i e1 e2
      rw [if_pos e2] at mC; rw [if_neg e1] at mB
      obtain rfl := Option.some.inj mC
      obtain ⟨e, hB⟩ := hx _ _ hB
      have := apart B oB LB e hB mB
      omega
    · rename_i e1 e2
      rw [if_neg e1] at mB; rw [if_neg e2] at mC
      exact h.inj B C oB oC LB LC hne (hx _ _ hB).2 (hx _ _ hC).2 rB mB mC
  · rw [Mem.next_new, Mem.next_del] at hB
    rw [Mem.get_new, Mem.next_del, if_neg (by omega), LM.put_ne m L' (by omega)]
    refine ⟨?_, (h.fresh B (by omega)).2⟩
    rw [Mem.get_del]
    split
    · rfl
    · exact (h.fresh B (by omega)).1
end


/-! ### Cells read and written -/
theorem heap_setCell (w : World) (b o : Nat) (v : Value) (arr : Array Value) (e : TypeId) (fz : Nat × Nat) (h : w.heap[b]? = some (.cells arr e fz)) :
    (w.setCell ⟨b, o, none⟩ v).heap[b]? = some (.cells (arr.setIfInBounds o v) e fz) := by
  simp [World.setCell, Array.getElem?_modify, h]

theorem heap_setCells (b : Nat) (e : TypeId) (fz : Nat × Nat) : ∀ (vs : List Value) (o : Nat) (w : World) (arr : Array Value), w.heap[b]? = some (.cells arr e fz) →
    ∃ arr', (w.setCells b o vs).heap[b]? = some (.cells arr' e fz) ∧ arr'.size = arr.size ∧
      ∀ i, arr'[i]? = if o ≤ i ∧ i < o + vs.length ∧ i < arr.size then vs[i - o]? else arr[i]?
  | [], o, w, arr, h => ⟨arr, h, rfl, fun i => by rw [if_neg (by simp; omega)]⟩
  | v :: r, o, w, arr, h => by
    obtain ⟨arr', h1, h2, h3⟩ := heap_setCells b e fz r (o + 1) (w.setCell ⟨b, o, none⟩ v) _ (heap_setCell w b o v arr e fz h)
    refine ⟨arr', h1, by simpa using h2, fun i => ?_⟩
    rw [h3 i, Array.size_setIfInBounds, Array.getElem?_setIfInBounds]
    simp only [List.length_cons]
    by_cases hi : i = o
    · subst hi
      rw [if_neg (by omega)]
      by_cases hlt : i < arr.size
      · rw [if_pos rfl, if_pos hlt, if_pos ⟨Nat.le_refl _, by omega, hlt⟩]; simp
      · rw [if_pos rfl, if_neg hlt, if_neg (by omega), Array.getElem?_eq_none (by omega)]
    · rw [if_neg (by omega : ¬ o = i)]
      by_cases hc : o + 1 ≤ i ∧ i < o + 1 + r.length ∧ i < arr.size
      · rw [if_pos hc, if_pos (by omega)]
        have : i - o = (i - (o + 1)) + 1 := by omega
        rw [this]; rfl
      · rw [if_neg hc, if_neg (by omega)]

theorem cell_of_heap {w : World} {b : Nat} {arr : Array Value} {e : TypeId} {fz : Nat × Nat} (h : w.heap[b]? = some (.cells arr e fz)) (o : Nat) :
    w.cell? ⟨b, o, none⟩ = arr[o]? := by simp [World.cell?, h]

theorem frozen_of_heap {w : World} {b : Nat} {arr : Array Value} {e : TypeId} {fz : Nat × Nat} (h : w.heap[b]? = some (.cells arr e fz)) (hf : fz.1 = fz.2 ∨ arr.size ≤ fz.1) {o : Nat} (ho : o < arr.size) :
    w.frozen? ⟨b, o, none⟩ = false := by
  simp only [World.frozen?, h]
  obtain ⟨lo, hi⟩ := fz
  simp at hf ⊢
  omega

section
variable {N0 : Nat → Prop} {m : LM} {w : World} {L : Loc} {cs : List Value} {esz : Nat} {ro : Bool}

theorem ORel.read (h : ORel N0 m w L (.cells cs esz ro)) {i : Nat} {v : Value} (hv : cs[i]? = some v) : ∃ u, w.cell? ⟨L.blk, L.base + i, none⟩ = some u ∧ VRel m v u := by
  obtain ⟨_, _, arr, e, fz, hh, _, _, _, h7⟩ := h
  obtain ⟨u, h1, h2⟩ := h7 i v hv
  exact ⟨u, by rw [cell_of_heap hh]; exact h1, h2⟩

theorem ORel.range (h : ORel N0 m w L (.cells cs esz ro)) (o n : Nat) : ∃ us, w.rangeAt L.blk (L.base + o) us ∧ LRel m ((cs.drop o).take n) us := by
  have key : ∀ (xs : List Value) (k : Nat), (∀ (j : Nat) (v : Value), xs[j]? = some v → cs[k + j]? = some v) → ∃ us, w.rangeAt L.blk (L.base + k) us ∧ LRel m xs us := by
    intro xs
    induction xs with
    | nil => intro k _; exact ⟨[], fun j v hj => by simp at hj, LRel.nil m⟩
    | cons x xs ih =>
      intro k hk
      obtain ⟨u, h1, h2⟩ := h.read (by simpa using hk 0 x (by simp))
      obtain ⟨us, h3, h4⟩ := ih (k + 1) (fun j v hj => by have := hk (j + 1) v (by simpa using hj); rwa [show k + (j + 1) = k + 1 + j by omega] at this)
      refine ⟨u :: us, fun j v hj => ?_, LRel.cons h2 h4⟩
      cases j with
      | zero => simp at hj; subst hj; simpa using h1
      | succ j => have := h3 j v (by simpa using hj); rwa [show L.base + (k + 1) + j = L.base + k + (j + 1) by omega] at this
  refine key _ o fun j v hj => ?_
  rw [List.getElem?_take] at hj
  split at hj
  · rw [List.getElem?_drop] at hj; exact hj
  · cases hj

/-- Cells from k on are written over (some may lie behind what was known). -/
theorem ORel.over (h : ORel N0 m w L (.cells cs esz false)) {k : Nat} (hk : k ≤ cs.length) {vs us : List Value} (hr : LRel m vs us) (hfit : L.base + k + vs.length ≤ L.top) :
    ORel N0 m (w.setCells L.blk (L.base + k) us) L (.cells (cs.take k ++ vs ++ cs.drop (k + vs.length)) esz false) := by
  obtain ⟨h1, h2, arr, e, fz, hh, h4, h5, h6, h7⟩ := h
  obtain ⟨arr', g1, g2, g3⟩ := heap_setCells L.blk e fz us (L.base + k) w arr hh
  refine ⟨h1, h2, arr', e, fz, g1, by omega, ?_, fun hf => by rw [g2]; exact h6 hf, fun i v hv => ?_⟩
  · simp only [List.length_append, List.length_take, List.length_drop]; omega
  · have hl := hr.1
    rw [g3]
    rw [List.append_assoc, List.getElem?_append] at hv
    simp only [List.length_take, Nat.min_eq_left hk] at hv
    split at hv
    · rename_i hi
      rw [if_neg (by omega)]
      rw [List.getElem?_take, if_pos hi] at hv
      exact h7 i v hv
    · rename_i hi
      rw [List.getElem?_append] at hv
      split at hv
      · rename_i hi2
        rw [if_pos (by omega)]
        obtain ⟨u, hu, hvu⟩ := hr.get hv
        exact ⟨u, by rw [show L.base + i - (L.base + k) = i - k by omega]; exact hu, hvu⟩
      · rename_i hi2
        rw [if_neg (by omega)]
        rw [List.getElem?_drop] at hv
        rw [show k + vs.length + (i - k - vs.length) = i by omega] at hv
        exact h7 i v hv

theorem ORel.there (h : ORel N0 m w L (.cells cs esz false)) (o n : Nat) (hfit : L.base + o + n ≤ L.top) : w.there L.blk (L.base + o) n := by
  obtain ⟨_, _, arr, e, fz, hh, h4, _, h6, _⟩ := h
  intro j hj
  refine ⟨?_, frozen_of_heap hh (h6 rfl) (by omega)⟩
  rw [cell_of_heap hh, Array.getElem?_eq_getElem (by omega)]; rfl

/-- The part of a block from o on. -/
theorem ORel.sub (h : ORel N0 m w L (.cells cs esz ro)) (o n : Nat) (ho : o + n ≤ cs.length) :
    ORel N0 m w { L with base := L.base + o } (.cells ((cs.drop o).take n) esz ro) := by
  obtain ⟨h1, h2, arr, e, fz, hh, h4, h5, h6, h7⟩ := h
  refine ⟨h1, h2, arr, e, fz, hh, h4, ?_, h6, fun i v hv => ?_⟩
  · simp only [List.length_take, List.length_drop]; omega
  · rw [List.getElem?_take] at hv
    split at hv
    · rw [List.getElem?_drop] at hv
      have := h7 _ v hv
      rwa [show L.base + (o + i) = L.base + o + i by omega] at this
    · cases hv

/-- A new row of cells. -/
theorem ORel.fresh {cs us tail : List Value} (hr : LRel m cs us) (hN : ¬ N0 w.heap.size ∧ m.bot ≤ w.heap.size) (e : TypeId) (esz : Nat) :
    ORel N0 m (w.alloc (.cells (us ++ tail).toArray e)) ⟨w.heap.size, 0, us.length + tail.length, esz⟩ (.cells cs esz false) := by
  refine ⟨rfl, ⟨fun h => (by cases h), fun _ => hN⟩, (us ++ tail).toArray, e, (0, 0), heap_alloc_new w _, by simp, ?_, fun _ => .inl rfl, fun i v hv => ?_⟩
  · have := hr.1; simp only []; omega
  · obtain ⟨u, hu, hvu⟩ := hr.get hv
    refine ⟨u, ?_, hvu⟩
    have hi : i < us.length := by
      rcases Nat.lt_or_ge i us.length with h' | h'
      · exact h'
      · rw [List.getElem?_eq_none h'] at hu; cases hu
    rw [List.getElem?_eq_getElem hi] at hu
    simpa [List.getElem?_append, hi] using Option.some.inj hu
end

end Go.Ab
