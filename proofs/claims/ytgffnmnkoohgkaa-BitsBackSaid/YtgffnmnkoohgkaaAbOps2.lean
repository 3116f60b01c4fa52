/- The abstract machine's operations, second part: parts of structs, slices, conversions. -/
import Derived.Test.YtgffnmnkoohgkaaAbOps
set_option linter.unusedSimpArgs false
set_option linter.unusedVariables false
namespace Go.Ab
open Go.RowKit (Below)
section
variable {P : Program} {N0 : Nat → Prop} {w0 : World} {m : LM} {M : Mem} {w : World}

/-! ### Parts -/
def apart (P : Program) (t : TypeId) (cs : Array Value) (off : Nat) : Option Value :=
  match P.underlying t, P.info? t with
  | some d, some i => bif d.isRow then some (.agg (cs.extract off (off + i.size))) else cs[off]?
  | _, _ => none

/-- Arrays of values, each one related. -/
def ARel (m : LM) (c c' : Array Value) : Prop := c.size = c'.size ∧ ∀ (i : Nat) (v u : Value), c[i]? = some v → c'[i]? = some u → VRel m v u

theorem ARel.get {m : LM} {a b : Array Value} (h : ARel m a b) {i : Nat} {v : Value} (hv : a[i]? = some v) : ∃ u, b[i]? = some u ∧ VRel m v u := by
  have hi : i < a.size := by
    rcases Nat.lt_or_ge i a.size with h' | h'
    · exact h'
    · rw [Array.getElem?_eq_none h'] at hv; cases hv
  have hb : i < b.size := h.1 ▸ hi
  exact ⟨b[i], Array.getElem?_eq_getElem hb, h.2 i v _ hv (Array.getElem?_eq_getElem hb)⟩

theorem apart_sound {t : TypeId} {cs cs' : Array Value} {off : Nat} {v : Value} (hc : ARel m cs cs') (h : apart P t cs off = some v) (w : World) :
    ∃ u, (part t cs' off).run P w = .ok u w ∧ VRel m v u := by
  unfold apart at h
  split at h
  · rename_i d i hd hi
    have hag := isAgg_run (P := P) hd w
    by_cases hr : d.isRow = true
    · rw [hr] at h hag
      simp only [cond_true] at h
      obtain rfl := Option.some.inj h
      refine ⟨.agg (cs'.extract off (off + i.size)), by simp [part, hag, sizeOf, typeInfo, hi], .agg _ _ ?_ fun j v u a b => ?_⟩
      · simp [hc.1]
      · simp only [Array.getElem?_extract] at a b
        split at a
        · split at b
          · exact hc.2 _ v u a b
          · cases b
        · cases a
    · have hr' : d.isRow = false := by simpa using hr
      rw [hr'] at h hag
      simp only [cond_false] at h
      obtain ⟨u, hu, hvu⟩ := hc.get h
      exact ⟨u, by simp [part, hag, hu], hvu⟩
  · cases h

def afieldOf (P : Program) (t : TypeId) (f : Nat) : Value → Option Value
  | .agg cs =>
    match P.underlying t with
    | some (.struct fields) =>
      match fields[f]? with
      | some fd => apart P fd.type cs fd.offset
      | none => none
    | _ => none
  | _ => none

theorem afieldOf_sound {t : TypeId} {f : Nat} {x y v : Value} (hx : VRel m x y) (h : afieldOf P t f x = some v) (w : World) :
    ∃ u, (Instr.field t y f).run P w = .ok u w ∧ VRel m v u := by
  unfold afieldOf at h
  split at h
  · rename_i cs
    cases hx with
    | agg _ cs' h1 h2 =>
    split at h
    · rename_i fields ht
      split at h
      · rename_i fd hf
        obtain ⟨u, hu, hvu⟩ := apart_sound (P := P) ⟨h1, h2⟩ h w
        exact ⟨u, by simp [Instr.field, run_underlying ht, hf, asAgg, hu], hvu⟩
      · cases h
    · cases h
  · cases h

def aindexOf (P : Program) (t : TypeId) (x ix : Value) : Option Value :=
  match x with
  | .agg cs =>
    match P.underlying t with
    | some (.array len e) =>
      match idx len ix, P.info? e with
      | some n, some i => apart P e cs (n * i.size)
      | _, _ => none
    | _ => none
  | _ => none

theorem aindexOf_sound {t : TypeId} {x y ix v : Value} (hx : VRel m x y) (h : aindexOf P t x ix = some v) (w : World) :
    ∃ u, (Instr.index t y ix).run P w = .ok u w ∧ VRel m v u := by
  unfold aindexOf at h
  split at h
  · rename_i cs
    cases hx with
    | agg _ cs' h1 h2 =>
    split at h
    · rename_i len e ht
      split at h
      · rename_i n i hx hi
        obtain ⟨k, rfl, hlt⟩ := idx_some hx
        obtain ⟨u, hu, hvu⟩ := apart_sound (P := P) ⟨h1, h2⟩ h w
        exact ⟨u, by simp [Instr.index, asIntOf, run_underlying ht, hlt, sizeOf, typeInfo, hi, hu], hvu⟩
      · cases h
    · cases h
  · cases h

def aextract (k : Nat) : Value → Option Value
  | .tuple vs => vs[k]?
  | _ => none

theorem aextract_sound {k : Nat} {x y v : Value} (hx : VRel m x y) (h : aextract k x = some v) (w : World) :
    ∃ u, (Instr.extract y k).run P w = .ok u w ∧ VRel m v u := by
  unfold aextract at h
  split at h
  · cases hx with
    | tuple _ cs' h1 h2 =>
      obtain ⟨u, hu, hvu⟩ := (show ARel m _ _ from ⟨h1, h2⟩).get h
      exact ⟨u, by simp [Instr.extract, hu], hvu⟩
  · cases h

/-! ### build -/
/-- Puts the parts of a struct or an array into their places. -/
def afill (place : Nat → Option (Nat × Nat)) (cells : List Value) : List (Nat × Value) → Option (List Value)
  | [] => some cells
  | (i, v) :: rest =>
    match place i with
    | none => none
    | some (off, size) =>
      gd (Nat.beq v.cells.toList.length size && Nat.ble (off + v.cells.toList.length) cells.length) (afill place (splice cells off v.cells.toList) rest)

theorem foldl_set (xs : List Value) : ∀ (k off : Nat) (cs : Array Value), off + k + xs.length ≤ cs.size →
    (xs.zipIdx k).foldl (fun cs (p : Value × Nat) => cs.setIfInBounds (off + p.2) p.1) cs = (cs.toList.take (off + k) ++ xs ++ cs.toList.drop (off + k + xs.length)).toArray := by
  induction xs with
  | nil => intro k off cs h; simp
  | cons x xs ih =>
    intro k off cs h
    simp only [List.zipIdx_cons, List.foldl_cons]
    rw [ih (k + 1) off _ (by simpa using by simp at h; omega)]
    apply Array.ext'
    simp only [Array.toList_setIfInBounds]
    have hlt : off + k < cs.toList.length := by simp at h ⊢; omega
    apply List.ext_getElem?
    intro j
    simp only [List.append_assoc, List.getElem?_append, List.length_take, List.length_set, List.length_cons, List.getElem?_take, List.getElem?_drop, List.getElem?_set]
    simp only [List.length_cons] at h
    have hmin1 : min (off + (k + 1)) cs.toList.length = off + k + 1 := by simp at hlt ⊢; omega
    have hmin2 : min (off + k) cs.toList.length = off + k := by simp at hlt ⊢; omega
    rw [hmin1, hmin2]
    by_cases h1 : j < off + k
    · rw [if_pos (by omega), if_pos (by omega), if_pos h1, if_pos h1, if_neg (by omega)]
    · by_cases h2 : j = off + k
      · subst h2
        have e0 : off + k < cs.size := by simpa using hlt
        have e1 : off + k < off + k + 1 := by omega
        have e2 : off + k < off + (k + 1) := by omega
        have e3 : ¬ (off + k < off + k) := by omega
        simp [e0, e1, e2, e3]
      · rw [if_neg (by omega), if_neg h1]
        by_cases h3 : j < off + k + 1 + xs.length
        · rw [if_pos (by omega), if_pos (by omega)]
          have : j - (off + k) = (j - (off + k + 1)) + 1 := by omega
          rw [this]; simp
        · rw [if_neg (by omega), if_neg (by omega), if_neg (by omega)]
          congr 1; omega

theorem afill_sound (place : Nat → Option (Nat × Nat)) : ∀ (ps ps' : List (Nat × Value)) (cs : List Value) (cs' : Array Value) (r : List Value), LRel m cs cs'.toList →
    ps.map (·.1) = ps'.map (·.1) → LRel m (ps.map (·.2)) (ps'.map (·.2)) → afill place cs ps = some r → ∃ r', Instr.fill place cs' ps' = some r' ∧ LRel m r r'.toList
  | [], ps', cs, cs', r, hc, h1, _, h => by
    have : ps' = [] := by cases ps' with
      | nil => rfl
      | cons x xs => simp at h1
    subst this
    simp only [afill, Option.some.injEq] at h
    subst h
    exact ⟨cs', rfl, hc⟩
  | (i, v) :: rest, ps', cs, cs', r, hc, h1, h2, h => by
    cases ps' with
    | nil => simp at h1
    | cons x rest' =>
      obtain ⟨i', u⟩ := x
      simp only [List.map_cons, List.cons.injEq] at h1
      obtain ⟨rfl, h1⟩ := h1
      have hvu : VRel m v u := h2.2 0 v u (by simp) (by simp)
      have h2' : LRel m (rest.map (·.2)) (rest'.map (·.2)) := ⟨by have := h2.1; simpa using this, fun j a b ha hb => h2.2 (j + 1) a b (by simpa using ha) (by simpa using hb)⟩
      simp only [afill] at h
      split at h
      · cases h
      · rename_i off size hpl
        replace h := gd_some h; obtain ⟨hg, h⟩ := h
        simp only [Bool.and_eq_true] at hg
        have g1 := beq_eq hg.1
        have g2 := ble_le hg.2
        have hcl := hvu.cells
        have hsz : cs.length = cs'.size := by have := hc.1; simpa using this
        have hl : v.cells.toList.length = u.cells.size := by have := hcl.1; simpa using this
        have hrel : LRel m (splice cs off v.cells.toList) ((cs'.toList.take off ++ u.cells.toList ++ cs'.toList.drop (off + u.cells.toList.length)).toArray).toList := by
          unfold splice
          rw [hcl.1]
          exact ((hc.take off).append hcl).append (hc.drop _)
        obtain ⟨r', h3, h4⟩ := afill_sound place rest rest' _ _ r hrel h1 h2' h
        refine ⟨r', ?_, h4⟩
        simp only [Instr.fill, hpl]
        have hfs := foldl_set u.cells.toList 0 off cs' (by simp; omega)
        have hz : u.cells.zipIdx.foldl (fun cs (x : Value × Nat) => cs.setIfInBounds (off + x.2) x.1) cs' = (cs'.toList.take off ++ u.cells.toList ++ cs'.toList.drop (off + u.cells.toList.length)).toArray := by
          rw [← Array.foldl_toList, Array.toList_zipIdx]
          simpa using hfs
        rw [if_neg (by simp; omega)]
        refine Eq.trans ?_ h3
        congr 1
end

end Go.Ab
