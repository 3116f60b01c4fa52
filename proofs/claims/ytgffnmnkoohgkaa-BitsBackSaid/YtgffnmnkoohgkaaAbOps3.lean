/- The abstract machine's operations, third part: build, append, copy, slices. -/
import Derived.Test.YtgffnmnkoohgkaaAbOps2
import Derived.Deep.AppendSrc
import Derived.Laws.Tables
set_option linter.unusedSimpArgs false
set_option linter.unusedVariables false
namespace Go.Ab
open Go.RowKit (Below)
section
variable {P : Program} {N0 : Nat → Prop} {w0 : World} {m : LM} {M : Mem} {w : World}

/-! ### build, buildSlice -/
def places (P : Program) (fields : List Field) : Option (List (Nat × Nat)) := fields.mapM (fun f => (P.info? f.type).map fun i => (f.offset, i.size))

def abuild (P : Program) (t : TypeId) (ps : List (Nat × Value)) : Option Value :=
  match P.info? t, P.underlying t with
  | some it, some (.array _ e) =>
    match it.zero, P.info? e with
    | some z, some ie => gd (flat 4 z) ((afill (fun i => some (i * ie.size, ie.size)) z.cells.toList ps).map fun cs => .agg cs.toArray)
    | _, _ => none
  | some it, some (.struct fields) =>
    match it.zero, places P fields.toList with
    | some z, some pl => gd (flat 4 z) ((afill (fun k => pl[k]?) z.cells.toList ps).map fun cs => .agg cs.toArray)
    | _, _ => none
  | _, _ => none

theorem VRel.agg_arr {m : LM} {r : List Value} {r' : Array Value} (h : LRel m r r'.toList) : VRel m (.agg r.toArray) (.agg r') :=
  .agg _ _ (by simpa using h.1) (fun i v u a b => h.2 i v u (by simpa using a) (by simpa using b))

theorem abuild_sound {t : TypeId} {ps ps' : List (Nat × Value)} {v : Value} (h1 : ps.map (·.1) = ps'.map (·.1)) (h2 : LRel m (ps.map (·.2)) (ps'.map (·.2)))
    (h : abuild P t ps = some v) (w : World) : ∃ u, (Instr.build t ps'.toArray).run P w = .ok u w ∧ VRel m v u := by
  unfold abuild at h
  split at h
  · rename_i it n e hit hu
    split at h
    · rename_i z ie hz hie
      replace h := gd_some h; obtain ⟨hf, h⟩ := h
      obtain ⟨cs, hcs, rfl⟩ := Option.map_eq_some_iff.1 h
      have hzz := (VRel.of_flat m 4 z hf).cells
      obtain ⟨r', h3, h4⟩ := afill_sound (m := m) _ ps ps' _ z.cells cs hzz h1 h2 hcs
      exact ⟨.agg r', run_build w t _ r' (by unfold Program.built; simp only [hit, hu, hz, hie]; simpa using h3), VRel.agg_arr h4⟩
    · cases h
  · rename_i it fields hit hu
    split at h
    · rename_i z pl hz hpl
      replace h := gd_some h; obtain ⟨hf, h⟩ := h
      obtain ⟨cs, hcs, rfl⟩ := Option.map_eq_some_iff.1 h
      have hzz := (VRel.of_flat m 4 z hf).cells
      obtain ⟨r', h3, h4⟩ := afill_sound (m := m) _ ps ps' _ z.cells cs hzz h1 h2 hcs
      refine ⟨.agg r', run_build w t _ r' ?_, VRel.agg_arr h4⟩
      unfold Program.built
      unfold places at hpl
      simp only [hit, hu, hz, hpl]
      simpa using h3
    · cases h
  · cases h

def zrow (z : Value) (n : Nat) : List Value := (List.range n).map fun j => z.cells.toList.getD (j % z.cells.size) default

theorem zrow_eq (z : Value) (n : Nat) : ((Array.range n).map (z.cells[· % z.cells.size]!)).toList = zrow z n := by
  unfold zrow
  rw [Array.toList_map, Array.toList_range]
  refine List.map_congr_left fun j _ => ?_
  rw [List.getD_eq_getElem?_getD, Array.getElem?_toList, getElem!_def]
  cases z.cells[j % z.cells.size]? <;> rfl

def abuildSlice (P : Program) (t : TypeId) (len : Nat) (ps : List (Nat × Value)) (M : Mem) : Option (Value × Mem) :=
  match P.underlying t with
  | some (.slice e) =>
    match P.info? e with
    | some ie =>
      match ie.zero with
      | some z =>
        gd (flat 4 z && Nat.blt 0 ie.size && Nat.ble (len * ie.size) 16777216)
          (match afill (fun i => some (i * ie.size, ie.size)) (zrow z (len * ie.size)) ps with
           | some cs => gd (Nat.beq cs.length (len * ie.size)) (some (.slice (some ⟨M.next, 0, none⟩) len len, M.new (.cells cs ie.size false)))
           | none => none)
      | none => none
    | none => none
  | _ => none

theorem zrow_rel {z : Value} (hz : flat 4 z = true) (n : Nat) : LRel m (zrow z n) ((Array.range n).map (z.cells[· % z.cells.size]!)).toList := by
  rw [zrow_eq]
  refine ⟨rfl, fun i v u a b => ?_⟩
  rw [a] at b
  obtain rfl := Option.some.inj b
  unfold zrow at a
  simp only [List.getElem?_map, Option.map_eq_some_iff] at a
  obtain ⟨j, _, rfl⟩ := a
  have hc := (VRel.of_flat m 4 z hz).cells
  rw [List.getD_eq_getElem?_getD]
  cases h : z.cells.toList[j % z.cells.size]? with
  | none => exact .bool _
  | some x => exact hc.2 _ _ _ h h

theorem buildSlice_run (w : World) {t e : TypeId} {len : Nat} {parts : Array (Nat × Value)} {cells : Array Value} {ie : TypeInfo} {z : Value}
    (hu : P.underlying t = some (.slice e)) (hie : P.info? e = some ie) (hz : ie.zero = some z) (hsmall : ¬ len * ie.size > 2 ^ 24)
    (h : Instr.fill (fun i => some (i * ie.size, ie.size)) ((Array.range (len * ie.size)).map (z.cells[· % z.cells.size]!)) parts.toList = some cells) :
    (Instr.buildSlice t len parts).run P w = .ok (.slice (some ⟨w.heap.size, 0, none⟩) len len) (w.alloc (.cells cells e)) := by
  by_cases hpos : len * ie.size = 0
  · have hr : (Array.range (len * ie.size)).map (z.cells[· % z.cells.size]!) = #[] := by rw [hpos]; simp
    rw [hr] at h
    have hr3 : (Array.range 0).map (fun _ => (default : Value)) = #[] := by simp
    simp [Instr.buildSlice, run_underlying hu, sizeOf, typeInfo, zeroValue, hie, hz, hpos, newRow]
    rw [hr3, h]
    simp
  · simp [Instr.buildSlice, run_underlying hu, sizeOf, typeInfo, zeroValue, hie, hz, hsmall, hpos, h, newRow]

theorem abuildSlice_sound (hR : Rl N0 w0 m M w) {t : TypeId} {len : Nat} {ps ps' : List (Nat × Value)} {v : Value} {M' : Mem} (h1 : ps.map (·.1) = ps'.map (·.1)) (h2 : LRel m (ps.map (·.2)) (ps'.map (·.2)))
    (h : abuildSlice P t len ps M = some (v, M')) : ∃ u w' m', (Instr.buildSlice t len ps'.toArray).run P w = .ok u w' ∧ m.le m' ∧ VRel m' v u ∧ Rl N0 w0 m' M' w' := by
  unfold abuildSlice at h
  split at h
  · rename_i e ht
    split at h
    · rename_i ie hie
      split at h
      · rename_i z hz
        replace h := gd_some h; obtain ⟨hg, h⟩ := h
        simp only [Bool.and_eq_true] at hg
        obtain ⟨⟨g1, g2⟩, g3⟩ := hg
        have g2 := blt_iff.1 g2
        have g3 := ble_le g3
        split at h
        · rename_i cs hcs
          replace h := gd_some h; obtain ⟨g4, h⟩ := h
          have g4 := beq_eq g4
          simp only [Option.some.injEq, Prod.mk.injEq] at h
          obtain ⟨rfl, rfl⟩ := h
          obtain ⟨r', h3, h4⟩ := afill_sound (m := m) _ ps ps' _ ((Array.range (len * ie.size)).map (z.cells[· % z.cells.size]!)) cs (zrow_rel g1 _) h1 h2 hcs
          let L : Loc := ⟨w.heap.size, 0, r'.toList.length + ([] : List Value).length, ie.size⟩
          have hle : m.le (m.put M.next L) := LM.le_put hR.fresh_m
          have ho := ORel.fresh (w := w) (tail := []) (h4.mono hle.sub) hR.nsz e ie.size
          have hrow : (r'.toList ++ ([] : List Value)).toArray = r' := by simp
          rw [hrow] at ho
          have hrun : (Instr.buildSlice t len ps'.toArray).run P w = .ok (.slice (some ⟨w.heap.size, 0, none⟩) len len) (w.alloc (.cells r' e)) := by
            have hsmall : ¬ len * ie.size > 2 ^ 24 := by omega
            exact buildSlice_run w ht hie hz hsmall h3
          refine ⟨_, _, _, hrun, hle, ?_, hR.new (Agree.alloc w.heap.size w _) (Nat.le_refl _) (Nat.le_refl _) ho⟩
          refine .slice M.next 0 len len L _ len (LM.put_self _ _ _) (Nat.le_refl _) ?_ (.inl rfl)
          have hl := h4.1
          have hb : len ≤ len * ie.size := Nat.le_mul_of_pos_right _ g2
          refine .inr ⟨rfl, by unfold capU; omega, ?_⟩
          show 0 + 0 + len * ie.size ≤ r'.toList.length + 0
          omega
        · cases h
      · cases h
    · cases h
  · cases h
end

end Go.Ab
