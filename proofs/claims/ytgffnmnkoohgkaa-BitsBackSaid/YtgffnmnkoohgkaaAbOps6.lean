/- The abstract machine's operations, sixth part: all of them, and that each stands for the model's. -/
import Derived.Test.YtgffnmnkoohgkaaAbOps5
set_option linter.unusedSimpArgs false
set_option linter.unusedVariables false
namespace Go.Ab
open Go.RowKit (Below)
section
variable {P : Program} {N0 : Nat → Prop} {w0 : World} {m : LM} {M : Mem} {w : World}

/-! ### nil -/
def aeqnil (P : Program) (t : TypeId) (x y : Value) : Option Bool :=
  match x, y with
  | .pointer (some _), .pointer none | .pointer none, .pointer (some _) => match P.underlying t with | some (.pointer _) => some false | _ => none
  | .slice (some _) _ _, .slice none _ _ | .slice none _ _, .slice (some _) _ _ => match P.underlying t with | some (.slice _) => some false | _ => none
  | .map (some _), .map none | .map none, .map (some _) => match P.underlying t with | some (.map _ _) => some false | _ => none
  | .func _ _ _, .nilFunc | .nilFunc, .func _ _ _ => match P.underlying t with | some (.func _ _ _) => some false | _ => none
  | .iface _ _, .nilIface | .nilIface, .iface _ _ => match P.underlying t with | some (.interface _) => some false | _ => none
  | .pointer none, .pointer none => match P.underlying t with | some (.pointer _) => some true | _ => none
  | .slice none _ _, .slice none _ _ => match P.underlying t with | some (.slice _) => some true | _ => none
  | .map none, .map none => match P.underlying t with | some (.map _ _) => some true | _ => none
  | .nilFunc, .nilFunc => match P.underlying t with | some (.func _ _ _) => some true | _ => none
  | _, _ => none

theorem equal_of {t : TypeId} {x y : Value} {b : Bool} {w : World} (h : ∀ d, (Op.equalIn (d + 1) t x y).run P w = .ok b w) : (Op.equal t x y).run P w = .ok b w := h 9999

theorem aeqnil_sound {t : TypeId} {x y x' y' : Value} {b : Bool} (hx : VRel m x x') (hy : VRel m y y') (h : aeqnil P t x y = some b) (w : World) :
    (Op.equal t x' y').run P w = .ok b w := by
  unfold aeqnil at h
  split at h
  all_goals try (cases h; done)
  all_goals
    split at h
    all_goals try (cases h; done)
  all_goals
    rename_i ht
    cases h
    cases hx; cases hy
    refine equal_of (fun d => ?_)
    simp [Op.equalIn, run_underlying ht]

def aeq (P : Program) (op : BinOp) (t : TypeId) (x y : Value) : Option Value :=
  match op with
  | .eql => (aeqnil P t x y).map .bool
  | .neq => (aeqnil P t x y).map fun b => .bool (!b)
  | _ => none

theorem aeq_sound {op : BinOp} {t : TypeId} {ox oy : Operand} {x y x' y' v : Value} (hx : VRel m x x') (hy : VRel m y y') (h : aeq P op t x y = some v) (w : World) :
    (do eqGuard op t ox oy x' y'; binOp op t x' y' : Sem Value).run P w = .ok v w := by
  unfold aeq at h
  split at h
  · obtain ⟨b, hb, rfl⟩ := Option.map_eq_some_iff.1 h
    have h1 := aeqnil_sound hx hy hb w
    unfold aeqnil at hb
    split at hb <;> first | cases hb | (cases hx; cases hy; simp [eqGuard, binOp, h1])
  · obtain ⟨b, hb, rfl⟩ := Option.map_eq_some_iff.1 h
    have h1 := aeqnil_sound hx hy hb w
    unfold aeqnil at hb
    split at hb <;> first | cases hb | (cases hx; cases hy; simp [eqGuard, binOp, h1])
  · cases h

/-! ### bytes and strings -/
def abytes : List Value → Option (List UInt8)
  | [] => some []
  | .int .u8 n :: r => (abytes r).map fun l => UInt8.ofNat n.toNat :: l
  | _ => none

theorem abytes_ints : ∀ {xs : List Value} {bs : List UInt8}, abytes xs = some bs → ∃ ns : List Int, xs = ns.map (Value.int .u8) ∧ bs = ns.map fun n => UInt8.ofNat n.toNat
  | [], bs, h => ⟨[], rfl, by simpa [abytes] using h.symm⟩
  | v :: r, bs, h => by
    unfold abytes at h
    split at h
    · simp_all
    · rename_i n r' he
      simp only [List.cons.injEq] at he
      obtain ⟨rfl, rfl⟩ := he
      obtain ⟨l, hl, rfl⟩ := Option.map_eq_some_iff.1 h
      obtain ⟨ns, h1, h2⟩ := abytes_ints hl
      exact ⟨n :: ns, by simp [h1], by simp [h2]⟩
    · cases h

theorem push_all : ∀ (ns : List Int) (s : ByteArray), ns.foldl (fun r n => r.push (UInt8.ofNat n.toNat)) s = ⟨s.data ++ (ns.map fun n => UInt8.ofNat n.toNat).toArray⟩
  | [], s => by simp
  | n :: ns, s => by
    simp only [List.foldl_cons]
    rw [push_all ns]
    congr 1
    apply Array.ext'
    simp [ByteArray.push]

def aconvert (P : Program) (src dst : TypeId) (M : Mem) (x : Value) : Option (Value × Mem) :=
  match P.underlying src, P.underlying dst with
  | some (.slice e), some .string =>
    match P.underlying e with
    | some (.int .u8) =>
      match x with
      | .slice (some ⟨A, o, none⟩) l c =>
        bif Nat.beq l 0 && Nat.beq c 0 then some (.string ⟨#[]⟩, M) else
        match M.get A with
        | some (.cells cs esz _) =>
          let xs := (cs.drop o).take l
          gd (Nat.beq esz 1 && Nat.beq xs.length l) <|
          match abytes xs with
          | some bs => some (.string ⟨bs.toArray⟩, M)
          | none => none
        | _ => none
      | _ => none
    | _ => none
  | some (.slice _), some (.slice e) =>
    match P.underlying e, x with
    | some (.int .u8), .slice (some ⟨A, _, none⟩) l _ =>
      match M.get A with
      | some (.cells cs esz false) => gd (Nat.beq src dst && Nat.blt 0 l) (some (x, M.set A (.cells cs esz false)))
      | _ => none
    | _, _ => none
  | some .string, some (.slice e) =>
    match P.underlying e, x with
    | some (.int .u8), .string s => some (.slice (some ⟨M.next, 0, none⟩) s.size capU, M.new (.cells (byteCells s) 1 false))
    | _, _ => none
  | _, _ => none

theorem LRel.ints {ns : List Int} {us : List Value} (h : LRel m (ns.map (Value.int .u8)) us) : us = ns.map (Value.int .u8) := by
  apply List.ext_getElem?
  intro i
  by_cases hi : i < us.length
  · have hj : i < (ns.map (Value.int .u8)).length := by rw [h.1]; exact hi
    have := h.2 i _ _ (List.getElem?_eq_getElem hj) (List.getElem?_eq_getElem hi)
    rw [List.getElem?_eq_getElem hi, List.getElem?_eq_getElem hj]
    simp only [List.getElem_map] at this ⊢
    generalize us[i] = u at this
    cases this
    rfl
  · rw [List.getElem?_eq_none (by omega), List.getElem?_eq_none (by rw [h.1]; omega)]

theorem Agree.freeze (b n k : Nat) (w : World) : Agree b w (w.freeze ⟨b, n, none⟩ k) := by
  unfold World.freeze
  split
  · exact Agree.refl b w
  · exact ⟨rfl, rfl, rfl, by simp, fun i h _ => by simp [Array.getElem?_modify, Ne.symm h]⟩

theorem ORel.freeze {L : Loc} {cs : List Value} {esz : Nat} (h : ORel N0 m w L (.cells cs esz false)) : ∃ arr e fz, w.heap[L.blk]? = some (.cells arr e fz) ∧ ORel N0 m (w.freeze ⟨L.blk, arr.size, none⟩ 1) L (.cells cs esz false) := by
  obtain ⟨h1, h2, arr, e, fz, hh, h4, h5, h6, h7⟩ := h
  refine ⟨arr, e, fz, hh, h1, h2, arr, e, (if fz.1 == fz.2 then (arr.size, arr.size + 1) else (min fz.1 arr.size, max fz.2 (arr.size + 1))), ?_, h4, h5, fun hf => ?_, h7⟩
  · obtain ⟨lo, hi⟩ := fz
    simp [World.freeze, Array.getElem?_modify, hh]
  · rcases h6 hf with h8 | h8
    · rw [if_pos (by simpa using h8)]; exact .inr (Nat.le_refl _)
    · split
      · exact .inr (Nat.le_refl _)
      · right; show arr.size ≤ min fz.1 arr.size; omega

theorem aconvert_sound (hR : Rl N0 w0 m M w) {src dst : TypeId} {x y v : Value} {M' : Mem} (hx : VRel m x y) (h : aconvert P src dst M x = some (v, M')) :
    ∃ u w' m', (convert src dst y).run P w = .ok u w' ∧ m.le m' ∧ VRel m' v u ∧ Rl N0 w0 m' M' w' := by
  unfold aconvert at h
  split at h
  · rename_i e hs hd
    split at h
    · rename_i he
      split at h
      · rename_i A o l c'
        cases hx with
        | slice _ _ _ _ L a' c hL hl hc ha =>
        replace h := cond_split h
        rcases h with ⟨hz2, h⟩ | ⟨_, h⟩
        · rw [Bool.and_eq_true] at hz2
          obtain rfl := beq_eq hz2.1
          have hc0 := beq_eq hz2.2
          simp only [Option.some.injEq, Prod.mk.injEq] at h
          obtain ⟨rfl, rfl⟩ := h
          have hrun := run_bytesToString (P := P) w a' 0 c [] (run_loadCells_list (P := P) w a' [] (by simp))
          exact ⟨_, w, m, by rw [run_convert_bytes_string w src dst e _ _ _ hs he hd]; exact hrun, LM.le_refl m, .string _, hR⟩
        split at h
        · rename_i cs esz ro hA
          replace h := gd_some h; obtain ⟨hg, h⟩ := h
          simp only [Bool.and_eq_true] at hg
          split at h
          · rename_i bs hbs
            simp only [Option.some.injEq, Prod.mk.injEq] at h
            obtain ⟨rfl, rfl⟩ := h
            obtain ⟨L0, hL0, hO⟩ := hR.obj A _ hA
            obtain rfl : L0 = L := Option.some.inj (hL0.symm.trans hL)
            obtain ⟨us, h1, h2⟩ := hO.range o l
            have hlen := beq_eq hg.2
            obtain ⟨ns, hns, rfl⟩ := abytes_ints hbs
            rw [hns] at h2 hlen
            have hus := h2.ints
            subst hus
            have hload : (loadCells a' l).run P w = .ok (ns.map (Value.int .u8)).toArray w := by
              rcases ha with rfl | rfl
              · rw [← hlen]
                exact run_loadCells_list (P := P) w _ _ (fun j v hv => by rw [Addr.add_eq]; exact h1 j v hv)
              · have hl0 : l = 0 := by omega
                subst hl0
                have : ns = [] := List.eq_nil_of_length_eq_zero (by simpa using hlen)
                subst this
                exact run_loadCells_list (P := P) w a' [] (by simp)
            have hrun := run_bytesToString (P := P) w a' l c ns hload
            refine ⟨_, w, m, by rw [run_convert_bytes_string w src dst e _ _ _ hs he hd]; exact hrun, LM.le_refl m, ?_, hR⟩
            rw [push_all]
            have : (⟨ByteArray.empty.data ++ (ns.map fun n => UInt8.ofNat n.toNat).toArray⟩ : ByteArray) = ⟨(ns.map fun n => UInt8.ofNat n.toNat).toArray⟩ := by
              congr 1
              apply Array.ext'
              simp [ByteArray.empty, ByteArray.emptyWithCapacity]
              rfl
            rw [this]
            exact .string _
          · cases h
        · cases h
      · cases h
    · cases h
  · rename_i e0 e hs hd
    split at h
    · rename_i A o l c' he
      cases hx with
      | slice _ _ _ _ L a' c hL hl hc ha =>
      split at h
      · rename_i cs esz hA
        replace h := gd_some h; obtain ⟨hg, h⟩ := h
        simp only [Bool.and_eq_true] at hg
        obtain rfl : src = dst := beq_eq hg.1
        have hee := hs.symm.trans hd
        simp only [Option.some.injEq, TypeDesc.slice.injEq] at hee
        subst hee
        have hpos := blt_iff.1 hg.2
        simp only [Option.some.injEq, Prod.mk.injEq] at h
        obtain ⟨rfl, rfl⟩ := h
        obtain ⟨L0, hL0, hO⟩ := hR.obj A _ hA
        obtain rfl : L0 = L := Option.some.inj (hL0.symm.trans hL)
        have ha' : a' = ⟨L0.blk, L0.base + o, none⟩ := ha.resolve_right (by omega)
        subst ha'
        obtain ⟨arr, e', fz, hh, hO'⟩ := hO.freeze
        refine ⟨.slice (some ⟨L0.blk, L0.base + o, none⟩) l c, _, m, ?_, LM.le_refl m, .slice A o l c' L0 _ c hL hl hc (.inl rfl), hR.write hA rfl hL (Agree.freeze _ _ _ _) hO'⟩
        have hsh : w.shape? L0.blk = some (e', arr.size) := by simp [World.shape?, hh]
        simp [convert, run_underlying hs, run_underlying he, markStringish, hsh]
      · cases h
    · cases h
  · rename_i e hs hd
    split at h
    · rename_i s he
      cases hx
      simp only [Option.some.injEq, Prod.mk.injEq] at h
      obtain ⟨rfl, rfl⟩ := h
      have hrun := Lib.run_convert_string_bytes (P := P) w src dst e s hs hd he
      let L : Loc := ⟨w.heap.size, 0, (Lib.bytesCells w e s).size, 1⟩
      have hle : m.le (m.put M.next L) := LM.le_put hR.fresh_m
      have hcap := grownCap_ge w s.size 0 e
      have hsz : (Lib.bytesCells w e s).size = grownCap w s.size 0 e := by
        have : s.data.size = s.size := rfl
        simp only [Lib.bytesCells, Array.size_append, Array.size_map, Array.size_replicate, this]
        omega
      have hag : Agree w.heap.size w (Lib.bytesWorld w e s) := by
        refine ⟨rfl, rfl, rfl, by rw [Lib.bytesWorld_size]; omega, fun k hk hlt => Lib.bytesWorld_at_old w e s k hlt⟩
      refine ⟨_, _, m.put M.next L, hrun, hle, slice_new (M := M) (w := w) (L := L) s.size hcap (by show (Lib.bytesCells w e s).size = _ * 1; omega) rfl rfl, hR.new (L := L) hag (Nat.le_refl _) (Nat.le_refl _) ?_⟩
      refine ⟨rfl, ⟨fun h => (by cases h), fun _ => hR.nsz⟩, _, e, _, Lib.bytesWorld_at_new w e s, Nat.le_refl _, ?_, fun _ => .inr (Nat.le_refl _), fun i v hv => ?_⟩
      · show 0 + (byteCells s).length ≤ (Lib.bytesCells w e s).size
        rw [byteCells_length, hsz]; omega
      · show ∃ u, (Lib.bytesCells w e s)[0 + i]? = some u ∧ VRel _ v u
        have hi : i < (byteCells s).length := by
          rcases Nat.lt_or_ge i (byteCells s).length with h' | h'
          · exact h'
          · rw [List.getElem?_eq_none h'] at hv; cases hv
        rw [byteCells_length] at hi
        refine ⟨v, ?_, ?_⟩
        · rw [Nat.zero_add, Lib.bytesCells, Array.getElem?_append, if_pos (by simpa using hi)]
          unfold byteCells at hv
          rw [← Array.getElem?_toList, Array.toList_map]
          exact hv
        · unfold byteCells at hv
          obtain ⟨b, _, rfl⟩ := List.mem_map.1 (List.mem_of_getElem? hv)
          exact .int _ _
    · cases h
  · cases h
end

end Go.Ab
