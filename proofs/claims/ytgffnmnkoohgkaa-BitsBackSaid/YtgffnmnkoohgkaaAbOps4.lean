/- The abstract machine's operations, fourth part: append, copy, slices of slices, conversions. -/
import Derived.Test.YtgffnmnkoohgkaaAbOps3
set_option linter.unusedSimpArgs false
set_option linter.unusedVariables false
namespace Go.Ab
open Go.RowKit (Below)
section
variable {P : Program} {N0 : Nat → Prop} {w0 : World} {m : LM} {M : Mem} {w : World}

/-! ### What is appended, or copied -/
/-- The elements of a slice or a string: how many, and their cells. -/
def asrc (P : Program) (t : TypeId) (size : Nat) (M : Mem) (x : Value) : Option (Nat × List Value) :=
  match x with
  | .slice none 0 0 =>
    match P.underlying t with
    | some (.slice _) => some (0, [])
    | _ => none
  | .slice (some ⟨A, o, none⟩) n c =>
    match P.underlying t with
    | some (.slice _) =>
      bif Nat.beq n 0 && Nat.beq c 0 then some (0, []) else
      match M.get A with
      | some (.cells cs esz _) =>
        let xs := (cs.drop o).take (n * size)
        gd (Nat.beq esz size && Nat.beq xs.length (n * size) && xs.all one) (some (n, xs))
      | _ => none
    | _ => none
  | .string s =>
    match P.underlying t with
    | some .string => gd (Nat.beq size 1) (some (s.size, byteCells s))
    | _ => none
  | _ => none

theorem cond_split {α : Type} {b : Bool} {x y : Option α} {v : α} (h : (bif b then x else y) = some v) : (b = true ∧ x = some v) ∨ (b = false ∧ y = some v) := by
  cases b with
  | true => exact .inl ⟨rfl, h⟩
  | false => exact .inr ⟨rfl, h⟩

theorem asrc_sound (hR : Rl N0 w0 m M w) {t : TypeId} {size n : Nat} {x y : Value} {xs : List Value} (hx : VRel m x y) (h : asrc P t size M x = some (n, xs)) :
    ∃ ys, Src P size t y n ys w ∧ LRel m xs ys := by
  unfold asrc at h
  split at h
  · cases hx
    split at h
    · rename_i e ht
      simp only [Option.some.injEq, Prod.mk.injEq] at h
      obtain ⟨rfl, rfl⟩ := h
      exact ⟨[], Src.ofNil w ht 0, LRel.nil m⟩
    · cases h
  · rename_i A o k c'
    cases hx with
    | slice _ _ _ _ L a' c hL hl hc ha =>
    split at h
    · rename_i e ht
      replace h := cond_split h
      rcases h with ⟨hz, h⟩ | ⟨_, h⟩
      · rw [Bool.and_eq_true] at hz
        obtain rfl := beq_eq hz.1
        have hc0 := beq_eq hz.2
        have hcc : c = 0 := by
          rcases hc with ⟨h1, _⟩ | ⟨h1, _⟩
          · rw [hc0] at h1; exact absurd h1 (by decide)
          · omega
        subst hcc
        simp only [Option.some.injEq, Prod.mk.injEq] at h
        obtain ⟨rfl, rfl⟩ := h
        exact ⟨[], Src.ofSlice w ht a' 0 0 [] (by simp) (fun j u hj => by simp at hj) (fun u hu => by cases hu), LRel.nil m⟩
      split at h
      · rename_i cs esz ro hA
        replace h := gd_some h; obtain ⟨hg, h⟩ := h
        simp only [Bool.and_eq_true] at hg
        obtain ⟨⟨g1, g2⟩, g3⟩ := hg
        simp only [Option.some.injEq, Prod.mk.injEq] at h
        obtain ⟨rfl, rfl⟩ := h
        obtain ⟨L0, hL0, hO⟩ := hR.obj A _ hA
        obtain rfl : L0 = L := Option.some.inj (hL0.symm.trans hL)
        obtain ⟨us, h1, h2⟩ := hO.range o (k * size)
        have hlen := beq_eq g2
        rcases ha with rfl | rfl
        · refine ⟨us, Src.ofSlice w ht _ k c us (by rw [← h2.1]; exact hlen) (fun j u hj => ?_) (h2.all_one g3), h2⟩
          rw [Addr.add_eq]; exact h1 j u hj
        · have hk : k = 0 := by omega
          subst hk
          have hus : us = [] := List.eq_nil_of_length_eq_zero (by rw [← h2.1]; simp)
          subst hus
          exact ⟨[], Src.ofSlice w ht a' 0 0 [] (by simp) (fun j u hj => by simp at hj) (fun u hu => by cases hu), h2⟩
      · cases h
    · cases h
  · rename_i s
    cases hx
    split at h
    · rename_i ht
      replace h := gd_some h; obtain ⟨g, h⟩ := h
      obtain rfl : size = 1 := beq_eq g
      simp only [Option.some.injEq, Prod.mk.injEq] at h
      obtain ⟨rfl, rfl⟩ := h
      refine ⟨byteCells s, Src.ofString w ht s, rfl, fun i v u a b => ?_⟩
      rw [a] at b
      obtain rfl := Option.some.inj b
      obtain ⟨b', _, rfl⟩ := List.mem_map.1 (List.mem_of_getElem? a)
      exact .int _ _
    · cases h
  · cases h

/-! ### append -/
def aappend (P : Program) (t tx : TypeId) (M : Mem) (s x : Value) : Option (Value × Mem) :=
  match P.underlying t with
  | some (.slice e) =>
    match P.info? e with
    | some i =>
      match i.zero with
      | some z =>
        gd (Nat.blt 0 i.size && Nat.beq z.cells.size i.size) <|
        match asrc P tx i.size M x with
        | some (n, news) =>
          match s with
          | .slice none 0 0 =>
            bif Nat.beq n 0 then some (s, M)
            else gd (Nat.ble (n * i.bytes) 140737488355328 && Nat.ble n 9223372036854775807) (some (.slice (some ⟨M.next, 0, none⟩) n capU, M.new (.cells news i.size false)))
          | .slice (some ⟨A, o, none⟩) l c =>
            bif Nat.beq l 0 && Nat.beq c 0 then
              bif Nat.beq n 0 then some (s, M)
              else gd (Nat.ble (n * i.bytes) 140737488355328 && Nat.ble n 9223372036854775807) (some (.slice (some ⟨M.next, 0, none⟩) n capU, M.new (.cells news i.size false)))
            else
            match M.get A with
            | some (.cells cs esz ro) =>
              let olds := (cs.drop o).take (l * i.size)
              gd (Nat.beq esz i.size && Nat.beq olds.length (l * i.size) && Nat.ble ((l + n) * i.bytes) 140737488355328 && Nat.ble (l + n) 9223372036854775807) <|
              bif Nat.beq n 0 then some (s, M)
              else bif Nat.beq c capU then
                bif ro then none
                else bif Nat.ble (o + (l + n) * i.size) cs.length then
                  some (.slice (some ⟨A, o, none⟩) (l + n) c, M.set A (.cells (splice cs (o + l * i.size) news) esz false))
                else some (.slice (some ⟨M.next, 0, none⟩) (l + n) capU, (M.del A).new (.cells (olds ++ news) esz false))
              else bif Nat.ble (l + n) c then
                gd (!ro && Nat.ble (o + (l + n) * i.size) cs.length) (some (.slice (some ⟨A, o, none⟩) (l + n) c, M.set A (.cells (splice cs (o + l * i.size) news) esz false)))
              else some (.slice (some ⟨M.next, 0, none⟩) (l + n) capU, M.new (.cells (olds ++ news) i.size false))
            | _ => none
          | _ => none
        | none => none
      | none => none
    | none => none
  | _ => none

theorem append_none_run {t tx ty e : TypeId} {i : TypeInfo} (ht : P.underlying t = some (.slice e)) (hi : P.info? e = some i) (base : Option Addr) (l c : Nat) (hl : l ≤ c) {x : Value} {news : List Value}
    (hs : Src P i.size tx x 0 news w) : (Builtin.append_ #[t, tx] ty #[.slice base l c, x]).run P w = .ok (.slice base l c) w := by
  have hn : news = [] := List.eq_nil_of_length_eq_zero (by have := hs.newsLen; simpa using this)
  subst hn
  rcases hs.kind with ⟨e', hk⟩ | hk <;> cases base <;>
    simp [Builtin.append_, run_underlying ht, run_underlying hk, sizeOf, typeInfo, hi, hs.len, hl, hs.cells, storeCells]

theorem slice_new {m : LM} {M : Mem} {w : World} {L : Loc} (n : Nat) {cap : Nat} (hn : n ≤ cap) (htop : L.top = cap * L.esz) (hb : L.base = 0) (hblk : L.blk = w.heap.size) :
    VRel (m.put M.next L) (.slice (some ⟨M.next, 0, none⟩) n capU) (.slice (some ⟨w.heap.size, 0, none⟩) n cap) := by
  have : (⟨w.heap.size, 0, none⟩ : Addr) = ⟨L.blk, L.base + 0, none⟩ := by rw [hblk, hb]
  exact .slice M.next 0 n capU L _ cap (LM.put_self _ _ _) hn (.inl ⟨rfl, by rw [hb, htop]; omega⟩) (.inl this)

/-- The grown row. -/
theorem grow_rel (hR : Rl N0 w0 m M w) {e : TypeId} {i : TypeInfo} {z : Value} (hzs : z.cells.size = i.size) {need cap : Nat} {xs us : List Value} (hr : LRel m xs us) (hlen : us.length = need * i.size) (hcap : need ≤ cap) :
    ∃ L, L.blk = w.heap.size ∧ L.base = 0 ∧ L.top = cap * L.esz ∧ L.esz = i.size ∧
      ORel N0 (m.put M.next L) (w.drew.alloc (.cells (us.toArray ++ Builtin.zeroCells z.cells (cap - need)) e)) L (.cells xs i.size false) := by
  have htail : (Builtin.zeroCells z.cells (cap - need)).toList.length = (cap - need) * i.size := by rw [Array.length_toList, size_zeroCells, hzs]
  have htop : us.length + (Builtin.zeroCells z.cells (cap - need)).toList.length = cap * i.size := by
    rw [hlen, htail, ← Nat.add_mul]; congr 1; omega
  refine ⟨⟨w.heap.size, 0, us.length + (Builtin.zeroCells z.cells (cap - need)).toList.length, i.size⟩, rfl, rfl, htop, rfl, ?_⟩
  have ho := ORel.fresh (w := w.drew) (tail := (Builtin.zeroCells z.cells (cap - need)).toList) (hr.mono (LM.le_put (L := ⟨w.heap.size, 0, us.length + (Builtin.zeroCells z.cells (cap - need)).toList.length, i.size⟩) hR.fresh_m).sub) (show ¬ N0 w.drew.heap.size ∧ m.bot ≤ w.drew.heap.size from hR.nsz) e i.size
  have hrow : (us ++ (Builtin.zeroCells z.cells (cap - need)).toList).toArray = us.toArray ++ Builtin.zeroCells z.cells (cap - need) := by
    apply Array.ext'; simp
  rw [hrow] at ho
  exact ho

theorem aappend_sound (hR : Rl N0 w0 m M w) {t tx ty : TypeId} {s s' x x' v : Value} {M' : Mem} (hs : VRel m s s') (hx : VRel m x x') (h : aappend P t tx M s x = some (v, M')) :
    ∃ u w' m', (Builtin.append_ #[t, tx] ty #[s', x']).run P w = .ok u w' ∧ m.le m' ∧ VRel m' v u ∧ Rl N0 w0 m' M' w' := by
  unfold aappend at h
  split at h
  · rename_i e ht
    split at h
    · rename_i i hi
      split at h
      · rename_i z hz
        replace h := gd_some h; obtain ⟨hg, h⟩ := h
        simp only [Bool.and_eq_true] at hg
        have hpos := blt_iff.1 hg.1
        have hzs := beq_eq hg.2
        split at h
        · rename_i n news hsrc
          obtain ⟨ys, hS, hrel⟩ := asrc_sound hR hx hsrc
          split at h
          · cases hs
            replace h := cond_split h; rcases h with ⟨hn, h⟩ | ⟨hn, h⟩
            · obtain rfl := beq_eq hn
              simp only [Option.some.injEq, Prod.mk.injEq] at h
              obtain ⟨rfl, rfl⟩ := h
              exact ⟨_, w, m, append_none_run ht hi none 0 0 (Nat.le_refl _) hS, LM.le_refl m, .sliceNil, hR⟩
            · replace h := gd_some h; obtain ⟨hg2, h⟩ := h
              simp only [Bool.and_eq_true] at hg2
              have hb1 := ble_le hg2.1
              have hb2 := ble_le hg2.2
              have hn0 : n ≠ 0 := fun e => by rw [beqT e] at hn; cases hn
              simp only [Option.some.injEq, Prod.mk.injEq] at h
              obtain ⟨rfl, rfl⟩ := h
              have hgr := run_append_grow_src (P := P) w t tx ty e i z ht hi hz none 0 0 [] (run_firstCells_none _ _ _ _ _) x' n ys hS (by omega) (by simp; omega)
                (growslice_fits (by omega) (by simpa using hb1))
              simp only [Nat.zero_add, List.nil_append] at hgr
              obtain ⟨L, l1, l2, l3, l4, ho⟩ := grow_rel (e := e) hR hzs hrel hS.newsLen (grownCap_ge w n 0 e)
              exact ⟨_, _, _, hgr, LM.le_put hR.fresh_m, slice_new n (grownCap_ge w n 0 e) l3 l2 l1,
                hR.new (b := w.heap.size) ((Agree.drew _ w).trans (Agree.alloc _ w.drew _)) (Nat.le_refl _) (by omega) ho⟩
          · rename_i A o l c
            cases hs with
            | slice _ _ _ _ L a' cc hL hl hc ha =>
            replace h := cond_split h
            rcases h with ⟨hz2, h⟩ | ⟨_, h⟩
            · rw [Bool.and_eq_true] at hz2
              obtain rfl := beq_eq hz2.1
              have hc0 := beq_eq hz2.2
              have hcc : cc = 0 := by
                rcases hc with ⟨h1, _⟩ | ⟨h1, _⟩
                · rw [hc0] at h1; exact absurd h1 (by decide)
                · omega
              subst hcc
              subst hc0
              replace h := cond_split h; rcases h with ⟨hn, h⟩ | ⟨hn, h⟩
              · obtain rfl := beq_eq hn
                simp only [Option.some.injEq, Prod.mk.injEq] at h
                obtain ⟨rfl, rfl⟩ := h
                exact ⟨_, w, m, append_none_run ht hi _ 0 0 (Nat.le_refl _) hS, LM.le_refl m, .slice A o 0 0 L a' 0 hL hl hc ha, hR⟩
              · replace h := gd_some h; obtain ⟨hg2, h⟩ := h
                simp only [Bool.and_eq_true] at hg2
                have hb1 := ble_le hg2.1
                have hb2 := ble_le hg2.2
                have hn0 : n ≠ 0 := fun e => by rw [beqT e] at hn; cases hn
                simp only [Option.some.injEq, Prod.mk.injEq] at h
                obtain ⟨rfl, rfl⟩ := h
                have hgr := run_append_grow_src (P := P) w t tx ty e i z ht hi hz (some a') 0 0 [] (run_firstCells_some w.drew i.size 0 a' 0 0 [] (by simp) (fun j v hj => by simp at hj)) x' n ys hS (by omega) (by simp; omega)
                  (growslice_fits (by omega) (by simpa using hb1))
                simp only [Nat.zero_add, List.nil_append] at hgr
                obtain ⟨L', l1, l2, l3, l4, ho⟩ := grow_rel (e := e) hR hzs hrel hS.newsLen (grownCap_ge w n 0 e)
                exact ⟨_, _, _, hgr, LM.le_put hR.fresh_m, slice_new n (grownCap_ge w n 0 e) l3 l2 l1,
                  hR.new (b := w.heap.size) ((Agree.drew _ w).trans (Agree.alloc _ w.drew _)) (Nat.le_refl _) (by omega) ho⟩
            split at h
            · rename_i cs esz ro hA
              replace h := gd_some h; obtain ⟨hg2, h⟩ := h
              simp only [Bool.and_eq_true] at hg2
              obtain ⟨⟨⟨g1, g2⟩, g3⟩, g4⟩ := hg2
              obtain rfl := beq_eq g1
              have g2 := beq_eq g2
              have g3 := ble_le g3
              have g4 := ble_le g4
              obtain ⟨L0, hL0, hO⟩ := hR.obj A _ hA
              obtain rfl : L0 = L := Option.some.inj (hL0.symm.trans hL)
              have hesz : L0.esz = i.size := hO.1
              obtain ⟨us, hu1, hu2⟩ := hO.range o (l * i.size)
              have hul : us.length = l * i.size := by rw [← hu2.1]; exact g2
              have hyl : ys.length = n * i.size := hS.newsLen
              have hnl : news.length = n * i.size := by rw [hrel.1]; exact hyl
              have hlen : o + l * i.size ≤ cs.length ∨ l = 0 := by
                simp only [List.length_take, List.length_drop] at g2
                rcases Nat.eq_zero_or_pos l with h0 | h0
                · exact .inr h0
                · have : 0 < l * i.size := Nat.mul_pos h0 hpos
                  left; omega
              replace h := cond_split h; rcases h with ⟨hn, h⟩ | ⟨hn, h⟩
              · obtain rfl := beq_eq hn
                simp only [Option.some.injEq, Prod.mk.injEq] at h
                obtain ⟨rfl, rfl⟩ := h
                exact ⟨_, w, m, append_none_run ht hi _ l cc hl hS, LM.le_refl m, .slice A o l c L0 a' cc hL hl hc ha, hR⟩
              · have hn0 : n ≠ 0 := fun e => by rw [beqT e] at hn; cases hn
                -- in place
                have room : ro = false → l + n ≤ cc → L0.base + o + (l + n) * i.size ≤ L0.top ∧
                    (Builtin.append_ #[t, tx] ty #[.slice (some a') l cc, x']).run P w = .ok (.slice (some ⟨L0.blk, L0.base + o, none⟩) (l + n) cc) (w.setCells L0.blk (L0.base + o + l * i.size) ys) := by
                  intro hro hle
                  subst hro
                  have ha' : a' = ⟨L0.blk, L0.base + o, none⟩ := ha.resolve_right (by omega)
                  subst ha'
                  have hmul : (l + n) * i.size ≤ cc * i.size := Nat.mul_le_mul_right _ hle
                  have hfit : L0.base + o + (l + n) * i.size ≤ L0.top := by
                    rw [hesz] at hc
                    rcases hc with ⟨_, hc⟩ | ⟨_, _, hc⟩ <;> omega
                  refine ⟨hfit, ?_⟩
                  rw [Nat.add_mul] at hfit
                  have hth := hO.there (o + l * i.size) ys.length (by omega)
                  exact run_append_room_src (P := P) w t tx ty e i ht hi L0.blk (L0.base + o) l cc x' n ys hS hle
                    (fun j hj => by have := (hth j hj).1; rwa [← Nat.add_assoc] at this) (fun j hj => by have := (hth j hj).2; rwa [← Nat.add_assoc] at this)
                -- a new row
                have grow : cc < l + n → ∃ L', L'.blk = w.heap.size ∧ L'.base = 0 ∧ L'.top = grownCap w (l + n) cc e * L'.esz ∧ L'.esz = i.size ∧
                    ∃ w', (Builtin.append_ #[t, tx] ty #[.slice (some a') l cc, x']).run P w = .ok (.slice (some ⟨w.heap.size, 0, none⟩) (l + n) (grownCap w (l + n) cc e)) w' ∧
                      Agree w.heap.size w w' ∧ ORel N0 (m.put M.next L') w' L' (.cells ((cs.drop o).take (l * i.size) ++ news) i.size false) := by
                  intro hlt
                  have hold : (Builtin.firstCells i.size l (.slice (some a') l cc)).run P w.drew = .ok us.toArray w.drew := by
                    rcases ha with rfl | rfl
                    · exact run_firstCells_some w.drew i.size l _ l cc us hul (fun j v hj => by rw [Addr.add_eq]; exact hu1 j v hj)
                    · have hl0 : l = 0 := by omega
                      subst hl0
                      have : us = [] := List.eq_nil_of_length_eq_zero (by simpa using hul)
                      subst this
                      exact run_firstCells_some w.drew i.size 0 _ 0 0 [] (by simp) (fun j v hj => by simp at hj)
                  have hgr := run_append_grow_src (P := P) w t tx ty e i z ht hi hz (some a') l cc us hold x' n ys hS hlt (by simp; omega) (growslice_fits hlt g3)
                  have hrel2 : LRel m ((cs.drop o).take (l * i.size) ++ news) (us ++ ys) := hu2.append hrel
                  obtain ⟨L', l1, l2, l3, l4, ho⟩ := grow_rel (e := e) hR hzs hrel2 (by rw [List.length_append, hul, hyl, ← Nat.add_mul]) (grownCap_ge w (l + n) cc e)
                  exact ⟨L', l1, l2, l3, l4, _, hgr, (Agree.drew _ w).trans (Agree.alloc _ w.drew _), ho⟩
                replace h := cond_split h; rcases h with ⟨hcu, h⟩ | ⟨hcu, h⟩
                · obtain rfl := beq_eq hcu
                  have hcc : L0.base + o + cc * L0.esz = L0.top := by
                    rcases hc with ⟨_, hc⟩ | ⟨hc1, hc2, _⟩
                    · exact hc
                    · exact absurd rfl hc2
                  replace h := cond_split h; rcases h with ⟨_, h⟩ | ⟨hro, h⟩
                  · cases h
                  · subst hro
                    have hused : L0.base + cs.length ≤ L0.top := by
                      obtain ⟨_, _, arr, e', fz, hh, h4, h5, _⟩ := hO; exact h5
                    replace h := cond_split h; rcases h with ⟨hin, h⟩ | ⟨hin, h⟩
                    · have hin := ble_le hin
                      simp only [Option.some.injEq, Prod.mk.injEq] at h
                      obtain ⟨rfl, rfl⟩ := h
                      have hle : l + n ≤ cc := by
                        rw [hesz] at hcc
                        have : (l + n) * i.size ≤ cc * i.size := by omega
                        exact Nat.le_of_mul_le_mul_right this hpos
                      obtain ⟨hfit, hrun⟩ := room rfl hle
                      rw [Nat.add_mul] at hin hfit
                      have hov := hO.over (k := o + l * i.size) (by omega) hrel (by omega)
                      rw [← Nat.add_assoc] at hov
                      exact ⟨_, _, m, hrun, LM.le_refl m, .slice A o (l + n) capU L0 _ cc hL hle (.inl ⟨rfl, hcc⟩) (.inl rfl), hR.write hA rfl hL (Agree.setCells _ _ _ _) hov⟩
                    · simp only [Option.some.injEq, Prod.mk.injEq] at h
                      obtain ⟨rfl, rfl⟩ := h
                      rcases Nat.lt_or_ge cc (l + n) with hlt | hle
                      · obtain ⟨L', l1, l2, l3, l4, w', hrun, hag, ho⟩ := grow hlt
                        exact ⟨_, _, _, hrun, LM.le_put hR.fresh_m, slice_new (l + n) (grownCap_ge w (l + n) cc e) l3 l2 l1,
                          (hR.del A).new (b := w.heap.size) hag (Nat.le_refl _) (by omega) ho⟩
                      · obtain ⟨hfit, hrun⟩ := room rfl hle
                        have hk : o + l * i.size ≤ cs.length ∨ (l = 0 ∧ cs.length < o) := by
                          rcases hlen with hk | h0
                          · exact .inl hk
                          · subst h0
                            rcases Nat.lt_or_ge cs.length o with h' | h'
                            · exact .inr ⟨rfl, h'⟩
                            · exact .inl (by simpa using h')
                        have g2' : ((cs.drop o).take (l * i.size)).length = l * i.size := g2
                        -- the part from o on, then written behind
                        have hsub : ORel N0 m w { L0 with base := L0.base + o } (.cells ((cs.drop o).take (l * i.size)) i.size false) := by
                          rcases hk with hk | ⟨h0, hk⟩
                          · exact hO.sub o (l * i.size) hk
                          · subst h0
                            obtain ⟨h1, h2, arr, e', fz, hh, h4, h5, h6, h7⟩ := hO
                            refine ⟨h1, h2, arr, e', fz, hh, h4, ?_, h6, fun i v hv => by simp at hv⟩
                            simp; omega
                        rw [Nat.add_mul] at hfit
                        have hov := hsub.over (k := l * i.size) (by omega) hrel (by show L0.base + o + l * i.size + news.length ≤ L0.top; omega)
                        have e1 : List.take (l * i.size) ((cs.drop o).take (l * i.size)) ++ news ++ List.drop (l * i.size + news.length) ((cs.drop o).take (l * i.size)) = (cs.drop o).take (l * i.size) ++ news := by
                          rw [List.take_of_length_le (l := (cs.drop o).take (l * i.size)) (by omega), List.drop_of_length_le (l := (cs.drop o).take (l * i.size)) (by omega), List.append_nil]
                        rw [e1] at hov
                        have hle2 : m.le (m.put M.next { L0 with base := L0.base + o }) := LM.le_put hR.fresh_m
                        have hov2 := hov
                        refine ⟨_, _, m.put M.next { L0 with base := L0.base + o }, hrun, hle2, ?_, hR.move hA rfl hL (Agree.setCells _ _ _ _) rfl (ORel.keepm hov hle2.sub)⟩
                        exact .slice M.next 0 (l + n) capU { L0 with base := L0.base + o } _ cc (LM.put_self _ _ _) hle (.inl ⟨rfl, by simpa using hcc⟩) (.inl (by simp))
                · have hcne : c ≠ capU := fun e => by rw [beqT e] at hcu; cases hcu
                  obtain ⟨rfl, hc2⟩ : c = cc ∧ L0.base + o + cc * L0.esz ≤ L0.top := by
                    rcases hc with ⟨hc, _⟩ | ⟨hc, _, hc3⟩
                    · exact absurd hc hcne
                    · exact ⟨hc, hc3⟩
                  replace h := cond_split h; rcases h with ⟨hle, h⟩ | ⟨hle, h⟩
                  · have hle := ble_le hle
                    replace h := gd_some h; obtain ⟨hg3, h⟩ := h
                    simp only [Bool.and_eq_true] at hg3
                    have hro : ro = false := by simpa using hg3.1
                    have hin := ble_le hg3.2
                    subst hro
                    simp only [Option.some.injEq, Prod.mk.injEq] at h
                    obtain ⟨rfl, rfl⟩ := h
                    obtain ⟨hfit, hrun⟩ := room rfl hle
                    rw [Nat.add_mul] at hin hfit
                    have hov := hO.over (k := o + l * i.size) (by omega) hrel (by omega)
                    rw [← Nat.add_assoc] at hov
                    exact ⟨_, _, m, hrun, LM.le_refl m, .slice A o (l + n) c L0 _ c hL hle (.inr ⟨rfl, hcne, hc2⟩) (.inl rfl), hR.write hA rfl hL (Agree.setCells _ _ _ _) hov⟩
                  · have hlt : c < l + n := by
                      rcases Nat.lt_or_ge c (l + n) with h' | h'
                      · exact h'
                      · rw [Nat.ble_eq_true_of_le h'] at hle; cases hle
                    simp only [Option.some.injEq, Prod.mk.injEq] at h
                    obtain ⟨rfl, rfl⟩ := h
                    obtain ⟨L', l1, l2, l3, l4, w', hrun, hag, ho⟩ := grow hlt
                    exact ⟨_, _, _, hrun, LM.le_put hR.fresh_m, slice_new (l + n) (grownCap_ge w (l + n) c e) l3 l2 l1,
                      hR.new (b := w.heap.size) hag (Nat.le_refl _) (by omega) ho⟩
            · cases h
          · cases h
        · cases h
      · cases h
    · cases h
  · cases h
end

end Go.Ab
