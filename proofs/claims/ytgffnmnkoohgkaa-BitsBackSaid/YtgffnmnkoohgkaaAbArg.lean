/- Arguments that can be read, as blocks of the abstract machine that are only read; a law's call; the row's last step. -/
import Derived.Test.YtgffnmnkoohgkaaAbN
import Derived.Carry
import Derived.ChangeSame
import Derived.ProofKit
import Derived.OpenShut
set_option linter.unusedSimpArgs false
set_option linter.unusedVariables false
namespace Go.Ab
open Go.RowKit Go.ChangeShapes Go.WideShapes Go.ChangeAt

section
variable {N0 : Nat → Prop} {w0 : World} {m : LM} {M : Mem} {w : World}

/-- A block that is only read. -/
theorem Rl.addRo (h : Rl N0 w0 m M w) {b base top esz : Nat} {arr : Array Value} {e : TypeId} {fz : Nat × Nat} {cs : List Value} (hb : w.heap[b]? = some (.cells arr e fz)) (hlt : b < m.bot) (ht : top ≤ arr.size) (hl : base + cs.length ≤ top)
    (hv : ∀ (i : Nat) (v : Value), cs[i]? = some v → ∃ u, arr[base + i]? = some u ∧ VRel m v u) : Rl N0 w0 (m.put M.next ⟨b, base, top, esz⟩) (M.new (.cells cs esz true)) w := by
  have hf := h.fresh_m
  have hle : m.le (m.put M.next ⟨b, base, top, esz⟩) := LM.le_put hf
  refine ⟨h.fr, h.n0, h.glob.mono hle.sub, fun A o hA => ?_, fun A B oA oB LA LB hne hA hB hrw hLA hLB => ?_, fun A hA => ?_, ?_, h.bt⟩
  · rw [Mem.get_new] at hA
    by_cases hAn : A = M.next
    · rw [if_pos hAn] at hA
      cases hA
      subst hAn
      refine ⟨_, LM.put_self _ _ _, rfl, ⟨fun _ => hlt, fun h => by cases h⟩, arr, e, fz, hb, ht, hl, (fun h => by cases h), fun i v hi => ?_⟩
      obtain ⟨u, h1, h2⟩ := hv i v hi
      exact ⟨u, h1, h2.mono hle.sub⟩
    · rw [if_neg hAn] at hA
      obtain ⟨L, h1, h2⟩ := h.obj A o hA
      exact ⟨L, by rw [LM.put_ne _ _ hAn]; exact h1, h2.keepm hle.sub⟩
  · rw [Mem.get_new] at hA hB
    by_cases hAn : A = M.next
    · rw [if_pos hAn] at hA
      cases hA
      cases hrw
    · rw [if_neg hAn] at hA
      rw [LM.put_ne _ _ hAn] at hLA
      obtain ⟨L, h1, h2⟩ := h.obj A oA hA
      rw [h1] at hLA
      cases hLA
      by_cases hBn : B = M.next
      · subst hBn
        rw [LM.put_self] at hLB
        cases hLB
        have := (h2.ge hrw).2
        exact fun e => by simp only at e; omega
      · rw [if_neg hBn] at hB
        rw [LM.put_ne _ _ hBn] at hLB
        exact h.inj A B oA oB _ LB hne hA hB hrw h1 hLB
  · have hA' : M.next + 1 ≤ A := hA
    refine ⟨?_, ?_⟩
    · rw [Mem.get_new, if_neg (by omega)]
      exact (h.fresh A (by omega)).1
    · rw [LM.put_ne _ _ (by omega)]
      exact (h.fresh A (by omega)).2
  · show M.next + 1 = m.next + 1
    rw [h.nx]

theorem put_bot (m : LM) (A : Nat) (L : Loc) : (m.put A L).bot = m.bot := rfl
theorem put_le (h : Rl N0 w0 m M w) (L : Loc) : m.le (m.put M.next L) := LM.le_put h.fresh_m

/-- Cells in a row, out of the world. -/
theorem row_of {w : World} {a : Addr} {n : Nat} {V : Nat → Value} (hn : 0 < n) (h : ∀ i, i < n → w.cell? (a.add i) = some (V i)) :
    a.spot = none ∧ ∃ arr e fz, w.heap[a.block]? = some (.cells arr e fz) ∧ a.off + n ≤ arr.size ∧ ∀ i, i < n → arr[a.off + i]? = some (V i) := by
  obtain ⟨b, o, s⟩ := a
  have h0 := h 0 hn
  have hs : s = none := by simpa [Addr.add] using World.cell?_spot h0
  subst hs
  refine ⟨rfl, ?_⟩
  have hc : ∀ i, i < n → w.cell? ⟨b, o + i, none⟩ = some (V i) := fun i hi => by have := h i hi; rwa [Addr.add_eq] at this
  have h0 := hc 0 hn
  unfold World.cell? at h0
  cases hh : w.heap[b]? with
  | none => simp [hh] at h0
  | some ob =>
    cases ob with
    | cells arr e fz =>
      have each : ∀ i, i < n → arr[o + i]? = some (V i) := fun i hi => by
        have := hc i hi
        rwa [cell_of_heap hh] at this
      refine ⟨arr, e, fz, rfl, ?_, each⟩
      have := (Array.getElem?_eq_some_iff.1 (each (n - 1) (by omega))).1
      show o + n ≤ arr.size
      omega
    | _ => simp [hh] at h0

end

/-- A call that gives a plain value: in the model's words. -/
theorem CallW.calls {P : Program} {f : FuncId} {args : List Value} {M : Mem} {u : Value} (h : CallW P f args M fun v _ => v = u) (hu : flat 4 u = true) {W : World} {m : LM} {args' : Array Value}
    (hR : Rl (fun k => k < W.heap.size) W m M W) (ha : LRel m args args'.toList) : Calls P f args' W fun e W' => e = .returned u ∧ Below W.heap.size W W' := by
  obtain ⟨v, M', hok, rfl⟩ := h
  refine (hok _ W m W args' hR ha).mono fun e W' he => ?_
  obtain ⟨x, m', rfl, _, h2, h3⟩ := he
  rw [h2.flat_eq 4 hu]
  exact ⟨rfl, h3.fr.below⟩

/-- A call of numbers to a number leaves all as it was. -/
theorem CallW.alone {P : Program} {f : FuncId} {args : List Value} {v : Value} (h : CallW P f args Mem.empty fun u _ => u = v) (ha : args.all (flat 4) = true) (hv : flat 4 v = true) (M : Mem) : CallW P f args M fun u M' => M' = M ∧ u = v := by
  obtain ⟨u, M', h1, rfl⟩ := h
  exact ⟨_, _, h1.alone ha hv M, rfl, rfl⟩

/-- Where an import begins. -/
theorem imp0 (W : World) : ∃ m, Rl (fun k => k < W.heap.size) W m Mem.empty W ∧ m.bot = W.heap.size := ⟨_, Rl.start W, rfl⟩

section
variable {H : Type} {enc : TypeId × Value → H} {P : Program}

/-- A slice of numbers that came in. -/
theorem imp_ints {W : World} {t e : TypeId} {k : IntKind} {v : Value} {d : DataW H} {p : List MemPlace} (ht : P.underlying t = some (.slice e)) (he : P.underlying e = some (.int k)) (hc : P.cellsOf e = 1)
    {base : Nat} (hval : Value.okWide P W .any base t v) (h : DataW.Trod enc P W 0 (fun _ => true) true t v d p) {m : LM} {M : Mem} (hR : Rl (fun k => k < W.heap.size) W m M W) (hbot : m.bot = W.heap.size) :
    ∃ (u : Value) (zs : List Int) (m' : LM) (M' : Mem), Rl (fun k => k < W.heap.size) W m' M' W ∧ m'.bot = W.heap.size ∧ m.le m' ∧ Grow M M' ∧ VRel m' u v ∧ Sl M' 1 u zs.length (zs.map (Value.int k)) ∧ (∀ n ∈ zs, (Lit.int k n).wf = true) := by
  obtain ⟨a1, len, cap, rfl⟩ := okWide_slice ht hval
  obtain ⟨fuel, hf⟩ := h
  rcases open_ints ht he hc hf with ⟨hcs, hx⟩ | ⟨a, len', cap', zs, hcs, _, hl, hm, hz, hx, hcell, hwz⟩
  · simp [Value.cells] at hcs
    obtain ⟨rfl, rfl, rfl⟩ := hcs
    exact ⟨.slice none 0 0, [], m, M, hR, hbot, LM.le_refl m, Grow.refl M, .sliceNil, Sl.nil _ _, fun n hn => by cases hn⟩
  · simp [Value.cells] at hcs
    obtain ⟨rfl, rfl, rfl⟩ := hcs
    simp only [if_true] at hz
    have hcU : cap < capU := by have : maxLen = 9223372036854775807 := rfl; unfold capU; omega
    by_cases h0 : cap = 0
    · -- nothing is there: a block of none
      subst h0
      have hl0 : len = 0 := by omega
      subst hl0
      have hzs : zs = [] := List.eq_nil_of_length_eq_zero hz
      subst hzs
      obtain ⟨L, hL, hLb, hLo⟩ := hR.glob 0 (by decide)
      refine ⟨.slice (some ⟨0, 0, none⟩) 0 0, [], m, M, hR, hbot, LM.le_refl m, Grow.refl M, ?_, ⟨by simp, rfl, .inr (.inl ⟨0, 0, rfl, ?_, rfl⟩)⟩, fun n hn => by cases hn⟩
      · exact .slice 0 0 0 0 L a 0 hL (Nat.le_refl _) (.inr ⟨rfl, by decide, by rw [hLo]; simp⟩) (.inr rfl)
      · rcases Nat.lt_or_ge 0 M.next with h | h
        · exact h
        · have := (hR.fresh 0 h).2
          rw [hL] at this; cases this
    · have hrow := row_of (w := W) (a := a) (n := zs.length) (V := fun i => .int k (zs.getD i 0)) (by omega) hcell
      obtain ⟨hsp, arr, e2, fz, hh, hsz, hcc⟩ := hrow
      obtain ⟨ab, ao, as⟩ := a
      simp only at hsp hh hsz hcc
      subst hsp
      have hlt : ab < W.heap.size := lt_of_heap hh
      refine ⟨.slice (some ⟨M.next, 0, none⟩) len cap, zs.take len, m.put M.next ⟨ab, ao, ao + cap, 1⟩, M.new (.cells ((zs.take len).map (Value.int k)) 1 true), ?_, hbot, put_le hR _, ?_, ?_, ?_, fun n hn => hwz n (List.mem_of_mem_take hn)⟩
      · refine hR.addRo hh (by omega) (by omega) (by simp; omega) fun i v hi => ?_
        simp only [List.getElem?_map, Option.map_eq_some_iff] at hi
        obtain ⟨z, hi, rfl⟩ := hi
        rw [List.getElem?_take] at hi
        split at hi
        · rename_i hil
          refine ⟨.int k z, ?_, .int _ _⟩
          rw [hcc i (by omega), List.getD_eq_getElem?_getD, hi]; rfl
        · cases hi
      · exact ⟨Nat.le_succ _, fun A hA => by rw [Mem.get_new, if_neg (by omega)]⟩
      · exact .slice M.next 0 len cap _ _ cap (LM.put_self _ _ _) hl (.inr ⟨rfl, by omega, by simp⟩) (.inl rfl)
      · have hlen : (zs.take len).length = len := by rw [List.length_take]; omega
        refine ⟨by simp, by rw [List.all_eq_true]; intro v hv; obtain ⟨n, _, rfl⟩ := List.mem_map.1 hv; rfl, .inr (.inr ⟨M.next, 0, cap, (zs.take len).map (Value.int k), true, by rw [hlen], by omega, Nat.lt_succ_self _, by rw [Mem.get_new, if_pos rfl], ?_⟩)⟩
        rw [List.drop_zero, Nat.mul_one, List.take_of_length_le (by simp)]
end

section
variable {H : Type} {enc : TypeId × Value → H} {P : Program}
/-- All arguments read as they did. -/
theorem trodAll_stays (hl : laidOutB P = true) {W W' : World} {sp : Nat → Bool} : ∀ {ts : List TypeId} {vs : List Value} {ds : List (DataW H)} {ps : List MemPlace}, (∀ t ∈ ts, P.readableRec t = true ∧ t < P.types.size) →
    DataW.TrodAll enc P W 0 (fun _ => true) true ts vs ds ps → (∀ p ∈ ps, W.sameAt W' p) → (∀ p ∈ ps, sp p.block = true) → DataW.TrodAll enc P W' 0 sp true ts vs ds ps
  | [], vs, ds, ps, _, h, _, _ => by
    obtain ⟨rfl, rfl, rfl⟩ := trodAll_nil h
    exact trodAll_mk0
  | t :: ts, vs, ds, ps, hr, h, hs, hp => by
    obtain ⟨v, vs', d, ds', p, q, rfl, rfl, rfl, h1, h2⟩ := trodAll_cons h
    have e1 := WideElems.Trod_stays hl (hr t (List.mem_cons_self ..)).1 (hr t (List.mem_cons_self ..)).2 h1 (fun x hx => hs x (by simp [hx])) (fun x hx => hp x (by simp [hx]))
    have e2 := trodAll_stays hl (fun t ht => hr t (List.mem_cons_of_mem _ ht)) h2 (fun x hx => hs x (by simp [hx])) (fun x hx => hp x (by simp [hx]))
    exact trodAll_cons_mk e1 e2
end

section
variable {H : Type} {enc : TypeId × Value → H} {P : Program}
theorem post_of_below {f : Func} {s : ChangeSpec} {apart fresh handsOn again : Bool} {W W' : World} {args : Array Value} {v : Value} {ds gs : List (DataW H)} {before pa pv : List MemPlace}
    (hW : DataW.Whole enc P f.params.toList s.vars apart W args.toList ds gs before)
    (hres : ∀ (b : Nat) (sp : Nat → Bool) (hd : Bool), DataW.TrodAll enc P W' b sp hd f.resultTypes.toList (v.resultList f.resultTypes.size) (s.fn H (ds ++ gs)).results [])
    (hargs : ∀ sp : Nat → Bool, (∀ p ∈ before, sp p.block = true) → DataW.TrodAll enc P W' 0 sp true f.params.toList args.toList (s.fn H (ds ++ gs)).args pa)
    (hvars : ∀ sp : Nat → Bool, (∀ p ∈ before, sp p.block = true) → DataW.TrodVars enc P W' sp s.vars (s.fn H (ds ++ gs)).vars pv)
    (hps : before = pa ++ pv) (hb : Below W.heap.size W W')
    (hok : ∀ (j : Nat) (t : TypeId) (r : Value), f.resultTypes[j]? = some t → (v.resultList f.resultTypes.size)[j]? = some r → Value.okWide P W' .any 0 t r) :
    s.post enc P f apart fresh handsOn again W args v W' := by
  have hlt : ∀ p ∈ before, p.block < W.heap.size := fun p hp => hW.lt p hp
  have hold : ∀ p ∈ before, (fun b => decide (b < W.heap.size)) p.block = true := fun p hp => by simpa using hlt p hp
  refine ⟨ds, gs, before, [], pa, pv, hW, hres _ _ _, hargs _ hold, hvars _ hold, World.keptBut_mono (fun p hp => ⟨hp, ?_⟩) (hb.frame (· ∈ before)), fun _ => ?_⟩
  · rw [hps, List.mem_append] at hp
    exact Or.inr hp
  · obtain ⟨_, _, _, _, _, hz, hn⟩ := hW
    refine ⟨hok, _, _, ([] ++ pa) ++ pv, ⟨[] ++ pa, pv, trodAll_append (hargs _ (fun _ _ => rfl)) (hres _ _ _), hvars _ (fun _ _ => rfl), rfl, ?_, ?_⟩, ?_⟩
    · intro b off hp
      have hin : MemPlace.cell b off ∈ before := by rw [hps]; simpa using hp
      rw [hb.frozen (hlt _ hin)]
      exact hz b off hin
    · intro ha
      have := hn ha
      rw [hps] at this
      simpa using this
    · intro p hp _
      rw [hps]
      simpa using hp

/-- The row's last step: a law that answers true and leaves all that was there. -/
theorem post_law {f : Func} {s : ChangeSpec} {apart fresh handsOn again : Bool} {W W' : World} {args : Array Value} {ds : List (DataW H)} {p : List MemPlace} {tb : TypeId}
    (hW : DataW.Whole enc P f.params.toList s.vars apart W args.toList ds [] p) (hA : DataW.TrodAll enc P W 0 (fun _ => true) true f.params.toList args.toList ds p) (hl : laidOutB P = true) (hr : ∀ t ∈ f.params.toList, P.readableRec t = true ∧ t < P.types.size)
    (hv : s.vars = []) (h1 : (s.fn H ds).results = [.lit (.bool true)]) (h2 : (s.fn H ds).args = ds) (h3 : (s.fn H ds).vars = [])
    (ht : f.resultTypes = #[tb]) (hb1 : P.underlying tb = some .bool) (hb : Below W.heap.size W W') :
    s.post enc P f apart fresh handsOn again W args (.bool true) W' := by
  have hlt : ∀ x ∈ p, x.block < W.heap.size := fun x hx => hW.lt x hx
  refine post_of_below (pa := p) (pv := []) hW (fun b sp hd => ?_) (fun sp hsp => ?_) (fun sp _ => ?_) (by simp) hb ?_
  · rw [List.append_nil, h1, ht]
    exact trodAll_mk1 (shut_bool hb1 _)
  · rw [List.append_nil, h2]
    exact trodAll_stays hl hr hA (fun x hx => hb.same (hlt x hx)) hsp
  · rw [hv, List.append_nil, h3]
    rfl
  · exact ok_one ht rfl (okWide_bool_mk hb1 _)
end
end Go.Ab
