/- The abstract machine at a region that draws its order: the theorem. -/
import Derived.Test.YtgffnmnkoohgkaaAbDraw2
set_option linter.unusedSimpArgs false
set_option linter.unusedVariables false
namespace Go.Ab
open Go.RowKit (Below)

theorem Chr.iff {ops : Array Oper} {r0 : Env} {val : Nat → Value} {S S' : Nat → Prop} {r : Env} (h : Chr ops r0 val S r) (e : ∀ i, S i ↔ S' i) : Chr ops r0 val S' r :=
  ⟨h.size, fun t ht => h.old t fun i hi => ht i ((e i).1 hi), fun i t hi => h.new i t ((e i).2 hi)⟩

theorem filter_lt {l : List Nat} {p q : Nat → Bool} {i : Nat} (hi : i ∈ l) (hp : p i = true) (hq : q i = false) (h : ∀ k, q k = true → p k = true) : (l.filter q).length < (l.filter p).length := by
  have le : ∀ l : List Nat, (l.filter q).length ≤ (l.filter p).length := by
    intro l
    induction l with
    | nil => simp
    | cons x l ih =>
      simp only [List.filter_cons]
      cases hqx : q x with
      | true => rw [h x hqx]; simp; exact ih
      | false => cases p x <;> simp <;> omega
  induction l with
  | nil => cases hi
  | cons x l ih =>
    simp only [List.filter_cons]
    rcases List.mem_cons.1 hi with rfl | hi
    · rw [hp, hq]; simp; have := le l; omega
    · have := ih hi
      cases hqx : q x with
      | true => rw [h x hqx]; simp; omega
      | false => cases p x <;> simp <;> omega

section
variable {P : Program} {call : Nat → CallF} {ops : Array Oper}

theorem getD_same {listed : Array Bool} {i : Nat} (h : i < listed.size) : listed.getD i true = listed.getD i false := by
  simp [Array.getD_eq_getD_getElem?, Array.getElem?_eq_getElem h]

theorem rep_false (n j : Nat) : (Array.replicate n false).getD j false = false := by
  rw [Array.getD_eq_getD_getElem?, Array.getElem?_replicate]
  split <;> rfl

/-- Shown to one that acts ahead of place p. -/
theorem mat_take {es : List Ent} {p i : Nat} : mat ops (es.take p) i = true ↔ ∃ e en, e < p ∧ es[e]? = some en ∧ en.cls.isE = true ∧ ahead ops i e = true := by
  rw [mat_iff]
  constructor
  · rintro ⟨e, en, h1, h2, h3⟩
    rw [List.getElem?_take] at h1
    split at h1
    · rename_i hlt; exact ⟨e, en, hlt, h1, h2, h3⟩
    · cases h1
  · rintro ⟨e, en, hlt, h1, h2, h3⟩
    exact ⟨e, en, by rw [List.getElem?_take, if_pos hlt]; exact h1, h2, h3⟩

theorem eAt_iff {es : List Ent} {i : Nat} : eAt es i = true ↔ ∃ en, es[i]? = some en ∧ en.cls.isE = true := by
  unfold eAt
  cases h : es[i]? with
  | none => simp
  | some en => simp

theorem aAlloc_rw {r : Env} {o : Oper} {id : Nat} {v : Value} {obj : AObj} (h1 : aAlloc P r o id = some (v, obj)) : obj.rw = true := by
  unfold aAlloc at h1
  replace h1 := gd_some h1; obtain ⟨_, h1⟩ := h1
  split at h1
  · split at h1
    · cases h1; rfl
    · cases h1
  · split at h1
    · cases h1; rfl
    · cases h1
  · split at h1
    · split at h1
      · split at h1
        · replace h1 := gd_some h1; obtain ⟨_, h1⟩ := h1
          split at h1
          · replace h1 := gd_some h1; obtain ⟨_, h1⟩ := h1
            cases h1; rfl
          · cases h1
        · cases h1
      · cases h1
    · cases h1
  · cases h1

theorem aAlloc_congr {r r' : Env} {o : Oper} (h : ∀ x ∈ o.op.operands, r.eval x = r'.eval x) (id : Nat) : aAlloc P r o id = aAlloc P r' o id := by
  unfold aAlloc
  cases hk : okOp o with
  | false => rfl
  | true =>
    simp only [gd]
    obtain ⟨dst, op, type, pos, after, guard⟩ := o
    cases op <;> simp only [Op.operands] at h ⊢
    case box t x => rw [h x (by simp)]
    case buildSlice t n ps =>
      have : (ps.toList.map fun (i, x) => (i, r.eval x)) = ps.toList.map fun (i, x) => (i, r'.eval x) :=
        List.map_congr_left fun p hm => by obtain ⟨i, x⟩ := p; simp only [h x (by simp; exact ⟨i, by simpa using hm⟩)]
      rw [this]

/-- As 'steady', in words. -/
def SteadyP (P : Program) (ops : Array Oper) (base : Nat) (es : List Ent) (Mf : Mem) : Prop := ∀ (j : Nat) (en : Ent), es[j]? = some en →
  match en.cls with
  | .r => ∀ p ∈ places? es, compat ops es p j = true → ∃ M1, aOp P en.r en.o (addSel base (selB ops (es.take p) j) es 0 (memAt es Mf p)) = some (.val en.v M1)
  | .a _ => ∀ p ∈ places? es, mat ops (es.take p) j = true ∨ (memAt es Mf p).get (base + j) = none
  | _ => True

theorem SteadyP.of {base : Nat} {es : List Ent} {Mf : Mem} (h : steady P ops base es Mf = true) : SteadyP P ops base es Mf := by
  intro j en hj
  have h1 := zip_all h (i := j) (x := en) hj
  cases hc : en.cls with
  | n => trivial
  | p => trivial
  | e => trivial
  | r =>
    simp only [hc] at h1 ⊢
    intro p hp hcm
    have h2 := List.all_eq_true.1 h1 p hp
    rw [hcm] at h2
    simp only [Bool.not_true, Bool.false_or] at h2
    split at h2
    · rename_i v M1 ho
      rw [ho, veq_eq 4 h2]
      exact ⟨M1, rfl⟩
    · cases h2
  | a obj =>
    simp only [hc] at h1 ⊢
    intro p hp
    have h2 := List.all_eq_true.1 h1 p hp
    rw [Bool.or_eq_true] at h2
    exact h2.imp id fun h => by simpa using h

set_option maxHeartbeats 2000000 in
theorem drawP_ok (hm : P.follows .mixedOrders = true) (hC : ∀ j, CallsOk P (call j)) {id : Nat} {r0 : Env} {M0 : Mem} (hg : (drawOk P ops && dstsFit ops.toList r0.size) = true) {es : List Ent} {rf : Env} {Ml : Mem}
    (hgo : drawGo P call ops M0.next ops.toList [] r0 ⟨M0.next + ops.size, M0.tbl⟩ = some (es, rf, Ml)) (hst : SteadyP P ops M0.next es Ml) :
    CodeOk P (.region id ops true) r0 M0 .normal rf (addSel M0.next (fun i => !(mat ops es i)) es 0 Ml) := by
  unfold drawOk at hg
  simp only [Bool.and_eq_true] at hg
  obtain ⟨⟨⟨hlow, h1w⟩, hrow⟩, hfit⟩ := hg
  · skip
    obtain ⟨ext, hes, f1, f2, f3, f4⟩ := drawGo_spec ops.toList [] r0 ⟨M0.next + ops.size, M0.tbl⟩ es rf Ml hgo
    simp only [List.nil_append] at hes
    subst hes
    simp only [List.length_nil, Nat.zero_add] at f4
    generalize hbase : M0.next = base at *
    have hlen : es.length = ops.size := by
      have := congrArg List.length f1
      simpa using this
    have hent : ∀ j, j < ops.size → ∃ en, es[j]? = some en ∧ ops[j]? = some en.o := by
      intro j hj
      have hj' : j < es.length := by omega
      refine ⟨es[j], List.getElem?_eq_getElem hj', ?_⟩
      have : (es.map (·.o))[j]? = ops.toList[j]? := by rw [f1]
      rw [List.getElem?_map, List.getElem?_eq_getElem hj'] at this
      simpa using this.symm
    have hentlt : ∀ {j en}, es[j]? = some en → j < ops.size := by
      intro j en hj
      rcases Nat.lt_or_ge j es.length with h' | h'
      · omega
      · rw [List.getElem?_eq_none h'] at hj; cases hj
    let val : Nat → Value := fun i => match es[i]? with
      | some en => en.v
      | none => undef
    have hval : ∀ {j en}, es[j]? = some en → val j = en.v := fun {j en} hj => by simp only [val, hj]
    have henv : ∀ {j en}, es[j]? = some en → envAt es rf j = en.r := fun {j en} hj => by simp only [envAt, hj]
    have hmemE : ∀ {j en}, es[j]? = some en → memAt es Ml j = en.M := fun {j en} hj => by simp only [memAt, hj]
    have hdst : ∀ {j : Nat} {o : Oper}, ops[j]? = some o → ∀ t, o.dst = some t → t < r0.size := by
      intro j o ho t ht
      have := List.all_eq_true.1 hfit o (by simpa using Array.mem_of_getElem? ho)
      rw [ht] at this
      exact blt_iff.1 this
    have hpre : ∀ j, j ≤ ops.size → Chr ops r0 val (fun i => i < j) (envAt es rf j) := by
      intro j
      induction j with
      | zero => intro _; rw [f2]; exact ⟨rfl, fun _ _ => rfl, fun i t hi => absurd hi (Nat.not_lt_zero _)⟩
      | succ j ih =>
        intro hj
        obtain ⟨en, he, ho⟩ := hent j (by omega)
        have hc := (ih (by omega)).step h1w ho (Nat.lt_irrefl j) (hdst ho)
        rw [henv he, hval he] at hc
        rw [(f4 j en he).1]
        exact hc.iff fun i => by omega
    have hconst : ∀ q p, p ≤ q → q ≤ ops.size → (∀ i, p ≤ i → i < q → eAt es i = false) → memAt es Ml p = memAt es Ml q := by
      intro q
      induction q with
      | zero => intro p hp _ _; have : p = 0 := by omega
                rw [this]
      | succ q ih =>
        intro p hp hq hi
        rcases Nat.lt_or_ge q p with hlt | hge
        · have : p = q + 1 := by omega
          rw [this]
        · obtain ⟨en, he, ho⟩ := hent q (by omega)
          have hk : en.cls.isE = false := by
            have := hi q hge (by omega)
            unfold eAt at this
            rw [he] at this; exact this
          rw [step_same (f4 q en he) hk, ← hmemE he]
          exact ih p hge (by omega) fun i h1 h2 => hi i h1 (by omega)
    have hlowE : ∀ {j : Nat} {o : Oper}, ops[j]? = some o → ∀ e ∈ o.after, Region.binds .any e = true → e.on < j := by
      intro j o ho e hm' hb
      have := zip_all hlow (i := j) (x := o) (by simpa using ho)
      have := List.all_eq_true.1 this e (by simpa using hm')
      rw [hb] at this
      exact blt_iff.1 (by simpa using this)
    have hdownLt : ∀ j, Down ops (fun i => i < j) := fun j k o hk ho e he hb => by
      have := hlowE ho e he hb
      show e.on < j
      have hk' : k < j := hk
      omega
    have haheadLt : ∀ i j, j < ops.size → ahead ops i j = true → i < j := by
      intro i j hj ha
      have ho : ops[j]? = some ops[j] := Array.getElem?_eq_getElem hj
      exact ahead_in hlow (hdownLt j) j i _ ho (fun e he hb => hlowE ho e he hb) ha
    -- a block that was not shown yet has no place in memory
    have hfree : ∀ {i : Nat} {en : Ent} {obj : AObj} {p : Nat}, es[i]? = some en → en.cls = .a obj → p ≤ ops.size → (p = 0 ∨ eAt es (p - 1) = true) → mat ops (es.take p) i = false → (memAt es Ml p).get (base + i) = none := by
      intro i en obj p hi hc hp hp0 hmt
      have h1 := hst i en hi
      simp only [hc] at h1
      have hpl : p ∈ places? es := by
        unfold places?
        rw [List.mem_filter]
        refine ⟨List.mem_range.2 (by omega), ?_⟩
        rcases hp0 with h0 | h0
        · rw [beqT h0]; rfl
        · rw [h0]; simp
      have h2 := h1 p hpl
      rw [hmt] at h2
      simpa using h2
    have halloc : ∀ {i : Nat} {en : Ent} {obj : AObj}, es[i]? = some en → en.cls = .a obj → aAlloc P en.r en.o (base + i) = some (en.v, obj) := by
      intro i en obj hi hc
      have := (f4 i en hi).2
      rw [hc] at this
      have hl : (es.take i).length = i := by rw [List.length_take]; have := hentlt hi; omega
      rw [hl] at this
      exact this.2.1
    have hrw : ∀ {i : Nat} {en : Ent} {obj : AObj}, es[i]? = some en → en.cls = .a obj → obj.rw = true := by
      intro i en obj hi hc
      exact aAlloc_rw (halloc hi hc)
    intro N0 w0 m0 w a Q hE hR hQ
    have hR0nx : base = m0.next := by rw [← hbase]; exact hR.nx
    refine wp_region_any hm ?_
    -- the state when the operations of 'listed' have been done
    let Inv : Array Bool → LM → Act → World → Prop := fun listed m a w =>
      listed.size = ops.size ∧ Down ops (fun i => listed.getD i false = true) ∧ (m0.sub m ∧ base + ops.size ≤ m.next ∧ ∀ A, A < base → m A = m0 A) ∧
      ∃ rS p M, Chr ops r0 val (fun i => listed.getD i false = true) rS ∧ ERel m rS a ∧ p ≤ ops.size ∧ (p = 0 ∨ eAt es (p - 1) = true) ∧
        (∀ e, eAt es e = true → (listed.getD e false = true ↔ e < p)) ∧
        M.next = (memAt es Ml p).next ∧
        (∀ (i : Nat) (en : Ent) (obj : AObj), es[i]? = some en → en.cls = .a obj → listed.getD i false = true → mat ops (es.take p) i = false → M.get (base + i) = some obj) ∧
        (∀ A, (∀ (i : Nat) (en : Ent) (obj : AObj), es[i]? = some en → en.cls = .a obj → listed.getD i false = true → mat ops (es.take p) i = false → A ≠ base + i) → M.get A = (memAt es Ml p).get A) ∧
        (∀ (i : Nat) (en : Ent) (obj : AObj), es[i]? = some en → en.cls = .a obj → listed.getD i false = false → m (base + i) = none) ∧
        Rl N0 w0 m M w
    have fin : ∀ listed m a w, Inv listed m a w → (∀ k, k < ops.size → listed.getD k false = true) → Q Ex.normal.conv a w := by
      intro listed m a w hI hall
      obtain ⟨hs, hD, ⟨hle, hnx, hlo⟩, rS, p, M, hchr, hE, hp, hp0, hpE, hMn, hM1, hM2, hM3, hR⟩ := hI
      have hfin := hpre ops.size (Nat.le_refl _)
      have hrf : envAt es rf ops.size = rf := by simp only [envAt]; rw [List.getElem?_eq_none (by omega)]
      rw [hrf] at hfin
      have hMf : memAt es Ml p = Ml := by
        have := hconst ops.size p hp (Nat.le_refl _) fun i h1 h2 => by
          cases hv : eAt es i with
          | false => rfl
          | true => have := (hpE i hv).1 (hall i h2); omega
        rw [this]; simp only [memAt]; rw [List.getElem?_eq_none (by omega)]
      rw [hMf] at hMn hM2
      have hmatEq : ∀ i, mat ops (es.take p) i = mat ops es i := by
        intro i
        rw [Bool.eq_iff_iff, mat_take, mat_iff]
        constructor
        · rintro ⟨e, en, _, h1, h2, h3⟩; exact ⟨e, en, h1, h2, h3⟩
        · rintro ⟨e, en, h1, h2, h3⟩
          exact ⟨e, en, (hpE e (eAt_iff.2 ⟨en, h1, h2⟩)).1 (hall e (hentlt h1)), h1, h2, h3⟩
      refine hQ m a w ⟨hle, ?_, ?_⟩ ⟨?_, fun t => ?_, hE.defers, hE.glob⟩ (hR.same_get ?_ fun A => ?_)
      · have := hR0nx; omega
      · intro A hA
        exact hlo A (by have := hR0nx; omega)
      · rw [hE.size, hchr.size, hfin.size]
      · have hget : rf.get t = rS.get t := by
          by_cases hw : ∃ i, isDst ops i t = true
          · obtain ⟨i, hi⟩ := hw
            obtain ⟨o, ho, _⟩ := isDst_iff.1 hi
            have hlt : i < ops.size := (Array.getElem?_eq_some_iff.1 ho).1
            rw [hfin.new i t hlt hi, hchr.new i t (hall i hlt) hi]
          · have hn : ∀ i, isDst ops i t = false := fun i => by
              cases hv : isDst ops i t with
              | false => rfl
              | true => exact absurd ⟨i, hv⟩ hw
            rw [hfin.old t fun i _ => hn i, hchr.old t fun i _ => hn i]
        rw [hget]
        exact hE.rel t
      · rw [addSel_next]; exact hMn.symm
      · by_cases hc : ∃ (i : Nat) (en : Ent) (obj : AObj), es[i]? = some en ∧ en.cls = .a obj ∧ mat ops es i = false ∧ A = base + i
        · obtain ⟨i, en, obj, h1, h2, h3, rfl⟩ := hc
          rw [hM1 i en obj h1 h2 (hall i (hentlt h1)) (by rw [hmatEq]; exact h3)]
          have := addSel_in base (fun i => !(mat ops es i)) es 0 i en obj Ml h1 h2 (by simp [h3])
          rwa [Nat.zero_add] at this
        · rw [addSel_out, hM2 A]
          · rintro i en obj h1 h2 _ h3 rfl
            exact hc ⟨i, en, obj, h1, h2, by rw [← hmatEq]; exact h3, rfl⟩
          · rintro k en obj h1 h2 h3 rfl
            rw [Nat.zero_add] at h3 hc
            exact hc ⟨k, en, obj, h1, h2, by simpa using h3, rfl⟩
    have main : ∀ fuel listed m a w, Inv listed m a w → ((List.range ops.size).filter fun k => !listed.getD k false).length ≤ fuel → wpAny P .any ops Q fuel listed a w := by
      intro fuel
      induction fuel with
      | zero =>
        intro listed m a w hI hc
        have hall : ∀ k, k < ops.size → listed.getD k false = true := by
          intro k hk
          cases hv : listed.getD k false with
          | true => rfl
          | false =>
            exfalso
            have : k ∈ (List.range ops.size).filter fun k => !listed.getD k false := by
              rw [List.mem_filter]; exact ⟨List.mem_range.2 hk, by rw [hv]; rfl⟩
            have hpos := List.length_pos_of_mem this
            omega
        refine ⟨?_, fin listed m a w hI hall⟩
        rw [List.eq_nil_iff_forall_not_mem]
        intro j hj
        obtain ⟨h1, o, ho, _⟩ := mem_ready.1 hj
        have hlt : j < ops.size := (Array.getElem?_eq_some_iff.1 ho).1
        rw [getD_same (by have := hI.1; omega), hall j hlt] at h1
        cases h1
      | succ fuel ih =>
        intro listed m a w hI hc
        have hI0 := hI
        obtain ⟨hs, hD, ⟨hle, hnx, hlo⟩, rS, p, M, hchr, hE, hp, hp0, hpE, hMn, hM1, hM2, hM3, hR⟩ := hI
        have round : ∀ i ∈ Region.ready .any ops listed, wpOp P ops Q i (wpAny P .any ops Q fuel (listed.setIfInBounds i true)) a w := by
          intro i hi
          obtain ⟨hr1, o, ho, hedge⟩ := mem_ready.1 hi
          have hlt : i < ops.size := (Array.getElem?_eq_some_iff.1 ho).1
          rw [getD_same (by omega)] at hr1
          obtain ⟨en, hen, heno⟩ := hent i hlt
          have hoeq : en.o = o := Option.some.inj (heno.symm.trans ho)
          have hstep := f4 i en hen
          unfold EStep at hstep
          rw [hoeq] at hstep
          have hni : ¬ (listed.getD i false = true) := by rw [hr1]; simp
          have aIn : ∀ k, ahead ops k i = true → listed.getD k false = true := fun k hk => ahead_in hlow hD i k o ho hedge hk
          have ltSize : ∀ k, listed.getD k false = true → k < ops.size := by
            intro k hk
            rcases Nat.lt_or_ge k ops.size with h' | h'
            · exact h'
            · simp [Array.getD_eq_getD_getElem?, Array.getElem?_eq_none (show listed.size ≤ k by omega)] at hk
          have aheadOf : ∀ k j, listed.getD k false = true → ahead ops j k = true → listed.getD j false = true := by
            intro k j hk hj
            have hok : ops[k]? = some (ops[k]'(ltSize k hk)) := Array.getElem?_eq_getElem (ltSize k hk)
            exact ahead_in hlow hD k j _ hok (fun e he hb => hD k _ hk hok e he hb) hj
          have notAhead : ∀ k, listed.getD k false = true → ahead ops i k = false := by
            intro k hk
            cases hv : ahead ops i k with
            | false => rfl
            | true => exact absurd (aheadOf k i hk hv) hni
          have hlook : ∀ t ∈ o.looksAt ops, rS.get t = en.r.get t := by
            have hpi := hpre i (by omega)
            rw [henv hen] at hpi
            refine hchr.looks h1w hpi ho hni (Nat.lt_irrefl i) aIn (fun k hk => haheadLt k i hlt hk) notAhead (fun k hk => ?_)
            cases hv : ahead ops i k with
            | false => rfl
            | true => have := haheadLt i k (by have hk' : k < i := hk; omega) hv; have hk' : k < i := hk; omega
          have hwant : wantedA ops rS o = wantedA ops en.r o := wanted_congr hlook
          have hop : ∀ M, aOp P rS o M = aOp P en.r o M := fun M => aop_congr (eval_congr hlook) M
          have hstepEq : ∀ M, stepOp P (call i) rS o M = stepOp P (call i) en.r o M := fun M => by unfold stepOp; rw [hop]
          have hgetD : ∀ k, (listed.setIfInBounds i true).getD k false = true ↔ (listed.getD k false = true ∨ k = i) := by
            intro k
            simp only [Array.getD_eq_getD_getElem?, Array.getElem?_setIfInBounds]
            by_cases hk : i = k
            · subst hk
              rw [if_pos rfl, if_pos (by omega)]
              simp
            · rw [if_neg hk]
              constructor
              · exact fun h => .inl h
              · rintro (h | h)
                · exact h
                · exact absurd h.symm hk
          have hgetF : ∀ k, (listed.setIfInBounds i true).getD k false = false → listed.getD k false = false ∧ k ≠ i := by
            intro k hk
            constructor
            · cases hv : listed.getD k false with
              | false => rfl
              | true => rw [(hgetD k).2 (.inl hv)] at hk; cases hk
            · rintro rfl
              rw [(hgetD k).2 (.inr rfl)] at hk; cases hk
          have matIn : ∀ q k, q = p → mat ops (es.take q) k = true → listed.getD k false = true := by
            rintro q k rfl hk
            obtain ⟨e, en', h1, h2, h3, h4⟩ := mat_take.1 hk
            exact aheadOf e k ((hpE e (eAt_iff.2 ⟨en', h2, h3⟩)).2 h1) h4
          -- what is left, behind the operation
          have next : ∀ (m' : LM) (u : Value) (w' : World) (p' : Nat) (M' : Mem), (m0.sub m' ∧ base + ops.size ≤ m'.next ∧ ∀ A, A < base → m' A = m0 A) → ERel m' (rS.put o.dst en.v) (a.put o.dst u) → p' ≤ ops.size → (p' = 0 ∨ eAt es (p' - 1) = true) →
              (∀ e, eAt es e = true → ((listed.getD e false = true ∨ e = i) ↔ e < p')) →
              M'.next = (memAt es Ml p').next →
              (∀ (k : Nat) (en' : Ent) (obj : AObj), es[k]? = some en' → en'.cls = .a obj → (listed.getD k false = true ∨ k = i) → mat ops (es.take p') k = false → M'.get (base + k) = some obj) →
              (∀ A, (∀ (k : Nat) (en' : Ent) (obj : AObj), es[k]? = some en' → en'.cls = .a obj → (listed.getD k false = true ∨ k = i) → mat ops (es.take p') k = false → A ≠ base + k) → M'.get A = (memAt es Ml p').get A) →
              (∀ (k : Nat) (en' : Ent) (obj : AObj), es[k]? = some en' → en'.cls = .a obj → listed.getD k false = false → k ≠ i → m' (base + k) = none) →
              Rl N0 w0 m' M' w' →
              wpAny P .any ops Q fuel (listed.setIfInBounds i true) (a.put o.dst u) w' := by
            intro m' u w' p' M' hm' hE' hp' hp0' hpE' hMn' hM1' hM2' hM3' hR'
            refine ih _ m' _ w' ⟨by simpa using hs, ?_, hm', rS.put o.dst en.v, p', M', ?_, hE', hp', hp0', fun e he => by rw [hgetD]; exact hpE' e he, hMn',
              fun k en' obj h1 h2 h3 h4 => hM1' k en' obj h1 h2 ((hgetD k).1 h3) h4,
              fun A hA => hM2' A fun k en' obj h1 h2 h3 h4 => hA k en' obj h1 h2 ((hgetD k).2 h3) h4,
              fun k en' obj h1 h2 h3 => hM3' k en' obj h1 h2 (hgetF k h3).1 (hgetF k h3).2, hR'⟩ ?_
            · intro j oj hj hoj e he hb
              show (listed.setIfInBounds i true).getD e.on false = true
              rw [hgetD]
              rcases (hgetD j).1 hj with hj | rfl
              · exact .inl (hD j oj hj hoj e he hb)
              · rw [ho] at hoj
                obtain rfl := Option.some.inj hoj
                exact .inl (hedge e he hb)
            · have := hchr.step h1w ho hni (hdst ho)
              rw [hval hen] at this
              exact this.iff fun k => (hgetD k).symm
            · have : ((List.range ops.size).filter fun k => !(listed.setIfInBounds i true).getD k false).length < ((List.range ops.size).filter fun k => !listed.getD k false).length := by
                refine filter_lt (i := i) (List.mem_range.2 hlt) (by rw [hr1]; rfl) ?_ fun k hk => ?_
                · rw [(hgetD i).2 (.inr rfl)]; rfl
                · cases hv' : listed.getD k false with
                  | false => rfl
                  | true => rw [(hgetD k).2 (.inl hv')] at hk; cases hk
              omega
          have hEi : eAt es i = en.cls.isE := by unfold eAt; rw [hen]
          -- memory stays where the operation does not act and makes no block
          have still : ∀ (m' : LM) (u : Value) (w' : World), en.cls.isE = false → (∀ obj, en.cls ≠ .a obj) → m.le m' → VRel m' en.v u → Rl N0 w0 m' M w' →
              wpAny P .any ops Q fuel (listed.setIfInBounds i true) (a.put o.dst u) w' := by
            intro m' u w' hk hna hm' hv hR'
            have hno : ∀ (k : Nat) (en' : Ent) (obj : AObj), es[k]? = some en' → en'.cls = .a obj → (listed.getD k false = true ∨ k = i) → listed.getD k false = true := by
              rintro k en' obj h1 h2 (h3 | rfl)
              · exact h3
              · rw [hen] at h1; obtain rfl := Option.some.inj h1; exact absurd h2 (hna obj)
            refine next m' u w' p M ⟨hle.trans' hm'.sub, Nat.le_trans hnx hm'.nx, fun A hA => (hm'.st A (by omega)).trans (hlo A hA)⟩ ((hE.mono hm'.sub).put hv o.dst) hp hp0 (fun e he => ?_) hMn
              (fun k en' obj h1 h2 h3 h4 => hM1 k en' obj h1 h2 (hno k en' obj h1 h2 h3) h4)
              (fun A hA => hM2 A fun k en' obj h1 h2 h3 h4 => hA k en' obj h1 h2 (.inl h3) h4)
              (fun k en' obj h1 h2 h3 _ => ?_) hR'
            · rw [← hpE e he]
              constructor
              · rintro (h | rfl)
                · exact h
                · rw [he] at hEi; rw [hk] at hEi; cases hEi
              · exact .inl
            · have hk3 := hentlt h1
              rw [hm'.st _ (by omega)]
              exact hM3 k en' obj h1 h2 h3
          -- a part of memory, and all of it
          have partOf : ∀ f : Nat → Bool, (∀ k, f k = true → listed.getD k false = true ∧ mat ops (es.take p) k = false) → ∀ A x, (addSel base f es 0 (memAt es Ml p)).get A = some x → M.get A = some x := by
            intro f hf A x hx
            by_cases hc : ∃ (k : Nat) (en' : Ent) (obj : AObj), es[k]? = some en' ∧ en'.cls = .a obj ∧ f k = true ∧ A = base + k
            · obtain ⟨k, en', obj, h1, h2, h3, rfl⟩ := hc
              have := addSel_in base f es 0 k en' obj (memAt es Ml p) h1 h2 (by rwa [Nat.zero_add])
              rw [Nat.zero_add] at this
              rw [this] at hx
              obtain rfl := Option.some.inj hx
              exact hM1 k en' obj h1 h2 (hf k h3).1 (hf k h3).2
            · rw [addSel_out] at hx
              · rw [hM2 A]
                · exact hx
                · rintro k en' obj h1 h2 h3 h4 rfl
                  rw [hfree h1 h2 hp hp0 h4] at hx; cases hx
              · rintro k en' obj h1 h2 h3 rfl
                rw [Nat.zero_add] at h3 hc
                exact hc ⟨k, en', obj, h1, h2, h3, rfl⟩
          unfold wpOp
          simp only [ho]
          rw [wanted_rel hE, hwant]
          cases hcls : en.cls with
          | n =>
            have hs2 := hstep.2
            rw [hcls] at hs2
            obtain ⟨hw, hv, _⟩ := hs2
            rw [hw]
            simp only [Bool.false_eq_true, if_false]
            exact still m undef w (by rw [hcls]; rfl) (fun obj e => by rw [hcls] at e; cases e) (LM.le_refl m) (by rw [hv]; exact .undef m) hR
          | p =>
            have hs2 := hstep.2
            rw [hcls] at hs2
            obtain ⟨hw, hkp, ⟨M1, hao⟩, _⟩ := hs2
            rw [hw]
            simp only [if_true]
            refine .inl ?_
            obtain ⟨v, h1, h2⟩ := kindP_indep hkp hao
            cases h1
            have hread : stepOp P (call i) rS o M = some (en.v, M) := by
              rw [hstepEq]; unfold stepOp; rw [h2]
            exact stepOp_wp (hC i) hE hR hread fun m' u w' k1 k2 k3 => still m' u w' (by rw [hcls]; rfl) (fun obj e => by rw [hcls] at e; cases e) k1 k2 k3
          | r =>
            have hs2 := hstep.2
            rw [hcls] at hs2
            obtain ⟨hw, hkr, _⟩ := hs2
            rw [hw]
            simp only [if_true]
            refine .inl ?_
            have h1 := hst i en hen
            simp only [hcls] at h1
            have hpl : p ∈ places? es := by
              unfold places?
              rw [List.mem_filter]
              refine ⟨List.mem_range.2 (by omega), ?_⟩
              rcases hp0 with h0 | h0
              · rw [beqT h0]; rfl
              · rw [h0]; simp
            have h2 := h1 p hpl
            have hcomp : compat ops es p i = true := by
              unfold compat
              rw [List.all_eq_true]
              rintro ⟨ene, e⟩ hme
              rw [List.mem_iff_getElem?] at hme
              obtain ⟨q, hq⟩ := hme
              rw [List.getElem?_zipIdx, Option.map_eq_some_iff] at hq
              obtain ⟨eq', hoq, hqe⟩ := hq
              simp only [Nat.zero_add, Prod.mk.injEq] at hqe
              obtain ⟨rfl, rfl⟩ := hqe
              simp only []
              cases hke : eq'.cls.isE with
              | false => rfl
              | true =>
                have hEq : eAt es q = true := eAt_iff.2 ⟨_, hoq, hke⟩
                simp only [Bool.not_true, Bool.false_or, Bool.and_eq_true, Bool.or_eq_true, Bool.not_eq_true']
                refine ⟨?_, ?_⟩
                · cases hv : ahead ops q i with
                  | false => exact .inl rfl
                  | true => exact .inr (blt_iff.2 ((hpE q hEq).1 (aIn q hv)))
                · cases hv : ahead ops i q with
                  | false => exact .inl rfl
                  | true =>
                    right
                    rcases Nat.lt_or_ge q p with h' | h'
                    · have := notAhead q ((hpE q hEq).2 h')
                      rw [this] at hv; cases hv
                    · exact Nat.ble_eq_true_of_le h'
            replace h2 := h2 hcomp
            simp only [hoeq] at h2
            have hread : stepOp P (call i) rS o M = some (en.v, M) := by
              rw [hstepEq]
              obtain ⟨M1, hao⟩ := h2
              have hmore := kindR_more hkr (partOf _ fun k hk => by
                unfold selB at hk
                simp only [Bool.and_eq_true, Bool.not_eq_true'] at hk
                exact ⟨aIn k hk.1, hk.2⟩) hao
              unfold stepOp
              rw [hmore]
            exact stepOp_wp (hC i) hE hR hread fun m' u w' k1 k2 k3 => still m' u w' (by rw [hcls]; rfl) (fun obj e => by rw [hcls] at e; cases e) k1 k2 k3
          | a obj =>
            have hs2 := hstep.2
            rw [hcls] at hs2
            obtain ⟨hw, _, _⟩ := hs2
            have hal := halloc hen hcls
            rw [hw]
            simp only [if_true]
            refine .inl ?_
            have halS : aAlloc P rS o (base + i) = some (en.v, obj) := by
              rw [← hoeq] at hlook ⊢
              rw [aAlloc_congr (eval_congr hlook)]; exact hal
            obtain ⟨u, o', L, k1, k2, k3, k4⟩ := aAlloc_sound hE hR halS
            have hmi : m (base + i) = none := hM3 i en obj hen hcls hr1
            have hsub := LM.sub_at (L := L) hmi
            obtain ⟨k5, k6⟩ := k4 (m.at (base + i) L) hsub (LM.at_self _ _ _)
            unfold Oper.wp
            rw [k1]
            show wpAny P .any ops Q fuel (listed.setIfInBounds i true) (a.put o.dst u) (w.alloc o')
            have hnm : mat ops (es.take p) i = false := by
              cases hv : mat ops (es.take p) i with
              | false => rfl
              | true => exact absurd (matIn p i rfl hv) hni
            refine next (m.at (base + i) L) u (w.alloc o') p (M.set (base + i) obj) ⟨hle.trans' hsub, hnx, fun A hA => by rw [LM.at_ne m L (by omega)]; exact hlo A hA⟩ ((hE.mono hsub).put k5 o.dst) hp hp0 (fun e he => ?_) hMn
              (fun k en' obj' h1 h2 h3 h4 => ?_) (fun A hA => ?_) (fun k en' obj' h1 h2 h3 h4 => ?_) ?_
            · rw [← hpE e he]
              constructor
              · rintro (h | rfl)
                · exact h
                · rw [he] at hEi; rw [hcls] at hEi; cases hEi
              · exact .inl
            · rw [Mem.get_set]
              by_cases hki : k = i
              · subst hki
                rw [hen] at h1
                obtain rfl := Option.some.inj h1
                rw [hcls] at h2
                cases h2
                rw [if_pos rfl]
              · rw [if_neg (by omega)]
                exact hM1 k en' obj' h1 h2 (h3.resolve_right hki) h4
            · rw [Mem.get_set, if_neg (hA i en obj hen hcls (.inr rfl) hnm)]
              exact hM2 A fun k en' obj' h1 h2 h3 h4 => hA k en' obj' h1 h2 (.inl h3) h4
            · rw [LM.at_ne m L (by omega)]
              exact hM3 k en' obj' h1 h2 h3
            · have hMnx := hR.nx
              exact hR.newAt (b := w.heap.size) (by omega) hmi (Agree.alloc _ w o') (Nat.le_refl _) (by omega) k6 rfl (fun B => Mem.get_set _ _ _ _)
          | e =>
            have hs2 := hstep.2
            rw [hcls] at hs2
            obtain ⟨hw, hke, hst2⟩ := hs2
            rw [hw]
            simp only [if_true]
            refine .inl ?_
            have hEt : eAt es i = true := by rw [hEi, hcls]; rfl
            have hpi : p ≤ i := by
              rcases Nat.lt_or_ge i p with h' | h'
              · exact absurd ((hpE i hEt).2 h') hni
              · exact h'
            have hrowi : ∀ e, eAt es e = true → e < i → ahead ops e i = true := by
              intro e he hlt'
              obtain ⟨ene, he1, he2⟩ := eAt_iff.1 he
              have h1 := zip_all hrow (i := i) (x := o) (by simpa using ho)
              simp only [] at h1
              rw [hke] at h1
              simp only [Bool.not_true, Bool.false_or] at h1
              have he3 : e < ops.size := by omega
              obtain ⟨ene', he4, hoe⟩ := hent e he3
              rw [he1] at he4
              obtain rfl := Option.some.inj he4
              have hse := (f4 e ene he1).2
              have hke2 : kindE P ene.o = true := by
                cases hce : ene.cls with
                | e => rw [hce] at hse; exact hse.2.1
                | _ => rw [hce] at he2; cases he2
              have h2 := zip_all h1 (i := e) (x := ene.o) (by simpa using hoe)
              simp only [] at h2
              rw [hke2, blt_iff.2 hlt'] at h2
              simpa using h2
            have hnoE : ∀ k, p ≤ k → k < i → eAt es k = false := by
              intro k h1 h2
              cases hv : eAt es k with
              | false => rfl
              | true => have := (hpE k hv).1 (aIn k (hrowi k hv h2)); omega
            have hmemP : memAt es Ml p = en.M := by
              rw [← hmemE hen]
              exact hconst i p hpi (by omega) hnoE
            have hmatP : ∀ k, mat ops (es.take p) k = mat ops (es.take i) k := by
              intro k
              rw [Bool.eq_iff_iff, mat_take, mat_take]
              constructor
              · rintro ⟨e, en', h1, h2⟩; exact ⟨e, en', by omega, h2⟩
              · rintro ⟨e, en', h1, h2, h3, h4⟩
                refine ⟨e, en', ?_, h2, h3, h4⟩
                rcases Nat.lt_or_ge e p with h' | h'
                · exact h'
                · have := hnoE e h' h1
                  rw [eAt_iff.2 ⟨en', h2, h3⟩] at this; cases this
            have hti : (es.take i).length = i := by rw [List.length_take]; omega
            rw [hti] at hst2
            -- the memory that it is shown
            let pre : Mem := addSel base (selB ops (es.take i) i) (es.take i) 0 en.M
            have hpreEq : ∀ A, pre.get A = (addSel base (fun k => ahead ops k i && !(mat ops (es.take p) k)) es 0 (memAt es Ml p)).get A := by
              intro A
              show (addSel base (selB ops (es.take i) i) (es.take i) 0 en.M).get A = _
              rw [hmemP]
              by_cases hc : ∃ (k : Nat) (en' : Ent) (obj : AObj), es[k]? = some en' ∧ en'.cls = .a obj ∧ (ahead ops k i && !(mat ops (es.take p) k)) = true ∧ A = base + k
              · obtain ⟨k, en', obj, h1, h2, h3, rfl⟩ := hc
                have h3a : ahead ops k i = true := by simp only [Bool.and_eq_true] at h3; exact h3.1
                have hki := haheadLt k i hlt h3a
                have e1 := addSel_in base (fun k => ahead ops k i && !(mat ops (es.take p) k)) es 0 k en' obj en.M h1 h2 (by simpa using h3)
                have e2 := addSel_in base (selB ops (es.take i) i) (es.take i) 0 k en' obj en.M (by rw [List.getElem?_take, if_pos hki]; exact h1) h2
                  (by rw [Nat.zero_add]; unfold selB; rw [← hmatP]; exact h3)
                rw [Nat.zero_add] at e1 e2
                rw [e1, e2]
              · rw [addSel_out, addSel_out]
                · rintro k en' obj h1 h2 h3 rfl
                  rw [Nat.zero_add] at h3 hc
                  exact hc ⟨k, en', obj, h1, h2, h3, rfl⟩
                · rintro k en' obj h1 h2 h3 rfl
                  rw [Nat.zero_add] at h3 hc
                  rw [List.getElem?_take] at h1
                  split at h1
                  · unfold selB at h3
                    rw [← hmatP] at h3
                    exact hc ⟨k, en', obj, h1, h2, h3, rfl⟩
                  · cases h1
            have hpn : pre.next = M.next := by
              show (addSel base (selB ops (es.take i) i) (es.take i) 0 en.M).next = M.next
              rw [addSel_next, hMn, hmemP]
            have hps : ∀ A x, pre.get A = some x → M.get A = some x := by
              intro A x hx
              rw [hpreEq] at hx
              refine partOf _ (fun k hk => ?_) A x hx
              simp only [Bool.and_eq_true, Bool.not_eq_true'] at hk
              exact ⟨aIn k hk.1, hk.2⟩
            have hst3 : stepOp P (call i) rS o pre = some (en.v, memAt es Ml (i + 1)) := by rw [hstepEq]; exact hst2
            have hplace : i + 1 ≤ ops.size := by omega
            have hplace0 : i + 1 = 0 ∨ eAt es (i + 1 - 1) = true := .inr (by simpa using hEt)
            have matMore : ∀ k, mat ops (es.take (i + 1)) k = true ↔ (mat ops (es.take p) k = true ∨ ahead ops k i = true) := by
              intro k
              rw [mat_take, hmatP, mat_take]
              constructor
              · rintro ⟨e, en', h1, h2, h3, h4⟩
                by_cases hei : e = i
                · subst hei; exact .inr h4
                · exact .inl ⟨e, en', by omega, h2, h3, h4⟩
              · rintro (⟨e, en', h1, h2, h3, h4⟩ | h4)
                · exact ⟨e, en', by omega, h2, h3, h4⟩
                · exact ⟨i, en, by omega, hen, by rw [hcls]; rfl, h4⟩
            -- who is left out
            have hidden : ∀ A x, M.get A = some x → pre.get A = none → ∃ (k : Nat) (en' : Ent), es[k]? = some en' ∧ en'.cls = .a x ∧ listed.getD k false = true ∧ mat ops (es.take (i + 1)) k = false ∧ A = base + k := by
              intro A x hx hn
              by_cases hc : ∃ (k : Nat) (en' : Ent) (obj : AObj), es[k]? = some en' ∧ en'.cls = .a obj ∧ listed.getD k false = true ∧ mat ops (es.take p) k = false ∧ A = base + k
              · obtain ⟨k, en', obj, h1, h2, h3, h4, rfl⟩ := hc
                rw [hM1 k en' obj h1 h2 h3 h4] at hx
                obtain rfl := Option.some.inj hx
                refine ⟨k, en', h1, h2, h3, ?_, rfl⟩
                cases hv : mat ops (es.take (i + 1)) k with
                | false => rfl
                | true =>
                  exfalso
                  rcases (matMore k).1 hv with h5 | h5
                  · rw [h4] at h5; cases h5
                  · rw [hpreEq] at hn
                    have := addSel_in base (fun k => ahead ops k i && !(mat ops (es.take p) k)) es 0 k en' obj (memAt es Ml p) h1 h2 (by simp [h5, h4])
                    rw [Nat.zero_add] at this
                    rw [this] at hn; cases hn
              · exfalso
                rw [hM2 A] at hx
                · rw [hpreEq, addSel_out] at hn
                  · rw [hx] at hn; cases hn
                  · rintro k en' obj h1 h2 h3 rfl
                    rw [Nat.zero_add] at h3 hc
                    simp only [Bool.and_eq_true, Bool.not_eq_true'] at h3
                    exact hc ⟨k, en', obj, h1, h2, aIn k h3.1, h3.2, rfl⟩
                · rintro k en' obj h1 h2 h3 h4 rfl
                  exact hc ⟨k, en', obj, h1, h2, h3, h4, rfl⟩
            refine stepOp_wp (hC i) hE (hR.hide hpn hps) hst3 fun m' u w' k1 k2 k3 => ?_
            let M2 : Mem := addSel base (fun k => listed.getD k false && !(mat ops (es.take (i + 1)) k)) es 0 (memAt es Ml (i + 1))
            have hM2in : ∀ (k : Nat) (en' : Ent) (obj : AObj), es[k]? = some en' → en'.cls = .a obj → listed.getD k false = true → mat ops (es.take (i + 1)) k = false → M2.get (base + k) = some obj := by
              intro k en' obj h1 h2 h3 h4
              have := addSel_in base (fun k => listed.getD k false && !(mat ops (es.take (i + 1)) k)) es 0 k en' obj (memAt es Ml (i + 1)) h1 h2 (by simp only [Nat.zero_add]; rw [h3, h4]; rfl)
              rw [Nat.zero_add] at this
              exact this
            have hM2out : ∀ A, (∀ (k : Nat) (en' : Ent) (obj : AObj), es[k]? = some en' → en'.cls = .a obj → listed.getD k false = true → mat ops (es.take (i + 1)) k = false → A ≠ base + k) → M2.get A = (memAt es Ml (i + 1)).get A := by
              intro A hA
              refine addSel_out _ _ _ _ _ _ fun k en' obj h1 h2 h3 => ?_
              rw [Nat.zero_add] at h3 ⊢
              simp only [Bool.and_eq_true, Bool.not_eq_true'] at h3
              exact hA k en' obj h1 h2 h3.1 h3.2
            have hback : Rl N0 w0 m' M2 w' := by
              refine hR.unhide (M' := pre) (fun A x hx hn => ?_) k1 k3 (addSel_next _ _ _ _ _) (fun A x hx hn => ?_) (fun A hA => hM2out A fun k en' obj h1 h2 h3 h4 e => ?_)
              · obtain ⟨k, en', h1, h2, _⟩ := hidden A x hx hn
                exact hrw h1 h2
              · obtain ⟨k, en', h1, h2, h3, h4, rfl⟩ := hidden A x hx hn
                exact ⟨hfree h1 h2 hplace hplace0 h4, hM2in k en' x h1 h2 h3 h4⟩
              · subst e
                have h5 : mat ops (es.take p) k = false := by
                  cases hv : mat ops (es.take p) k with
                  | false => rfl
                  | true => rw [(matMore k).2 (.inl hv)] at h4; cases h4
                refine hA obj (hM1 k en' obj h1 h2 h3 h5) ?_
                rw [hpreEq, addSel_out]
                · exact hfree h1 h2 hp hp0 h5
                · intro k' en2 obj2 g1 g2 g3 g4
                  rw [Nat.zero_add] at g3 g4
                  have : k' = k := by omega
                  subst this
                  simp only [Bool.and_eq_true] at g3
                  rw [(matMore k').2 (.inr g3.1)] at h4; cases h4
            have hnoi : ∀ (k : Nat) (en' : Ent) (obj : AObj), es[k]? = some en' → en'.cls = .a obj → (listed.getD k false = true ∨ k = i) → listed.getD k false = true := by
              rintro k en' obj h1 h2 (h3 | rfl)
              · exact h3
              · rw [hen] at h1; obtain rfl := Option.some.inj h1; rw [hcls] at h2; cases h2
            refine next m' u w' (i + 1) M2 ⟨hle.trans' k1.sub, Nat.le_trans hnx k1.nx, fun A hA => (k1.st A (by omega)).trans (hlo A hA)⟩ ((hE.mono k1.sub).put k2 o.dst) hplace hplace0 (fun e he => ?_) (addSel_next _ _ _ _ _)
              (fun k en' obj h1 h2 h3 h4 => hM2in k en' obj h1 h2 (hnoi k en' obj h1 h2 h3) h4)
              (fun A hA => hM2out A fun k en' obj h1 h2 h3 h4 => hA k en' obj h1 h2 (.inl h3) h4)
              (fun k en' obj h1 h2 h3 _ => ?_) hback
            · constructor
              · rintro (h | rfl)
                · have := (hpE e he).1 h; omega
                · omega
              · intro h
                rcases Nat.lt_or_ge e i with h' | h'
                · exact .inl (aIn e (hrowi e he h'))
                · exact .inr (by omega)
            · have hk3 := hentlt h1
              rw [k1.st _ (by omega)]
              exact hM3 k en' obj h1 h2 h3
        refine ⟨fun hnil => ?_, round⟩
        -- nothing is ready: all is done
        refine fin listed m a w hI0 fun k => ?_
        induction k using Nat.strongRecOn with
        | _ k ihk =>
          intro hk
          cases hv : listed.getD k false with
          | true => rfl
          | false =>
            exfalso
            have hok : ops[k]? = some ops[k] := Array.getElem?_eq_getElem hk
            have : k ∈ Region.ready .any ops listed := mem_ready.2 ⟨by rw [getD_same (by omega)]; exact hv, _, hok, fun e he hb => ihk e.on (hlowE hok e he hb) (by have := hlowE hok e he hb; omega)⟩
            rw [hnil] at this
            cases this
    have hRb := (hR.same (b := w.heap.size) (Agree.drew _ w) (Nat.le_refl _)).bump ops.size
    rw [hbase] at hRb
    have hsub0 : m0.sub ⟨m0.f, m0.next + ops.size, m0.bot⟩ := ⟨fun _ _ h => h, rfl⟩
    have hE0 : ERel ⟨m0.f, m0.next + ops.size, m0.bot⟩ r0 a := ERel.mono hsub0 hE
    refine main ops.size _ ⟨m0.f, m0.next + ops.size, m0.bot⟩ a _ ⟨by simp, ?_, ⟨⟨fun _ _ h => h, rfl⟩, by show base + ops.size ≤ m0.next + ops.size; omega, fun _ _ => rfl⟩, r0, 0, _, ?_, hE0, Nat.zero_le _, .inl rfl, ?_, ?_, ?_, ?_, ?_, hRb⟩ ?_
    · intro j o hj
      have hj2 : (Array.replicate ops.size false).getD j false = true := hj
      rw [rep_false] at hj2; cases hj2
    · refine ⟨rfl, fun _ _ => rfl, fun i t hi => ?_⟩
      have hi2 : (Array.replicate ops.size false).getD i false = true := hi
      rw [rep_false] at hi2; cases hi2
    · intro e _
      constructor
      · intro h; rw [rep_false] at h; cases h
      · intro h; omega
    · rw [f3]
    · intro i en obj _ _ h; rw [rep_false] at h; cases h
    · intro A _; rw [f3]
    · intro i en obj h1 h2 _
      exact (hR.fresh (base + i) (by omega)).2
    · have := List.length_filter_le (fun k => !(Array.replicate ops.size false).getD k false) (List.range ops.size)
      simpa using this

theorem drawA_ok (hm : P.follows .mixedOrders = true) (hC : ∀ j, CallsOk P (call j)) {id : Nat} {r0 r' : Env} {M0 M' : Mem} (h : drawA P call ops r0 M0 = some (r', M')) :
    CodeOk P (.region id ops true) r0 M0 .normal r' M' := by
  unfold drawA at h
  replace h := gd_some h; obtain ⟨hg, h⟩ := h
  split at h
  · rename_i es rf Ml hgo
    replace h := gd_some h; obtain ⟨hst, h⟩ := h
    simp only [Option.some.injEq, Prod.mk.injEq] at h
    obtain ⟨rfl, rfl⟩ := h
    exact drawP_ok hm hC hg hgo (SteadyP.of hst)
  · cases h
end

end Go.Ab
