/- A region whose order is drawn, in open proofs: the proof. -/
import Derived.Test.YtgffnmnkoohgkaaAbE
set_option linter.unusedSimpArgs false
set_option linter.unusedVariables false
namespace Go.Ab
section
variable {P : Program} {ops : Array Oper} {base : Nat} {ue ua : List (Nat × Nat)}

def clsOk (P : Program) (en : Ent) : Prop :=
  match en.cls with
  | .n | .p => True
  | .r => kdOf P en.o.op = .r
  | .a _ => kdOf P en.o.op = .a
  | .e => kdOf P en.o.op = .e

structure Inv (P : Program) (ops : Array Oper) (base : Nat) (ue ua : List (Nat × Nat)) (acc : List Ent) (rs : List (Nat × Option Nat × Mem)) (ms : List (Nat × Mem)) (Mm M : Mem) : Prop where
  size : acc.length ≤ ops.size
  os : ∀ (j : Nat) (en : Ent), acc[j]? = some en → ops[j]? = some en.o
  full : M = addSel base (fun i => !(mat ops acc i)) acc 0 Mm
  sp : SteadyP P ops base acc Mm
  cls : ∀ (j : Nat) (en : Ent), acc[j]? = some en → clsOk P en
  rs : ∀ (j : Nat) (en : Ent), acc[j]? = some en → en.cls = .r → ∃ Mj, (j, rdep en.r en.o.op, Mj) ∈ rs ∧ aOp P en.r en.o Mj = some (.val en.v Mj)
  ms : ∀ (e : Nat) (en : Ent), acc[e]? = some en → en.cls = .e → ∃ Me, (e, Me) ∈ ms ∧ Me = addSel base (fun i => !(mat ops (acc.take e) i)) (acc.take e) 0 en.M
  mem : ∀ (j : Nat) (en : Ent), acc[j]? = some en → en.cls ≠ .e → memAt acc Mm (j + 1) = en.M

theorem isE_iff {c : Cls} : c.isE = true ↔ c = .e := by cases c <;> simp [Cls.isE]
theorem memAt_end (acc : List Ent) (Mm : Mem) : memAt acc Mm acc.length = Mm := by simp [memAt]
theorem lt_of_some {acc : List Ent} {j : Nat} {en : Ent} (h : acc[j]? = some en) : j < acc.length := (List.getElem?_eq_some_iff.1 h).1

theorem Inv.run {acc : List Ent} {rs : List (Nat × Option Nat × Mem)} {ms : List (Nat × Mem)} {Mm M : Mem} (h : Inv P ops base ue ua acc rs ms Mm M) : ∀ (k p : Nat), p + k = acc.length →
    (∃ e en1, p ≤ e ∧ acc[e]? = some en1 ∧ en1.cls = .e ∧ (∀ q, p ≤ q → q < e → eAt acc q = false) ∧ memAt acc Mm p = en1.M) ∨ ((∀ q, p ≤ q → eAt acc q = false) ∧ memAt acc Mm p = Mm)
  | 0, p, hp => by
    refine .inr ⟨fun q hq => ?_, ?_⟩
    · unfold eAt
      rw [List.getElem?_eq_none (by omega)]
    · rw [show p = acc.length by omega]; exact memAt_end _ _
  | k + 1, p, hp => by
    have hlt : p < acc.length := by omega
    have hen : acc[p]? = some acc[p] := List.getElem?_eq_getElem hlt
    by_cases hc : acc[p].cls = .e
    · exact .inl ⟨p, acc[p], Nat.le_refl _, hen, hc, fun q h1 h2 => by omega, by simp only [memAt, hen]⟩
    · have he : eAt acc p = false := by
        unfold eAt
        rw [hen]
        show acc[p].cls.isE = false
        cases hv : acc[p].cls.isE with
        | false => rfl
        | true => exact absurd (isE_iff.1 hv) hc
      have hm : memAt acc Mm p = memAt acc Mm (p + 1) := by rw [h.mem p _ hen hc]; simp only [memAt, hen]
      rcases h.run k (p + 1) (by omega) with ⟨e, en1, h1, h2, h3, h4, h5⟩ | ⟨h4, h5⟩
      · refine .inl ⟨e, en1, by omega, h2, h3, fun q hq1 hq2 => ?_, hm.trans h5⟩
        by_cases hqp : q = p
        · subst hqp; exact he
        · exact h4 q (by omega) hq2
      · refine .inr ⟨fun q hq => ?_, hm.trans h5⟩
        by_cases hqp : q = p
        · subst hqp; exact he
        · exact h4 q (by omega)

theorem mat_mono {acc : List Ent} {p q i : Nat} (hpq : p ≤ q) (h : mat ops (acc.take p) i = true) : mat ops (acc.take q) i = true := by
  rw [mat_take] at h ⊢
  obtain ⟨e, en, h1, h2⟩ := h
  exact ⟨e, en, by omega, h2⟩
theorem mat_all {acc : List Ent} {p i : Nat} (h : mat ops (acc.take p) i = true) : mat ops acc i = true := by
  rw [mat_take] at h
  rw [mat_iff]
  obtain ⟨e, en, h1, h2⟩ := h
  exact ⟨e, en, h2⟩

/-- What a reading operation reads at place p. -/
theorem Inv.read (hlow : lowEdges ops = true) (ht : tabOk P ops ue ua = true) {acc : List Ent} {rs : List (Nat × Option Nat × Mem)} {ms : List (Nat × Mem)} {Mm M : Mem} (h : Inv P ops base ue ua acc rs ms Mm M)
    {o : Oper} {d : Option Nat} (ho : ops[acc.length]? = some o) (hk : kdOf P o.op = .r) (hr : RdOk ue ua base acc.length d ms M) {p : Nat} (hp : p ≤ acc.length)
    (hE : ∀ (e : Nat) (en : Ent), acc[e]? = some en → en.cls = .e → p ≤ e → ahead ops e acc.length = false) {A : Nat} (hA : d = some A) :
    (addSel base (selB ops (acc.take p) acc.length) acc 0 (memAt acc Mm p)).get A = M.get A := by
  have hjs : acc.length < ops.size := (Array.getElem?_eq_some_iff.1 ho).1
  have hue : ∀ (e : Nat) (en : Ent), acc[e]? = some en → en.cls = .e → p ≤ e → (acc.length, e) ∈ ue := by
    intro e en he hc hpe
    have hke := h.cls e en he
    unfold clsOk at hke
    rw [hc] at hke
    rcases tab_re ht ho (h.os e en he) hk hke with h1 | h1 | h1
    · rw [hE e en he hc hpe] at h1; cases h1
    · have := ahead_lt hlow (Nat.lt_of_lt_of_le (lt_of_some he) h.size) h1
      have := lt_of_some he
      omega
    · exact h1
  have hrun := h.run (acc.length - p) p (by omega)
  by_cases hc : ∃ (i : Nat) (en : Ent) (obj : AObj), acc[i]? = some en ∧ en.cls = .a obj ∧ A = base + i
  · obtain ⟨i, en, obj, hi, hci, rfl⟩ := hc
    have hij := lt_of_some hi
    have hka := h.cls i en hi
    unfold clsOk at hka
    rw [hci] at hka
    have hai : ahead ops i acc.length = true := by
      rcases tab_ra ht ho (h.os i en hi) hk hka hij with h1 | h1
      · exact h1
      · exact absurd rfl (hr.2 _ h1 rfl _ hA)
    rcases hrun with ⟨e, en1, h1, h2, h3, h4, h5⟩ | ⟨h4, h5⟩
    · obtain ⟨Me, k1, k2⟩ := h.ms e en1 h2 h3
      have k3 := hr.1 _ k1 (hue e en1 h2 h3 h1) _ hA
      rw [← k3, k2, h5]
      have hke := h.cls e en1 h2
      unfold clsOk at hke
      rw [h3] at hke
      have hEe := hE e en1 h2 h3 h1
      by_cases hm : mat ops (acc.take p) i = true
      · rw [addSel_out, addSel_out]
        · intro k en' obj' _ _ hf hid
          rw [Nat.zero_add] at hf hid
          have : k = i := by omega
          subst this
          rw [mat_mono h1 hm] at hf; cases hf
        · intro k en' obj' _ _ hf hid
          rw [Nat.zero_add] at hf hid
          have : k = i := by omega
          subst this
          unfold selB at hf
          rw [hm] at hf
          simp at hf
      · have hm' : mat ops (acc.take p) i = false := by simpa using hm
        have e1 := addSel_in base (selB ops (acc.take p) acc.length) acc 0 i en obj en1.M hi hci (by rw [Nat.zero_add]; unfold selB; rw [hai, hm']; rfl)
        rw [Nat.zero_add] at e1
        rw [e1]
        have hae : ahead ops i e = true := by
          rcases tab_ae ht (h.os i en hi) (h.os e en1 h2) hka hke with h6 | h6
          · have := ahead_trans hlow acc.length i e hjs h6 hai
            rw [hEe] at this; cases this
          · exact h6
        have hie := ahead_lt hlow (Nat.lt_of_lt_of_le (lt_of_some h2) h.size) hae
        have hme : mat ops (acc.take e) i = false := by
          cases hv : mat ops (acc.take e) i with
          | false => rfl
          | true =>
            rw [mat_take] at hv
            obtain ⟨e', en', g1, g2, g3, g4⟩ := hv
            rcases Nat.lt_or_ge e' p with g5 | g5
            · exact absurd (mat_take.2 ⟨e', en', g5, g2, g3, g4⟩) hm
            · have := h4 e' g5 g1
              rw [eAt_iff.2 ⟨en', g2, g3⟩] at this; cases this
        have e2 := addSel_in base (fun i => !(mat ops (acc.take e) i)) (acc.take e) 0 i en obj en1.M (by rw [List.getElem?_take, if_pos hie]; exact hi) hci (by rw [Nat.zero_add, hme]; rfl)
        rw [Nat.zero_add] at e2
        rw [e2]
    · have hmm : mat ops (acc.take p) i = mat ops acc i := by
        rw [Bool.eq_iff_iff]
        refine ⟨mat_all, fun hv => ?_⟩
        rw [mat_iff] at hv
        obtain ⟨e', en', g2, g3, g4⟩ := hv
        rcases Nat.lt_or_ge e' p with g5 | g5
        · exact mat_take.2 ⟨e', en', g5, g2, g3, g4⟩
        · have := h4 e' g5
          rw [eAt_iff.2 ⟨en', g2, g3⟩] at this; cases this
      rw [h5, h.full]
      cases hv : mat ops acc i with
      | true =>
        rw [addSel_out, addSel_out]
        · intro k en' obj' _ _ hf hid
          rw [Nat.zero_add] at hf hid
          have : k = i := by omega
          subst this
          rw [hv] at hf; cases hf
        · intro k en' obj' _ _ hf hid
          rw [Nat.zero_add] at hf hid
          have : k = i := by omega
          subst this
          unfold selB at hf
          rw [hmm, hv] at hf
          simp at hf
      | false =>
        have e1 := addSel_in base (selB ops (acc.take p) acc.length) acc 0 i en obj Mm hi hci (by rw [Nat.zero_add]; unfold selB; rw [hai, hmm, hv]; rfl)
        have e2 := addSel_in base (fun i => !(mat ops acc i)) acc 0 i en obj Mm hi hci (by rw [Nat.zero_add, hv]; rfl)
        rw [Nat.zero_add] at e1 e2
        rw [e1, e2]
  · have hout : ∀ (f : Nat → Bool) (l : List Ent) (N : Mem), (∀ (k : Nat) (en : Ent), l[k]? = some en → acc[k]? = some en) → (addSel base f l 0 N).get A = N.get A := by
      intro f l N hl
      refine addSel_out base f A l 0 N ?_
      intro k en' obj' g1 g2 _ hid
      rw [Nat.zero_add] at hid
      exact hc ⟨k, en', obj', hl k en' g1, g2, hid⟩
    rw [hout _ _ _ fun _ _ g => g]
    rcases hrun with ⟨e, en1, h1, h2, h3, h4, h5⟩ | ⟨h4, h5⟩
    · obtain ⟨Me, k1, k2⟩ := h.ms e en1 h2 h3
      have k3 := hr.1 _ k1 (hue e en1 h2 h3 h1) _ hA
      rw [← k3, k2, h5, hout _ _ _ fun k en' g => ?_]
      rw [List.getElem?_take] at g
      split at g
      · exact g
      · cases g
    · rw [h5, h.full, hout _ _ _ fun _ _ g => g]

theorem get_snoc {acc : List Ent} {en e' : Ent} {k : Nat} (h : (acc ++ [en])[k]? = some e') : (k < acc.length ∧ acc[k]? = some e') ∨ (k = acc.length ∧ e' = en) := by
  rw [List.getElem?_append] at h
  split at h
  · rename_i hk; exact .inl ⟨hk, h⟩
  · rename_i hk
    have : k - acc.length < [en].length := (List.getElem?_eq_some_iff.1 h).1
    have hk2 : k = acc.length := by simp at this; omega
    subst hk2
    simp at h
    exact .inr ⟨rfl, h.symm⟩
theorem get_old {acc : List Ent} {en e' : Ent} {k : Nat} (h : acc[k]? = some e') : (acc ++ [en])[k]? = some e' := by
  rw [List.getElem?_append, if_pos (lt_of_some h)]; exact h

theorem memAt_snoc {acc : List Ent} {en : Ent} {Mm Mm' : Mem} (hM : en.M = Mm) {p : Nat} (hp : p ≤ acc.length) : memAt (acc ++ [en]) Mm' p = memAt acc Mm p := by
  unfold memAt
  by_cases h : p < acc.length
  · rw [List.getElem?_append, if_pos h, List.getElem?_eq_getElem h]
  · have : p = acc.length := by omega
    subst this
    simp [hM]
theorem take_snoc {acc : List Ent} {en : Ent} {p : Nat} (hp : p ≤ acc.length) : (acc ++ [en]).take p = acc.take p := by
  rw [List.take_append_of_le_length hp]
theorem eAt_snoc {acc : List Ent} {en : Ent} {p : Nat} (hp : p < acc.length) : eAt (acc ++ [en]) p = eAt acc p := by
  unfold eAt
  rw [List.getElem?_append, if_pos hp]
theorem places_snoc {acc : List Ent} {en : Ent} {p : Nat} (h : p ∈ places? (acc ++ [en])) : (p ≤ acc.length ∧ p ∈ places? acc) ∨ (p = acc.length + 1 ∧ en.cls = .e) := by
  unfold places? at h ⊢
  rw [List.mem_filter, List.mem_range] at h
  obtain ⟨h1, h2⟩ := h
  simp only [List.length_append, List.length_cons, List.length_nil, Nat.zero_add] at h1
  by_cases hp : p = acc.length + 1
  · subst hp
    right
    refine ⟨rfl, ?_⟩
    rw [beqF (by omega)] at h2
    simp [eAt] at h2
    exact isE_iff.1 h2
  · left
    refine ⟨by omega, ?_⟩
    rw [List.mem_filter, List.mem_range]
    refine ⟨by omega, ?_⟩
    by_cases h0 : p = 0
    · subst h0; rfl
    · rw [beqF h0] at h2 ⊢
      rw [eAt_snoc (by omega)] at h2
      exact h2
theorem compat_snoc {acc : List Ent} {en : Ent} {p j : Nat} (h : compat ops (acc ++ [en]) p j = true) : compat ops acc p j = true := by
  unfold compat at h ⊢
  rw [List.all_eq_true] at h ⊢
  intro x hx
  refine h x ?_
  rw [List.zipIdx_append]
  exact List.mem_append_left _ hx
theorem compat_at {acc : List Ent} {en : Ent} {p j e : Nat} (h : compat ops acc p j = true) (he : acc[e]? = some en) (hc : en.cls = .e) : (ahead ops e j = true → e < p) ∧ (ahead ops j e = true → p ≤ e) := by
  unfold compat at h
  have := zip_all h (i := e) (x := en) he
  simp only [hc, Cls.isE, Bool.not_true, Bool.false_or, Bool.and_eq_true, Bool.or_eq_true, Bool.not_eq_true'] at this
  refine ⟨fun h1 => ?_, fun h1 => ?_⟩
  · rcases this.1 with h2 | h2
    · rw [h1] at h2; cases h2
    · exact blt_iff.1 h2
  · rcases this.2 with h2 | h2
    · rw [h1] at h2; cases h2
    · exact Nat.le_of_ble_eq_true h2
theorem mat_snoc {acc : List Ent} {en : Ent} (hc : en.cls ≠ .e) (i : Nat) : mat ops (acc ++ [en]) i = mat ops acc i := by
  rw [Bool.eq_iff_iff, mat_iff, mat_iff]
  constructor
  · rintro ⟨e, en', h1, h2, h3⟩
    rcases get_snoc h1 with ⟨_, h4⟩ | ⟨_, rfl⟩
    · exact ⟨e, en', h4, h2, h3⟩
    · exact absurd (isE_iff.1 h2) hc
  · rintro ⟨e, en', h1, h2, h3⟩
    exact ⟨e, en', get_old h1, h2, h3⟩

/-- Old facts on reading and new blocks, one entry later. -/
theorem Inv.old (hlow : lowEdges ops = true) (ht : tabOk P ops ue ua = true) {acc : List Ent} {rs : List (Nat × Option Nat × Mem)} {ms : List (Nat × Mem)} {Mm M Mm' : Mem} (h : Inv P ops base ue ua acc rs ms Mm M)
    {en : Ent} (ho : ops[acc.length]? = some en.o) (hM : en.M = Mm) (hcl : clsOk P en) (hac : en.cls = .e → AcOk ue acc.length rs Mm')
    {j : Nat} {e' : Ent} (hj : acc[j]? = some e') :
    match e'.cls with
    | .r => ∀ p ∈ places? (acc ++ [en]), compat ops (acc ++ [en]) p j = true → ∃ M1, aOp P e'.r e'.o (addSel base (selB ops ((acc ++ [en]).take p) j) (acc ++ [en]) 0 (memAt (acc ++ [en]) Mm' p)) = some (.val e'.v M1)
    | .a _ => ∀ p ∈ places? (acc ++ [en]), mat ops ((acc ++ [en]).take p) j = true ∨ (memAt (acc ++ [en]) Mm' p).get (base + j) = none
    | _ => True := by
  have hjl := lt_of_some hj
  have hsz : acc.length < ops.size := (Array.getElem?_eq_some_iff.1 ho).1
  have hnb : ∀ k, k ≤ acc.length → ahead ops acc.length k = false := by
    intro k hk
    cases hv : ahead ops acc.length k with
    | false => rfl
    | true => have := ahead_lt hlow (Nat.lt_of_le_of_lt hk hsz) hv; omega
  have hsp := h.sp j e' hj
  cases hc : e'.cls with
  | n => trivial
  | p => trivial
  | e => trivial
  | r =>
    rw [hc] at hsp
    simp only at hsp ⊢
    intro p hp hcm
    rcases places_snoc hp with ⟨hpl, hp'⟩ | ⟨rfl, hce⟩
    · obtain ⟨M1, h1⟩ := hsp p hp' (compat_snoc hcm)
      refine ⟨M1, ?_⟩
      rw [take_snoc hpl, memAt_snoc hM hpl, addSel_snoc]
      simp only [Nat.zero_add, addSel]
      have : selB ops (acc.take p) j acc.length = false := by unfold selB; rw [hnb j (by omega)]; rfl
      rw [this]
      cases en.cls <;> exact h1
    · have hke := hcl
      unfold clsOk at hke
      rw [hce] at hke
      have hkj := h.cls j e' hj
      unfold clsOk at hkj
      rw [hc] at hkj
      have hcc := compat_at hcm (get_snoc_last acc en) hce
      have huej : (j, acc.length) ∈ ue := by
        rcases tab_re ht (h.os j e' hj) ho hkj hke with h1 | h1 | h1
        · rw [hnb j (by omega)] at h1; cases h1
        · have := hcc.2 h1; omega
        · exact h1
      obtain ⟨Mj, k1, k2⟩ := h.rs j e' hj hc
      have hkr : kindR P e'.o.op = true := by
        unfold kdOf at hkj
        cases h1 : kindP e'.o.op with
        | true => rw [h1] at hkj; cases hkj
        | false =>
          rw [h1] at hkj
          cases h2 : kindR P e'.o.op with
          | true => rfl
          | false =>
            rw [h2] at hkj
            cases h3 : kindA e'.o.op <;> rw [h3] at hkj <;> cases hkj
      have hend : memAt (acc ++ [en]) Mm' (acc.length + 1) = Mm' := by
        have := memAt_end (acc ++ [en]) Mm'
        simpa using this
      refine ⟨_, kindR_local hkr k2 fun A hA => ?_⟩
      rw [hend, addSel_none]
      · exact hac hce _ k1 huej A hA
      · intro k e2 obj g1 g2
        rw [Nat.zero_add]
        unfold selB
        have hk' : k < acc.length := by
          rcases get_snoc g1 with ⟨hk, _⟩ | ⟨_, rfl⟩
          · exact hk
          · rw [hce] at g2; cases g2
        have g3 : acc[k]? = some e2 := by
          rcases get_snoc g1 with ⟨_, g⟩ | ⟨_, rfl⟩
          · exact g
          · rw [hce] at g2; cases g2
        have hkk := h.cls k e2 g3
        unfold clsOk at hkk
        rw [g2] at hkk
        have hak : ahead ops k acc.length = true := by
          rcases tab_ae ht (h.os k e2 g3) ho hkk hke with h1 | h1
          · rw [hnb k (by omega)] at h1; cases h1
          · exact h1
        have : mat ops ((acc ++ [en]).take (acc.length + 1)) k = true := mat_take.2 ⟨acc.length, en, by omega, get_snoc_last acc en, isE_iff.2 hce, hak⟩
        rw [this]; simp
  | a obj =>
    rw [hc] at hsp
    simp only at hsp ⊢
    intro p hp
    rcases places_snoc hp with ⟨hpl, hp'⟩ | ⟨rfl, hce⟩
    · rw [take_snoc hpl, memAt_snoc hM hpl]
      exact hsp p hp'
    · left
      have hke := hcl
      unfold clsOk at hke
      rw [hce] at hke
      have hkj := h.cls j e' hj
      unfold clsOk at hkj
      rw [hc] at hkj
      have hak : ahead ops j acc.length = true := by
        rcases tab_ae ht (h.os j e' hj) ho hkj hke with h1 | h1
        · rw [hnb j (by omega)] at h1; cases h1
        · exact h1
      exact mat_take.2 ⟨acc.length, en, by omega, get_snoc_last acc en, isE_iff.2 hce, hak⟩
where
  get_snoc_last (acc : List Ent) (en : Ent) : (acc ++ [en])[acc.length]? = some en := by simp

theorem last_at (acc : List Ent) (en : Ent) : (acc ++ [en])[acc.length]? = some en := by simp

/-- One entry more. -/
theorem Inv.step (hlow : lowEdges ops = true) (ht : tabOk P ops ue ua = true) {acc : List Ent} {rs rs' : List (Nat × Option Nat × Mem)} {ms ms' : List (Nat × Mem)} {Mm M Mm' M' : Mem} (h : Inv P ops base ue ua acc rs ms Mm M)
    {en : Ent} (ho : ops[acc.length]? = some en.o) (hM : en.M = Mm) (hcl : clsOk P en) (hac : en.cls = .e → AcOk ue acc.length rs Mm') (hMm : en.cls ≠ .e → Mm' = Mm)
    (hfull : M' = addSel base (fun i => !(mat ops (acc ++ [en]) i)) (acc ++ [en]) 0 Mm')
    (hrs : ∀ x ∈ rs, x ∈ rs') (hms : ∀ x ∈ ms, x ∈ ms')
    (hr : en.cls = .r → ∃ Mj, (acc.length, rdep en.r en.o.op, Mj) ∈ rs' ∧ aOp P en.r en.o Mj = some (.val en.v Mj))
    (he : en.cls = .e → ∃ Me, (acc.length, Me) ∈ ms' ∧ Me = addSel base (fun i => !(mat ops acc i)) acc 0 en.M)
    (hnew : match en.cls with
      | .r => ∀ p ∈ places? (acc ++ [en]), compat ops (acc ++ [en]) p acc.length = true → ∃ M1, aOp P en.r en.o (addSel base (selB ops ((acc ++ [en]).take p) acc.length) (acc ++ [en]) 0 (memAt (acc ++ [en]) Mm' p)) = some (.val en.v M1)
      | .a _ => ∀ p ∈ places? (acc ++ [en]), mat ops ((acc ++ [en]).take p) acc.length = true ∨ (memAt (acc ++ [en]) Mm' p).get (base + acc.length) = none
      | _ => True) :
    Inv P ops base ue ua (acc ++ [en]) rs' ms' Mm' M' := by
  have hsz : acc.length < ops.size := (Array.getElem?_eq_some_iff.1 ho).1
  refine ⟨by simp; omega, ?_, hfull, ?_, ?_, ?_, ?_, ?_⟩
  · intro j e' hj
    rcases get_snoc hj with ⟨_, h1⟩ | ⟨rfl, rfl⟩
    · exact h.os j e' h1
    · exact ho
  · intro j e' hj
    rcases get_snoc hj with ⟨_, h1⟩ | ⟨rfl, rfl⟩
    · exact h.old hlow ht ho hM hcl hac h1
    · exact hnew
  · intro j e' hj
    rcases get_snoc hj with ⟨_, h1⟩ | ⟨rfl, rfl⟩
    · exact h.cls j e' h1
    · exact hcl
  · intro j e' hj hc
    rcases get_snoc hj with ⟨_, h1⟩ | ⟨rfl, rfl⟩
    · obtain ⟨Mj, k1, k2⟩ := h.rs j e' h1 hc
      exact ⟨Mj, hrs _ k1, k2⟩
    · exact hr hc
  · intro j e' hj hc
    rcases get_snoc hj with ⟨hl, h1⟩ | ⟨rfl, rfl⟩
    · obtain ⟨Me, k1, k2⟩ := h.ms j e' h1 hc
      exact ⟨Me, hms _ k1, by rw [take_snoc (by omega)]; exact k2⟩
    · obtain ⟨Me, k1, k2⟩ := he hc
      exact ⟨Me, k1, by rw [take_snoc (Nat.le_refl _), List.take_length]; exact k2⟩
  · intro j e' hj hc
    rcases get_snoc hj with ⟨hl, h1⟩ | ⟨rfl, rfl⟩
    · rw [memAt_snoc hM (by omega)]
      exact h.mem j e' h1 hc
    · have := memAt_end (acc ++ [e']) Mm'
      simp only [List.length_append, List.length_cons, List.length_nil, Nat.zero_add] at this
      rw [this, hMm hc, hM]

theorem full_plain {acc : List Ent} {en : Ent} {Mm : Mem} (h1 : en.cls ≠ .e) (h2 : ∀ obj, en.cls ≠ .a obj) :
    addSel base (fun i => !(mat ops (acc ++ [en]) i)) (acc ++ [en]) 0 Mm = addSel base (fun i => !(mat ops acc i)) acc 0 Mm := by
  rw [addSel_snoc]
  have e : addSel base (fun i => !(mat ops (acc ++ [en]) i)) acc 0 Mm = addSel base (fun i => !(mat ops acc i)) acc 0 Mm :=
    addSel_congr acc 0 Mm fun k e' obj _ _ => by rw [mat_snoc h1]
  rw [e]
  cases hc : en.cls <;> first | (simp only [addSel, hc]; done) | exact absurd hc (h2 _)

theorem kd_p {op : Op} (h : kdOf P op = .p) : kindP op = true := by
  unfold kdOf at h
  cases h1 : kindP op with
  | true => rfl
  | false =>
    rw [h1] at h
    cases h2 : kindR P op <;> rw [h2] at h
    · cases h3 : kindA op <;> rw [h3] at h <;> cases h
    · cases h
theorem kd_r {op : Op} (h : kdOf P op = .r) : kindP op = false ∧ kindR P op = true := by
  unfold kdOf at h
  cases h1 : kindP op with
  | true => rw [h1] at h; cases h
  | false =>
    rw [h1] at h
    cases h2 : kindR P op with
    | true => exact ⟨rfl, rfl⟩
    | false => rw [h2] at h; cases h3 : kindA op <;> rw [h3] at h <;> cases h
theorem kd_a {op : Op} (h : kdOf P op = .a) : kindP op = false ∧ kindR P op = false ∧ kindA op = true := by
  unfold kdOf at h
  cases h1 : kindP op with
  | true => rw [h1] at h; cases h
  | false =>
    rw [h1] at h
    cases h2 : kindR P op with
    | true => rw [h2] at h; cases h
    | false =>
      rw [h2] at h
      cases h3 : kindA op with
      | true => exact ⟨rfl, rfl, rfl⟩
      | false => rw [h3] at h; cases h
theorem kd_e {op : Op} (h : kdOf P op = .e) : kindP op = false ∧ kindR P op = false ∧ kindA op = false := by
  unfold kdOf at h
  cases h1 : kindP op with
  | true => rw [h1] at h; cases h
  | false =>
    rw [h1] at h
    cases h2 : kindR P op with
    | true => rw [h2] at h; cases h
    | false =>
      rw [h2] at h
      cases h3 : kindA op with
      | true => rw [h3] at h; cases h
      | false => exact ⟨rfl, rfl, rfl⟩

theorem OpsS.go (hlow : lowEdges ops = true) (ht : tabOk P ops ue ua = true) {K : Env → Mem → Prop} : ∀ (os : List Oper) (acc : List Ent) (rs : List (Nat × Option Nat × Mem)) (ms : List (Nat × Mem)) (r : Env) (M Mm : Mem) (w : World),
    OpsS P ops base ue ua os acc.length rs ms r M K → acc.map (·.o) ++ os = ops.toList → Inv P ops base ue ua acc rs ms Mm M →
    ∃ (r' : Env) (call : Nat → CallF) (es : List Ent) (Mf : Mem), K r' (addSel base (fun i => !(mat ops es i)) es 0 Mf) ∧ (∀ j, CallsOk P (call j)) ∧
      (∀ call' : Nat → CallF, (∀ j, acc.length ≤ j → call' j = call j) → drawGo P call' ops base os acc r Mm = some (es, r', Mf)) ∧ SteadyP P ops base es Mf
  | [], acc, rs, ms, r, M, Mm, w, h, hos, hI => by
    refine ⟨r, fun _ _ _ _ => none, acc, Mm, ?_, fun _ => noCalls, fun _ _ => rfl, hI.sp⟩
    have h' : K r M := h
    rw [hI.full] at h'
    exact h'
  | o :: os, acc, rs, ms, r, M, Mm, w, h, hos, hI => by
    have ho : ops[acc.length]? = some o := by
      have : ops.toList[acc.length]? = some o := by rw [← hos]; simp
      simpa using this
    have hos' : ∀ en : Ent, en.o = o → (acc ++ [en]).map (·.o) ++ os = ops.toList := fun en he => by rw [← hos]; simp [he]
    have hlen : ∀ en : Ent, (acc ++ [en]).length = acc.length + 1 := fun en => by simp
    have hsz : acc.length < ops.size := (Array.getElem?_eq_some_iff.1 ho).1
    unfold OpsS at h
    rcases h with ⟨hw, h⟩ | ⟨hw, h⟩
    · split at h
      · rename_i hk
        split at h
        · rename_i v M1 hv
          have hI' : Inv P ops base ue ua (acc ++ [⟨o, r, Mm, v, .p⟩]) rs ms Mm M := by
            refine hI.step hlow ht ho rfl trivial (fun h => by cases h) (fun _ => rfl) ?_ (fun _ h => h) (fun _ h => h) (fun h => by cases h) (fun h => by cases h) trivial
            rw [full_plain (by simp) (by simp)]; exact hI.full
          obtain ⟨r', call, es, Mf, h1, h2, h3, h4⟩ := OpsS.go hlow ht os _ rs ms _ _ Mm w (by rw [hlen]; exact h) (hos' _ rfl) hI'
          refine ⟨r', call, es, Mf, h1, h2, fun call' hc => ?_, h4⟩
          unfold drawGo
          obtain ⟨v2, e1, e2⟩ := kindP_indep (kd_p hk) (vOp_aOp w hv)
          cases e1
          rw [hw, kd_p hk, e2]
          exact h3 call' fun j hj => hc j (by rw [hlen] at hj; omega)
        · exact h.elim
      · rename_i hk
        split at h
        · rename_i v M1 hv
          obtain ⟨hrd, h⟩ := h
          obtain ⟨k1, k2⟩ := kd_r hk
          have hMM : aOp P r o M = some (.val v M) := by
            obtain ⟨v2, e⟩ := kindR_same k2 (vOp_aOp w hv)
            cases e
            exact kindR_local k2 (vOp_aOp w hv) fun _ _ => rfl
          have hI' : Inv P ops base ue ua (acc ++ [⟨o, r, Mm, v, .r⟩]) ((acc.length, rdep r o.op, M) :: rs) ms Mm M := by
            refine hI.step hlow ht ho rfl hk (fun h => by cases h) (fun _ => rfl) ?_ (fun _ h => List.mem_cons_of_mem _ h) (fun _ h => h) (fun _ => ⟨M, List.mem_cons_self .., hMM⟩) (fun h => by cases h) ?_
            · rw [full_plain (by simp) (by simp)]; exact hI.full
            · intro p hp hcm
              rcases places_snoc hp with ⟨hpl, hp'⟩ | ⟨_, hce⟩
              · have hcm' := compat_snoc hcm
                refine ⟨_, kindR_local k2 hMM fun A hA => ?_⟩
                rw [take_snoc hpl, memAt_snoc rfl hpl, addSel_snoc]
                simp only [addSel]
                refine hI.read hlow ht ho hk hrd hpl (fun e en he hce hpe => ?_) hA
                cases hv : ahead ops e acc.length with
                | false => rfl
                | true => have := (compat_at hcm' he hce).1 hv; omega
              · cases hce
          obtain ⟨r', call, es, Mf, h1, h2, h3, h4⟩ := OpsS.go hlow ht os _ _ ms _ _ Mm w (by rw [hlen]; exact h) (hos' _ rfl) hI'
          refine ⟨r', call, es, Mf, h1, h2, fun call' hc => ?_, h4⟩
          unfold drawGo
          have hsel : aOp P r o (addSel base (selB ops acc acc.length) acc 0 Mm) = some (.val v (addSel base (selB ops acc acc.length) acc 0 Mm)) := by
            refine kindR_local k2 hMM fun A hA => ?_
            have := hI.read hlow ht ho hk hrd (Nat.le_refl _) (fun e en he _ hpe => by have := lt_of_some he; omega) hA
            rwa [List.take_length, memAt_end] at this
          rw [hw, k1, k2, hsel]
          exact h3 call' fun j hj => hc j (by rw [hlen] at hj; omega)
        · exact h.elim
      · rename_i hk
        split at h
        · rename_i v obj hv
          obtain ⟨hfr, h⟩ := h
          obtain ⟨k1, k2, k3⟩ := kd_a hk
          have hnm : mat ops (acc ++ [⟨o, r, Mm, v, .a obj⟩]) acc.length = false := by
            cases hx : mat ops (acc ++ [⟨o, r, Mm, v, .a obj⟩]) acc.length with
            | false => rfl
            | true =>
              rw [mat_snoc (by simp), mat_iff] at hx
              obtain ⟨e, en, g1, g2, g3⟩ := hx
              have := lt_of_some g1
              have := ahead_lt hlow (by omega) g3
              omega
          have hI' : Inv P ops base ue ua (acc ++ [⟨o, r, Mm, v, .a obj⟩]) rs ms Mm (M.set (base + acc.length) obj) := by
            refine hI.step hlow ht ho rfl hk (fun h => by cases h) (fun _ => rfl) ?_ (fun _ h => h) (fun _ h => h) (fun h => by cases h) (fun h => by cases h) ?_
            · rw [addSel_snoc]
              have e : addSel base (fun i => !(mat ops (acc ++ [⟨o, r, Mm, v, .a obj⟩]) i)) acc 0 Mm = addSel base (fun i => !(mat ops acc i)) acc 0 Mm :=
                addSel_congr acc 0 Mm fun k e' obj _ _ => by rw [mat_snoc (by simp)]
              rw [e, ← hI.full]
              simp only [addSel, Nat.zero_add, hnm, Bool.not_false, cond_true]
            · intro p hp
              rcases places_snoc hp with ⟨hpl, hp'⟩ | ⟨_, hce⟩
              · right
                rw [memAt_snoc rfl hpl]
                have hout : ∀ (f : Nat → Bool) (l : List Ent) (N : Mem), (∀ (k : Nat) (en : Ent), l[k]? = some en → acc[k]? = some en) → (addSel base f l 0 N).get (base + acc.length) = N.get (base + acc.length) := by
                  intro f l N hl
                  refine addSel_out base f _ l 0 N ?_
                  intro k en' obj' g1 g2 _ hid
                  have := lt_of_some (hl k en' g1)
                  omega
                rcases hI.run (acc.length - p) p (by omega) with ⟨e, en1, h1, h2, h3, h4, h5⟩ | ⟨h4, h5⟩
                · obtain ⟨Me, g1, g2⟩ := hI.ms e en1 h2 h3
                  have := hfr.2 _ g1
                  rw [h5]
                  simp only at this
                  rw [g2, hout _ _ _ fun k en' g => ?_] at this
                  · exact this
                  · rw [List.getElem?_take] at g
                    split at g
                    · exact g
                    · cases g
                · rw [h5]
                  have := hfr.1
                  rw [hI.full, hout _ _ _ fun _ _ g => g] at this
                  exact this
              · cases hce
          obtain ⟨r', call, es, Mf, h1, h2, h3, h4⟩ := OpsS.go hlow ht os _ rs ms _ _ Mm w (by rw [hlen]; exact h) (hos' _ rfl) hI'
          refine ⟨r', call, es, Mf, h1, h2, fun call' hc => ?_, h4⟩
          unfold drawGo
          rw [hw, k1, k2, k3, hv]
          exact h3 call' fun j hj => hc j (by rw [hlen] at hj; omega)
        · exact h.elim
      · rename_i hk
        obtain ⟨k1, k2, k3⟩ := kd_e hk
        have hall : ∀ (k : Nat) (en : Ent) (obj : AObj), acc[k]? = some en → en.cls = .a obj → ahead ops k acc.length = true := by
          intro k en obj g1 g2
          have hkk := hI.cls k en g1
          unfold clsOk at hkk
          rw [g2] at hkk
          rcases tab_ae ht (hI.os k en g1) ho hkk hk with h1 | h1
          · have := ahead_lt hlow (by have := lt_of_some g1; omega) h1
            have := lt_of_some g1
            omega
          · exact h1
        have hsel : addSel base (selB ops acc acc.length) acc 0 Mm = M := by
          rw [hI.full]
          refine addSel_congr acc 0 Mm fun k en obj g1 g2 => ?_
          rw [Nat.zero_add]
          unfold selB
          rw [hall k en obj g1 g2]; rfl
        have hstep : ∀ (v : Value) (M' : Mem), AcOk ue acc.length rs M' → Inv P ops base ue ua (acc ++ [⟨o, r, Mm, v, .e⟩]) rs ((acc.length, M) :: ms) M' M' := by
          intro v M' hac
          refine hI.step hlow ht ho rfl hk (fun _ => hac) (fun h => absurd rfl h) ?_ (fun _ h => h) (fun _ h => List.mem_cons_of_mem _ h) (fun h => by cases h) (fun _ => ⟨M, List.mem_cons_self .., hI.full⟩) trivial
          rw [addSel_none]
          intro k en obj g1 g2
          rw [Nat.zero_add]
          rcases get_snoc g1 with ⟨_, g3⟩ | ⟨_, rfl⟩
          · have : mat ops (acc ++ [⟨o, r, Mm, v, .e⟩]) k = true := mat_iff.2 ⟨acc.length, _, last_at acc _, rfl, hall k en obj g3 g2⟩
            rw [this]; rfl
          · cases g2
        split at h
        · rename_i v M' hv
          obtain ⟨hac, h⟩ := h
          obtain ⟨r', call, es, Mf, h1, h2, h3, h4⟩ := OpsS.go hlow ht os _ _ _ _ _ M' w (by rw [hlen]; exact h) (hos' _ rfl) (hstep v M' hac)
          refine ⟨r', call, es, Mf, h1, h2, fun call' hc => ?_, h4⟩
          unfold drawGo
          have : stepOp P (call' acc.length) r o M = some (v, M') := by unfold stepOp; rw [vOp_aOp w hv]
          rw [hw, k1, k2, k3, hsel, this]
          exact h3 call' fun j hj => hc j (by rw [hlen] at hj; omega)
        · rename_i f args hv
          obtain ⟨v, M', hok, hac, h⟩ := h
          obtain ⟨r', call, es, Mf, h1, h2, h3, h4⟩ := OpsS.go hlow ht os _ _ _ _ _ M' w (by rw [hlen]; exact h) (hos' _ rfl) (hstep v M' hac)
          classical
          refine ⟨r', fun j => if j = acc.length then (fun f' args' N => if f' = f ∧ args' = args ∧ N = M then some (v, M') else none) else call j, es, Mf, h1, fun j => ?_, fun call' hc => ?_, h4⟩
          · by_cases hj : j = acc.length
            · simp only [if_pos hj]
              intro f' args' N u N' hx
              simp only at hx
              split at hx
              · rename_i he
                obtain ⟨rfl, rfl, rfl⟩ := he
                cases hx
                exact hok
              · cases hx
            · simp only [if_neg hj]
              exact h2 j
          · unfold drawGo
            have : stepOp P (call' acc.length) r o M = some (v, M') := by
              unfold stepOp
              rw [vOp_aOp w hv, hc acc.length (Nat.le_refl _)]
              simp
            rw [hw, k1, k2, k3, hsel, this]
            refine h3 call' fun j hj => ?_
            rw [hlen] at hj
            rw [hc j (by omega)]
            simp only [if_neg (show ¬ j = acc.length by omega)]
        · exact h.elim
    · have hI' : Inv P ops base ue ua (acc ++ [⟨o, r, Mm, undef, .n⟩]) rs ms Mm M := by
        refine hI.step hlow ht ho rfl trivial (fun h => by cases h) (fun _ => rfl) ?_ (fun _ h => h) (fun _ h => h) (fun h => by cases h) (fun h => by cases h) trivial
        rw [full_plain (by simp) (by simp)]; exact hI.full
      obtain ⟨r', call, es, Mf, h1, h2, h3, h4⟩ := OpsS.go hlow ht os _ rs ms _ _ Mm w (by rw [hlen]; exact h) (hos' _ rfl) hI'
      refine ⟨r', call, es, Mf, h1, h2, fun call' hc => ?_, h4⟩
      unfold drawGo
      rw [hw]
      exact h3 call' fun j hj => hc j (by rw [hlen] at hj; omega)
end
end Go.Ab
