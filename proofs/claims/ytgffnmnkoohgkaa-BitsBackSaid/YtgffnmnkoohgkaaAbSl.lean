/- Slices: what can be read, what is one's own; the operations on them. -/
import Derived.Test.YtgffnmnkoohgkaaAbZ
set_option linter.unusedSimpArgs false
set_option linter.unusedVariables false
namespace Go.Ab

/-- All is kept but what S names. -/
structure Keep (S : Nat → Prop) (M M' : Mem) : Prop where
  nx : M.next ≤ M'.next
  same : ∀ A, A < M.next → ¬ S A → M'.get A = M.get A
theorem Keep.refl (S : Nat → Prop) (M : Mem) : Keep S M M := ⟨Nat.le_refl _, fun _ _ _ => rfl⟩
theorem Keep.trans {S : Nat → Prop} {a b c : Mem} (h : Keep S a b) (k : Keep S b c) : Keep S a c :=
  ⟨Nat.le_trans h.nx k.nx, fun A hA hs => (k.same A (Nat.lt_of_lt_of_le hA h.nx) hs).trans (h.same A hA hs)⟩
theorem Keep.mono {S T : Nat → Prop} {a b : Mem} (h : Keep S a b) (hs : ∀ A, A < a.next → S A → T A) : Keep T a b := ⟨h.nx, fun A hA ht => h.same A hA fun x => ht (hs A hA x)⟩
theorem Grow.keep {M M' : Mem} (h : Grow M M') (S : Nat → Prop) : Keep S M M' := ⟨h.nx, fun A hA _ => h.same A hA⟩
theorem Keep.grow {S : Nat → Prop} {M0 M M' : Mem} (h : Grow M0 M) (k : Keep S M M') (hs : ∀ A, S A → M0.next ≤ A) : Grow M0 M' :=
  ⟨Nat.le_trans h.nx k.nx, fun A hA => (k.same A (Nat.lt_of_lt_of_le hA h.nx) fun x => by have := hs A x; omega).trans (h.same A hA)⟩
theorem Keep.get {S : Nat → Prop} {M M' : Mem} (h : Keep S M M') {A : Nat} {o : AObj} (hs : ¬ S A) (hl : A < M.next) (hA : M.get A = some o) : M'.get A = some o := (h.same A hl hs).trans hA
theorem Keep.lt {S : Nat → Prop} {M M' : Mem} (h : Keep S M M') {A : Nat} (hl : A < M.next) : A < M'.next := Nat.lt_of_lt_of_le hl h.nx

theorem Keep.X {S : Nat → Prop} (M : Mem) {b : List (Nat × Option AObj)} {l : List Slot} (h : ∀ p ∈ b, S p.1) : Keep S M (X M b l) := by
  refine ⟨Nat.le_add_right _ _, fun A hA hs => ?_⟩
  rw [X_get_base hA]
  have : ∀ b : List (Nat × Option AObj), (∀ p ∈ b, S p.1) → look M b A = M.get A := by
    intro b
    induction b with
    | nil => intro _; rfl
    | cons p b ih =>
      intro h
      obtain ⟨B, y⟩ := p
      simp only [look]
      rw [if_neg (fun e => hs (by rw [e]; exact h _ (List.mem_cons_self ..)))]
      exact ih fun q hq => h q (List.mem_cons_of_mem _ hq)
  exact this b h
theorem X_lt {M : Mem} {b : List (Nat × Option AObj)} {l : List Slot} {A : Nat} (h : A < M.next) : A < (X M b l).next := Nat.lt_of_lt_of_le h (Nat.le_add_right _ _)
/-- The block of a value. -/
def blk : Value → Option Nat
  | .slice (some a) _ _ => some a.block
  | .pointer (some a) => some a.block
  | _ => none

/-- A slice that can be read: n elements of z cells each, with the cells cs. -/
def Sl (M : Mem) (z : Nat) (v : Value) (n : Nat) (cs : List Value) : Prop :=
  cs.length = n * z ∧ cs.all one = true ∧
  ((v = .slice none 0 0 ∧ n = 0) ∨ (∃ A o, v = .slice (some ⟨A, o, none⟩) 0 0 ∧ A < M.next ∧ n = 0) ∨
   ∃ A o c all ro, v = .slice (some ⟨A, o, none⟩) n c ∧ c ≤ capU ∧ A < M.next ∧ M.get A = some (.cells all z ro) ∧ (all.drop o).take (n * z) = cs)

/-- A slice of one's own, that may be appended to (or that is full); its block lies from lo on. -/
def Ow (lo : Nat) (M : Mem) (z : Nat) (v : Value) (n : Nat) (cs : List Value) : Prop :=
  cs.length = n * z ∧ cs.all one = true ∧ ((v = .slice none 0 0 ∧ n = 0) ∨
   ∃ A c ro, lo ≤ A ∧ A < M.next ∧ v = .slice (some ⟨A, 0, none⟩) n c ∧ M.get A = some (.cells cs z ro) ∧ ((c = capU ∧ ro = false) ∨ (c = n ∧ n < capU ∧ ro = false)))

section
variable {P : Program} {M M' : Mem} {z n k : Nat} {v x : Value} {cs ys : List Value} {lo : Nat}

theorem Sl.len (h : Sl M z v n cs) : cs.length = n * z := h.1
theorem Sl.nil (M : Mem) (z : Nat) : Sl M z (.slice none 0 0) 0 [] := ⟨by simp, rfl, .inl ⟨rfl, rfl⟩⟩
theorem Ow.nil (lo : Nat) (M : Mem) (z : Nat) : Ow lo M z (.slice none 0 0) 0 [] := ⟨by simp, rfl, .inl ⟨rfl, rfl⟩⟩
theorem Sl.val (h : Sl M z v n cs) : ∃ b c, v = .slice b n c := by
  obtain ⟨_, _, ⟨rfl, rfl⟩ | ⟨A, o, rfl, _, rfl⟩ | ⟨A, o, c, all, ro, rfl, _⟩⟩ := h
  · exact ⟨_, _, rfl⟩
  · exact ⟨_, _, rfl⟩
  · exact ⟨_, _, rfl⟩
theorem Ow.sl (h : Ow lo M z v n cs) : Sl M z v n cs := by
  obtain ⟨h1, h2, ⟨rfl, rfl⟩ | ⟨A, c, ro, h3, h4, rfl, h5, h6⟩⟩ := h
  · exact ⟨h1, h2, .inl ⟨rfl, rfl⟩⟩
  · refine ⟨h1, h2, .inr (.inr ⟨A, 0, c, cs, ro, rfl, by omega, h4, h5, ?_⟩)⟩
    rw [List.drop_zero, ← h1, List.take_length]
theorem Ow.val (h : Ow lo M z v n cs) : ∃ b c, v = .slice b n c := h.sl.val
theorem Ow.le (h : Ow lo M z v n cs) {l : Nat} (hl : l ≤ lo) : Ow l M z v n cs := by
  obtain ⟨h1, h2, h3 | ⟨A, c, ro, h3, h4⟩⟩ := h
  · exact ⟨h1, h2, .inl h3⟩
  · exact ⟨h1, h2, .inr ⟨A, c, ro, Nat.le_trans hl h3, h4⟩⟩
theorem Sl.blk_lt (h : Sl M z v n cs) {A : Nat} (hA : blk v = some A) : A < M.next := by
  obtain ⟨_, _, ⟨rfl, rfl⟩ | ⟨B, o, rfl, h4, _⟩ | ⟨B, o, c, all, ro, rfl, _, h4, _⟩⟩ := h
  · cases hA
  · cases hA; exact h4
  · cases hA; exact h4
theorem Ow.blk_ge (h : Ow lo M z v n cs) {A : Nat} (hA : blk v = some A) : lo ≤ A := by
  obtain ⟨_, _, ⟨rfl, rfl⟩ | ⟨B, _, _, h3, _, rfl, _⟩⟩ := h
  · cases hA
  · cases hA; exact h3

theorem Sl.keep {S : Nat → Prop} (h : Sl M z v n cs) (g : Keep S M M') (hb : ∀ A, blk v = some A → ¬ S A) : Sl M' z v n cs := by
  obtain ⟨h1, h2, h3 | ⟨A, o, rfl, h4, h5⟩ | ⟨A, o, c, all, ro, rfl, h3, h4, h5, h6⟩⟩ := h
  · exact ⟨h1, h2, .inl h3⟩
  · exact ⟨h1, h2, .inr (.inl ⟨A, o, rfl, g.lt h4, h5⟩)⟩
  · exact ⟨h1, h2, .inr (.inr ⟨A, o, c, all, ro, rfl, h3, g.lt h4, g.get (hb A rfl) h4 h5, h6⟩)⟩
theorem Sl.grow (h : Sl M z v n cs) (g : Grow M M') : Sl M' z v n cs := h.keep (g.keep fun _ => False) (fun _ _ f => f)
theorem Ow.keep {S : Nat → Prop} (h : Ow lo M z v n cs) (g : Keep S M M') (hb : ∀ A, blk v = some A → ¬ S A) : Ow lo M' z v n cs := by
  obtain ⟨h1, h2, h3 | ⟨A, c, ro, h3, h4, rfl, h5, h6⟩⟩ := h
  · exact ⟨h1, h2, .inl h3⟩
  · exact ⟨h1, h2, .inr ⟨A, c, ro, h3, g.lt h4, rfl, g.get (hb A rfl) h4 h5, h6⟩⟩
theorem Ow.grow (h : Ow lo M z v n cs) (g : Grow M M') : Ow lo M' z v n cs := h.keep (g.keep fun _ => False) (fun _ _ f => f)

theorem ez_info {e zb : Nat} {zc : List Value} (h : ez P e = some (z, zb, zc)) : ∃ i zv, P.info? e = some i ∧ i.zero = some zv ∧ i.size = z ∧ i.bytes = zb ∧ zv.cells.size = z ∧ 0 < z ∧ flat 4 zv = true := by
  unfold ez at h
  split at h
  · rename_i i hi
    split at h
    · rename_i zv hz
      obtain ⟨hg, h⟩ := gd_some h
      simp only [Bool.and_eq_true] at hg
      obtain ⟨⟨g1, g2⟩, g3⟩ := hg
      simp only [Option.some.injEq, Prod.mk.injEq] at h
      obtain ⟨rfl, rfl, rfl⟩ := h
      exact ⟨i, zv, hi, hz, rfl, rfl, beq_eq g2, blt_iff.1 g3, g1⟩
    · cases h
  · cases h
theorem el_slice {t e : TypeId} (h : el P t = some (true, 0, e)) : P.underlying t = some (.slice e) := by
  unfold el at h
  split at h
  · rename_i e' hu
    simp only [Option.some.injEq, Prod.mk.injEq, true_and] at h
    subst h; exact hu
  · simp at h
  · cases h

theorem Sl.src (h : Sl M z v n cs) {t e : TypeId} (ht : el P t = some (true, 0, e)) : asrc P t z M v = some (n, cs) := by
  obtain ⟨h1, h2, ⟨rfl, rfl⟩ | ⟨A, o, rfl, h3, rfl⟩ | ⟨A, o, c, all, ro, rfl, h3, h4, h5, h6⟩⟩ := h
  · have : cs = [] := List.eq_nil_of_length_eq_zero (by simpa using h1)
    subst this
    simp only [asrc, el_slice ht]
  · have : cs = [] := List.eq_nil_of_length_eq_zero (by simpa using h1)
    subst this
    simp only [asrc, el_slice ht]
    rfl
  · cases hz : (Nat.beq n 0 && Nat.beq c 0) with
    | true =>
      rw [Bool.and_eq_true] at hz
      obtain rfl := beq_eq hz.1
      obtain rfl := beq_eq hz.2
      have : cs = [] := List.eq_nil_of_length_eq_zero (by simpa using h1)
      subst this
      simp only [asrc, el_slice ht]
      rfl
    | false =>
      simp only [asrc, el_slice ht, hz, cond_false, h5, h6, h1, beqT rfl, h2, Bool.and_self]
      rfl

/-- An element, by its index. -/
theorem Sl.index (h : Sl M z v n cs) {t e : TypeId} (ht : el P t = some (true, 0, e)) (hz : sz P e = some z) {kk : IntKind} {j : Int} {i : Nat} (hj : j = i) (hi : i < n) :
    ∃ A o all ro, aindex P t v (.int kk j) = some (.pointer (some ⟨A, o + i * z, none⟩)) ∧ M.get A = some (.cells all z ro) ∧ A < M.next ∧ blk v = some A ∧ (all.drop o).take (n * z) = cs := by
  obtain ⟨h1, h2, ⟨rfl, rfl⟩ | ⟨A, o, rfl, h3, rfl⟩ | ⟨A, o, c, all, ro, rfl, h3, h4, h5, h6⟩⟩ := h
  · omega
  · omega
  · exact ⟨A, o, all, ro, aindex_slice ht hz hj hi, h5, h4, rfl, h6⟩

theorem seg_get {all seg : List Value} {o m i : Nat} (h : (all.drop o).take m = seg) (hi : i < m) : all[o + i]? = seg[i]? := by
  rw [← h, List.getElem?_take, if_pos hi, List.getElem?_drop]
theorem seg_sub {all seg : List Value} {o m i j : Nat} (h : (all.drop o).take m = seg) (hi : i + j ≤ m) : (all.drop (o + i)).take j = (seg.drop i).take j := by
  rw [← h, List.drop_take, List.take_take, List.drop_drop, Nat.min_eq_left (by omega)]

theorem tk_sz {e : TypeId} {b : Bool} {z : Nat} (h : tk P e = some (b, z)) : sz P e = some z := by
  unfold tk at h; unfold sz
  split at h
  · rename_i d i h1 h2
    simp only [Option.some.injEq, Prod.mk.injEq] at h
    simp only [h2, h.2]
  · cases h

/-- An element of one cell. -/
theorem Sl.at1 (h : Sl M 1 v n cs) {t e : TypeId} (ht : el P t = some (true, 0, e)) (hz : sz P e = some 1) {kk : IntKind} {j : Int} {i : Nat} {u : Value} (hj : j = i) (hu : cs[i]? = some u) :
    ∃ B o all ro, aindex P t v (.int kk j) = some (.pointer (some ⟨B, o, none⟩)) ∧ B < M.next ∧ M.get B = some (.cells all 1 ro) ∧ all[o]? = some u ∧ blk v = some B := by
  have hi : i < n := by
    have h1 := h.len
    have := (List.getElem?_eq_some_iff.1 hu).1
    omega
  obtain ⟨A, o, all, ro, h1, h2, h3, h5, h4⟩ := h.index ht hz (kk := kk) hj hi
  refine ⟨A, o + i * 1, all, ro, h1, h3, h2, ?_, h5⟩
  rw [Nat.mul_one, seg_get h4 (by omega), hu]

/-- An element of some cells. -/
theorem Sl.atR (h : Sl M z v n cs) {t e : TypeId} (ht : el P t = some (true, 0, e)) (hz : sz P e = some z) {kk : IntKind} {j : Int} {i : Nat} (hj : j = i) (hi : i < n) :
    ∃ B o all ro, aindex P t v (.int kk j) = some (.pointer (some ⟨B, o, none⟩)) ∧ B < M.next ∧ M.get B = some (.cells all z ro) ∧ (all.drop o).take z = (cs.drop (i * z)).take z ∧ blk v = some B := by
  obtain ⟨A, o, all, ro, h1, h2, h3, h5, h4⟩ := h.index ht hz (kk := kk) hj hi
  have hle : i * z + z ≤ n * z := by rw [← Nat.succ_mul]; exact Nat.mul_le_mul_right _ hi
  exact ⟨A, o + i * z, all, ro, h1, h3, h2, seg_sub h4 hle, h5⟩

theorem nat_int {kk : IntKind} {a : Nat} : nat? (.int kk (a : Int)) = some a := rfl

/-- A part of a slice. -/
theorem Sl.sub (h : Sl M z v n cs) {t e zb : Nat} {zc : List Value} (ht : el P t = some (true, 0, e)) (hz : ez P e = some (z, zb, zc)) {a b : Nat} (lo hi : Option Value) (hlo : bnd 0 lo = some a) (hhi : bnd n hi = some b) (hab : a ≤ b) (hb : b ≤ n) :
    ∃ u, aslice P t M v lo hi none = some u ∧ Sl M z u (b - a) ((cs.drop (a * z)).take ((b - a) * z)) ∧ (blk u = blk v) := by
  obtain ⟨i, zv, hi1, hi2, rfl, rfl, hi5, hi6, hi7⟩ := ez_info hz
  have hmul : (b - a) * i.size + a * i.size ≤ n * i.size := by rw [← Nat.add_mul]; exact Nat.mul_le_mul_right _ (by omega)
  have hlen : ((cs.drop (a * i.size)).take ((b - a) * i.size)).length = (b - a) * i.size := by
    rw [List.length_take, List.length_drop, h.len]; omega
  have hone : ((cs.drop (a * i.size)).take ((b - a) * i.size)).all one = true := by
    rw [List.all_eq_true]
    intro y hy
    exact List.all_eq_true.1 h.2.1 y (List.mem_of_mem_drop (List.mem_of_mem_take hy))
  obtain ⟨h1, h2, ⟨rfl, rfl⟩ | ⟨A, o, rfl, h3, rfl⟩ | ⟨A, o, c, all, ro, rfl, h3, h4, h5, h6⟩⟩ := h
  · have hb0 : b = 0 := by omega
    have ha0 : a = 0 := by omega
    subst hb0; subst ha0
    refine ⟨.slice none 0 0, ?_, ⟨hlen, hone, .inl ⟨rfl, rfl⟩⟩, rfl⟩
    unfold aslice
    simp only [el_slice ht, hi1, hlo, hhi]
  · have hb0 : b = 0 := by omega
    have ha0 : a = 0 := by omega
    subst hb0; subst ha0
    refine ⟨.slice (some ⟨A, o, none⟩) 0 0, ?_, ⟨hlen, hone, .inr (.inl ⟨A, o, rfl, h3, rfl⟩)⟩, rfl⟩
    unfold aslice
    simp only [el_slice ht, hi1, hlo, hhi, beqT rfl, Bool.and_self, Option.isNone_none, cond_true]
  · cases hzz : (Nat.beq n 0 && Nat.beq c 0) with
    | true =>
      rw [Bool.and_eq_true] at hzz
      obtain rfl := beq_eq hzz.1
      obtain rfl := beq_eq hzz.2
      have hb0 : b = 0 := by omega
      have ha0 : a = 0 := by omega
      subst hb0; subst ha0
      refine ⟨.slice (some ⟨A, o, none⟩) 0 0, ?_, ⟨hlen, hone, .inr (.inl ⟨A, o, rfl, h4, rfl⟩)⟩, rfl⟩
      unfold aslice
      simp only [el_slice ht, hi1, hlo, hhi, beqT rfl, Bool.and_self, Option.isNone_none, cond_true]
    | false =>
      refine ⟨.slice (some ⟨A, o + a * i.size, none⟩) (b - a) (bif Nat.beq c capU then capU else c - a), ?_, ⟨hlen, hone, .inr (.inr ⟨A, o + a * i.size, _, all, ro, rfl, ?_, h4, h5, ?_⟩)⟩, rfl⟩
      · unfold aslice
        have e1 : Nat.ble a b = true := Nat.ble_eq_true_of_le hab
        have e2 : Nat.ble b n = true := Nat.ble_eq_true_of_le hb
        have e3 : (Nat.beq c capU || !(Nat.beq (c - a) capU)) = true := by
          cases hc : Nat.beq c capU with
          | true => rfl
          | false =>
            have hne : c ≠ capU := fun e => by rw [beqT e] at hc; cases hc
            rw [beqF (by omega)]; rfl
        simp only [el_slice ht, hi1, h5, hlo, hhi, e1, blt_iff.2 hi6, beqT rfl, Bool.and_self, gd, roomFor, e2, Bool.true_or, e3, hzz, Bool.false_and, cond_false]
      · cases Nat.beq c capU
        · simp; omega
        · exact Nat.le_refl _
      · rw [seg_sub h6 (by omega)]

theorem nb1 {x : Option Nat} {A : Nat} {y : Option AObj} (h : x ≠ some A) : ∀ p ∈ [(A, y)], x ≠ some p.1 := fun p hp => by simp at hp; subst hp; exact h
theorem nb0 {x : Option Nat} : ∀ p ∈ ([] : List (Nat × Option AObj)), x ≠ some p.1 := fun p hp => by simp at hp
theorem look_none {B : Nat} : ∀ {b : List (Nat × Option AObj)}, (∀ p ∈ b, B ≠ p.1) → look M b B = M.get B
  | [], _ => rfl
  | (A, y) :: b, h => by
    simp only [look]
    rw [if_neg (h _ (List.mem_cons_self ..))]
    exact look_none fun q hq => h q (List.mem_cons_of_mem _ hq)

theorem aslice_X {t : TypeId} {M : Mem} {b : List (Nat × Option AObj)} {q u : Value} {lo hi mx : Option Value} (h : aslice P t M q lo hi mx = some u) (hl : ∀ A, blk q = some A → A < M.next) (hb : ∀ p ∈ b, blk q ≠ some p.1) (l : List Slot) :
    aslice P t (X M b l) q lo hi mx = some u := by
  unfold aslice at h ⊢
  split at h
  · split at h
    · split at h
      · exact h
      · rename_i A o l c
        rw [X_get_base (hl A rfl), look_none fun p hp e => hb p hp (by rw [← e]; rfl)]
        exact h
      · cases h
    · cases h
  · cases h

/-- A part of a slice, in memory's form. -/
theorem Sl.subX (h : Sl M z v n cs) {t e zb : Nat} {zc : List Value} (ht : el P t = some (true, 0, e)) (hz : ez P e = some (z, zb, zc)) (bb : List (Nat × Option AObj)) (hbb : ∀ p ∈ bb, blk v ≠ some p.1) {a b : Nat} (lo hi : Option Value) (hlo : bnd 0 lo = some a) (hhi : bnd n hi = some b) (hab : a ≤ b) (hb : b ≤ n) :
    ∃ u, (∀ l, aslice P t (X M bb l) v lo hi none = some u) ∧ Sl M z u (b - a) ((cs.drop (a * z)).take ((b - a) * z)) ∧ (blk u = blk v) := by
  obtain ⟨u, h1, h2, h3⟩ := h.sub ht hz lo hi hlo hhi hab hb
  exact ⟨u, aslice_X h1 (fun A hA => h.blk_lt hA) hbb, h2, h3⟩

theorem Sl.toX {bb : List (Nat × Option AObj)} (h : Sl M z v n cs) (hb : ∀ p ∈ bb, blk v ≠ some p.1) (l : List Slot) : Sl (X M bb l) z v n cs :=
  h.keep (S := fun A => ∃ p ∈ bb, p.1 = A) (Keep.X M fun p hp => ⟨p, hp, rfl⟩) fun A hA ⟨p, hp, e⟩ => hb p hp (by rw [hA, e])

theorem Ow.toX {bb : List (Nat × Option AObj)} (h : Ow lo M z v n cs) (hb : ∀ p ∈ bb, blk v ≠ some p.1) (l : List Slot) : Ow lo (X M bb l) z v n cs :=
  h.keep (S := fun A => ∃ p ∈ bb, p.1 = A) (Keep.X M fun p hp => ⟨p, hp, rfl⟩) fun A hA ⟨p, hp, e⟩ => hb p hp (by rw [hA, e])
theorem Ow.ne {A : Nat} (h : Ow lo M z v n cs) (hA : A < lo) : blk v ≠ some A := fun e => by have := h.blk_ge e; omega
theorem Sl.ne {A : Nat} (h : Sl M z v n cs) (hA : M.next ≤ A) : blk v ≠ some A := fun e => by have := h.blk_lt e; omega
theorem Ow.full {A : Nat} (h1 : cs.length = n * z) (h2 : cs.all one = true) (hlo : lo ≤ A) (hlt : A < M.next) (hA : M.get A = some (.cells cs z false)) (hn : n < capU) : Ow lo M z (.slice (some ⟨A, 0, none⟩) n n) n cs :=
  ⟨h1, h2, .inr ⟨A, n, false, hlo, hlt, rfl, hA, .inr ⟨rfl, hn, rfl⟩⟩⟩
/-- A literal that was just made. -/
theorem Ow.lit {b : List (Nat × Option AObj)} {l : List Slot} {i : Nat} (h1 : cs.length = n * z) (h2 : cs.all one = true) (hi : l[i]? = some (ob (.cells cs z false))) (hn : n < capU) : Ow M.next (X M b l) z (.slice (some ⟨loc M i, 0, none⟩) n n) n cs := by
  refine Ow.full h1 h2 (Nat.le_add_right _ _) ?_ ?_ hn
  · have := (List.getElem?_eq_some_iff.1 hi).1
    show M.next + i < M.next + l.length
    omega
  · rw [X_get_loc (by rw [hi]; rfl), hi]; rfl

/-- Appending to one's own. -/
theorem Ow.append' (h : Ow lo M z v n cs) (hx : Sl M z x k ys) {t tx e e' zb : Nat} {zc : List Value} (ht : el P t = some (true, 0, e)) (htx : el P tx = some (true, 0, e')) (hz : ez P e = some (z, zb, zc))
    (hl : (n + k) * zb ≤ 140737488355328) (hl2 : n + k ≤ 9223372036854775807) (hlo : lo ≤ M.next) :
    ∃ u M', aappend P t tx M v x = some (u, M') ∧ Ow lo M' z u (n + k) (cs ++ ys) ∧ Keep (fun A => blk v = some A) M M' ∧ (∀ A, blk u = some A → blk v = some A ∨ M.next ≤ A) := by
  have hsrc := hx.src htx
  obtain ⟨i, zv, hi1, hi2, rfl, rfl, hi5, hi6, hi7⟩ := ez_info hz
  have hlen : (cs ++ ys).length = (n + k) * i.size := by rw [List.length_append, h.1, hx.len, Nat.add_mul]
  have hone : (cs ++ ys).all one = true := by rw [List.all_append, h.2.1, hx.2.1]; rfl
  obtain ⟨h1, h2, ⟨rfl, rfl⟩ | ⟨A, c, ro, h3, h4, rfl, h5, h6⟩⟩ := h
  · have hcs : cs = [] := List.eq_nil_of_length_eq_zero (by simpa using h1)
    subst hcs
    rw [Nat.zero_add] at hl hl2
    by_cases hk : k = 0
    · subst hk
      have hys : ys = [] := List.eq_nil_of_length_eq_zero (by simpa using hx.len)
      subst hys
      refine ⟨.slice none 0 0, M, ?_, Ow.nil _ _ _, Keep.refl _ _, fun A hA => by cases hA⟩
      unfold aappend
      simp only [el_slice ht, hi1, hi2, hi5, blt_iff.2 hi6, beqT rfl, Bool.and_self, gd, hsrc, cond_true]
    · refine ⟨.slice (some ⟨M.next, 0, none⟩) k capU, M.new (.cells ys i.size false), ?_, ⟨by simpa using hlen, by simpa using hone, .inr ⟨M.next, capU, false, hlo, Nat.lt_succ_self _, by simp, ?_, .inl ⟨rfl, rfl⟩⟩⟩, ⟨Nat.le_succ _, fun A hA _ => ?_⟩, fun A hA => by cases hA; exact .inr (Nat.le_refl _)⟩
      · unfold aappend
        simp only [el_slice ht, hi1, hi2, hi5, blt_iff.2 hi6, beqT rfl, beqF hk, Bool.and_self, gd, hsrc, cond_false, Nat.ble_eq_true_of_le hl, Nat.ble_eq_true_of_le hl2]
      · rw [Mem.get_new, if_pos rfl]; simp
      · rw [Mem.get_new, if_neg (by omega)]
  · have ht1 : (cs.drop 0).take (n * i.size) = cs := by rw [List.drop_zero, ← h1, List.take_length]
    cases hzz : (Nat.beq n 0 && Nat.beq c 0) with
    | true =>
      rw [Bool.and_eq_true] at hzz
      obtain rfl := beq_eq hzz.1
      obtain rfl := beq_eq hzz.2
      have hcs : cs = [] := List.eq_nil_of_length_eq_zero (by simpa using h1)
      subst hcs
      rw [Nat.zero_add] at hl hl2
      by_cases hk : k = 0
      · subst hk
        have hys : ys = [] := List.eq_nil_of_length_eq_zero (by simpa using hx.len)
        subst hys
        refine ⟨_, M, ?_, ⟨by simp, rfl, .inr ⟨A, 0, ro, h3, h4, rfl, h5, h6⟩⟩, Keep.refl _ _, fun B hB => .inl hB⟩
        unfold aappend
        simp only [el_slice ht, hi1, hi2, hi5, blt_iff.2 hi6, beqT rfl, Bool.and_self, gd, hsrc, cond_true]
      · refine ⟨.slice (some ⟨M.next, 0, none⟩) k capU, M.new (.cells ys i.size false), ?_, ⟨by simpa using hlen, by simpa using hone, .inr ⟨M.next, capU, false, hlo, Nat.lt_succ_self _, by simp, ?_, .inl ⟨rfl, rfl⟩⟩⟩, ⟨Nat.le_succ _, fun A hA _ => ?_⟩, fun A hA => by cases hA; exact .inr (Nat.le_refl _)⟩
        · unfold aappend
          simp only [el_slice ht, hi1, hi2, hi5, blt_iff.2 hi6, beqT rfl, beqF hk, Bool.and_self, gd, hsrc, cond_false, cond_true, Nat.ble_eq_true_of_le hl, Nat.ble_eq_true_of_le hl2]
        · rw [Mem.get_new, if_pos rfl]; simp
        · rw [Mem.get_new, if_neg (by omega)]
    | false =>
    by_cases hk : k = 0
    · subst hk
      have hys : ys = [] := List.eq_nil_of_length_eq_zero (by simpa using hx.len)
      subst hys
      refine ⟨_, M, ?_, ⟨hlen, hone, .inr ⟨A, c, ro, h3, h4, rfl, by simpa using h5, by simpa using h6⟩⟩, Keep.refl _ _, fun B hB => .inl hB⟩
      unfold aappend
      rw [Nat.add_zero] at hl hl2
      simp only [el_slice ht, hi1, hi2, hi5, blt_iff.2 hi6, beqT rfl, Bool.and_self, gd, hsrc, hzz, cond_true, cond_false, h5, ht1, h1, Nat.ble_eq_true_of_le hl, Nat.ble_eq_true_of_le hl2, Nat.add_zero]
    · rcases h6 with ⟨rfl, rfl⟩ | ⟨rfl, h7⟩
      · refine ⟨.slice (some ⟨M.next, 0, none⟩) (n + k) capU, (M.del A).new (.cells (cs ++ ys) i.size false), ?_, ⟨hlen, hone, .inr ⟨M.next, capU, false, hlo, Nat.lt_succ_self _, rfl, ?_, .inl ⟨rfl, rfl⟩⟩⟩, ⟨Nat.le_succ _, fun B hB hb => ?_⟩, fun B hB => by cases hB; exact .inr (Nat.le_refl _)⟩
        · have hnot : Nat.ble (0 + (n + k) * i.size) cs.length = false := by
            cases hq : Nat.ble (0 + (n + k) * i.size) cs.length with
            | false => rfl
            | true =>
              have := Nat.le_of_ble_eq_true hq
              rw [h1, Nat.zero_add] at this
              have := Nat.le_of_mul_le_mul_right this hi6
              omega
          rw [h1] at hnot
          unfold aappend
          simp only [el_slice ht, hi1, hi2, hi5, blt_iff.2 hi6, beqT rfl, beqF hk, Bool.and_self, gd, hsrc, hzz, cond_true, cond_false, cond_false, h5, ht1, h1, hnot, Nat.ble_eq_true_of_le hl, Nat.ble_eq_true_of_le hl2]
        · rw [Mem.get_new]; exact if_pos rfl
        · rw [Mem.get_new, if_neg (by have : (M.del A).next = M.next := rfl; omega), Mem.get_del, if_neg (fun e => hb (by rw [e]; rfl))]
      · refine ⟨.slice (some ⟨M.next, 0, none⟩) (c + k) capU, M.new (.cells (cs ++ ys) i.size false), ?_, ⟨hlen, hone, .inr ⟨M.next, capU, false, hlo, Nat.lt_succ_self _, rfl, ?_, .inl ⟨rfl, rfl⟩⟩⟩, ⟨Nat.le_succ _, fun B hB hb => ?_⟩, fun B hB => by cases hB; exact .inr (Nat.le_refl _)⟩
        · have hnot : Nat.ble (c + k) c = false := by
            cases hq : Nat.ble (c + k) c with
            | false => rfl
            | true => have := Nat.le_of_ble_eq_true hq; omega
          have hnU : Nat.beq c capU = false := beqF (by omega)
          have hzz2 : Nat.beq c 0 = false := by rw [Bool.and_self] at hzz; exact hzz
          unfold aappend
          simp only [el_slice ht, hi1, hi2, hi5, blt_iff.2 hi6, beqT rfl, beqF hk, hnU, Bool.and_self, gd, hsrc, hzz, hzz2, cond_true, cond_false, cond_false, h5, ht1, h1, hnot, Nat.ble_eq_true_of_le hl, Nat.ble_eq_true_of_le hl2]
        · rw [Mem.get_new]; exact if_pos rfl
        · rw [Mem.get_new, if_neg (by omega)]

theorem Ow.append (h : Ow lo M z v n cs) (hx : Sl M z x k ys) {t tx e e' zb : Nat} {zc : List Value} (ht : el P t = some (true, 0, e)) (htx : el P tx = some (true, 0, e')) (hz : ez P e = some (z, zb, zc))
    (hl : (n + k) * zb ≤ 140737488355328) (hl2 : n + k ≤ 9223372036854775807) (hlo : lo ≤ M.next) :
    ∃ u M', aappend P t tx M v x = some (u, X M' [] []) ∧ Ow lo M' z u (n + k) (cs ++ ys) ∧ Keep (fun A => blk v = some A) M M' ∧ (∀ A, blk u = some A → blk v = some A ∨ M.next ≤ A) :=
  h.append' hx ht htx hz hl hl2 hlo
/-! ### Bytes -/
/-- Bytes that can be read. -/
abbrev By (M : Mem) (v : Value) (bs : List Int) : Prop := Sl M 1 v bs.length (bc bs)
/-- Bytes of one's own. -/
abbrev OwB (lo : Nat) (M : Mem) (v : Value) (bs : List Int) : Prop := Ow lo M 1 v bs.length (bc bs)
theorem OwB.push {cs' ys' : List Int} (h : OwB lo M v cs') (hx : By M x ys') {t tx e e' : Nat} {zc : List Value} (ht : el P t = some (true, 0, e)) (htx : el P tx = some (true, 0, e')) (hz : ez P e = some (1, 1, zc))
    (hl : cs'.length + ys'.length ≤ 140737488355328) (hlo : lo ≤ M.next) :
    ∃ u M', aappend P t tx M v x = some (u, X M' [] []) ∧ OwB lo M' u (cs' ++ ys') ∧ Keep (fun A => blk v = some A) M M' ∧ (∀ A, blk u = some A → blk v = some A ∨ M.next ≤ A) := by
  obtain ⟨u, M', h1, h2, h3, h4⟩ := h.append hx ht htx hz (by omega) (by omega) hlo
  refine ⟨u, M', h1, ?_, h3, h4⟩
  unfold OwB
  rw [bc_append, List.length_append]
  exact h2
theorem By.sub {bs : List Int} (h : By M v bs) {t e zb : Nat} {zc : List Value} (ht : el P t = some (true, 0, e)) (hz : ez P e = some (1, zb, zc)) (bb : List (Nat × Option AObj)) (hbb : ∀ p ∈ bb, blk v ≠ some p.1) {a m : Nat} (lo hi : Option Value) (hlo : bnd 0 lo = some a) (hhi : bnd bs.length hi = some (a + m)) (hle : a + m ≤ bs.length) :
    ∃ ub uc, (∀ l, aslice P t (X M bb l) v lo hi none = some (.slice ub m uc)) ∧ By M (.slice ub m uc) ((bs.drop a).take m) ∧ (blk (.slice ub m uc) = blk v) := by
  obtain ⟨u, h1, h2, h3⟩ := h.subX ht hz bb hbb lo hi hlo hhi (Nat.le_add_right _ _) hle
  obtain ⟨ub, uc, rfl⟩ := h2.val
  have e1 : a + m - a = m := by omega
  have e2 : ((bs.drop a).take m).length = m := by rw [List.length_take, List.length_drop]; omega
  rw [e1] at h1 h2 h3
  refine ⟨ub, uc, h1, ?_, h3⟩
  unfold By
  rw [e2]
  unfold bc at h2 ⊢
  rw [Nat.mul_one, Nat.mul_one] at h2
  rw [List.map_take, List.map_drop]
  exact h2
theorem By.at {bs : List Int} (h : By M v bs) {t e : TypeId} (ht : el P t = some (true, 0, e)) (hz : sz P e = some 1) {kk : IntKind} {j : Int} {i : Nat} {x : Int} (hj : j = i) (hx : bs[i]? = some x) :
    ∃ B o all ro, aindex P t v (.int kk j) = some (.pointer (some ⟨B, o, none⟩)) ∧ B < M.next ∧ M.get B = some (.cells all 1 ro) ∧ all[o]? = some (.int .u8 x) ∧ blk v = some B :=
  Sl.at1 h ht hz hj (by unfold bc; rw [List.getElem?_map, hx]; rfl)
/-- A literal of bytes. -/
theorem OwB.lit {b : List (Nat × Option AObj)} {l : List Slot} {i : Nat} {bs : List Int} (hi : l[i]? = some (ob (.cells (bc bs) 1 false))) (hn : bs.length < capU) : OwB M.next (X M b l) (.slice (some ⟨loc M i, 0, none⟩) bs.length bs.length) bs :=
  Ow.lit (by rw [bc_length, Nat.mul_one]) (bc_one bs) hi hn
theorem OwB.by {bs : List Int} (h : OwB lo M v bs) : By M v bs := h.sl
theorem By.cast {bs bs' : List Int} (h : By M v bs) (e : bs = bs') : By M v bs' := by subst e; exact h
theorem By.cast' {n : Nat} {bs bs' : List Int} (h : Sl M 1 v n (bc bs)) (e : bs = bs') : Sl M 1 v n (bc bs') := by subst e; exact h
theorem OwB.cast {bs bs' : List Int} (h : OwB lo M v bs) (e : bs = bs') : OwB lo M v bs' := by subst e; exact h
/-! ### Bytes as texts -/
def strOf (bs : List Int) : ByteArray := ⟨(bs.map fun n => UInt8.ofNat n.toNat).toArray⟩
theorem abytes_bc : ∀ bs : List Int, abytes (bc bs) = some (bs.map fun n => UInt8.ofNat n.toNat)
  | [] => rfl
  | b :: bs => by
    show (abytes (bc bs)).map (fun l => UInt8.ofNat b.toNat :: l) = _
    rw [abytes_bc bs]; rfl
theorem By.str {bs : List Int} (h : By M v bs) {s t e : TypeId} (hs : el P s = some (true, 0, e)) (he : P.underlying e = some (.int .u8)) (ht : P.underlying t = some .string) : acvs P s t M v = some (.string (strOf bs)) := by
  have hu := el_slice hs
  obtain ⟨h1, h2, ⟨rfl, h3⟩ | ⟨A, o, rfl, h4, h3⟩ | ⟨A, o, c, all, ro, rfl, h4, h5, h6, h7⟩⟩ := h
  · have : bs = [] := List.eq_nil_of_length_eq_zero h3
    subst this
    simp only [acvs, hu, ht, he]
    rfl
  · have : bs = [] := List.eq_nil_of_length_eq_zero h3
    subst this
    simp only [acvs, hu, ht, aconvert, he]
    rfl
  · cases hzz : (Nat.beq bs.length 0 && Nat.beq c 0) with
    | true =>
      have hzz' := hzz
      rw [Bool.and_eq_true] at hzz'
      have : bs = [] := List.eq_nil_of_length_eq_zero (beq_eq hzz'.1)
      subst this
      simp only [acvs, hu, ht, aconvert, he, hzz]
      rfl
    | false =>
      simp only [acvs, hu, ht, aconvert, he, h6, hzz, cond_false]
      rw [Nat.mul_one] at h7
      have e1 : ((all.drop o).take bs.length).length = bs.length := by rw [h7, bc_length]
      rw [beqT e1, h7, abytes_bc]
      rfl
theorem strOf_inj {a b : List Int} (ha : ∀ x ∈ a, 0 ≤ x ∧ x < 256) (hb : ∀ x ∈ b, 0 ≤ x ∧ x < 256) : strOf a = strOf b ↔ a = b := by
  constructor
  · intro h
    have h2 : a.map (fun n => UInt8.ofNat n.toNat) = b.map (fun n => UInt8.ofNat n.toNat) := by
      have := congrArg (fun s : ByteArray => s.data.toList) h
      simpa [strOf] using this
    clear h
    induction a generalizing b with
    | nil => cases b with
      | nil => rfl
      | cons y b => simp at h2
    | cons x a ih =>
      cases b with
      | nil => simp at h2
      | cons y b =>
        simp only [List.map_cons, List.cons.injEq] at h2
        have hx := ha x (List.mem_cons_self ..)
        have hy := hb y (List.mem_cons_self ..)
        have e := congrArg UInt8.toNat h2.1
        simp only [UInt8.toNat_ofNat'] at e
        rw [ih (fun z hz => ha z (List.mem_cons_of_mem _ hz)) (fun z hz => hb z (List.mem_cons_of_mem _ hz)) h2.2]
        congr 1
        omega
  · rintro rfl; rfl
theorem byteArray_toList {a : ByteArray} : a.toList = a.data.toList := by
  have : ∀ (n i : Nat) (r : List UInt8), n = a.size - i → ByteArray.toList.loop a i r = r.reverse ++ a.data.toList.drop i := by
    intro n
    induction n with
    | zero =>
      intro i r h
      unfold ByteArray.toList.loop
      have : ¬ i < a.size := by omega
      rw [if_neg this, List.drop_eq_nil_of_le (by rw [Array.length_toList]; exact Nat.not_lt.1 this)]
      simp
    | succ n ih =>
      intro i r h
      unfold ByteArray.toList.loop
      have hi : i < a.size := by omega
      rw [if_pos hi, ih (i + 1) _ (by omega)]
      have hi2 : i < a.data.toList.length := by rw [Array.length_toList]; exact hi
      rw [List.drop_eq_getElem_cons hi2]
      simp [ByteArray.get!]
      rw [getElem!_pos]
  rw [ByteArray.toList, this a.size 0 [] rfl]; simp
theorem str_beq {a b : ByteArray} : (a.toList == b.toList) = decide (a = b) := by
  rw [byteArray_toList, byteArray_toList, Bool.eq_iff_iff, beq_iff_eq, decide_eq_true_eq]
  constructor
  · intro h
    cases a; cases b
    simp only [Array.toList_inj] at h
    simp [h]
  · rintro rfl; rfl
end
end Go.Ab
