/- The abstract machine's memory: parts of it hidden from a call, and shown again. -/
import Derived.Test.YtgffnmnkoohgkaaAbMem
set_option linter.unusedSimpArgs false
set_option linter.unusedVariables false
namespace Go.Ab
open Go.RowKit (Below)

section
variable {N0 : Nat → Prop} {w0 : World} {m m' : LM} {M M' M1 M2 : Mem} {w w' w1 : World}

theorem ORel.of_block {L : Loc} {o : AObj} (h : ORel N0 m w L o) (he : w'.heap[L.blk]? = w.heap[L.blk]?) (hm : m.sub m') : ORel N0 m' w' L o := by
  cases o with
  | cells cs esz ro =>
    obtain ⟨h1, h2, arr, e, fz, hh, h4, h5, h6, h7⟩ := h
    exact ⟨h1, by rw [hm.bt]; exact h2, arr, e, fz, by rw [he]; exact hh, h4, h5, h6, fun i v hv => let ⟨u, a, c⟩ := h7 i v hv; ⟨u, a, c.mono hm⟩⟩
  | map es clock =>
    obtain ⟨h1, es', hh, h2, h3⟩ := h
    exact ⟨by rw [hm.bt]; exact h1, es', by rw [he]; exact hh, h2, fun i x y a c => let ⟨p, q, r⟩ := h3 i x y a c; ⟨p.mono hm, q.mono hm, r⟩⟩

theorem ORel.frame {K : Nat → Prop} {L : Loc} {o : AObj} (h : ORel N0 m w L o) (hk : o.rw = true → ¬ K L.blk) : ORel K m w L o := by
  cases o with
  | cells cs esz ro =>
    obtain ⟨h1, h2, h3⟩ := h
    exact ⟨h1, ⟨h2.1, fun hr => ⟨hk (by simpa [AObj.rw] using hr), (h2.2 hr).2⟩⟩, h3⟩
  | map es clock =>
    obtain ⟨h1, h3⟩ := h
    exact ⟨⟨hk rfl, h1.2⟩, h3⟩

theorem Rl.sub (h : Rl N0 w0 m M w) (hn : M'.next = M.next) (hs : ∀ A o, M'.get A = some o → M.get A = some o) : Rl N0 w0 m M' w := by
  refine ⟨h.fr, h.n0, h.glob, fun A o hA => h.obj A o (hs A o hA), fun A B oA oB LA LB hne hA hB => h.inj A B oA oB LA LB hne (hs _ _ hA) (hs _ _ hB), fun A hA => ?_, hn.trans h.nx, h.bt⟩
  have := h.fresh A (hn ▸ hA)
  refine ⟨?_, this.2⟩
  cases hg : M'.get A with
  | none => rfl
  | some o => rw [hs A o hg] at this; exact this.1

/-- The blocks that a part of memory leaves out. -/
def Hid (N0 : Nat → Prop) (m : LM) (M M' : Mem) (k : Nat) : Prop := N0 k ∨ ∃ A o L, M.get A = some o ∧ o.rw = true ∧ M'.get A = none ∧ m A = some L ∧ k = L.blk

theorem Rl.hide (h : Rl N0 w0 m M w) (hn : M'.next = M.next) (hs : ∀ A o, M'.get A = some o → M.get A = some o) : Rl (Hid N0 m M M') w m M' w := by
  have h2 := h.sub hn hs
  refine ⟨Fr.refl _ w, fun k hk => ?_, h.glob, fun A o hA => ?_, h2.inj, h2.fresh, h2.nx, h2.bt⟩
  · rcases hk with hk | ⟨A, o, L, h1, h3, h4, h5, rfl⟩
    · exact h.n0 k hk
    · obtain ⟨L', hL', ho⟩ := h.obj A o h1
      obtain rfl := Option.some.inj (hL'.symm.trans h5)
      exact ho.lt
  · obtain ⟨L, hL, ho⟩ := h2.obj A o hA
    refine ⟨L, hL, ho.frame fun hr hk => ?_⟩
    rcases hk with hk | ⟨B, oB, LB, h1, h3, h4, h5, h6⟩
    · exact (ho.ge hr).1 hk
    · have hne : A ≠ B := fun e => by subst e; rw [hA] at h4; cases h4
      exact h.inj A B o oB L LB hne (hs A o hA) h1 hr hL h5 h6

theorem Rl.unhide (h : Rl N0 w0 m M w) (hro : ∀ A o, M.get A = some o → M'.get A = none → o.rw = true)
    (hm : m.le m') (h1 : Rl (Hid N0 m M M') w m' M1 w1)
    (hn : M2.next = M1.next) (hout : ∀ A o, M.get A = some o → M'.get A = none → M1.get A = none ∧ M2.get A = some o)
    (hin : ∀ A, (∀ o, M.get A = some o → M'.get A ≠ none) → M2.get A = M1.get A) : Rl N0 w0 m' M2 w1 := by
  have hsplit : ∀ A o, M2.get A = some o → (M.get A = some o ∧ M'.get A = none ∧ M1.get A = none) ∨ M1.get A = some o := by
    intro A o hA
    by_cases hc : ∃ o', M.get A = some o' ∧ M'.get A = none
    · obtain ⟨o', a, b⟩ := hc
      obtain ⟨c, d⟩ := hout A o' a b
      rw [d] at hA
      obtain rfl := Option.some.inj hA
      exact .inl ⟨a, b, c⟩
    · right
      rw [← hin A fun o' a b => hc ⟨o', a, b⟩]; exact hA
  have hsame : ∀ A o L, M.get A = some o → M'.get A = none → m A = some L → w1.heap[L.blk]? = w.heap[L.blk]? :=
    fun A o L a b c => h1.fr.block _ (.inr ⟨A, o, L, a, hro A o a b, b, c, rfl⟩)
  refine ⟨h.fr.trans ⟨h1.fr.os, h1.fr.tape, h1.fr.output, h1.fr.size, fun k hk => h1.fr.block k (.inl hk)⟩, fun k hk => h1.n0 k (.inl hk), h1.glob, fun A o hA => ?_, fun A B oA oB LA LB hne hA hB rA mA mB => ?_, fun A hA => ?_, hn.trans h1.nx, h1.bt⟩
  · rcases hsplit A o hA with ⟨a, b, c⟩ | a
    · obtain ⟨L, hL, ho⟩ := h.obj A o a
      exact ⟨L, hm.sub.to _ _ hL, ho.of_block (hsame A o L a b hL) hm.sub⟩
    · obtain ⟨L, hL, ho⟩ := h1.obj A o a
      exact ⟨L, hL, ho.frame fun hr hk => (ho.ge hr).1 (.inl hk)⟩
  · rcases hsplit A oA hA with ⟨a1, a2, a3⟩ | a
    · obtain ⟨L, hL, ho⟩ := h.obj A oA a1
      obtain rfl := Option.some.inj ((hm.sub.to _ _ hL).symm.trans mA)
      rcases hsplit B oB hB with ⟨b1, b2, b3⟩ | b
      · obtain ⟨L', hL', ho'⟩ := h.obj B oB b1
        obtain rfl := Option.some.inj ((hm.sub.to _ _ hL').symm.trans mB)
        exact h.inj A B oA oB L L' hne a1 b1 rA hL hL'
      · -- a hidden block, and one of the call's
        obtain ⟨LB', hLB', hoB⟩ := h1.obj B oB b
        obtain rfl := Option.some.inj (hLB'.symm.trans mB)
        intro e
        by_cases hr : oB.rw = true
        · exact (hoB.ge hr).1 (.inr ⟨A, oA, L, a1, rA, a2, hL, e.symm⟩)
        · have hge := (ho.ge rA).2
          have hlt : LB'.blk < m'.bot := by
            cases oB with
            | cells cs esz ro => exact hoB.2.1.1 (by simpa [AObj.rw] using hr)
            | map es clock => exact absurd rfl hr
          rw [hm.sub.bt] at hlt
          omega
    · obtain ⟨LA', hLA', hoA⟩ := h1.obj A oA a
      obtain rfl := Option.some.inj (hLA'.symm.trans mA)
      rcases hsplit B oB hB with ⟨b1, b2, b3⟩ | b
      · obtain ⟨L', hL', ho'⟩ := h.obj B oB b1
        obtain rfl := Option.some.inj ((hm.sub.to _ _ hL').symm.trans mB)
        intro e
        exact (hoA.ge rA).1 (.inr ⟨B, oB, L', b1, hro B oB b1 b2, b2, hL', e⟩)
      · exact h1.inj A B oA oB LA' LB hne a b rA mA mB
  · have hA1 : M1.next ≤ A := hn ▸ hA
    have hf := h1.fresh A hA1
    refine ⟨?_, hf.2⟩
    cases hg : M2.get A with
    | none => rfl
    | some o =>
      rcases hsplit A o hg with ⟨a, b, c⟩ | a
      · obtain ⟨L, hL, _⟩ := h.obj A o a
        rw [hm.sub.to _ _ hL] at hf; exact absurd hf.2 (by simp)
      · rw [a] at hf; exact absurd hf.1 (by simp)

/-- A new block at a name that was kept for it. -/
def LM.at (m : LM) (A : Nat) (L : Loc) : LM := ⟨fun B => if B = A then some L else m B, m.next, m.bot⟩
theorem LM.sub_at {m : LM} {A : Nat} {L : Loc} (h : m A = none) : m.sub (m.at A L) := by
  refine ⟨fun B K hB => ?_, rfl⟩
  show (if B = A then some L else m B) = some K
  split
  · rename_i e; subst e; rw [h] at hB; cases hB
  · exact hB
theorem LM.at_self (m : LM) (A : Nat) (L : Loc) : (m.at A L) A = some L := if_pos rfl
theorem LM.at_ne (m : LM) {A B : Nat} (L : Loc) (h : B ≠ A) : (m.at A L) B = m B := if_neg h

theorem Rl.newAt (h : Rl N0 w0 m M w) {A : Nat} {o : AObj} {L : Loc} {b : Nat} (hA : A < M.next) (hmA : m A = none) (ha : Agree b w w') (hb : w.heap.size ≤ b) (hL : w.heap.size ≤ L.blk)
    (ho : ORel N0 (m.at A L) w' L o) (hn : M'.next = M.next) (hg : ∀ B, M'.get B = if B = A then some o else M.get B) : Rl N0 w0 (m.at A L) M' w' := by
  have hle : m.sub (m.at A L) := LM.sub_at hmA
  refine ⟨ha.fr (fun e => by have := h.n0 _ e; omega) h.n0 h.fr, fun k hk => Nat.lt_of_lt_of_le (h.n0 k hk) ha.size, h.glob.mono hle, fun B oB hB => ?_, fun B C oB oC LB LC hne hB hC rB mB mC => ?_, fun B hB => ?_, hn.trans h.nx, Nat.le_trans h.bt ha.size⟩
  · rw [hg] at hB
    split at hB
    · rename_i e; subst e; obtain rfl := Option.some.inj hB; exact ⟨L, LM.at_self _ _ _, ho⟩
    · obtain ⟨LB, hLB, hoB⟩ := h.obj B oB hB
      exact ⟨LB, hle.to _ _ hLB, hoB.keep ha (by have := hoB.lt; omega) hle⟩
  · rw [hg] at hB hC
    split at hB <;> split at hC
    · rename_i e1 e2; exact absurd (e1.trans e2.symm) hne
    · rename_i e1 e2
      subst e1
      rw [LM.at_self] at mB; rw [LM.at_ne m L e2] at mC
      obtain rfl := Option.some.inj mB
      obtain ⟨L1, hL1, ho1⟩ := h.obj C oC hC
      obtain rfl := Option.some.inj (hL1.symm.trans mC)
      have := ho1.lt; omega
    · rename_i e1 e2
      subst e2
      rw [LM.at_self] at mC; rw [LM.at_ne m L e1] at mB
      obtain rfl := Option.some.inj mC
      obtain ⟨L1, hL1, ho1⟩ := h.obj B oB hB
      obtain rfl := Option.some.inj (hL1.symm.trans mB)
      have := ho1.lt; omega
    · rename_i e1 e2
      rw [LM.at_ne m L e1] at mB; rw [LM.at_ne m L e2] at mC
      exact h.inj B C oB oC LB LC hne hB hC rB mB mC
  · rw [hn] at hB
    rw [hg, if_neg (by omega), LM.at_ne m L (by omega)]
    exact h.fresh B hB

/-- More names are kept. -/
theorem Rl.bump (h : Rl N0 w0 m M w) (n : Nat) : Rl N0 w0 ⟨m.f, m.next + n, m.bot⟩ ⟨M.next + n, M.tbl⟩ w :=
  ⟨h.fr, h.n0, h.glob, fun A o hA => let ⟨L, a, b⟩ := h.obj A o hA; ⟨L, a, b.of_block rfl ⟨fun _ _ h => h, rfl⟩⟩, h.inj,
    fun A hA => h.fresh A (by have : M.next + n ≤ A := hA; omega), congrArg (· + n) h.nx, h.bt⟩

theorem Rl.same_get (h : Rl N0 w0 m M w) (hn : M'.next = M.next) (hg : ∀ A, M'.get A = M.get A) : Rl N0 w0 m M' w :=
  h.sub hn fun A o hA => by rw [← hg]; exact hA
end

end Go.Ab
