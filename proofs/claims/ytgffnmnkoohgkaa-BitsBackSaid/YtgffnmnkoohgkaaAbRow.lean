/- The abstract machine: a run from an empty memory, in the model's words; a call whose memory is forgotten. -/
import Derived.Test.YtgffnmnkoohgkaaAbRun
set_option linter.unusedSimpArgs false
set_option linter.unusedVariables false
namespace Go.Ab
open Go.RowKit (Below)

theorem Rl.start (w : World) : Rl (fun k => k < w.heap.size) w ⟨fun A => if A < 8 then some ⟨A, 0, 0, 0⟩ else none, 8, w.heap.size⟩ Mem.empty w := by
  refine ⟨Fr.refl _ w, fun k hk => hk, fun g hg => ⟨⟨g, 0, 0, 0⟩, if_pos hg, rfl, rfl⟩, fun A o hA => ?_, fun A B oA oB LA LB _ hA => ?_, fun A hA => ⟨Tr.get_leaf A, if_neg (Nat.not_lt.2 hA)⟩, rfl, Nat.le_refl _⟩
  · rw [show Mem.empty.get A = none from Tr.get_leaf A] at hA; cases hA
  · rw [show Mem.empty.get A = none from Tr.get_leaf A] at hA; cases hA

theorem LRel.flat_eq {m : LM} {xs us : List Value} (h : LRel m xs us) (hf : xs.all (flat 4) = true) : us = xs := by
  apply List.ext_getElem h.1.symm
  intro i h1 h2
  exact (h.2 i xs[i] us[i] (List.getElem?_eq_getElem h2) (List.getElem?_eq_getElem h1)).flat_eq 4 (List.all_eq_true.1 hf _ (List.getElem_mem h2))

theorem LRel.of_flat (m : LM) {xs : List Value} (hf : xs.all (flat 4) = true) : LRel m xs xs :=
  ⟨rfl, fun i v u a b => by
    rw [a] at b; obtain rfl := Option.some.inj b
    exact .of_flat m 4 v (List.all_eq_true.1 hf v (List.mem_of_getElem? a))⟩

/-- A call of plain values, from any world. -/
theorem CallOk.calls {P : Program} {f : FuncId} {args : List Value} {v : Value} {M' : Mem} (h : CallOk P f args Mem.empty v M') (ha : args.all (flat 4) = true) (hv : flat 4 v = true) (w : World) :
    Calls P f args.toArray w fun e w' => e = .returned v ∧ Below w.heap.size w w' := by
  refine (h _ w _ w args.toArray (Rl.start w) (by simpa using LRel.of_flat _ ha)).mono fun e w' he => ?_
  obtain ⟨u, m', rfl, _, h2, h3⟩ := he
  rw [h2.flat_eq 4 hv]
  exact ⟨rfl, h3.fr.below⟩

/-- The memory that it made is forgotten. -/
theorem CallOk.alone {P : Program} {f : FuncId} {args : List Value} {v : Value} {M' : Mem} (h : CallOk P f args Mem.empty v M') (ha : args.all (flat 4) = true) (hv : flat 4 v = true) (M : Mem) :
    CallOk P f args M v M := by
  intro N0 w0 m w args' hR hA
  have he := hA.flat_eq ha
  have : args' = args.toArray := by apply Array.ext'; simpa using he
  subst this
  refine (h.calls ha hv w).mono fun e w' h2 => ?_
  obtain ⟨rfl, hb⟩ := h2
  refine ⟨v, m, rfl, LM.le_refl m, .of_flat m 4 v hv, hR.same (b := w.heap.size) ⟨?_, ?_, ?_, ?_, ?_⟩ (Nat.le_refl _)⟩
  · exact hb.os
  · exact hb.tape
  · exact hb.output
  · exact hb.size
  · intro k _ hk; exact hb.block k hk

end Go.Ab
