/- The abstract machine's operations, fifth part: copy, slices of slices, nil, conversions. -/
import Derived.Test.YtgffnmnkoohgkaaAbOps4
import Derived.Laws.BytesString
import Derived.Lib.ConvBytes
set_option linter.unusedSimpArgs false
set_option linter.unusedVariables false
namespace Go.Ab
open Go.RowKit (Below)
section
variable {P : Program} {N0 : Nat → Prop} {w0 : World} {m : LM} {M : Mem} {w : World}

/-! ### slices of slices -/
def nat? : Value → Option Nat
  | .int _ (.ofNat n) => some n
  | _ => none

theorem nat?_some {x : Value} {n : Nat} (h : nat? x = some n) : ∃ k, x = .int k (.ofNat n) := by
  unfold nat? at h
  split at h
  · obtain rfl := Option.some.inj h; exact ⟨_, rfl⟩
  · cases h

/-- A slice's bound, if it is given. -/
def bnd (d : Nat) : Option Value → Option Nat
  | none => some d
  | some v => nat? v

/-- Is there surely room for n elements? -/
def roomFor (used o size l c n : Nat) : Bool := Nat.ble n l || (bif Nat.beq c capU then Nat.ble (o + n * size) used else Nat.ble n c)

def aslice (P : Program) (t : TypeId) (M : Mem) (x : Value) (lo hi mx : Option Value) : Option Value :=
  match P.underlying t with
  | some (.slice e) =>
    match P.info? e with
    | some i =>
      match x with
      | .slice none 0 0 =>
        match bnd 0 lo, bnd 0 hi, mx with
        | some 0, some 0, none => some x
        | _, _, _ => none
      | .slice (some ⟨A, o, none⟩) l c =>
        bif Nat.beq l 0 && Nat.beq c 0 && mx.isNone then
          match bnd 0 lo, bnd 0 hi with
          | some 0, some 0 => some x
          | _, _ => none
        else
        match M.get A with
        | some (.cells cs esz _) =>
          gd (Nat.blt 0 i.size && Nat.beq esz i.size) <|
          match bnd 0 lo, bnd l hi with
          | some a, some b =>
            gd (Nat.ble a b) <|
            match mx with
            | none => gd (roomFor cs.length o i.size l c b && (Nat.beq c capU || !(Nat.beq (c - a) capU))) (some (.slice (some ⟨A, o + a * i.size, none⟩) (b - a) (bif Nat.beq c capU then capU else c - a)))
            | some v =>
              match nat? v, hi with
              | some k, some _ => gd (Nat.ble b k && roomFor cs.length o i.size l c k && !(Nat.beq (k - a) capU)) (some (.slice (some ⟨A, o + a * i.size, none⟩) (b - a) (k - a)))
              | _, _ => none
          | _, _ => none
        | _ => none
      | _ => none
    | none => none
  | _ => none

theorem sub_room {B o a cc s T : Nat} (ha : a ≤ cc) : (B + o + cc * s = T → B + (o + a * s) + (cc - a) * s = T) ∧ (B + o + cc * s ≤ T → B + (o + a * s) + (cc - a) * s ≤ T) := by
  have h1 : cc * s = a * s + (cc - a) * s := by rw [← Nat.add_mul]; congr 1; omega
  omega

theorem sliceBound_run {k : IntKind} {n y : Nat} (h : n ≤ y) (code : BoundsCode) (w : World) : (Instr.sliceBound (.int k (.ofNat n)) y code).run P w = .ok n w := by
  simp [Instr.sliceBound, asIntOf, h]

/-- Values of bounds: numbers, the same on both sides. -/
theorem bnd_lo {x y : Option Value} {d a : Nat} (hxy : x = y) (h : bnd d x = some a) : (y = none ∧ a = d) ∨ ∃ k, y = some (.int k (.ofNat a)) := by
  subst hxy
  cases x with
  | none => exact .inl ⟨rfl, (Option.some.inj h).symm⟩
  | some v => obtain ⟨k, rfl⟩ := nat?_some h; exact .inr ⟨k, rfl⟩

theorem bounds_run {len cap a b c : Nat} {lo hi mx : Option Value} (ha : bnd 0 lo = some a) (hb : bnd len hi = some b) (hab : a ≤ b)
    (hm : (mx = none ∧ c = cap ∧ b ≤ cap) ∨ (∃ k, mx = some (.int k (.ofNat c)) ∧ c ≤ cap ∧ b ≤ c ∧ hi.isSome = true)) (w : World) :
    (Instr.sliceBounds true len cap lo hi mx).run P w = .ok (a, b, c) w := by
  rcases hm with ⟨rfl, rfl, hbc⟩ | ⟨k, rfl, hc, hbc, hsome⟩
  · rcases bnd_lo rfl ha with ⟨rfl, rfl⟩ | ⟨k1, rfl⟩ <;> rcases bnd_lo rfl hb with ⟨rfl, rfl⟩ | ⟨k2, rfl⟩ <;>
      simp [Instr.sliceBounds, Instr.sliceBound, asIntOf, hbc, hab]
  · rcases bnd_lo rfl hb with ⟨rfl, rfl⟩ | ⟨k2, rfl⟩
    · simp at hsome
    · rcases bnd_lo rfl ha with ⟨rfl, rfl⟩ | ⟨k1, rfl⟩ <;> simp [Instr.sliceBounds, Instr.sliceBound, asIntOf, hc, hbc, hab]

theorem aslice_sound (hR : Rl N0 w0 m M w) {t : TypeId} {x y v : Value} {lo hi mx : Option Value} (hx : VRel m x y) (h : aslice P t M x lo hi mx = some v) :
    ∃ u, (Instr.sliceAt t y lo hi mx).run P w = .ok u w ∧ VRel m v u := by
  unfold aslice at h
  split at h
  · rename_i e ht
    split at h
    · rename_i i hi2
      split at h
      · cases hx
        split at h
        · rename_i hb0 hb1
          obtain rfl := Option.some.inj h
          refine ⟨.slice none 0 0, ?_, .sliceNil⟩
          have hr := bounds_run (P := P) (len := 0) (cap := 0) hb0 hb1 (Nat.le_refl _) (.inl ⟨rfl, rfl, Nat.le_refl _⟩) w
          simp [Instr.sliceAt, Instr.slice, run_underlying ht, hr, sizeOf, typeInfo, hi2]
        · cases h
      · rename_i A o l c
        cases hx with
        | slice _ _ _ _ L a' cc hL hl hc ha =>
        replace h := cond_split h
        rcases h with ⟨hz2, h⟩ | ⟨_, h⟩
        · simp only [Bool.and_eq_true, Option.isNone_iff_eq_none] at hz2
          obtain ⟨⟨hz1, hz2⟩, hz3⟩ := hz2
          obtain rfl := beq_eq hz1
          have hc0 := beq_eq hz2
          have hcc : cc = 0 := by
            rcases hc with ⟨h1, _⟩ | ⟨h1, _⟩
            · rw [hc0] at h1; exact absurd h1 (by decide)
            · omega
          subst hcc
          subst hc0
          subst hz3
          split at h
          · rename_i hb0 hb1
            obtain rfl := Option.some.inj h
            refine ⟨.slice (some a') 0 0, ?_, .slice A o 0 0 L a' 0 hL hl hc ha⟩
            have hr := bounds_run (P := P) (len := 0) (cap := 0) hb0 hb1 (Nat.le_refl _) (.inl ⟨rfl, rfl, Nat.le_refl _⟩) w
            simp [Instr.sliceAt, Instr.slice, run_underlying ht, hr, sizeOf, typeInfo, hi2]
          · cases h
        split at h
        · rename_i cs esz ro hA
          replace h := gd_some h; obtain ⟨hg, h⟩ := h
          simp only [Bool.and_eq_true] at hg
          have hpos := blt_iff.1 hg.1
          obtain rfl := beq_eq hg.2
          obtain ⟨L0, hL0, hO⟩ := hR.obj A _ hA
          obtain rfl : L0 = L := Option.some.inj (hL0.symm.trans hL)
          have hesz : L0.esz = i.size := hO.1
          have hused : L0.base + cs.length ≤ L0.top := by
            obtain ⟨_, _, arr, e', fz, hh, h4, h5, _⟩ := hO; exact h5
          have room : ∀ n, roomFor cs.length o i.size l c n = true → n ≤ cc := by
            intro n hn
            unfold roomFor at hn
            simp only [Bool.or_eq_true] at hn
            rcases hn with hn | hn
            · have := ble_le hn; omega
            · by_cases e : c = capU
              · rw [beqT e] at hn
                simp only [cond_true] at hn
                have := ble_le hn
                rcases hc with ⟨_, hc⟩ | ⟨_, hc2, _⟩
                · rw [hesz] at hc
                  have : n * i.size ≤ cc * i.size := by omega
                  exact Nat.le_of_mul_le_mul_right this hpos
                · exact absurd e hc2
              · rw [beqF e] at hn
                simp only [cond_false] at hn
                have := ble_le hn
                rcases hc with ⟨hc, _⟩ | ⟨hc, _, _⟩
                · exact absurd hc e
                · omega
          split at h
          · rename_i a b hlo hhi
            replace h := gd_some h; obtain ⟨hab, h⟩ := h
            have hab := ble_le hab
            split at h
            · replace h := gd_some h; obtain ⟨hg, h⟩ := h
              simp only [Bool.and_eq_true] at hg
              have hb := room b hg.1
              obtain rfl := Option.some.inj h
              have hr := bounds_run (P := P) (len := l) (cap := cc) hlo hhi hab (.inl ⟨rfl, rfl, hb⟩) w
              refine ⟨.slice (if cc = a then some a' else some (a'.add (a * i.size))) (b - a) (cc - a), ?_, ?_⟩
              · simp [Instr.sliceAt, Instr.slice, run_underlying ht, hr, sizeOf, typeInfo, hi2]
              · have hac : a ≤ cc := by omega
                have hsr := @sub_room L0.base o a cc i.size L0.top hac
                have e1 : (if cc = a then some a' else some (a'.add (a * i.size))) = some (if cc = a then a' else a'.add (a * i.size)) := by split <;> rfl
                rw [e1]
                refine .slice A (o + a * i.size) (b - a) _ L0 _ (cc - a) hL (by omega) ?_ ?_
                · rw [hesz] at hc ⊢
                  rcases hc with ⟨hc, hc2⟩ | ⟨hc, hcn, hc2⟩
                  · rw [beqT hc]; exact .inl ⟨rfl, hsr.1 hc2⟩
                  · rw [beqF hcn]
                    have hne : c - a ≠ capU := by
                      intro e; have := hg.2; rw [beqT e, beqF hcn] at this; cases this
                    subst hc
                    exact .inr ⟨rfl, hne, hsr.2 hc2⟩
                · split
                  · right; omega
                  · left
                    have : a' = ⟨L0.blk, L0.base + o, none⟩ := ha.resolve_right (by omega)
                    rw [this, Addr.add_eq, Nat.add_assoc]
            · rename_i v0
              split at h
              · rename_i k hv0 hk
                replace h := gd_some h; obtain ⟨hg, h⟩ := h
                simp only [Bool.and_eq_true] at hg
                obtain ⟨⟨g1, g2⟩, g3⟩ := hg
                have hbk := ble_le g1
                have hkc := room k g2
                obtain rfl := Option.some.inj h
                obtain ⟨kk, rfl⟩ := nat?_some hk
                have hr := bounds_run (P := P) (len := l) (cap := cc) hlo hhi hab (.inr ⟨kk, rfl, hkc, hbk, rfl⟩) w
                simp only [Int.ofNat_eq_natCast] at hr
                refine ⟨.slice (if k = a then some a' else some (a'.add (a * i.size))) (b - a) (k - a), ?_, ?_⟩
                · simp [Instr.sliceAt, Instr.slice, run_underlying ht, hr, sizeOf, typeInfo, hi2]
                · have hac : a ≤ k := by omega
                  have hsr := @sub_room L0.base o a k i.size L0.top hac
                  have e1 : (if k = a then some a' else some (a'.add (a * i.size))) = some (if k = a then a' else a'.add (a * i.size)) := by split <;> rfl
                  rw [e1]
                  refine .slice A (o + a * i.size) (b - a) _ L0 _ (k - a) hL (by omega) ?_ ?_
                  · rw [hesz] at hc ⊢
                    have hne : k - a ≠ capU := by
                      intro e; have := g3; rw [beqT e] at this; cases this
                    have hmul : k * i.size ≤ cc * i.size := Nat.mul_le_mul_right _ hkc
                    refine .inr ⟨rfl, hne, hsr.2 ?_⟩
                    rcases hc with ⟨hc, hc2⟩ | ⟨hc, hcn, hc2⟩ <;> omega
                  · split
                    · right; omega
                    · left
                      have : a' = ⟨L0.blk, L0.base + o, none⟩ := ha.resolve_right (by omega)
                      rw [this, Addr.add_eq, Nat.add_assoc]
              · cases h
          · cases h
        · cases h
      · cases h
    · cases h
  · cases h

/-! ### copy -/
def acopy (P : Program) (t : TypeId) (M : Mem) (d x : Value) : Option (Value × Mem) :=
  match P.underlying t with
  | some (.slice e) =>
    match P.info? e with
    | some i =>
      match d, x with
      | .slice (some ⟨A, o, none⟩) l _, .slice (some ⟨B, p, none⟩) k _ =>
        let n := Nat.min k l
        bif Nat.beq n 0 then some (goInt 0, M)
        else
          match M.get A, M.get B with
          | some (.cells ds esz ro), some (.cells cs esz' _) =>
            let xs := (cs.drop p).take (n * i.size)
            gd (Nat.beq esz i.size && Nat.beq esz' i.size && Nat.beq xs.length (n * i.size) && Nat.ble (o + n * i.size) ds.length && xs.all one && !ro)
              (some (goInt n, M.set A (.cells (splice ds o xs) esz false)))
          | _, _ => none
      | .slice none 0 0, .slice _ _ _ | .slice _ _ _, .slice none 0 0 => some (goInt 0, M)
      | _, _ => none
    | none => none
  | _ => none

theorem copy_zero_run {t tx ty e : TypeId} {i : TypeInfo} (ht : P.underlying t = some (.slice e)) (hi : P.info? e = some i) (d a : Option Addr) (dl dc sl sc : Nat) (hn : Nat.min sl dl = 0) :
    (Builtin.copy_ #[t, tx] ty #[.slice d dl dc, .slice a sl sc]).run P w = .ok (goInt 0) w := by
  have hl : ∀ (x : Addr), (loadCells x 0).run P w = .ok #[] w := fun x => by simpa using run_loadCells_list (P := P) w x [] (by simp)
  cases d <;> cases a <;> simp [Builtin.copy_, run_underlying ht, Builtin.lenOf, Builtin.firstCells, sizeOf, typeInfo, hi, hn, storeCells, hl]

theorem acopy_sound (hR : Rl N0 w0 m M w) {t tx ty : TypeId} {d d' x x' v : Value} {M' : Mem} (hd : VRel m d d') (hx : VRel m x x') (h : acopy P t M d x = some (v, M')) :
    ∃ u w', (Builtin.copy_ #[t, tx] ty #[d', x']).run P w = .ok u w' ∧ VRel m v u ∧ Rl N0 w0 m M' w' := by
  unfold acopy at h
  split at h
  · rename_i e ht
    split at h
    · rename_i i hi
      split at h
      · rename_i A o l c1 B p k c2
        cases hd with
        | slice _ _ _ _ LA a' ca hLA hla hca haa =>
        cases hx with
        | slice _ _ _ _ LB b' cb hLB hlb hcb hab =>
        replace h := cond_split h; rcases h with ⟨hn, h⟩ | ⟨hn, h⟩
        · have hn := beq_eq hn
          simp only [Option.some.injEq, Prod.mk.injEq] at h
          obtain ⟨rfl, rfl⟩ := h
          exact ⟨_, w, copy_zero_run ht hi _ _ _ _ _ _ hn, .int _ _, hR⟩
        · have hn0 : Nat.min k l ≠ 0 := fun e => by rw [beqT e] at hn; cases hn
          have hk1 : Nat.min k l ≤ k := Nat.min_le_left _ _
          have hk2 : Nat.min k l ≤ l := Nat.min_le_right _ _
          split at h
          · rename_i ds esz ro cs esz' ro' hA hB
            replace h := gd_some h; obtain ⟨hg, h⟩ := h
            simp only [Bool.and_eq_true] at hg
            obtain ⟨⟨⟨⟨⟨g1, g2⟩, g3⟩, g4⟩, g5⟩, g6⟩ := hg
            obtain rfl := beq_eq g1
            obtain rfl := beq_eq g2
            have g3 := beq_eq g3
            have g4 := ble_le g4
            have hro : ro = false := by simpa using g6
            subst hro
            simp only [Option.some.injEq, Prod.mk.injEq] at h
            obtain ⟨rfl, rfl⟩ := h
            obtain ⟨L0, hL0, hO⟩ := hR.obj A _ hA
            obtain rfl : L0 = LA := Option.some.inj (hL0.symm.trans hLA)
            obtain ⟨L1, hL1, hO1⟩ := hR.obj B _ hB
            obtain rfl : L1 = LB := Option.some.inj (hL1.symm.trans hLB)
            obtain ⟨us, hu1, hu2⟩ := hO1.range p (Nat.min k l * i.size)
            have ha' : a' = ⟨L0.blk, L0.base + o, none⟩ := haa.resolve_right (by omega)
            have hb' : b' = ⟨L1.blk, L1.base + p, none⟩ := hab.resolve_right (by omega)
            subst ha'; subst hb'
            have hul : us.length = Nat.min k l * i.size := by rw [← hu2.1]; exact g3
            have hfc := run_firstCells_some (P := P) w i.size (Nat.min k l) ⟨L1.blk, L1.base + p, none⟩ k cb us hul (fun j v hj => by rw [Addr.add_eq]; exact hu1 j v hj)
            have hused : L0.base + ds.length ≤ L0.top := by
              obtain ⟨_, _, arr, e', fz, hh, h4, h5, _⟩ := hO; exact h5
            have hth := hO.there o us.length (by omega)
            have hst := run_storeCells_cells (P := P) L0.blk (L0.base + o) us 0 w (fun j hj => by simpa using (hth j hj).1) (fun j hj => by simpa using (hth j hj).2) (hu2.all_one g5)
            simp only [Nat.add_zero] at hst
            refine ⟨goInt (Nat.min k l), w.setCells L0.blk (L0.base + o) us, ?_, .int _ _, hR.write hA rfl hLA (Agree.setCells _ _ _ _) (hO.over (by omega) hu2 (by omega))⟩
            simp [Builtin.copy_, run_underlying ht, Builtin.lenOf, sizeOf, typeInfo, hi, hfc, hst]
          · cases h
      · cases hd
        simp only [Option.some.injEq, Prod.mk.injEq] at h
        obtain ⟨rfl, rfl⟩ := h
        cases hx with
        | sliceNil => exact ⟨_, w, copy_zero_run ht hi _ _ _ _ _ _ rfl, .int _ _, hR⟩
        | slice _ _ k _ LB b' cb hLB hlb hcb hab => exact ⟨_, w, copy_zero_run ht hi _ _ _ _ _ _ (Nat.min_zero _), .int _ _, hR⟩
      · cases hx
        simp only [Option.some.injEq, Prod.mk.injEq] at h
        obtain ⟨rfl, rfl⟩ := h
        cases hd with
        | sliceNil => exact ⟨_, w, copy_zero_run ht hi _ _ _ _ _ _ rfl, .int _ _, hR⟩
        | slice _ _ k _ LB b' cb hLB hlb hcb hab => exact ⟨_, w, copy_zero_run ht hi _ _ _ _ _ _ (Nat.zero_min _), .int _ _, hR⟩
      · cases h
    · cases h
  · cases h
end

end Go.Ab
