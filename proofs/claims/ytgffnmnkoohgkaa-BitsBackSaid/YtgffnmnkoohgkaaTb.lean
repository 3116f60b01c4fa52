/- The tables of this program's types and functions: printed by wip/tools/Tab.lean. -/
import Derived.Test.YtgffnmnkoohgkaaAbN
import Derived.Test.YtgffnmnkoohgkaaChecked
import Derived.KernelRfl
set_option linter.unusedSimpArgs false
set_option linter.unusedVariables false
namespace Go.Ab
open Go.Proofs
set_option maxRecDepth 100000
theorem tk0 : tk Try.prog 0 = some (false, 1) := by kernel_rfl
theorem sz0 : sz Try.prog 0 = some 1 := by kernel_rfl
theorem tk1 : tk Try.prog 1 = some (false, 1) := by kernel_rfl
theorem sz1 : sz Try.prog 1 = some 1 := by kernel_rfl
theorem if1 : isFun (Try.prog.underlying 1) = true := by kernel_rfl
theorem az1 : azero Try.prog 1 = some (.nilFunc) := by kernel_rfl
theorem ez1 : ez Try.prog 1 = some (1, 8, [.nilFunc]) := by kernel_rfl
theorem tk2 : tk Try.prog 2 = some (false, 1) := by kernel_rfl
theorem sz2 : sz Try.prog 2 = some 1 := by kernel_rfl
theorem ns2 : isSli (Try.prog.underlying 2) = false := by kernel_rfl
theorem az2 : azero Try.prog 2 = some (.int .i64 0) := by kernel_rfl
theorem ez2 : ez Try.prog 2 = some (1, 8, [.int .i64 0]) := by kernel_rfl
theorem tk3 : tk Try.prog 3 = some (false, 1) := by kernel_rfl
theorem sz3 : sz Try.prog 3 = some 1 := by kernel_rfl
theorem ns3 : isSli (Try.prog.underlying 3) = false := by kernel_rfl
theorem az3 : azero Try.prog 3 = some (.int .i64 0) := by kernel_rfl
theorem ez3 : ez Try.prog 3 = some (1, 8, [.int .i64 0]) := by kernel_rfl
theorem tk4 : tk Try.prog 4 = some (false, 1) := by kernel_rfl
theorem sz4 : sz Try.prog 4 = some 1 := by kernel_rfl
theorem az4 : azero Try.prog 4 = some (.bool false) := by kernel_rfl
theorem ez4 : ez Try.prog 4 = some (1, 1, [.bool false]) := by kernel_rfl
theorem tk5 : tk Try.prog 5 = some (false, 1) := by kernel_rfl
theorem sz5 : sz Try.prog 5 = some 1 := by kernel_rfl
theorem ns5 : isSli (Try.prog.underlying 5) = false := by kernel_rfl
theorem az5 : azero Try.prog 5 = some (.int .u8 0) := by kernel_rfl
theorem ez5 : ez Try.prog 5 = some (1, 1, [.int .u8 0]) := by kernel_rfl
theorem tk6 : tk Try.prog 6 = some (false, 1) := by kernel_rfl
theorem sz6 : sz Try.prog 6 = some 1 := by kernel_rfl
theorem ns6 : isSli (Try.prog.underlying 6) = false := by kernel_rfl
theorem az6 : azero Try.prog 6 = some (.int .u8 0) := by kernel_rfl
theorem ez6 : ez Try.prog 6 = some (1, 1, [.int .u8 0]) := by kernel_rfl
theorem tk7 : tk Try.prog 7 = some (true, 4) := by kernel_rfl
theorem sz7 : sz Try.prog 7 = some 4 := by kernel_rfl
theorem fo7_0 : fo Try.prog 7 0 = some (0, 2) := by kernel_rfl
theorem fo7_1 : fo Try.prog 7 1 = some (1, 3) := by kernel_rfl
theorem fo7_2 : fo Try.prog 7 2 = some (2, 4) := by kernel_rfl
theorem fo7_3 : fo Try.prog 7 3 = some (3, 6) := by kernel_rfl
theorem bd7 : bd Try.prog 7 = some ([.int .i64 0, .int .i64 0, .bool false, .int .u8 0], [(0, 1), (1, 1), (2, 1), (3, 1)]) := by kernel_rfl
theorem bu7 (ps : List (Nat × Value)) : abuild Try.prog 7 ps = bdK (some ([.int .i64 0, .int .i64 0, .bool false, .int .u8 0], [(0, 1), (1, 1), (2, 1), (3, 1)])) ps := abuild_bd bd7
theorem az7 : azero Try.prog 7 = some (.agg #[.int .i64 0, .int .i64 0, .bool false, .int .u8 0]) := by kernel_rfl
theorem ez7 : ez Try.prog 7 = some (4, 24, [.int .i64 0, .int .i64 0, .bool false, .int .u8 0]) := by kernel_rfl
theorem tk8 : tk Try.prog 8 = some (true, 4) := by kernel_rfl
theorem sz8 : sz Try.prog 8 = some 4 := by kernel_rfl
theorem fo8_0 : fo Try.prog 8 0 = some (0, 2) := by kernel_rfl
theorem fo8_1 : fo Try.prog 8 1 = some (1, 3) := by kernel_rfl
theorem fo8_2 : fo Try.prog 8 2 = some (2, 4) := by kernel_rfl
theorem fo8_3 : fo Try.prog 8 3 = some (3, 6) := by kernel_rfl
theorem bd8 : bd Try.prog 8 = some ([.int .i64 0, .int .i64 0, .bool false, .int .u8 0], [(0, 1), (1, 1), (2, 1), (3, 1)]) := by kernel_rfl
theorem bu8 (ps : List (Nat × Value)) : abuild Try.prog 8 ps = bdK (some ([.int .i64 0, .int .i64 0, .bool false, .int .u8 0], [(0, 1), (1, 1), (2, 1), (3, 1)])) ps := abuild_bd bd8
theorem az8 : azero Try.prog 8 = some (.agg #[.int .i64 0, .int .i64 0, .bool false, .int .u8 0]) := by kernel_rfl
theorem ez8 : ez Try.prog 8 = some (4, 24, [.int .i64 0, .int .i64 0, .bool false, .int .u8 0]) := by kernel_rfl
theorem tk9 : tk Try.prog 9 = some (false, 1) := by kernel_rfl
theorem sz9 : sz Try.prog 9 = some 1 := by kernel_rfl
theorem ns9 : isSli (Try.prog.underlying 9) = false := by kernel_rfl
theorem az9 : azero Try.prog 9 = some (.string ⟨#[]⟩) := by kernel_rfl
theorem ez9 : ez Try.prog 9 = some (1, 16, [.string ⟨#[]⟩]) := by kernel_rfl
theorem tk10 : tk Try.prog 10 = some (false, 1) := by kernel_rfl
theorem sz10 : sz Try.prog 10 = some 1 := by kernel_rfl
theorem ns10 : isSli (Try.prog.underlying 10) = false := by kernel_rfl
theorem az10 : azero Try.prog 10 = some (.string ⟨#[]⟩) := by kernel_rfl
theorem ez10 : ez Try.prog 10 = some (1, 16, [.string ⟨#[]⟩]) := by kernel_rfl
theorem tk11 : tk Try.prog 11 = some (false, 1) := by kernel_rfl
theorem sz11 : sz Try.prog 11 = some 1 := by kernel_rfl
theorem ns11 : isSli (Try.prog.underlying 11) = false := by kernel_rfl
theorem az11 : azero Try.prog 11 = some (.string ⟨#[]⟩) := by kernel_rfl
theorem ez11 : ez Try.prog 11 = some (1, 16, [.string ⟨#[]⟩]) := by kernel_rfl
theorem tk12 : tk Try.prog 12 = some (false, 1) := by kernel_rfl
theorem sz12 : sz Try.prog 12 = some 1 := by kernel_rfl
theorem ns12 : isSli (Try.prog.underlying 12) = false := by kernel_rfl
theorem az12 : azero Try.prog 12 = some (.int .u64 0) := by kernel_rfl
theorem ez12 : ez Try.prog 12 = some (1, 8, [.int .u64 0]) := by kernel_rfl
theorem tk13 : tk Try.prog 13 = some (true, 2) := by kernel_rfl
theorem sz13 : sz Try.prog 13 = some 2 := by kernel_rfl
theorem fo13_0 : fo Try.prog 13 0 = some (0, 9) := by kernel_rfl
theorem fo13_1 : fo Try.prog 13 1 = some (1, 12) := by kernel_rfl
theorem bd13 : bd Try.prog 13 = some ([.string ⟨#[]⟩, .int .u64 0], [(0, 1), (1, 1)]) := by kernel_rfl
theorem bu13 (ps : List (Nat × Value)) : abuild Try.prog 13 ps = bdK (some ([.string ⟨#[]⟩, .int .u64 0], [(0, 1), (1, 1)])) ps := abuild_bd bd13
theorem az13 : azero Try.prog 13 = some (.agg #[.string ⟨#[]⟩, .int .u64 0]) := by kernel_rfl
theorem ez13 : ez Try.prog 13 = some (2, 24, [.string ⟨#[]⟩, .int .u64 0]) := by kernel_rfl
theorem tk14 : tk Try.prog 14 = some (true, 2) := by kernel_rfl
theorem sz14 : sz Try.prog 14 = some 2 := by kernel_rfl
theorem fo14_0 : fo Try.prog 14 0 = some (0, 9) := by kernel_rfl
theorem fo14_1 : fo Try.prog 14 1 = some (1, 12) := by kernel_rfl
theorem bd14 : bd Try.prog 14 = some ([.string ⟨#[]⟩, .int .u64 0], [(0, 1), (1, 1)]) := by kernel_rfl
theorem bu14 (ps : List (Nat × Value)) : abuild Try.prog 14 ps = bdK (some ([.string ⟨#[]⟩, .int .u64 0], [(0, 1), (1, 1)])) ps := abuild_bd bd14
theorem az14 : azero Try.prog 14 = some (.agg #[.string ⟨#[]⟩, .int .u64 0]) := by kernel_rfl
theorem ez14 : ez Try.prog 14 = some (2, 24, [.string ⟨#[]⟩, .int .u64 0]) := by kernel_rfl
theorem tk15 : tk Try.prog 15 = some (false, 1) := by kernel_rfl
theorem sz15 : sz Try.prog 15 = some 1 := by kernel_rfl
theorem ip15 : isPtr (Try.prog.underlying 15) = true := by kernel_rfl
theorem az15 : azero Try.prog 15 = some (.pointer none) := by kernel_rfl
theorem ez15 : ez Try.prog 15 = some (1, 8, [.pointer none]) := by kernel_rfl
theorem tk16 : tk Try.prog 16 = some (false, 1) := by kernel_rfl
theorem sz16 : sz Try.prog 16 = some 1 := by kernel_rfl
theorem ip16 : isPtr (Try.prog.underlying 16) = true := by kernel_rfl
theorem az16 : azero Try.prog 16 = some (.pointer none) := by kernel_rfl
theorem ez16 : ez Try.prog 16 = some (1, 8, [.pointer none]) := by kernel_rfl
theorem tk17 : tk Try.prog 17 = some (false, 1) := by kernel_rfl
theorem sz17 : sz Try.prog 17 = some 1 := by kernel_rfl
theorem ip17 : isPtr (Try.prog.underlying 17) = true := by kernel_rfl
theorem az17 : azero Try.prog 17 = some (.pointer none) := by kernel_rfl
theorem ez17 : ez Try.prog 17 = some (1, 8, [.pointer none]) := by kernel_rfl
theorem tk18 : tk Try.prog 18 = some (true, 1) := by kernel_rfl
theorem sz18 : sz Try.prog 18 = some 1 := by kernel_rfl
theorem fo18_0 : fo Try.prog 18 0 = some (0, 17) := by kernel_rfl
theorem bd18 : bd Try.prog 18 = some ([.pointer none], [(0, 1)]) := by kernel_rfl
theorem bu18 (ps : List (Nat × Value)) : abuild Try.prog 18 ps = bdK (some ([.pointer none], [(0, 1)])) ps := abuild_bd bd18
theorem az18 : azero Try.prog 18 = some (.agg #[.pointer none]) := by kernel_rfl
theorem ez18 : ez Try.prog 18 = some (1, 8, [.pointer none]) := by kernel_rfl
theorem tk19 : tk Try.prog 19 = some (true, 1) := by kernel_rfl
theorem sz19 : sz Try.prog 19 = some 1 := by kernel_rfl
theorem fo19_0 : fo Try.prog 19 0 = some (0, 17) := by kernel_rfl
theorem bd19 : bd Try.prog 19 = some ([.pointer none], [(0, 1)]) := by kernel_rfl
theorem bu19 (ps : List (Nat × Value)) : abuild Try.prog 19 ps = bdK (some ([.pointer none], [(0, 1)])) ps := abuild_bd bd19
theorem az19 : azero Try.prog 19 = some (.agg #[.pointer none]) := by kernel_rfl
theorem ez19 : ez Try.prog 19 = some (1, 8, [.pointer none]) := by kernel_rfl
theorem tk20 : tk Try.prog 20 = some (false, 1) := by kernel_rfl
theorem sz20 : sz Try.prog 20 = some 1 := by kernel_rfl
theorem az20 : azero Try.prog 20 = some (.nilIface) := by kernel_rfl
theorem ez20 : ez Try.prog 20 = some (1, 16, [.nilIface]) := by kernel_rfl
theorem tk21 : tk Try.prog 21 = some (false, 1) := by kernel_rfl
theorem sz21 : sz Try.prog 21 = some 1 := by kernel_rfl
theorem ns21 : isSli (Try.prog.underlying 21) = false := by kernel_rfl
theorem az21 : azero Try.prog 21 = some (.int .i32 0) := by kernel_rfl
theorem ez21 : ez Try.prog 21 = some (1, 4, [.int .i32 0]) := by kernel_rfl
theorem tk22 : tk Try.prog 22 = some (false, 1) := by kernel_rfl
theorem sz22 : sz Try.prog 22 = some 1 := by kernel_rfl
theorem is22 : isSli (Try.prog.underlying 22) = true := by kernel_rfl
theorem el22 : el Try.prog 22 = some (true, 0, 5) := by kernel_rfl
theorem az22 : azero Try.prog 22 = some (.slice none 0 0) := by kernel_rfl
theorem ez22 : ez Try.prog 22 = some (1, 24, [.slice none 0 0]) := by kernel_rfl
theorem bs22 (M : Mem) (n : Nat) (ps : List (Nat × Value)) : abuildSlice Try.prog 22 n ps M = bsK (some (1, 1, [.int .u8 0])) n ps M := abuildSlice_ez el22 (by kernel_rfl)
theorem as22 {r : Env} {d : Option Tmp} {ty : TypeId} {p : String} {af : Array Edge} {g : Option (Nat × Bool)} {len id : Nat} {ps : Array (Nat × Operand)} : aAlloc Try.prog r ⟨d, .buildSlice 22 len ps, ty, p, af, g⟩ id = gd (ps.toList.all fun x => okOperand x.2) (bsA (some (1, 1, [.int .u8 0])) len (ps.toList.map fun x => (x.1, r.eval x.2)) id) := al_slice el22 (by kernel_rfl)
theorem tk23 : tk Try.prog 23 = some (false, 1) := by kernel_rfl
theorem sz23 : sz Try.prog 23 = some 1 := by kernel_rfl
theorem ip23 : isPtr (Try.prog.underlying 23) = true := by kernel_rfl
theorem az23 : azero Try.prog 23 = some (.pointer none) := by kernel_rfl
theorem ez23 : ez Try.prog 23 = some (1, 8, [.pointer none]) := by kernel_rfl
theorem tk24 : tk Try.prog 24 = some (false, 1) := by kernel_rfl
theorem sz24 : sz Try.prog 24 = some 1 := by kernel_rfl
theorem if24 : isFun (Try.prog.underlying 24) = true := by kernel_rfl
theorem az24 : azero Try.prog 24 = some (.nilFunc) := by kernel_rfl
theorem ez24 : ez Try.prog 24 = some (1, 8, [.nilFunc]) := by kernel_rfl
theorem tk25 : tk Try.prog 25 = some (false, 1) := by kernel_rfl
theorem sz25 : sz Try.prog 25 = some 1 := by kernel_rfl
theorem ns25 : isSli (Try.prog.underlying 25) = false := by kernel_rfl
theorem az25 : azero Try.prog 25 = some (.int .u64 0) := by kernel_rfl
theorem ez25 : ez Try.prog 25 = some (1, 8, [.int .u64 0]) := by kernel_rfl
theorem tk26 : tk Try.prog 26 = some (false, 1) := by kernel_rfl
theorem sz26 : sz Try.prog 26 = some 1 := by kernel_rfl
theorem if26 : isFun (Try.prog.underlying 26) = true := by kernel_rfl
theorem az26 : azero Try.prog 26 = some (.nilFunc) := by kernel_rfl
theorem ez26 : ez Try.prog 26 = some (1, 8, [.nilFunc]) := by kernel_rfl
theorem tk27 : tk Try.prog 27 = some (false, 1) := by kernel_rfl
theorem sz27 : sz Try.prog 27 = some 1 := by kernel_rfl
theorem ns27 : isSli (Try.prog.underlying 27) = false := by kernel_rfl
theorem az27 : azero Try.prog 27 = some (.int .i64 0) := by kernel_rfl
theorem ez27 : ez Try.prog 27 = some (1, 8, [.int .i64 0]) := by kernel_rfl
theorem tk28 : tk Try.prog 28 = some (false, 1) := by kernel_rfl
theorem sz28 : sz Try.prog 28 = some 1 := by kernel_rfl
theorem if28 : isFun (Try.prog.underlying 28) = true := by kernel_rfl
theorem az28 : azero Try.prog 28 = some (.nilFunc) := by kernel_rfl
theorem ez28 : ez Try.prog 28 = some (1, 8, [.nilFunc]) := by kernel_rfl
theorem tk29 : tk Try.prog 29 = some (false, 1) := by kernel_rfl
theorem sz29 : sz Try.prog 29 = some 1 := by kernel_rfl
theorem if29 : isFun (Try.prog.underlying 29) = true := by kernel_rfl
theorem az29 : azero Try.prog 29 = some (.nilFunc) := by kernel_rfl
theorem ez29 : ez Try.prog 29 = some (1, 8, [.nilFunc]) := by kernel_rfl
theorem tk30 : tk Try.prog 30 = some (false, 1) := by kernel_rfl
theorem sz30 : sz Try.prog 30 = some 1 := by kernel_rfl
theorem if30 : isFun (Try.prog.underlying 30) = true := by kernel_rfl
theorem az30 : azero Try.prog 30 = some (.nilFunc) := by kernel_rfl
theorem ez30 : ez Try.prog 30 = some (1, 8, [.nilFunc]) := by kernel_rfl
theorem tk31 : tk Try.prog 31 = some (false, 1) := by kernel_rfl
theorem sz31 : sz Try.prog 31 = some 1 := by kernel_rfl
theorem if31 : isFun (Try.prog.underlying 31) = true := by kernel_rfl
theorem az31 : azero Try.prog 31 = some (.nilFunc) := by kernel_rfl
theorem ez31 : ez Try.prog 31 = some (1, 8, [.nilFunc]) := by kernel_rfl
theorem tk32 : tk Try.prog 32 = some (false, 1) := by kernel_rfl
theorem sz32 : sz Try.prog 32 = some 1 := by kernel_rfl
theorem if32 : isFun (Try.prog.underlying 32) = true := by kernel_rfl
theorem az32 : azero Try.prog 32 = some (.nilFunc) := by kernel_rfl
theorem ez32 : ez Try.prog 32 = some (1, 8, [.nilFunc]) := by kernel_rfl
theorem tk33 : tk Try.prog 33 = some (false, 1) := by kernel_rfl
theorem sz33 : sz Try.prog 33 = some 1 := by kernel_rfl
theorem if33 : isFun (Try.prog.underlying 33) = true := by kernel_rfl
theorem az33 : azero Try.prog 33 = some (.nilFunc) := by kernel_rfl
theorem ez33 : ez Try.prog 33 = some (1, 8, [.nilFunc]) := by kernel_rfl
theorem tk34 : tk Try.prog 34 = some (false, 1) := by kernel_rfl
theorem sz34 : sz Try.prog 34 = some 1 := by kernel_rfl
theorem if34 : isFun (Try.prog.underlying 34) = true := by kernel_rfl
theorem az34 : azero Try.prog 34 = some (.nilFunc) := by kernel_rfl
theorem ez34 : ez Try.prog 34 = some (1, 8, [.nilFunc]) := by kernel_rfl
theorem tk35 : tk Try.prog 35 = some (false, 1) := by kernel_rfl
theorem sz35 : sz Try.prog 35 = some 1 := by kernel_rfl
theorem if35 : isFun (Try.prog.underlying 35) = true := by kernel_rfl
theorem az35 : azero Try.prog 35 = some (.nilFunc) := by kernel_rfl
theorem ez35 : ez Try.prog 35 = some (1, 8, [.nilFunc]) := by kernel_rfl
theorem tk36 : tk Try.prog 36 = some (false, 1) := by kernel_rfl
theorem sz36 : sz Try.prog 36 = some 1 := by kernel_rfl
theorem if36 : isFun (Try.prog.underlying 36) = true := by kernel_rfl
theorem az36 : azero Try.prog 36 = some (.nilFunc) := by kernel_rfl
theorem ez36 : ez Try.prog 36 = some (1, 8, [.nilFunc]) := by kernel_rfl
theorem tk37 : tk Try.prog 37 = some (false, 1) := by kernel_rfl
theorem sz37 : sz Try.prog 37 = some 1 := by kernel_rfl
theorem if37 : isFun (Try.prog.underlying 37) = true := by kernel_rfl
theorem az37 : azero Try.prog 37 = some (.nilFunc) := by kernel_rfl
theorem ez37 : ez Try.prog 37 = some (1, 8, [.nilFunc]) := by kernel_rfl
theorem tk38 : tk Try.prog 38 = some (false, 1) := by kernel_rfl
theorem sz38 : sz Try.prog 38 = some 1 := by kernel_rfl
theorem is38 : isSli (Try.prog.underlying 38) = true := by kernel_rfl
theorem el38 : el Try.prog 38 = some (true, 0, 3) := by kernel_rfl
theorem az38 : azero Try.prog 38 = some (.slice none 0 0) := by kernel_rfl
theorem ez38 : ez Try.prog 38 = some (1, 24, [.slice none 0 0]) := by kernel_rfl
theorem bs38 (M : Mem) (n : Nat) (ps : List (Nat × Value)) : abuildSlice Try.prog 38 n ps M = bsK (some (1, 8, [.int .i64 0])) n ps M := abuildSlice_ez el38 (by kernel_rfl)
theorem as38 {r : Env} {d : Option Tmp} {ty : TypeId} {p : String} {af : Array Edge} {g : Option (Nat × Bool)} {len id : Nat} {ps : Array (Nat × Operand)} : aAlloc Try.prog r ⟨d, .buildSlice 38 len ps, ty, p, af, g⟩ id = gd (ps.toList.all fun x => okOperand x.2) (bsA (some (1, 8, [.int .i64 0])) len (ps.toList.map fun x => (x.1, r.eval x.2)) id) := al_slice el38 (by kernel_rfl)
theorem tk39 : tk Try.prog 39 = some (false, 1) := by kernel_rfl
theorem sz39 : sz Try.prog 39 = some 1 := by kernel_rfl
theorem tk40 : tk Try.prog 40 = some (false, 1) := by kernel_rfl
theorem sz40 : sz Try.prog 40 = some 1 := by kernel_rfl
theorem if40 : isFun (Try.prog.underlying 40) = true := by kernel_rfl
theorem az40 : azero Try.prog 40 = some (.nilFunc) := by kernel_rfl
theorem ez40 : ez Try.prog 40 = some (1, 8, [.nilFunc]) := by kernel_rfl
theorem tk41 : tk Try.prog 41 = some (false, 1) := by kernel_rfl
theorem sz41 : sz Try.prog 41 = some 1 := by kernel_rfl
theorem if41 : isFun (Try.prog.underlying 41) = true := by kernel_rfl
theorem az41 : azero Try.prog 41 = some (.nilFunc) := by kernel_rfl
theorem ez41 : ez Try.prog 41 = some (1, 8, [.nilFunc]) := by kernel_rfl
theorem tk42 : tk Try.prog 42 = some (false, 1) := by kernel_rfl
theorem sz42 : sz Try.prog 42 = some 1 := by kernel_rfl
theorem if42 : isFun (Try.prog.underlying 42) = true := by kernel_rfl
theorem az42 : azero Try.prog 42 = some (.nilFunc) := by kernel_rfl
theorem ez42 : ez Try.prog 42 = some (1, 8, [.nilFunc]) := by kernel_rfl
theorem tk43 : tk Try.prog 43 = some (false, 1) := by kernel_rfl
theorem sz43 : sz Try.prog 43 = some 1 := by kernel_rfl
theorem if43 : isFun (Try.prog.underlying 43) = true := by kernel_rfl
theorem az43 : azero Try.prog 43 = some (.nilFunc) := by kernel_rfl
theorem ez43 : ez Try.prog 43 = some (1, 8, [.nilFunc]) := by kernel_rfl
theorem tk44 : tk Try.prog 44 = some (false, 1) := by kernel_rfl
theorem sz44 : sz Try.prog 44 = some 1 := by kernel_rfl
theorem if44 : isFun (Try.prog.underlying 44) = true := by kernel_rfl
theorem az44 : azero Try.prog 44 = some (.nilFunc) := by kernel_rfl
theorem ez44 : ez Try.prog 44 = some (1, 8, [.nilFunc]) := by kernel_rfl
theorem tk45 : tk Try.prog 45 = some (false, 1) := by kernel_rfl
theorem sz45 : sz Try.prog 45 = some 1 := by kernel_rfl
theorem if45 : isFun (Try.prog.underlying 45) = true := by kernel_rfl
theorem az45 : azero Try.prog 45 = some (.nilFunc) := by kernel_rfl
theorem ez45 : ez Try.prog 45 = some (1, 8, [.nilFunc]) := by kernel_rfl
theorem tk46 : tk Try.prog 46 = some (false, 1) := by kernel_rfl
theorem sz46 : sz Try.prog 46 = some 1 := by kernel_rfl
theorem if46 : isFun (Try.prog.underlying 46) = true := by kernel_rfl
theorem az46 : azero Try.prog 46 = some (.nilFunc) := by kernel_rfl
theorem ez46 : ez Try.prog 46 = some (1, 8, [.nilFunc]) := by kernel_rfl
theorem tk47 : tk Try.prog 47 = some (false, 1) := by kernel_rfl
theorem sz47 : sz Try.prog 47 = some 1 := by kernel_rfl
theorem if47 : isFun (Try.prog.underlying 47) = true := by kernel_rfl
theorem az47 : azero Try.prog 47 = some (.nilFunc) := by kernel_rfl
theorem ez47 : ez Try.prog 47 = some (1, 8, [.nilFunc]) := by kernel_rfl
theorem tk48 : tk Try.prog 48 = some (false, 1) := by kernel_rfl
theorem sz48 : sz Try.prog 48 = some 1 := by kernel_rfl
theorem if48 : isFun (Try.prog.underlying 48) = true := by kernel_rfl
theorem az48 : azero Try.prog 48 = some (.nilFunc) := by kernel_rfl
theorem ez48 : ez Try.prog 48 = some (1, 8, [.nilFunc]) := by kernel_rfl
theorem tk49 : tk Try.prog 49 = some (false, 1) := by kernel_rfl
theorem sz49 : sz Try.prog 49 = some 1 := by kernel_rfl
theorem is49 : isSli (Try.prog.underlying 49) = true := by kernel_rfl
theorem el49 : el Try.prog 49 = some (true, 0, 25) := by kernel_rfl
theorem az49 : azero Try.prog 49 = some (.slice none 0 0) := by kernel_rfl
theorem ez49 : ez Try.prog 49 = some (1, 24, [.slice none 0 0]) := by kernel_rfl
theorem bs49 (M : Mem) (n : Nat) (ps : List (Nat × Value)) : abuildSlice Try.prog 49 n ps M = bsK (some (1, 8, [.int .u64 0])) n ps M := abuildSlice_ez el49 (by kernel_rfl)
theorem as49 {r : Env} {d : Option Tmp} {ty : TypeId} {p : String} {af : Array Edge} {g : Option (Nat × Bool)} {len id : Nat} {ps : Array (Nat × Operand)} : aAlloc Try.prog r ⟨d, .buildSlice 49 len ps, ty, p, af, g⟩ id = gd (ps.toList.all fun x => okOperand x.2) (bsA (some (1, 8, [.int .u64 0])) len (ps.toList.map fun x => (x.1, r.eval x.2)) id) := al_slice el49 (by kernel_rfl)
theorem tk50 : tk Try.prog 50 = some (false, 1) := by kernel_rfl
theorem sz50 : sz Try.prog 50 = some 1 := by kernel_rfl
theorem if50 : isFun (Try.prog.underlying 50) = true := by kernel_rfl
theorem az50 : azero Try.prog 50 = some (.nilFunc) := by kernel_rfl
theorem ez50 : ez Try.prog 50 = some (1, 8, [.nilFunc]) := by kernel_rfl
theorem tk51 : tk Try.prog 51 = some (true, 2) := by kernel_rfl
theorem sz51 : sz Try.prog 51 = some 2 := by kernel_rfl
theorem fo51_0 : fo Try.prog 51 0 = some (0, 22) := by kernel_rfl
theorem fo51_1 : fo Try.prog 51 1 = some (1, 27) := by kernel_rfl
theorem bd51 : bd Try.prog 51 = some ([.slice none 0 0, .int .i64 0], [(0, 1), (1, 1)]) := by kernel_rfl
theorem bu51 (ps : List (Nat × Value)) : abuild Try.prog 51 ps = bdK (some ([.slice none 0 0, .int .i64 0], [(0, 1), (1, 1)])) ps := abuild_bd bd51
theorem az51 : azero Try.prog 51 = some (.agg #[.slice none 0 0, .int .i64 0]) := by kernel_rfl
theorem ez51 : ez Try.prog 51 = some (2, 32, [.slice none 0 0, .int .i64 0]) := by kernel_rfl
theorem tk52 : tk Try.prog 52 = some (true, 2) := by kernel_rfl
theorem sz52 : sz Try.prog 52 = some 2 := by kernel_rfl
theorem fo52_0 : fo Try.prog 52 0 = some (0, 22) := by kernel_rfl
theorem fo52_1 : fo Try.prog 52 1 = some (1, 27) := by kernel_rfl
theorem bd52 : bd Try.prog 52 = some ([.slice none 0 0, .int .i64 0], [(0, 1), (1, 1)]) := by kernel_rfl
theorem bu52 (ps : List (Nat × Value)) : abuild Try.prog 52 ps = bdK (some ([.slice none 0 0, .int .i64 0], [(0, 1), (1, 1)])) ps := abuild_bd bd52
theorem az52 : azero Try.prog 52 = some (.agg #[.slice none 0 0, .int .i64 0]) := by kernel_rfl
theorem ez52 : ez Try.prog 52 = some (2, 32, [.slice none 0 0, .int .i64 0]) := by kernel_rfl
theorem tk53 : tk Try.prog 53 = some (false, 1) := by kernel_rfl
theorem sz53 : sz Try.prog 53 = some 1 := by kernel_rfl
theorem tk54 : tk Try.prog 54 = some (false, 1) := by kernel_rfl
theorem sz54 : sz Try.prog 54 = some 1 := by kernel_rfl
theorem if54 : isFun (Try.prog.underlying 54) = true := by kernel_rfl
theorem az54 : azero Try.prog 54 = some (.nilFunc) := by kernel_rfl
theorem ez54 : ez Try.prog 54 = some (1, 8, [.nilFunc]) := by kernel_rfl
theorem tk55 : tk Try.prog 55 = some (false, 1) := by kernel_rfl
theorem sz55 : sz Try.prog 55 = some 1 := by kernel_rfl
theorem if55 : isFun (Try.prog.underlying 55) = true := by kernel_rfl
theorem az55 : azero Try.prog 55 = some (.nilFunc) := by kernel_rfl
theorem ez55 : ez Try.prog 55 = some (1, 8, [.nilFunc]) := by kernel_rfl
theorem tk56 : tk Try.prog 56 = some (false, 1) := by kernel_rfl
theorem sz56 : sz Try.prog 56 = some 1 := by kernel_rfl
theorem tk57 : tk Try.prog 57 = some (false, 1) := by kernel_rfl
theorem sz57 : sz Try.prog 57 = some 1 := by kernel_rfl
theorem if57 : isFun (Try.prog.underlying 57) = true := by kernel_rfl
theorem az57 : azero Try.prog 57 = some (.nilFunc) := by kernel_rfl
theorem ez57 : ez Try.prog 57 = some (1, 8, [.nilFunc]) := by kernel_rfl
theorem tk58 : tk Try.prog 58 = some (false, 1) := by kernel_rfl
theorem sz58 : sz Try.prog 58 = some 1 := by kernel_rfl
theorem ns58 : isSli (Try.prog.underlying 58) = false := by kernel_rfl
theorem az58 : azero Try.prog 58 = some (.int .u64 0) := by kernel_rfl
theorem ez58 : ez Try.prog 58 = some (1, 8, [.int .u64 0]) := by kernel_rfl
theorem tk59 : tk Try.prog 59 = some (false, 1) := by kernel_rfl
theorem sz59 : sz Try.prog 59 = some 1 := by kernel_rfl
theorem if59 : isFun (Try.prog.underlying 59) = true := by kernel_rfl
theorem az59 : azero Try.prog 59 = some (.nilFunc) := by kernel_rfl
theorem ez59 : ez Try.prog 59 = some (1, 8, [.nilFunc]) := by kernel_rfl
theorem tk60 : tk Try.prog 60 = some (false, 1) := by kernel_rfl
theorem sz60 : sz Try.prog 60 = some 1 := by kernel_rfl
theorem ip60 : isPtr (Try.prog.underlying 60) = true := by kernel_rfl
theorem az60 : azero Try.prog 60 = some (.pointer none) := by kernel_rfl
theorem ez60 : ez Try.prog 60 = some (1, 8, [.pointer none]) := by kernel_rfl
theorem tk61 : tk Try.prog 61 = some (false, 1) := by kernel_rfl
theorem sz61 : sz Try.prog 61 = some 1 := by kernel_rfl
theorem if61 : isFun (Try.prog.underlying 61) = true := by kernel_rfl
theorem az61 : azero Try.prog 61 = some (.nilFunc) := by kernel_rfl
theorem ez61 : ez Try.prog 61 = some (1, 8, [.nilFunc]) := by kernel_rfl
theorem tk62 : tk Try.prog 62 = some (false, 1) := by kernel_rfl
theorem sz62 : sz Try.prog 62 = some 1 := by kernel_rfl
theorem if62 : isFun (Try.prog.underlying 62) = true := by kernel_rfl
theorem az62 : azero Try.prog 62 = some (.nilFunc) := by kernel_rfl
theorem ez62 : ez Try.prog 62 = some (1, 8, [.nilFunc]) := by kernel_rfl
theorem tk63 : tk Try.prog 63 = some (true, 2) := by kernel_rfl
theorem sz63 : sz Try.prog 63 = some 2 := by kernel_rfl
theorem fo63_0 : fo Try.prog 63 0 = some (0, 22) := by kernel_rfl
theorem fo63_1 : fo Try.prog 63 1 = some (1, 27) := by kernel_rfl
theorem bd63 : bd Try.prog 63 = some ([.slice none 0 0, .int .i64 0], [(0, 1), (1, 1)]) := by kernel_rfl
theorem bu63 (ps : List (Nat × Value)) : abuild Try.prog 63 ps = bdK (some ([.slice none 0 0, .int .i64 0], [(0, 1), (1, 1)])) ps := abuild_bd bd63
theorem az63 : azero Try.prog 63 = some (.agg #[.slice none 0 0, .int .i64 0]) := by kernel_rfl
theorem ez63 : ez Try.prog 63 = some (2, 32, [.slice none 0 0, .int .i64 0]) := by kernel_rfl
theorem tk64 : tk Try.prog 64 = some (true, 2) := by kernel_rfl
theorem sz64 : sz Try.prog 64 = some 2 := by kernel_rfl
theorem fo64_0 : fo Try.prog 64 0 = some (0, 22) := by kernel_rfl
theorem fo64_1 : fo Try.prog 64 1 = some (1, 27) := by kernel_rfl
theorem bd64 : bd Try.prog 64 = some ([.slice none 0 0, .int .i64 0], [(0, 1), (1, 1)]) := by kernel_rfl
theorem bu64 (ps : List (Nat × Value)) : abuild Try.prog 64 ps = bdK (some ([.slice none 0 0, .int .i64 0], [(0, 1), (1, 1)])) ps := abuild_bd bd64
theorem az64 : azero Try.prog 64 = some (.agg #[.slice none 0 0, .int .i64 0]) := by kernel_rfl
theorem ez64 : ez Try.prog 64 = some (2, 32, [.slice none 0 0, .int .i64 0]) := by kernel_rfl
theorem tk65 : tk Try.prog 65 = some (false, 1) := by kernel_rfl
theorem sz65 : sz Try.prog 65 = some 1 := by kernel_rfl
theorem is65 : isSli (Try.prog.underlying 65) = true := by kernel_rfl
theorem el65 : el Try.prog 65 = some (true, 0, 27) := by kernel_rfl
theorem az65 : azero Try.prog 65 = some (.slice none 0 0) := by kernel_rfl
theorem ez65 : ez Try.prog 65 = some (1, 24, [.slice none 0 0]) := by kernel_rfl
theorem bs65 (M : Mem) (n : Nat) (ps : List (Nat × Value)) : abuildSlice Try.prog 65 n ps M = bsK (some (1, 8, [.int .i64 0])) n ps M := abuildSlice_ez el65 (by kernel_rfl)
theorem as65 {r : Env} {d : Option Tmp} {ty : TypeId} {p : String} {af : Array Edge} {g : Option (Nat × Bool)} {len id : Nat} {ps : Array (Nat × Operand)} : aAlloc Try.prog r ⟨d, .buildSlice 65 len ps, ty, p, af, g⟩ id = gd (ps.toList.all fun x => okOperand x.2) (bsA (some (1, 8, [.int .i64 0])) len (ps.toList.map fun x => (x.1, r.eval x.2)) id) := al_slice el65 (by kernel_rfl)
theorem tk66 : tk Try.prog 66 = some (false, 1) := by kernel_rfl
theorem sz66 : sz Try.prog 66 = some 1 := by kernel_rfl
theorem if66 : isFun (Try.prog.underlying 66) = true := by kernel_rfl
theorem az66 : azero Try.prog 66 = some (.nilFunc) := by kernel_rfl
theorem ez66 : ez Try.prog 66 = some (1, 8, [.nilFunc]) := by kernel_rfl
theorem tk67 : tk Try.prog 67 = some (true, 4) := by kernel_rfl
theorem sz67 : sz Try.prog 67 = some 4 := by kernel_rfl
theorem fo67_0 : fo Try.prog 67 0 = some (0, 17) := by kernel_rfl
theorem fo67_1 : fo Try.prog 67 1 = some (1, 17) := by kernel_rfl
theorem fo67_2 : fo Try.prog 67 2 = some (2, 17) := by kernel_rfl
theorem fo67_3 : fo Try.prog 67 3 = some (3, 9) := by kernel_rfl
theorem bd67 : bd Try.prog 67 = some ([.pointer none, .pointer none, .pointer none, .string ⟨#[]⟩], [(0, 1), (1, 1), (2, 1), (3, 1)]) := by kernel_rfl
theorem bu67 (ps : List (Nat × Value)) : abuild Try.prog 67 ps = bdK (some ([.pointer none, .pointer none, .pointer none, .string ⟨#[]⟩], [(0, 1), (1, 1), (2, 1), (3, 1)])) ps := abuild_bd bd67
theorem az67 : azero Try.prog 67 = some (.agg #[.pointer none, .pointer none, .pointer none, .string ⟨#[]⟩]) := by kernel_rfl
theorem ez67 : ez Try.prog 67 = some (4, 40, [.pointer none, .pointer none, .pointer none, .string ⟨#[]⟩]) := by kernel_rfl
theorem tk68 : tk Try.prog 68 = some (true, 4) := by kernel_rfl
theorem sz68 : sz Try.prog 68 = some 4 := by kernel_rfl
theorem fo68_0 : fo Try.prog 68 0 = some (0, 17) := by kernel_rfl
theorem fo68_1 : fo Try.prog 68 1 = some (1, 17) := by kernel_rfl
theorem fo68_2 : fo Try.prog 68 2 = some (2, 17) := by kernel_rfl
theorem fo68_3 : fo Try.prog 68 3 = some (3, 9) := by kernel_rfl
theorem bd68 : bd Try.prog 68 = some ([.pointer none, .pointer none, .pointer none, .string ⟨#[]⟩], [(0, 1), (1, 1), (2, 1), (3, 1)]) := by kernel_rfl
theorem bu68 (ps : List (Nat × Value)) : abuild Try.prog 68 ps = bdK (some ([.pointer none, .pointer none, .pointer none, .string ⟨#[]⟩], [(0, 1), (1, 1), (2, 1), (3, 1)])) ps := abuild_bd bd68
theorem az68 : azero Try.prog 68 = some (.agg #[.pointer none, .pointer none, .pointer none, .string ⟨#[]⟩]) := by kernel_rfl
theorem ez68 : ez Try.prog 68 = some (4, 40, [.pointer none, .pointer none, .pointer none, .string ⟨#[]⟩]) := by kernel_rfl
theorem tk69 : tk Try.prog 69 = some (true, 0) := by kernel_rfl
theorem sz69 : sz Try.prog 69 = some 0 := by kernel_rfl
theorem el69 : el Try.prog 69 = some (false, 0, 16) := by kernel_rfl
theorem az69 : azero Try.prog 69 = some (.agg #[]) := by kernel_rfl
theorem tk70 : tk Try.prog 70 = some (true, 0) := by kernel_rfl
theorem sz70 : sz Try.prog 70 = some 0 := by kernel_rfl
theorem fo70_0 : fo Try.prog 70 0 = some (0, 69) := by kernel_rfl
theorem bd70 : bd Try.prog 70 = some ([], [(0, 0)]) := by kernel_rfl
theorem bu70 (ps : List (Nat × Value)) : abuild Try.prog 70 ps = bdK (some ([], [(0, 0)])) ps := abuild_bd bd70
theorem az70 : azero Try.prog 70 = some (.agg #[]) := by kernel_rfl
theorem tk71 : tk Try.prog 71 = some (true, 0) := by kernel_rfl
theorem sz71 : sz Try.prog 71 = some 0 := by kernel_rfl
theorem fo71_0 : fo Try.prog 71 0 = some (0, 69) := by kernel_rfl
theorem bd71 : bd Try.prog 71 = some ([], [(0, 0)]) := by kernel_rfl
theorem bu71 (ps : List (Nat × Value)) : abuild Try.prog 71 ps = bdK (some ([], [(0, 0)])) ps := abuild_bd bd71
theorem az71 : azero Try.prog 71 = some (.agg #[]) := by kernel_rfl
theorem tk72 : tk Try.prog 72 = some (false, 1) := by kernel_rfl
theorem sz72 : sz Try.prog 72 = some 1 := by kernel_rfl
theorem ns72 : isSli (Try.prog.underlying 72) = false := by kernel_rfl
theorem az72 : azero Try.prog 72 = some (.int .u32 0) := by kernel_rfl
theorem ez72 : ez Try.prog 72 = some (1, 4, [.int .u32 0]) := by kernel_rfl
theorem tk73 : tk Try.prog 73 = some (false, 1) := by kernel_rfl
theorem sz73 : sz Try.prog 73 = some 1 := by kernel_rfl
theorem ns73 : isSli (Try.prog.underlying 73) = false := by kernel_rfl
theorem az73 : azero Try.prog 73 = some (.int .u8 0) := by kernel_rfl
theorem ez73 : ez Try.prog 73 = some (1, 1, [.int .u8 0]) := by kernel_rfl
theorem tk74 : tk Try.prog 74 = some (false, 1) := by kernel_rfl
theorem sz74 : sz Try.prog 74 = some 1 := by kernel_rfl
theorem ns74 : isSli (Try.prog.underlying 74) = false := by kernel_rfl
theorem az74 : azero Try.prog 74 = some (.int .u8 0) := by kernel_rfl
theorem ez74 : ez Try.prog 74 = some (1, 1, [.int .u8 0]) := by kernel_rfl
theorem tk75 : tk Try.prog 75 = some (false, 1) := by kernel_rfl
theorem sz75 : sz Try.prog 75 = some 1 := by kernel_rfl
theorem if75 : isFun (Try.prog.underlying 75) = true := by kernel_rfl
theorem az75 : azero Try.prog 75 = some (.nilFunc) := by kernel_rfl
theorem ez75 : ez Try.prog 75 = some (1, 8, [.nilFunc]) := by kernel_rfl
theorem tk76 : tk Try.prog 76 = some (false, 1) := by kernel_rfl
theorem sz76 : sz Try.prog 76 = some 1 := by kernel_rfl
theorem ip76 : isPtr (Try.prog.underlying 76) = true := by kernel_rfl
theorem az76 : azero Try.prog 76 = some (.pointer none) := by kernel_rfl
theorem ez76 : ez Try.prog 76 = some (1, 8, [.pointer none]) := by kernel_rfl
theorem tk77 : tk Try.prog 77 = some (false, 1) := by kernel_rfl
theorem sz77 : sz Try.prog 77 = some 1 := by kernel_rfl
theorem ns77 : isSli (Try.prog.underlying 77) = false := by kernel_rfl
theorem az77 : azero Try.prog 77 = some (.int .i32 0) := by kernel_rfl
theorem ez77 : ez Try.prog 77 = some (1, 4, [.int .i32 0]) := by kernel_rfl
theorem tk78 : tk Try.prog 78 = some (false, 1) := by kernel_rfl
theorem sz78 : sz Try.prog 78 = some 1 := by kernel_rfl
theorem ns78 : isSli (Try.prog.underlying 78) = false := by kernel_rfl
theorem az78 : azero Try.prog 78 = some (.int .i32 0) := by kernel_rfl
theorem ez78 : ez Try.prog 78 = some (1, 4, [.int .i32 0]) := by kernel_rfl
theorem tk79 : tk Try.prog 79 = some (true, 11) := by kernel_rfl
theorem sz79 : sz Try.prog 79 = some 11 := by kernel_rfl
theorem fo79_0 : fo Try.prog 79 0 = some (0, 12) := by kernel_rfl
theorem fo79_1 : fo Try.prog 79 1 = some (1, 12) := by kernel_rfl
theorem fo79_2 : fo Try.prog 79 2 = some (2, 72) := by kernel_rfl
theorem fo79_3 : fo Try.prog 79 3 = some (3, 73) := by kernel_rfl
theorem fo79_4 : fo Try.prog 79 4 = some (4, 5) := by kernel_rfl
theorem fo79_5 : fo Try.prog 79 5 = some (5, 5) := by kernel_rfl
theorem fo79_6 : fo Try.prog 79 6 = some (6, 74) := by kernel_rfl
theorem fo79_7 : fo Try.prog 79 7 = some (7, 75) := by kernel_rfl
theorem fo79_8 : fo Try.prog 79 8 = some (8, 76) := by kernel_rfl
theorem fo79_9 : fo Try.prog 79 9 = some (9, 77) := by kernel_rfl
theorem fo79_10 : fo Try.prog 79 10 = some (10, 78) := by kernel_rfl
theorem bd79 : bd Try.prog 79 = some ([.int .u64 0, .int .u64 0, .int .u32 0, .int .u8 0, .int .u8 0, .int .u8 0, .int .u8 0, .nilFunc, .pointer none, .int .i32 0, .int .i32 0], [(0, 1), (1, 1), (2, 1), (3, 1), (4, 1), (5, 1), (6, 1), (7, 1), (8, 1), (9, 1), (10, 1)]) := by kernel_rfl
theorem bu79 (ps : List (Nat × Value)) : abuild Try.prog 79 ps = bdK (some ([.int .u64 0, .int .u64 0, .int .u32 0, .int .u8 0, .int .u8 0, .int .u8 0, .int .u8 0, .nilFunc, .pointer none, .int .i32 0, .int .i32 0], [(0, 1), (1, 1), (2, 1), (3, 1), (4, 1), (5, 1), (6, 1), (7, 1), (8, 1), (9, 1), (10, 1)])) ps := abuild_bd bd79
theorem az79 : azero Try.prog 79 = some (.agg #[.int .u64 0, .int .u64 0, .int .u32 0, .int .u8 0, .int .u8 0, .int .u8 0, .int .u8 0, .nilFunc, .pointer none, .int .i32 0, .int .i32 0]) := by kernel_rfl
theorem ez79 : ez Try.prog 79 = some (11, 48, [.int .u64 0, .int .u64 0, .int .u32 0, .int .u8 0, .int .u8 0, .int .u8 0, .int .u8 0, .nilFunc, .pointer none, .int .i32 0, .int .i32 0]) := by kernel_rfl
theorem tk80 : tk Try.prog 80 = some (true, 11) := by kernel_rfl
theorem sz80 : sz Try.prog 80 = some 11 := by kernel_rfl
theorem fo80_0 : fo Try.prog 80 0 = some (0, 12) := by kernel_rfl
theorem fo80_1 : fo Try.prog 80 1 = some (1, 12) := by kernel_rfl
theorem fo80_2 : fo Try.prog 80 2 = some (2, 72) := by kernel_rfl
theorem fo80_3 : fo Try.prog 80 3 = some (3, 73) := by kernel_rfl
theorem fo80_4 : fo Try.prog 80 4 = some (4, 5) := by kernel_rfl
theorem fo80_5 : fo Try.prog 80 5 = some (5, 5) := by kernel_rfl
theorem fo80_6 : fo Try.prog 80 6 = some (6, 74) := by kernel_rfl
theorem fo80_7 : fo Try.prog 80 7 = some (7, 75) := by kernel_rfl
theorem fo80_8 : fo Try.prog 80 8 = some (8, 76) := by kernel_rfl
theorem fo80_9 : fo Try.prog 80 9 = some (9, 77) := by kernel_rfl
theorem fo80_10 : fo Try.prog 80 10 = some (10, 78) := by kernel_rfl
theorem bd80 : bd Try.prog 80 = some ([.int .u64 0, .int .u64 0, .int .u32 0, .int .u8 0, .int .u8 0, .int .u8 0, .int .u8 0, .nilFunc, .pointer none, .int .i32 0, .int .i32 0], [(0, 1), (1, 1), (2, 1), (3, 1), (4, 1), (5, 1), (6, 1), (7, 1), (8, 1), (9, 1), (10, 1)]) := by kernel_rfl
theorem bu80 (ps : List (Nat × Value)) : abuild Try.prog 80 ps = bdK (some ([.int .u64 0, .int .u64 0, .int .u32 0, .int .u8 0, .int .u8 0, .int .u8 0, .int .u8 0, .nilFunc, .pointer none, .int .i32 0, .int .i32 0], [(0, 1), (1, 1), (2, 1), (3, 1), (4, 1), (5, 1), (6, 1), (7, 1), (8, 1), (9, 1), (10, 1)])) ps := abuild_bd bd80
theorem az80 : azero Try.prog 80 = some (.agg #[.int .u64 0, .int .u64 0, .int .u32 0, .int .u8 0, .int .u8 0, .int .u8 0, .int .u8 0, .nilFunc, .pointer none, .int .i32 0, .int .i32 0]) := by kernel_rfl
theorem ez80 : ez Try.prog 80 = some (11, 48, [.int .u64 0, .int .u64 0, .int .u32 0, .int .u8 0, .int .u8 0, .int .u8 0, .int .u8 0, .nilFunc, .pointer none, .int .i32 0, .int .i32 0]) := by kernel_rfl
theorem tk81 : tk Try.prog 81 = some (false, 1) := by kernel_rfl
theorem sz81 : sz Try.prog 81 = some 1 := by kernel_rfl
theorem az81 : azero Try.prog 81 = some (.pointer none) := by kernel_rfl
theorem ez81 : ez Try.prog 81 = some (1, 8, [.pointer none]) := by kernel_rfl
theorem cb2 : callable Try.prog 2 = true := by kernel_rfl
theorem cb3 : callable Try.prog 3 = true := by kernel_rfl
theorem cb4 : callable Try.prog 4 = true := by kernel_rfl
theorem cb5 : callable Try.prog 5 = true := by kernel_rfl
theorem cb6 : callable Try.prog 6 = true := by kernel_rfl
theorem cb7 : callable Try.prog 7 = true := by kernel_rfl
theorem cb8 : callable Try.prog 8 = true := by kernel_rfl
theorem cb9 : callable Try.prog 9 = true := by kernel_rfl
theorem cb10 : callable Try.prog 10 = true := by kernel_rfl
theorem cb11 : callable Try.prog 11 = true := by kernel_rfl
theorem cb12 : callable Try.prog 12 = true := by kernel_rfl
theorem cb13 : callable Try.prog 13 = true := by kernel_rfl
theorem cb14 : callable Try.prog 14 = true := by kernel_rfl
theorem cb15 : callable Try.prog 15 = true := by kernel_rfl
theorem cb16 : callable Try.prog 16 = true := by kernel_rfl
theorem cb17 : callable Try.prog 17 = true := by kernel_rfl
theorem cb18 : callable Try.prog 18 = true := by kernel_rfl
theorem cb19 : callable Try.prog 19 = true := by kernel_rfl
theorem cb20 : callable Try.prog 20 = true := by kernel_rfl
theorem cb21 : callable Try.prog 21 = true := by kernel_rfl
theorem cb22 : callable Try.prog 22 = true := by kernel_rfl
theorem cb23 : callable Try.prog 23 = true := by kernel_rfl
theorem cb24 : callable Try.prog 24 = true := by kernel_rfl
theorem cb25 : callable Try.prog 25 = true := by kernel_rfl
theorem cb26 : callable Try.prog 26 = true := by kernel_rfl
theorem cb27 : callable Try.prog 27 = true := by kernel_rfl
theorem cb28 : callable Try.prog 28 = true := by kernel_rfl
theorem cb29 : callable Try.prog 29 = true := by kernel_rfl
theorem cb30 : callable Try.prog 30 = true := by kernel_rfl
theorem cb31 : callable Try.prog 31 = true := by kernel_rfl
theorem cb32 : callable Try.prog 32 = true := by kernel_rfl
theorem cb33 : callable Try.prog 33 = true := by kernel_rfl
theorem cb34 : callable Try.prog 34 = true := by kernel_rfl
theorem cb35 : callable Try.prog 35 = true := by kernel_rfl
theorem cb36 : callable Try.prog 36 = true := by kernel_rfl
theorem cb37 : callable Try.prog 37 = true := by kernel_rfl
theorem cb38 : callable Try.prog 38 = true := by kernel_rfl
theorem cb39 : callable Try.prog 39 = true := by kernel_rfl
theorem cb40 : callable Try.prog 40 = true := by kernel_rfl
theorem cb41 : callable Try.prog 41 = true := by kernel_rfl
theorem cb42 : callable Try.prog 42 = true := by kernel_rfl
theorem cb43 : callable Try.prog 43 = true := by kernel_rfl
theorem cb44 : callable Try.prog 44 = true := by kernel_rfl
theorem cb45 : callable Try.prog 45 = true := by kernel_rfl
theorem cb46 : callable Try.prog 46 = true := by kernel_rfl
theorem cb47 : callable Try.prog 47 = true := by kernel_rfl
theorem cb48 : callable Try.prog 48 = true := by kernel_rfl
theorem cb49 : callable Try.prog 49 = true := by kernel_rfl
theorem cb50 : callable Try.prog 50 = true := by kernel_rfl
theorem cb51 : callable Try.prog 51 = true := by kernel_rfl
theorem cb52 : callable Try.prog 52 = true := by kernel_rfl
theorem cb53 : callable Try.prog 53 = true := by kernel_rfl
attribute [go_sem] tk0 sz0 tk1 sz1 if1 az1 tk2 sz2 Try.underlying2 ns2 az2 tk3 sz3 Try.underlying3 ns3 az3 tk4 sz4 Try.underlying4 az4 tk5 sz5 Try.underlying5 ns5 az5 tk6 sz6 Try.underlying6 ns6 az6 tk7 sz7 fo7_0 fo7_1 fo7_2 fo7_3 bu7 az7 tk8 sz8 fo8_0 fo8_1 fo8_2 fo8_3 bu8 az8 tk9 sz9 Try.underlying9 ns9 az9 tk10 sz10 Try.underlying10 ns10 az10 tk11 sz11 Try.underlying11 ns11 az11 tk12 sz12 Try.underlying12 ns12 az12 tk13 sz13 fo13_0 fo13_1 bu13 az13 tk14 sz14 fo14_0 fo14_1 bu14 az14 tk15 sz15 ip15 az15 tk16 sz16 ip16 az16 tk17 sz17 ip17 az17 tk18 sz18 fo18_0 bu18 az18 tk19 sz19 fo19_0 bu19 az19 tk20 sz20 az20 tk21 sz21 Try.underlying21 ns21 az21 tk22 sz22 Try.underlying22 is22 el22 az22 bs22 as22 tk23 sz23 ip23 az23 tk24 sz24 if24 az24 tk25 sz25 Try.underlying25 ns25 az25 tk26 sz26 if26 az26 tk27 sz27 Try.underlying27 ns27 az27 tk28 sz28 if28 az28 tk29 sz29 if29 az29 tk30 sz30 if30 az30 tk31 sz31 if31 az31 tk32 sz32 if32 az32 tk33 sz33 if33 az33 tk34 sz34 if34 az34 tk35 sz35 if35 az35 tk36 sz36 if36 az36 tk37 sz37 if37 az37 tk38 sz38 Try.underlying38 is38 el38 az38 bs38 as38 tk39 sz39 tk40 sz40 if40 az40 tk41 sz41 if41 az41 tk42 sz42 if42 az42 tk43 sz43 if43 az43 tk44 sz44 if44 az44 tk45 sz45 if45 az45 tk46 sz46 if46 az46 tk47 sz47 if47 az47 tk48 sz48 if48 az48 tk49 sz49 Try.underlying49 is49 el49 az49 bs49 as49 tk50 sz50 if50 az50 tk51 sz51 fo51_0 fo51_1 bu51 az51 tk52 sz52 fo52_0 fo52_1 bu52 az52 tk53 sz53 tk54 sz54 if54 az54 tk55 sz55 if55 az55 tk56 sz56 tk57 sz57 if57 az57 tk58 sz58 Try.underlying58 ns58 az58 tk59 sz59 if59 az59 tk60 sz60 ip60 az60 tk61 sz61 if61 az61 tk62 sz62 if62 az62 tk63 sz63 fo63_0 fo63_1 bu63 az63 tk64 sz64 fo64_0 fo64_1 bu64 az64 tk65 sz65 Try.underlying65 is65 el65 az65 bs65 as65 tk66 sz66 if66 az66 tk67 sz67 fo67_0 fo67_1 fo67_2 fo67_3 bu67 az67 tk68 sz68 fo68_0 fo68_1 fo68_2 fo68_3 bu68 az68 tk69 sz69 el69 az69 tk70 sz70 fo70_0 bu70 az70 tk71 sz71 fo71_0 bu71 az71 tk72 sz72 Try.underlying72 ns72 az72 tk73 sz73 Try.underlying73 ns73 az73 tk74 sz74 Try.underlying74 ns74 az74 tk75 sz75 if75 az75 tk76 sz76 ip76 az76 tk77 sz77 Try.underlying77 ns77 az77 tk78 sz78 Try.underlying78 ns78 az78 tk79 sz79 fo79_0 fo79_1 fo79_2 fo79_3 fo79_4 fo79_5 fo79_6 fo79_7 fo79_8 fo79_9 fo79_10 bu79 az79 tk80 sz80 fo80_0 fo80_1 fo80_2 fo80_3 fo80_4 fo80_5 fo80_6 fo80_7 fo80_8 fo80_9 fo80_10 bu80 az80 tk81 sz81 az81 cb2 cb3 cb4 cb5 cb6 cb7 cb8 cb9 cb10 cb11 cb12 cb13 cb14 cb15 cb16 cb17 cb18 cb19 cb20 cb21 cb22 cb23 cb24 cb25 cb26 cb27 cb28 cb29 cb30 cb31 cb32 cb33 cb34 cb35 cb36 cb37 cb38 cb39 cb40 cb41 cb42 cb43 cb44 cb45 cb46 cb47 cb48 cb49 cb50 cb51 cb52 cb53
end Go.Ab
