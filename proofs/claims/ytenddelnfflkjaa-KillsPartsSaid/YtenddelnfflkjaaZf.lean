import Derived.Test.YtenddelnfflkjaaZe
import Derived.KernelRfl
set_option linter.unusedVariables false
set_option maxRecDepth 100000
namespace Go.Proofs.Xg
open Go Go.Xl Go.Ab Go.Proofs
@[reducible] def tPart : Ty := (.pair (.int .u16) (.sl tRun))
@[reducible] def S_ctx_told : CSp := ⟨[.d (.sl tPart)], [], [], ⟨[(2, .p 1006 777777777)], [], [], [], [], [(1006, .map (.int .u16) (.sl tRun))]⟩⟩
noncomputable def F_ctx_told (N : Nat) : CSp.Fun S_ctx_told (Option S_ctx_told.out.T) := fun (y : List (Int × List (Int × Int))) => iter (fun (rec : (Int × Unit) × Unit × Unit × (List (Nat × Int × Bool × List (Int ×
 Int)) × Nat) × Unit → Option ((Unit × Unit) × Unit × Unit × (List (Nat × Int × List (Int × Int)) × Nat) × Unit)) (z : (Int × Unit) × Unit × Unit × (List (Nat × Int × Bool × List (Int × Int)) × Nat) × Unit) => bif decide
 (z.fst.fst < (↑y.length : Int)) then (at? y z.fst.fst).bind fun (e : Int × List (Int × Int)) => bif decide (0 < e.fst) then bif tflagX (Ty.int IntKind.u16) tRun e.fst z.snd.snd.snd.fst.fst then bif fitsB ((tvalX (Ty.int
 IntKind.u16) tRun e.fst z.snd.snd.snd.fst.fst).length + e.snd.length) 16 then rec ((IntKind.i64.wrap (z.fst.fst + 1), ()), (), (), (tputX (Ty.int IntKind.u16) tRun e.fst (tvalX (Ty.int IntKind.u16) tRun e.fst
 z.snd.snd.snd.fst.fst ++ e.snd) true z.snd.snd.snd.fst.snd (toffX (Ty.int IntKind.u16) tRun e.fst z.snd.snd.snd.fst.fst), mclkX (Ty.int IntKind.u16) tRun.sl e.fst (fgTX (Ty.int IntKind.u16) tRun (toffX (Ty.int
 IntKind.u16) tRun e.fst z.snd.snd.snd.fst.fst)) z.snd.snd.snd.fst.snd), ()) else none else none else rec ((IntKind.i64.wrap (z.fst.fst + 1), ()), (), (), z.snd.snd.snd.fst, ()) else some (((), ()), (), (), (fgTX (Ty.int
 IntKind.u16) tRun z.snd.snd.snd.fst.fst, z.snd.snd.snd.fst.snd), ())) N ((0, ()), (), (), ([], 0), ())
theorem E_ctx_told (N : Nat) : runC Try.prog [] [6] N Try.f129 (.seq .lf (.seq .lf (.fg (.seq .lf (.blk (.loop ⟨[(9, .d (.int .i64))], [], [3, 7, 8], [], [], [(1006, .mapt 501006 (.int .u16) tRun)]⟩ .lf))) .lf))) S_ctx_told = F_ctx_told N := by kernel_rfl
noncomputable def e_ctx_told (N : Nat) : Ent Try.prog := mkC 129 Try.f129 (.seq .lf (.seq .lf (.fg (.seq .lf (.blk (.loop ⟨[(9, .d (.int .i64))], [], [3, 7, 8], [], [], [(1006, .mapt 501006 (.int .u16) tRun)]⟩ .lf))) .lf))) S_ctx_told (F_ctx_told N) mixed Try.func129 (.mk' Try.func129 rfl (by decide)) rfl rfl rfl (E_ctx_told N)
noncomputable def F_runs_Norm (N : Nat) : Fun [(.sl tRun)] (Option (ResT [(.sl tRun)])) := fun (x : List (Int × Int)) => iter (fun (rec : (Int × Unit) × Unit × (Option (List (Int × Int) × Nat) × Unit) × Unit → Option
 (List (Int × Int))) (z : (Int × Unit) × Unit × (Option (List (Int × Int) × Nat) × Unit) × Unit) => optCase z.snd.snd.fst.fst (bif decide (z.fst.fst < (↑x.length : Int)) then (at? x z.fst.fst).bind fun (e : Int × Int) =>
 bif decide (0 < e.fst) then bif decide (e.fst ≤ e.snd) then bif decide (e.snd ≤ 281474976710655) then rec ((IntKind.i64.wrap (z.fst.fst + 1), ()), (), (some ([e], [e].length), ()), ()) else rec ((IntKind.i64.wrap
 (z.fst.fst + 1), ()), (), (none, ()), ()) else rec ((IntKind.i64.wrap (z.fst.fst + 1), ()), (), (none, ()), ()) else rec ((IntKind.i64.wrap (z.fst.fst + 1), ()), (), (none, ()), ()) else iter (fun (rec : (Int × Unit) ×
 Unit × (Option (List (Int × Int) × Nat) × Option (List (Int × Int) × Nat) × Unit) × Unit → Option (List (Int × Int))) (z : (Int × Unit) × Unit × (Option (List (Int × Int) × Nat) × Option (List (Int × Int) × Nat) × Unit)
 × Unit) => optCase z.snd.snd.fst.fst (optCase z.snd.snd.fst.snd.fst (bif decide (z.fst.fst < 0) then none else some []) fun (y : List (Int × Int) × Nat) => bif decide (z.fst.fst < 0) then bif decide (0 ≤ z.fst.fst) &&
 decide (z.fst.fst < (↑y.snd : Int)) then y.fst[0 + z.fst.fst.toNat]?.bind fun (e : Int × Int) => rec ((IntKind.i64.wrap (z.fst.fst + 1), ()), (), (some ([e], [e].length), some y, ()), ()) else none else some []) fun (y
 : List (Int × Int) × Nat) => optCase z.snd.snd.fst.snd.fst (bif decide (z.fst.fst < 0) then none else bif (0 + y.snd).ble y.fst.length then some (List.take y.snd (List.drop 0 y.fst)) else none) fun (y_1 : List (Int ×
 Int) × Nat) => bif decide (z.fst.fst < 0) then bif decide (0 ≤ z.fst.fst) && decide (z.fst.fst < (↑y_1.snd : Int)) then y_1.fst[0 + z.fst.fst.toNat]?.bind fun (e : Int × Int) => bif decide (0 ≤ IntKind.i64.wrap ((↑y.snd
 : Int) - 1)) then bif decide (0 ≤ IntKind.i64.wrap ((↑y.snd : Int) - 1)) && decide (IntKind.i64.wrap ((↑y.snd : Int) - 1) < (↑y.snd : Int)) then y.fst[0 + (IntKind.i64.wrap ((↑y.snd : Int) - 1)).toNat]?.bind fun (e_1 :
 Int × Int) => bif decide (e.fst ≤ IntKind.u64.wrap (e_1.snd + 1)) then bif decide (0 ≤ IntKind.i64.wrap ((↑y.snd : Int) - 1)) && decide (IntKind.i64.wrap ((↑y.snd : Int) - 1) < (↑y.snd : Int)) then y.fst[0 +
 (IntKind.i64.wrap ((↑y.snd : Int) - 1)).toNat]?.bind fun (e_2 : Int × Int) => bif decide (0 ≤ IntKind.i64.wrap ((↑y.snd : Int) - 1)) && decide (IntKind.i64.wrap ((↑y.snd : Int) - 1) < (↑y.snd : Int)) then y.fst[0 +
 (IntKind.i64.wrap ((↑y.snd : Int) - 1)).toNat]?.bind fun (e_3 : Int × Int) => rec ((IntKind.i64.wrap (z.fst.fst + 1), ()), (), (some (y.fst.set (0 + (IntKind.i64.wrap ((↑y.snd : Int) - 1)).toNat) (e_3.fst, bif false
 then if e.snd < e_2.snd then e.snd else e_2.snd else if e.snd > e_2.snd then e.snd else e_2.snd), y.snd), some y_1, ()), ()) else none else none else bif y.fst.length.beq y.snd then bif fitsB (y.snd + [e].length) 16
 then rec ((IntKind.i64.wrap (z.fst.fst + 1), ()), (), (some (y.fst ++ [e], y.snd + [e].length), some y_1, ()), ()) else none else none else none else bif y.fst.length.beq y.snd then bif fitsB (y.snd + [e].length) 16
 then rec ((IntKind.i64.wrap (z.fst.fst + 1), ()), (), (some (y.fst ++ [e], y.snd + [e].length), some y_1, ()), ()) else none else none else none else bif (0 + y.snd).ble y.fst.length then some (List.take y.snd
 (List.drop 0 y.fst)) else none) N ((0, ()), (), (none, none, ()), ())) fun (y : List (Int × Int) × Nat) => bif decide (z.fst.fst < (↑x.length : Int)) then (at? x z.fst.fst).bind fun (e : Int × Int) => bif decide (0 <
 e.fst) then bif decide (e.fst ≤ e.snd) then bif decide (e.snd ≤ 281474976710655) then bif y.fst.length.beq y.snd then bif fitsB (y.snd + [e].length) 16 then rec ((IntKind.i64.wrap (z.fst.fst + 1), ()), (), (some (y.fst
 ++ [e], y.snd + [e].length), ()), ()) else none else none else rec ((IntKind.i64.wrap (z.fst.fst + 1), ()), (), (some y, ()), ()) else rec ((IntKind.i64.wrap (z.fst.fst + 1), ()), (), (some y, ()), ()) else rec
 ((IntKind.i64.wrap (z.fst.fst + 1), ()), (), (some y, ()), ()) else bif y.snd.ble y.fst.length then bif y.snd.ble 4611686018427387903 then iter (fun (rec : (Int × Unit) × Unit × (Option (List (Int × Int) × Nat) × Option
 (List (Int × Int) × Nat) × Unit) × Unit → Option (List (Int × Int))) (z : (Int × Unit) × Unit × (Option (List (Int × Int) × Nat) × Option (List (Int × Int) × Nat) × Unit) × Unit) => optCase z.snd.snd.fst.fst (optCase
 z.snd.snd.fst.snd.fst (bif decide (z.fst.fst < (↑y.snd : Int)) then none else some []) fun (y_1 : List (Int × Int) × Nat) => bif decide (z.fst.fst < (↑y.snd : Int)) then bif decide (0 ≤ z.fst.fst) && decide (z.fst.fst <
 (↑y_1.snd : Int)) then y_1.fst[0 + z.fst.fst.toNat]?.bind fun (e : Int × Int) => rec ((IntKind.i64.wrap (z.fst.fst + 1), ()), (), (some ([e], [e].length), some y_1, ()), ()) else none else some []) fun (y_1 : List (Int
 × Int) × Nat) => optCase z.snd.snd.fst.snd.fst (bif decide (z.fst.fst < (↑y.snd : Int)) then none else bif (0 + y_1.snd).ble y_1.fst.length then some (List.take y_1.snd (List.drop 0 y_1.fst)) else none) fun (y_2 : List
 (Int × Int) × Nat) => bif decide (z.fst.fst < (↑y.snd : Int)) then bif decide (0 ≤ z.fst.fst) && decide (z.fst.fst < (↑y_2.snd : Int)) then y_2.fst[0 + z.fst.fst.toNat]?.bind fun (e : Int × Int) => bif decide (0 ≤
 IntKind.i64.wrap ((↑y_1.snd : Int) - 1)) then bif decide (0 ≤ IntKind.i64.wrap ((↑y_1.snd : Int) - 1)) && decide (IntKind.i64.wrap ((↑y_1.snd : Int) - 1) < (↑y_1.snd : Int)) then y_1.fst[0 + (IntKind.i64.wrap ((↑y_1.snd
 : Int) - 1)).toNat]?.bind fun (e_1 : Int × Int) => bif decide (e.fst ≤ IntKind.u64.wrap (e_1.snd + 1)) then bif decide (0 ≤ IntKind.i64.wrap ((↑y_1.snd : Int) - 1)) && decide (IntKind.i64.wrap ((↑y_1.snd : Int) - 1) <
 (↑y_1.snd : Int)) then y_1.fst[0 + (IntKind.i64.wrap ((↑y_1.snd : Int) - 1)).toNat]?.bind fun (e_2 : Int × Int) => bif decide (0 ≤ IntKind.i64.wrap ((↑y_1.snd : Int) - 1)) && decide (IntKind.i64.wrap ((↑y_1.snd : Int) -
 1) < (↑y_1.snd : Int)) then y_1.fst[0 + (IntKind.i64.wrap ((↑y_1.snd : Int) - 1)).toNat]?.bind fun (e_3 : Int × Int) => rec ((IntKind.i64.wrap (z.fst.fst + 1), ()), (), (some (y_1.fst.set (0 + (IntKind.i64.wrap
 ((↑y_1.snd : Int) - 1)).toNat) (e_3.fst, bif false then if e.snd < e_2.snd then e.snd else e_2.snd else if e.snd > e_2.snd then e.snd else e_2.snd), y_1.snd), some y_2, ()), ()) else none else none else bif
 y_1.fst.length.beq y_1.snd then bif fitsB (y_1.snd + [e].length) 16 then rec ((IntKind.i64.wrap (z.fst.fst + 1), ()), (), (some (y_1.fst ++ [e], y_1.snd + [e].length), some y_2, ()), ()) else none else none else none
 else bif y_1.fst.length.beq y_1.snd then bif fitsB (y_1.snd + [e].length) 16 then rec ((IntKind.i64.wrap (z.fst.fst + 1), ()), (), (some (y_1.fst ++ [e], y_1.snd + [e].length), some y_2, ()), ()) else none else none
 else none else bif (0 + y_1.snd).ble y_1.fst.length then some (List.take y_1.snd (List.drop 0 y_1.fst)) else none) N ((0, ()), (), (none, some (F_SortFunc_Run (List.take y.snd y.fst) ++ List.drop y.snd y.fst, y.snd),
 ()), ()) else none else none) N ((0, ()), (), (none, ()), ())
theorem E_runs_Norm (N : Nat) : runF Try.prog [e_slices_SortFunc_sRun_Run N, e_runs_Norm_1 N] [34, 75] N Try.f126 (.seq .lf (.seq .lf (.seq (.seq .lf (.blk (.loop ⟨[(12, .d (.int .i64))], [], [10, 11], [], [(3, 400003, tRun)], []⟩ .lf))) (.seq .lf (.seq .lf (.seq (.seq .lf (.blk (.loop ⟨[(40, .d (.int .i64))], [], [39], [], [(6, 400006, tRun), (38, 400038, tRun)], []⟩ .lf))) .lf)))))) [(.sl tRun)] [(.sl tRun)] = F_runs_Norm N := by kernel_rfl
noncomputable def e_runs_Norm (N : Nat) : Ent Try.prog := mkFn 126 Try.f126 (.seq .lf (.seq .lf (.seq (.seq .lf (.blk (.loop ⟨[(12, .d (.int .i64))], [], [10, 11], [], [(3, 400003, tRun)], []⟩ .lf))) (.seq .lf (.seq .lf (.seq (.seq .lf (.blk (.loop ⟨[(40, .d (.int .i64))], [], [39], [], [(6, 400006, tRun), (38, 400038, tRun)], []⟩ .lf))) .lf)))))) [(.sl tRun)] [(.sl tRun)] (F_runs_Norm N) mixed Try.func126 (.mk' Try.func126 rfl (by decide)) rfl (E_runs_Norm N)
noncomputable def F_runs_Has_1 (N : Nat) : Fun [tRun, (.int .u64)] (Option (ResT [(.int .i64)])) := fun (x : Int × Int) (x_1 : Int) => Option.bind (F_cmp_Compare_uint64 N x.snd x_1) fun (y : Int) => some y
theorem E_runs_Has_1 (N : Nat) : runF Try.prog [e_cmp_Compare_uint64 N] [] N Try.f128 .lf [tRun, (.int .u64)] [(.int .i64)] = F_runs_Has_1 N := by kernel_rfl
noncomputable def e_runs_Has_1 (N : Nat) : Ent Try.prog := mkFn 128 Try.f128 .lf [tRun, (.int .u64)] [(.int .i64)] (F_runs_Has_1 N) mixed Try.func128 (.mk' Try.func128 rfl (by decide)) rfl (E_runs_Has_1 N)
@[reducible] def S_slices_BinarySearchFunc_sRun_Run_uint64 : CSp := ⟨[.d (.sl tRun), .d (.int .u64), .clo 128 []], [], [], ⟨[(6, .d (.int .i64)), (7, .d .bool)], [], [], [], [], []⟩⟩
noncomputable def F_slices_BinarySearchFunc_sRun_Run_uint64 (N : Nat) : CSp.Fun S_slices_BinarySearchFunc_sRun_Run_uint64 (Option S_slices_BinarySearchFunc_sRun_Run_uint64.out.T) := fun (y : List (Int × Int)) (y_1 : Int)
 => iter (fun (rec : (Int × Int × Unit) × Unit × Unit × Unit → Option ((Int × Bool × Unit) × Unit × Unit × Unit)) (z : (Int × Int × Unit) × Unit × Unit × Unit) => bif decide (z.fst.fst < z.fst.snd.fst) then (at? y
 (IntKind.i64.wrap ((IntKind.u64.wrap (IntKind.i64.wrap (z.fst.fst + z.fst.snd.fst))).fdiv 2))).bind fun (e : Int × Int) => Option.bind (F_runs_Has_1 N e y_1) fun (y : Int) => bif decide (y < 0) then rec
 ((IntKind.i64.wrap (IntKind.i64.wrap ((IntKind.u64.wrap (IntKind.i64.wrap (z.fst.fst + z.fst.snd.fst))).fdiv 2) + 1), z.fst.snd.fst, ()), (), (), ()) else rec ((z.fst.fst, IntKind.i64.wrap ((IntKind.u64.wrap
 (IntKind.i64.wrap (z.fst.fst + z.fst.snd.fst))).fdiv 2), ()), (), (), ()) else bif decide (z.fst.fst < (↑y.length : Int)) then (at? y z.fst.fst).bind fun (e : Int × Int) => Option.bind (F_runs_Has_1 N e y_1) fun (y :
 Int) => some ((z.fst.fst, y == 0, ()), (), (), ()) else some ((z.fst.fst, false, ()), (), (), ())) N ((0, (↑y.length : Int), ()), (), (), ())
theorem E_slices_BinarySearchFunc_sRun_Run_uint64 (N : Nat) : runC Try.prog [e_runs_Has_1 N] [] N Try.f127 (.seq .lf (.seq .lf (.seq .lf (.seq (.blk (.loop ⟨[(9, .d (.int .i64)), (10, .d (.int .i64))], [], [0, 1, 2, 8], [], [], []⟩ .lf)) .lf)))) S_slices_BinarySearchFunc_sRun_Run_uint64 = F_slices_BinarySearchFunc_sRun_Run_uint64 N := by kernel_rfl
noncomputable def e_slices_BinarySearchFunc_sRun_Run_uint64 (N : Nat) : Ent Try.prog := mkC 127 Try.f127 (.seq .lf (.seq .lf (.seq .lf (.seq (.blk (.loop ⟨[(9, .d (.int .i64)), (10, .d (.int .i64))], [], [0, 1, 2, 8], [], [], []⟩ .lf)) .lf)))) S_slices_BinarySearchFunc_sRun_Run_uint64 (F_slices_BinarySearchFunc_sRun_Run_uint64 N) mixed Try.func127 (.mk' Try.func127 rfl (by decide)) rfl rfl rfl (E_slices_BinarySearchFunc_sRun_Run_uint64 N)
noncomputable def F_runs_Has (N : Nat) : Fun [(.sl tRun), (.int .u64)] (Option (ResT [.bool])) := fun (x : List (Int × Int)) (x_1 : Int) => Option.bind (F_runs_Norm N x) fun (y : List (Int × Int)) => Option.bind
 (F_slices_BinarySearchFunc_sRun_Run_uint64 N y x_1) fun (y_1 : (Int × Bool × Unit) × Unit × Unit × Unit) => bif decide (y_1.fst.fst < (↑y.length : Int)) then (at? y y_1.fst.fst).bind fun (e : Int × Int) => some (decide
 (e.fst ≤ x_1)) else some false
theorem E_runs_Has (N : Nat) : runF Try.prog [e_runs_Norm N, e_slices_BinarySearchFunc_sRun_Run_uint64 N, e_runs_Has_1 N] [] N Try.f95 .lf [(.sl tRun), (.int .u64)] [.bool] = F_runs_Has N := by kernel_rfl
noncomputable def e_runs_Has (N : Nat) : Ent Try.prog := mkFn 95 Try.f95 .lf [(.sl tRun), (.int .u64)] [.bool] (F_runs_Has N) mixed Try.func95 (.mk' Try.func95 rfl (by decide)) rfl (E_runs_Has N)
noncomputable def F_ctx_Runs (N : Nat) : Fun [(.sl tPart), (.int .u16)] (Option (ResT [(.sl tRun)])) := fun (x : List (Int × List (Int × Int))) (x_1 : Int) => Option.bind (F_ctx_told N x) fun (y : (Unit × Unit) × Unit ×
 Unit × (List (Nat × Int × List (Int × Int)) × Nat) × Unit) => Option.bind (F_runs_Norm N ((mgetX (Ty.int IntKind.u16) tRun.sl x_1 y.snd.snd.snd.fst.fst).getD [])) fun (y : List (Int × Int)) => some y
theorem E_ctx_Runs (N : Nat) : runF Try.prog [e_runs_Norm N, e_ctx_told N] [] N Try.f96 .lf [(.sl tPart), (.int .u16)] [(.sl tRun)] = F_ctx_Runs N := by kernel_rfl
noncomputable def e_ctx_Runs (N : Nat) : Ent Try.prog := mkFn 96 Try.f96 .lf [(.sl tPart), (.int .u16)] [(.sl tRun)] (F_ctx_Runs N) mixed Try.func96 (.mk' Try.func96 rfl (by decide)) rfl (E_ctx_Runs N)
noncomputable def F_ctx_Has (N : Nat) : Fun [(.sl tPart), tDot] (Option (ResT [.bool])) := fun (x : List (Int × List (Int × Int))) (x_1 : Int × Int) => bif decide (0 < x_1.fst) then Option.bind (F_ctx_Runs N x x_1.fst)
 fun (y : List (Int × Int)) => Option.bind (F_runs_Has N y x_1.snd) fun (y : Bool) => some y else some false
theorem E_ctx_Has (N : Nat) : runF Try.prog [e_runs_Has N, e_ctx_Runs N] [] N Try.f70 .lf [(.sl tPart), tDot] [.bool] = F_ctx_Has N := by kernel_rfl
noncomputable def e_ctx_Has (N : Nat) : Ent Try.prog := mkFn 70 Try.f70 .lf [(.sl tPart), tDot] [.bool] (F_ctx_Has N) mixed Try.func70 (.mk' Try.func70 rfl (by decide)) rfl (E_ctx_Has N)
noncomputable def F_epitaphref06_may (N : Nat) : Fun [tRun] (Option (ResT [.bool])) := fun (x : Int × Int) => bif decide (1 ≤ x.fst) then bif decide (x.fst ≤ x.snd) then some (decide (x.snd ≤ 281474976710655)) else some
 false else some false
theorem E_epitaphref06_may (N : Nat) : runF Try.prog [] [] N Try.f124 .lf [tRun] [.bool] = F_epitaphref06_may N := by kernel_rfl
noncomputable def e_epitaphref06_may (N : Nat) : Ent Try.prog := mkFn 124 Try.f124 .lf [tRun] [.bool] (F_epitaphref06_may N) mixed Try.func124 (.mk' Try.func124 rfl (by decide)) rfl (E_epitaphref06_may N)
noncomputable def F_epitaphref06_Has (N : Nat) : Fun [(.sl tRun), (.int .u64)] (Option (ResT [.bool])) := fun (x : List (Int × Int)) (x_1 : Int) => iter (fun (rec : (Int × Unit) × Unit × Unit × Unit → Option Bool) (z :
 (Int × Unit) × Unit × Unit × Unit) => bif decide (z.fst.fst < (↑x.length : Int)) then (at? x z.fst.fst).bind fun (e : Int × Int) => Option.bind (F_epitaphref06_may N e) fun (y : Bool) => bif y then (at? x
 z.fst.fst).bind fun (e : Int × Int) => bif decide (e.fst ≤ x_1) then (at? x z.fst.fst).bind fun (e : Int × Int) => bif decide (x_1 ≤ e.snd) then some true else rec ((IntKind.i64.wrap (z.fst.fst + 1), ()), (), (), ())
 else rec ((IntKind.i64.wrap (z.fst.fst + 1), ()), (), (), ()) else rec ((IntKind.i64.wrap (z.fst.fst + 1), ()), (), (), ()) else some false) N ((0, ()), (), (), ())
theorem E_epitaphref06_Has (N : Nat) : runF Try.prog [e_epitaphref06_may N] [] N Try.f93 (.seq .lf (.seq (.seq .lf (.blk (.loop ⟨[(5, .d (.int .i64))], [], [0, 1], [], [], []⟩ .lf))) .lf)) [(.sl tRun), (.int .u64)] [.bool] = F_epitaphref06_Has N := by kernel_rfl
noncomputable def e_epitaphref06_Has (N : Nat) : Ent Try.prog := mkFn 93 Try.f93 (.seq .lf (.seq (.seq .lf (.blk (.loop ⟨[(5, .d (.int .i64))], [], [0, 1], [], [], []⟩ .lf))) .lf)) [(.sl tRun), (.int .u64)] [.bool] (F_epitaphref06_Has N) mixed Try.func93 (.mk' Try.func93 rfl (by decide)) rfl (E_epitaphref06_Has N)
noncomputable def F_epitaphref06_put (N : Nat) : Fun [(.sl (.int .u64)), (.int .u64)] (Option (ResT [(.sl (.int .u64))])) := fun (x : List Int) (x_1 : Int) => iter (fun (rec : (List Int × Bool × Int × Unit) × Unit × Unit
 × Unit → Option (List Int)) (z : (List Int × Bool × Int × Unit) × Unit × Unit × Unit) => bif decide (z.fst.snd.snd.fst < (↑x.length : Int)) then joinAt (fun (z_1 : (List Int × Bool × Unit) × Unit × Unit × Unit) => (at?
 x z.fst.snd.snd.fst).bind fun (e : Int) => bif e != x_1 then (at? x z.fst.snd.snd.fst).bind fun (e : Int) => bif fitsB (z_1.fst.fst.length + [e].length) 8 then rec ((z_1.fst.fst ++ [e], z_1.fst.snd.fst, IntKind.i64.wrap
 (z.fst.snd.snd.fst + 1), ()), (), (), ()) else none else rec ((z_1.fst.fst, z_1.fst.snd.fst, IntKind.i64.wrap (z.fst.snd.snd.fst + 1), ()), (), (), ())) fun (k : (List Int × Bool × Unit) × Unit × Unit × Unit → Option
 (List Int)) => bif !z.fst.snd.fst then (at? x z.fst.snd.snd.fst).bind fun (e : Int) => bif decide (x_1 ≤ e) then bif fitsB (z.fst.fst.length + [x_1].length) 8 then k ((z.fst.fst ++ [x_1], true, ()), (), (), ()) else
 none else k ((z.fst.fst, z.fst.snd.fst, ()), (), (), ()) else k ((z.fst.fst, z.fst.snd.fst, ()), (), (), ()) else bif !z.fst.snd.fst then bif fitsB (z.fst.fst.length + [x_1].length) 8 then some (z.fst.fst ++ [x_1]) else
 none else some z.fst.fst) N (([], false, 0, ()), (), (), ())
theorem E_epitaphref06_put (N : Nat) : runF Try.prog [] [] N Try.f186 (.seq .lf (.seq .lf (.seq .lf (.seq (.seq .lf (.blk (.loop ⟨[(5, .tip 200005 (.int .u64) none), (6, .d .bool), (7, .d (.int .i64))], [], [0, 1], [], [], []⟩ (.seq .lf (.seq (.blk (.join ⟨[(5, .tip 200005 (.int .u64) none), (6, .d .bool)], [], [0, 1, 7], [], [], []⟩ .lf .lf)) .lf))))) .lf)))) [(.sl (.int .u64)), (.int .u64)] [(.sl (.int .u64))] = F_epitaphref06_put N := by kernel_rfl
noncomputable def e_epitaphref06_put (N : Nat) : Ent Try.prog := mkFn 186 Try.f186 (.seq .lf (.seq .lf (.seq .lf (.seq (.seq .lf (.blk (.loop ⟨[(5, .tip 200005 (.int .u64) none), (6, .d .bool), (7, .d (.int .i64))], [], [0, 1], [], [], []⟩ (.seq .lf (.seq (.blk (.join ⟨[(5, .tip 200005 (.int .u64) none), (6, .d .bool)], [], [0, 1, 7], [], [], []⟩ .lf .lf)) .lf))))) .lf)))) [(.sl (.int .u64)), (.int .u64)] [(.sl (.int .u64))] (F_epitaphref06_put N) mixed Try.func186 (.mk' Try.func186 rfl (by decide)) rfl (E_epitaphref06_put N)
noncomputable def F_epitaphref06_points (N : Nat) : Fun [(.sl tRun), (.sl tRun)] (Option (ResT [(.sl (.int .u64))])) := fun (x x_1 : List (Int × Int)) => bif fitsB (0 + x.length) 16 then bif fitsB (([] ++ x).length +
 x_1.length) 16 then iter (fun (rec : (List Int × Int × Unit) × Unit × Unit × Unit → Option (List Int)) (z : (List Int × Int × Unit) × Unit × Unit × Unit) => bif decide (z.fst.snd.fst < (↑([] ++ x ++ x_1).length : Int))
 then (at? ([] ++ x ++ x_1) z.fst.snd.fst).bind fun (e : Int × Int) => Option.bind (F_epitaphref06_may N e) fun (y : Bool) => bif y then (at? ([] ++ x ++ x_1) z.fst.snd.fst).bind fun (e : Int × Int) => Option.bind
 (F_epitaphref06_put N z.fst.fst e.fst) fun (y : List Int) => (at? ([] ++ x ++ x_1) z.fst.snd.fst).bind fun (e : Int × Int) => Option.bind (F_epitaphref06_put N y (IntKind.u64.wrap (e.snd + 1))) fun (y : List Int) => rec
 ((y, IntKind.i64.wrap (z.fst.snd.fst + 1), ()), (), (), ()) else rec ((z.fst.fst, IntKind.i64.wrap (z.fst.snd.fst + 1), ()), (), (), ()) else some z.fst.fst) N (([], 0, ()), (), (), ()) else none else none
theorem E_epitaphref06_points (N : Nat) : runF Try.prog [e_epitaphref06_may N, e_epitaphref06_put N] [] N Try.f177 (.seq .lf (.seq .lf (.seq .lf (.seq (.seq .lf (.blk (.loop ⟨[(5, .d (.sl (.int .u64))), (7, .d (.int .i64))], [], [6], [], [], []⟩ .lf))) .lf)))) [(.sl tRun), (.sl tRun)] [(.sl (.int .u64))] = F_epitaphref06_points N := by kernel_rfl
noncomputable def e_epitaphref06_points (N : Nat) : Ent Try.prog := mkFn 177 Try.f177 (.seq .lf (.seq .lf (.seq .lf (.seq (.seq .lf (.blk (.loop ⟨[(5, .d (.sl (.int .u64))), (7, .d (.int .i64))], [], [6], [], [], []⟩ .lf))) .lf)))) [(.sl tRun), (.sl tRun)] [(.sl (.int .u64))] (F_epitaphref06_points N) mixed Try.func177 (.mk' Try.func177 rfl (by decide)) rfl (E_epitaphref06_points N)
noncomputable def F_epitaphref06_set (N : Nat) : Fun [(.sl tRun), (.sl tRun), (.int .i64)] (Option (ResT [(.sl tRun)])) := fun (x x_1 : List (Int × Int)) (x_2 : Int) => Option.bind (F_epitaphref06_points N x x_1) fun (y
 : List Int) => iter (fun (rec : (Int × Unit) × Unit × (Option (List (Int × Int) × Nat) × Unit) × Unit → Option (List (Int × Int))) (z : (Int × Unit) × Unit × (Option (List (Int × Int) × Nat) × Unit) × Unit) => optCase
 z.snd.snd.fst.fst (bif decide (IntKind.i64.wrap (z.fst.fst + 1) < (↑y.length : Int)) then (at? y z.fst.fst).bind fun (e : Int) => Option.bind (F_epitaphref06_Has N x e) fun (y_1 : Bool) => (at? y z.fst.fst).bind fun (e
 : Int) => Option.bind (F_epitaphref06_Has N x_1 e) fun (y_2 : Bool) => bif y_1 then joinAt (fun (z_1 : (Bool × Unit) × Unit × (Option (List (Int × Int) × Nat) × Unit) × Unit) => optCase z_1.snd.snd.fst.fst (joinAt (fun
 (z_2 : (Bool × Unit) × Unit × (Option (List (Int × Int) × Nat) × Unit) × Unit) => optCase z_2.snd.snd.fst.fst (bif z_2.fst.fst then bif z_2.fst.fst then (at? y z.fst.fst).bind fun (e : Int) => (at? y (IntKind.i64.wrap
 (z.fst.fst + 1))).bind fun (e_1 : Int) => rec ((IntKind.i64.wrap (z.fst.fst + 1), ()), (), (some ([(e, IntKind.u64.wrap (e_1 - 1))], [(e, IntKind.u64.wrap (e_1 - 1))].length), ()), ()) else rec ((IntKind.i64.wrap
 (z.fst.fst + 1), ()), (), (none, ()), ()) else bif z_2.fst.fst then (at? y z.fst.fst).bind fun (e : Int) => (at? y (IntKind.i64.wrap (z.fst.fst + 1))).bind fun (e_1 : Int) => rec ((IntKind.i64.wrap (z.fst.fst + 1), ()),
 (), (some ([(e, IntKind.u64.wrap (e_1 - 1))], [(e, IntKind.u64.wrap (e_1 - 1))].length), ()), ()) else rec ((IntKind.i64.wrap (z.fst.fst + 1), ()), (), (none, ()), ())) fun (y_3 : List (Int × Int) × Nat) => bif
 z_2.fst.fst then bif decide (0 ≤ IntKind.i64.wrap ((↑y_3.snd : Int) - 1)) then bif decide (0 ≤ IntKind.i64.wrap ((↑y_3.snd : Int) - 1)) && decide (IntKind.i64.wrap ((↑y_3.snd : Int) - 1) < (↑y_3.snd : Int)) then
 y_3.fst[0 + (IntKind.i64.wrap ((↑y_3.snd : Int) - 1)).toNat]?.bind fun (e : Int × Int) => (at? y z.fst.fst).bind fun (e_1 : Int) => bif IntKind.u64.wrap (e.snd + 1) == e_1 then (at? y (IntKind.i64.wrap (z.fst.fst +
 1))).bind fun (e : Int) => bif decide (0 ≤ IntKind.i64.wrap ((↑y_3.snd : Int) - 1)) && decide (IntKind.i64.wrap ((↑y_3.snd : Int) - 1) < (↑y_3.snd : Int)) then y_3.fst[0 + (IntKind.i64.wrap ((↑y_3.snd : Int) -
 1)).toNat]?.bind fun (e_2 : Int × Int) => rec ((IntKind.i64.wrap (z.fst.fst + 1), ()), (), (some (y_3.fst.set (0 + (IntKind.i64.wrap ((↑y_3.snd : Int) - 1)).toNat) (e_2.fst, IntKind.u64.wrap (e - 1)), y_3.snd), ()), ())
 else none else bif z_2.fst.fst then (at? y z.fst.fst).bind fun (e : Int) => (at? y (IntKind.i64.wrap (z.fst.fst + 1))).bind fun (e_2 : Int) => bif y_3.fst.length.beq y_3.snd then bif fitsB (y_3.snd + [(e,
 IntKind.u64.wrap (e_2 - 1))].length) 16 then rec ((IntKind.i64.wrap (z.fst.fst + 1), ()), (), (some (y_3.fst ++ [(e, IntKind.u64.wrap (e_2 - 1))], y_3.snd + [(e, IntKind.u64.wrap (e_2 - 1))].length), ()), ()) else none
 else none else rec ((IntKind.i64.wrap (z.fst.fst + 1), ()), (), (some y_3, ()), ()) else none else bif z_2.fst.fst then (at? y z.fst.fst).bind fun (e : Int) => (at? y (IntKind.i64.wrap (z.fst.fst + 1))).bind fun (e_1 :
 Int) => bif y_3.fst.length.beq y_3.snd then bif fitsB (y_3.snd + [(e, IntKind.u64.wrap (e_1 - 1))].length) 16 then rec ((IntKind.i64.wrap (z.fst.fst + 1), ()), (), (some (y_3.fst ++ [(e, IntKind.u64.wrap (e_1 - 1))],
 y_3.snd + [(e, IntKind.u64.wrap (e_1 - 1))].length), ()), ()) else none else none else rec ((IntKind.i64.wrap (z.fst.fst + 1), ()), (), (some y_3, ()), ()) else bif z_2.fst.fst then (at? y z.fst.fst).bind fun (e : Int)
 => (at? y (IntKind.i64.wrap (z.fst.fst + 1))).bind fun (e_1 : Int) => bif y_3.fst.length.beq y_3.snd then bif fitsB (y_3.snd + [(e, IntKind.u64.wrap (e_1 - 1))].length) 16 then rec ((IntKind.i64.wrap (z.fst.fst + 1),
 ()), (), (some (y_3.fst ++ [(e, IntKind.u64.wrap (e_1 - 1))], y_3.snd + [(e, IntKind.u64.wrap (e_1 - 1))].length), ()), ()) else none else none else rec ((IntKind.i64.wrap (z.fst.fst + 1), ()), (), (some y_3, ()), ()))
 fun (k : (Bool × Unit) × Unit × (Option (List (Int × Int) × Nat) × Unit) × Unit → Option (List (Int × Int))) => bif x_2 == 2 then bif y_1 then k ((!y_2, ()), (), (none, ()), ()) else k ((false, ()), (), (none, ()), ())
 else k ((z_1.fst.fst, ()), (), (none, ()), ())) fun (y_3 : List (Int × Int) × Nat) => joinAt (fun (z_2 : (Bool × Unit) × Unit × (Option (List (Int × Int) × Nat) × Unit) × Unit) => optCase z_2.snd.snd.fst.fst (bif
 z_2.fst.fst then bif z_2.fst.fst then (at? y z.fst.fst).bind fun (e : Int) => (at? y (IntKind.i64.wrap (z.fst.fst + 1))).bind fun (e_1 : Int) => rec ((IntKind.i64.wrap (z.fst.fst + 1), ()), (), (some ([(e,
 IntKind.u64.wrap (e_1 - 1))], [(e, IntKind.u64.wrap (e_1 - 1))].length), ()), ()) else rec ((IntKind.i64.wrap (z.fst.fst + 1), ()), (), (none, ()), ()) else bif z_2.fst.fst then (at? y z.fst.fst).bind fun (e : Int) =>
 (at? y (IntKind.i64.wrap (z.fst.fst + 1))).bind fun (e_1 : Int) => rec ((IntKind.i64.wrap (z.fst.fst + 1), ()), (), (some ([(e, IntKind.u64.wrap (e_1 - 1))], [(e, IntKind.u64.wrap (e_1 - 1))].length), ()), ()) else rec
 ((IntKind.i64.wrap (z.fst.fst + 1), ()), (), (none, ()), ())) fun (y_4 : List (Int × Int) × Nat) => bif z_2.fst.fst then bif decide (0 ≤ IntKind.i64.wrap ((↑y_4.snd : Int) - 1)) then bif decide (0 ≤ IntKind.i64.wrap
 ((↑y_4.snd : Int) - 1)) && decide (IntKind.i64.wrap ((↑y_4.snd : Int) - 1) < (↑y_4.snd : Int)) then y_4.fst[0 + (IntKind.i64.wrap ((↑y_4.snd : Int) - 1)).toNat]?.bind fun (e : Int × Int) => (at? y z.fst.fst).bind fun
 (e_1 : Int) => bif IntKind.u64.wrap (e.snd + 1) == e_1 then (at? y (IntKind.i64.wrap (z.fst.fst + 1))).bind fun (e : Int) => bif decide (0 ≤ IntKind.i64.wrap ((↑y_4.snd : Int) - 1)) && decide (IntKind.i64.wrap
 ((↑y_4.snd : Int) - 1) < (↑y_4.snd : Int)) then y_4.fst[0 + (IntKind.i64.wrap ((↑y_4.snd : Int) - 1)).toNat]?.bind fun (e_2 : Int × Int) => rec ((IntKind.i64.wrap (z.fst.fst + 1), ()), (), (some (y_4.fst.set (0 +
 (IntKind.i64.wrap ((↑y_4.snd : Int) - 1)).toNat) (e_2.fst, IntKind.u64.wrap (e - 1)), y_4.snd), ()), ()) else none else bif z_2.fst.fst then (at? y z.fst.fst).bind fun (e : Int) => (at? y (IntKind.i64.wrap (z.fst.fst +
 1))).bind fun (e_2 : Int) => bif y_4.fst.length.beq y_4.snd then bif fitsB (y_4.snd + [(e, IntKind.u64.wrap (e_2 - 1))].length) 16 then rec ((IntKind.i64.wrap (z.fst.fst + 1), ()), (), (some (y_4.fst ++ [(e,
 IntKind.u64.wrap (e_2 - 1))], y_4.snd + [(e, IntKind.u64.wrap (e_2 - 1))].length), ()), ()) else none else none else rec ((IntKind.i64.wrap (z.fst.fst + 1), ()), (), (some y_4, ()), ()) else none else bif z_2.fst.fst
 then (at? y z.fst.fst).bind fun (e : Int) => (at? y (IntKind.i64.wrap (z.fst.fst + 1))).bind fun (e_1 : Int) => bif y_4.fst.length.beq y_4.snd then bif fitsB (y_4.snd + [(e, IntKind.u64.wrap (e_1 - 1))].length) 16 then
 rec ((IntKind.i64.wrap (z.fst.fst + 1), ()), (), (some (y_4.fst ++ [(e, IntKind.u64.wrap (e_1 - 1))], y_4.snd + [(e, IntKind.u64.wrap (e_1 - 1))].length), ()), ()) else none else none else rec ((IntKind.i64.wrap
 (z.fst.fst + 1), ()), (), (some y_4, ()), ()) else bif z_2.fst.fst then (at? y z.fst.fst).bind fun (e : Int) => (at? y (IntKind.i64.wrap (z.fst.fst + 1))).bind fun (e_1 : Int) => bif y_4.fst.length.beq y_4.snd then bif
 fitsB (y_4.snd + [(e, IntKind.u64.wrap (e_1 - 1))].length) 16 then rec ((IntKind.i64.wrap (z.fst.fst + 1), ()), (), (some (y_4.fst ++ [(e, IntKind.u64.wrap (e_1 - 1))], y_4.snd + [(e, IntKind.u64.wrap (e_1 -
 1))].length), ()), ()) else none else none else rec ((IntKind.i64.wrap (z.fst.fst + 1), ()), (), (some y_4, ()), ())) fun (k : (Bool × Unit) × Unit × (Option (List (Int × Int) × Nat) × Unit) × Unit → Option (List (Int ×
 Int))) => bif x_2 == 2 then bif y_1 then k ((!y_2, ()), (), (some y_3, ()), ()) else k ((false, ()), (), (some y_3, ()), ()) else k ((z_1.fst.fst, ()), (), (some y_3, ()), ())) fun (k : (Bool × Unit) × Unit × (Option
 (List (Int × Int) × Nat) × Unit) × Unit → Option (List (Int × Int))) => bif x_2 == 1 then bif y_1 then k ((y_2, ()), (), (none, ()), ()) else k ((false, ()), (), (none, ()), ()) else k ((true, ()), (), (none, ()), ())
 else joinAt (fun (z_1 : (Bool × Unit) × Unit × (Option (List (Int × Int) × Nat) × Unit) × Unit) => optCase z_1.snd.snd.fst.fst (joinAt (fun (z_2 : (Bool × Unit) × Unit × (Option (List (Int × Int) × Nat) × Unit) × Unit)
 => optCase z_2.snd.snd.fst.fst (bif z_2.fst.fst then bif z_2.fst.fst then (at? y z.fst.fst).bind fun (e : Int) => (at? y (IntKind.i64.wrap (z.fst.fst + 1))).bind fun (e_1 : Int) => rec ((IntKind.i64.wrap (z.fst.fst +
 1), ()), (), (some ([(e, IntKind.u64.wrap (e_1 - 1))], [(e, IntKind.u64.wrap (e_1 - 1))].length), ()), ()) else rec ((IntKind.i64.wrap (z.fst.fst + 1), ()), (), (none, ()), ()) else bif z_2.fst.fst then (at? y
 z.fst.fst).bind fun (e : Int) => (at? y (IntKind.i64.wrap (z.fst.fst + 1))).bind fun (e_1 : Int) => rec ((IntKind.i64.wrap (z.fst.fst + 1), ()), (), (some ([(e, IntKind.u64.wrap (e_1 - 1))], [(e, IntKind.u64.wrap (e_1 -
 1))].length), ()), ()) else rec ((IntKind.i64.wrap (z.fst.fst + 1), ()), (), (none, ()), ())) fun (y_3 : List (Int × Int) × Nat) => bif z_2.fst.fst then bif decide (0 ≤ IntKind.i64.wrap ((↑y_3.snd : Int) - 1)) then bif
 decide (0 ≤ IntKind.i64.wrap ((↑y_3.snd : Int) - 1)) && decide (IntKind.i64.wrap ((↑y_3.snd : Int) - 1) < (↑y_3.snd : Int)) then y_3.fst[0 + (IntKind.i64.wrap ((↑y_3.snd : Int) - 1)).toNat]?.bind fun (e : Int × Int) =>
 (at? y z.fst.fst).bind fun (e_1 : Int) => bif IntKind.u64.wrap (e.snd + 1) == e_1 then (at? y (IntKind.i64.wrap (z.fst.fst + 1))).bind fun (e : Int) => bif decide (0 ≤ IntKind.i64.wrap ((↑y_3.snd : Int) - 1)) && decide
 (IntKind.i64.wrap ((↑y_3.snd : Int) - 1) < (↑y_3.snd : Int)) then y_3.fst[0 + (IntKind.i64.wrap ((↑y_3.snd : Int) - 1)).toNat]?.bind fun (e_2 : Int × Int) => rec ((IntKind.i64.wrap (z.fst.fst + 1), ()), (), (some
 (y_3.fst.set (0 + (IntKind.i64.wrap ((↑y_3.snd : Int) - 1)).toNat) (e_2.fst, IntKind.u64.wrap (e - 1)), y_3.snd), ()), ()) else none else bif z_2.fst.fst then (at? y z.fst.fst).bind fun (e : Int) => (at? y
 (IntKind.i64.wrap (z.fst.fst + 1))).bind fun (e_2 : Int) => bif y_3.fst.length.beq y_3.snd then bif fitsB (y_3.snd + [(e, IntKind.u64.wrap (e_2 - 1))].length) 16 then rec ((IntKind.i64.wrap (z.fst.fst + 1), ()), (),
 (some (y_3.fst ++ [(e, IntKind.u64.wrap (e_2 - 1))], y_3.snd + [(e, IntKind.u64.wrap (e_2 - 1))].length), ()), ()) else none else none else rec ((IntKind.i64.wrap (z.fst.fst + 1), ()), (), (some y_3, ()), ()) else none
 else bif z_2.fst.fst then (at? y z.fst.fst).bind fun (e : Int) => (at? y (IntKind.i64.wrap (z.fst.fst + 1))).bind fun (e_1 : Int) => bif y_3.fst.length.beq y_3.snd then bif fitsB (y_3.snd + [(e, IntKind.u64.wrap (e_1 -
 1))].length) 16 then rec ((IntKind.i64.wrap (z.fst.fst + 1), ()), (), (some (y_3.fst ++ [(e, IntKind.u64.wrap (e_1 - 1))], y_3.snd + [(e, IntKind.u64.wrap (e_1 - 1))].length), ()), ()) else none else none else rec
 ((IntKind.i64.wrap (z.fst.fst + 1), ()), (), (some y_3, ()), ()) else bif z_2.fst.fst then (at? y z.fst.fst).bind fun (e : Int) => (at? y (IntKind.i64.wrap (z.fst.fst + 1))).bind fun (e_1 : Int) => bif
 y_3.fst.length.beq y_3.snd then bif fitsB (y_3.snd + [(e, IntKind.u64.wrap (e_1 - 1))].length) 16 then rec ((IntKind.i64.wrap (z.fst.fst + 1), ()), (), (some (y_3.fst ++ [(e, IntKind.u64.wrap (e_1 - 1))], y_3.snd + [(e,
 IntKind.u64.wrap (e_1 - 1))].length), ()), ()) else none else none else rec ((IntKind.i64.wrap (z.fst.fst + 1), ()), (), (some y_3, ()), ())) fun (k : (Bool × Unit) × Unit × (Option (List (Int × Int) × Nat) × Unit) ×
 Unit → Option (List (Int × Int))) => bif x_2 == 2 then bif y_1 then k ((!y_2, ()), (), (none, ()), ()) else k ((false, ()), (), (none, ()), ()) else k ((z_1.fst.fst, ()), (), (none, ()), ())) fun (y_3 : List (Int × Int)
 × Nat) => joinAt (fun (z_2 : (Bool × Unit) × Unit × (Option (List (Int × Int) × Nat) × Unit) × Unit) => optCase z_2.snd.snd.fst.fst (bif z_2.fst.fst then bif z_2.fst.fst then (at? y z.fst.fst).bind fun (e : Int) => (at?
 y (IntKind.i64.wrap (z.fst.fst + 1))).bind fun (e_1 : Int) => rec ((IntKind.i64.wrap (z.fst.fst + 1), ()), (), (some ([(e, IntKind.u64.wrap (e_1 - 1))], [(e, IntKind.u64.wrap (e_1 - 1))].length), ()), ()) else rec
 ((IntKind.i64.wrap (z.fst.fst + 1), ()), (), (none, ()), ()) else bif z_2.fst.fst then (at? y z.fst.fst).bind fun (e : Int) => (at? y (IntKind.i64.wrap (z.fst.fst + 1))).bind fun (e_1 : Int) => rec ((IntKind.i64.wrap
 (z.fst.fst + 1), ()), (), (some ([(e, IntKind.u64.wrap (e_1 - 1))], [(e, IntKind.u64.wrap (e_1 - 1))].length), ()), ()) else rec ((IntKind.i64.wrap (z.fst.fst + 1), ()), (), (none, ()), ())) fun (y_4 : List (Int × Int)
 × Nat) => bif z_2.fst.fst then bif decide (0 ≤ IntKind.i64.wrap ((↑y_4.snd : Int) - 1)) then bif decide (0 ≤ IntKind.i64.wrap ((↑y_4.snd : Int) - 1)) && decide (IntKind.i64.wrap ((↑y_4.snd : Int) - 1) < (↑y_4.snd :
 Int)) then y_4.fst[0 + (IntKind.i64.wrap ((↑y_4.snd : Int) - 1)).toNat]?.bind fun (e : Int × Int) => (at? y z.fst.fst).bind fun (e_1 : Int) => bif IntKind.u64.wrap (e.snd + 1) == e_1 then (at? y (IntKind.i64.wrap
 (z.fst.fst + 1))).bind fun (e : Int) => bif decide (0 ≤ IntKind.i64.wrap ((↑y_4.snd : Int) - 1)) && decide (IntKind.i64.wrap ((↑y_4.snd : Int) - 1) < (↑y_4.snd : Int)) then y_4.fst[0 + (IntKind.i64.wrap ((↑y_4.snd :
 Int) - 1)).toNat]?.bind fun (e_2 : Int × Int) => rec ((IntKind.i64.wrap (z.fst.fst + 1), ()), (), (some (y_4.fst.set (0 + (IntKind.i64.wrap ((↑y_4.snd : Int) - 1)).toNat) (e_2.fst, IntKind.u64.wrap (e - 1)), y_4.snd),
 ()), ()) else none else bif z_2.fst.fst then (at? y z.fst.fst).bind fun (e : Int) => (at? y (IntKind.i64.wrap (z.fst.fst + 1))).bind fun (e_2 : Int) => bif y_4.fst.length.beq y_4.snd then bif fitsB (y_4.snd + [(e,
 IntKind.u64.wrap (e_2 - 1))].length) 16 then rec ((IntKind.i64.wrap (z.fst.fst + 1), ()), (), (some (y_4.fst ++ [(e, IntKind.u64.wrap (e_2 - 1))], y_4.snd + [(e, IntKind.u64.wrap (e_2 - 1))].length), ()), ()) else none
 else none else rec ((IntKind.i64.wrap (z.fst.fst + 1), ()), (), (some y_4, ()), ()) else none else bif z_2.fst.fst then (at? y z.fst.fst).bind fun (e : Int) => (at? y (IntKind.i64.wrap (z.fst.fst + 1))).bind fun (e_1 :
 Int) => bif y_4.fst.length.beq y_4.snd then bif fitsB (y_4.snd + [(e, IntKind.u64.wrap (e_1 - 1))].length) 16 then rec ((IntKind.i64.wrap (z.fst.fst + 1), ()), (), (some (y_4.fst ++ [(e, IntKind.u64.wrap (e_1 - 1))],
 y_4.snd + [(e, IntKind.u64.wrap (e_1 - 1))].length), ()), ()) else none else none else rec ((IntKind.i64.wrap (z.fst.fst + 1), ()), (), (some y_4, ()), ()) else bif z_2.fst.fst then (at? y z.fst.fst).bind fun (e : Int)
 => (at? y (IntKind.i64.wrap (z.fst.fst + 1))).bind fun (e_1 : Int) => bif y_4.fst.length.beq y_4.snd then bif fitsB (y_4.snd + [(e, IntKind.u64.wrap (e_1 - 1))].length) 16 then rec ((IntKind.i64.wrap (z.fst.fst + 1),
 ()), (), (some (y_4.fst ++ [(e, IntKind.u64.wrap (e_1 - 1))], y_4.snd + [(e, IntKind.u64.wrap (e_1 - 1))].length), ()), ()) else none else none else rec ((IntKind.i64.wrap (z.fst.fst + 1), ()), (), (some y_4, ()), ()))
 fun (k : (Bool × Unit) × Unit × (Option (List (Int × Int) × Nat) × Unit) × Unit → Option (List (Int × Int))) => bif x_2 == 2 then bif y_1 then k ((!y_2, ()), (), (some y_3, ()), ()) else k ((false, ()), (), (some y_3,
 ()), ()) else k ((z_1.fst.fst, ()), (), (some y_3, ()), ())) fun (k : (Bool × Unit) × Unit × (Option (List (Int × Int) × Nat) × Unit) × Unit → Option (List (Int × Int))) => bif x_2 == 1 then bif y_1 then k ((y_2, ()),
 (), (none, ()), ()) else k ((false, ()), (), (none, ()), ()) else k ((y_2, ()), (), (none, ()), ()) else some []) fun (y_1 : List (Int × Int) × Nat) => bif decide (IntKind.i64.wrap (z.fst.fst + 1) < (↑y.length : Int))
 then (at? y z.fst.fst).bind fun (e : Int) => Option.bind (F_epitaphref06_Has N x e) fun (y_2 : Bool) => (at? y z.fst.fst).bind fun (e : Int) => Option.bind (F_epitaphref06_Has N x_1 e) fun (y_3 : Bool) => bif y_2 then
 joinAt (fun (z_1 : (Bool × Unit) × Unit × (Option (List (Int × Int) × Nat) × Unit) × Unit) => optCase z_1.snd.snd.fst.fst (joinAt (fun (z_2 : (Bool × Unit) × Unit × (Option (List (Int × Int) × Nat) × Unit) × Unit) =>
 optCase z_2.snd.snd.fst.fst (bif z_2.fst.fst then bif z_2.fst.fst then (at? y z.fst.fst).bind fun (e : Int) => (at? y (IntKind.i64.wrap (z.fst.fst + 1))).bind fun (e_1 : Int) => rec ((IntKind.i64.wrap (z.fst.fst + 1),
 ()), (), (some ([(e, IntKind.u64.wrap (e_1 - 1))], [(e, IntKind.u64.wrap (e_1 - 1))].length), ()), ()) else rec ((IntKind.i64.wrap (z.fst.fst + 1), ()), (), (none, ()), ()) else bif z_2.fst.fst then (at? y
 z.fst.fst).bind fun (e : Int) => (at? y (IntKind.i64.wrap (z.fst.fst + 1))).bind fun (e_1 : Int) => rec ((IntKind.i64.wrap (z.fst.fst + 1), ()), (), (some ([(e, IntKind.u64.wrap (e_1 - 1))], [(e, IntKind.u64.wrap (e_1 -
 1))].length), ()), ()) else rec ((IntKind.i64.wrap (z.fst.fst + 1), ()), (), (none, ()), ())) fun (y_4 : List (Int × Int) × Nat) => bif z_2.fst.fst then bif decide (0 ≤ IntKind.i64.wrap ((↑y_4.snd : Int) - 1)) then bif
 decide (0 ≤ IntKind.i64.wrap ((↑y_4.snd : Int) - 1)) && decide (IntKind.i64.wrap ((↑y_4.snd : Int) - 1) < (↑y_4.snd : Int)) then y_4.fst[0 + (IntKind.i64.wrap ((↑y_4.snd : Int) - 1)).toNat]?.bind fun (e : Int × Int) =>
 (at? y z.fst.fst).bind fun (e_1 : Int) => bif IntKind.u64.wrap (e.snd + 1) == e_1 then (at? y (IntKind.i64.wrap (z.fst.fst + 1))).bind fun (e : Int) => bif decide (0 ≤ IntKind.i64.wrap ((↑y_4.snd : Int) - 1)) && decide
 (IntKind.i64.wrap ((↑y_4.snd : Int) - 1) < (↑y_4.snd : Int)) then y_4.fst[0 + (IntKind.i64.wrap ((↑y_4.snd : Int) - 1)).toNat]?.bind fun (e_2 : Int × Int) => rec ((IntKind.i64.wrap (z.fst.fst + 1), ()), (), (some
 (y_4.fst.set (0 + (IntKind.i64.wrap ((↑y_4.snd : Int) - 1)).toNat) (e_2.fst, IntKind.u64.wrap (e - 1)), y_4.snd), ()), ()) else none else bif z_2.fst.fst then (at? y z.fst.fst).bind fun (e : Int) => (at? y
 (IntKind.i64.wrap (z.fst.fst + 1))).bind fun (e_2 : Int) => bif y_4.fst.length.beq y_4.snd then bif fitsB (y_4.snd + [(e, IntKind.u64.wrap (e_2 - 1))].length) 16 then rec ((IntKind.i64.wrap (z.fst.fst + 1), ()), (),
 (some (y_4.fst ++ [(e, IntKind.u64.wrap (e_2 - 1))], y_4.snd + [(e, IntKind.u64.wrap (e_2 - 1))].length), ()), ()) else none else none else rec ((IntKind.i64.wrap (z.fst.fst + 1), ()), (), (some y_4, ()), ()) else none
 else bif z_2.fst.fst then (at? y z.fst.fst).bind fun (e : Int) => (at? y (IntKind.i64.wrap (z.fst.fst + 1))).bind fun (e_1 : Int) => bif y_4.fst.length.beq y_4.snd then bif fitsB (y_4.snd + [(e, IntKind.u64.wrap (e_1 -
 1))].length) 16 then rec ((IntKind.i64.wrap (z.fst.fst + 1), ()), (), (some (y_4.fst ++ [(e, IntKind.u64.wrap (e_1 - 1))], y_4.snd + [(e, IntKind.u64.wrap (e_1 - 1))].length), ()), ()) else none else none else rec
 ((IntKind.i64.wrap (z.fst.fst + 1), ()), (), (some y_4, ()), ()) else bif z_2.fst.fst then (at? y z.fst.fst).bind fun (e : Int) => (at? y (IntKind.i64.wrap (z.fst.fst + 1))).bind fun (e_1 : Int) => bif
 y_4.fst.length.beq y_4.snd then bif fitsB (y_4.snd + [(e, IntKind.u64.wrap (e_1 - 1))].length) 16 then rec ((IntKind.i64.wrap (z.fst.fst + 1), ()), (), (some (y_4.fst ++ [(e, IntKind.u64.wrap (e_1 - 1))], y_4.snd + [(e,
 IntKind.u64.wrap (e_1 - 1))].length), ()), ()) else none else none else rec ((IntKind.i64.wrap (z.fst.fst + 1), ()), (), (some y_4, ()), ())) fun (k : (Bool × Unit) × Unit × (Option (List (Int × Int) × Nat) × Unit) ×
 Unit → Option (List (Int × Int))) => bif x_2 == 2 then bif y_2 then k ((!y_3, ()), (), (none, ()), ()) else k ((false, ()), (), (none, ()), ()) else k ((z_1.fst.fst, ()), (), (none, ()), ())) fun (y_4 : List (Int × Int)
 × Nat) => joinAt (fun (z_2 : (Bool × Unit) × Unit × (Option (List (Int × Int) × Nat) × Unit) × Unit) => optCase z_2.snd.snd.fst.fst (bif z_2.fst.fst then bif z_2.fst.fst then (at? y z.fst.fst).bind fun (e : Int) => (at?
 y (IntKind.i64.wrap (z.fst.fst + 1))).bind fun (e_1 : Int) => rec ((IntKind.i64.wrap (z.fst.fst + 1), ()), (), (some ([(e, IntKind.u64.wrap (e_1 - 1))], [(e, IntKind.u64.wrap (e_1 - 1))].length), ()), ()) else rec
 ((IntKind.i64.wrap (z.fst.fst + 1), ()), (), (none, ()), ()) else bif z_2.fst.fst then (at? y z.fst.fst).bind fun (e : Int) => (at? y (IntKind.i64.wrap (z.fst.fst + 1))).bind fun (e_1 : Int) => rec ((IntKind.i64.wrap
 (z.fst.fst + 1), ()), (), (some ([(e, IntKind.u64.wrap (e_1 - 1))], [(e, IntKind.u64.wrap (e_1 - 1))].length), ()), ()) else rec ((IntKind.i64.wrap (z.fst.fst + 1), ()), (), (none, ()), ())) fun (y_5 : List (Int × Int)
 × Nat) => bif z_2.fst.fst then bif decide (0 ≤ IntKind.i64.wrap ((↑y_5.snd : Int) - 1)) then bif decide (0 ≤ IntKind.i64.wrap ((↑y_5.snd : Int) - 1)) && decide (IntKind.i64.wrap ((↑y_5.snd : Int) - 1) < (↑y_5.snd :
 Int)) then y_5.fst[0 + (IntKind.i64.wrap ((↑y_5.snd : Int) - 1)).toNat]?.bind fun (e : Int × Int) => (at? y z.fst.fst).bind fun (e_1 : Int) => bif IntKind.u64.wrap (e.snd + 1) == e_1 then (at? y (IntKind.i64.wrap
 (z.fst.fst + 1))).bind fun (e : Int) => bif decide (0 ≤ IntKind.i64.wrap ((↑y_5.snd : Int) - 1)) && decide (IntKind.i64.wrap ((↑y_5.snd : Int) - 1) < (↑y_5.snd : Int)) then y_5.fst[0 + (IntKind.i64.wrap ((↑y_5.snd :
 Int) - 1)).toNat]?.bind fun (e_2 : Int × Int) => rec ((IntKind.i64.wrap (z.fst.fst + 1), ()), (), (some (y_5.fst.set (0 + (IntKind.i64.wrap ((↑y_5.snd : Int) - 1)).toNat) (e_2.fst, IntKind.u64.wrap (e - 1)), y_5.snd),
 ()), ()) else none else bif z_2.fst.fst then (at? y z.fst.fst).bind fun (e : Int) => (at? y (IntKind.i64.wrap (z.fst.fst + 1))).bind fun (e_2 : Int) => bif y_5.fst.length.beq y_5.snd then bif fitsB (y_5.snd + [(e,
 IntKind.u64.wrap (e_2 - 1))].length) 16 then rec ((IntKind.i64.wrap (z.fst.fst + 1), ()), (), (some (y_5.fst ++ [(e, IntKind.u64.wrap (e_2 - 1))], y_5.snd + [(e, IntKind.u64.wrap (e_2 - 1))].length), ()), ()) else none
 else none else rec ((IntKind.i64.wrap (z.fst.fst + 1), ()), (), (some y_5, ()), ()) else none else bif z_2.fst.fst then (at? y z.fst.fst).bind fun (e : Int) => (at? y (IntKind.i64.wrap (z.fst.fst + 1))).bind fun (e_1 :
 Int) => bif y_5.fst.length.beq y_5.snd then bif fitsB (y_5.snd + [(e, IntKind.u64.wrap (e_1 - 1))].length) 16 then rec ((IntKind.i64.wrap (z.fst.fst + 1), ()), (), (some (y_5.fst ++ [(e, IntKind.u64.wrap (e_1 - 1))],
 y_5.snd + [(e, IntKind.u64.wrap (e_1 - 1))].length), ()), ()) else none else none else rec ((IntKind.i64.wrap (z.fst.fst + 1), ()), (), (some y_5, ()), ()) else bif z_2.fst.fst then (at? y z.fst.fst).bind fun (e : Int)
 => (at? y (IntKind.i64.wrap (z.fst.fst + 1))).bind fun (e_1 : Int) => bif y_5.fst.length.beq y_5.snd then bif fitsB (y_5.snd + [(e, IntKind.u64.wrap (e_1 - 1))].length) 16 then rec ((IntKind.i64.wrap (z.fst.fst + 1),
 ()), (), (some (y_5.fst ++ [(e, IntKind.u64.wrap (e_1 - 1))], y_5.snd + [(e, IntKind.u64.wrap (e_1 - 1))].length), ()), ()) else none else none else rec ((IntKind.i64.wrap (z.fst.fst + 1), ()), (), (some y_5, ()), ()))
 fun (k : (Bool × Unit) × Unit × (Option (List (Int × Int) × Nat) × Unit) × Unit → Option (List (Int × Int))) => bif x_2 == 2 then bif y_2 then k ((!y_3, ()), (), (some y_4, ()), ()) else k ((false, ()), (), (some y_4,
 ()), ()) else k ((z_1.fst.fst, ()), (), (some y_4, ()), ())) fun (k : (Bool × Unit) × Unit × (Option (List (Int × Int) × Nat) × Unit) × Unit → Option (List (Int × Int))) => bif x_2 == 1 then bif y_2 then k ((y_3, ()),
 (), (some y_1, ()), ()) else k ((false, ()), (), (some y_1, ()), ()) else k ((true, ()), (), (some y_1, ()), ()) else joinAt (fun (z_1 : (Bool × Unit) × Unit × (Option (List (Int × Int) × Nat) × Unit) × Unit) => optCase
 z_1.snd.snd.fst.fst (joinAt (fun (z_2 : (Bool × Unit) × Unit × (Option (List (Int × Int) × Nat) × Unit) × Unit) => optCase z_2.snd.snd.fst.fst (bif z_2.fst.fst then bif z_2.fst.fst then (at? y z.fst.fst).bind fun (e :
 Int) => (at? y (IntKind.i64.wrap (z.fst.fst + 1))).bind fun (e_1 : Int) => rec ((IntKind.i64.wrap (z.fst.fst + 1), ()), (), (some ([(e, IntKind.u64.wrap (e_1 - 1))], [(e, IntKind.u64.wrap (e_1 - 1))].length), ()), ())
 else rec ((IntKind.i64.wrap (z.fst.fst + 1), ()), (), (none, ()), ()) else bif z_2.fst.fst then (at? y z.fst.fst).bind fun (e : Int) => (at? y (IntKind.i64.wrap (z.fst.fst + 1))).bind fun (e_1 : Int) => rec
 ((IntKind.i64.wrap (z.fst.fst + 1), ()), (), (some ([(e, IntKind.u64.wrap (e_1 - 1))], [(e, IntKind.u64.wrap (e_1 - 1))].length), ()), ()) else rec ((IntKind.i64.wrap (z.fst.fst + 1), ()), (), (none, ()), ())) fun (y_4
 : List (Int × Int) × Nat) => bif z_2.fst.fst then bif decide (0 ≤ IntKind.i64.wrap ((↑y_4.snd : Int) - 1)) then bif decide (0 ≤ IntKind.i64.wrap ((↑y_4.snd : Int) - 1)) && decide (IntKind.i64.wrap ((↑y_4.snd : Int) - 1)
 < (↑y_4.snd : Int)) then y_4.fst[0 + (IntKind.i64.wrap ((↑y_4.snd : Int) - 1)).toNat]?.bind fun (e : Int × Int) => (at? y z.fst.fst).bind fun (e_1 : Int) => bif IntKind.u64.wrap (e.snd + 1) == e_1 then (at? y
 (IntKind.i64.wrap (z.fst.fst + 1))).bind fun (e : Int) => bif decide (0 ≤ IntKind.i64.wrap ((↑y_4.snd : Int) - 1)) && decide (IntKind.i64.wrap ((↑y_4.snd : Int) - 1) < (↑y_4.snd : Int)) then y_4.fst[0 +
 (IntKind.i64.wrap ((↑y_4.snd : Int) - 1)).toNat]?.bind fun (e_2 : Int × Int) => rec ((IntKind.i64.wrap (z.fst.fst + 1), ()), (), (some (y_4.fst.set (0 + (IntKind.i64.wrap ((↑y_4.snd : Int) - 1)).toNat) (e_2.fst,
 IntKind.u64.wrap (e - 1)), y_4.snd), ()), ()) else none else bif z_2.fst.fst then (at? y z.fst.fst).bind fun (e : Int) => (at? y (IntKind.i64.wrap (z.fst.fst + 1))).bind fun (e_2 : Int) => bif y_4.fst.length.beq y_4.snd
 then bif fitsB (y_4.snd + [(e, IntKind.u64.wrap (e_2 - 1))].length) 16 then rec ((IntKind.i64.wrap (z.fst.fst + 1), ()), (), (some (y_4.fst ++ [(e, IntKind.u64.wrap (e_2 - 1))], y_4.snd + [(e, IntKind.u64.wrap (e_2 -
 1))].length), ()), ()) else none else none else rec ((IntKind.i64.wrap (z.fst.fst + 1), ()), (), (some y_4, ()), ()) else none else bif z_2.fst.fst then (at? y z.fst.fst).bind fun (e : Int) => (at? y (IntKind.i64.wrap
 (z.fst.fst + 1))).bind fun (e_1 : Int) => bif y_4.fst.length.beq y_4.snd then bif fitsB (y_4.snd + [(e, IntKind.u64.wrap (e_1 - 1))].length) 16 then rec ((IntKind.i64.wrap (z.fst.fst + 1), ()), (), (some (y_4.fst ++
 [(e, IntKind.u64.wrap (e_1 - 1))], y_4.snd + [(e, IntKind.u64.wrap (e_1 - 1))].length), ()), ()) else none else none else rec ((IntKind.i64.wrap (z.fst.fst + 1), ()), (), (some y_4, ()), ()) else bif z_2.fst.fst then
 (at? y z.fst.fst).bind fun (e : Int) => (at? y (IntKind.i64.wrap (z.fst.fst + 1))).bind fun (e_1 : Int) => bif y_4.fst.length.beq y_4.snd then bif fitsB (y_4.snd + [(e, IntKind.u64.wrap (e_1 - 1))].length) 16 then rec
 ((IntKind.i64.wrap (z.fst.fst + 1), ()), (), (some (y_4.fst ++ [(e, IntKind.u64.wrap (e_1 - 1))], y_4.snd + [(e, IntKind.u64.wrap (e_1 - 1))].length), ()), ()) else none else none else rec ((IntKind.i64.wrap (z.fst.fst
 + 1), ()), (), (some y_4, ()), ())) fun (k : (Bool × Unit) × Unit × (Option (List (Int × Int) × Nat) × Unit) × Unit → Option (List (Int × Int))) => bif x_2 == 2 then bif y_2 then k ((!y_3, ()), (), (none, ()), ()) else
 k ((false, ()), (), (none, ()), ()) else k ((z_1.fst.fst, ()), (), (none, ()), ())) fun (y_4 : List (Int × Int) × Nat) => joinAt (fun (z_2 : (Bool × Unit) × Unit × (Option (List (Int × Int) × Nat) × Unit) × Unit) =>
 optCase z_2.snd.snd.fst.fst (bif z_2.fst.fst then bif z_2.fst.fst then (at? y z.fst.fst).bind fun (e : Int) => (at? y (IntKind.i64.wrap (z.fst.fst + 1))).bind fun (e_1 : Int) => rec ((IntKind.i64.wrap (z.fst.fst + 1),
 ()), (), (some ([(e, IntKind.u64.wrap (e_1 - 1))], [(e, IntKind.u64.wrap (e_1 - 1))].length), ()), ()) else rec ((IntKind.i64.wrap (z.fst.fst + 1), ()), (), (none, ()), ()) else bif z_2.fst.fst then (at? y
 z.fst.fst).bind fun (e : Int) => (at? y (IntKind.i64.wrap (z.fst.fst + 1))).bind fun (e_1 : Int) => rec ((IntKind.i64.wrap (z.fst.fst + 1), ()), (), (some ([(e, IntKind.u64.wrap (e_1 - 1))], [(e, IntKind.u64.wrap (e_1 -
 1))].length), ()), ()) else rec ((IntKind.i64.wrap (z.fst.fst + 1), ()), (), (none, ()), ())) fun (y_5 : List (Int × Int) × Nat) => bif z_2.fst.fst then bif decide (0 ≤ IntKind.i64.wrap ((↑y_5.snd : Int) - 1)) then bif
 decide (0 ≤ IntKind.i64.wrap ((↑y_5.snd : Int) - 1)) && decide (IntKind.i64.wrap ((↑y_5.snd : Int) - 1) < (↑y_5.snd : Int)) then y_5.fst[0 + (IntKind.i64.wrap ((↑y_5.snd : Int) - 1)).toNat]?.bind fun (e : Int × Int) =>
 (at? y z.fst.fst).bind fun (e_1 : Int) => bif IntKind.u64.wrap (e.snd + 1) == e_1 then (at? y (IntKind.i64.wrap (z.fst.fst + 1))).bind fun (e : Int) => bif decide (0 ≤ IntKind.i64.wrap ((↑y_5.snd : Int) - 1)) && decide
 (IntKind.i64.wrap ((↑y_5.snd : Int) - 1) < (↑y_5.snd : Int)) then y_5.fst[0 + (IntKind.i64.wrap ((↑y_5.snd : Int) - 1)).toNat]?.bind fun (e_2 : Int × Int) => rec ((IntKind.i64.wrap (z.fst.fst + 1), ()), (), (some
 (y_5.fst.set (0 + (IntKind.i64.wrap ((↑y_5.snd : Int) - 1)).toNat) (e_2.fst, IntKind.u64.wrap (e - 1)), y_5.snd), ()), ()) else none else bif z_2.fst.fst then (at? y z.fst.fst).bind fun (e : Int) => (at? y
 (IntKind.i64.wrap (z.fst.fst + 1))).bind fun (e_2 : Int) => bif y_5.fst.length.beq y_5.snd then bif fitsB (y_5.snd + [(e, IntKind.u64.wrap (e_2 - 1))].length) 16 then rec ((IntKind.i64.wrap (z.fst.fst + 1), ()), (),
 (some (y_5.fst ++ [(e, IntKind.u64.wrap (e_2 - 1))], y_5.snd + [(e, IntKind.u64.wrap (e_2 - 1))].length), ()), ()) else none else none else rec ((IntKind.i64.wrap (z.fst.fst + 1), ()), (), (some y_5, ()), ()) else none
 else bif z_2.fst.fst then (at? y z.fst.fst).bind fun (e : Int) => (at? y (IntKind.i64.wrap (z.fst.fst + 1))).bind fun (e_1 : Int) => bif y_5.fst.length.beq y_5.snd then bif fitsB (y_5.snd + [(e, IntKind.u64.wrap (e_1 -
 1))].length) 16 then rec ((IntKind.i64.wrap (z.fst.fst + 1), ()), (), (some (y_5.fst ++ [(e, IntKind.u64.wrap (e_1 - 1))], y_5.snd + [(e, IntKind.u64.wrap (e_1 - 1))].length), ()), ()) else none else none else rec
 ((IntKind.i64.wrap (z.fst.fst + 1), ()), (), (some y_5, ()), ()) else bif z_2.fst.fst then (at? y z.fst.fst).bind fun (e : Int) => (at? y (IntKind.i64.wrap (z.fst.fst + 1))).bind fun (e_1 : Int) => bif
 y_5.fst.length.beq y_5.snd then bif fitsB (y_5.snd + [(e, IntKind.u64.wrap (e_1 - 1))].length) 16 then rec ((IntKind.i64.wrap (z.fst.fst + 1), ()), (), (some (y_5.fst ++ [(e, IntKind.u64.wrap (e_1 - 1))], y_5.snd + [(e,
 IntKind.u64.wrap (e_1 - 1))].length), ()), ()) else none else none else rec ((IntKind.i64.wrap (z.fst.fst + 1), ()), (), (some y_5, ()), ())) fun (k : (Bool × Unit) × Unit × (Option (List (Int × Int) × Nat) × Unit) ×
 Unit → Option (List (Int × Int))) => bif x_2 == 2 then bif y_2 then k ((!y_3, ()), (), (some y_4, ()), ()) else k ((false, ()), (), (some y_4, ()), ()) else k ((z_1.fst.fst, ()), (), (some y_4, ()), ())) fun (k : (Bool
 × Unit) × Unit × (Option (List (Int × Int) × Nat) × Unit) × Unit → Option (List (Int × Int))) => bif x_2 == 1 then bif y_2 then k ((y_3, ()), (), (some y_1, ()), ()) else k ((false, ()), (), (some y_1, ()), ()) else k
 ((y_3, ()), (), (some y_1, ()), ()) else bif (0 + y_1.snd).ble y_1.fst.length then some (List.take y_1.snd (List.drop 0 y_1.fst)) else none) N ((0, ()), (), (none, ()), ())
theorem E_epitaphref06_set (N : Nat) : runF Try.prog [e_epitaphref06_points N, e_epitaphref06_Has N] [98] N Try.f155 (.seq .lf (.seq .lf (.seq .lf (.seq (.seq .lf (.blk (.loop ⟨[(9, .d (.int .i64))], [], [0, 1, 2, 7], [], [(8, 400008, tRun)], []⟩ (.seq .lf (.seq (.blk (.seq .lf (.seq .lf (.join ⟨[(12, .d .bool)], [], [0, 1, 2, 7, 9, 10, 11], [], [(8, 400008, tRun)], []⟩ .lf (.join ⟨[(12, .d .bool)], [], [0, 1, 2, 7, 9], [], [(8, 400008, tRun)], []⟩ .lf .lf))))) .lf))))) .lf)))) [(.sl tRun), (.sl tRun), (.int .i64)] [(.sl tRun)] = F_epitaphref06_set N := by kernel_rfl
noncomputable def e_epitaphref06_set (N : Nat) : Ent Try.prog := mkFn 155 Try.f155 (.seq .lf (.seq .lf (.seq .lf (.seq (.seq .lf (.blk (.loop ⟨[(9, .d (.int .i64))], [], [0, 1, 2, 7], [], [(8, 400008, tRun)], []⟩ (.seq .lf (.seq (.blk (.seq .lf (.seq .lf (.join ⟨[(12, .d .bool)], [], [0, 1, 2, 7, 9, 10, 11], [], [(8, 400008, tRun)], []⟩ .lf (.join ⟨[(12, .d .bool)], [], [0, 1, 2, 7, 9], [], [(8, 400008, tRun)], []⟩ .lf .lf))))) .lf))))) .lf)))) [(.sl tRun), (.sl tRun), (.int .i64)] [(.sl tRun)] (F_epitaphref06_set N) mixed Try.func155 (.mk' Try.func155 rfl (by decide)) rfl (E_epitaphref06_set N)
noncomputable def F_epitaphref06_Join (N : Nat) : Fun [(.sl tRun), (.sl tRun)] (Option (ResT [(.sl tRun)])) := fun (x x_1 : List (Int × Int)) => Option.bind (F_epitaphref06_set N x x_1 0) fun (y : List (Int × Int)) =>
 some y
theorem E_epitaphref06_Join (N : Nat) : runF Try.prog [e_epitaphref06_set N] [] N Try.f125 .lf [(.sl tRun), (.sl tRun)] [(.sl tRun)] = F_epitaphref06_Join N := by kernel_rfl
noncomputable def e_epitaphref06_Join (N : Nat) : Ent Try.prog := mkFn 125 Try.f125 .lf [(.sl tRun), (.sl tRun)] [(.sl tRun)] (F_epitaphref06_Join N) mixed Try.func125 (.mk' Try.func125 rfl (by decide)) rfl (E_epitaphref06_Join N)
noncomputable def F_epitaphref09_Runs (N : Nat) : Fun [(.sl tPart), (.int .u16)] (Option (ResT [(.sl tRun)])) := fun (x : List (Int × List (Int × Int))) (x_1 : Int) => iter (fun (rec : (List (Int × Int) × Int × Unit) ×
 Unit × Unit × Unit → Option (List (Int × Int))) (z : (List (Int × Int) × Int × Unit) × Unit × Unit × Unit) => bif decide (z.fst.snd.fst < (↑x.length : Int)) then (at? x z.fst.snd.fst).bind fun (e : Int × List (Int ×
 Int)) => bif e.fst == x_1 then bif x_1 != 0 then (at? x z.fst.snd.fst).bind fun (e : Int × List (Int × Int)) => Option.bind (F_epitaphref06_Join N z.fst.fst e.snd) fun (y : List (Int × Int)) => rec ((y, IntKind.i64.wrap
 (z.fst.snd.fst + 1), ()), (), (), ()) else rec ((z.fst.fst, IntKind.i64.wrap (z.fst.snd.fst + 1), ()), (), (), ()) else rec ((z.fst.fst, IntKind.i64.wrap (z.fst.snd.fst + 1), ()), (), (), ()) else some z.fst.fst) N
 (([], 0, ()), (), (), ())
theorem E_epitaphref09_Runs (N : Nat) : runF Try.prog [e_epitaphref06_Join N] [] N Try.f94 (.seq .lf (.seq .lf (.seq (.seq .lf (.blk (.loop ⟨[(5, .d (.sl tRun)), (6, .d (.int .i64))], [], [0, 1], [], [], []⟩ .lf))) .lf))) [(.sl tPart), (.int .u16)] [(.sl tRun)] = F_epitaphref09_Runs N := by kernel_rfl
noncomputable def e_epitaphref09_Runs (N : Nat) : Ent Try.prog := mkFn 94 Try.f94 (.seq .lf (.seq .lf (.seq (.seq .lf (.blk (.loop ⟨[(5, .d (.sl tRun)), (6, .d (.int .i64))], [], [0, 1], [], [], []⟩ .lf))) .lf))) [(.sl tPart), (.int .u16)] [(.sl tRun)] (F_epitaphref09_Runs N) mixed Try.func94 (.mk' Try.func94 rfl (by decide)) rfl (E_epitaphref09_Runs N)
noncomputable def F_epitaphref09_Has (N : Nat) : Fun [(.sl tPart), tDot] (Option (ResT [.bool])) := fun (x : List (Int × List (Int × Int))) (x_1 : Int × Int) => Option.bind (F_epitaphref07_Good N x_1) fun (y : Bool) =>
 bif y then Option.bind (F_epitaphref09_Runs N x x_1.fst) fun (y : List (Int × Int)) => Option.bind (F_epitaphref06_Has N y x_1.snd) fun (y : Bool) => some y else some false
theorem E_epitaphref09_Has (N : Nat) : runF Try.prog [e_epitaphref07_Good N, e_epitaphref06_Has N, e_epitaphref09_Runs N] [] N Try.f69 .lf [(.sl tPart), tDot] [.bool] = F_epitaphref09_Has N := by kernel_rfl
noncomputable def e_epitaphref09_Has (N : Nat) : Ent Try.prog := mkFn 69 Try.f69 .lf [(.sl tPart), tDot] [.bool] (F_epitaphref09_Has N) mixed Try.func69 (.mk' Try.func69 rfl (by decide)) rfl (E_epitaphref09_Has N)
noncomputable def F_epitaphref09_Few (N : Nat) : Fun [(.sl tPart)] (Option (ResT [.bool])) := fun (x : List (Int × List (Int × Int))) => bif decide (30 < (↑x.length : Int)) then some false else iter (fun (rec : (Int ×
 Unit) × Unit × Unit × Unit → Option Bool) (z : (Int × Unit) × Unit × Unit × Unit) => bif decide (z.fst.fst < (↑x.length : Int)) then (at? x z.fst.fst).bind fun (e : Int × List (Int × Int)) => bif decide (30 <
 (↑e.snd.length : Int)) then some false else rec ((IntKind.i64.wrap (z.fst.fst + 1), ()), (), (), ()) else some true) N ((0, ()), (), (), ())
theorem E_epitaphref09_Few (N : Nat) : runF Try.prog [] [] N Try.f30 (.seq .lf (.seq .lf (.seq (.seq .lf (.blk (.loop ⟨[(3, .d (.int .i64))], [], [0], [], [], []⟩ .lf))) .lf))) [(.sl tPart)] [.bool] = F_epitaphref09_Few N := by kernel_rfl
noncomputable def e_epitaphref09_Few (N : Nat) : Ent Try.prog := mkFn 30 Try.f30 (.seq .lf (.seq .lf (.seq (.seq .lf (.blk (.loop ⟨[(3, .d (.int .i64))], [], [0], [], [], []⟩ .lf))) .lf))) [(.sl tPart)] [.bool] (F_epitaphref09_Few N) mixed Try.func30 (.mk' Try.func30 rfl (by decide)) rfl (E_epitaphref09_Few N)
end Go.Proofs.Xg
namespace Go.Xl
open Go.Ab
def mkNone {P : Program} (f : FuncId) : Ent P where
  id := f
  run := fun _ _ _ _ => none
  ok := by intros; contradiction
end Go.Xl
set_option linter.unusedVariables false
set_option maxRecDepth 100000
namespace Go.Proofs.Xg
open Go Go.Xl Go.Ab Go.Proofs
@[reducible] def tEvent : Ty := (.pair tDot (.pair .u8 (.pair (.int .u64) (.pair .u8 (.pair .str (.sl tDot))))))
noncomputable def F_epitaphref13_Same (N : Nat) : Fun [tEvent, tEvent] (Option (ResT [.bool])) := fun (x x_1 : (Int × Int) × UInt8 × Int × UInt8 × List UInt8 × List (Int × Int)) => bif x.fst.fst == x_1.fst.fst &&
 x.fst.snd == x_1.fst.snd then bif x.snd.fst == x_1.snd.fst then bif x.snd.snd.fst == x_1.snd.snd.fst then bif x.snd.snd.snd.fst == x_1.snd.snd.snd.fst then bif x.snd.snd.snd.snd.fst == x_1.snd.snd.snd.snd.fst then
 Option.bind (F_epitaphref07_Same N x.snd.snd.snd.snd.snd x_1.snd.snd.snd.snd.snd) fun (y : Bool) => some y else some false else some false else some false else some false else some false
theorem E_epitaphref13_Same (N : Nat) : runF Try.prog [e_epitaphref07_Same N] [] N Try.f21 .lf [tEvent, tEvent] [.bool] = F_epitaphref13_Same N := by kernel_rfl
noncomputable def e_epitaphref13_Same (N : Nat) : Ent Try.prog := mkFn 21 Try.f21 .lf [tEvent, tEvent] [.bool] (F_epitaphref13_Same N) mixed Try.func21 (.mk' Try.func21 rfl (by decide)) rfl (E_epitaphref13_Same N)
noncomputable def F_slices_Clone_sDot_Dot_d (N : Nat) : Fun [(.sl tDot)] (Option (ResT [(.sl tDot)])) := cloneD tDot 16
noncomputable def e_slices_Clone_sDot_Dot_d (N : Nat) : Ent Try.prog := mkEnt 56 [(.sl tDot)] [(.sl tDot)] (F_slices_Clone_sDot_Dot_d N) (.mk' Try.func56 rfl (by decide)) (cloneD_sound (Clone_Dot N))
noncomputable def F_event_Copy (N : Nat) : Fun [tEvent] (Option (ResT [tEvent])) := fun (x : (Int × Int) × UInt8 × Int × UInt8 × List UInt8 × List (Int × Int)) => Option.bind (F_slices_Clone_sDot_Dot_d N
 x.snd.snd.snd.snd.snd) fun (y : List (Int × Int)) => some (x.fst, x.snd.fst, x.snd.snd.fst, x.snd.snd.snd.fst, x.snd.snd.snd.snd.fst, y)
theorem E_event_Copy (N : Nat) : runF Try.prog [e_slices_Clone_sDot_Dot_d N] [] N Try.f19 .lf [tEvent] [tEvent] = F_event_Copy N := by kernel_rfl
noncomputable def e_event_Copy (N : Nat) : Ent Try.prog := mkFn 19 Try.f19 .lf [tEvent] [tEvent] (F_event_Copy N) mixed Try.func19 (.mk' Try.func19 rfl (by decide)) rfl (E_event_Copy N)
noncomputable def F_event_Sort_1 (N : Nat) : Fun [tEvent, tEvent] (Option (ResT [(.int .i64)])) := fun (x x_1 : (Int × Int) × UInt8 × Int × UInt8 × List UInt8 × List (Int × Int)) => Option.bind (F_dot_Cmp N x.fst
 x_1.fst) fun (y : Int) => some y
theorem E_event_Sort_1 (N : Nat) : runF Try.prog [e_dot_Cmp N] [] N Try.f58 .lf [tEvent, tEvent] [(.int .i64)] = F_event_Sort_1 N := by kernel_rfl
noncomputable def e_event_Sort_1 (N : Nat) : Ent Try.prog := mkFn 58 Try.f58 .lf [tEvent, tEvent] [(.int .i64)] (F_event_Sort_1 N) mixed Try.func58 (.mk' Try.func58 rfl (by decide)) rfl (E_event_Sort_1 N)
noncomputable def F0_slices_insertionSortCmpFunc_Event (N : Nat) : FunA [.d (.int .i64), .d (.int .i64), .c 58] (Option (ResT (rkTys tEvent []))) := fun (x x_1 : Int) => iter (fun (rec : (Int × Unit) × Unit × Unit × Unit
 → Option Unit) (z : (Int × Unit) × Unit × Unit × Unit) => bif decide (z.fst.fst < x_1) then iter (fun (rec_1 : (Int × Unit) × Unit × Unit × Unit → Option Unit) (z_1 : (Int × Unit) × Unit × Unit × Unit) => bif decide (x
 < z_1.fst.fst) then (at? [] z_1.fst.fst).bind fun (e : (Int × Int) × UInt8 × Int × UInt8 × List UInt8 × List (Int × Int)) => (at? [] (IntKind.i64.wrap (z_1.fst.fst - 1))).bind fun (e_1 : (Int × Int) × UInt8 × Int ×
 UInt8 × List UInt8 × List (Int × Int)) => Option.bind (F_event_Sort_1 N e e_1) fun (y : Int) => bif decide (y < 0) then (at? [] (IntKind.i64.wrap (z_1.fst.fst - 1))).bind fun (e : (Int × Int) × UInt8 × Int × UInt8 ×
 List UInt8 × List (Int × Int)) => (at? [] z_1.fst.fst).bind fun (e : (Int × Int) × UInt8 × Int × UInt8 × List UInt8 × List (Int × Int)) => (at? [] z_1.fst.fst).bind fun (e : (Int × Int) × UInt8 × Int × UInt8 × List
 UInt8 × List (Int × Int)) => none else rec ((IntKind.i64.wrap (z.fst.fst + 1), ()), (), (), ()) else rec ((IntKind.i64.wrap (z.fst.fst + 1), ()), (), (), ())) N ((z.fst.fst, ()), (), (), ()) else some ()) N
 ((IntKind.i64.wrap (x + 1), ()), (), (), ())
theorem E0_slices_insertionSortCmpFunc_Event (N : Nat) : runO0 Try.prog [e_event_Sort_1 N] [] N Try.f118 (.seq .lf (.blk (.loop ⟨[(8, .d (.int .i64))], [], [0, 1, 2, 3], [], [], []⟩ (.seq .lf (.seq (.blk (.seq .lf (.blk (.loop ⟨[(9, .d (.int .i64))], [], [0, 1, 2, 3, 8], [], [], []⟩ .lf)))) .lf))))) tEvent [.d (.int .i64), .d (.int .i64), .c 58] [] = F0_slices_insertionSortCmpFunc_Event N := by kernel_rfl
noncomputable def F_slices_insertionSortCmpFunc_Event (N : Nat) : List (tEvent : Ty).T → Nat → FunA [.d (.int .i64), .d (.int .i64), .c 58] (Option (List (tEvent : Ty).T × ResO [])) := fun (l : List ((Int × Int) × UInt8
 × Int × UInt8 × List UInt8 × List (Int × Int))) (n : Nat) (x x_1 : Int) => iter (fun (rec : (Int × Unit) × Unit × Unit × List ((Int × Int) × UInt8 × Int × UInt8 × List UInt8 × List (Int × Int)) × Unit → Option (List
 ((Int × Int) × UInt8 × Int × UInt8 × List UInt8 × List (Int × Int)) × Unit)) (z : (Int × Unit) × Unit × Unit × List ((Int × Int) × UInt8 × Int × UInt8 × List UInt8 × List (Int × Int)) × Unit) => bif decide (z.fst.fst <
 x_1) then iter (fun (rec_1 : (Int × Unit) × Unit × Unit × List ((Int × Int) × UInt8 × Int × UInt8 × List UInt8 × List (Int × Int)) × Unit → Option (List ((Int × Int) × UInt8 × Int × UInt8 × List UInt8 × List (Int ×
 Int)) × Unit)) (z_1 : (Int × Unit) × Unit × Unit × List ((Int × Int) × UInt8 × Int × UInt8 × List UInt8 × List (Int × Int)) × Unit) => bif decide (x < z_1.fst.fst) then bif decide (0 ≤ z_1.fst.fst) && decide
 (z_1.fst.fst < (↑n : Int)) then z_1.snd.snd.snd.fst[0 + z_1.fst.fst.toNat]?.bind fun (e : (Int × Int) × UInt8 × Int × UInt8 × List UInt8 × List (Int × Int)) => bif decide (0 ≤ IntKind.i64.wrap (z_1.fst.fst - 1)) &&
 decide (IntKind.i64.wrap (z_1.fst.fst - 1) < (↑n : Int)) then z_1.snd.snd.snd.fst[0 + (IntKind.i64.wrap (z_1.fst.fst - 1)).toNat]?.bind fun (e_1 : (Int × Int) × UInt8 × Int × UInt8 × List UInt8 × List (Int × Int)) =>
 Option.bind (F_event_Sort_1 N e e_1) fun (y : Int) => bif decide (y < 0) then bif decide (0 ≤ IntKind.i64.wrap (z_1.fst.fst - 1)) && decide (IntKind.i64.wrap (z_1.fst.fst - 1) < (↑n : Int)) then z_1.snd.snd.snd.fst[0 +
 (IntKind.i64.wrap (z_1.fst.fst - 1)).toNat]?.bind fun (e : (Int × Int) × UInt8 × Int × UInt8 × List UInt8 × List (Int × Int)) => bif decide (0 ≤ z_1.fst.fst) && decide (z_1.fst.fst < (↑n : Int)) then
 z_1.snd.snd.snd.fst[0 + z_1.fst.fst.toNat]?.bind fun (e_2 : (Int × Int) × UInt8 × Int × UInt8 × List UInt8 × List (Int × Int)) => bif decide (0 ≤ z_1.fst.fst) && decide (z_1.fst.fst < (↑n : Int)) then
 z_1.snd.snd.snd.fst[0 + z_1.fst.fst.toNat]?.bind fun (e_3 : (Int × Int) × UInt8 × Int × UInt8 × List UInt8 × List (Int × Int)) => bif decide (0 ≤ IntKind.i64.wrap (z_1.fst.fst - 1)) && decide (IntKind.i64.wrap
 (z_1.fst.fst - 1) < (↑n : Int)) then (z_1.snd.snd.snd.fst.set (0 + z_1.fst.fst.toNat) e)[0 + (IntKind.i64.wrap (z_1.fst.fst - 1)).toNat]?.bind fun (e_4 : (Int × Int) × UInt8 × Int × UInt8 × List UInt8 × List (Int ×
 Int)) => rec_1 ((IntKind.i64.wrap (z_1.fst.fst - 1), ()), (), (), (z_1.snd.snd.snd.fst.set (0 + z_1.fst.fst.toNat) e).set (0 + (IntKind.i64.wrap (z_1.fst.fst - 1)).toNat) e_2, ()) else none else none else none else none
 else rec ((IntKind.i64.wrap (z.fst.fst + 1), ()), (), (), z_1.snd.snd.snd.fst, ()) else none else none else rec ((IntKind.i64.wrap (z.fst.fst + 1), ()), (), (), z_1.snd.snd.snd.fst, ())) N ((z.fst.fst, ()), (), (),
 z.snd.snd.snd.fst, ()) else some (z.snd.snd.snd.fst, ())) N ((IntKind.i64.wrap (x + 1), ()), (), (), l, ())
theorem E_slices_insertionSortCmpFunc_Event (N : Nat) : runO Try.prog [e_event_Sort_1 N] [] N Try.f118 (.seq .lf (.blk (.loop ⟨[(8, .d (.int .i64))], [], [0, 1, 2, 3], [], [], [(1, .arr tEvent)]⟩ (.seq .lf (.seq (.blk (.seq .lf (.blk (.loop ⟨[(9, .d (.int .i64))], [], [0, 1, 2, 3, 8], [], [], [(1, .arr tEvent)]⟩ .lf)))) .lf))))) tEvent [.d (.int .i64), .d (.int .i64), .c 58] [] = F_slices_insertionSortCmpFunc_Event N := by kernel_rfl
noncomputable def e_slices_insertionSortCmpFunc_Event (N : Nat) : Ent Try.prog := mkO2 118 Try.f118 (.seq .lf (.blk (.loop ⟨[(8, .d (.int .i64))], [], [0, 1, 2, 3], [], [], [(1, .arr tEvent)]⟩ (.seq .lf (.seq (.blk (.seq .lf (.blk (.loop ⟨[(9, .d (.int .i64))], [], [0, 1, 2, 3, 8], [], [], [(1, .arr tEvent)]⟩ .lf)))) .lf))))) (.seq .lf (.blk (.loop ⟨[(8, .d (.int .i64))], [], [0, 1, 2, 3], [], [], []⟩ (.seq .lf (.seq (.blk (.seq .lf (.blk (.loop ⟨[(9, .d (.int .i64))], [], [0, 1, 2, 3, 8], [], [], []⟩ .lf)))) .lf))))) tEvent [.d (.int .i64), .d (.int .i64), .c 58] [] (F_slices_insertionSortCmpFunc_Event N) (F0_slices_insertionSortCmpFunc_Event N) mixed Try.func118 (.mk' Try.func118 rfl (by decide)) rfl (E_slices_insertionSortCmpFunc_Event N) (E0_slices_insertionSortCmpFunc_Event N)
noncomputable def e_slices_symMergeCmpFunc_Event (N : Nat) : Ent Try.prog := mkNone 119
noncomputable def F0_slices_stableCmpFunc_Event (N : Nat) : FunA [.d (.int .i64), .c 58] (Option (ResT (rkTys tEvent []))) := fun (x : Int) => iter (fun (rec : (Int × Int × Unit) × Unit × Unit × Unit → Option Unit) (z :
 (Int × Int × Unit) × Unit × Unit × Unit) => bif decide (z.fst.snd.fst ≤ x) then Option.bind (F0_slices_insertionSortCmpFunc_Event N z.fst.fst z.fst.snd.fst) fun (y : Unit) => rec ((z.fst.snd.fst, IntKind.i64.wrap
 (z.fst.snd.fst + 20), ()), (), (), ()) else Option.bind (F0_slices_insertionSortCmpFunc_Event N z.fst.fst x) fun (y : Unit) => iter (fun (rec : (Int × Unit) × Unit × Unit × Unit → Option Unit) (z : (Int × Unit) × Unit ×
 Unit × Unit) => bif decide (z.fst.fst < x) then iter (fun (rec_1 : (Int × Int × Unit) × Unit × Unit × Unit → Option Unit) (z_1 : (Int × Int × Unit) × Unit × Unit × Unit) => bif decide (z_1.fst.snd.fst ≤ x) then none
 else bif decide (IntKind.i64.wrap (z_1.fst.fst + z.fst.fst) < x) then none else rec ((IntKind.i64.wrap (z.fst.fst * 2), ()), (), (), ())) N ((0, IntKind.i64.wrap (2 * z.fst.fst), ()), (), (), ()) else some ()) N ((20,
 ()), (), (), ())) N ((0, 20, ()), (), (), ())
theorem E0_slices_stableCmpFunc_Event (N : Nat) : runO0 Try.prog [e_slices_insertionSortCmpFunc_Event N, e_slices_symMergeCmpFunc_Event N, e_event_Sort_1 N] [] N Try.f84 (.seq .lf (.seq .lf (.seq (.blk (.loop ⟨[(7, .d (.int .i64)), (8, .d (.int .i64))], [], [0, 1, 2, 6], [], [], []⟩ .lf)) (.seq .lf (.blk (.loop ⟨[(6, .d (.int .i64))], [], [0, 1, 2], [], [], []⟩ (.seq .lf (.blk (.seq .lf (.seq (.blk (.loop ⟨[(7, .d (.int .i64)), (8, .d (.int .i64))], [], [0, 1, 2, 6], [], [], []⟩ .lf)) .lf)))))))))) tEvent [.d (.int .i64), .c 58] [] = F0_slices_stableCmpFunc_Event N := by kernel_rfl
noncomputable def F_slices_stableCmpFunc_Event (N : Nat) : List (tEvent : Ty).T → Nat → FunA [.d (.int .i64), .c 58] (Option (List (tEvent : Ty).T × ResO [])) := fun (l : List ((Int × Int) × UInt8 × Int × UInt8 × List
 UInt8 × List (Int × Int))) (n : Nat) (x : Int) => iter (fun (rec : (Int × Int × Unit) × Unit × Unit × List ((Int × Int) × UInt8 × Int × UInt8 × List UInt8 × List (Int × Int)) × Unit → Option (List ((Int × Int) × UInt8 ×
 Int × UInt8 × List UInt8 × List (Int × Int)) × Unit)) (z : (Int × Int × Unit) × Unit × Unit × List ((Int × Int) × UInt8 × Int × UInt8 × List UInt8 × List (Int × Int)) × Unit) => bif decide (z.fst.snd.fst ≤ x) then
 Option.bind (F_slices_insertionSortCmpFunc_Event N z.snd.snd.snd.fst n z.fst.fst z.fst.snd.fst) fun (y : List ((Int × Int) × UInt8 × Int × UInt8 × List UInt8 × List (Int × Int)) × Unit) => rec ((z.fst.snd.fst,
 IntKind.i64.wrap (z.fst.snd.fst + 20), ()), (), (), y.fst, ()) else Option.bind (F_slices_insertionSortCmpFunc_Event N z.snd.snd.snd.fst n z.fst.fst x) fun (y : List ((Int × Int) × UInt8 × Int × UInt8 × List UInt8 ×
 List (Int × Int)) × Unit) => iter (fun (rec : (Int × Unit) × Unit × Unit × List ((Int × Int) × UInt8 × Int × UInt8 × List UInt8 × List (Int × Int)) × Unit → Option (List ((Int × Int) × UInt8 × Int × UInt8 × List UInt8 ×
 List (Int × Int)) × Unit)) (z : (Int × Unit) × Unit × Unit × List ((Int × Int) × UInt8 × Int × UInt8 × List UInt8 × List (Int × Int)) × Unit) => bif decide (z.fst.fst < x) then iter (fun (rec_1 : (Int × Int × Unit) ×
 Unit × Unit × List ((Int × Int) × UInt8 × Int × UInt8 × List UInt8 × List (Int × Int)) × Unit → Option (List ((Int × Int) × UInt8 × Int × UInt8 × List UInt8 × List (Int × Int)) × Unit)) (z_1 : (Int × Int × Unit) × Unit
 × Unit × List ((Int × Int) × UInt8 × Int × UInt8 × List UInt8 × List (Int × Int)) × Unit) => bif decide (z_1.fst.snd.fst ≤ x) then none else bif decide (IntKind.i64.wrap (z_1.fst.fst + z.fst.fst) < x) then none else rec
 ((IntKind.i64.wrap (z.fst.fst * 2), ()), (), (), z_1.snd.snd.snd.fst, ())) N ((0, IntKind.i64.wrap (2 * z.fst.fst), ()), (), (), z.snd.snd.snd.fst, ()) else some (z.snd.snd.snd.fst, ())) N ((20, ()), (), (), y.fst, ()))
 N ((0, 20, ()), (), (), l, ())
theorem E_slices_stableCmpFunc_Event (N : Nat) : runO Try.prog [e_slices_insertionSortCmpFunc_Event N, e_slices_symMergeCmpFunc_Event N, e_event_Sort_1 N] [] N Try.f84 (.seq .lf (.seq .lf (.seq (.blk (.loop ⟨[(7, .d (.int .i64)), (8, .d (.int .i64))], [], [0, 1, 2, 6], [], [], [(1, .arr tEvent)]⟩ .lf)) (.seq .lf (.blk (.loop ⟨[(6, .d (.int .i64))], [], [0, 1, 2], [], [], [(1, .arr tEvent)]⟩ (.seq .lf (.blk (.seq .lf (.seq (.blk (.loop ⟨[(7, .d (.int .i64)), (8, .d (.int .i64))], [], [0, 1, 2, 6], [], [], [(1, .arr tEvent)]⟩ .lf)) .lf)))))))))) tEvent [.d (.int .i64), .c 58] [] = F_slices_stableCmpFunc_Event N := by kernel_rfl
noncomputable def e_slices_stableCmpFunc_Event (N : Nat) : Ent Try.prog := mkO2 84 Try.f84 (.seq .lf (.seq .lf (.seq (.blk (.loop ⟨[(7, .d (.int .i64)), (8, .d (.int .i64))], [], [0, 1, 2, 6], [], [], [(1, .arr tEvent)]⟩ .lf)) (.seq .lf (.blk (.loop ⟨[(6, .d (.int .i64))], [], [0, 1, 2], [], [], [(1, .arr tEvent)]⟩ (.seq .lf (.blk (.seq .lf (.seq (.blk (.loop ⟨[(7, .d (.int .i64)), (8, .d (.int .i64))], [], [0, 1, 2, 6], [], [], [(1, .arr tEvent)]⟩ .lf)) .lf)))))))))) (.seq .lf (.seq .lf (.seq (.blk (.loop ⟨[(7, .d (.int .i64)), (8, .d (.int .i64))], [], [0, 1, 2, 6], [], [], []⟩ .lf)) (.seq .lf (.blk (.loop ⟨[(6, .d (.int .i64))], [], [0, 1, 2], [], [], []⟩ (.seq .lf (.blk (.seq .lf (.seq (.blk (.loop ⟨[(7, .d (.int .i64)), (8, .d (.int .i64))], [], [0, 1, 2, 6], [], [], []⟩ .lf)) .lf)))))))))) tEvent [.d (.int .i64), .c 58] [] (F_slices_stableCmpFunc_Event N) (F0_slices_stableCmpFunc_Event N) mixed Try.func84 (.mk' Try.func84 rfl (by decide)) rfl (E_slices_stableCmpFunc_Event N) (E0_slices_stableCmpFunc_Event N)
noncomputable def F0_slices_SortStableFunc_sEvent_Event (N : Nat) : FunA [.c 58] (Option (ResT (rkTys tEvent []))) := Option.bind (F0_slices_stableCmpFunc_Event N 0) fun (y : Unit) => some ()
theorem E0_slices_SortStableFunc_sEvent_Event (N : Nat) : runO0 Try.prog [e_event_Sort_1 N, e_slices_stableCmpFunc_Event N] [] N Try.f57 .lf tEvent [.c 58] [] = F0_slices_SortStableFunc_sEvent_Event N := by kernel_rfl
noncomputable def F_slices_SortStableFunc_sEvent_Event (N : Nat) : List (tEvent : Ty).T → Nat → FunA [.c 58] (Option (List (tEvent : Ty).T × ResO [])) := fun (l : List ((Int × Int) × UInt8 × Int × UInt8 × List UInt8 ×
 List (Int × Int))) (n : Nat) => Option.bind (F_slices_stableCmpFunc_Event N l n (↑n : Int)) fun (y : List ((Int × Int) × UInt8 × Int × UInt8 × List UInt8 × List (Int × Int)) × Unit) => some (y.fst, ())
theorem E_slices_SortStableFunc_sEvent_Event (N : Nat) : runO Try.prog [e_event_Sort_1 N, e_slices_stableCmpFunc_Event N] [] N Try.f57 .lf tEvent [.c 58] [] = F_slices_SortStableFunc_sEvent_Event N := by kernel_rfl
noncomputable def e_slices_SortStableFunc_sEvent_Event (N : Nat) : Ent Try.prog := mkO2 57 Try.f57 .lf .lf tEvent [.c 58] [] (F_slices_SortStableFunc_sEvent_Event N) (F0_slices_SortStableFunc_sEvent_Event N) mixed Try.func57 (.mk' Try.func57 rfl (by decide)) rfl (E_slices_SortStableFunc_sEvent_Event N) (E0_slices_SortStableFunc_sEvent_Event N)
noncomputable def F_event_Sort_2 (N : Nat) : Fun [tEvent, tEvent] (Option (ResT [.bool])) := fun (x x_1 : (Int × Int) × UInt8 × Int × UInt8 × List UInt8 × List (Int × Int)) => some (x.fst.fst == x_1.fst.fst && x.fst.snd
 == x_1.fst.snd)
theorem E_event_Sort_2 (N : Nat) : runF Try.prog [] [] N Try.f61 .lf [tEvent, tEvent] [.bool] = F_event_Sort_2 N := by kernel_rfl
noncomputable def e_event_Sort_2 (N : Nat) : Ent Try.prog := mkFn 61 Try.f61 .lf [tEvent, tEvent] [.bool] (F_event_Sort_2 N) mixed Try.func61 (.mk' Try.func61 rfl (by decide)) rfl (E_event_Sort_2 N)
noncomputable def F0_slices_CompactFunc_sEvent_Event (N : Nat) : FunA [.c 61] (Option (ResT (rkTys tEvent [.s]))) := some []
theorem E0_slices_CompactFunc_sEvent_Event (N : Nat) : runO0 Try.prog [e_event_Sort_2 N] [] N Try.f60 (.seq .lf (.seq .lf (.seq (.seq .lf (.blk (.loop ⟨[(5, .d (.int .i64))], [], [0, 1], [], [], []⟩ (.seq .lf (.seq (.blk (.seq .lf (.cond (.seq .lf (.seq (.seq .lf (.blk (.loop ⟨[(5, .d (.int .i64)), (7, .d (.int .i64))], [], [0, 1, 6], [], [], []⟩ .lf))) .lf)) .lf))) .lf))))) .lf))) tEvent [.c 61] [.s] = F0_slices_CompactFunc_sEvent_Event N := by kernel_rfl
noncomputable def F_slices_CompactFunc_sEvent_Event (N : Nat) : List (tEvent : Ty).T → Nat → FunA [.c 61] (Option (List (tEvent : Ty).T × ResO [.s])) := fun (l : List ((Int × Int) × UInt8 × Int × UInt8 × List UInt8 ×
 List (Int × Int))) (n : Nat) => bif decide ((↑n : Int) < 2) then some (l, n) else iter (fun (rec : (Int × Unit) × Unit × Unit × List ((Int × Int) × UInt8 × Int × UInt8 × List UInt8 × List (Int × Int)) × Unit → Option
 (List ((Int × Int) × UInt8 × Int × UInt8 × List UInt8 × List (Int × Int)) × Nat)) (z : (Int × Unit) × Unit × Unit × List ((Int × Int) × UInt8 × Int × UInt8 × List UInt8 × List (Int × Int)) × Unit) => bif decide
 (z.fst.fst < (↑n : Int)) then bif decide (0 ≤ z.fst.fst) && decide (z.fst.fst < (↑n : Int)) then z.snd.snd.snd.fst[0 + z.fst.fst.toNat]?.bind fun (e : (Int × Int) × UInt8 × Int × UInt8 × List UInt8 × List (Int × Int))
 => bif decide (0 ≤ IntKind.i64.wrap (z.fst.fst - 1)) && decide (IntKind.i64.wrap (z.fst.fst - 1) < (↑n : Int)) then z.snd.snd.snd.fst[0 + (IntKind.i64.wrap (z.fst.fst - 1)).toNat]?.bind fun (e_1 : (Int × Int) × UInt8 ×
 Int × UInt8 × List UInt8 × List (Int × Int)) => Option.bind (F_event_Sort_2 N e e_1) fun (y : Bool) => bif y then bif cutOk z.fst.fst (↑n : Int) n then iter (fun (rec : (Int × Int × Unit) × Unit × Unit × List ((Int ×
 Int) × UInt8 × Int × UInt8 × List UInt8 × List (Int × Int)) × Unit → Option (List ((Int × Int) × UInt8 × Int × UInt8 × List UInt8 × List (Int × Int)) × Nat)) (z_1 : (Int × Int × Unit) × Unit × Unit × List ((Int × Int) ×
 UInt8 × Int × UInt8 × List UInt8 × List (Int × Int)) × Unit) => bif decide (z_1.fst.snd.fst < (↑((↑n : Int).toNat - z.fst.fst.toNat) : Int)) then bif decide (0 ≤ z_1.fst.snd.fst) && decide (z_1.fst.snd.fst < (↑((↑n :
 Int).toNat - z.fst.fst.toNat) : Int)) then z_1.snd.snd.snd.fst[0 + z.fst.fst.toNat + z_1.fst.snd.fst.toNat]?.bind fun (e : (Int × Int) × UInt8 × Int × UInt8 × List UInt8 × List (Int × Int)) => bif decide (0 ≤
 IntKind.i64.wrap (z_1.fst.snd.fst - 1)) && decide (IntKind.i64.wrap (z_1.fst.snd.fst - 1) < (↑((↑n : Int).toNat - z.fst.fst.toNat) : Int)) then z_1.snd.snd.snd.fst[0 + z.fst.fst.toNat + (IntKind.i64.wrap
 (z_1.fst.snd.fst - 1)).toNat]?.bind fun (e_2 : (Int × Int) × UInt8 × Int × UInt8 × List UInt8 × List (Int × Int)) => Option.bind (F_event_Sort_2 N e e_2) fun (y : Bool) => bif !y then bif decide (0 ≤ z_1.fst.snd.fst) &&
 decide (z_1.fst.snd.fst < (↑((↑n : Int).toNat - z.fst.fst.toNat) : Int)) then z_1.snd.snd.snd.fst[0 + z.fst.fst.toNat + z_1.fst.snd.fst.toNat]?.bind fun (e : (Int × Int) × UInt8 × Int × UInt8 × List UInt8 × List (Int ×
 Int)) => bif decide (0 ≤ z_1.fst.fst) && decide (z_1.fst.fst < (↑n : Int)) then z_1.snd.snd.snd.fst[0 + z_1.fst.fst.toNat]?.bind fun (e_3 : (Int × Int) × UInt8 × Int × UInt8 × List UInt8 × List (Int × Int)) => rec
 ((IntKind.i64.wrap (z_1.fst.fst + 1), IntKind.i64.wrap (z_1.fst.snd.fst + 1), ()), (), (), z_1.snd.snd.snd.fst.set (0 + z_1.fst.fst.toNat) e, ()) else none else none else rec ((z_1.fst.fst, IntKind.i64.wrap
 (z_1.fst.snd.fst + 1), ()), (), (), z_1.snd.snd.snd.fst, ()) else none else none else bif cutOk z_1.fst.fst (↑n : Int) n then bif cutOk 0 z_1.fst.fst n then some (List.take (0 + z_1.fst.fst.toNat) z_1.snd.snd.snd.fst,
 z_1.fst.fst.toNat - 0) else none else none) N ((z.fst.fst, 1, ()), (), (), z.snd.snd.snd.fst, ()) else none else rec ((IntKind.i64.wrap (z.fst.fst + 1), ()), (), (), z.snd.snd.snd.fst, ()) else none else none else some
 (z.snd.snd.snd.fst, n)) N ((1, ()), (), (), l, ())
theorem E_slices_CompactFunc_sEvent_Event (N : Nat) : runO Try.prog [e_event_Sort_2 N] [] N Try.f60 (.seq .lf (.seq .lf (.seq (.seq .lf (.blk (.loop ⟨[(5, .d (.int .i64))], [], [0, 1], [], [], [(1, .arr tEvent)]⟩ (.seq .lf (.seq (.blk (.seq .lf (.cond (.seq .lf (.seq (.seq .lf (.blk (.loop ⟨[(5, .d (.int .i64)), (7, .d (.int .i64))], [], [0, 1, 6], [], [], [(1, .arr tEvent)]⟩ .lf))) .lf)) .lf))) .lf))))) .lf))) tEvent [.c 61] [.s] = F_slices_CompactFunc_sEvent_Event N := by kernel_rfl
noncomputable def e_slices_CompactFunc_sEvent_Event (N : Nat) : Ent Try.prog := mkO2 60 Try.f60 (.seq .lf (.seq .lf (.seq (.seq .lf (.blk (.loop ⟨[(5, .d (.int .i64))], [], [0, 1], [], [], [(1, .arr tEvent)]⟩ (.seq .lf (.seq (.blk (.seq .lf (.cond (.seq .lf (.seq (.seq .lf (.blk (.loop ⟨[(5, .d (.int .i64)), (7, .d (.int .i64))], [], [0, 1, 6], [], [], [(1, .arr tEvent)]⟩ .lf))) .lf)) .lf))) .lf))))) .lf))) (.seq .lf (.seq .lf (.seq (.seq .lf (.blk (.loop ⟨[(5, .d (.int .i64))], [], [0, 1], [], [], []⟩ (.seq .lf (.seq (.blk (.seq .lf (.cond (.seq .lf (.seq (.seq .lf (.blk (.loop ⟨[(5, .d (.int .i64)), (7, .d (.int .i64))], [], [0, 1, 6], [], [], []⟩ .lf))) .lf)) .lf))) .lf))))) .lf))) tEvent [.c 61] [.s] (F_slices_CompactFunc_sEvent_Event N) (F0_slices_CompactFunc_sEvent_Event N) mixed Try.func60 (.mk' Try.func60 rfl (by decide)) rfl (E_slices_CompactFunc_sEvent_Event N) (E0_slices_CompactFunc_sEvent_Event N)
noncomputable def F_event_Sort (N : Nat) : Fun [(.sl tEvent)] (Option (ResT [(.sl tEvent)])) := fun (x : List ((Int × Int) × UInt8 × Int × UInt8 × List UInt8 × List (Int × Int))) => iter (fun (rec : (Int × Unit) × Unit ×
 (Option (List ((Int × Int) × UInt8 × Int × UInt8 × List UInt8 × List (Int × Int)) × Nat) × Unit) × Unit → Option (List ((Int × Int) × UInt8 × Int × UInt8 × List UInt8 × List (Int × Int)))) (z : (Int × Unit) × Unit ×
 (Option (List ((Int × Int) × UInt8 × Int × UInt8 × List UInt8 × List (Int × Int)) × Nat) × Unit) × Unit) => optCase z.snd.snd.fst.fst (bif decide (z.fst.fst < (↑x.length : Int)) then (at? x z.fst.fst).bind fun (e : (Int
 × Int) × UInt8 × Int × UInt8 × List UInt8 × List (Int × Int)) => Option.bind (F_event_Copy N e) fun (y : (Int × Int) × UInt8 × Int × UInt8 × List UInt8 × List (Int × Int)) => rec ((IntKind.i64.wrap (z.fst.fst + 1), ()),
 (), (some ([y], [y].length), ()), ()) else Option.bind (F0_slices_SortStableFunc_sEvent_Event N) fun (y : Unit) => Option.bind (F0_slices_CompactFunc_sEvent_Event N) fun (y : List ((Int × Int) × UInt8 × Int × UInt8 ×
 List UInt8 × List (Int × Int))) => some y) fun (y : List ((Int × Int) × UInt8 × Int × UInt8 × List UInt8 × List (Int × Int)) × Nat) => bif decide (z.fst.fst < (↑x.length : Int)) then (at? x z.fst.fst).bind fun (e : (Int
 × Int) × UInt8 × Int × UInt8 × List UInt8 × List (Int × Int)) => Option.bind (F_event_Copy N e) fun (y_1 : (Int × Int) × UInt8 × Int × UInt8 × List UInt8 × List (Int × Int)) => bif y.fst.length.beq y.snd then bif fitsB
 (y.snd + [y_1].length) 80 then rec ((IntKind.i64.wrap (z.fst.fst + 1), ()), (), (some (y.fst ++ [y_1], y.snd + [y_1].length), ()), ()) else none else none else Option.bind (F_slices_SortStableFunc_sEvent_Event N y.fst
 y.snd) fun (y_1 : List ((Int × Int) × UInt8 × Int × UInt8 × List UInt8 × List (Int × Int)) × Unit) => Option.bind (F_slices_CompactFunc_sEvent_Event N y_1.fst y.snd) fun (y : List ((Int × Int) × UInt8 × Int × UInt8 ×
 List UInt8 × List (Int × Int)) × Nat) => bif (0 + y.snd).ble y.fst.length then some (List.take y.snd (List.drop 0 y.fst)) else none) N ((0, ()), (), (none, ()), ())
theorem E_event_Sort (N : Nat) : runF Try.prog [e_event_Copy N, e_slices_SortStableFunc_sEvent_Event N, e_event_Sort_1 N, e_slices_CompactFunc_sEvent_Event N, e_event_Sort_2 N] [16] N Try.f20 (.seq .lf (.seq .lf (.seq (.seq .lf (.blk (.loop ⟨[(8, .d (.int .i64))], [], [6, 7], [], [(3, 400003, tEvent)], []⟩ .lf))) .lf))) [(.sl tEvent)] [(.sl tEvent)] = F_event_Sort N := by kernel_rfl
noncomputable def e_event_Sort (N : Nat) : Ent Try.prog := mkFn 20 Try.f20 (.seq .lf (.seq .lf (.seq (.seq .lf (.blk (.loop ⟨[(8, .d (.int .i64))], [], [6, 7], [], [(3, 400003, tEvent)], []⟩ .lf))) .lf))) [(.sl tEvent)] [(.sl tEvent)] (F_event_Sort N) mixed Try.func20 (.mk' Try.func20 rfl (by decide)) rfl (E_event_Sort N)
noncomputable def F_event_Kills (N : Nat) : Fun [tEvent, tDot] (Option (ResT [.bool])) := fun (x : (Int × Int) × UInt8 × Int × UInt8 × List UInt8 × List (Int × Int)) (x_1 : Int × Int) => Option.bind (F_dot_Has N
 x.snd.snd.snd.snd.snd x_1) fun (y : Bool) => some y
theorem E_event_Kills (N : Nat) : runF Try.prog [e_dot_Has N] [] N Try.f123 .lf [tEvent, tDot] [.bool] = F_event_Kills N := by kernel_rfl
noncomputable def e_event_Kills (N : Nat) : Ent Try.prog := mkFn 123 Try.f123 .lf [tEvent, tDot] [.bool] (F_event_Kills N) mixed Try.func123 (.mk' Try.func123 rfl (by decide)) rfl (E_event_Kills N)
noncomputable def F_kills_Dead (N : Nat) : Fun [(.sl tEvent), tDot] (Option (ResT [.bool])) := fun (x : List ((Int × Int) × UInt8 × Int × UInt8 × List UInt8 × List (Int × Int))) (x_1 : Int × Int) => iter (fun (rec : (Int
 × Unit) × Unit × Unit × Unit → Option Bool) (z : (Int × Unit) × Unit × Unit × Unit) => bif decide (z.fst.fst < (↑x.length : Int)) then (at? x z.fst.fst).bind fun (e : (Int × Int) × UInt8 × Int × UInt8 × List UInt8 ×
 List (Int × Int)) => Option.bind (F_event_Kills N e x_1) fun (y : Bool) => bif y then some true else rec ((IntKind.i64.wrap (z.fst.fst + 1), ()), (), (), ()) else some false) N ((0, ()), (), (), ())
theorem E_kills_Dead (N : Nat) : runF Try.prog [e_event_Kills N] [] N Try.f90 (.seq .lf (.seq (.seq .lf (.blk (.loop ⟨[(9, .d (.int .i64))], [], [3, 7, 8], [1003], [], []⟩ .lf))) .lf)) [(.sl tEvent), tDot] [.bool] = F_kills_Dead N := by kernel_rfl
noncomputable def e_kills_Dead (N : Nat) : Ent Try.prog := mkFn 90 Try.f90 (.seq .lf (.seq (.seq .lf (.blk (.loop ⟨[(9, .d (.int .i64))], [], [3, 7, 8], [1003], [], []⟩ .lf))) .lf)) [(.sl tEvent), tDot] [.bool] (F_kills_Dead N) mixed Try.func90 (.mk' Try.func90 rfl (by decide)) rfl (E_kills_Dead N)
noncomputable def F_kills_Live (N : Nat) : Fun [(.sl tEvent)] (Option (ResT [(.sl tEvent)])) := fun (x : List ((Int × Int) × UInt8 × Int × UInt8 × List UInt8 × List (Int × Int))) => Option.bind (F_event_Sort N x) fun (y
 : List ((Int × Int) × UInt8 × Int × UInt8 × List UInt8 × List (Int × Int))) => iter (fun (rec : (List ((Int × Int) × UInt8 × Int × UInt8 × List UInt8 × List (Int × Int)) × Int × Unit) × Unit × Unit × Unit → Option (List
 ((Int × Int) × UInt8 × Int × UInt8 × List UInt8 × List (Int × Int)))) (z : (List ((Int × Int) × UInt8 × Int × UInt8 × List UInt8 × List (Int × Int)) × Int × Unit) × Unit × Unit × Unit) => bif decide (z.fst.snd.fst <
 (↑y.length : Int)) then (at? y z.fst.snd.fst).bind fun (e : (Int × Int) × UInt8 × Int × UInt8 × List UInt8 × List (Int × Int)) => bif e.snd.fst == 1 then Option.bind (F_kills_Dead N y e.fst) fun (y : Bool) => bif !y
 then Option.bind (F_event_Copy N e) fun (y : (Int × Int) × UInt8 × Int × UInt8 × List UInt8 × List (Int × Int)) => bif fitsB (z.fst.fst.length + [y].length) 80 then rec ((z.fst.fst ++ [y], IntKind.i64.wrap
 (z.fst.snd.fst + 1), ()), (), (), ()) else none else rec ((z.fst.fst, IntKind.i64.wrap (z.fst.snd.fst + 1), ()), (), (), ()) else rec ((z.fst.fst, IntKind.i64.wrap (z.fst.snd.fst + 1), ()), (), (), ()) else some
 z.fst.fst) N (([], 0, ()), (), (), ())
theorem E_kills_Live (N : Nat) : runF Try.prog [e_event_Copy N, e_event_Sort N, e_kills_Dead N] [] N Try.f66 (.seq .lf (.seq .lf (.seq .lf (.seq (.seq .lf (.blk (.loop ⟨[(3, .tip 200003 tEvent none), (11, .d (.int .i64))], [], [4, 9, 10], [], [], []⟩ .lf))) .lf)))) [(.sl tEvent)] [(.sl tEvent)] = F_kills_Live N := by kernel_rfl
noncomputable def e_kills_Live (N : Nat) : Ent Try.prog := mkFn 66 Try.f66 (.seq .lf (.seq .lf (.seq .lf (.seq (.seq .lf (.blk (.loop ⟨[(3, .tip 200003 tEvent none), (11, .d (.int .i64))], [], [4, 9, 10], [], [], []⟩ .lf))) .lf)))) [(.sl tEvent)] [(.sl tEvent)] (F_kills_Live N) mixed Try.func66 (.mk' Try.func66 rfl (by decide)) rfl (E_kills_Live N)
noncomputable def F_event_Dots (N : Nat) : Fun [(.sl tEvent)] (Option (ResT [(.sl tDot)])) := fun (x : List ((Int × Int) × UInt8 × Int × UInt8 × List UInt8 × List (Int × Int))) => iter (fun (rec : (List (Int × Int) × Int
 × Unit) × Unit × Unit × Unit → Option (List (Int × Int))) (z : (List (Int × Int) × Int × Unit) × Unit × Unit × Unit) => bif decide (z.fst.snd.fst < (↑x.length : Int)) then (at? x z.fst.snd.fst).bind fun (e : (Int × Int)
 × UInt8 × Int × UInt8 × List UInt8 × List (Int × Int)) => bif fitsB (z.fst.fst.length + [e.fst].length) 16 then bif fitsB ((z.fst.fst ++ [e.fst]).length + e.snd.snd.snd.snd.snd.length) 16 then rec ((z.fst.fst ++ [e.fst]
 ++ e.snd.snd.snd.snd.snd, IntKind.i64.wrap (z.fst.snd.fst + 1), ()), (), (), ()) else none else none else Option.bind (F_dot_Sort N z.fst.fst) fun (y : List (Int × Int)) => some y) N (([], 0, ()), (), (), ())
theorem E_event_Dots (N : Nat) : runF Try.prog [e_dot_Sort N] [] N Try.f22 (.seq .lf (.seq .lf (.seq (.seq .lf (.blk (.loop ⟨[(3, .tip 200003 tDot none), (8, .d (.int .i64))], [], [6, 7], [], [], []⟩ .lf))) .lf))) [(.sl tEvent)] [(.sl tDot)] = F_event_Dots N := by kernel_rfl
noncomputable def e_event_Dots (N : Nat) : Ent Try.prog := mkFn 22 Try.f22 (.seq .lf (.seq .lf (.seq (.seq .lf (.blk (.loop ⟨[(3, .tip 200003 tDot none), (8, .d (.int .i64))], [], [6, 7], [], [], []⟩ .lf))) .lf))) [(.sl tEvent)] [(.sl tDot)] (F_event_Dots N) mixed Try.func22 (.mk' Try.func22 rfl (by decide)) rfl (E_event_Dots N)
@[reducible] def S_kills_Edit_1 : CSp := ⟨[.d tEvent, .p 1 0, .p 2 0], [(1, [.d (.int .u64)], some 23), (2, [.d .u8], some 5)], [], ⟨[(4, .d .bool)], [], [], [1, 2], [], []⟩⟩
noncomputable def F_kills_Edit_1 (N : Nat) : CSp.Fun S_kills_Edit_1 (Option S_kills_Edit_1.out.T) := fun (y : (Int × Int) × UInt8 × Int × UInt8 × List UInt8 × List (Int × Int)) (y_1 : Int) (y_2 : UInt8) => bif
 y.snd.snd.fst == y_1 then some ((y.snd.snd.snd.fst == y_2, ()), (), (), ()) else some ((false, ()), (), (), ())
theorem E_kills_Edit_1 (N : Nat) : runC Try.prog [] [] N Try.f92 .lf S_kills_Edit_1 = F_kills_Edit_1 N := by kernel_rfl
noncomputable def e_kills_Edit_1 (N : Nat) : Ent Try.prog := mkC 92 Try.f92 .lf S_kills_Edit_1 (F_kills_Edit_1 N) mixed Try.func92 (.mk' Try.func92 rfl (by decide)) rfl rfl rfl (E_kills_Edit_1 N)
@[reducible] def S_kills_of_e : CSp := ⟨[.d (.sl tEvent), .clo 92 [(1, 0), (2, 0)]], [(1, [.d (.int .u64)], some 23), (2, [.d .u8], some 5)], [], ⟨[(4, .d (.sl tDot))], [], [], [1, 2], [], []⟩⟩
noncomputable def F_kills_of_e (N : Nat) : CSp.Fun S_kills_of_e (Option S_kills_of_e.out.T) := fun (y : List ((Int × Int) × UInt8 × Int × UInt8 × List UInt8 × List (Int × Int))) (y_1 : Int) (y_2 : UInt8) => iter (fun
 (rec : (List ((Int × Int) × UInt8 × Int × UInt8 × List UInt8 × List (Int × Int)) × Int × Unit) × Unit × Unit × Unit → Option ((List (Int × Int) × Unit) × Unit × Unit × Unit)) (z : (List ((Int × Int) × UInt8 × Int ×
 UInt8 × List UInt8 × List (Int × Int)) × Int × Unit) × Unit × Unit × Unit) => bif decide (z.fst.snd.fst < (↑y.length : Int)) then (at? y z.fst.snd.fst).bind fun (e : (Int × Int) × UInt8 × Int × UInt8 × List UInt8 × List
 (Int × Int)) => bif e.snd.fst == 1 then Option.bind (F_kills_Edit_1 N e y_1 y_2) fun (y : (Bool × Unit) × Unit × Unit × Unit) => bif y.fst.fst then bif fitsB (z.fst.fst.length + [e].length) 80 then rec ((z.fst.fst ++
 [e], IntKind.i64.wrap (z.fst.snd.fst + 1), ()), (), (), ()) else none else rec ((z.fst.fst, IntKind.i64.wrap (z.fst.snd.fst + 1), ()), (), (), ()) else rec ((z.fst.fst, IntKind.i64.wrap (z.fst.snd.fst + 1), ()), (), (),
 ()) else Option.bind (F_event_Dots N z.fst.fst) fun (y : List (Int × Int)) => some ((y, ()), (), (), ())) N (([], 0, ()), (), (), ())
theorem E_kills_of_e (N : Nat) : runC Try.prog [e_event_Dots N, e_kills_Edit_1 N] [] N Try.f91 (.seq .lf (.seq .lf (.seq (.seq .lf (.blk (.loop ⟨[(5, .tip 200005 tEvent none), (10, .d (.int .i64))], [], [1, 8, 9], [1, 2], [], []⟩ .lf))) .lf))) S_kills_of_e = F_kills_of_e N := by kernel_rfl
noncomputable def e_kills_of_e (N : Nat) : Ent Try.prog := mkC 91 Try.f91 (.seq .lf (.seq .lf (.seq (.seq .lf (.blk (.loop ⟨[(5, .tip 200005 tEvent none), (10, .d (.int .i64))], [], [1, 8, 9], [1, 2], [], []⟩ .lf))) .lf))) S_kills_of_e (F_kills_of_e N) mixed Try.func91 (.mk' Try.func91 rfl (by decide)) rfl rfl rfl (E_kills_of_e N)
noncomputable def F_kills_Edit (N : Nat) : Fun [(.sl tEvent), (.int .u64), .u8] (Option (ResT [(.sl tDot)])) := fun (x : List ((Int × Int) × UInt8 × Int × UInt8 × List UInt8 × List (Int × Int))) (x_1 : Int) (x_2 : UInt8)
 => Option.bind (F_kills_of_e N x x_1 x_2) fun (y : (List (Int × Int) × Unit) × Unit × Unit × Unit) => some y.fst.fst
theorem E_kills_Edit (N : Nat) : runF Try.prog [e_kills_of_e N, e_kills_Edit_1 N] [] N Try.f67 .lf [(.sl tEvent), (.int .u64), .u8] [(.sl tDot)] = F_kills_Edit N := by kernel_rfl
noncomputable def e_kills_Edit (N : Nat) : Ent Try.prog := mkFn 67 Try.f67 .lf [(.sl tEvent), (.int .u64), .u8] [(.sl tDot)] (F_kills_Edit N) mixed Try.func67 (.mk' Try.func67 rfl (by decide)) rfl (E_kills_Edit N)
noncomputable def F_epitaphlaw17_works (N : Nat) : Fun [] (Option (ResT [.bool])) := Option.bind (F_kills_Live N [((1, 1), 1, 5, 1, [], []), ((1, 2), 1, 5, 1, [], [(1, 1)])]) fun (y : List ((Int × Int) × UInt8 × Int ×
 UInt8 × List UInt8 × List (Int × Int))) => bif (↑y.length : Int) == 1 then y[0]?.bind fun (e : (Int × Int) × UInt8 × Int × UInt8 × List UInt8 × List (Int × Int)) => bif e.fst.fst == 1 && e.fst.snd == 2 then Option.bind
 (F_kills_Edit N y 5 1) fun (y : List (Int × Int)) => Option.bind (F_epitaphref07_Same N y [(1, 1), (1, 2)]) fun (y : Bool) => some y else some false else some false
theorem E_epitaphlaw17_works (N : Nat) : runF Try.prog [e_epitaphref07_Same N, e_kills_Live N, e_kills_Edit N] [] N Try.f31 .lf [] [.bool] = F_epitaphlaw17_works N := by kernel_rfl
noncomputable def e_epitaphlaw17_works (N : Nat) : Ent Try.prog := mkFn 31 Try.f31 .lf [] [.bool] (F_epitaphlaw17_works N) mixed Try.func31 (.mk' Try.func31 rfl (by decide)) rfl (E_epitaphlaw17_works N)
noncomputable def F_kills_part (N : Nat) : Fun [(.sl tDot), (.sl tPart), .bool] (Option (ResT [(.sl tDot)])) := fun (x : List (Int × Int)) (x_1 : List (Int × List (Int × Int))) (x_2 : Bool) => iter (fun (rec : (List (Int
 × Int) × Int × Unit) × Unit × Unit × Unit → Option (List (Int × Int))) (z : (List (Int × Int) × Int × Unit) × Unit × Unit × Unit) => bif decide (z.fst.snd.fst < (↑x.length : Int)) then (at? x z.fst.snd.fst).bind fun (e
 : Int × Int) => Option.bind (F_ctx_Has N x_1 e) fun (y : Bool) => bif y == x_2 then bif fitsB (z.fst.fst.length + [e].length) 16 then rec ((z.fst.fst ++ [e], IntKind.i64.wrap (z.fst.snd.fst + 1), ()), (), (), ()) else
 none else rec ((z.fst.fst, IntKind.i64.wrap (z.fst.snd.fst + 1), ()), (), (), ()) else Option.bind (F_dot_Sort N z.fst.fst) fun (y : List (Int × Int)) => some y) N (([], 0, ()), (), (), ())
theorem E_kills_part (N : Nat) : runF Try.prog [e_dot_Sort N, e_ctx_Has N] [] N Try.f68 (.seq .lf (.seq .lf (.seq (.seq .lf (.blk (.loop ⟨[(7, .tip 200007 tDot none), (12, .d (.int .i64))], [], [1, 2, 10, 11], [], [], []⟩ .lf))) .lf))) [(.sl tDot), (.sl tPart), .bool] [(.sl tDot)] = F_kills_part N := by kernel_rfl
noncomputable def e_kills_part (N : Nat) : Ent Try.prog := mkFn 68 Try.f68 (.seq .lf (.seq .lf (.seq (.seq .lf (.blk (.loop ⟨[(7, .tip 200007 tDot none), (12, .d (.int .i64))], [], [1, 2, 10, 11], [], [], []⟩ .lf))) .lf))) [(.sl tDot), (.sl tPart), .bool] [(.sl tDot)] (F_kills_part N) mixed Try.func68 (.mk' Try.func68 rfl (by decide)) rfl (E_kills_part N)
noncomputable def F_kills_Keep (N : Nat) : Fun [(.sl tDot), (.sl tPart)] (Option (ResT [(.sl tDot)])) := fun (x : List (Int × Int)) (x_1 : List (Int × List (Int × Int))) => Option.bind (F_kills_part N x x_1 true) fun (y
 : List (Int × Int)) => some y
theorem E_kills_Keep (N : Nat) : runF Try.prog [e_kills_part N] [] N Try.f32 .lf [(.sl tDot), (.sl tPart)] [(.sl tDot)] = F_kills_Keep N := by kernel_rfl
noncomputable def e_kills_Keep (N : Nat) : Ent Try.prog := mkFn 32 Try.f32 .lf [(.sl tDot), (.sl tPart)] [(.sl tDot)] (F_kills_Keep N) mixed Try.func32 (.mk' Try.func32 rfl (by decide)) rfl (E_kills_Keep N)
noncomputable def F_kills_Drop (N : Nat) : Fun [(.sl tDot), (.sl tPart)] (Option (ResT [(.sl tDot)])) := fun (x : List (Int × Int)) (x_1 : List (Int × List (Int × Int))) => Option.bind (F_kills_part N x x_1 false) fun (y
 : List (Int × Int)) => some y
theorem E_kills_Drop (N : Nat) : runF Try.prog [e_kills_part N] [] N Try.f33 .lf [(.sl tDot), (.sl tPart)] [(.sl tDot)] = F_kills_Drop N := by kernel_rfl
noncomputable def e_kills_Drop (N : Nat) : Ent Try.prog := mkFn 33 Try.f33 .lf [(.sl tDot), (.sl tPart)] [(.sl tDot)] (F_kills_Drop N) mixed Try.func33 (.mk' Try.func33 rfl (by decide)) rfl (E_kills_Drop N)
noncomputable def F_epitaphref17_Keep (N : Nat) : Fun [(.sl tDot), (.sl tPart)] (Option (ResT [(.sl tDot)])) := fun (x : List (Int × Int)) (x_1 : List (Int × List (Int × Int))) => iter (fun (rec : (List (Int × Int) × Int
 × Unit) × Unit × Unit × Unit → Option (List (Int × Int))) (z : (List (Int × Int) × Int × Unit) × Unit × Unit × Unit) => bif decide (z.fst.snd.fst < (↑x.length : Int)) then (at? x z.fst.snd.fst).bind fun (e : Int × Int)
 => Option.bind (F_epitaphref09_Has N x_1 e) fun (y : Bool) => bif y then (at? x z.fst.snd.fst).bind fun (e : Int × Int) => Option.bind (F_epitaphref07_Put N z.fst.fst e) fun (y : List (Int × Int)) => rec ((y,
 IntKind.i64.wrap (z.fst.snd.fst + 1), ()), (), (), ()) else rec ((z.fst.fst, IntKind.i64.wrap (z.fst.snd.fst + 1), ()), (), (), ()) else some z.fst.fst) N (([], 0, ()), (), (), ())
theorem E_epitaphref17_Keep (N : Nat) : runF Try.prog [e_epitaphref07_Put N, e_epitaphref09_Has N] [] N Try.f35 (.seq .lf (.seq .lf (.seq (.seq .lf (.blk (.loop ⟨[(5, .d (.sl tDot)), (6, .d (.int .i64))], [], [0, 1], [], [], []⟩ .lf))) .lf))) [(.sl tDot), (.sl tPart)] [(.sl tDot)] = F_epitaphref17_Keep N := by kernel_rfl
noncomputable def e_epitaphref17_Keep (N : Nat) : Ent Try.prog := mkFn 35 Try.f35 (.seq .lf (.seq .lf (.seq (.seq .lf (.blk (.loop ⟨[(5, .d (.sl tDot)), (6, .d (.int .i64))], [], [0, 1], [], [], []⟩ .lf))) .lf))) [(.sl tDot), (.sl tPart)] [(.sl tDot)] (F_epitaphref17_Keep N) mixed Try.func35 (.mk' Try.func35 rfl (by decide)) rfl (E_epitaphref17_Keep N)
noncomputable def F_epitaphref17_Drop (N : Nat) : Fun [(.sl tDot), (.sl tPart)] (Option (ResT [(.sl tDot)])) := fun (x : List (Int × Int)) (x_1 : List (Int × List (Int × Int))) => iter (fun (rec : (List (Int × Int) × Int
 × Unit) × Unit × Unit × Unit → Option (List (Int × Int))) (z : (List (Int × Int) × Int × Unit) × Unit × Unit × Unit) => bif decide (z.fst.snd.fst < (↑x.length : Int)) then (at? x z.fst.snd.fst).bind fun (e : Int × Int)
 => Option.bind (F_epitaphref09_Has N x_1 e) fun (y : Bool) => bif !y then (at? x z.fst.snd.fst).bind fun (e : Int × Int) => Option.bind (F_epitaphref07_Put N z.fst.fst e) fun (y : List (Int × Int)) => rec ((y,
 IntKind.i64.wrap (z.fst.snd.fst + 1), ()), (), (), ()) else rec ((z.fst.fst, IntKind.i64.wrap (z.fst.snd.fst + 1), ()), (), (), ()) else some z.fst.fst) N (([], 0, ()), (), (), ())
theorem E_epitaphref17_Drop (N : Nat) : runF Try.prog [e_epitaphref07_Put N, e_epitaphref09_Has N] [] N Try.f36 (.seq .lf (.seq .lf (.seq (.seq .lf (.blk (.loop ⟨[(5, .d (.sl tDot)), (6, .d (.int .i64))], [], [0, 1], [], [], []⟩ .lf))) .lf))) [(.sl tDot), (.sl tPart)] [(.sl tDot)] = F_epitaphref17_Drop N := by kernel_rfl
noncomputable def e_epitaphref17_Drop (N : Nat) : Ent Try.prog := mkFn 36 Try.f36 (.seq .lf (.seq .lf (.seq (.seq .lf (.blk (.loop ⟨[(5, .d (.sl tDot)), (6, .d (.int .i64))], [], [0, 1], [], [], []⟩ .lf))) .lf))) [(.sl tDot), (.sl tPart)] [(.sl tDot)] (F_epitaphref17_Drop N) mixed Try.func36 (.mk' Try.func36 rfl (by decide)) rfl (E_epitaphref17_Drop N)
noncomputable def F_kills_Strip (N : Nat) : Fun [tEvent, (.sl tPart)] (Option (ResT [tEvent])) := fun (x : (Int × Int) × UInt8 × Int × UInt8 × List UInt8 × List (Int × Int)) (x_1 : List (Int × List (Int × Int))) =>
 Option.bind (F_event_Copy N x) fun (y : (Int × Int) × UInt8 × Int × UInt8 × List UInt8 × List (Int × Int)) => Option.bind (F_ctx_Has N x_1 y.fst) fun (y_1 : Bool) => bif y_1 then some (y.fst, y.snd.fst, y.snd.snd.fst,
 y.snd.snd.snd.fst, y.snd.snd.snd.snd.fst, []) else some y
theorem E_kills_Strip (N : Nat) : runF Try.prog [e_event_Copy N, e_ctx_Has N] [] N Try.f38 .lf [tEvent, (.sl tPart)] [tEvent] = F_kills_Strip N := by kernel_rfl
noncomputable def e_kills_Strip (N : Nat) : Ent Try.prog := mkFn 38 Try.f38 .lf [tEvent, (.sl tPart)] [tEvent] (F_kills_Strip N) mixed Try.func38 (.mk' Try.func38 rfl (by decide)) rfl (E_kills_Strip N)
noncomputable def F_epitaphref17_Strip (N : Nat) : Fun [tEvent, (.sl tPart)] (Option (ResT [tEvent])) := fun (x : (Int × Int) × UInt8 × Int × UInt8 × List UInt8 × List (Int × Int)) (x_1 : List (Int × List (Int × Int)))
 => Option.bind (F_epitaphref09_Has N x_1 x.fst) fun (y : Bool) => bif y then some (x.fst, x.snd.fst, x.snd.snd.fst, x.snd.snd.snd.fst, x.snd.snd.snd.snd.fst, []) else some x
theorem E_epitaphref17_Strip (N : Nat) : runF Try.prog [e_epitaphref09_Has N] [] N Try.f39 .lf [tEvent, (.sl tPart)] [tEvent] = F_epitaphref17_Strip N := by kernel_rfl
noncomputable def e_epitaphref17_Strip (N : Nat) : Ent Try.prog := mkFn 39 Try.f39 .lf [tEvent, (.sl tPart)] [tEvent] (F_epitaphref17_Strip N) mixed Try.func39 (.mk' Try.func39 rfl (by decide)) rfl (E_epitaphref17_Strip N)
noncomputable def F_epitaphref13_Few (N : Nat) : Fun [(.sl tEvent), (.int .i64)] (Option (ResT [.bool])) := fun (x : List ((Int × Int) × UInt8 × Int × UInt8 × List UInt8 × List (Int × Int))) (x_1 : Int) => bif decide
 (x_1 < (↑x.length : Int)) then some false else iter (fun (rec : (Int × Unit) × Unit × Unit × Unit → Option Bool) (z : (Int × Unit) × Unit × Unit × Unit) => bif decide (z.fst.fst < (↑x.length : Int)) then (at? x
 z.fst.fst).bind fun (e : (Int × Int) × UInt8 × Int × UInt8 × List UInt8 × List (Int × Int)) => bif decide (300 < (↑e.snd.snd.snd.snd.snd.length : Int)) then some false else (at? x z.fst.fst).bind fun (e : (Int × Int) ×
 UInt8 × Int × UInt8 × List UInt8 × List (Int × Int)) => bif decide (200 < (↑e.snd.snd.snd.snd.fst.length : Int)) then some false else rec ((IntKind.i64.wrap (z.fst.fst + 1), ()), (), (), ()) else some true) N ((0, ()),
 (), (), ())
theorem E_epitaphref13_Few (N : Nat) : runF Try.prog [] [] N Try.f8 (.seq .lf (.seq .lf (.seq (.seq .lf (.blk (.loop ⟨[(5, .d (.int .i64))], [], [0], [], [], []⟩ .lf))) .lf))) [(.sl tEvent), (.int .i64)] [.bool] = F_epitaphref13_Few N := by kernel_rfl
noncomputable def e_epitaphref13_Few (N : Nat) : Ent Try.prog := mkFn 8 Try.f8 (.seq .lf (.seq .lf (.seq (.seq .lf (.blk (.loop ⟨[(5, .d (.int .i64))], [], [0], [], [], []⟩ .lf))) .lf))) [(.sl tEvent), (.int .i64)] [.bool] (F_epitaphref13_Few N) mixed Try.func8 (.mk' Try.func8 rfl (by decide)) rfl (E_epitaphref13_Few N)
noncomputable def F_epitaphlaw17_KillsParts (N : Nat) : Fun [(.sl tDot), (.sl tPart), tEvent] (Option (ResT [.bool])) := fun (x : List (Int × Int)) (x_1 : List (Int × List (Int × Int))) (x_2 : (Int × Int) × UInt8 × Int ×
 UInt8 × List UInt8 × List (Int × Int)) => bif decide (60 < (↑x.length : Int)) then Option.bind (F_epitaphlaw17_works N) fun (y : Bool) => some y else Option.bind (F_epitaphref09_Few N x_1) fun (y : Bool) => bif !y then
 Option.bind (F_epitaphlaw17_works N) fun (y : Bool) => some y else Option.bind (F_epitaphref13_Few N [x_2] 1) fun (y : Bool) => bif !y then Option.bind (F_epitaphlaw17_works N) fun (y : Bool) => some y else Option.bind
 (F_kills_Keep N x x_1) fun (y : List (Int × Int)) => Option.bind (F_kills_Drop N x x_1) fun (y_1 : List (Int × Int)) => iter (fun (rec : (Int × Unit) × Unit × Unit × Unit → Option Bool) (z : (Int × Unit) × Unit × Unit ×
 Unit) => bif decide (z.fst.fst < (↑y.length : Int)) then (at? y z.fst.fst).bind fun (e : Int × Int) => Option.bind (F_epitaphref07_Has N y_1 e) fun (y : Bool) => bif y then some false else rec ((IntKind.i64.wrap
 (z.fst.fst + 1), ()), (), (), ()) else Option.bind (F_epitaphref17_Keep N x x_1) fun (y_2 : List (Int × Int)) => Option.bind (F_epitaphref07_Same N y y_2) fun (y_3 : Bool) => bif y_3 then Option.bind
 (F_epitaphref17_Drop N x x_1) fun (y_4 : List (Int × Int)) => Option.bind (F_epitaphref07_Same N y_1 y_4) fun (y_5 : Bool) => bif y_5 then bif fitsB (0 + y.length) 16 then bif fitsB (([] ++ y).length + y_1.length) 16
 then Option.bind (F_epitaphref07_Sort N ([] ++ y ++ y_1)) fun (y : List (Int × Int)) => Option.bind (F_epitaphref07_Sort N x) fun (y_6 : List (Int × Int)) => Option.bind (F_epitaphref07_Same N y y_6) fun (y : Bool) =>
 bif y then Option.bind (F_kills_Strip N x_2 x_1) fun (y : (Int × Int) × UInt8 × Int × UInt8 × List UInt8 × List (Int × Int)) => Option.bind (F_epitaphref17_Strip N x_2 x_1) fun (y_7 : (Int × Int) × UInt8 × Int × UInt8 ×
 List UInt8 × List (Int × Int)) => Option.bind (F_epitaphref13_Same N y y_7) fun (y : Bool) => bif y then Option.bind (F_epitaphlaw17_works N) fun (y : Bool) => some y else some false else some false else none else none
 else some false else some false) N ((0, ()), (), (), ())
theorem E_epitaphlaw17_KillsParts (N : Nat) : runF Try.prog [e_epitaphref13_Same N, e_epitaphref07_Same N, e_epitaphref09_Few N, e_epitaphlaw17_works N, e_kills_Keep N, e_kills_Drop N, e_epitaphref07_Has N, e_epitaphref17_Keep N, e_epitaphref17_Drop N, e_epitaphref07_Sort N, e_kills_Strip N, e_epitaphref17_Strip N, e_epitaphref13_Few N] [] N Try.f7 (.seq .lf (.seq .lf (.seq .lf (.seq (.seq .lf (.blk (.loop ⟨[(9, .d (.int .i64))], [], [0, 1, 5, 7, 8], [1005], [], []⟩ .lf))) .lf)))) [(.sl tDot), (.sl tPart), tEvent] [.bool] = F_epitaphlaw17_KillsParts N := by kernel_rfl
theorem D_epitaphlaw17_KillsParts (N : Nat) : SoundF Try.prog 7 [.bool] [(.sl tDot), (.sl tPart), tEvent] (F_epitaphlaw17_KillsParts N) [] := E_epitaphlaw17_KillsParts N ▸ runF_sound mixed Try.func7 rfl
end Go.Proofs.Xg
set_option linter.unusedVariables false
set_option linter.unusedSimpArgs false
namespace Go.Proofs.Xg
open Go Go.Xl Go.Ab Go.Proofs Go.Sort
section
variable {α : Type} [DecidableEq α]
def compGo (p : α) : List α → List α
  | [] => []
  | y :: r => if y = p then compGo p r else y :: compGo y r
def comp : List α → List α
  | [] => []
  | x :: r => x :: compGo x r
theorem compGo_snoc (q y : α) : ∀ (p : α) (l : List α), (p :: l).getLast? = some q → compGo p (l ++ [y]) = if y = q then compGo p l else compGo p l ++ [y]
  | p, [], h => by
    simp at h
    subst h
    simp [compGo]
  | p, x :: r, h => by
    rw [List.getLast?_cons_cons] at h
    simp only [List.cons_append, compGo]
    have ih := compGo_snoc q y x r h
    by_cases hx : x = p
    · subst hx
      rw [if_pos rfl, if_pos rfl, ih]
    · rw [if_neg hx, if_neg hx, ih]
      by_cases hy : y = q
      · rw [if_pos hy, if_pos hy]
      · rw [if_neg hy, if_neg hy]; rfl
theorem comp_take_succ {l : List α} {m : Nat} (hm : 0 < m) {a b : α} (ha : l[m - 1]? = some a) (hb : l[m]? = some b) : comp (l.take (m + 1)) = if b = a then comp (l.take m) else comp (l.take m) ++ [b] := by
  have hlt : m < l.length := (List.getElem?_eq_some_iff.1 hb).1
  have e : l.take (m + 1) = l.take m ++ [b] := by
    rw [List.take_add_one, hb]; rfl
  rw [e]
  cases hl : l.take m with
  | nil => simp at hl; rcases hl with h | h <;> (subst h; simp at *)
  | cons x r =>
    have hlast : (x :: r).getLast? = some a := by
      rw [← hl, List.getLast?_eq_getElem?, List.length_take, List.getElem?_take, Nat.min_eq_left (by omega), if_pos (by omega)]; exact ha
    simp only [List.cons_append, comp]
    rw [compGo_snoc a b x r hlast]
    by_cases h : b = a
    · rw [if_pos h, if_pos h]
    · rw [if_neg h, if_neg h]
theorem comp_one (l : List α) : comp (l.take 1) = l.take 1 := by
  cases l with
  | nil => rfl
  | cons x r => simp [comp, compGo]
end
theorem dot_eq (e f : Int × Int) : (e.fst == f.fst && e.snd == f.snd) = decide (e = f) := by
  obtain ⟨a, b⟩ := e; obtain ⟨c, d⟩ := f
  by_cases h1 : a = c <;> by_cases h2 : b = d <;> simp [h1, h2]
end Go.Proofs.Xg
set_option linter.unusedVariables false
set_option linter.unusedSimpArgs false
namespace Go.Proofs.Xg
open Go Go.Xl Go.Ab Go.Proofs Go.Sort
theorem getElem?_lt {α : Type} {l : List α} {i : Nat} (h : i < l.length) : l[i]? = some l[i] := List.getElem?_eq_getElem h
theorem toNat_nat (n : Nat) : ((n : Int)).toNat = n := rfl
def CompactQ (l : List (Int × Int)) (r : List (Int × Int) × Nat) : Prop := r.1.take r.2 = comp l ∧ r.2 ≤ r.1.length
theorem compact_eq (N : Nat) (l : List (Int × Int)) (hb : l.length < 4611686018427387904) (hN : l.length < N) : ∃ r, F_slices_Compact_sDot_Dot N l l.length = some r ∧ CompactQ l r := by
  unfold F_slices_Compact_sDot_Dot
  simp only [cond_eq_ite, dot_eq]
  by_cases h2 : ((l.length : Nat) : Int) < 2
  · rw [if_pos (by simpa using h2)]
    refine ⟨_, rfl, ?_, Nat.le_refl _⟩
    have : l = l.take 1 := by rw [List.take_of_length_le (by omega)]
    rw [List.take_length, this, comp_one]
  · rw [if_neg (by simpa using h2)]
    refine iter_ok (fun n z => ∃ k : Nat, z = (((k : Int), ()), (), (), l, ()) ∧ 1 ≤ k ∧ k ≤ l.length ∧ n = l.length - k ∧ comp (l.take k) = l.take k) ?_ N (l.length - 1) _ ⟨1, rfl, by omega, by omega, rfl, comp_one l⟩ (by omega)
    rintro n z rec ⟨k, rfl, k1, k2, hn, hc⟩ ih
    simp only
    by_cases hk : k < l.length
    · have e1 : IntKind.i64.wrap ((k : Int) - 1) = ((k - 1 : Nat) : Int) := i64_pred (by omega) (by omega)
      have e2 : IntKind.i64.wrap ((k : Int) + 1) = ((k + 1 : Nat) : Int) := i64_succ (by omega)
      simp only [e1, e2, toNat_nat, Nat.zero_add, getElem?_lt hk, getElem?_lt (show k - 1 < l.length by omega), Option.bind_some]
      rw [if_pos (by simp; omega), if_pos (by simp; omega), if_pos (by simp; omega)]
      have hstep := comp_take_succ (l := l) (m := k) (by omega) (getElem?_lt (show k - 1 < l.length by omega)) (getElem?_lt hk)
      by_cases he : l[k] = l[k - 1]
      · rw [if_pos (by simpa using he), if_pos (by simp [cutOk]; omega)]
        refine iter_ok (fun n z => ∃ (i q : Nat) (c : List (Int × Int)), z = (((i : Int), (q : Int), ()), (), (), c, ()) ∧ 1 ≤ q ∧ k + q ≤ l.length ∧ i + 1 ≤ k + q ∧ c.length = l.length ∧
          (∀ j, i ≤ j → c[j]? = l[j]?) ∧ c.take i = comp (l.take (k + q)) ∧ n = l.length - (k + q)) ?_ N (l.length - (k + 1)) _
          ⟨k, 1, l, rfl, by omega, by omega, by omega, rfl, fun _ _ => rfl, by rw [hstep, if_pos he, hc], rfl⟩ (by omega)
        rintro n z rec ⟨i, q, c, rfl, q1, q2, q3, hcl, hcj, hct, hn⟩ ih'
        simp only
        by_cases hq : k + q < l.length
        · have f1 : IntKind.i64.wrap ((q : Int) - 1) = ((q - 1 : Nat) : Int) := i64_pred (by omega) (by omega)
          have f2 : IntKind.i64.wrap ((q : Int) + 1) = ((q + 1 : Nat) : Int) := i64_succ (by omega)
          have f3 : IntKind.i64.wrap ((i : Int) + 1) = ((i + 1 : Nat) : Int) := i64_succ (by omega)
          have g1 : c[k + q]? = some l[k + q] := by rw [hcj _ (by omega), getElem?_lt hq]
          have g2 : c[k + (q - 1)]? = some l[k + (q - 1)] := by rw [hcj _ (by omega), getElem?_lt (by omega)]
          have g3 : c[i]? = some (c[i]'(by omega)) := getElem?_lt (by omega)
          simp only [f1, f2, f3, toNat_nat, Nat.zero_add, g1, g2, g3, Option.bind_some]
          rw [if_pos (by simp; omega), if_pos (by simp; omega), if_pos (by simp; omega)]
          have hs := comp_take_succ (l := l) (m := k + q) (a := l[k + (q - 1)]) (by omega) (by rw [show k + q - 1 = k + (q - 1) by omega]; exact getElem?_lt _) (getElem?_lt hq)
          by_cases hne : l[k + q] = l[k + (q - 1)]
          · rw [if_neg (by simpa using hne)]
            refine ih' (l.length - (k + (q + 1))) _ (by omega) ⟨i, q + 1, c, rfl, by omega, by omega, by omega, hcl, hcj, ?_, rfl⟩
            rw [hct, ← Nat.add_assoc, hs, if_pos hne]
          · rw [if_pos (by simpa using hne), if_pos (by simp; omega), if_pos (by simp; omega)]
            refine ih' (l.length - (k + (q + 1))) _ (by omega) ⟨i + 1, q + 1, c.set i l[k + q], rfl, by omega, by omega, by omega, by simpa using hcl, ?_, ?_, rfl⟩
            · intro j hj
              rw [List.getElem?_set_ne (by omega)]
              exact hcj j (by omega)
            · rw [← Nat.add_assoc, hs, if_neg hne, ← hct, List.take_add_one, List.take_set_of_le (Nat.le_refl _), List.getElem?_set_self (by omega)]; rfl
        · rw [if_neg (by simp; omega), if_pos (by simp [cutOk]; omega), if_pos (by simp [cutOk]; omega)]
          refine ⟨_, rfl, ?_, ?_⟩
          · have : k + q = l.length := by omega
            rw [this, List.take_length] at hct
            simp only [toNat_nat, Nat.zero_add, Nat.sub_zero, CompactQ]
            rw [← hct, List.take_take, Nat.min_self]
          · simp only [toNat_nat, Nat.sub_zero, Nat.zero_add, List.length_take]; omega
      · rw [if_neg (by simpa using he)]
        refine ih (l.length - (k + 1)) _ (by omega) ⟨k + 1, rfl, by omega, by omega, rfl, ?_⟩
        rw [hstep, if_neg he, hc, List.take_add_one, getElem?_lt hk]; rfl
    · rw [if_neg (by simp; omega)]
      refine ⟨_, rfl, ?_, Nat.le_refl _⟩
      have : k = l.length := by omega
      subst this
      rw [List.take_length] at hc ⊢
      exact hc.symm
end Go.Proofs.Xg
set_option linter.unusedVariables false
set_option linter.unusedSimpArgs false
namespace Go.Proofs.Xg
open Go Go.Xl Go.Ab Go.Proofs Go.Sort
def sortDots (l : List (Int × Int)) : List (Int × Int) := comp (F_SortFunc_Dot l)
theorem sort_length (l : List (Int × Int)) : (F_SortFunc_Dot l).length = l.length := by simp [F_SortFunc_Dot]
theorem dotSort_eq (N : Nat) (l : List (Int × Int)) (hb : l.length * 16 ≤ 140737488355328) (hN : l.length < N) : F_dot_Sort N l = some (sortDots l) := by
  unfold F_dot_Sort
  cases l with
  | nil =>
    simp only [listCase, optCase, Option.bind_some, sortDots, F_SortFunc_Dot, List.mergeSort_nil, comp]
    rfl
  | cons x r =>
    have hlen : (x :: r).length < 4611686018427387904 := by omega
    have hfit : fitsB (x :: r).length 16 = true := by
      simp only [fitsB, Bool.and_eq_true, decide_eq_true_eq]
      omega
    generalize hl : x :: r = l at *
    have hs := sort_length l
    obtain ⟨q, hq, h1, h2⟩ := compact_eq N (F_SortFunc_Dot l) (by omega) (by omega)
    rw [hs] at hq
    have e : listCase l (some none) (fun (y : Int × Int) r => bif fitsB (y :: r).length 16 then some (some (y :: r, (y :: r).length)) else none) = some (some (l, l.length)) := by
      subst hl
      simp only [listCase, hfit, cond_true]
    rw [e]
    simp only [Option.bind_some, optCase, List.take_length, List.drop_length, List.append_nil, hq]
    have b1 : Nat.ble l.length l.length = true := by simp
    have b2 : Nat.ble l.length 4611686018427387903 = true := by simp only [Nat.ble_eq]; omega
    have b3 : Nat.ble (0 + q.2) q.1.length = true := by simp only [Nat.ble_eq]; omega
    simp only [b1, b2, b3, cond_true, List.drop_zero, h1]
    rfl
end Go.Proofs.Xg
set_option linter.unusedVariables false
set_option linter.unusedSimpArgs false
namespace Go.Proofs.Xg
open Go Go.Xl Go.Ab Go.Proofs Go.Sort
theorem getl {α : Type} {l : List α} {i : Nat} (h : i < l.length) : l[i]? = some l[i] := List.getElem?_eq_getElem h
theorem dec_lt (a b : Nat) : decide ((a : Int) < (b : Int)) = decide (a < b) := by simp
theorem refHas_eq (N : Nat) (l : List (Int × Int)) (d : Int × Int) (hl : l.length < 9223372036854775807) (hN : l.length < N) : F_epitaphref07_Has N l d = some (decide (d ∈ l)) := by
  unfold F_epitaphref07_Has
  refine (scan_eq l.length (fun k => some (decide (d ∈ l.drop k))) 0 ?_ ?_ N hN).trans rfl
  · intro rec k _ hk hr
    simp only [dec_lt, at?_nat, getl hk, Option.bind_some, i64_succ (show k + 1 < 9223372036854775808 by omega), hr, decide_eq_true hk, cond_true, dot_eq]
    have e : l.drop k = l[k] :: l.drop (k + 1) := List.drop_eq_getElem_cons hk
    rw [e]
    by_cases h : l[k] = d
    · subst h; simp [-List.getElem_cons_drop]
    · rw [decide_eq_false h, cond_false]
      have : (d ∈ l[k] :: l.drop (k + 1)) ↔ d ∈ l.drop (k + 1) := by simp [-List.getElem_cons_drop, Ne.symm h]
      simp only [this]
  · intro rec k hk
    simp only [dec_lt, decide_eq_false (show ¬ k < l.length by omega), cond_false]
    rw [List.drop_eq_nil_of_le hk]; rfl
theorem index_eq (N : Nat) (l : List (Int × Int)) (d : Int × Int) (hl : l.length < 9223372036854775807) (hN : l.length < N) :
    ∃ i : Int, F_slices_Index_sDot_Dot N l d = some i ∧ decide (0 ≤ i) = decide (d ∈ l) := by
  unfold F_slices_Index_sDot_Dot
  refine iter_ok (Q := fun i : Int => decide (0 ≤ i) = decide (d ∈ l)) (fun n z => ∃ k : Nat, z = (((k : Int), ()), (), (), ()) ∧ k ≤ l.length ∧ n = l.length - k ∧ ¬ d ∈ l.take k) ?_ N l.length _ ⟨0, rfl, Nat.zero_le _, rfl, by simp⟩ hN
  rintro n z rec ⟨k, rfl, h1, h2, h3⟩ ih
  by_cases hk : k < l.length
  · simp only [dec_lt, at?_nat, getl hk, Option.bind_some, i64_succ (show k + 1 < 9223372036854775808 by omega), decide_eq_true hk, cond_true, dot_eq]
    by_cases he : d = l[k]
    · refine ⟨(k : Int), by simp [he], ?_⟩
      have : d ∈ l := by rw [he]; exact List.getElem_mem hk
      rw [decide_eq_true this]; simp
    · rw [decide_eq_false he, cond_false]
      refine ih (l.length - (k + 1)) _ (by omega) ⟨k + 1, rfl, by omega, rfl, ?_⟩
      rw [List.take_add_one, List.mem_append, getl hk]
      simp [h3, he]
  · simp only [dec_lt, decide_eq_false hk, cond_false]
    refine ⟨-1, rfl, ?_⟩
    rw [List.take_of_length_le (by omega)] at h3
    rw [decide_eq_false h3]; rfl
theorem has_eq (N : Nat) (l : List (Int × Int)) (d : Int × Int) (hl : l.length < 9223372036854775807) (hN : l.length < N) : F_dot_Has N l d = some (decide (d ∈ l)) := by
  obtain ⟨i, h1, h2⟩ := index_eq N l d hl hN
  unfold F_dot_Has F_slices_Contains_sDot_Dot
  rw [h1]
  simp only [Option.bind_some, h2]
theorem same_eq (N : Nat) (l m : List (Int × Int)) (hl : l.length < 9223372036854775807) (hN : l.length < N) : F_epitaphref07_Same N l m = some (decide (l = m)) := by
  unfold F_epitaphref07_Same
  by_cases hlen : l.length = m.length
  · have h0 : ((l.length : Int) != (m.length : Int)) = false := by simp [hlen]
    simp only [h0, cond_false]
    refine (scan_eq l.length (fun k => some (decide (l.drop k = m.drop k))) 0 ?_ ?_ N hN).trans rfl
    · intro rec k _ hk hr
      have hk' : k < m.length := by omega
      simp only [dec_lt, at?_nat, getl hk, getl hk', Option.bind_some, i64_succ (show k + 1 < 9223372036854775808 by omega), hr, decide_eq_true hk, cond_true, dot_eq]
      have e1 : l.drop k = l[k] :: l.drop (k + 1) := List.drop_eq_getElem_cons hk
      have e2 : m.drop k = m[k] :: m.drop (k + 1) := List.drop_eq_getElem_cons hk'
      rw [e1, e2]
      by_cases he : l[k] = m[k] <;> simp [-List.getElem_cons_drop, he]
    · intro rec k hk
      simp only [dec_lt, decide_eq_false (show ¬ k < l.length by omega), cond_false]
      rw [List.drop_eq_nil_of_le hk, List.drop_eq_nil_of_le (by omega)]; rfl
  · have h0 : ((l.length : Int) != (m.length : Int)) = true := by simp; omega
    have h1 : ¬ l = m := fun h => hlen (by rw [h])
    simp only [h0, cond_true, decide_eq_false h1]
abbrev Ev := (Int × Int) × UInt8 × Int × UInt8 × List UInt8 × List (Int × Int)
def sameE (a b : Ev) : Bool :=
  a.1.1 == b.1.1 && a.1.2 == b.1.2 && a.2.1 == b.2.1 && a.2.2.1 == b.2.2.1 && a.2.2.2.1 == b.2.2.2.1 && a.2.2.2.2.1 == b.2.2.2.2.1 && decide (a.2.2.2.2.2 = b.2.2.2.2.2)
theorem refSame_eq (N : Nat) (a b : Ev) (hl : a.2.2.2.2.2.length < 9223372036854775807) (hN : a.2.2.2.2.2.length < N) : F_epitaphref13_Same N a b = some (sameE a b) := by
  unfold F_epitaphref13_Same sameE
  simp only [same_eq N _ _ hl hN, Option.bind_some]
  cases a.1.1 == b.1.1 <;> cases a.1.2 == b.1.2 <;> cases a.2.1 == b.2.1 <;> cases a.2.2.1 == b.2.2.1 <;> cases a.2.2.2.1 == b.2.2.2.1 <;> cases a.2.2.2.2.1 == b.2.2.2.2.1 <;> rfl
theorem kills_eq (N : Nat) (a : Ev) (d : Int × Int) (hl : a.2.2.2.2.2.length < 9223372036854775807) (hN : a.2.2.2.2.2.length < N) : F_event_Kills N a d = some (decide (d ∈ a.2.2.2.2.2)) := by
  unfold F_event_Kills
  simp only [has_eq N _ _ hl hN, Option.bind_some]
end Go.Proofs.Xg
set_option linter.unusedVariables false
set_option linter.unusedSimpArgs false
namespace Go.Xl
structure LO {α : Type} (lt eq : α → α → Bool) : Prop where
  asymm : ∀ x y, lt x y = true → lt y x = false
  ntrans : ∀ x y z, lt x y = false → lt y z = false → lt x z = false
  eq_def : ∀ x y, eq x y = (!lt x y && !lt y x)
section
variable {α : Type} {lt eq : α → α → Bool}
theorem LO.irrefl (h : LO lt eq) (x : α) : lt x x = false := by
  cases hx : lt x x with
  | false => rfl
  | true => have := h.asymm x x hx; rw [hx] at this; cases this
theorem LO.trans (h : LO lt eq) {x y z : α} (h1 : lt x y = true) (h2 : lt y z = true) : lt x z = true := by
  cases hx : lt x z with
  | true => rfl
  | false =>
    have := h.ntrans x z y hx (h.asymm _ _ h2)
    rw [h1] at this; cases this
theorem LO.lt_le (h : LO lt eq) {x y z : α} (h1 : lt x y = true) (h2 : lt z y = false) : lt x z = true := by
  cases hx : lt x z with
  | true => rfl
  | false => have := h.ntrans x z y hx h2; rw [h1] at this; cases this
theorem LO.le_lt (h : LO lt eq) {x y z : α} (h1 : lt y x = false) (h2 : lt y z = true) : lt x z = true := by
  cases hx : lt x z with
  | true => rfl
  | false => have := h.ntrans y x z h1 hx; rw [h2] at this; cases this
theorem LO.eq_true (h : LO lt eq) {x y : α} : eq x y = true ↔ lt x y = false ∧ lt y x = false := by
  rw [h.eq_def]; simp
theorem LO.eq_symm (h : LO lt eq) (x y : α) : eq x y = eq y x := by rw [h.eq_def, h.eq_def, Bool.and_comm]
def insR (lt : α → α → Bool) (x : α) : List α → List α
  | [] => [x]
  | y :: r => cond (lt x y) (x :: y :: r) (y :: insR lt x r)
def isort (lt : α → α → Bool) (l : List α) : List α := l.foldl (fun p x => insR lt x p) []
def Asc (lt : α → α → Bool) (l : List α) : Prop := l.Pairwise fun a b => lt b a = false
def compGoB (eq : α → α → Bool) (p : α) : List α → List α
  | [] => []
  | y :: r => cond (eq y p) (compGoB eq p r) (y :: compGoB eq y r)
def compB (eq : α → α → Bool) : List α → List α
  | [] => []
  | x :: r => x :: compGoB eq x r
def putR (lt eq : α → α → Bool) (x : α) (q : List α) : List α := cond (q.any (eq x)) q (insR lt x q)
theorem insR_mem {x z : α} {l : List α} : z ∈ insR lt x l ↔ z = x ∨ z ∈ l := by
  induction l with
  | nil => simp [insR]
  | cons y r ih =>
    simp only [insR]
    cases lt x y with
    | true => simp
    | false => simp [ih]; constructor <;> rintro (h | h | h) <;> simp [h]
theorem insR_length (x : α) (l : List α) : (insR lt x l).length = l.length + 1 := by
  induction l with
  | nil => rfl
  | cons y r ih =>
    simp only [insR]
    cases lt x y <;> simp [ih]
theorem insR_asc (h : LO lt eq) {x : α} {l : List α} (hl : Asc lt l) : Asc lt (insR lt x l) := by
  induction l with
  | nil => simp [insR, Asc]
  | cons y r ih =>
    simp only [Asc, List.pairwise_cons] at hl ⊢
    simp only [insR]
    cases hx : lt x y with
    | true =>
      simp only [cond_true, List.pairwise_cons, List.mem_cons]
      refine ⟨?_, hl.1, hl.2⟩
      rintro z (rfl | hz)
      · exact h.asymm _ _ hx
      · exact h.asymm _ _ (h.lt_le hx (hl.1 z hz))
    | false =>
      simp only [cond_false, List.pairwise_cons]
      refine ⟨fun z hz => ?_, ih hl.2⟩
      rcases insR_mem.1 hz with rfl | hz
      · exact hx
      · exact hl.1 z hz
theorem isort_snoc (l : List α) (x : α) : isort lt (l ++ [x]) = insR lt x (isort lt l) := by simp [isort]
theorem isort_asc (h : LO lt eq) (l : List α) : Asc lt (isort lt l) := by
  have : ∀ (l p : List α), Asc lt p → Asc lt (l.foldl (fun p x => insR lt x p) p) := by
    intro l
    induction l with
    | nil => intro p hp; exact hp
    | cons y r ih => intro p hp; exact ih _ (insR_asc h hp)
  exact this l [] (by simp [Asc])
theorem isort_length (l : List α) : (isort lt l).length = l.length := by
  have : ∀ (l p : List α), (l.foldl (fun p x => insR lt x p) p).length = p.length + l.length := by
    intro l
    induction l with
    | nil => intro p; simp
    | cons y r ih => intro p; rw [List.foldl_cons, ih, insR_length]; simp; omega
  simpa [isort] using this l []
theorem isort_mem {z : α} (l : List α) : z ∈ isort lt l ↔ z ∈ l := by
  have : ∀ (l p : List α), z ∈ l.foldl (fun p x => insR lt x p) p ↔ z ∈ p ∨ z ∈ l := by
    intro l
    induction l with
    | nil => intro p; simp
    | cons y r ih => intro p; rw [List.foldl_cons, ih, insR_mem]; simp; constructor <;> rintro (h | h) <;> grind
  simpa [isort] using this l []
theorem compGoB_mem {p z : α} {l : List α} (h : z ∈ compGoB eq p l) : z ∈ l := by
  induction l generalizing p with
  | nil => simp [compGoB] at h
  | cons y r ih =>
    simp only [compGoB] at h
    cases hy : eq y p with
    | true => rw [hy] at h; exact List.mem_cons_of_mem _ (ih h)
    | false =>
      rw [hy] at h
      rcases List.mem_cons.1 h with rfl | h
      · exact List.mem_cons_self
      · exact List.mem_cons_of_mem _ (ih h)
theorem compB_mem {z : α} {l : List α} (h : z ∈ compB eq l) : z ∈ l := by
  cases l with
  | nil => simp [compB] at h
  | cons x r =>
    rcases List.mem_cons.1 h with rfl | h
    · exact List.mem_cons_self
    · exact List.mem_cons_of_mem _ (compGoB_mem h)
theorem any_false {x : α} {q : List α} (h : LO lt eq) (hq : ∀ z ∈ q, lt x z = true) : q.any (eq x) = false := by
  rw [List.any_eq_false]
  intro z hz he
  have := (h.eq_true.1 he).1
  rw [hq z hz] at this; cases this
theorem insR_front {x y : α} {q : List α} (hx : lt x y = true) : insR lt x (y :: q) = x :: y :: q := by simp [insR, hx]
theorem insR_back {x y : α} {q : List α} (hx : lt x y = false) : insR lt x (y :: q) = y :: insR lt x q := by simp [insR, hx]
theorem compGoB_ins (h : LO lt eq) (x : α) : ∀ (r : List α) (y : α), Asc lt (y :: r) → lt x y = false → compGoB eq y (insR lt x r) = cond (eq x y) (compGoB eq y r) (putR lt eq x (compGoB eq y r))
  | [], y, hs, hx => by
    simp only [insR, compGoB, putR, List.any_nil, cond_false]
  | z :: r, y, hs, hx => by
    have hs' := hs
    simp only [Asc, List.pairwise_cons, List.mem_cons] at hs'
    obtain ⟨hy, hz, hr⟩ := hs'
    have hyz : lt z y = false := hy z (.inl rfl)
    cases hxz : lt x z with
    | true =>
      rw [insR_front hxz]
      have ezx : eq z x = false := by
        rw [h.eq_symm, h.eq_def, hxz]; rfl
      have hall : ∀ w ∈ z :: compGoB eq z r, lt x w = true := by
        intro w hw
        rcases List.mem_cons.1 hw with rfl | hw
        · exact hxz
        · exact h.lt_le hxz (hz w (compGoB_mem hw))
      cases he : eq x y with
      | true => simp only [compGoB, he, cond_true]
      | false =>
        have ezy : eq z y = false := by
          rw [h.eq_def, hyz]
          have : lt y z = true := h.le_lt hx hxz
          rw [this]; rfl
        simp only [compGoB, he, ezx, ezy, cond_false, putR]
        rw [any_false h hall, cond_false, insR_front hxz]
    | false =>
      rw [insR_back hxz]
      cases hezy : eq z y with
      | true =>
        simp only [compGoB, hezy, cond_true]
        refine compGoB_ins h x r y ?_ hx
        simp only [Asc, List.pairwise_cons]
        exact ⟨fun w hw => hy w (.inr hw), hr⟩
      | false =>
        have hyz' : lt y z = true := by
          cases hh : lt y z with
          | true => rfl
          | false => rw [h.eq_def, hyz, hh] at hezy; cases hezy
        have hyx : lt y x = true := h.lt_le hyz' hxz
        have exy : eq x y = false := by rw [h.eq_def, hyx]; simp
        simp only [compGoB, hezy, cond_false, exy]
        rw [compGoB_ins h x r z (by simp only [Asc, List.pairwise_cons]; exact ⟨hz, hr⟩) hxz]
        cases hexz : eq x z with
        | true => simp only [cond_true, putR, List.any_cons, hexz, Bool.true_or]
        | false =>
          simp only [cond_false, putR, List.any_cons, hexz, Bool.false_or]
          cases ha : (compGoB eq z r).any (eq x) with
          | true => simp
          | false => simp only [cond_false]; rw [insR_back hxz]
theorem compB_ins (h : LO lt eq) (x : α) {p : List α} (hp : Asc lt p) : compB eq (insR lt x p) = putR lt eq x (compB eq p) := by
  cases p with
  | nil => rfl
  | cons y r =>
    have hs := hp
    simp only [Asc, List.pairwise_cons] at hs
    cases hx : lt x y with
    | true =>
      rw [insR_front hx]
      have eyx : eq y x = false := by rw [h.eq_symm, h.eq_def, hx]; rfl
      have hall : ∀ w ∈ y :: compGoB eq y r, lt x w = true := by
        intro w hw
        rcases List.mem_cons.1 hw with rfl | hw
        · exact hx
        · exact h.lt_le hx (hs.1 w (compGoB_mem hw))
      simp only [compB, compGoB, eyx, cond_false, putR]
      rw [any_false h hall, cond_false, insR_front hx]
    | false =>
      rw [insR_back hx]
      simp only [compB]
      rw [compGoB_ins h x r y hp hx]
      cases he : eq x y with
      | true => simp only [cond_true, putR, List.any_cons, he, Bool.true_or]
      | false =>
        simp only [cond_false, putR, List.any_cons, he, Bool.false_or]
        cases ha : (compGoB eq y r).any (eq x) with
        | true => simp
        | false => simp only [cond_false]; rw [insR_back hx]
theorem compB_isort (h : LO lt eq) (l : List α) : compB eq (isort lt l) = l.foldl (fun q x => putR lt eq x q) [] := by
  have : ∀ (l p : List α), Asc lt p → compB eq (l.foldl (fun p x => insR lt x p) p) = l.foldl (fun q x => putR lt eq x q) (compB eq p) := by
    intro l
    induction l with
    | nil => intro p _; rfl
    | cons x r ih =>
      intro p hp
      simp only [List.foldl_cons]
      rw [ih _ (insR_asc h hp), compB_ins h x hp]
  exact this l [] (by simp [Asc])
theorem LO.eq_cong (h : LO lt eq) {x p : α} (hx : eq x p = true) (y : α) : eq y x = eq y p := by
  obtain ⟨h1, h2⟩ := h.eq_true.1 hx
  rw [Bool.eq_iff_iff, h.eq_true, h.eq_true]
  exact ⟨fun ⟨a, b⟩ => ⟨h.ntrans _ _ _ a h1, h.ntrans _ _ _ h2 b⟩, fun ⟨a, b⟩ => ⟨h.ntrans _ _ _ a h2, h.ntrans _ _ _ h1 b⟩⟩
theorem compGoB_snoc (h : LO lt eq) (q y : α) : ∀ (p : α) (l : List α), (p :: l).getLast? = some q → compGoB eq p (l ++ [y]) = cond (eq y q) (compGoB eq p l) (compGoB eq p l ++ [y])
  | p, [], hq => by
    simp at hq
    subst hq
    simp [compGoB]
  | p, x :: r, hq => by
    rw [List.getLast?_cons_cons] at hq
    simp only [List.cons_append, compGoB]
    cases hx : eq x p with
    | true =>
      simp only [cond_true]
      cases r with
      | nil =>
        simp at hq
        subst hq
        simp [compGoB, h.eq_cong hx y]
      | cons z s => exact compGoB_snoc h q y p (z :: s) (by rw [List.getLast?_cons_cons] at hq ⊢; exact hq)
    | false =>
      simp only [cond_false]
      rw [compGoB_snoc h q y x r hq]
      cases hy : eq y q <;> simp
theorem compB_take_succ (h : LO lt eq) {l : List α} {m : Nat} (hm : 0 < m) {a b : α} (ha : l[m - 1]? = some a) (hb : l[m]? = some b) : compB eq (l.take (m + 1)) = cond (eq b a) (compB eq (l.take m)) (compB eq (l.take m) ++ [b]) := by
  have hlt : m < l.length := (List.getElem?_eq_some_iff.1 hb).1
  have e : l.take (m + 1) = l.take m ++ [b] := by
    rw [List.take_add_one, hb]; rfl
  rw [e]
  cases hl : l.take m with
  | nil => simp at hl; rcases hl with h | h <;> (subst h; simp at *)
  | cons x r =>
    have hlast : (x :: r).getLast? = some a := by
      rw [← hl, List.getLast?_eq_getElem?, List.length_take, List.getElem?_take, Nat.min_eq_left (by omega), if_pos (by omega)]; exact ha
    simp only [List.cons_append, compB]
    rw [compGoB_snoc h a b x r hlast]
    cases eq b a <;> simp
theorem compB_one (l : List α) : compB eq (l.take 1) = l.take 1 := by
  cases l with
  | nil => rfl
  | cons x r => simp [compB, compGoB]
end
end Go.Xl
set_option linter.unusedVariables false
set_option linter.unusedSimpArgs false
set_option maxRecDepth 100000
namespace Go.Proofs.Xg
open Go Go.Xl Go.Ab Go.Proofs Go.Sort
def ltE (x y : Ev) : Bool := ltOf cfDot x.1 y.1
def eqE (x y : Ev) : Bool := x.1.1 == y.1.1 && x.1.2 == y.1.2
theorem lo_E : LO ltE eqE where
  asymm x y h := by
    unfold ltE at *
    rw [dot_lt] at *
    simp at *; omega
  ntrans x y z h1 h2 := by
    unfold ltE at *
    rw [dot_lt] at *
    simp at *; omega
  eq_def x y := by
    unfold ltE eqE
    rw [dot_lt, dot_lt, Bool.eq_iff_iff]
    simp
    omega
theorem sort1_eq (N : Nat) (x y : Ev) : F_event_Sort_1 N x y = some (cfDot x.1 y.1) := by
  unfold F_event_Sort_1
  rw [Cmp_eq]; rfl
theorem insR_split {α : Type} {lt : α → α → Bool} {x : α} : ∀ {p q : List α}, (∀ y ∈ p, lt x y = false) → (∀ y ∈ q, lt x y = true) → insR lt x (p ++ q) = p ++ x :: q
  | [], [], _, _ => rfl
  | [], y :: q, _, h => by
    simp only [List.nil_append]
    exact insR_front (h y List.mem_cons_self)
  | y :: p, q, h, h' => by
    simp only [List.cons_append]
    rw [insR_back (h y List.mem_cons_self), insR_split (fun z hz => h z (List.mem_cons_of_mem _ hz)) h']
theorem set_swap {α : Type} (pre : List α) (x y : α) (S : List α) : ((pre ++ y :: x :: S).set (pre.length + 1) y).set pre.length x = pre ++ x :: y :: S := by
  rw [List.set_append_right _ _ (by omega), List.set_append_right _ _ (by omega)]
  have : pre.length + 1 - pre.length = 1 := by omega
  rw [this, Nat.sub_self]
  rfl
theorem get_pre {α : Type} (pre : List α) (y : α) (S : List α) : (pre ++ y :: S)[pre.length]? = some y := by simp
theorem get_pre1 {α : Type} (pre : List α) (y x : α) (S : List α) : (pre ++ y :: x :: S)[pre.length + 1]? = some x := by
  rw [List.getElem?_append_right (by omega)]
  have : pre.length + 1 - pre.length = 1 := by omega
  rw [this]; rfl
theorem insertion_eq (N : Nat) (l : List Ev) (a b : Nat) (hab : a ≤ b) (hb : b ≤ l.length) (hl : l.length < 4611686018427387904) (hN : l.length < N) :
    F_slices_insertionSortCmpFunc_Event N l l.length a b = some (l.take a ++ isort ltE ((l.take b).drop a) ++ l.drop b, ()) := by
  unfold F_slices_insertionSortCmpFunc_Event
  have e0 : IntKind.i64.wrap ((a : Int) + 1) = ((a + 1 : Nat) : Int) := i64_succ (by omega)
  rw [e0]
  refine some_of ?_
  refine iter_ok (Q := fun r => r = (l.take a ++ isort ltE ((l.take b).drop a) ++ l.drop b, ())) (fun n z => ∃ (i : Nat) (arr : List Ev), z = (((i : Int), ()), (), (), arr, ()) ∧ a + 1 ≤ i ∧ i ≤ b + 1 ∧ n = b - i ∧
    arr = l.take a ++ isort ltE ((l.take (min i b)).drop a) ++ l.drop (min i b)) ?_ N (b - (a + 1)) _ ⟨a + 1, l, rfl, Nat.le_refl _, by omega, rfl, ?_⟩ (by omega)
  · rintro n z rec ⟨i, arr, rfl, hi1, hi2, rfl, harr⟩ ih
    simp only [dec_lt]
    by_cases hib : i < b
    · rw [decide_eq_true hib, cond_true]
      have hil : i < l.length := by omega
      have hm : min i b = i := by omega
      rw [hm] at harr
      have hP : ((l.take (i + 1)).drop a) = ((l.take i).drop a) ++ [l[i]] := by
        rw [List.take_add_one, getl hil, List.drop_append_of_le_length (by simp; omega)]; rfl
      have hdrop : l.drop i = l[i] :: l.drop (i + 1) := List.drop_eq_getElem_cons hil
      have hasc := isort_asc lo_E ((l.take i).drop a)
      have hPl : (isort ltE ((l.take i).drop a)).length = i - a := by rw [isort_length]; simp; omega
      have hA : (l.take a).length = a := by simp; omega
      have next : ∀ arr', arr' = l.take a ++ insR ltE l[i] (isort ltE ((l.take i).drop a)) ++ l.drop (i + 1) → ∃ r, rec ((IntKind.i64.wrap ((i : Int) + 1), ()), (), (), arr', ()) = some r ∧ r = (l.take a ++ isort ltE ((l.take b).drop a) ++ l.drop b, ()) := by
        intro arr' he
        rw [i64_succ (by omega)]
        refine ih (b - (i + 1)) _ (by omega) ⟨i + 1, arr', rfl, by omega, by omega, rfl, ?_⟩
        have hm' : min (i + 1) b = i + 1 := by omega
        rw [hm', hP, isort_snoc, he]
      generalize isort ltE ((l.take i).drop a) = P at *
      generalize l[i] = x at *
      refine iter_ok (Q := fun r => r = (l.take a ++ isort ltE ((l.take b).drop a) ++ l.drop b, ())) (fun m z => ∃ p q : List Ev, P = p ++ q ∧ (∀ y ∈ q, ltE x y = true) ∧ z = ((((a + p.length : Nat) : Int), ()), (), (), l.take a ++ p ++ x :: (q ++ l.drop (i + 1)), ()) ∧ m = p.length) ?_ N (i - a) _
        ⟨P, [], by simp, by simp, by rw [harr, hdrop, hPl]; simp; omega, by rw [hPl]⟩ (by omega)
      rintro m z1 rec1 ⟨p, q, hpq, hq, rfl, rfl⟩ ih1
      simp only [dec_lt]
      rcases List.eq_nil_or_concat p with rfl | ⟨p', y, rfl⟩
      · rw [decide_eq_false (by simp), cond_false]
        refine next _ ?_
        rw [hpq, insR_split (by simp) hq]
        simp
      · rw [List.concat_eq_append] at *
        have hlen : (p' ++ [y]).length = p'.length + 1 := by simp
        have hpl : p'.length + 1 + q.length = i - a := by rw [← hPl, hpq]; simp; omega
        have hj : a + (p'.length + 1) < l.length := by omega
        have harr' : l.take a ++ (p' ++ [y]) ++ x :: (q ++ l.drop (i + 1)) = (l.take a ++ p') ++ y :: x :: (q ++ l.drop (i + 1)) := by simp
        have hpre : (l.take a ++ p').length = a + p'.length := by simp; omega
        have w1 : IntKind.i64.wrap (((a + (p'.length + 1) : Nat) : Int) - 1) = ((a + p'.length : Nat) : Int) := by
          rw [i64_pred (by omega) (by omega)]; congr 1
        rw [hlen, harr']
        generalize hpg : l.take a ++ p' = pre at *
        have g1 : (pre ++ y :: x :: (q ++ l.drop (i + 1)))[0 + (((a + (p'.length + 1) : Nat) : Int)).toNat]? = some x := by
          rw [toNat_nat, Nat.zero_add, show a + (p'.length + 1) = pre.length + 1 by omega]; exact get_pre1 _ _ _ _
        have g2 : (pre ++ y :: x :: (q ++ l.drop (i + 1)))[0 + (((a + p'.length : Nat) : Int)).toNat]? = some y := by
          rw [toNat_nat, Nat.zero_add, show a + p'.length = pre.length by omega]; exact get_pre _ _ _
        have c1 : decide (a < a + (p'.length + 1)) = true := by simp
        have c2 : decide ((0 : Int) ≤ ((a + (p'.length + 1) : Nat) : Int)) = true := decide_eq_true (Int.natCast_nonneg _)
        have c3 : decide (a + (p'.length + 1) < l.length) = true := by simpa using hj
        have c4 : decide ((0 : Int) ≤ ((a + p'.length : Nat) : Int)) = true := decide_eq_true (Int.natCast_nonneg _)
        have c5 : decide (a + p'.length < l.length) = true := by simp; omega
        simp only [w1, dec_lt, c1, c2, c3, c4, c5, Bool.and_self, cond_true, g1, g2, Option.bind_some, sort1_eq]
        cases hlt : ltE x y with
        | true =>
          have hc : decide (cfDot x.1 y.1 < 0) = true := hlt
          rw [hc, cond_true]
          have g3 : ((pre ++ y :: x :: (q ++ l.drop (i + 1))).set (0 + (((a + (p'.length + 1) : Nat) : Int)).toNat) y)[0 + (((a + p'.length : Nat) : Int)).toNat]? = some y := by
            rw [toNat_nat, toNat_nat, Nat.zero_add, Nat.zero_add, List.getElem?_set_ne (by omega), show a + p'.length = pre.length by omega]; exact get_pre _ _ _
          rw [g3, Option.bind_some]
          have hs : ((pre ++ y :: x :: (q ++ l.drop (i + 1))).set (0 + (((a + (p'.length + 1) : Nat) : Int)).toNat) y).set (0 + (((a + p'.length : Nat) : Int)).toNat) x = pre ++ x :: y :: (q ++ l.drop (i + 1)) := by
            rw [toNat_nat, toNat_nat, Nat.zero_add, Nat.zero_add, show a + (p'.length + 1) = pre.length + 1 by omega, show a + p'.length = pre.length by omega]
            exact set_swap _ _ _ _
          rw [hs]
          refine ih1 p'.length _ (by simp) ⟨p', y :: q, by rw [hpq]; simp, ?_, by rw [hpg]; rfl, rfl⟩
          intro z hz
          rcases List.mem_cons.1 hz with rfl | hz
          · exact hlt
          · exact hq z hz
        | false =>
          have hc : decide (cfDot x.1 y.1 < 0) = false := hlt
          rw [hc, cond_false]
          refine next _ ?_
          rw [hpq, insR_split ?_ hq]
          · rw [← hpg]; simp
          · intro z hz
            rcases List.mem_append.1 hz with hz | hz
            · rw [hpq] at hasc
              have : ltE y z = false := by
                have h1 := (List.pairwise_append.1 hasc).1
                exact (List.pairwise_append.1 h1).2.2 z hz y (by simp)
              exact lo_E.ntrans _ _ _ hlt this
            · rw [List.mem_singleton.1 hz]; exact hlt
    · rw [decide_eq_false hib, cond_false]
      have hm : min i b = b := by omega
      rw [hm] at harr
      exact ⟨_, rfl, by rw [harr]⟩
  · by_cases h : a < b
    · have hm : min (a + 1) b = a + 1 := by omega
      have ha : a < l.length := by omega
      rw [hm]
      have : ((l.take (a + 1)).drop a) = [l[a]] := by
        rw [List.take_add_one, getl ha, List.drop_append_of_le_length (by simp; omega)]
        simp
      rw [this]
      have h2 : l.drop a = l[a] :: l.drop (a + 1) := List.drop_eq_getElem_cons ha
      have h3 : isort ltE [l[a]] = [l[a]] := rfl
      rw [h3, List.append_assoc, List.singleton_append, ← h2, List.take_append_drop]
    · have hm : min (a + 1) b = b := by omega
      have : b = a := by omega
      subst this
      rw [hm]
      have : (l.take b).drop b = [] := by simp
      rw [this]
      have h3 : isort ltE ([] : List Ev) = [] := rfl
      rw [h3, List.append_nil, List.take_append_drop]
end Go.Proofs.Xg
set_option linter.unusedVariables false
set_option linter.unusedSimpArgs false
set_option maxRecDepth 100000
namespace Go.Proofs.Xg
open Go Go.Xl Go.Ab Go.Proofs Go.Sort
theorem insertion_all (N : Nat) (l : List Ev) (hl : l.length < 4611686018427387904) (hN : l.length < N) :
    F_slices_insertionSortCmpFunc_Event N l l.length 0 l.length = some (isort ltE l, ()) := by
  have := insertion_eq N l 0 l.length (Nat.zero_le _) (Nat.le_refl _) hl hN
  simpa using this
theorem stable_eq (N : Nat) (l : List Ev) (h20 : l.length ≤ 20) (hN : 30 < N) : F_slices_stableCmpFunc_Event N l l.length l.length = some (isort ltE l, ()) := by
  unfold F_slices_stableCmpFunc_Event
  have e1 : ∀ M, iter (fun (rec : (Int × Unit) × Unit × Unit × List Ev × Unit → Option (List Ev × Unit)) (z : (Int × Unit) × Unit × Unit × List Ev × Unit) =>
      bif decide (z.fst.fst < (l.length : Int)) then
        iter (fun (rec_1 : (Int × Int × Unit) × Unit × Unit × List Ev × Unit → Option (List Ev × Unit)) (z_1 : (Int × Int × Unit) × Unit × Unit × List Ev × Unit) =>
            bif decide (z_1.fst.snd.fst ≤ (l.length : Int)) then none
            else bif decide (IntKind.i64.wrap (z_1.fst.fst + z.fst.fst) < (l.length : Int)) then none
              else rec ((IntKind.i64.wrap (z.fst.fst * 2), ()), (), (), z_1.snd.snd.snd.fst, ()))
          N ((0, IntKind.i64.wrap (2 * z.fst.fst), ()), (), (), z.snd.snd.snd.fst, ())
      else some (z.snd.snd.snd.fst, ())) (N - 3 + 1 + 1 + 1) ((20, ()), (), (), M, ()) = some (M, ()) := by
    intro M
    simp only [iter]
    rw [decide_eq_false (by omega), cond_false]
  rw [show N = N - 3 + 1 + 1 + 1 by omega] at e1 ⊢
  have hi := isort_length (lt := ltE) l
  have hins := insertion_all (N - 3 + 1 + 1 + 1) l (by omega) (by omega)
  by_cases h : l.length = 20
  · have e2 : IntKind.i64.wrap (20 + 20) = 40 := by decide
    have hins2 := insertion_eq (N - 3 + 1 + 1 + 1) (isort ltE l) 20 20 (Nat.le_refl _) (by omega) (by omega) (by omega)
    rw [hi, h] at hins2
    rw [h] at hins
    have e3 : (isort ltE l).take 20 ++ isort ltE (((isort ltE l).take 20).drop 20) ++ (isort ltE l).drop 20 = isort ltE l := by
      have : ((isort ltE l).take 20).drop 20 = [] := by simp
      rw [this]
      show _ ++ [] ++ _ = _
      rw [List.append_nil, List.take_append_drop]
    rw [e3] at hins2
    rw [h] at e1 ⊢
    simp only [iter]
    rw [decide_eq_true (by decide), cond_true]
    simp only [iter] at e1
    have hins' : F_slices_insertionSortCmpFunc_Event (N - 3 + 1 + 1 + 1) l 20 0 20 = some (isort ltE l, ()) := hins
    have hins2' : F_slices_insertionSortCmpFunc_Event (N - 3 + 1 + 1 + 1) (isort ltE l) 20 20 20 = some (isort ltE l, ()) := hins2
    have c1 : decide ((40 : Int) ≤ ((20 : Nat) : Int)) = false := by decide
    have c2 : (((20 : Nat) : Int)) = (20 : Int) := rfl
    simp only [c2] at *
    rw [hins']
    simp only [Option.bind_some, e2, c1, cond_false, hins2']
    exact e1 _
  · simp only [iter]
    simp only [iter] at e1
    rw [decide_eq_false (by omega), cond_false]
    rw [hins]
    simp only [Option.bind_some]
    exact e1 _
theorem sortStable_eq (N : Nat) (l : List Ev) (h20 : l.length ≤ 20) (hN : 30 < N) : F_slices_SortStableFunc_sEvent_Event N l l.length = some (isort ltE l, ()) := by
  unfold F_slices_SortStableFunc_sEvent_Event
  rw [stable_eq N l h20 hN]
  rfl
theorem sort2_eq (N : Nat) (x y : Ev) : F_event_Sort_2 N x y = some (eqE x y) := rfl
theorem compactE_eq (N : Nat) (l : List Ev) (hb : l.length < 4611686018427387904) (hN : l.length < N) : ∃ r : List Ev × Nat, F_slices_CompactFunc_sEvent_Event N l l.length = some r ∧ r.1.take r.2 = compB eqE l ∧ r.2 ≤ r.1.length := by
  unfold F_slices_CompactFunc_sEvent_Event
  simp only [cond_eq_ite, sort2_eq, Option.bind_some]
  by_cases h2 : ((l.length : Nat) : Int) < 2
  · rw [if_pos (by simpa using h2)]
    refine ⟨_, rfl, ?_, Nat.le_refl _⟩
    have : l = l.take 1 := by rw [List.take_of_length_le (by omega)]
    rw [List.take_length, this, compB_one]
  · rw [if_neg (by simpa using h2)]
    refine iter_ok (Q := fun (r : List Ev × Nat) => r.1.take r.2 = compB eqE l ∧ r.2 ≤ r.1.length) (fun n z => ∃ k : Nat, z = (((k : Int), ()), (), (), l, ()) ∧ 1 ≤ k ∧ k ≤ l.length ∧ n = l.length - k ∧ compB eqE (l.take k) = l.take k) ?_ N (l.length - 1) _ ⟨1, rfl, by omega, by omega, rfl, compB_one l⟩ (by omega)
    rintro n z rec ⟨k, rfl, k1, k2, hn, hc⟩ ih
    simp only
    by_cases hk : k < l.length
    · have e1 : IntKind.i64.wrap ((k : Int) - 1) = ((k - 1 : Nat) : Int) := i64_pred (by omega) (by omega)
      have e2 : IntKind.i64.wrap ((k : Int) + 1) = ((k + 1 : Nat) : Int) := i64_succ (by omega)
      simp only [e1, e2, toNat_nat, Nat.zero_add, getElem?_lt hk, getElem?_lt (show k - 1 < l.length by omega), Option.bind_some]
      rw [if_pos (by simp; omega), if_pos (by simp; omega), if_pos (by simp; omega)]
      have hstep := compB_take_succ lo_E (l := l) (m := k) (by omega) (getElem?_lt (show k - 1 < l.length by omega)) (getElem?_lt hk)
      cases he : eqE l[k] l[k - 1] with
      | true =>
        rw [he] at hstep
        rw [if_pos rfl, if_pos (by simp [cutOk]; omega)]
        refine iter_ok (Q := fun (r : List Ev × Nat) => r.1.take r.2 = compB eqE l ∧ r.2 ≤ r.1.length) (fun n z => ∃ (i q : Nat) (c : List Ev), z = (((i : Int), (q : Int), ()), (), (), c, ()) ∧ 1 ≤ q ∧ k + q ≤ l.length ∧ i + 1 ≤ k + q ∧ c.length = l.length ∧
          (∀ j, i ≤ j → c[j]? = l[j]?) ∧ c.take i = compB eqE (l.take (k + q)) ∧ n = l.length - (k + q)) ?_ N (l.length - (k + 1)) _
          ⟨k, 1, l, rfl, by omega, by omega, by omega, rfl, fun _ _ => rfl, by rw [hstep, cond_true, hc], rfl⟩ (by omega)
        rintro n z rec ⟨i, q, c, rfl, q1, q2, q3, hcl, hcj, hct, hn⟩ ih'
        simp only
        by_cases hq : k + q < l.length
        · have f1 : IntKind.i64.wrap ((q : Int) - 1) = ((q - 1 : Nat) : Int) := i64_pred (by omega) (by omega)
          have f2 : IntKind.i64.wrap ((q : Int) + 1) = ((q + 1 : Nat) : Int) := i64_succ (by omega)
          have f3 : IntKind.i64.wrap ((i : Int) + 1) = ((i + 1 : Nat) : Int) := i64_succ (by omega)
          have g1 : c[k + q]? = some l[k + q] := by rw [hcj _ (by omega), getElem?_lt hq]
          have g2 : c[k + (q - 1)]? = some l[k + (q - 1)] := by rw [hcj _ (by omega), getElem?_lt (by omega)]
          have g3 : c[i]? = some (c[i]'(by omega)) := getElem?_lt (by omega)
          simp only [f1, f2, f3, toNat_nat, Nat.zero_add, g1, g2, g3, Option.bind_some]
          rw [if_pos (by simp; omega), if_pos (by simp; omega), if_pos (by simp; omega)]
          have hs := compB_take_succ lo_E (l := l) (m := k + q) (a := l[k + (q - 1)]) (by omega) (by rw [show k + q - 1 = k + (q - 1) by omega]; exact getElem?_lt _) (getElem?_lt hq)
          cases hne : eqE l[k + q] l[k + (q - 1)] with
          | true =>
            rw [hne] at hs
            rw [if_neg (by simp)]
            refine ih' (l.length - (k + (q + 1))) _ (by omega) ⟨i, q + 1, c, rfl, by omega, by omega, by omega, hcl, hcj, ?_, rfl⟩
            rw [hct, ← Nat.add_assoc, hs, cond_true]
          | false =>
            rw [hne] at hs
            rw [if_pos (by simp), if_pos (by simp; omega), if_pos (by simp; omega)]
            refine ih' (l.length - (k + (q + 1))) _ (by omega) ⟨i + 1, q + 1, c.set i l[k + q], rfl, by omega, by omega, by omega, by simpa using hcl, ?_, ?_, rfl⟩
            · intro j hj
              rw [List.getElem?_set_ne (by omega)]
              exact hcj j (by omega)
            · rw [← Nat.add_assoc, hs, cond_false, ← hct, List.take_add_one, List.take_set_of_le (Nat.le_refl _), List.getElem?_set_self (by omega)]; rfl
        · rw [if_neg (by simp; omega), if_pos (by simp [cutOk]; omega), if_pos (by simp [cutOk]; omega)]
          refine ⟨_, rfl, ?_, ?_⟩
          · have : k + q = l.length := by omega
            rw [this, List.take_length] at hct
            simp only [toNat_nat, Nat.zero_add, Nat.sub_zero]
            rw [← hct, List.take_take, Nat.min_self]
          · simp only [toNat_nat, Nat.sub_zero, Nat.zero_add, List.length_take]; omega
      | false =>
        rw [he] at hstep
        rw [if_neg (by simp)]
        refine ih (l.length - (k + 1)) _ (by omega) ⟨k + 1, rfl, by omega, by omega, rfl, ?_⟩
        rw [hstep, cond_false, hc, List.take_add_one, getElem?_lt hk]; rfl
    · rw [if_neg (by simp; omega)]
      refine ⟨_, rfl, ?_, Nat.le_refl _⟩
      have : k = l.length := by omega
      subst this
      rw [List.take_length] at hc ⊢
      exact hc.symm
def sortE (l : List Ev) : List Ev := compB eqE (isort ltE l)
def smE (e : Ev) : Prop := e.2.2.2.2.2.length ≤ 5000
theorem copy_eq (N : Nat) (e : Ev) (he : smE e) : F_event_Copy N e = some e := by
  unfold F_event_Copy
  have : F_slices_Clone_sDot_Dot_d N e.2.2.2.2.2 = some e.2.2.2.2.2 := by
    unfold F_slices_Clone_sDot_Dot_d cloneD
    unfold smE at he
    cases hk : e.2.2.2.2.2 with
    | nil => rfl
    | cons y r =>
      rw [hk] at he
      have hfit : fitsB (y :: r).length 16 = true := by
        simp only [fitsB, Bool.and_eq_true, decide_eq_true_eq]
        omega
      simp only [listCase, hfit, cond_true]
  rw [this]; rfl
theorem sort0_eq (N : Nat) (hN : 0 < N) : F0_slices_SortStableFunc_sEvent_Event N = some () := by
  have h1 : F0_slices_insertionSortCmpFunc_Event N 0 0 = some () := by
    unfold F0_slices_insertionSortCmpFunc_Event
    have e : IntKind.i64.wrap (0 + 1) = 1 := by decide
    rw [e]
    obtain ⟨M, rfl⟩ : ∃ M, N = M + 1 := ⟨N - 1, by omega⟩
    simp only [iter]
    rfl
  unfold F0_slices_SortStableFunc_sEvent_Event
  have h2 : F0_slices_stableCmpFunc_Event N 0 = some () := by
    unfold F0_slices_stableCmpFunc_Event
    obtain ⟨M, rfl⟩ : ∃ M, N = M + 1 := ⟨N - 1, by omega⟩
    simp only [iter]
    rw [decide_eq_false (by decide), cond_false]
    rw [h1]
    simp only [Option.bind_some]
    rw [decide_eq_false (by decide), cond_false]
  rw [h2]; rfl
theorem eventSort_eq (N : Nat) (l : List Ev) (h20 : l.length ≤ 20) (hsm : ∀ e ∈ l, smE e) (hN : 30 < N) : F_event_Sort N l = some (sortE l) := by
  unfold F_event_Sort
  refine some_of ?_
  refine iter_ok (Q := fun r => r = sortE l) (fun n z => ∃ k : Nat, z = (((k : Int), ()), (), ((if k = 0 then none else some (l.take k, k)), ()), ()) ∧ k ≤ l.length ∧ n = l.length - k) ?_ N l.length _ ⟨0, rfl, Nat.zero_le _, by omega⟩ (by omega)
  rintro n z rec ⟨k, rfl, hk, rfl⟩ ih
  simp only [dec_lt]
  by_cases hkl : k < l.length
  · have hc := copy_eq N l[k] (hsm _ (List.getElem_mem hkl))
    have hw : IntKind.i64.wrap ((k : Int) + 1) = ((k + 1 : Nat) : Int) := i64_succ (by omega)
    by_cases h0 : k = 0
    · subst h0
      rw [if_pos rfl]
      simp only [optCase]
      rw [decide_eq_true hkl]
      simp only [cond_true, at?_nat]
      rw [getl hkl]
      simp only [Option.bind_some]
      rw [hc, hw]
      simp only [Option.bind_some]
      refine ih (l.length - 1) _ (by omega) ⟨1, ?_, by omega, rfl⟩
      have : l.take 1 = [l[0]] := by
        rw [List.take_add_one, getl hkl]; rfl
      rw [this, if_neg (by omega)]
      rfl
    · have hlt : (l.take k).length = k := by simp; omega
      have hb : Nat.beq (l.take k).length k = true := by rw [hlt]; exact Nat.beq_refl k
      have hf : fitsB (k + [l[k]].length) 80 = true := by
        simp only [fitsB, List.length_singleton, Bool.and_eq_true, decide_eq_true_eq]; omega
      rw [if_neg h0]
      simp only [optCase]
      rw [decide_eq_true hkl]
      simp only [cond_true, at?_nat]
      rw [getl hkl]
      simp only [Option.bind_some]
      rw [hc]
      simp only [Option.bind_some]
      rw [hb, hf, hw]
      simp only [cond_true]
      refine ih (l.length - (k + 1)) _ (by omega) ⟨k + 1, ?_, by omega, rfl⟩
      have : l.take (k + 1) = l.take k ++ [l[k]] := by
        rw [List.take_add_one, getl hkl]; rfl
      rw [this, if_neg (by omega)]
      rfl
  · have hkl' : k = l.length := by omega
    by_cases h0 : k = 0
    · have : l = [] := List.eq_nil_of_length_eq_zero (by omega)
      subst this
      rw [if_pos h0]
      simp only [optCase]
      rw [decide_eq_false hkl]
      simp only [cond_false]
      rw [sort0_eq N (by omega)]
      exact ⟨_, rfl, rfl⟩
    · rw [hkl'] at h0 ⊢
      rw [if_neg h0]
      simp only [optCase]
      rw [decide_eq_false (by omega)]
      simp only [cond_false, List.take_length]
      rw [sortStable_eq N l h20 hN]
      simp only [Option.bind_some]
      have hi := isort_length (lt := ltE) l
      obtain ⟨r, h1, h2, h3⟩ := compactE_eq N (isort ltE l) (by omega) (by omega)
      rw [hi] at h1
      rw [h1]
      simp only [Option.bind_some]
      have hb : Nat.ble (0 + r.2) r.1.length = true := by simp only [Nat.ble_eq]; omega
      rw [hb, cond_true, List.drop_zero, h2]
      exact ⟨_, rfl, rfl⟩
end Go.Proofs.Xg
set_option linter.unusedVariables false
set_option linter.unusedSimpArgs false
set_option maxRecDepth 100000
namespace Go.Proofs.Xg
open Go Go.Xl Go.Ab Go.Proofs Go.Sort
theorem refCmp_eq (N : Nat) (x y : Int × Int) : F_epitaphref07_Cmp N x y = some (cfDot x y) := by
  simp only [F_epitaphref07_Cmp, cfDot, cond_eq_ite]
  grind
def ltD (x y : Int × Int) : Bool := ltOf cfDot x y
theorem ltD_asymm (x y : Int × Int) (h : ltD x y = true) : ltD y x = false := by
  unfold ltD at *
  rw [dot_lt] at *
  simp at *; omega
theorem ltD_trans {x y z : Int × Int} (h : ltD x y = true) (h' : ltD y z = true) : ltD x z = true := by
  unfold ltD at *
  rw [dot_lt] at *
  simp at *; omega
theorem ltD_total (x y : Int × Int) (h1 : ltD x y = false) (h2 : ltD y x = false) : x = y := dot_total x y h1 h2
theorem gtD (x y : Int × Int) : decide (0 < cfDot x y) = ltD y x := by
  unfold ltD
  rw [dot_lt, Bool.eq_iff_iff]
  unfold cfDot
  simp only [decide_eq_true_eq]
  grind
theorem ltD_def (x y : Int × Int) : decide (cfDot x y < 0) = ltD x y := rfl
def putF (d : Int × Int) (l : List (Int × Int)) : List (Int × Int) := l.filter (fun x => ltD x d) ++ [d] ++ l.filter (fun x => ltD d x)
theorem putF_length (d : Int × Int) (l : List (Int × Int)) : (putF d l).length ≤ l.length + 1 := by
  unfold putF
  have : ∀ l : List (Int × Int), (l.filter (fun x => ltD x d)).length + (l.filter (fun x => ltD d x)).length ≤ l.length := by
    intro l
    induction l with
    | nil => simp
    | cons x r ih =>
      simp only [List.filter_cons]
      cases h1 : ltD x d with
      | true => rw [ltD_asymm _ _ h1]; simp; omega
      | false => cases ltD d x <;> simp <;> omega
  have := this l
  simp; omega
theorem putF_mem (d x : Int × Int) (l : List (Int × Int)) : x ∈ putF d l ↔ x = d ∨ x ∈ l := by
  unfold putF
  simp only [List.mem_append, List.mem_filter, List.mem_singleton]
  constructor
  · rintro ((⟨h, _⟩ | h) | ⟨h, _⟩)
    · exact .inr h
    · exact .inl h
    · exact .inr h
  · rintro (h | h)
    · exact .inl (.inr h)
    · cases h1 : ltD x d with
      | true => exact .inl (.inl ⟨h, rfl⟩)
      | false =>
        cases h2 : ltD d x with
        | true => exact .inr ⟨h, rfl⟩
        | false => exact .inl (.inr (ltD_total _ _ h1 h2))
theorem putF_asc (d : Int × Int) (l : List (Int × Int)) (h : SAsc ltD l) : SAsc ltD (putF d l) := by
  unfold putF SAsc
  rw [List.append_assoc, List.pairwise_append, List.singleton_append, List.pairwise_cons]
  refine ⟨List.Pairwise.filter _ h, ⟨fun y hy => (List.mem_filter.1 hy).2, List.Pairwise.filter _ h⟩, ?_⟩
  intro a ha b hb
  have h1 := (List.mem_filter.1 ha).2
  rcases List.mem_cons.1 hb with rfl | hb
  · exact h1
  · exact ltD_trans h1 (List.mem_filter.1 hb).2
def putsF (l : List (Int × Int)) : List (Int × Int) := l.foldl (fun q d => putF d q) []
theorem putsF_facts : ∀ (l q : List (Int × Int)), SAsc ltD q → SAsc ltD (l.foldl (fun q d => putF d q) q) ∧ (∀ x, x ∈ l.foldl (fun q d => putF d q) q ↔ x ∈ q ∨ x ∈ l) ∧ (l.foldl (fun q d => putF d q) q).length ≤ q.length + l.length
  | [], q, h => ⟨h, by simp, by simp⟩
  | d :: r, q, h => by
    obtain ⟨h1, h2, h3⟩ := putsF_facts r (putF d q) (putF_asc d q h)
    refine ⟨h1, fun x => ?_, ?_⟩
    · rw [List.foldl_cons, h2, putF_mem]; simp; constructor <;> rintro (h | h) <;> grind
    · rw [List.foldl_cons]
      have := putF_length d q
      simp; omega
theorem compGo_mem {p x : Int × Int} : ∀ {l : List (Int × Int)}, (x = p ∨ x ∈ compGo p l) ↔ (x = p ∨ x ∈ l)
  | [] => by simp [compGo]
  | y :: r => by
    simp only [compGo]
    by_cases hy : y = p
    · subst hy
      rw [if_pos rfl, compGo_mem (l := r)]; simp
    · rw [if_neg hy]
      have := compGo_mem (p := y) (x := x) (l := r)
      simp only [List.mem_cons]
      rw [this]
theorem compGo_asc : ∀ (p : Int × Int) (l : List (Int × Int)), (p :: l).Pairwise (fun a b => ltD b a = false) → SAsc ltD (p :: compGo p l)
  | p, [], h => by simp [compGo, SAsc]
  | p, y :: r, h => by
    have h' := h
    simp only [List.pairwise_cons, List.mem_cons] at h'
    simp only [compGo]
    by_cases hy : y = p
    · subst hy
      rw [if_pos rfl]
      exact compGo_asc y r (by simp only [List.pairwise_cons]; exact ⟨fun a ha => h'.1 a (.inr ha), h'.2.2⟩)
    · rw [if_neg hy]
      have ih := compGo_asc y r (by simp only [List.pairwise_cons]; exact h'.2)
      have hpy : ltD p y = true := by
        cases hh : ltD p y with
        | true => rfl
        | false => exact absurd (ltD_total _ _ (h'.1 y (.inl rfl)) hh) hy
      unfold SAsc at *
      rw [List.pairwise_cons]
      refine ⟨fun a ha => ?_, ih⟩
      rcases List.mem_cons.1 ha with rfl | ha
      · exact hpy
      · exact ltD_trans hpy ((List.pairwise_cons.1 ih).1 a ha)
theorem sortDots_facts (l : List (Int × Int)) : SAsc ltD (sortDots l) ∧ ∀ x, x ∈ sortDots l ↔ x ∈ l := by
  have hp : (F_SortFunc_Dot l).Pairwise (fun a b => ltD b a = false) := by
    have := List.pairwise_mergeSort (le := fun x y => !(ltOf cfDot) y x) (by
      intro a b c h1 h2
      simp only [Bool.not_eq_true'] at *
      exact dot_swo.ntrans _ _ _ h2 h1) (by
      intro a b
      cases h : ltOf cfDot b a with
      | false => simp [h]
      | true => simp [h, ltD_asymm b a h] ; exact ltD_asymm b a h) l
    refine this.imp ?_
    intro a b h
    simpa [ltD] using h
  have hm : ∀ x, x ∈ F_SortFunc_Dot l ↔ x ∈ l := fun x => by simp [F_SortFunc_Dot]
  unfold sortDots
  cases hs : F_SortFunc_Dot l with
  | nil =>
    rw [hs] at hm
    exact ⟨by simp [comp, SAsc], by simpa [comp] using hm⟩
  | cons p r =>
    rw [hs] at hm hp
    refine ⟨compGo_asc p r hp, fun x => ?_⟩
    simp only [comp, List.mem_cons]
    rw [compGo_mem, ← hm x, List.mem_cons]
theorem sortDots_puts (l : List (Int × Int)) : sortDots l = putsF l := by
  obtain ⟨h1, h2⟩ := sortDots_facts l
  obtain ⟨h3, h4, _⟩ := putsF_facts l [] (by simp [SAsc])
  exact SAsc.ext ltD_asymm h1 h3 fun x => by rw [h2, putsF, h4]; simp
theorem refPut_eq (N : Nat) (l : List (Int × Int)) (d : Int × Int) (hl : l.length ≤ 1000000) (hN : 1000000 < N) : F_epitaphref07_Put N l d = some (putF d l) := by
  unfold F_epitaphref07_Put
  have e0 := foldl_filter (fun x => ltD x d) l []
  rw [fold_loop l (fun a x => cond (ltD x d) (a ++ [x]) a) [] (fun a => some (a ++ [d] ++ l.filter (fun x => ltD d x))) ?_ ?_ N (by omega), e0]
  · rfl
  · intro rec k a hk ha
    have hal : a.length ≤ k := by
      rw [ha, foldl_filter, List.nil_append]
      have := List.length_filter_le (fun x => ltD x d) (l.take k)
      rw [List.length_take] at this; omega
    have hf : fitsB (a.length + [l[k]].length) 16 = true := fit (by simp; omega) (by simp; omega)
    simp only [dec_lt, decide_eq_true hk, cond_true, at?_nat, getl hk, Option.bind_some, refCmp_eq, ltD_def, hf, i64_succ (show k + 1 < 9223372036854775808 by omega)]
    cases ltD l[k] d <;> rfl
  · intro rec
    have hal : (l.foldl (fun a x => cond (ltD x d) (a ++ [x]) a) []).length ≤ l.length := by
      rw [foldl_filter, List.nil_append]
      exact List.length_filter_le _ _
    generalize l.foldl (fun a x => cond (ltD x d) (a ++ [x]) a) [] = b at *
    have hf : fitsB (b.length + [d].length) 16 = true := fit (by simp; omega) (by simp; omega)
    simp only [dec_lt, decide_eq_false (Nat.lt_irrefl _), cond_false, hf, cond_true]
    have e1 := foldl_filter (fun x => ltD d x) l (b ++ [d])
    rw [fold_loop l (fun a x => cond (ltD d x) (a ++ [x]) a) (b ++ [d]) (fun a => some a) ?_ ?_ N (by omega), e1]
    · intro rec k a hk ha
      have hal : a.length ≤ k + b.length + 1 := by
        rw [ha, foldl_filter]
        have := List.length_filter_le (ltD d) (l.take k)
        rw [List.length_take] at this
        rw [List.length_append, List.length_append, List.length_singleton]
        omega
      have hf : fitsB (a.length + [l[k]].length) 16 = true := fit (by simp; omega) (by simp; omega)
      simp only [dec_lt, decide_eq_true hk, cond_true, at?_nat, getl hk, Option.bind_some, refCmp_eq, gtD, hf, i64_succ (show k + 1 < 9223372036854775808 by omega)]
      cases ltD d l[k] <;> rfl
    · intro rec
      simp only [dec_lt, decide_eq_false (Nat.lt_irrefl _), cond_false]
end Go.Proofs.Xg
set_option linter.unusedVariables false
set_option linter.unusedSimpArgs false
set_option maxRecDepth 100000
namespace Go.Proofs.Xg
open Go Go.Xl Go.Ab Go.Proofs Go.Sort
def dsE (e : Ev) : List (Int × Int) := e.1 :: e.2.2.2.2.2
theorem dsE_len {e : Ev} (h : smE e) : (dsE e).length ≤ 5001 := by
  unfold dsE smE at *; simp; omega
theorem flat_len {l : List Ev} (h : ∀ e ∈ l, smE e) : (l.flatMap dsE).length ≤ 5001 * l.length := by
  induction l with
  | nil => simp
  | cons e r ih =>
    have h1 := dsE_len (h e List.mem_cons_self)
    have h2 := ih fun x hx => h x (List.mem_cons_of_mem _ hx)
    rw [List.flatMap_cons, List.length_append, List.length_cons]; omega
theorem take_sm {l : List Ev} (h : ∀ e ∈ l, smE e) (k : Nat) : ∀ e ∈ l.take k, smE e := fun e he => h e (List.mem_of_mem_take he)
theorem dots_eq (N : Nat) (l : List Ev) (hl : l.length ≤ 100) (hsm : ∀ e ∈ l, smE e) (hN : 1000000 < N) : F_event_Dots N l = some (sortDots (l.flatMap dsE)) := by
  unfold F_event_Dots
  have e0 := foldl_flatMap dsE l []
  have hfl := flat_len hsm
  rw [fold_loop l (fun a e => a ++ dsE e) [] (fun a => Option.bind (F_dot_Sort N a) fun y => some y) ?_ ?_ N (by omega), e0]
  · rw [List.nil_append, dotSort_eq N _ (by omega) (by omega)]; rfl
  · intro rec k a hk ha
    have hal : a.length ≤ 5001 * 100 := by
      rw [ha, foldl_flatMap, List.nil_append]
      have := flat_len (take_sm hsm k)
      rw [List.length_take] at this; omega
    have hk2 : l[k].2.2.2.2.2.length ≤ 5000 := hsm _ (List.getElem_mem hk)
    have hf1 : fitsB (a.length + [l[k].1].length) 16 = true := fit (by simp; omega) (by simp; omega)
    have hf2 : fitsB ((a ++ [l[k].1]).length + l[k].2.2.2.2.2.length) 16 = true := fit (by simp; omega) (by simp; omega)
    simp only [dec_lt, decide_eq_true hk, cond_true, at?_nat, getl hk, Option.bind_some, hf1, hf2, i64_succ (show k + 1 < 9223372036854775808 by omega)]
    simp [dsE]
  · intro rec
    simp only [dec_lt, decide_eq_false (Nat.lt_irrefl _), cond_false]
theorem putR_length (e : Ev) (l : List Ev) : (putR ltE eqE e l).length ≤ l.length + 1 := by
  unfold putR
  cases l.any (eqE e) with
  | true => simp
  | false => simp [insR_length]
theorem putsR_length : ∀ (l q : List Ev), (l.foldl (fun q x => putR ltE eqE x q) q).length ≤ q.length + l.length
  | [], q => by simp
  | e :: r, q => by
    have := putsR_length r (putR ltE eqE e q)
    have := putR_length e q
    rw [List.foldl_cons]; simp; omega
theorem sortE_puts (l : List Ev) : sortE l = l.foldl (fun q x => putR ltE eqE x q) [] := compB_isort lo_E l
theorem sortE_length (l : List Ev) : (sortE l).length ≤ l.length := by
  rw [sortE_puts]; simpa using putsR_length l []
theorem sortE_mem {l : List Ev} {e : Ev} (h : e ∈ sortE l) : e ∈ l := (isort_mem l).1 (compB_mem h)
theorem sameE_refl (e : Ev) : sameE e e = true := by simp [sameE]
def dead (l : List Ev) (d : Int × Int) : Bool := l.any fun e => decide (d ∈ e.2.2.2.2.2)
theorem dead_eq (N : Nat) (l : List Ev) (d : Int × Int) (hl : l.length ≤ 100) (hsm : ∀ e ∈ l, smE e) (hN : 10000 < N) : F_kills_Dead N l d = some (dead l d) := by
  unfold F_kills_Dead dead
  refine (scan_eq l.length (fun k => some ((l.drop k).any fun e => decide (d ∈ e.2.2.2.2.2))) 0 ?_ ?_ N (by omega)).trans rfl
  · intro rec k _ hk hr
    have hk2 : l[k].2.2.2.2.2.length ≤ 5000 := hsm _ (List.getElem_mem hk)
    simp only [dec_lt, at?_nat, getl hk, Option.bind_some, i64_succ (show k + 1 < 9223372036854775808 by omega), hr, decide_eq_true hk, cond_true]
    rw [kills_eq N _ _ (by omega) (by omega), Option.bind_some]
    have e : l.drop k = l[k] :: l.drop (k + 1) := List.drop_eq_getElem_cons hk
    rw [e, List.any_cons]
    cases decide (d ∈ l[k].2.2.2.2.2) <;> simp
  · intro rec k hk
    simp only [dec_lt, decide_eq_false (show ¬ k < l.length by omega), cond_false]
    rw [List.drop_eq_nil_of_le hk]; rfl
def live (s : List Ev) : List Ev := s.filter fun e => cond (e.2.1 == 1) (!dead s e.1) false
theorem filter_len {α : Type} (p : α → Bool) (l : List α) (k : Nat) : ((l.take k).filter p).length ≤ k := by
  have := List.length_filter_le p (l.take k)
  rw [List.length_take] at this; omega
theorem live_eq (N : Nat) (l : List Ev) (hl : l.length ≤ 20) (hsm : ∀ e ∈ l, smE e) (hN : 10000 < N) : F_kills_Live N l = some (live (sortE l)) := by
  unfold F_kills_Live
  rw [eventSort_eq N l hl hsm (by omega), Option.bind_some]
  have hsl := sortE_length l
  have hss : ∀ e ∈ sortE l, smE e := fun e he => hsm e (sortE_mem he)
  generalize sortE l = s at *
  have e0 := foldl_filter (fun e : Ev => cond (e.2.1 == 1) (!dead s e.1) false) s []
  rw [fold_loop s (fun a x => cond ((fun e : Ev => cond (e.2.1 == 1) (!dead s e.1) false) x) (a ++ [x]) a) [] (fun a => some a) ?_ ?_ N (by omega), e0]
  · rfl
  · intro rec k a hk ha
    have hal : a.length ≤ k := by
      rw [ha, foldl_filter, List.nil_append]
      exact filter_len _ _ _
    have hf : fitsB (a.length + [s[k]].length) 80 = true := fit (by simp; omega) (by simp; omega)
    simp only [dec_lt, decide_eq_true hk, cond_true, at?_nat, getl hk, Option.bind_some, i64_succ (show k + 1 < 9223372036854775808 by omega)]
    rw [dead_eq N s _ (by omega) hss hN, copy_eq N _ (hss _ (List.getElem_mem hk))]
    simp only [Option.bind_some, hf, cond_true]
    cases s[k].2.1 == 1 <;> cases dead s s[k].1 <;> rfl
  · intro rec
    simp only [dec_lt, decide_eq_false (Nat.lt_irrefl _), cond_false]
def isEdit (c : Int) (f : UInt8) (e : Ev) : Bool := cond (e.2.1 == 1) (cond (e.2.2.1 == c) (e.2.2.2.1 == f) false) false
theorem filter_sm {l : List Ev} (h : ∀ e ∈ l, smE e) (p : Ev → Bool) : ∀ e ∈ l.filter p, smE e := fun e he => h e (List.mem_filter.1 he).1
theorem ofE_eq (N : Nat) (l : List Ev) (c : Int) (f : UInt8) (hl : l.length ≤ 100) (hsm : ∀ e ∈ l, smE e) (hN : 1000000 < N) : F_kills_of_e N l c f = some ((sortDots ((l.filter (isEdit c f)).flatMap dsE), ()), (), (), ()) := by
  unfold F_kills_of_e
  have e0 := foldl_filter (isEdit c f) l []
  have hfl : (l.filter (isEdit c f)).length ≤ 100 := Nat.le_trans (List.length_filter_le _ _) hl
  rw [fold_loop l (fun a x => cond (isEdit c f x) (a ++ [x]) a) [] (fun a => Option.bind (F_event_Dots N a) fun y => some ((y, ()), (), (), ())) ?_ ?_ N (by omega), e0]
  · rw [List.nil_append, dots_eq N _ hfl (filter_sm hsm _) hN]; rfl
  · intro rec k a hk ha
    have hal : a.length ≤ k := by
      rw [ha, foldl_filter, List.nil_append]
      exact filter_len _ _ _
    have hf : fitsB (a.length + [l[k]].length) 80 = true := fit (by simp; omega) (by simp; omega)
    have hE : F_kills_Edit_1 N l[k] c f = some ((cond (l[k].2.2.1 == c) (l[k].2.2.2.1 == f) false, ()), (), (), ()) := by
      unfold F_kills_Edit_1
      cases l[k].2.2.1 == c <;> rfl
    simp only [dec_lt, decide_eq_true hk, cond_true, at?_nat, getl hk, Option.bind_some, i64_succ (show k + 1 < 9223372036854775808 by omega), hf]
    rw [hE]
    simp only [Option.bind_some, isEdit]
    cases l[k].2.1 == 1 <;> cases l[k].2.2.1 == c <;> cases l[k].2.2.2.1 == f <;> rfl
  · intro rec
    simp only [dec_lt, decide_eq_false (Nat.lt_irrefl _), cond_false]
theorem edit_eq (N : Nat) (l : List Ev) (c : Int) (f : UInt8) (hl : l.length ≤ 100) (hsm : ∀ e ∈ l, smE e) (hN : 1000000 < N) : F_kills_Edit N l c f = some (sortDots ((l.filter (isEdit c f)).flatMap dsE)) := by
  unfold F_kills_Edit
  rw [ofE_eq N l c f hl hsm hN]; rfl
theorem few_300 (N : Nat) (l : List Ev) (m : Nat) (hm : m ≤ 100) (hN : 10000 < N) : ∃ b, F_epitaphref13_Few N l m = some b ∧ (b = true → l.length ≤ m ∧ ∀ e ∈ l, e.2.2.2.2.2.length ≤ 300) := by
  unfold F_epitaphref13_Few
  by_cases hl : m < l.length
  · have : decide ((m : Int) < (l.length : Int)) = true := by simpa using hl
    rw [this]
    exact ⟨false, rfl, by simp⟩
  · have : decide ((m : Int) < (l.length : Int)) = false := by simpa using hl
    rw [this, cond_false]
    refine iter_ok (Q := fun b => b = true → l.length ≤ m ∧ ∀ e ∈ l, e.2.2.2.2.2.length ≤ 300) (fun n z => ∃ k : Nat, z = (((k : Int), ()), (), (), ()) ∧ k ≤ l.length ∧ n = l.length - k ∧ ∀ e ∈ l.take k, e.2.2.2.2.2.length ≤ 300) ?_ N l.length _ ⟨0, rfl, Nat.zero_le _, rfl, by simp⟩ (by omega)
    rintro n z rec ⟨k, rfl, hk, rfl, hall⟩ ih
    simp only [dec_lt]
    by_cases hkl : k < l.length
    · simp only [decide_eq_true hkl, cond_true, at?_nat, getl hkl, Option.bind_some]
      by_cases h1 : (300 : Int) < (l[k].2.2.2.2.2.length : Int)
      · rw [decide_eq_true h1]; exact ⟨false, rfl, by simp⟩
      · rw [decide_eq_false h1, cond_false]
        by_cases h2 : (200 : Int) < (l[k].2.2.2.2.1.length : Int)
        · rw [decide_eq_true h2]; exact ⟨false, rfl, by simp⟩
        · rw [decide_eq_false h2, cond_false, i64_succ (by omega)]
          refine ih (l.length - (k + 1)) _ (by omega) ⟨k + 1, rfl, by omega, rfl, ?_⟩
          intro e he
          rw [List.take_add_one, getl hkl] at he
          rcases List.mem_append.1 he with he | he
          · exact hall e he
          · simp at he; subst he
            omega
    · simp only [decide_eq_false hkl, cond_false]
      refine ⟨true, rfl, fun _ => ⟨by omega, ?_⟩⟩
      rwa [List.take_of_length_le (by omega)] at hall
theorem few_any (N : Nat) (l : List Ev) (m : Nat) (hm : m ≤ 100) (hN : 10000 < N) : ∃ b, F_epitaphref13_Few N l m = some b ∧ (b = true → l.length ≤ m ∧ ∀ e ∈ l, smE e) := by
  obtain ⟨b, h1, h2⟩ := few_300 N l m hm hN
  exact ⟨b, h1, fun h => ⟨(h2 h).1, fun e he => by have := (h2 h).2 e he; unfold smE; omega⟩⟩
theorem kworks_eq (N : Nat) (hN : 1000000 < N) : F_epitaphlaw17_works N = some true := by
  unfold F_epitaphlaw17_works
  have sm : ∀ e ∈ ([((1, 1), 1, 5, 1, [], []), ((1, 2), 1, 5, 1, [], [(1, 1)])] : List Ev), smE e := by
    intro e he
    simp only [List.mem_cons, List.not_mem_nil, or_false] at he
    rcases he with rfl | rfl <;> (unfold smE; decide)
  rw [live_eq N _ (by decide) sm (by omega)]
  have e1 : live (sortE [((1, 1), 1, 5, 1, [], []), ((1, 2), 1, 5, 1, [], [(1, 1)])]) = ([((1, 2), 1, 5, 1, [], [(1, 1)])] : List Ev) := by rfl
  rw [e1]
  simp only [Option.bind_some, List.length_singleton]
  have e2 : sortDots (([((1, 2), 1, 5, 1, [], [(1, 1)])] : List Ev).filter (isEdit 5 1) |>.flatMap dsE) = [(1, 1), (1, 2)] := by
    rw [sortDots_puts]; decide
  rw [edit_eq N _ 5 1 (by decide) (fun e he => sm e (by simp at he ⊢; exact .inr he)) hN, e2]
  simp only [Option.bind_some]
  rw [same_eq N _ _ (by decide) (by simp; omega)]
  rfl
end Go.Proofs.Xg
set_option linter.unusedVariables false
set_option linter.unusedSimpArgs false
set_option maxRecDepth 100000
namespace Go.Proofs.Xg
open Go Go.Xl Go.Ab Go.Proofs Go.Sort
abbrev Run : Type := Int × Int
def mayR (r : Run) : Bool := decide (1 ≤ r.1) && decide (r.1 ≤ r.2) && decide (r.2 ≤ 281474976710655)
def inR (r : Run) (n : Int) : Bool := mayR r && decide (r.1 ≤ n) && decide (n ≤ r.2)
def cov (l : List Run) (n : Int) : Bool := l.any fun r => inR r n
theorem may_iff {r : Run} : mayR r = true ↔ 1 ≤ r.1 ∧ r.1 ≤ r.2 ∧ r.2 ≤ 281474976710655 := by simp [mayR, and_assoc]
theorem inR_iff {r : Run} {n : Int} : inR r n = true ↔ mayR r = true ∧ r.1 ≤ n ∧ n ≤ r.2 := by simp [inR, and_assoc]
theorem cov_iff {l : List Run} {n : Int} : cov l n = true ↔ ∃ r ∈ l, mayR r = true ∧ r.1 ≤ n ∧ n ≤ r.2 := by simp [cov, inR_iff]
theorem cov_append (a b : List Run) (n : Int) : cov (a ++ b) n = (cov a n || cov b n) := by simp [cov]
theorem cov_nil (n : Int) : cov [] n = false := rfl
theorem cov_cons (r : Run) (a : List Run) (n : Int) : cov (r :: a) n = (inR r n || cov a n) := rfl
theorem may_eq (N : Nat) (r : Run) : F_epitaphref06_may N r = some (mayR r) := by
  simp only [F_epitaphref06_may, mayR, cond_eq_ite]
  grind
theorem refRHas_eq (N : Nat) (l : List Run) (n : Int) (hl : l.length < 9223372036854775807) (hN : l.length < N) : F_epitaphref06_Has N l n = some (cov l n) := by
  unfold F_epitaphref06_Has
  refine (scan_eq l.length (fun k => some (cov (l.drop k) n)) 0 ?_ ?_ N hN).trans rfl
  · intro rec k _ hk hr
    simp only [dec_lt, at?_nat, getl hk, Option.bind_some, i64_succ (show k + 1 < 9223372036854775808 by omega), hr, decide_eq_true hk, cond_true, may_eq]
    have e : l.drop k = l[k] :: l.drop (k + 1) := List.drop_eq_getElem_cons hk
    rw [e, cov_cons, inR]
    cases mayR l[k] <;> simp
    cases decide (l[k].1 ≤ n) <;> cases decide (n ≤ l[k].2) <;> simp
  · intro rec k hk
    simp only [dec_lt, decide_eq_false (show ¬ k < l.length by omega), cond_false]
    rw [List.drop_eq_nil_of_le hk]; rfl
def mstep (out : List Run) (x : Run) : List Run :=
  match out.getLast? with
  | none => [x]
  | some e => if x.1 ≤ e.2 + 1 then out.set (out.length - 1) (e.1, if x.2 > e.2 then x.2 else e.2) else out ++ [x]
noncomputable def normR (l : List Run) : List Run := (F_SortFunc_Run (l.filter mayR)).foldl mstep []
structure Chain' (out : List Run) : Prop where
  may : ∀ r ∈ out, mayR r = true
  apart : out.Pairwise fun a b => a.2 + 1 < b.1
theorem mstep_nil (x : Run) : mstep [] x = [x] := rfl
theorem mstep_snoc (o : List Run) (e x : Run) : mstep (o ++ [e]) x = if x.1 ≤ e.2 + 1 then o ++ [(e.1, if x.2 > e.2 then x.2 else e.2)] else (o ++ [e]) ++ [x] := by
  simp only [mstep, List.getLast?_append, List.getLast?_singleton, Option.some_or]
  split
  · simp
  · rfl
theorem snoc_cases {α : Type} (l : List α) : l = [] ∨ ∃ o e, l = o ++ [e] := by
  rcases List.eq_nil_or_concat l with h | ⟨o, e, h⟩
  · exact .inl h
  · exact .inr ⟨o, e, by simpa using h⟩
theorem mstep_facts {out : List Run} {x : Run} (h : Chain' out) (hx : mayR x = true) (hle : ∀ r ∈ out, r.1 ≤ x.1) :
    Chain' (mstep out x) ∧ (∀ n, cov (mstep out x) n = (cov out n || inR x n)) ∧ (∀ r ∈ mstep out x, r.1 ≤ x.1) := by
  rcases snoc_cases out with rfl | ⟨o, e, rfl⟩
  · rw [mstep_nil]
    refine ⟨⟨by simpa using hx, by simp⟩, fun n => by simp [cov], by simp⟩
  · have he := h.may e (by simp)
    have hee := hle e (by simp)
    rw [may_iff] at he hx
    have hap := h.apart
    rw [List.pairwise_append] at hap
    obtain ⟨p1, _, p3⟩ := hap
    rw [mstep_snoc]
    split
    · rename_i hm
      refine ⟨⟨?_, ?_⟩, ?_, ?_⟩
      · intro r hr
        rcases List.mem_append.1 hr with hr | hr
        · exact h.may r (by simp [hr])
        · simp at hr; subst hr
          rw [may_iff]; simp only
          split <;> omega
      · rw [List.pairwise_append]
        refine ⟨p1, by simp, ?_⟩
        intro a ha b hb
        simp at hb; subst hb
        exact p3 a ha e (by simp)
      · intro n
        rw [cov_append, cov_append]
        have : cov [(e.1, if x.2 > e.2 then x.2 else e.2)] n = (cov [e] n || inR x n) := by
          rw [Bool.eq_iff_iff]
          simp only [cov, List.any_cons, List.any_nil, Bool.or_false, Bool.or_eq_true, inR_iff, may_iff]
          split <;> constructor <;> intro hh <;> omega
        rw [this, Bool.or_assoc]
      · intro r hr
        rcases List.mem_append.1 hr with hr | hr
        · exact hle r (by simp [hr])
        · simp at hr; subst hr; exact hee
    · rename_i hm
      refine ⟨⟨?_, ?_⟩, ?_, ?_⟩
      · intro r hr
        rcases List.mem_append.1 hr with hr | hr
        · exact h.may r hr
        · simp at hr; subst hr; rw [may_iff]; exact hx
      · rw [List.pairwise_append]
        refine ⟨h.apart, by simp, ?_⟩
        intro a ha b hb
        simp at hb; subst hb
        rcases List.mem_append.1 ha with ha | ha
        · have := p3 a ha e (by simp)
          omega
        · simp at ha; subst ha; omega
      · intro n
        rw [cov_append]; simp [cov]
      · intro r hr
        rcases List.mem_append.1 hr with hr | hr
        · exact hle r hr
        · simp at hr; subst hr; omega
theorem fold_facts : ∀ (s out : List Run), Chain' out → (∀ x ∈ s, mayR x = true) → s.Pairwise (fun x y => x.1 ≤ y.1) → (∀ r ∈ out, ∀ x ∈ s, r.1 ≤ x.1) →
    Chain' (s.foldl mstep out) ∧ ∀ n, cov (s.foldl mstep out) n = (cov out n || cov s n)
  | [], out, h, _, _, _ => ⟨h, fun n => by simp [cov_nil]⟩
  | x :: s, out, h, hs, hp, hle => by
    obtain ⟨h1, h2, h3⟩ := mstep_facts h (hs x (by simp)) fun r hr => hle r hr x (by simp)
    rw [List.pairwise_cons] at hp
    obtain ⟨i1, i2⟩ := fold_facts s (mstep out x) h1 (fun y hy => hs y (by simp [hy])) hp.2 (fun r hr y hy => by
      have := h3 r hr; have := hp.1 y hy; omega)
    refine ⟨i1, fun n => ?_⟩
    rw [List.foldl_cons, i2 n, h2 n, cov_cons, Bool.or_assoc]
theorem cov_perm {a b : List Run} (h : a.Perm b) (n : Int) : cov a n = cov b n := by
  rw [Bool.eq_iff_iff, cov_iff, cov_iff]
  constructor <;> rintro ⟨r, hr, hh⟩
  · exact ⟨r, h.mem_iff.1 hr, hh⟩
  · exact ⟨r, h.mem_iff.2 hr, hh⟩
theorem cov_filter (l : List Run) (n : Int) : cov (l.filter mayR) n = cov l n := by
  rw [Bool.eq_iff_iff, cov_iff, cov_iff]
  constructor
  · rintro ⟨r, hr, hh⟩; exact ⟨r, (List.mem_filter.1 hr).1, hh⟩
  · rintro ⟨r, hr, hh⟩; exact ⟨r, List.mem_filter.2 ⟨hr, hh.1⟩, hh⟩
theorem normR_facts (l : List Run) : Chain' (normR l) ∧ ∀ n, cov (normR l) n = cov l n := by
  obtain ⟨p1, p2⟩ := sortRun_spec (l.filter mayR)
  obtain ⟨h1, h2⟩ := fold_facts (F_SortFunc_Run (l.filter mayR)) [] ⟨by simp, by simp⟩ (fun x hx => (List.mem_filter.1 (p1.mem_iff.1 hx)).2) p2 (by simp)
  refine ⟨h1, fun n => ?_⟩
  unfold normR
  rw [h2 n, cov_nil, Bool.false_or, cov_perm p1, cov_filter]
theorem mstep_length (out : List Run) (x : Run) : (mstep out x).length ≤ out.length + 1 := by
  rcases snoc_cases out with rfl | ⟨o, e, rfl⟩
  · simp [mstep]
  · rw [mstep_snoc]; split <;> simp
theorem fold_length : ∀ (s out : List Run), (s.foldl mstep out).length ≤ out.length + s.length
  | [], out => by simp
  | x :: s, out => by
    have := fold_length s (mstep out x)
    have := mstep_length out x
    simp only [List.foldl_cons, List.length_cons]; omega
theorem normR_length (l : List Run) : (normR l).length ≤ l.length := by
  have h1 := fold_length (F_SortFunc_Run (l.filter mayR)) []
  have h2 := (sortRun_spec (l.filter mayR)).1.length_eq
  have h3 := List.length_filter_le mayR l
  unfold normR
  simp at h1; omega
def owR (g : List Run) : Option (List Run × Nat) := if g = [] then none else some (g, g.length)
theorem owR_nil : owR [] = none := rfl
theorem owR_cons {g : List Run} (h : g ≠ []) : owR g = some (g, g.length) := by simp [owR, h]
theorem owR_snoc (o : List Run) (e : Run) : owR (o ++ [e]) = some (o ++ [e], (o ++ [e]).length) := owR_cons (by simp)
theorem u64_small {x : Int} (h : 0 ≤ x) (h' : x < 18446744073709551616) : IntKind.u64.wrap x = x := by
  simp [IntKind.wrap, IntKind.bits, IntKind.signed]; omega
end Go.Proofs.Xg
set_option linter.unusedVariables false
set_option linter.unusedSimpArgs false
set_option maxRecDepth 100000
namespace Go.Proofs.Xg
open Go Go.Xl Go.Ab Go.Proofs Go.Sort
theorem sortRun_nil : F_SortFunc_Run [] = [] := by
  have := (sortRun_spec []).1.length_eq
  exact List.length_eq_zero_iff.1 (by simpa using this)
theorem may_split (e : Run) {R : Type} (a b : R) : (bif decide (0 < e.1) then (bif decide (e.1 ≤ e.2) then (bif decide (e.2 ≤ 281474976710655) then a else b) else b) else b) = bif mayR e then a else b := by
  have : decide (0 < e.1) = decide (1 ≤ e.1) := by rw [decide_eq_decide]; omega
  rw [this, mayR]
  cases decide (1 ≤ e.1) <;> cases decide (e.1 ≤ e.2) <;> cases decide (e.2 ≤ 281474976710655) <;> rfl
theorem filter_take_succ (l : List Run) {k : Nat} (hk : k < l.length) : (l.take (k + 1)).filter mayR = bif mayR l[k] then (l.take k).filter mayR ++ [l[k]] else (l.take k).filter mayR := by
  rw [List.take_add_one, getl hk, List.filter_append]
  cases h : mayR l[k] <;> simp [h]
theorem fold_take_succ (s : List Run) {k : Nat} (hk : k < s.length) : (s.take (k + 1)).foldl mstep [] = mstep ((s.take k).foldl mstep []) s[k] := by
  rw [List.take_add_one, getl hk, List.foldl_append]; rfl
theorem ble_self (n : Nat) : Nat.ble n n = true := Nat.ble_eq_true_of_le (Nat.le_refl n)
theorem beq_self' (n : Nat) : Nat.beq n n = true := Nat.beq_refl n
theorem norm_eq (N : Nat) (l : List Run) (hl : l.length ≤ 1000000000000) (hN : 1000000000000 < N) : F_runs_Norm N l = some (normR l) := by
  unfold F_runs_Norm
  refine iter_eq (G := fun _ => some (normR l)) (fun n z => ∃ k : Nat, z = (((k : Int), ()), (), (owR ((l.take k).filter mayR), ()), ()) ∧ k ≤ l.length ∧ n = l.length - k) ?_ N l.length _ ⟨0, rfl, by omega, by omega⟩ (by omega)
  rintro n z rec ⟨k, rfl, hk, rfl⟩ ih
  have hfl : ((l.take k).filter mayR).length ≤ k := by
    have := List.length_filter_le mayR (l.take k)
    rw [List.length_take] at this; omega
  have next : k < l.length → rec ((((k + 1 : Nat) : Int), ()), (), (owR ((l.take (k + 1)).filter mayR), ()), ()) = some (normR l) := fun h => ih (l.length - (k + 1)) _ (by omega) ⟨k + 1, rfl, by omega, rfl⟩
  by_cases hkl : k < l.length
  · have hn := next hkl
    rw [filter_take_succ l hkl] at hn
    simp only [dec_lt, decide_eq_true hkl, cond_true, at?_nat, getl hkl, Option.bind_some, i64_succ (show k + 1 < 9223372036854775808 by omega), may_split]
    generalize (l.take k).filter mayR = g at *
    by_cases hg : g = []
    · subst hg
      simp only [owR_nil, optCase]
      cases hm : mayR l[k] with
      | true => rw [hm] at hn; simpa [owR] using hn
      | false => rw [hm] at hn; simpa [owR] using hn
    · simp only [owR_cons hg, optCase]
      have hf : fitsB (g.length + [l[k]].length) 16 = true := fit (by simp; omega) (by simp; omega)
      simp only [beq_self', hf, cond_true]
      cases hm : mayR l[k] with
      | true =>
        rw [hm] at hn
        simp only [cond_true, owR_snoc] at hn ⊢
        simpa using hn
      | false =>
        rw [hm] at hn
        simp only [cond_false, owR_cons hg] at hn ⊢
        exact hn
  · have : k = l.length := by omega
    subst this
    rw [List.take_length] at *
    simp only [dec_lt, decide_eq_false hkl, cond_false]
    have hgd : l.filter mayR = l.filter mayR := rfl
    unfold normR
    obtain ⟨p1, p2⟩ := sortRun_spec (l.filter mayR)
    have hmay : ∀ x ∈ l.filter mayR, mayR x = true := fun x hx => (List.mem_filter.1 hx).2
    generalize l.filter mayR = g at *
    by_cases hg : g = []
    · subst hg
      simp only [owR_nil, optCase, sortRun_nil, List.foldl_nil]
      cases N with
      | zero => omega
      | succ M => rfl
    · simp only [owR_cons hg, optCase, ble_self, cond_true, List.take_length, List.drop_length, List.append_nil]
      have hb : Nat.ble g.length 4611686018427387903 = true := Nat.ble_eq_true_of_le (by omega)
      rw [hb, cond_true]
      have hsl : (F_SortFunc_Run g).length = g.length := p1.length_eq
      rw [← hsl]
      have hmay' : ∀ x ∈ F_SortFunc_Run g, mayR x = true := fun x hx => hmay x (p1.mem_iff.1 hx)
      have hsb : g.length ≤ 1000000000000 := Nat.le_trans hfl hl
      clear hgd p1 hmay next ih
      generalize F_SortFunc_Run g = s at *
      refine iter_eq (G := fun _ => some (s.foldl mstep [])) (fun n z => ∃ k : Nat, z = (((k : Int), ()), (), (owR ((s.take k).foldl mstep []), some (s, s.length), ()), ()) ∧ k ≤ s.length ∧ n = s.length - k) ?_ N s.length _ ⟨0, rfl, by omega, by omega⟩ (by omega)
      rintro n z rec ⟨k, rfl, hk, rfl⟩ ih
      have hch : Chain' ((s.take k).foldl mstep []) := (fold_facts (s.take k) [] ⟨by simp, by simp⟩ (fun x hx => hmay' x (List.mem_of_mem_take hx)) (p2.sublist (List.take_sublist _ _)) (by simp)).1
      have hln : ((s.take k).foldl mstep []).length ≤ k := by
        have := fold_length (s.take k) []
        rw [List.length_take] at this
        simp at this; omega
      by_cases hks : k < s.length
      · have hn := ih (s.length - (k + 1)) _ (by omega) ⟨k + 1, rfl, by omega, rfl⟩
        rw [fold_take_succ s hks] at hn
        have c1 : (decide (0 ≤ (k : Int)) && decide ((k : Int) < (s.length : Int))) = true := by simp; omega
        generalize hout : (s.take k).foldl mstep [] = out at *
        rcases snoc_cases out with rfl | ⟨o, e1, rfl⟩
        · simp only [owR_nil, optCase, dec_lt, decide_eq_true hks, cond_true, c1, Nat.zero_add, toNat_nat, getl hks, Option.bind_some, i64_succ (show k + 1 < 9223372036854775808 by omega)]
          rw [mstep_nil] at hn
          simpa [owR] using hn
        · have he1 := hch.may e1 (by simp)
          rw [may_iff] at he1
          have hlen : (o ++ [e1]).length = o.length + 1 := by simp
          have w1 : IntKind.i64.wrap (((o ++ [e1]).length : Int) - 1) = (o.length : Int) := by
            rw [i64_pred (by simp) (by omega), hlen]; simp
          have c2 : decide (0 ≤ (o.length : Int)) = true := by simp
          have c3 : decide ((o.length : Int) < ((o ++ [e1]).length : Int)) = true := by simp; omega
          have g1 : (o ++ [e1])[o.length]? = some e1 := by simp
          have w2 : IntKind.u64.wrap (e1.2 + 1) = e1.2 + 1 := u64_small (by omega) (by omega)
          have hf : fitsB ((o ++ [e1]).length + [s[k]].length) 16 = true := fit (by simp at hln ⊢; omega) (by simp at hln ⊢; omega)
          simp only [owR_snoc, optCase, dec_lt, decide_eq_true hks, cond_true, c1, Nat.zero_add, toNat_nat, getl hks, Option.bind_some, i64_succ (show k + 1 < 9223372036854775808 by omega), w1, c2, c3, Bool.and_self, g1, w2, cond_false, beq_self', hf]
          rw [mstep_snoc] at hn
          by_cases hm : s[k].1 ≤ e1.2 + 1
          · rw [if_pos hm, owR_snoc] at hn
            rw [decide_eq_true hm, cond_true, ← hn]
            simp [cond_eq_ite]
          · rw [if_neg hm, owR_snoc] at hn
            rw [decide_eq_false hm, cond_false, ← hn]
            simp
      · have : k = s.length := by omega
        subst this
        rw [List.take_length] at *
        generalize s.foldl mstep [] = out at *
        rcases snoc_cases out with rfl | ⟨o, e1, rfl⟩
        · simp only [owR_nil, optCase, dec_lt, decide_eq_false hks, cond_false]
        · simp only [owR_snoc, optCase, dec_lt, decide_eq_false hks, cond_false, Nat.zero_add, ble_self, cond_true, List.drop_zero, List.take_length]
end Go.Proofs.Xg
set_option linter.unusedVariables false
set_option linter.unusedSimpArgs false
set_option maxRecDepth 100000
namespace Go.Proofs.Xg
open Go Go.Xl Go.Ab Go.Proofs Go.Sort
theorem has1_eq (N : Nat) (x : Run) (n : Int) : F_runs_Has_1 N x n = some (if x.2 < n then -1 else if n < x.2 then 1 else 0) := by
  simp only [F_runs_Has_1, F_cmp_Compare_uint64, F_cmp_isNaN_uint64, cond_eq_ite, Option.bind_some]
  grind
theorem half {i j : Nat} (h : i < j) (hj : j ≤ 1000000000000) : IntKind.i64.wrap ((IntKind.u64.wrap (IntKind.i64.wrap ((i : Int) + (j : Int)))).fdiv 2) = (((i + j) / 2 : Nat) : Int) := by
  have e : (i : Int) + (j : Int) = ((i + j : Nat) : Int) := by omega
  rw [e, i64_nat (by omega), u64_small (by omega) (by omega)]
  have : ((i + j : Nat) : Int).fdiv 2 = (((i + j) / 2 : Nat) : Int) := by
    rw [Int.fdiv_eq_ediv_of_nonneg _ (by omega)]; omega
  rw [this, i64_nat (by omega)]
theorem bsearch_eq (N : Nat) (y : List Run) (n : Int) (hy : Chain' y) (hl : y.length ≤ 1000000000000) (hN : 1000000000000 < N) :
    ∃ (i : Nat) (b : Bool), F_slices_BinarySearchFunc_sRun_Run_uint64 N y n = some (((i : Int), b, ()), (), (), ()) ∧ i ≤ y.length ∧ (∀ k r, k < i → y[k]? = some r → r.2 < n) ∧ (∀ k r, i ≤ k → y[k]? = some r → ¬ r.2 < n) := by
  have mono : ∀ (k k' : Nat) (r r' : Run), k < k' → y[k]? = some r → y[k']? = some r' → r.2 < r'.2 := by
    intro k k' r r' hk h1 h2
    obtain ⟨l1, rfl⟩ := List.getElem?_eq_some_iff.1 h1
    obtain ⟨l2, rfl⟩ := List.getElem?_eq_some_iff.1 h2
    have := List.pairwise_iff_getElem.1 hy.apart k k' l1 l2 hk
    have h3 := may_iff.1 (hy.may y[k'] (List.getElem_mem l2))
    omega
  suffices H : ∃ r, F_slices_BinarySearchFunc_sRun_Run_uint64 N y n = some r ∧ ∃ (i : Nat) (b : Bool), r = (((i : Int), b, ()), (), (), ()) ∧ i ≤ y.length ∧ (∀ (k : Nat) (r : Run), k < i → y[k]? = some r → r.2 < n) ∧ (∀ (k : Nat) (r : Run), i ≤ k → y[k]? = some r → ¬ r.2 < n) by
    obtain ⟨r, h1, i, b, rfl, h2⟩ := H
    exact ⟨i, b, h1, h2⟩
  unfold F_slices_BinarySearchFunc_sRun_Run_uint64
  refine iter_ok (Q := fun r : (Int × Bool × Unit) × Unit × Unit × Unit => ∃ (i : Nat) (b : Bool), r = (((i : Int), b, ()), (), (), ()) ∧ i ≤ y.length ∧ (∀ (k : Nat) (r : Run), k < i → y[k]? = some r → r.2 < n) ∧ (∀ (k : Nat) (r : Run), i ≤ k → y[k]? = some r → ¬ r.2 < n))
    (fun m z => ∃ i j : Nat, z = (((i : Int), (j : Int), ()), (), (), ()) ∧ i ≤ j ∧ j ≤ y.length ∧ m = j - i ∧ (∀ (k : Nat) (r : Run), k < i → y[k]? = some r → r.2 < n) ∧ (∀ (k : Nat) (r : Run), j ≤ k → y[k]? = some r → ¬ r.2 < n)) ?_ N y.length _ ⟨0, y.length, rfl, by omega, by omega, by omega, by simp, fun k r hk h => by rw [List.getElem?_eq_none hk] at h; cases h⟩ (by omega)
  · rintro m z rec ⟨i, j, rfl, hij, hj, rfl, ha, hb⟩ ih
    by_cases hlt : i < j
    · have hh : (i + j) / 2 < y.length := by omega
      simp only [dec_lt, decide_eq_true hlt, cond_true, half hlt (by omega), at?_nat, getl hh, Option.bind_some, has1_eq]
      by_cases hc : y[(i + j) / 2].2 < n
      · rw [if_pos hc]
        simp only [show decide ((-1 : Int) < 0) = true from rfl, cond_true, i64_succ (show (i + j) / 2 + 1 < 9223372036854775808 by omega)]
        refine ih (j - ((i + j) / 2 + 1)) _ (by omega) ⟨(i + j) / 2 + 1, j, rfl, by omega, hj, rfl, ?_, hb⟩
        intro k r hk hr
        by_cases hk2 : k < (i + j) / 2
        · have := mono k _ r _ hk2 hr (getl hh); omega
        · have : k = (i + j) / 2 := by omega
          subst this
          rw [getl hh] at hr; cases hr; exact hc
      · rw [if_neg hc]
        have : decide ((if n < y[(i + j) / 2].2 then (1 : Int) else 0) < 0) = false := by split <;> rfl
        simp only [this, cond_false]
        refine ih ((i + j) / 2 - i) _ (by omega) ⟨i, (i + j) / 2, rfl, by omega, by omega, rfl, ha, ?_⟩
        intro k r hk hr
        by_cases hk2 : (i + j) / 2 < k
        · have := mono _ k _ r hk2 (getl hh) hr; omega
        · have : k = (i + j) / 2 := by omega
          subst this
          rw [getl hh] at hr; cases hr; exact hc
    · have : j = i := by omega
      subst this
      simp only [dec_lt, decide_eq_false hlt, cond_false]
      by_cases hil : j < y.length
      · simp only [decide_eq_true hil, cond_true, at?_nat, getl hil, Option.bind_some, has1_eq]
        exact ⟨_, rfl, j, _, rfl, by omega, ha, hb⟩
      · simp only [decide_eq_false hil, cond_false]
        exact ⟨_, rfl, j, _, rfl, by omega, ha, hb⟩
theorem rHas_eq (N : Nat) (l : List Run) (n : Int) (hl : l.length ≤ 1000000000000) (hN : 1000000000000 < N) : F_runs_Has N l n = some (cov l n) := by
  unfold F_runs_Has
  rw [norm_eq N l hl hN, Option.bind_some]
  obtain ⟨hc, hcov⟩ := normR_facts l
  have hlen := normR_length l
  rw [← hcov n]
  generalize normR l = y at *
  obtain ⟨i, b, h1, h2, h3, h4⟩ := bsearch_eq N y n hc (by omega) hN
  rw [h1]
  simp only [Option.bind_some, dec_lt]
  have key : cov y n = true ↔ ∃ h : i < y.length, y[i].1 ≤ n := by
    rw [cov_iff]
    constructor
    · rintro ⟨r, hr, hm, ha, hb⟩
      obtain ⟨k, hk⟩ := List.mem_iff_getElem?.1 hr
      have hki : i ≤ k := by
        rcases Nat.lt_or_ge k i with h | h
        · have := h3 k r h hk; omega
        · exact h
      obtain ⟨hkl, rfl⟩ := List.getElem?_eq_some_iff.1 hk
      refine ⟨by omega, ?_⟩
      rcases Nat.lt_or_ge i k with h | h
      · have hil : i < y.length := by omega
        have := List.pairwise_iff_getElem.1 hc.apart i k hil hkl h
        have h5 := h4 i y[i] (Nat.le_refl _) (getl hil)
        omega
      · have : k = i := by omega
        subst this; exact ha
    · rintro ⟨h, ha⟩
      refine ⟨y[i], List.getElem_mem h, hc.may _ (List.getElem_mem h), ha, ?_⟩
      have := h4 i y[i] (Nat.le_refl _) (getl h); omega
  by_cases hil : i < y.length
  · simp only [decide_eq_true hil, cond_true, at?_nat, getl hil, Option.bind_some, Option.some.injEq]
    rw [Bool.eq_iff_iff, key]
    simp [hil]
  · simp only [decide_eq_false hil, cond_false, Option.some.injEq]
    cases h : cov y n with
    | false => rfl
    | true => obtain ⟨h', _⟩ := key.1 h; exact absurd h' hil
section
variable {kt vt : Ty}
theorem tget_put_off (hk : kt.key = true) (a a' : kt.T) (v : List vt.T) (f : Bool) (c : Nat) [DecidableEq kt.T] : ∀ es : EntT kt vt, tget a' (tput a v f c (toff a es)) = if a' = a then some (tborn a es c, f, v) else tget a' es
  | [] => by
    by_cases h : a' = a
    · subst h; simp [toff, tput, tget, tborn, (Ty.eqv_iff kt a' a' hk).2 rfl]
    · have : kt.eqv a' a = false := by rw [Bool.eq_false_iff]; exact fun hh => h ((Ty.eqv_iff kt a' a hk).1 hh)
      simp [toff, tput, tget, this, h]
  | e :: r => by
    cases he : kt.eqv a e.2.1 with
    | true =>
      have e1 := (Ty.eqv_iff kt _ _ hk).1 he
      simp only [toff, he, cond_true, tput, tget]
      by_cases h : a' = a
      · subst h; simp [tborn, tget, he, (Ty.eqv_iff kt a' a' hk).2 rfl]
      · have : kt.eqv a' a = false := by rw [Bool.eq_false_iff]; exact fun hh => h ((Ty.eqv_iff kt a' a hk).1 hh)
        rw [← e1]
        simp [this, h]
    | false =>
      have ih := tget_put_off hk a a' v f c r
      simp only [toff, he, cond_false, tput, tget]
      rw [ih]
      by_cases h : a' = a
      · subst h; simp [he, tborn, tget]
      · simp [h]
theorem mget_fg (a : kt.T) : ∀ es : EntT kt vt, mget a (fgT es) = (tget a es).map (·.2.2)
  | [] => rfl
  | e :: r => by
    have ih := mget_fg a r
    simp only [fgT, List.map_cons, mget, tget] at ih ⊢
    cases kt.eqv a e.2.1 with
    | true => rfl
    | false => exact ih
end
abbrev Part : Type := Int × List Run
def tl (c : List Part) (dev : Int) : List Run := (c.filter fun p => p.1 == dev).flatMap (·.2)
structure FewC (c : List Part) : Prop where
  len : c.length ≤ 30
  runs : ∀ p ∈ c, p.2.length ≤ 30
theorem tl_length {c : List Part} (h : ∀ p ∈ c, p.2.length ≤ 30) (dev : Int) : (tl c dev).length ≤ 30 * c.length := by
  induction c with
  | nil => simp [tl]
  | cons p c ih =>
    have i1 := ih fun q hq => h q (by simp [hq])
    have i2 := h p (by simp)
    simp only [tl, List.filter_cons, List.length_cons] at i1 ⊢
    cases (p.1 == dev) <;> simp [List.flatMap_cons] at i1 ⊢ <;> omega
theorem tl_take_succ (c : List Part) {k : Nat} (hk : k < c.length) (dev : Int) : tl (c.take (k + 1)) dev = if c[k].1 = dev then tl (c.take k) dev ++ c[k].2 else tl (c.take k) dev := by
  unfold tl
  rw [List.take_add_one, getl hk, List.filter_append, List.flatMap_append]
  by_cases h : c[k].1 = dev <;> simp [h]
theorem told_eq (N : Nat) (c : List Part) (hc : FewC c) (hN : 100 < N) : ∃ (es : Ents (.int .u16) (.sl tRun)) (clk : Nat), F_ctx_told N c = some (((), ()), (), (), (es, clk), ()) ∧ ∀ dev : Int, 0 < dev → (mget (kt := .int .u16) (vt := .sl tRun) dev es).getD [] = tl c dev := by
  suffices H : ∃ r, F_ctx_told N c = some r ∧ ∃ (es : Ents (.int .u16) (.sl tRun)) (clk : Nat), r = (((), ()), (), (), (es, clk), ()) ∧ ∀ dev : Int, 0 < dev → (mget (kt := .int .u16) (vt := .sl tRun) dev es).getD [] = tl c dev by
    obtain ⟨r, h1, es, clk, rfl, h2⟩ := H
    exact ⟨es, clk, h1, h2⟩
  unfold F_ctx_told
  refine iter_ok (Q := fun r : (Unit × Unit) × Unit × Unit × (List (Nat × Int × List (Int × Int)) × Nat) × Unit => ∃ (es : Ents (.int .u16) (.sl tRun)) (clk : Nat), r = (((), ()), (), (), (es, clk), ()) ∧ ∀ dev : Int, 0 < dev → (mget (kt := .int .u16) (vt := .sl tRun) dev es).getD [] = tl c dev)
    (fun m z => ∃ (k : Nat) (es : EntT (.int .u16) tRun) (clk : Nat), z = (((k : Int), ()), (), (), (es, clk), ()) ∧ k ≤ c.length ∧ m = c.length - k ∧ (∀ dev : Int, tflag (kt := .int .u16) dev es = true) ∧ ∀ dev : Int, 0 < dev → tval (kt := .int .u16) dev es = tl (c.take k) dev) ?_ N c.length _ ⟨0, [], 0, rfl, by omega, by omega, fun _ => rfl, fun _ _ => rfl⟩ (by have := hc.len; omega)
  · rintro m z rec ⟨k, es, clk, rfl, hk, rfl, hf, hv⟩ ih
    have hlen := hc.len
    by_cases hkl : k < c.length
    · simp only [dec_lt, decide_eq_true hkl, cond_true, at?_nat, getl hkl, Option.bind_some, i64_succ (show k + 1 < 9223372036854775808 by omega)]
      by_cases h0 : 0 < c[k].1
      · have hb1 := tl_length (c := c.take k) (fun p hp => hc.runs p (List.mem_of_mem_take hp)) c[k].1
        have hb2 := hc.runs c[k] (List.getElem_mem hkl)
        rw [List.length_take] at hb1
        rw [decide_eq_true h0, cond_true]
        have e1 : tflagX (.int .u16) tRun c[k].1 es = true := hf c[k].1
        have e2 : tvalX (.int .u16) tRun c[k].1 es = tl (c.take k) c[k].1 := hv c[k].1 h0
        rw [e1, cond_true, e2]
        have hfit : fitsB ((tl (c.take k) c[k].1).length + c[k].2.length) 16 = true := fit (by omega) (by omega)
        rw [hfit, cond_true]
        refine ih (c.length - (k + 1)) _ (by omega) ⟨k + 1, _, _, rfl, by omega, rfl, ?_, ?_⟩
        · intro dev
          show tflag dev (tput c[k].1 _ true clk (toff c[k].1 es)) = true
          unfold tflag
          rw [tget_put_off rfl]
          by_cases he : dev = c[k].1
          · rw [if_pos he]
          · rw [if_neg he]; exact hf dev
        · intro dev hd
          show tval dev (tput c[k].1 _ true clk (toff c[k].1 es)) = _
          unfold tval
          rw [tget_put_off rfl, tl_take_succ c hkl]
          by_cases he : c[k].1 = dev
          · subst he; simp
          · rw [if_neg (Ne.symm he), if_neg he]; exact hv dev hd
      · rw [decide_eq_false h0, cond_false]
        refine ih (c.length - (k + 1)) _ (by omega) ⟨k + 1, es, clk, rfl, by omega, rfl, hf, ?_⟩
        intro dev hd
        rw [tl_take_succ c hkl, if_neg (by omega)]
        exact hv dev hd
    · have : k = c.length := by omega
      subst this
      simp only [dec_lt, decide_eq_false hkl, cond_false]
      refine ⟨_, rfl, fgT es, clk, rfl, fun dev hd => ?_⟩
      have := hv dev hd
      rw [List.take_length] at this
      rw [mget_fg, ← this]
      unfold tval
      cases tget (kt := .int .u16) (vt := tRun) dev es <;> rfl
theorem ctxHas_eq (N : Nat) (c : List Part) (d : Int × Int) (hc : FewC c) (hN : 1000000000000 < N) : F_ctx_Has N c d = some (decide (0 < d.1) && cov (tl c d.1) d.2) := by
  unfold F_ctx_Has
  by_cases h0 : 0 < d.1
  · have hlen := tl_length hc.runs d.1
    have := hc.len
    obtain ⟨es, clk, h1, h2⟩ := told_eq N c hc (by omega)
    rw [decide_eq_true h0, cond_true]
    unfold F_ctx_Runs
    rw [h1]
    simp only [Option.bind_some]
    have e := h2 d.1 h0
    have e' : (mgetX (.int .u16) tRun.sl d.1 es).getD [] = tl c d.1 := e
    rw [e', norm_eq N _ (by omega) hN]
    simp only [Option.bind_some]
    have hn := normR_length (tl c d.1)
    rw [rHas_eq N _ _ (by omega) hN, (normR_facts _).2]
    rfl
  · rw [decide_eq_false h0]; rfl
theorem refFew_eq (N : Nat) (c : List Part) (hN : 100 < N) : ∃ b, F_epitaphref09_Few N c = some b ∧ (b = true → FewC c) := by
  unfold F_epitaphref09_Few
  by_cases hl : 30 < c.length
  · have : decide ((30 : Int) < (c.length : Int)) = true := by simp; omega
    rw [this]
    exact ⟨false, rfl, by simp⟩
  · have : decide ((30 : Int) < (c.length : Int)) = false := by simp; omega
    rw [this, cond_false]
    refine iter_ok (Q := fun b => b = true → FewC c) (fun n z => ∃ k : Nat, z = (((k : Int), ()), (), (), ()) ∧ k ≤ c.length ∧ n = c.length - k ∧ ∀ e ∈ c.take k, e.2.length ≤ 30) ?_ N c.length _ ⟨0, rfl, Nat.zero_le _, rfl, by simp⟩ (by omega)
    rintro n z rec ⟨k, rfl, hk, rfl, hall⟩ ih
    simp only [dec_lt]
    by_cases hkl : k < c.length
    · simp only [decide_eq_true hkl, cond_true, at?_nat, getl hkl, Option.bind_some]
      by_cases h1 : (30 : Int) < (c[k].2.length : Int)
      · rw [decide_eq_true h1]; exact ⟨false, rfl, by simp⟩
      · rw [decide_eq_false h1, cond_false, i64_succ (by omega)]
        refine ih (c.length - (k + 1)) _ (by omega) ⟨k + 1, rfl, by omega, rfl, ?_⟩
        intro e he
        rw [List.take_add_one, getl hkl] at he
        rcases List.mem_append.1 he with he | he
        · exact hall e he
        · simp at he; subst he
          omega
    · simp only [decide_eq_false hkl, cond_false]
      refine ⟨true, rfl, fun _ => ⟨by omega, ?_⟩⟩
      rwa [List.take_of_length_le (by omega)] at hall
end Go.Proofs.Xg
set_option linter.unusedVariables false
set_option linter.unusedSimpArgs false
set_option maxRecDepth 100000
namespace Go.Proofs.Xg
open Go Go.Xl Go.Ab Go.Proofs Go.Sort
def putI (n : Int) : List Int → List Int
  | [] => [n]
  | x :: r => if n ≤ x then n :: (x :: r).filter (· != n) else x :: putI n r
theorem putI_mem {n y : Int} : ∀ {l : List Int}, y ∈ putI n l ↔ y = n ∨ y ∈ l
  | [] => by simp [putI]
  | x :: r => by
    simp only [putI]
    split
    · by_cases h : y = n <;> simp [h]
    · rw [List.mem_cons, putI_mem, List.mem_cons]
      constructor
      · rintro (h | h | h) <;> simp [h]
      · rintro (h | h | h) <;> simp [h]
theorem putI_len (n : Int) : ∀ l : List Int, (putI n l).length ≤ l.length + 1
  | [] => by simp [putI]
  | x :: r => by
    simp only [putI]
    split
    · have := List.length_filter_le (· != n) (x :: r)
      simp only [List.length_cons] at this ⊢; omega
    · have := putI_len n r
      simp only [List.length_cons]; omega
theorem putI_asc (n : Int) : ∀ {l : List Int}, l.Pairwise (· < ·) → (putI n l).Pairwise (· < ·)
  | [], _ => by simp [putI]
  | x :: r, h => by
    simp only [putI]
    split
    · rename_i hn
      rw [List.pairwise_cons]
      refine ⟨?_, h.filter _⟩
      intro y hy
      obtain ⟨h1, h2⟩ := List.mem_filter.1 hy
      have h2 : y ≠ n := by simpa using h2
      rcases List.mem_cons.1 h1 with e | e
      · omega
      · have := (List.pairwise_cons.1 h).1 y e; omega
    · rename_i hn
      rw [List.pairwise_cons] at h ⊢
      refine ⟨?_, putI_asc n h.2⟩
      intro y hy
      rcases putI_mem.1 hy with e | e
      · omega
      · exact h.1 y e
theorem refPutI_eq (N : Nat) (l : List Int) (n : Int) (hl : l.length ≤ 1000000000000) (hN : 1000000000000 < N) : F_epitaphref06_put N l n = some (putI n l) := by
  unfold F_epitaphref06_put
  refine (iter_eq (G := fun z => some (bif z.1.2.1 then z.1.1 ++ (l.drop z.1.2.2.1.toNat).filter (· != n) else z.1.1 ++ putI n (l.drop z.1.2.2.1.toNat))) (fun m z => ∃ (out : List Int) (done : Bool) (k : Nat), z = ((out, done, (k : Int), ()), (), (), ()) ∧ k ≤ l.length ∧ m = l.length - k ∧ out.length ≤ k + 1 + 1 ∧ (done = false → out.length ≤ k)) ?_ N l.length _ ⟨[], false, 0, rfl, by omega, by omega, by simp, by simp⟩ (by omega)).trans ?_
  · rintro m z rec ⟨out, done, k, rfl, hk, rfl, ho, hd⟩ ih
    by_cases hkl : k < l.length
    · have hf : ∀ (o : List Int) (x : Int), o.length ≤ k + 3 → fitsB (o.length + [x].length) 8 = true := fun o x h => fit (by simp; omega) (by simp; omega)
      have e : l.drop k = l[k] :: l.drop (k + 1) := List.drop_eq_getElem_cons hkl
      have next : ∀ (o : List Int) (d : Bool), o.length ≤ k + 1 + 1 + 1 → (d = false → o.length ≤ k + 1) → rec ((o, d, ((k + 1 : Nat) : Int), ()), (), (), ()) = some (bif d then o ++ (l.drop (k + 1)).filter (· != n) else o ++ putI n (l.drop (k + 1))) := by
        intro o d h1 h2
        exact ih (l.length - (k + 1)) _ (by omega) ⟨o, d, k + 1, rfl, by omega, rfl, h1, h2⟩
      simp only [dec_lt, decide_eq_true hkl, cond_true, at?_nat, getl hkl, Option.bind_some, i64_succ (show k + 1 < 9223372036854775808 by omega), joinAt, toNat_nat, e]
      cases done with
      | true =>
        simp only [Bool.not_true, cond_false, cond_true]
        by_cases hn : l[k] = n
        · have : (l[k] != n) = false := by simp [hn]
          simp only [this, cond_false]
          rw [next out true (by omega) (by simp)]
          simp [-List.getElem_cons_drop, hn]
        · have : (l[k] != n) = true := by simp [hn]
          simp only [this, cond_true]
          rw [hf out l[k] (by omega), cond_true, next (out ++ [l[k]]) true (by simp; omega) (by simp)]
          simp [-List.getElem_cons_drop, hn]
      | false =>
        have ho' := hd rfl
        simp only [Bool.not_false, cond_false, cond_true]
        by_cases hle : n ≤ l[k]
        · rw [decide_eq_true hle, cond_true, hf out n (by omega), cond_true]
          simp only [putI, if_pos hle]
          by_cases hn : l[k] = n
          · have : (l[k] != n) = false := by simp [hn]
            simp only [this, cond_false]
            rw [next (out ++ [n]) true (by simp; omega) (by simp)]
            simp [-List.getElem_cons_drop, hn]
          · have : (l[k] != n) = true := by simp [hn]
            simp only [this, cond_true]
            rw [hf (out ++ [n]) l[k] (by simp; omega), cond_true, next (out ++ [n] ++ [l[k]]) true (by simp; omega) (by simp)]
            simp [-List.getElem_cons_drop, hn]
        · have : (l[k] != n) = true := by simp; omega
          rw [decide_eq_false hle, cond_false]
          simp only [this, cond_true, putI, if_neg hle]
          rw [hf out l[k] (by omega), cond_true, next (out ++ [l[k]]) false (by simp; omega) (by simp; omega)]
          simp [-List.getElem_cons_drop]
    · have : k = l.length := by omega
      subst this
      have hf : done = false → fitsB (out.length + [n].length) 8 = true := fun h => fit (by have := hd h; simp; omega) (by have := hd h; simp; omega)
      simp only [dec_lt, decide_eq_false hkl, cond_false, toNat_nat, List.drop_length, List.filter_nil, List.append_nil, putI]
      cases done with
      | true => rfl
      | false =>
        have := hf rfl
        simp only [List.length_singleton] at this
        simp [this]
  · simp
def pts (l : List Run) : List Int := l.foldl (fun q r => bif mayR r then putI (r.2 + 1) (putI r.1 q) else q) []
theorem ptsGo_facts : ∀ (l : List Run) (q : List Int), q.Pairwise (· < ·) →
    (l.foldl (fun q r => bif mayR r then putI (r.2 + 1) (putI r.1 q) else q) q).Pairwise (· < ·) ∧
    (∀ p, p ∈ l.foldl (fun q r => bif mayR r then putI (r.2 + 1) (putI r.1 q) else q) q ↔ p ∈ q ∨ ∃ r ∈ l, mayR r = true ∧ (p = r.1 ∨ p = r.2 + 1)) ∧
    (l.foldl (fun q r => bif mayR r then putI (r.2 + 1) (putI r.1 q) else q) q).length ≤ q.length + 2 * l.length
  | [], q, h => ⟨h, by simp, by simp⟩
  | r :: l, q, h => by
    simp only [List.foldl_cons]
    cases hm : mayR r with
    | false =>
      obtain ⟨i1, i2, i3⟩ := ptsGo_facts l q h
      simp only [cond_false]
      refine ⟨i1, fun p => ?_, by simp only [List.length_cons]; omega⟩
      rw [i2 p]
      simp [hm]
    | true =>
      obtain ⟨i1, i2, i3⟩ := ptsGo_facts l (putI (r.2 + 1) (putI r.1 q)) (putI_asc _ (putI_asc _ h))
      have h1 := putI_len (r.2 + 1) (putI r.1 q)
      have h2 := putI_len r.1 q
      simp only [cond_true]
      refine ⟨i1, fun p => ?_, by simp only [List.length_cons]; omega⟩
      rw [i2 p, putI_mem, putI_mem]
      simp only [List.mem_cons, exists_eq_or_imp, hm, true_and]
      grind
theorem pts_facts (l : List Run) : (pts l).Pairwise (· < ·) ∧ (∀ p, p ∈ pts l ↔ ∃ r ∈ l, mayR r = true ∧ (p = r.1 ∨ p = r.2 + 1)) ∧ (pts l).length ≤ 2 * l.length := by
  obtain ⟨h1, h2, h3⟩ := ptsGo_facts l [] (by simp)
  exact ⟨h1, fun p => by have := h2 p; simpa [pts] using this, by simpa [pts] using h3⟩
theorem points_eq (N : Nat) (a b : List Run) (hl : a.length + b.length ≤ 100000000000) (hN : 1000000000000 < N) : F_epitaphref06_points N a b = some (pts (a ++ b)) := by
  unfold F_epitaphref06_points
  have f1 : fitsB (0 + a.length) 16 = true := fit (by omega) (by omega)
  have f2 : fitsB (a.length + b.length) 16 = true := fit (by omega) (by omega)
  simp only [List.nil_append, f1, f2, cond_true]
  refine (fold_loop (a ++ b) (fun q r => bif mayR r then putI (r.2 + 1) (putI r.1 q) else q) [] (fun q => some q) ?_ ?_ N (by simp; omega))
  · intro rec k q hk hq
    have hlq : q.length ≤ 2 * k := by
      have := (ptsGo_facts ((a ++ b).take k) [] (by simp)).2.2
      rw [← hq] at this
      simp only [List.length_nil, List.length_take] at this
      omega
    have hlen : (a ++ b).length = a.length + b.length := by simp
    simp only [dec_lt, decide_eq_true hk, cond_true, at?_nat, getl hk, Option.bind_some, may_eq]
    cases hm : mayR (a ++ b)[k] with
    | false => simp only [cond_false, i64_succ (show k + 1 < 9223372036854775808 by omega)]
    | true =>
      have hmm := may_iff.1 hm
      have h2 := putI_len (a ++ b)[k].1 q
      simp only [cond_true]
      rw [refPutI_eq N q _ (by omega) hN, Option.bind_some, u64_small (by omega) (by omega), refPutI_eq N _ _ (by omega) hN, Option.bind_some, i64_succ (show k + 1 < 9223372036854775808 by omega)]
  · intro rec
    simp only [dec_lt, decide_eq_false (Nat.lt_irrefl _), cond_false]
theorem seg {l : List Run} {k : Nat} {lo hi n : Int} (h0 : (pts l)[k]? = some lo) (h1 : (pts l)[k + 1]? = some hi) (ha : lo ≤ n) (hb : n < hi) : cov l n = cov l lo := by
  obtain ⟨p1, p2, _⟩ := pts_facts l
  have gap : ∀ p ∈ pts l, p ≤ lo ∨ hi ≤ p := by
    intro p hp
    obtain ⟨j, hj⟩ := List.mem_iff_getElem?.1 hp
    obtain ⟨l0, rfl⟩ := List.getElem?_eq_some_iff.1 h0
    obtain ⟨l1, rfl⟩ := List.getElem?_eq_some_iff.1 h1
    obtain ⟨lj, rfl⟩ := List.getElem?_eq_some_iff.1 hj
    have hp := List.pairwise_iff_getElem.1 p1
    rcases Nat.lt_trichotomy j k with h | h | h
    · have := hp j k lj l0 h; omega
    · subst h; omega
    · by_cases h2 : j = k + 1
      · subst h2; omega
      · have := hp (k + 1) j l1 lj (by omega); omega
  rw [Bool.eq_iff_iff, cov_iff, cov_iff]
  constructor
  · rintro ⟨r, hr, hm, h2, h3⟩
    have := gap r.1 ((p2 r.1).2 ⟨r, hr, hm, .inl rfl⟩)
    exact ⟨r, hr, hm, by omega, by omega⟩
  · rintro ⟨r, hr, hm, h2, h3⟩
    have := gap (r.2 + 1) ((p2 (r.2 + 1)).2 ⟨r, hr, hm, .inr rfl⟩)
    exact ⟨r, hr, hm, by omega, by omega⟩
def sput (out : List Run) (lo hi : Int) : List Run :=
  match out.getLast? with
  | none => [(lo, hi - 1)]
  | some e => if e.2 + 1 = lo then out.set (out.length - 1) (e.1, hi - 1) else out ++ [(lo, hi - 1)]
theorem sput_snoc (o : List Run) (e : Run) (lo hi : Int) : sput (o ++ [e]) lo hi = if e.2 + 1 = lo then o ++ [(e.1, hi - 1)] else (o ++ [e]) ++ [(lo, hi - 1)] := by
  simp only [sput, List.getLast?_append, List.getLast?_singleton, Option.some_or]
  split
  · simp
  · rfl
theorem sput_facts {out : List Run} {lo hi : Int} (h : ∀ r ∈ out, mayR r = true) (h1 : 1 ≤ lo) (h2 : lo < hi) (h3 : hi ≤ 281474976710656) :
    (∀ r ∈ sput out lo hi, mayR r = true) ∧ (∀ n, cov (sput out lo hi) n = true ↔ cov out n = true ∨ (lo ≤ n ∧ n < hi)) ∧ (sput out lo hi).length ≤ out.length + 1 := by
  rcases snoc_cases out with rfl | ⟨o, e, rfl⟩
  · refine ⟨?_, ?_, by simp [sput]⟩
    · intro r hr
      simp [sput] at hr; subst hr
      rw [may_iff]; simp only; omega
    · intro n
      simp only [sput, List.getLast?_nil, cov, List.any_cons, List.any_nil, Bool.or_false, inR_iff, may_iff, Bool.false_eq_true, false_or]
      omega
  · have he := may_iff.1 (h e (by simp))
    rw [sput_snoc]
    split
    · rename_i heq
      refine ⟨?_, ?_, by simp⟩
      · intro r hr
        rcases List.mem_append.1 hr with hr | hr
        · exact h r (by simp [hr])
        · simp at hr; subst hr; rw [may_iff]; simp only; omega
      · intro n
        rw [cov_append, cov_append]
        simp only [cov, List.any_cons, List.any_nil, Bool.or_false, Bool.or_eq_true, inR_iff, may_iff]
        constructor
        · rintro (h | h)
          · exact .inl (.inl h)
          · omega
        · rintro ((h | h) | h)
          · exact .inl h
          · exact .inr (by omega)
          · exact .inr (by omega)
    · refine ⟨?_, ?_, by simp⟩
      · intro r hr
        rcases List.mem_append.1 hr with hr | hr
        · exact h r hr
        · simp at hr; subst hr; rw [may_iff]; simp only; omega
      · intro n
        rw [cov_append]
        simp only [cov, List.any_cons, List.any_nil, Bool.or_false, Bool.or_eq_true, inR_iff, may_iff]
        constructor
        · rintro (h | h)
          · exact .inl h
          · omega
        · rintro (h | h)
          · exact .inl h
          · exact .inr (by omega)
end Go.Proofs.Xg
set_option linter.unusedVariables false
set_option linter.unusedSimpArgs false
set_option maxRecDepth 100000
namespace Go.Proofs.Xg
open Go Go.Xl Go.Ab Go.Proofs Go.Sort
structure Upto (l : List Run) (k : Nat) (out : List Run) : Prop where
  may : ∀ r ∈ out, mayR r = true
  len : out.length ≤ k
  cov : ∀ n, cov out n = true ↔ cov l n = true ∧ ∃ p, (pts l)[k]? = some p ∧ n < p
theorem upto_zero (l : List Run) : Upto l 0 [] := by
  refine ⟨by simp, by simp, fun n => ?_⟩
  rw [cov_nil]
  simp only [Bool.false_eq_true, false_iff]
  rintro ⟨h1, p, hp, hn⟩
  obtain ⟨r, hr, hm, h2, h3⟩ := cov_iff.1 h1
  obtain ⟨p1, p2, _⟩ := pts_facts l
  obtain ⟨j, hj⟩ := List.mem_iff_getElem?.1 ((p2 r.1).2 ⟨r, hr, hm, .inl rfl⟩)
  obtain ⟨l0, rfl⟩ := List.getElem?_eq_some_iff.1 hp
  obtain ⟨lj, e⟩ := List.getElem?_eq_some_iff.1 hj
  rcases Nat.eq_zero_or_pos j with h | h
  · subst h; omega
  · have := List.pairwise_iff_getElem.1 p1 0 j l0 lj h; omega
theorem lohi {l : List Run} {k : Nat} {lo hi : Int} (h0 : (pts l)[k]? = some lo) (h1 : (pts l)[k + 1]? = some hi) : lo < hi ∧ 1 ≤ lo ∧ hi ≤ 281474976710656 := by
  obtain ⟨p1, p2, _⟩ := pts_facts l
  obtain ⟨r, hr, hm, h⟩ := (p2 lo).1 (List.mem_of_getElem? h0)
  obtain ⟨r', hr', hm', h'⟩ := (p2 hi).1 (List.mem_of_getElem? h1)
  obtain ⟨l0, rfl⟩ := List.getElem?_eq_some_iff.1 h0
  obtain ⟨l1, rfl⟩ := List.getElem?_eq_some_iff.1 h1
  have := List.pairwise_iff_getElem.1 p1 k (k + 1) l0 l1 (by omega)
  rw [may_iff] at hm hm'
  omega
theorem upto_in {l : List Run} {k : Nat} {lo hi : Int} {out : List Run} (h : Upto l k out) (h0 : (pts l)[k]? = some lo) (h1 : (pts l)[k + 1]? = some hi) (hc : Xg.cov l lo = true) : Upto l (k + 1) (sput out lo hi) := by
  obtain ⟨e1, e2, e3⟩ := lohi h0 h1
  obtain ⟨s1, s2, s3⟩ := sput_facts h.may e2 e1 e3
  refine ⟨s1, by have := h.len; omega, fun n => ?_⟩
  rw [s2 n, h.cov n, h0, h1]
  simp only [Option.some.injEq, exists_eq_left']
  constructor
  · rintro (⟨a1, a2⟩ | ⟨a1, a2⟩)
    · exact ⟨a1, by omega⟩
    · exact ⟨by rw [seg h0 h1 a1 a2]; exact hc, a2⟩
  · rintro ⟨a1, a2⟩
    by_cases h : n < lo
    · exact .inl ⟨a1, h⟩
    · exact .inr ⟨by omega, a2⟩
theorem upto_out {l : List Run} {k : Nat} {lo hi : Int} {out : List Run} (h : Upto l k out) (h0 : (pts l)[k]? = some lo) (h1 : (pts l)[k + 1]? = some hi) (hc : Xg.cov l lo = false) : Upto l (k + 1) out := by
  obtain ⟨e1, e2, e3⟩ := lohi h0 h1
  refine ⟨h.may, by have := h.len; omega, fun n => ?_⟩
  rw [h.cov n, h0, h1]
  simp only [Option.some.injEq, exists_eq_left']
  constructor
  · rintro ⟨a1, a2⟩; exact ⟨a1, by omega⟩
  · rintro ⟨a1, a2⟩
    by_cases h : n < lo
    · exact ⟨a1, h⟩
    · rw [seg h0 h1 (by omega) a2, hc] at a1; cases a1
theorem upto_end {l : List Run} {k : Nat} {out : List Run} (h : Upto l k out) (hk : (pts l).length ≤ k + 1) (hk2 : k < (pts l).length ∨ (pts l).length = 0) (n : Int) : Xg.cov out n = Xg.cov l n := by
  rw [Bool.eq_iff_iff, h.cov n]
  constructor
  · exact fun hh => hh.1
  · intro hc
    refine ⟨hc, ?_⟩
    obtain ⟨r, hr, hm, h2, h3⟩ := cov_iff.1 hc
    obtain ⟨p1, p2, _⟩ := pts_facts l
    obtain ⟨j, hj⟩ := List.mem_iff_getElem?.1 ((p2 (r.2 + 1)).2 ⟨r, hr, hm, .inr rfl⟩)
    obtain ⟨lj, e⟩ := List.getElem?_eq_some_iff.1 hj
    have hkl : k < (pts l).length := by omega
    refine ⟨(pts l)[k], getl hkl, ?_⟩
    rcases Nat.lt_or_ge j k with h | h
    · have := List.pairwise_iff_getElem.1 p1 j k lj hkl h; omega
    · have : j = k := by omega
      subst this; omega
theorem set0_eq (N : Nat) (a b : List Run) (hl : a.length + b.length ≤ 100000000000) (hN : 1000000000000 < N) :
    ∃ r, F_epitaphref06_set N a b 0 = some r ∧ (∀ n, cov r n = cov (a ++ b) n) ∧ r.length ≤ 2 * (a.length + b.length) := by
  unfold F_epitaphref06_set
  rw [points_eq N a b hl hN]
  obtain ⟨p1, p2, p3⟩ := pts_facts (a ++ b)
  have p3 : (pts (a ++ b)).length ≤ 2 * (a.length + b.length) := by simpa using p3
  simp only [Option.bind_some]
  refine iter_ok (Q := fun r : List Run => (∀ n, cov r n = cov (a ++ b) n) ∧ r.length ≤ 2 * (a.length + b.length))
    (fun m z => ∃ (k : Nat) (out : List Run), z = (((k : Int), ()), (), (owR out, ()), ()) ∧ (k < (pts (a ++ b)).length ∨ (k = 0 ∧ (pts (a ++ b)).length = 0)) ∧ m = (pts (a ++ b)).length - k ∧ Upto (a ++ b) k out) ?_ N (pts (a ++ b)).length _ ⟨0, [], rfl, by omega, by omega, upto_zero _⟩ (by omega)
  rintro m z rec ⟨k, out, rfl, hk, rfl, hu⟩ ih
  have w0 : IntKind.i64.wrap ((k : Int) + 1) = ((k + 1 : Nat) : Int) := i64_succ (by omega)
  have z1 : ((0 : Int) == 1) = false := rfl
  have z2 : ((0 : Int) == 2) = false := rfl
  by_cases hlt : k + 1 < (pts (a ++ b)).length
  · have hkl : k < (pts (a ++ b)).length := by omega
    have h0 := getl hkl
    have h1 := getl hlt
    obtain ⟨e1, e2, e3⟩ := lohi h0 h1
    have hca := refRHas_eq N a (pts (a ++ b))[k] (by omega) (by omega)
    have hcb := refRHas_eq N b (pts (a ++ b))[k] (by omega) (by omega)
    have hor := cov_append a b (pts (a ++ b))[k]
    have w1 : IntKind.u64.wrap ((pts (a ++ b))[k + 1] - 1) = (pts (a ++ b))[k + 1] - 1 := u64_small (by omega) (by omega)
    have next : ∀ out', Upto (a ++ b) (k + 1) out' → ∃ r, rec ((((k + 1 : Nat) : Int), ()), (), (owR out', ()), ()) = some r ∧ (∀ n, cov r n = cov (a ++ b) n) ∧ r.length ≤ 2 * (a.length + b.length) := by
      intro out' h'
      exact ih ((pts (a ++ b)).length - (k + 1)) _ (by omega) ⟨k + 1, out', rfl, by omega, rfl, h'⟩
    have nin : cov (a ++ b) (pts (a ++ b))[k] = true → _ := fun hc => next _ (upto_in hu h0 h1 hc)
    have nout : cov (a ++ b) (pts (a ++ b))[k] = false → _ := fun hc => next _ (upto_out hu h0 h1 hc)
    rw [hor] at nin nout
    have hul := hu.len
    have hum := hu.may
    clear next ih hu p1 p2
    generalize hlo : (pts (a ++ b))[k] = lo at *
    generalize hhi : (pts (a ++ b))[k + 1] = hi at *
    have hd : decide (((k + 1 : Nat) : Int) < ((pts (a ++ b)).length : Int)) = true := by simp; omega
    rcases snoc_cases out with rfl | ⟨o, e, rfl⟩
    · have es : sput [] lo hi = [(lo, hi - 1)] := rfl
      rw [es] at nin
      simp only [w0, hd, cond_true, at?_nat, h0, h1, Option.bind_some, hca, hcb, joinAt, optCase, z1, z2, cond_false, w1, owR_nil] at nin nout ⊢
      cases ha : cov a lo with
      | true =>
        have := nin (by rw [ha]; rfl)
        simpa [owR] using this
      | false =>
        cases hb : cov b lo with
        | true =>
          have := nin (by rw [ha, hb]; rfl)
          simpa [owR] using this
        | false =>
          have := nout (by rw [ha, hb]; rfl)
          simpa [owR] using this
    · have he := may_iff.1 (hum e (by simp))
      have hlen : (o ++ [e]).length = o.length + 1 := by simp
      have w2 : IntKind.i64.wrap (((o ++ [e]).length : Int) - 1) = (o.length : Int) := by
        rw [i64_pred (by simp) (by omega), hlen]; simp
      have c2 : decide (0 ≤ (o.length : Int)) = true := by simp
      have c3 : decide ((o.length : Int) < ((o ++ [e]).length : Int)) = true := by simp; omega
      have g1 : (o ++ [e])[o.length]? = some e := by simp
      have w3 : IntKind.u64.wrap (e.2 + 1) = e.2 + 1 := u64_small (by omega) (by omega)
      have hf : ∀ x : Run, fitsB ((o ++ [e]).length + [x].length) 16 = true := fun x => fit (by simp; omega) (by simp; omega)
      rw [sput_snoc] at nin
      simp only [w0, hd, cond_true, at?_nat, h0, h1, Option.bind_some, hca, hcb, joinAt, optCase, z1, z2, cond_false, w1, owR_snoc, w2, c2, c3, Bool.and_self, Nat.zero_add, toNat_nat, g1, w3, beq_self', hf] at nin nout ⊢
      have fin : (cov a lo || cov b lo) = true → ∃ r, (bif e.2 + 1 == lo then rec ((((k + 1 : Nat) : Int), ()), (), (some ((o ++ [e]).set o.length (e.1, hi - 1), (o ++ [e]).length), ()), ()) else rec ((((k + 1 : Nat) : Int), ()), (), (some (o ++ [e] ++ [(lo, hi - 1)], (o ++ [e]).length + [(lo, hi - 1)].length), ()), ())) = some r ∧ (∀ n, cov r n = cov (a ++ b) n) ∧ r.length ≤ 2 * (a.length + b.length) := by
        intro hc
        have := nin hc
        by_cases hm : e.2 + 1 = lo
        · rw [if_pos hm, owR_snoc] at this
          have hb : (e.2 + 1 == lo) = true := by simpa using hm
          rw [hb, cond_true]
          simpa using this
        · rw [if_neg hm, owR_snoc] at this
          have hb : (e.2 + 1 == lo) = false := by simpa using hm
          rw [hb, cond_false]
          simpa using this
      cases ha : cov a lo with
      | true => exact fin (by rw [ha]; rfl)
      | false =>
        cases hb : cov b lo with
        | true => exact fin (by rw [ha, hb]; rfl)
        | false => exact nout (by rw [ha, hb]; rfl)
  · have hd : decide (((k + 1 : Nat) : Int) < ((pts (a ++ b)).length : Int)) = false := by simp; omega
    have hcv := upto_end hu (by omega) (by omega)
    have hl2 := hu.len
    have hout : out.length ≤ 2 * (a.length + b.length) := by omega
    rcases snoc_cases out with rfl | ⟨o, e, rfl⟩
    · simp only [w0, hd, cond_false, owR_nil, optCase]
      exact ⟨[], rfl, hcv, hout⟩
    · simp only [w0, hd, cond_false, owR_snoc, optCase, Nat.zero_add, ble_self, cond_true, List.drop_zero, List.take_length]
      exact ⟨_, rfl, hcv, hout⟩
theorem refRuns_eq (N : Nat) (c : List Part) (dev : Int) (hc : FewC c) (hN : 1000000000000 < N) :
    ∃ r, F_epitaphref09_Runs N c dev = some r ∧ (∀ n, cov r n = (decide (dev ≠ 0) && cov (tl c dev) n)) ∧ r.length ≤ 100000000000 := by
  unfold F_epitaphref09_Runs
  have hlen := hc.len
  refine iter_ok (Q := fun r : List Run => (∀ n, cov r n = (decide (dev ≠ 0) && cov (tl c dev) n)) ∧ r.length ≤ 100000000000)
    (fun m z => ∃ (k : Nat) (out : List Run), z = ((out, (k : Int), ()), (), (), ()) ∧ k ≤ c.length ∧ m = c.length - k ∧ (∀ n, cov out n = (decide (dev ≠ 0) && cov (tl (c.take k) dev) n)) ∧ out.length + 60 ≤ 60 * 2 ^ k) ?_ N c.length _ ⟨0, [], rfl, by omega, by omega, by simp [tl, cov], by simp⟩ (by omega)
  rintro m z rec ⟨k, out, rfl, hk, rfl, hcv, hol⟩ ih
  have h2k : 2 ^ k ≤ 2 ^ 30 := Nat.pow_le_pow_right (by omega) (by omega)
  by_cases hkl : k < c.length
  · have hpow : 2 ^ (k + 1) = 2 * 2 ^ k := by rw [Nat.pow_succ]; omega
    simp only [dec_lt, decide_eq_true hkl, cond_true, at?_nat, getl hkl, Option.bind_some, i64_succ (show k + 1 < 9223372036854775808 by omega)]
    have same : c[k].1 ≠ dev ∨ dev = 0 → ∃ r, rec ((out, ((k + 1 : Nat) : Int), ()), (), (), ()) = some r ∧ (∀ n, cov r n = (decide (dev ≠ 0) && cov (tl c dev) n)) ∧ r.length ≤ 100000000000 := by
      intro hne
      refine ih (c.length - (k + 1)) _ (by omega) ⟨k + 1, out, rfl, by omega, rfl, fun n => ?_, by omega⟩
      rw [hcv n, tl_take_succ c hkl]
      rcases hne with h | h
      · rw [if_neg h]
      · subst h; simp
    by_cases hdv : c[k].1 = dev
    · have hb : (c[k].1 == dev) = true := by simpa using hdv
      rw [hb, cond_true]
      by_cases h0 : dev = 0
      · have hb0 : (dev != 0) = false := by simpa using h0
        rw [hb0, cond_false]
        exact same (.inr h0)
      · have hb0 : (dev != 0) = true := by simpa using h0
        rw [hb0, cond_true]
        have hr := hc.runs c[k] (List.getElem_mem hkl)
        obtain ⟨r, h1, h2, h3⟩ := set0_eq N out c[k].2 (by omega) hN
        unfold F_epitaphref06_Join
        simp only [h1, Option.bind_some]
        refine ih (c.length - (k + 1)) _ (by omega) ⟨k + 1, r, rfl, by omega, rfl, fun n => ?_, by omega⟩
        rw [h2 n, cov_append, hcv n, tl_take_succ c hkl, if_pos hdv, cov_append]
        simp [h0]
    · have hb : (c[k].1 == dev) = false := by simpa using hdv
      rw [hb, cond_false]
      exact same (.inl hdv)
  · have : k = c.length := by omega
    subst this
    rw [List.take_length] at hcv
    simp only [dec_lt, decide_eq_false hkl, cond_false]
    exact ⟨out, rfl, hcv, by omega⟩
def hasB (c : List Part) (d : Int × Int) : Bool := decide (0 < d.1) && cov (tl c d.1) d.2
theorem refHas09_eq (N : Nat) (c : List Part) (d : Int × Int) (hc : FewC c) (hN : 1000000000000 < N) : F_epitaphref09_Has N c d = some (hasB c d) := by
  unfold F_epitaphref09_Has
  have hg : ∃ g, F_epitaphref07_Good N d = some g ∧ (g = true ↔ 1 ≤ d.1 ∧ 1 ≤ d.2 ∧ d.2 ≤ 281474976710655) := by
    refine ⟨decide (1 ≤ d.1 ∧ 1 ≤ d.2 ∧ d.2 ≤ 281474976710655), ?_, by simp⟩
    simp only [F_epitaphref07_Good, cond_eq_ite]
    by_cases a1 : 1 ≤ d.1 <;> by_cases a2 : 1 ≤ d.2 <;> by_cases a3 : d.2 ≤ 281474976710655 <;> simp [a1, a2, a3] <;> omega
  obtain ⟨g, hg1, hg2⟩ := hg
  rw [hg1, Option.bind_some]
  have hcd : cov (tl c d.1) d.2 = true → 1 ≤ d.2 ∧ d.2 ≤ 281474976710655 := by
    intro h
    obtain ⟨r, hr, hm, h1, h2⟩ := cov_iff.1 h
    rw [may_iff] at hm
    omega
  cases g with
  | true =>
    have hg3 := hg2.1 rfl
    obtain ⟨r, h1, h2, h3⟩ := refRuns_eq N c d.1 hc hN
    simp only [cond_true, h1, Option.bind_some]
    rw [refRHas_eq N r d.2 (by omega) (by omega), Option.bind_some, h2]
    have e1 : decide (d.1 ≠ 0) = true := by simp; omega
    have e2 : decide (0 < d.1) = true := by simp; omega
    simp only [hasB, e1, e2]
  | false =>
    simp only [cond_false, Option.some.injEq]
    unfold hasB
    by_cases h0 : 0 < d.1
    · cases hh : cov (tl c d.1) d.2 with
      | false => simp
      | true =>
        have := hcd hh
        have := hg2.2 ⟨by omega, this⟩
        cases this
    · simp [h0]
end Go.Proofs.Xg
set_option linter.unusedVariables false
set_option linter.unusedSimpArgs false
set_option maxRecDepth 100000
namespace Go.Proofs.Xg
open Go Go.Xl Go.Ab Go.Proofs Go.Sort
theorem ctxHas_eqB (N : Nat) (c : List Part) (d : Int × Int) (hc : FewC c) (hN : 1000000000000 < N) : F_ctx_Has N c d = some (hasB c d) := ctxHas_eq N c d hc hN
theorem part_eq (N : Nat) (l : List (Int × Int)) (c : List Part) (b : Bool) (hl : l.length ≤ 60) (hc : FewC c) (hN : 1000000000000 < N) : F_kills_part N l c b = some (sortDots (l.filter fun d => hasB c d == b)) := by
  unfold F_kills_part
  have e0 := foldl_filter (fun d => hasB c d == b) l []
  rw [fold_loop l (fun a x => cond (hasB c x == b) (a ++ [x]) a) [] (fun a => some (sortDots a)) ?_ ?_ N (by omega), e0]
  · rfl
  · intro rec k a hk ha
    have hal : a.length ≤ k := by
      rw [ha, foldl_filter, List.nil_append]
      have := List.length_filter_le (fun d => hasB c d == b) (l.take k)
      rw [List.length_take] at this; omega
    have hf : fitsB (a.length + [l[k]].length) 16 = true := fit (by simp; omega) (by simp; omega)
    simp only [dec_lt, decide_eq_true hk, cond_true, at?_nat, getl hk, Option.bind_some, ctxHas_eqB N c _ hc hN, hf, i64_succ (show k + 1 < 9223372036854775808 by omega)]
    cases (hasB c l[k] == b) <;> rfl
  · intro rec
    have hal : (l.foldl (fun a x => cond (hasB c x == b) (a ++ [x]) a) []).length ≤ l.length := by
      rw [foldl_filter, List.nil_append]
      exact List.length_filter_le _ _
    generalize l.foldl (fun a x => cond (hasB c x == b) (a ++ [x]) a) [] = q at *
    simp only [dec_lt, decide_eq_false (Nat.lt_irrefl _), cond_false]
    rw [dotSort_eq N q (by omega) (by omega)]; rfl
theorem foldl_if {A X : Type} (p : X → Bool) (g : A → X → A) : ∀ (l : List X) (a : A), l.foldl (fun a x => cond (p x) (g a x) a) a = (l.filter p).foldl g a
  | [], a => rfl
  | x :: r, a => by
    simp only [List.foldl_cons, List.filter_cons]
    rw [foldl_if p g r]
    cases p x <;> rfl
theorem puts_len (l : List (Int × Int)) : (l.foldl (fun q d => putF d q) []).length ≤ l.length := by
  have := (putsF_facts l [] List.Pairwise.nil).2.2
  simpa using this
theorem keep_eq (N : Nat) (l : List (Int × Int)) (c : List Part) (hl : l.length ≤ 60) (hc : FewC c) (hN : 1000000000000 < N) : F_epitaphref17_Keep N l c = some (sortDots (l.filter fun d => hasB c d == true)) := by
  unfold F_epitaphref17_Keep
  rw [fold_loop l (fun a x => cond (hasB c x == true) (putF x a) a) [] (fun a => some a) ?_ ?_ N (by omega), foldl_if, sortDots_puts]
  · rfl
  · intro rec k a hk ha
    have hal : a.length ≤ k := by
      rw [ha, foldl_if]
      have h1 := puts_len ((l.take k).filter fun x => hasB c x == true)
      have := List.length_filter_le (fun d => hasB c d == true) (l.take k)
      rw [List.length_take] at this; omega
    simp only [dec_lt, decide_eq_true hk, cond_true, at?_nat, getl hk, Option.bind_some, refHas09_eq N c _ hc hN, i64_succ (show k + 1 < 9223372036854775808 by omega), refPut_eq N a _ (by omega) (by omega)]
    cases hasB c l[k] <;> rfl
  · intro rec
    simp only [dec_lt, decide_eq_false (Nat.lt_irrefl _), cond_false]
theorem drop_eq (N : Nat) (l : List (Int × Int)) (c : List Part) (hl : l.length ≤ 60) (hc : FewC c) (hN : 1000000000000 < N) : F_epitaphref17_Drop N l c = some (sortDots (l.filter fun d => hasB c d == false)) := by
  unfold F_epitaphref17_Drop
  rw [fold_loop l (fun a x => cond (hasB c x == false) (putF x a) a) [] (fun a => some a) ?_ ?_ N (by omega), foldl_if, sortDots_puts]
  · rfl
  · intro rec k a hk ha
    have hal : a.length ≤ k := by
      rw [ha, foldl_if]
      have h1 := puts_len ((l.take k).filter fun x => hasB c x == false)
      have := List.length_filter_le (fun d => hasB c d == false) (l.take k)
      rw [List.length_take] at this; omega
    simp only [dec_lt, decide_eq_true hk, cond_true, at?_nat, getl hk, Option.bind_some, refHas09_eq N c _ hc hN, i64_succ (show k + 1 < 9223372036854775808 by omega), refPut_eq N a _ (by omega) (by omega)]
    cases hasB c l[k] <;> rfl
  · intro rec
    simp only [dec_lt, decide_eq_false (Nat.lt_irrefl _), cond_false]
theorem refSort_eq (N : Nat) (l : List (Int × Int)) (hl : l.length ≤ 1000) (hN : 1000000000000 < N) : F_epitaphref07_Sort N l = some (sortDots l) := by
  unfold F_epitaphref07_Sort
  rw [fold_loop l (fun a x => putF x a) [] (fun a => some a) ?_ ?_ N (by omega), sortDots_puts]
  · rfl
  · intro rec k a hk ha
    have hal : a.length ≤ k := by
      rw [ha]
      have h1 := puts_len (l.take k)
      rw [List.length_take] at h1; omega
    simp only [dec_lt, decide_eq_true hk, cond_true, at?_nat, getl hk, Option.bind_some, i64_succ (show k + 1 < 9223372036854775808 by omega), refPut_eq N a _ (by omega) (by omega)]
  · intro rec
    simp only [dec_lt, decide_eq_false (Nat.lt_irrefl _), cond_false]
theorem sortDots_ext {a b : List (Int × Int)} (h : ∀ x, x ∈ a ↔ x ∈ b) : sortDots a = sortDots b := by
  obtain ⟨a1, a2⟩ := sortDots_facts a
  obtain ⟨b1, b2⟩ := sortDots_facts b
  exact SAsc.ext ltD_asymm a1 b1 fun x => by rw [a2, b2, h x]
theorem sortDots_len' (l : List (Int × Int)) : (sortDots l).length ≤ l.length := by
  rw [sortDots_puts]
  exact puts_len l
theorem killsParts_true (N : Nat) (hN : 1000000000000 < N) (l : List (Int × Int)) (c : List Part) (e : Ev) : F_epitaphlaw17_KillsParts N l c e = some true := by
  unfold F_epitaphlaw17_KillsParts
  have hw := kworks_eq N (by omega)
  by_cases hl : 60 < l.length
  · have : decide ((60 : Int) < (l.length : Int)) = true := by simp; omega
    rw [this, cond_true, hw]; rfl
  · have : decide ((60 : Int) < (l.length : Int)) = false := by simp; omega
    rw [this, cond_false]
    obtain ⟨b1, h1, h2⟩ := refFew_eq N c (by omega)
    rw [h1, Option.bind_some]
    cases b1 with
    | false => simp only [Bool.not_false, cond_true, hw, Option.bind_some]
    | true =>
      have hc := h2 rfl
      obtain ⟨b2, h3, h4⟩ := few_any N [e] 1 (by omega) (by omega)
      have h3' : F_epitaphref13_Few N [e] 1 = some b2 := h3
      simp only [Bool.not_true, cond_false, h3', Option.bind_some]
      cases b2 with
      | false => simp only [Bool.not_false, cond_true, hw, Option.bind_some]
      | true =>
        have he : smE e := (h4 rfl).2 e (by simp)
        have hl60 : l.length ≤ 60 := by omega
        have hk : F_kills_Keep N l c = some (sortDots (l.filter fun d => hasB c d == true)) := by
          unfold F_kills_Keep; rw [part_eq N l c true hl60 hc hN]; rfl
        have hd : F_kills_Drop N l c = some (sortDots (l.filter fun d => hasB c d == false)) := by
          unfold F_kills_Drop; rw [part_eq N l c false hl60 hc hN]; rfl
        simp only [Bool.not_true, cond_false, hk, hd, Option.bind_some]
        obtain ⟨ka, kb⟩ := sortDots_facts (l.filter fun d => hasB c d == true)
        obtain ⟨da, db⟩ := sortDots_facts (l.filter fun d => hasB c d == false)
        have kl : (sortDots (l.filter fun d => hasB c d == true)).length ≤ 60 := Nat.le_trans (sortDots_len' _) (Nat.le_trans (List.length_filter_le _ _) hl60)
        have dl : (sortDots (l.filter fun d => hasB c d == false)).length ≤ 60 := Nat.le_trans (sortDots_len' _) (Nat.le_trans (List.length_filter_le _ _) hl60)
        have hke := keep_eq N l c hl60 hc hN
        have hde := drop_eq N l c hl60 hc hN
        have hall : ∀ x, x ∈ sortDots (l.filter fun d => hasB c d == true) ++ sortDots (l.filter fun d => hasB c d == false) ↔ x ∈ l := by
          intro x
          rw [List.mem_append, kb, db, List.mem_filter, List.mem_filter]
          cases hasB c x <;> simp
        have hno : ∀ x ∈ sortDots (l.filter fun d => hasB c d == true), ¬ x ∈ sortDots (l.filter fun d => hasB c d == false) := by
          intro x h1 h2
          rw [kb, List.mem_filter] at h1
          rw [db, List.mem_filter] at h2
          have h1 := h1.2
          have h2 := h2.2
          simp at h1 h2
          rw [h1] at h2; cases h2
        generalize sortDots (l.filter fun d => hasB c d == true) = K at *
        generalize sortDots (l.filter fun d => hasB c d == false) = D at *
        refine (scan_eq K.length (fun _ => some true) 0 ?_ ?_ N (by omega)).trans rfl
        · intro rec k _ hk' hr
          have : decide (K[k] ∈ D) = false := decide_eq_false (hno _ (List.getElem_mem hk'))
          simp only [dec_lt, decide_eq_true hk', cond_true, at?_nat, getl hk', Option.bind_some, refHas_eq N D _ (by omega) (by omega), this, cond_false, i64_succ (show k + 1 < 9223372036854775808 by omega), hr]
        · intro rec k hk'
          have f1 : fitsB (0 + K.length) 16 = true := fit (by omega) (by omega)
          have f2 : fitsB (K.length + D.length) 16 = true := fit (by omega) (by omega)
          simp only [dec_lt, decide_eq_false (show ¬ k < K.length by omega), cond_false, hke, hde, Option.bind_some, same_eq N K K (by omega) (by omega), same_eq N D D (by omega) (by omega), decide_true, cond_true, List.nil_append, f1, f2]
          rw [refSort_eq N (K ++ D) (by simp; omega) hN, Option.bind_some, refSort_eq N l (by omega) hN, Option.bind_some]
          have hs : sortDots (K ++ D) = sortDots l := sortDots_ext hall
          have hsl := sortDots_len' l
          rw [hs, same_eq N _ _ (by omega) (by omega), Option.bind_some]
          simp only [decide_true, cond_true]
          have hst : ∃ e', F_kills_Strip N e c = some e' ∧ F_epitaphref17_Strip N e c = some e' ∧ e'.2.2.2.2.2.length ≤ 5000 := by
            unfold F_kills_Strip F_epitaphref17_Strip
            rw [copy_eq N e he, Option.bind_some, ctxHas_eqB N c _ hc hN, refHas09_eq N c _ hc hN]
            simp only [Option.bind_some]
            cases hasB c e.1 with
            | true => exact ⟨_, rfl, rfl, by simp⟩
            | false => exact ⟨_, rfl, rfl, he⟩
          obtain ⟨e', s1, s2, s3⟩ := hst
          rw [s1, Option.bind_some, s2, Option.bind_some, refSame_eq N e' e' (by omega) (by omega), Option.bind_some, sameE_refl, cond_true, hw]
          rfl
end Go.Proofs.Xg
