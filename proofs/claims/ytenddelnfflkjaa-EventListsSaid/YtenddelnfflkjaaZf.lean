import Derived.Test.YtenddelnfflkjaaZe
import Derived.KernelRfl
set_option linter.unusedVariables false
set_option maxRecDepth 100000
namespace Go.Proofs.Xg
open Go Go.Xl Go.Ab Go.Proofs
@[reducible] def tEvent : Ty := (.pair tDot (.pair .u8 (.pair (.int .u64) (.pair .u8 (.pair .str (.sl tDot))))))
noncomputable def F_epitaphref13_Put (N : Nat) : Fun [(.sl tEvent), tEvent] (Option (ResT [(.sl tEvent)])) := fun (x : List ((Int × Int) × UInt8 × Int × UInt8 × List UInt8 × List (Int × Int))) (x_1 : (Int × Int) × UInt8
 × Int × UInt8 × List UInt8 × List (Int × Int)) => iter (fun (rec : (List ((Int × Int) × UInt8 × Int × UInt8 × List UInt8 × List (Int × Int)) × Bool × Int × Unit) × Unit × Unit × Unit → Option (List ((Int × Int) × UInt8
 × Int × UInt8 × List UInt8 × List (Int × Int)))) (z : (List ((Int × Int) × UInt8 × Int × UInt8 × List UInt8 × List (Int × Int)) × Bool × Int × Unit) × Unit × Unit × Unit) => bif decide (z.fst.snd.snd.fst < (↑x.length :
 Int)) then (at? x z.fst.snd.snd.fst).bind fun (e : (Int × Int) × UInt8 × Int × UInt8 × List UInt8 × List (Int × Int)) => Option.bind (F_epitaphref07_Cmp N e.fst x_1.fst) fun (y : Int) => bif y == 0 then some x else
 joinAt (fun (z_1 : (List ((Int × Int) × UInt8 × Int × UInt8 × List UInt8 × List (Int × Int)) × Bool × Unit) × Unit × Unit × Unit) => (at? x z.fst.snd.snd.fst).bind fun (e : (Int × Int) × UInt8 × Int × UInt8 × List UInt8
 × List (Int × Int)) => bif fitsB (z_1.fst.fst.length + [e].length) 80 then rec ((z_1.fst.fst ++ [e], z_1.fst.snd.fst, IntKind.i64.wrap (z.fst.snd.snd.fst + 1), ()), (), (), ()) else none) fun (k : (List ((Int × Int) ×
 UInt8 × Int × UInt8 × List UInt8 × List (Int × Int)) × Bool × Unit) × Unit × Unit × Unit → Option (List ((Int × Int) × UInt8 × Int × UInt8 × List UInt8 × List (Int × Int)))) => bif decide (0 < y) then bif !z.fst.snd.fst
 then bif fitsB (z.fst.fst.length + [x_1].length) 80 then k ((z.fst.fst ++ [x_1], true, ()), (), (), ()) else none else k ((z.fst.fst, z.fst.snd.fst, ()), (), (), ()) else k ((z.fst.fst, z.fst.snd.fst, ()), (), (), ())
 else bif !z.fst.snd.fst then bif fitsB (z.fst.fst.length + [x_1].length) 80 then some (z.fst.fst ++ [x_1]) else none else some z.fst.fst) N (([], false, 0, ()), (), (), ())
theorem E_epitaphref13_Put (N : Nat) : runF Try.prog [e_epitaphref07_Cmp N] [] N Try.f49 (.seq .lf (.seq .lf (.seq .lf (.seq (.seq .lf (.blk (.loop ⟨[(5, .tip 200005 tEvent none), (6, .d .bool), (7, .d (.int .i64))], [], [0, 3], [1003], [], []⟩ (.seq .lf (.seq (.blk (.seq .lf (.seq .lf (.join ⟨[(5, .tip 200005 tEvent none), (6, .d .bool)], [], [0, 3, 7], [1003], [], []⟩ .lf .lf)))) .lf))))) .lf)))) [(.sl tEvent), tEvent] [(.sl tEvent)] = F_epitaphref13_Put N := by kernel_rfl
noncomputable def e_epitaphref13_Put (N : Nat) : Ent Try.prog := mkFn 49 Try.f49 (.seq .lf (.seq .lf (.seq .lf (.seq (.seq .lf (.blk (.loop ⟨[(5, .tip 200005 tEvent none), (6, .d .bool), (7, .d (.int .i64))], [], [0, 3], [1003], [], []⟩ (.seq .lf (.seq (.blk (.seq .lf (.seq .lf (.join ⟨[(5, .tip 200005 tEvent none), (6, .d .bool)], [], [0, 3, 7], [1003], [], []⟩ .lf .lf)))) .lf))))) .lf)))) [(.sl tEvent), tEvent] [(.sl tEvent)] (F_epitaphref13_Put N) mixed Try.func49 (.mk' Try.func49 rfl (by decide)) rfl (E_epitaphref13_Put N)
noncomputable def F_epitaphref13_Sort (N : Nat) : Fun [(.sl tEvent)] (Option (ResT [(.sl tEvent)])) := fun (x : List ((Int × Int) × UInt8 × Int × UInt8 × List UInt8 × List (Int × Int))) => iter (fun (rec : (List ((Int ×
 Int) × UInt8 × Int × UInt8 × List UInt8 × List (Int × Int)) × Int × Unit) × Unit × Unit × Unit → Option (List ((Int × Int) × UInt8 × Int × UInt8 × List UInt8 × List (Int × Int)))) (z : (List ((Int × Int) × UInt8 × Int ×
 UInt8 × List UInt8 × List (Int × Int)) × Int × Unit) × Unit × Unit × Unit) => bif decide (z.fst.snd.fst < (↑x.length : Int)) then (at? x z.fst.snd.fst).bind fun (e : (Int × Int) × UInt8 × Int × UInt8 × List UInt8 × List
 (Int × Int)) => Option.bind (F_epitaphref13_Put N z.fst.fst e) fun (y : List ((Int × Int) × UInt8 × Int × UInt8 × List UInt8 × List (Int × Int))) => rec ((y, IntKind.i64.wrap (z.fst.snd.fst + 1), ()), (), (), ()) else
 some z.fst.fst) N (([], 0, ()), (), (), ())
theorem E_epitaphref13_Sort (N : Nat) : runF Try.prog [e_epitaphref13_Put N] [] N Try.f16 (.seq .lf (.seq .lf (.seq (.seq .lf (.blk (.loop ⟨[(3, .d (.sl tEvent)), (4, .d (.int .i64))], [], [0], [], [], []⟩ .lf))) .lf))) [(.sl tEvent)] [(.sl tEvent)] = F_epitaphref13_Sort N := by kernel_rfl
noncomputable def e_epitaphref13_Sort (N : Nat) : Ent Try.prog := mkFn 16 Try.f16 (.seq .lf (.seq .lf (.seq (.seq .lf (.blk (.loop ⟨[(3, .d (.sl tEvent)), (4, .d (.int .i64))], [], [0], [], [], []⟩ .lf))) .lf))) [(.sl tEvent)] [(.sl tEvent)] (F_epitaphref13_Sort N) mixed Try.func16 (.mk' Try.func16 rfl (by decide)) rfl (E_epitaphref13_Sort N)
noncomputable def F_slices_Clone_sDot_Dot_d (N : Nat) : Fun [(.sl tDot)] (Option (ResT [(.sl tDot)])) := cloneD tDot 16
noncomputable def e_slices_Clone_sDot_Dot_d (N : Nat) : Ent Try.prog := mkEnt 56 [(.sl tDot)] [(.sl tDot)] (F_slices_Clone_sDot_Dot_d N) (.mk' Try.func56 rfl (by decide)) (cloneD_sound (Clone_Dot N))
noncomputable def F_event_Copy (N : Nat) : Fun [tEvent] (Option (ResT [tEvent])) := fun (x : (Int × Int) × UInt8 × Int × UInt8 × List UInt8 × List (Int × Int)) => Option.bind (F_slices_Clone_sDot_Dot_d N
 x.snd.snd.snd.snd.snd) fun (y : List (Int × Int)) => some (x.fst, x.snd.fst, x.snd.snd.fst, x.snd.snd.snd.fst, x.snd.snd.snd.snd.fst, y)
theorem E_event_Copy (N : Nat) : runF Try.prog [e_slices_Clone_sDot_Dot_d N] [] N Try.f19 .lf [tEvent] [tEvent] = F_event_Copy N := by kernel_rfl
noncomputable def e_event_Copy (N : Nat) : Ent Try.prog := mkFn 19 Try.f19 .lf [tEvent] [tEvent] (F_event_Copy N) mixed Try.func19 (.mk' Try.func19 rfl (by decide)) rfl (E_event_Copy N)
noncomputable def F_event_Sort_1 (N : Nat) : Fun [tEvent, tEvent] (Option (ResT [(.int .i64)])) := fun (x x_1 : (Int × Int) × UInt8 × Int × UInt8 × List UInt8 × List (Int × Int)) => Option.bind (F_dot_Cmp N x.fst
 x_1.fst) fun (y : Int) => some y
theorem E_event_Sort_1 (N : Nat) : runF Try.prog [e_dot_Cmp N] [] N Try.f58 .lf [tEvent, tEvent] [(.int .i64)] = F_event_Sort_1 N := by kernel_rfl
noncomputable def e_event_Sort_1 (N : Nat) : Ent Try.prog := mkFn 58 Try.f58 .lf [tEvent, tEvent] [(.int .i64)] (F_event_Sort_1 N) mixed Try.func58 (.mk' Try.func58 rfl (by decide)) rfl (E_event_Sort_1 N)
noncomputable def F0_slices_insertionSortCmpFunc_Event (N : Nat) : FunA [.d (.int .i64), .d (.int .i64), .c 58] (Option (ResT (rkTys tEvent []))) := fun (x x_1 : Int) => iter (fun (rec : (Int × Unit) × Unit × Unit × Unit
 → Option Unit) (z : (Int × Unit) × Unit × Unit × Unit) => bif decide (z.fst.fst < x_1) then iter (fun (rec_1 : (Int × Unit) × Unit × Unit × Unit → Option Unit) (z_1 : (Int × Unit) × Unit × Unit × Unit) => bif decide (x
 < z_1.fst.fst) then (at? [] z_1.fst.fst).bind fun (e : (Int × Int) × UInt8 × Int × UInt8 × List UInt8 × List (Int × Int)) => (at? [] (IntKind.i64.wrap (z_1.fst.fst - 1))).bind fun (e_1 : (Int × Int) × UInt8 × Int ×
 UInt8 × List UInt8 × List (Int × Int)) => Option.bind (F_event_Sort_1 N e e_1) fun (y : Int) => bif decide (y < 0) then (at? [] (IntKind.i64.wrap (z_1.fst.fst - 1))).bind fun (e : (Int × Int) × UInt8 × Int × UInt8 ×
 List UInt8 × List (Int × Int)) => (at? [] z_1.fst.fst).bind fun (e : (Int × Int) × UInt8 × Int × UInt8 × List UInt8 × List (Int × Int)) => (at? [] z_1.fst.fst).bind fun (e : (Int × Int) × UInt8 × Int × UInt8 × List
 UInt8 × List (Int × Int)) => none else rec ((IntKind.i64.wrap (z.fst.fst + 1), ()), (), (), ()) else rec ((IntKind.i64.wrap (z.fst.fst + 1), ()), (), (), ())) N ((z.fst.fst, ()), (), (), ()) else some ()) N
 ((IntKind.i64.wrap (x + 1), ()), (), (), ())
theorem E0_slices_insertionSortCmpFunc_Event (N : Nat) : runO0 Try.prog [e_event_Sort_1 N] [] N Try.f118 (.seq .lf (.blk (.loop ⟨[(8, .d (.int .i64))], [], [0, 1, 2, 3], [], [], []⟩ (.seq .lf (.seq (.blk (.seq .lf (.blk (.loop ⟨[(9, .d (.int .i64))], [], [0, 1, 2, 3, 8], [], [], []⟩ .lf)))) .lf))))) tEvent [.d (.int .i64), .d (.int .i64), .c 58] [] = F0_slices_insertionSortCmpFunc_Event N := by kernel_rfl
noncomputable def F_slices_insertionSortCmpFunc_Event (N : Nat) : List (tEvent : Ty).T → Nat → FunA [.d (.int .i64), .d (.int .i64), .c 58] (Option (List (tEvent : Ty).T × ResO [])) := fun (l : List ((Int × Int) × UInt8
 × Int × UInt8 × List UInt8 × List (Int × Int))) (n : Nat) (x x_1 : Int) => iter (fun (rec : (Int × Unit) × Unit × Unit × List ((Int × Int) × UInt8 × Int × UInt8 × List UInt8 × List (Int × Int)) × Unit → Option (List
 ((Int × Int) × UInt8 × Int × UInt8 × List UInt8 × List (Int × Int)) × Unit)) (z : (Int × Unit) × Unit × Unit × List ((Int × Int) × UInt8 × Int × UInt8 × List UInt8 × List (Int × Int)) × Unit) => bif decide (z.fst.fst <
 x_1) then iter (fun (rec_1 : (Int × Unit) × Unit × Unit × List ((Int × Int) × UInt8 × Int × UInt8 × List UInt8 × List (Int × Int)) × Unit → Option (List ((Int × Int) × UInt8 × Int × UInt8 × List UInt8 × List (Int ×
 Int)) × Unit)) (z_1 : (Int × Unit) × Unit × Unit × List ((Int × Int) × UInt8 × Int × UInt8 × List UInt8 × List (Int × Int)) × Unit) => bif decide (x < z_1.fst.fst) then bif decide (0 ≤ z_1.fst.fst) && decide
 (z_1.fst.fst < (↑n : Int)) then z_1.snd.snd.snd.fst[0 + z_1.fst.fst.toNat]?.bind fun (e : (Int × Int) × UInt8 × Int × UInt8 × List UInt8 × List (Int × Int)) => bif decide (0 ≤ IntKind.i64.wrap (z_1.fst.fst - 1)) &&
 decide (IntKind.i64.wrap (z_1.fst.fst - 1) < (↑n : Int)) then z_1.snd.snd.snd.fst[0 + (IntKind.i64.wrap (z_1.fst.fst - 1)).toNat]?.bind fun (e_1 : (Int × Int) × UInt8 × Int × UInt8 × List UInt8 × List (Int × Int)) =>
 Option.bind (F_event_Sort_1 N e e_1) fun (y : Int) => bif decide (y < 0) then bif decide (0 ≤ IntKind.i64.wrap (z_1.fst.fst - 1)) && decide (IntKind.i64.wrap (z_1.fst.fst - 1) < (↑n : Int)) then z_1.snd.snd.snd.fst[0 +
 (IntKind.i64.wrap (z_1.fst.fst - 1)).toNat]?.bind fun (e : (Int × Int) × UInt8 × Int × UInt8 × List UInt8 × List (Int × Int)) => bif decide (0 ≤ z_1.fst.fst) && decide (z_1.fst.fst < (↑n : Int)) then
 z_1.snd.snd.snd.fst[0 + z_1.fst.fst.toNat]?.bind fun (e_2 : (Int × Int) × UInt8 × Int × UInt8 × List UInt8 × List (Int × Int)) => bif decide (0 ≤ z_1.fst.fst) && decide (z_1.fst.fst < (↑n : Int)) then
 z_1.snd.snd.snd.fst[0 + z_1.fst.fst.toNat]?.bind fun (e_3 : (Int × Int) × UInt8 × Int × UInt8 × List UInt8 × List (Int × Int)) => bif decide (0 ≤ IntKind.i64.wrap (z_1.fst.fst - 1)) && decide (IntKind.i64.wrap
 (z_1.fst.fst - 1) < (↑n : Int)) then (z_1.snd.snd.snd.fst.set (0 + z_1.fst.fst.toNat) e)[0 + (IntKind.i64.wrap (z_1.fst.fst - 1)).toNat]?.bind fun (e_4 : (Int × Int) × UInt8 × Int × UInt8 × List UInt8 × List (Int ×
 Int)) => rec_1 ((IntKind.i64.wrap (z_1.fst.fst - 1), ()), (), (), (z_1.snd.snd.snd.fst.set (0 + z_1.fst.fst.toNat) e).set (0 + (IntKind.i64.wrap (z_1.fst.fst - 1)).toNat) e_2, ()) else none else none else none else none
 else rec ((IntKind.i64.wrap (z.fst.fst + 1), ()), (), (), z_1.snd.snd.snd.fst, ()) else none else none else rec ((IntKind.i64.wrap (z.fst.fst + 1), ()), (), (), z_1.snd.snd.snd.fst, ())) N ((z.fst.fst, ()), (), (),
 z.snd.snd.snd.fst, ()) else some (z.snd.snd.snd.fst, ())) N ((IntKind.i64.wrap (x + 1), ()), (), (), l, ())
theorem E_slices_insertionSortCmpFunc_Event (N : Nat) : runO Try.prog [e_event_Sort_1 N] [] N Try.f118 (.seq .lf (.blk (.loop ⟨[(8, .d (.int .i64))], [], [0, 1, 2, 3], [], [], [(1, .arr tEvent)]⟩ (.seq .lf (.seq (.blk (.seq .lf (.blk (.loop ⟨[(9, .d (.int .i64))], [], [0, 1, 2, 3, 8], [], [], [(1, .arr tEvent)]⟩ .lf)))) .lf))))) tEvent [.d (.int .i64), .d (.int .i64), .c 58] [] = F_slices_insertionSortCmpFunc_Event N := by kernel_rfl
noncomputable def e_slices_insertionSortCmpFunc_Event (N : Nat) : Ent Try.prog := mkO2 118 Try.f118 (.seq .lf (.blk (.loop ⟨[(8, .d (.int .i64))], [], [0, 1, 2, 3], [], [], [(1, .arr tEvent)]⟩ (.seq .lf (.seq (.blk (.seq .lf (.blk (.loop ⟨[(9, .d (.int .i64))], [], [0, 1, 2, 3, 8], [], [], [(1, .arr tEvent)]⟩ .lf)))) .lf))))) (.seq .lf (.blk (.loop ⟨[(8, .d (.int .i64))], [], [0, 1, 2, 3], [], [], []⟩ (.seq .lf (.seq (.blk (.seq .lf (.blk (.loop ⟨[(9, .d (.int .i64))], [], [0, 1, 2, 3, 8], [], [], []⟩ .lf)))) .lf))))) tEvent [.d (.int .i64), .d (.int .i64), .c 58] [] (F_slices_insertionSortCmpFunc_Event N) (F0_slices_insertionSortCmpFunc_Event N) mixed Try.func118 (.mk' Try.func118 rfl (by decide)) rfl (E_slices_insertionSortCmpFunc_Event N) (E0_slices_insertionSortCmpFunc_Event N)
noncomputable def F0_slices_swapRangeCmpFunc_Event (N : Nat) : FunA [.d (.int .i64), .d (.int .i64), .d (.int .i64), .c 58] (Option (ResT (rkTys tEvent []))) := fun (x x_1 x_2 : Int) => iter (fun (rec : (Int × Unit) ×
 Unit × Unit × Unit → Option Unit) (z : (Int × Unit) × Unit × Unit × Unit) => bif decide (z.fst.fst < x_2) then (at? [] (IntKind.i64.wrap (x_1 + z.fst.fst))).bind fun (e : (Int × Int) × UInt8 × Int × UInt8 × List UInt8 ×
 List (Int × Int)) => (at? [] (IntKind.i64.wrap (x + z.fst.fst))).bind fun (e : (Int × Int) × UInt8 × Int × UInt8 × List UInt8 × List (Int × Int)) => (at? [] (IntKind.i64.wrap (x + z.fst.fst))).bind fun (e : (Int × Int)
 × UInt8 × Int × UInt8 × List UInt8 × List (Int × Int)) => none else some ()) N ((0, ()), (), (), ())
theorem E0_slices_swapRangeCmpFunc_Event (N : Nat) : runO0 Try.prog [e_event_Sort_1 N] [] N Try.f172 (.seq .lf (.blk (.loop ⟨[(10, .d (.int .i64))], [], [0, 1, 2, 3], [], [], []⟩ .lf))) tEvent [.d (.int .i64), .d (.int .i64), .d (.int .i64), .c 58] [] = F0_slices_swapRangeCmpFunc_Event N := by kernel_rfl
noncomputable def F_slices_swapRangeCmpFunc_Event (N : Nat) : List (tEvent : Ty).T → Nat → FunA [.d (.int .i64), .d (.int .i64), .d (.int .i64), .c 58] (Option (List (tEvent : Ty).T × ResO [])) := fun (l : List ((Int ×
 Int) × UInt8 × Int × UInt8 × List UInt8 × List (Int × Int))) (n : Nat) (x x_1 x_2 : Int) => iter (fun (rec : (Int × Unit) × Unit × Unit × List ((Int × Int) × UInt8 × Int × UInt8 × List UInt8 × List (Int × Int)) × Unit →
 Option (List ((Int × Int) × UInt8 × Int × UInt8 × List UInt8 × List (Int × Int)) × Unit)) (z : (Int × Unit) × Unit × Unit × List ((Int × Int) × UInt8 × Int × UInt8 × List UInt8 × List (Int × Int)) × Unit) => bif decide
 (z.fst.fst < x_2) then bif decide (0 ≤ IntKind.i64.wrap (x_1 + z.fst.fst)) && decide (IntKind.i64.wrap (x_1 + z.fst.fst) < (↑n : Int)) then z.snd.snd.snd.fst[0 + (IntKind.i64.wrap (x_1 + z.fst.fst)).toNat]?.bind fun (e
 : (Int × Int) × UInt8 × Int × UInt8 × List UInt8 × List (Int × Int)) => bif decide (0 ≤ IntKind.i64.wrap (x + z.fst.fst)) && decide (IntKind.i64.wrap (x + z.fst.fst) < (↑n : Int)) then z.snd.snd.snd.fst[0 +
 (IntKind.i64.wrap (x + z.fst.fst)).toNat]?.bind fun (e_1 : (Int × Int) × UInt8 × Int × UInt8 × List UInt8 × List (Int × Int)) => bif decide (0 ≤ IntKind.i64.wrap (x + z.fst.fst)) && decide (IntKind.i64.wrap (x +
 z.fst.fst) < (↑n : Int)) then z.snd.snd.snd.fst[0 + (IntKind.i64.wrap (x + z.fst.fst)).toNat]?.bind fun (e_2 : (Int × Int) × UInt8 × Int × UInt8 × List UInt8 × List (Int × Int)) => bif decide (0 ≤ IntKind.i64.wrap (x_1
 + z.fst.fst)) && decide (IntKind.i64.wrap (x_1 + z.fst.fst) < (↑n : Int)) then (z.snd.snd.snd.fst.set (0 + (IntKind.i64.wrap (x + z.fst.fst)).toNat) e)[0 + (IntKind.i64.wrap (x_1 + z.fst.fst)).toNat]?.bind fun (e_3 :
 (Int × Int) × UInt8 × Int × UInt8 × List UInt8 × List (Int × Int)) => rec ((IntKind.i64.wrap (z.fst.fst + 1), ()), (), (), (z.snd.snd.snd.fst.set (0 + (IntKind.i64.wrap (x + z.fst.fst)).toNat) e).set (0 +
 (IntKind.i64.wrap (x_1 + z.fst.fst)).toNat) e_1, ()) else none else none else none else none else some (z.snd.snd.snd.fst, ())) N ((0, ()), (), (), l, ())
theorem E_slices_swapRangeCmpFunc_Event (N : Nat) : runO Try.prog [e_event_Sort_1 N] [] N Try.f172 (.seq .lf (.blk (.loop ⟨[(10, .d (.int .i64))], [], [0, 1, 2, 3], [], [], [(1, .arr tEvent)]⟩ .lf))) tEvent [.d (.int .i64), .d (.int .i64), .d (.int .i64), .c 58] [] = F_slices_swapRangeCmpFunc_Event N := by kernel_rfl
noncomputable def e_slices_swapRangeCmpFunc_Event (N : Nat) : Ent Try.prog := mkO2 172 Try.f172 (.seq .lf (.blk (.loop ⟨[(10, .d (.int .i64))], [], [0, 1, 2, 3], [], [], [(1, .arr tEvent)]⟩ .lf))) (.seq .lf (.blk (.loop ⟨[(10, .d (.int .i64))], [], [0, 1, 2, 3], [], [], []⟩ .lf))) tEvent [.d (.int .i64), .d (.int .i64), .d (.int .i64), .c 58] [] (F_slices_swapRangeCmpFunc_Event N) (F0_slices_swapRangeCmpFunc_Event N) mixed Try.func172 (.mk' Try.func172 rfl (by decide)) rfl (E_slices_swapRangeCmpFunc_Event N) (E0_slices_swapRangeCmpFunc_Event N)
noncomputable def F0_slices_rotateCmpFunc_Event (N : Nat) : FunA [.d (.int .i64), .d (.int .i64), .d (.int .i64), .c 58] (Option (ResT (rkTys tEvent []))) := fun (x x_1 x_2 : Int) => iter (fun (rec : (Int × Int × Unit) ×
 Unit × Unit × Unit → Option Unit) (z : (Int × Int × Unit) × Unit × Unit × Unit) => bif z.fst.fst != z.fst.snd.fst then bif decide (z.fst.snd.fst < z.fst.fst) then Option.bind (F0_slices_swapRangeCmpFunc_Event N
 (IntKind.i64.wrap (x_1 - z.fst.fst)) x_1 z.fst.snd.fst) fun (y : Unit) => rec ((IntKind.i64.wrap (z.fst.fst - z.fst.snd.fst), z.fst.snd.fst, ()), (), (), ()) else Option.bind (F0_slices_swapRangeCmpFunc_Event N
 (IntKind.i64.wrap (x_1 - z.fst.fst)) (IntKind.i64.wrap (IntKind.i64.wrap (x_1 + z.fst.snd.fst) - z.fst.fst)) z.fst.fst) fun (y : Unit) => rec ((z.fst.fst, IntKind.i64.wrap (z.fst.snd.fst - z.fst.fst), ()), (), (), ())
 else Option.bind (F0_slices_swapRangeCmpFunc_Event N (IntKind.i64.wrap (x_1 - z.fst.fst)) x_1 z.fst.fst) fun (y : Unit) => some ()) N ((IntKind.i64.wrap (x_1 - x), IntKind.i64.wrap (x_2 - x_1), ()), (), (), ())
theorem E0_slices_rotateCmpFunc_Event (N : Nat) : runO0 Try.prog [e_slices_swapRangeCmpFunc_Event N, e_event_Sort_1 N] [] N Try.f145 (.seq .lf (.seq .lf (.seq (.blk (.loop ⟨[(10, .d (.int .i64)), (11, .d (.int .i64))], [], [0, 2, 4], [], [], []⟩ .lf)) .lf))) tEvent [.d (.int .i64), .d (.int .i64), .d (.int .i64), .c 58] [] = F0_slices_rotateCmpFunc_Event N := by kernel_rfl
noncomputable def F_slices_rotateCmpFunc_Event (N : Nat) : List (tEvent : Ty).T → Nat → FunA [.d (.int .i64), .d (.int .i64), .d (.int .i64), .c 58] (Option (List (tEvent : Ty).T × ResO [])) := fun (l : List ((Int × Int)
 × UInt8 × Int × UInt8 × List UInt8 × List (Int × Int))) (n : Nat) (x x_1 x_2 : Int) => iter (fun (rec : (Int × Int × Unit) × Unit × Unit × List ((Int × Int) × UInt8 × Int × UInt8 × List UInt8 × List (Int × Int)) × Unit
 → Option (List ((Int × Int) × UInt8 × Int × UInt8 × List UInt8 × List (Int × Int)) × Unit)) (z : (Int × Int × Unit) × Unit × Unit × List ((Int × Int) × UInt8 × Int × UInt8 × List UInt8 × List (Int × Int)) × Unit) => bif
 z.fst.fst != z.fst.snd.fst then bif decide (z.fst.snd.fst < z.fst.fst) then Option.bind (F_slices_swapRangeCmpFunc_Event N z.snd.snd.snd.fst n (IntKind.i64.wrap (x_1 - z.fst.fst)) x_1 z.fst.snd.fst) fun (y : List ((Int
 × Int) × UInt8 × Int × UInt8 × List UInt8 × List (Int × Int)) × Unit) => rec ((IntKind.i64.wrap (z.fst.fst - z.fst.snd.fst), z.fst.snd.fst, ()), (), (), y.fst, ()) else Option.bind (F_slices_swapRangeCmpFunc_Event N
 z.snd.snd.snd.fst n (IntKind.i64.wrap (x_1 - z.fst.fst)) (IntKind.i64.wrap (IntKind.i64.wrap (x_1 + z.fst.snd.fst) - z.fst.fst)) z.fst.fst) fun (y : List ((Int × Int) × UInt8 × Int × UInt8 × List UInt8 × List (Int ×
 Int)) × Unit) => rec ((z.fst.fst, IntKind.i64.wrap (z.fst.snd.fst - z.fst.fst), ()), (), (), y.fst, ()) else Option.bind (F_slices_swapRangeCmpFunc_Event N z.snd.snd.snd.fst n (IntKind.i64.wrap (x_1 - z.fst.fst)) x_1
 z.fst.fst) fun (y : List ((Int × Int) × UInt8 × Int × UInt8 × List UInt8 × List (Int × Int)) × Unit) => some (y.fst, ())) N ((IntKind.i64.wrap (x_1 - x), IntKind.i64.wrap (x_2 - x_1), ()), (), (), l, ())
theorem E_slices_rotateCmpFunc_Event (N : Nat) : runO Try.prog [e_slices_swapRangeCmpFunc_Event N, e_event_Sort_1 N] [] N Try.f145 (.seq .lf (.seq .lf (.seq (.blk (.loop ⟨[(10, .d (.int .i64)), (11, .d (.int .i64))], [], [0, 2, 4], [], [], [(1, .arr tEvent)]⟩ .lf)) .lf))) tEvent [.d (.int .i64), .d (.int .i64), .d (.int .i64), .c 58] [] = F_slices_rotateCmpFunc_Event N := by kernel_rfl
noncomputable def e_slices_rotateCmpFunc_Event (N : Nat) : Ent Try.prog := mkO2 145 Try.f145 (.seq .lf (.seq .lf (.seq (.blk (.loop ⟨[(10, .d (.int .i64)), (11, .d (.int .i64))], [], [0, 2, 4], [], [], [(1, .arr tEvent)]⟩ .lf)) .lf))) (.seq .lf (.seq .lf (.seq (.blk (.loop ⟨[(10, .d (.int .i64)), (11, .d (.int .i64))], [], [0, 2, 4], [], [], []⟩ .lf)) .lf))) tEvent [.d (.int .i64), .d (.int .i64), .d (.int .i64), .c 58] [] (F_slices_rotateCmpFunc_Event N) (F0_slices_rotateCmpFunc_Event N) mixed Try.func145 (.mk' Try.func145 rfl (by decide)) rfl (E_slices_rotateCmpFunc_Event N) (E0_slices_rotateCmpFunc_Event N)
noncomputable def R_slices_symMergeCmpFunc_Event (N : Nat) : FnO tEvent [.d (.int .i64), .d (.int .i64), .d (.int .i64), .c 58] [] → FnO tEvent [.d (.int .i64), .d (.int .i64), .d (.int .i64), .c 58] [] := fun (G : List
 tEvent.T → Nat → (Ty.int IntKind.i64).T → (Ty.int IntKind.i64).T → (Ty.int IntKind.i64).T → Option (List ((Int × Int) × UInt8 × Int × UInt8 × List UInt8 × List (Int × Int)) × Unit)) (l : List ((Int × Int) × UInt8 × Int
 × UInt8 × List UInt8 × List (Int × Int))) (n : Nat) (x x_1 x_2 : Int) => bif IntKind.i64.wrap (x_1 - x) == 1 then iter (fun (rec : (Int × Int × Unit) × Unit × Unit × Unit → Option (List ((Int × Int) × UInt8 × Int ×
 UInt8 × List UInt8 × List (Int × Int)) × Unit)) (z : (Int × Int × Unit) × Unit × Unit × Unit) => bif decide (z.fst.fst < z.fst.snd.fst) then bif decide (0 ≤ IntKind.i64.wrap ((IntKind.u64.wrap (IntKind.i64.wrap
 (z.fst.fst + z.fst.snd.fst))).fdiv 2)) && decide (IntKind.i64.wrap ((IntKind.u64.wrap (IntKind.i64.wrap (z.fst.fst + z.fst.snd.fst))).fdiv 2) < (↑n : Int)) then l[0 + (IntKind.i64.wrap ((IntKind.u64.wrap
 (IntKind.i64.wrap (z.fst.fst + z.fst.snd.fst))).fdiv 2)).toNat]?.bind fun (e : (Int × Int) × UInt8 × Int × UInt8 × List UInt8 × List (Int × Int)) => bif decide (0 ≤ x) && decide (x < (↑n : Int)) then l[0 +
 x.toNat]?.bind fun (e_1 : (Int × Int) × UInt8 × Int × UInt8 × List UInt8 × List (Int × Int)) => Option.bind (F_event_Sort_1 N e e_1) fun (y : Int) => bif decide (y < 0) then rec ((IntKind.i64.wrap (IntKind.i64.wrap
 ((IntKind.u64.wrap (IntKind.i64.wrap (z.fst.fst + z.fst.snd.fst))).fdiv 2) + 1), z.fst.snd.fst, ()), (), (), ()) else rec ((z.fst.fst, IntKind.i64.wrap ((IntKind.u64.wrap (IntKind.i64.wrap (z.fst.fst +
 z.fst.snd.fst))).fdiv 2), ()), (), (), ()) else none else none else iter (fun (rec : (Int × Unit) × Unit × Unit × List ((Int × Int) × UInt8 × Int × UInt8 × List UInt8 × List (Int × Int)) × Unit → Option (List ((Int ×
 Int) × UInt8 × Int × UInt8 × List UInt8 × List (Int × Int)) × Unit)) (z_1 : (Int × Unit) × Unit × Unit × List ((Int × Int) × UInt8 × Int × UInt8 × List UInt8 × List (Int × Int)) × Unit) => bif decide (z_1.fst.fst <
 IntKind.i64.wrap (z.fst.fst - 1)) then bif decide (0 ≤ IntKind.i64.wrap (z_1.fst.fst + 1)) && decide (IntKind.i64.wrap (z_1.fst.fst + 1) < (↑n : Int)) then z_1.snd.snd.snd.fst[0 + (IntKind.i64.wrap (z_1.fst.fst +
 1)).toNat]?.bind fun (e : (Int × Int) × UInt8 × Int × UInt8 × List UInt8 × List (Int × Int)) => bif decide (0 ≤ z_1.fst.fst) && decide (z_1.fst.fst < (↑n : Int)) then z_1.snd.snd.snd.fst[0 + z_1.fst.fst.toNat]?.bind fun
 (e_1 : (Int × Int) × UInt8 × Int × UInt8 × List UInt8 × List (Int × Int)) => bif decide (0 ≤ z_1.fst.fst) && decide (z_1.fst.fst < (↑n : Int)) then z_1.snd.snd.snd.fst[0 + z_1.fst.fst.toNat]?.bind fun (e_2 : (Int × Int)
 × UInt8 × Int × UInt8 × List UInt8 × List (Int × Int)) => bif decide (0 ≤ IntKind.i64.wrap (z_1.fst.fst + 1)) && decide (IntKind.i64.wrap (z_1.fst.fst + 1) < (↑n : Int)) then (z_1.snd.snd.snd.fst.set (0 +
 z_1.fst.fst.toNat) e)[0 + (IntKind.i64.wrap (z_1.fst.fst + 1)).toNat]?.bind fun (e_3 : (Int × Int) × UInt8 × Int × UInt8 × List UInt8 × List (Int × Int)) => rec ((IntKind.i64.wrap (z_1.fst.fst + 1), ()), (), (),
 (z_1.snd.snd.snd.fst.set (0 + z_1.fst.fst.toNat) e).set (0 + (IntKind.i64.wrap (z_1.fst.fst + 1)).toNat) e_1, ()) else none else none else none else none else some (z_1.snd.snd.snd.fst, ())) N ((x, ()), (), (), l, ()))
 N ((x_1, x_2, ()), (), (), ()) else bif IntKind.i64.wrap (x_2 - x_1) == 1 then iter (fun (rec : (Int × Int × Unit) × Unit × Unit × Unit → Option (List ((Int × Int) × UInt8 × Int × UInt8 × List UInt8 × List (Int × Int))
 × Unit)) (z : (Int × Int × Unit) × Unit × Unit × Unit) => bif decide (z.fst.fst < z.fst.snd.fst) then bif decide (0 ≤ x_1) && decide (x_1 < (↑n : Int)) then l[0 + x_1.toNat]?.bind fun (e : (Int × Int) × UInt8 × Int ×
 UInt8 × List UInt8 × List (Int × Int)) => bif decide (0 ≤ IntKind.i64.wrap ((IntKind.u64.wrap (IntKind.i64.wrap (z.fst.fst + z.fst.snd.fst))).fdiv 2)) && decide (IntKind.i64.wrap ((IntKind.u64.wrap (IntKind.i64.wrap
 (z.fst.fst + z.fst.snd.fst))).fdiv 2) < (↑n : Int)) then l[0 + (IntKind.i64.wrap ((IntKind.u64.wrap (IntKind.i64.wrap (z.fst.fst + z.fst.snd.fst))).fdiv 2)).toNat]?.bind fun (e_1 : (Int × Int) × UInt8 × Int × UInt8 ×
 List UInt8 × List (Int × Int)) => Option.bind (F_event_Sort_1 N e e_1) fun (y : Int) => bif !decide (y < 0) then rec ((IntKind.i64.wrap (IntKind.i64.wrap ((IntKind.u64.wrap (IntKind.i64.wrap (z.fst.fst +
 z.fst.snd.fst))).fdiv 2) + 1), z.fst.snd.fst, ()), (), (), ()) else rec ((z.fst.fst, IntKind.i64.wrap ((IntKind.u64.wrap (IntKind.i64.wrap (z.fst.fst + z.fst.snd.fst))).fdiv 2), ()), (), (), ()) else none else none else
 iter (fun (rec : (Int × Unit) × Unit × Unit × List ((Int × Int) × UInt8 × Int × UInt8 × List UInt8 × List (Int × Int)) × Unit → Option (List ((Int × Int) × UInt8 × Int × UInt8 × List UInt8 × List (Int × Int)) × Unit))
 (z_1 : (Int × Unit) × Unit × Unit × List ((Int × Int) × UInt8 × Int × UInt8 × List UInt8 × List (Int × Int)) × Unit) => bif decide (z.fst.fst < z_1.fst.fst) then bif decide (0 ≤ IntKind.i64.wrap (z_1.fst.fst - 1)) &&
 decide (IntKind.i64.wrap (z_1.fst.fst - 1) < (↑n : Int)) then z_1.snd.snd.snd.fst[0 + (IntKind.i64.wrap (z_1.fst.fst - 1)).toNat]?.bind fun (e : (Int × Int) × UInt8 × Int × UInt8 × List UInt8 × List (Int × Int)) => bif
 decide (0 ≤ z_1.fst.fst) && decide (z_1.fst.fst < (↑n : Int)) then z_1.snd.snd.snd.fst[0 + z_1.fst.fst.toNat]?.bind fun (e_1 : (Int × Int) × UInt8 × Int × UInt8 × List UInt8 × List (Int × Int)) => bif decide (0 ≤
 z_1.fst.fst) && decide (z_1.fst.fst < (↑n : Int)) then z_1.snd.snd.snd.fst[0 + z_1.fst.fst.toNat]?.bind fun (e_2 : (Int × Int) × UInt8 × Int × UInt8 × List UInt8 × List (Int × Int)) => bif decide (0 ≤ IntKind.i64.wrap
 (z_1.fst.fst - 1)) && decide (IntKind.i64.wrap (z_1.fst.fst - 1) < (↑n : Int)) then (z_1.snd.snd.snd.fst.set (0 + z_1.fst.fst.toNat) e)[0 + (IntKind.i64.wrap (z_1.fst.fst - 1)).toNat]?.bind fun (e_3 : (Int × Int) ×
 UInt8 × Int × UInt8 × List UInt8 × List (Int × Int)) => rec ((IntKind.i64.wrap (z_1.fst.fst - 1), ()), (), (), (z_1.snd.snd.snd.fst.set (0 + z_1.fst.fst.toNat) e).set (0 + (IntKind.i64.wrap (z_1.fst.fst - 1)).toNat)
 e_1, ()) else none else none else none else none else some (z_1.snd.snd.snd.fst, ())) N ((x_1, ()), (), (), l, ())) N ((x, x_1, ()), (), (), ()) else joinAt (fun (z : (Int × Int × Unit) × Unit × Unit × Unit) => iter
 (fun (rec : (Int × Int × Unit) × Unit × Unit × Unit → Option (List ((Int × Int) × UInt8 × Int × UInt8 × List UInt8 × List (Int × Int)) × Unit)) (z : (Int × Int × Unit) × Unit × Unit × Unit) => bif decide (z.fst.fst <
 z.fst.snd.fst) then bif decide (0 ≤ IntKind.i64.wrap (IntKind.i64.wrap (IntKind.i64.wrap (IntKind.i64.wrap ((IntKind.u64.wrap (IntKind.i64.wrap (x + x_2))).fdiv 2) + x_1) - 1) - IntKind.i64.wrap ((IntKind.u64.wrap
 (IntKind.i64.wrap (z.fst.fst + z.fst.snd.fst))).fdiv 2))) && decide (IntKind.i64.wrap (IntKind.i64.wrap (IntKind.i64.wrap (IntKind.i64.wrap ((IntKind.u64.wrap (IntKind.i64.wrap (x + x_2))).fdiv 2) + x_1) - 1) -
 IntKind.i64.wrap ((IntKind.u64.wrap (IntKind.i64.wrap (z.fst.fst + z.fst.snd.fst))).fdiv 2)) < (↑n : Int)) then l[0 + (IntKind.i64.wrap (IntKind.i64.wrap (IntKind.i64.wrap (IntKind.i64.wrap ((IntKind.u64.wrap
 (IntKind.i64.wrap (x + x_2))).fdiv 2) + x_1) - 1) - IntKind.i64.wrap ((IntKind.u64.wrap (IntKind.i64.wrap (z.fst.fst + z.fst.snd.fst))).fdiv 2))).toNat]?.bind fun (e : (Int × Int) × UInt8 × Int × UInt8 × List UInt8 ×
 List (Int × Int)) => bif decide (0 ≤ IntKind.i64.wrap ((IntKind.u64.wrap (IntKind.i64.wrap (z.fst.fst + z.fst.snd.fst))).fdiv 2)) && decide (IntKind.i64.wrap ((IntKind.u64.wrap (IntKind.i64.wrap (z.fst.fst +
 z.fst.snd.fst))).fdiv 2) < (↑n : Int)) then l[0 + (IntKind.i64.wrap ((IntKind.u64.wrap (IntKind.i64.wrap (z.fst.fst + z.fst.snd.fst))).fdiv 2)).toNat]?.bind fun (e_1 : (Int × Int) × UInt8 × Int × UInt8 × List UInt8 ×
 List (Int × Int)) => Option.bind (F_event_Sort_1 N e e_1) fun (y : Int) => bif !decide (y < 0) then rec ((IntKind.i64.wrap (IntKind.i64.wrap ((IntKind.u64.wrap (IntKind.i64.wrap (z.fst.fst + z.fst.snd.fst))).fdiv 2) +
 1), z.fst.snd.fst, ()), (), (), ()) else rec ((z.fst.fst, IntKind.i64.wrap ((IntKind.u64.wrap (IntKind.i64.wrap (z.fst.fst + z.fst.snd.fst))).fdiv 2), ()), (), (), ()) else none else none else joinAt (fun (z_1 : Unit ×
 Unit × Unit × List ((Int × Int) × UInt8 × Int × UInt8 × List UInt8 × List (Int × Int)) × Unit) => joinAt (fun (z_2 : Unit × Unit × Unit × List ((Int × Int) × UInt8 × Int × UInt8 × List UInt8 × List (Int × Int)) × Unit)
 => bif decide (IntKind.i64.wrap ((IntKind.u64.wrap (IntKind.i64.wrap (x + x_2))).fdiv 2) < IntKind.i64.wrap (IntKind.i64.wrap (IntKind.i64.wrap ((IntKind.u64.wrap (IntKind.i64.wrap (x + x_2))).fdiv 2) + x_1) -
 z.fst.fst)) then bif decide (IntKind.i64.wrap (IntKind.i64.wrap (IntKind.i64.wrap ((IntKind.u64.wrap (IntKind.i64.wrap (x + x_2))).fdiv 2) + x_1) - z.fst.fst) < x_2) then (G z_2.snd.snd.snd.fst n (IntKind.i64.wrap
 ((IntKind.u64.wrap (IntKind.i64.wrap (x + x_2))).fdiv 2)) (IntKind.i64.wrap (IntKind.i64.wrap (IntKind.i64.wrap ((IntKind.u64.wrap (IntKind.i64.wrap (x + x_2))).fdiv 2) + x_1) - z.fst.fst)) x_2).bind fun (y : List ((Int
 × Int) × UInt8 × Int × UInt8 × List UInt8 × List (Int × Int)) × Unit) => some (y.fst, ()) else some (z_2.snd.snd.snd.fst, ()) else some (z_2.snd.snd.snd.fst, ())) fun (k : Unit × Unit × Unit × List ((Int × Int) × UInt8
 × Int × UInt8 × List UInt8 × List (Int × Int)) × Unit → Option (List ((Int × Int) × UInt8 × Int × UInt8 × List UInt8 × List (Int × Int)) × Unit)) => bif decide (x < z.fst.fst) then bif decide (z.fst.fst <
 IntKind.i64.wrap ((IntKind.u64.wrap (IntKind.i64.wrap (x + x_2))).fdiv 2)) then (G z_1.snd.snd.snd.fst n x z.fst.fst (IntKind.i64.wrap ((IntKind.u64.wrap (IntKind.i64.wrap (x + x_2))).fdiv 2))).bind fun (y : List ((Int
 × Int) × UInt8 × Int × UInt8 × List UInt8 × List (Int × Int)) × Unit) => k ((), (), (), y.fst, ()) else k ((), (), (), z_1.snd.snd.snd.fst, ()) else k ((), (), (), z_1.snd.snd.snd.fst, ())) fun (k : Unit × Unit × Unit ×
 List ((Int × Int) × UInt8 × Int × UInt8 × List UInt8 × List (Int × Int)) × Unit → Option (List ((Int × Int) × UInt8 × Int × UInt8 × List UInt8 × List (Int × Int)) × Unit)) => bif decide (z.fst.fst < x_1) then bif decide
 (x_1 < IntKind.i64.wrap (IntKind.i64.wrap (IntKind.i64.wrap ((IntKind.u64.wrap (IntKind.i64.wrap (x + x_2))).fdiv 2) + x_1) - z.fst.fst)) then Option.bind (F_slices_rotateCmpFunc_Event N l n z.fst.fst x_1
 (IntKind.i64.wrap (IntKind.i64.wrap (IntKind.i64.wrap ((IntKind.u64.wrap (IntKind.i64.wrap (x + x_2))).fdiv 2) + x_1) - z.fst.fst))) fun (y : List ((Int × Int) × UInt8 × Int × UInt8 × List UInt8 × List (Int × Int)) ×
 Unit) => k ((), (), (), y.fst, ()) else k ((), (), (), l, ()) else k ((), (), (), l, ())) N ((z.fst.fst, z.fst.snd.fst, ()), (), (), ())) fun (k : (Int × Int × Unit) × Unit × Unit × Unit → Option (List ((Int × Int) ×
 UInt8 × Int × UInt8 × List UInt8 × List (Int × Int)) × Unit)) => bif decide (IntKind.i64.wrap ((IntKind.u64.wrap (IntKind.i64.wrap (x + x_2))).fdiv 2) < x_1) then k ((IntKind.i64.wrap (IntKind.i64.wrap (IntKind.i64.wrap
 ((IntKind.u64.wrap (IntKind.i64.wrap (x + x_2))).fdiv 2) + x_1) - x_2), IntKind.i64.wrap ((IntKind.u64.wrap (IntKind.i64.wrap (x + x_2))).fdiv 2), ()), (), (), ()) else k ((x, x_1, ()), (), (), ())
theorem ER_slices_symMergeCmpFunc_Event (N : Nat) (G : FnO tEvent [.d (.int .i64), .d (.int .i64), .d (.int .i64), .c 58] []) (hG : SndO Try.prog 119 tEvent [.d (.int .i64), .d (.int .i64), .d (.int .i64), .c 58] [] G) : runO Try.prog [(mkEntO 119 tEvent [.d (.int .i64), .d (.int .i64), .d (.int .i64), .c 58] [] G (.mk' Try.func119 rfl (by decide)) hG), e_slices_rotateCmpFunc_Event N, e_event_Sort_1 N] [] N Try.f119 (.seq (.seq .lf (.cond (.seq .lf (.seq .lf (.seq (.blk (.loop ⟨[(10, .d (.int .i64)), (11, .d (.int .i64))], [], [0, 1, 4], [1], [], []⟩ .lf)) (.seq (.seq .lf (.blk (.loop ⟨[(13, .d (.int .i64))], [], [0, 10], [], [], [(1, .arr tEvent)]⟩ .lf))) .lf)))) .lf)) (.seq (.seq .lf (.cond (.seq .lf (.seq .lf (.seq (.blk (.loop ⟨[(14, .d (.int .i64)), (15, .d (.int .i64))], [], [0, 2, 4], [1], [], []⟩ .lf)) (.seq (.seq .lf (.blk (.loop ⟨[(17, .d (.int .i64))], [], [0, 14], [], [], [(1, .arr tEvent)]⟩ .lf))) .lf)))) .lf)) (.seq .lf (.seq .lf (.seq .lf (.join ⟨[(20, .d (.int .i64)), (21, .d (.int .i64))], [], [0, 1, 2, 3, 4, 18, 19], [1], [], []⟩ .lf (.seq .lf (.seq (.blk (.loop ⟨[(20, .d (.int .i64)), (21, .d (.int .i64))], [], [0, 1, 2, 3, 4, 18, 19, 22], [1], [], []⟩ .lf)) (.seq .lf (.join ⟨[], [], [0, 1, 3, 4, 18, 20, 24], [], [], [(1, .arr tEvent)]⟩ .lf (.join ⟨[], [], [0, 3, 4, 18, 24], [], [], [(1, .arr tEvent)]⟩ .lf .lf))))))))))) tEvent [.d (.int .i64), .d (.int .i64), .d (.int .i64), .c 58] [] = R_slices_symMergeCmpFunc_Event N G := by kernel_rfl
noncomputable def F_slices_symMergeCmpFunc_Event (N : Nat) : FnO tEvent [.d (.int .i64), .d (.int .i64), .d (.int .i64), .c 58] [] := recO (R_slices_symMergeCmpFunc_Event N) N
theorem S_slices_symMergeCmpFunc_Event (N : Nat) : SndO Try.prog 119 tEvent [.d (.int .i64), .d (.int .i64), .d (.int .i64), .c 58] [] (F_slices_symMergeCmpFunc_Event N) := recO_sound (fun G hG l k => ER_slices_symMergeCmpFunc_Event N G hG ▸ runO_sound mixed Try.func119 rfl l k) N
noncomputable def e_slices_symMergeCmpFunc_Event (N : Nat) : Ent Try.prog := mkEntO 119 tEvent [.d (.int .i64), .d (.int .i64), .d (.int .i64), .c 58] [] (F_slices_symMergeCmpFunc_Event N) (.mk' Try.func119 rfl (by decide)) (S_slices_symMergeCmpFunc_Event N)
noncomputable def F0_slices_stableCmpFunc_Event (N : Nat) : FunA [.d (.int .i64), .c 58] (Option (ResT (rkTys tEvent []))) := fun (x : Int) => iter (fun (rec : (Int × Int × Unit) × Unit × Unit × Unit → Option Unit) (z :
 (Int × Int × Unit) × Unit × Unit × Unit) => bif decide (z.fst.snd.fst ≤ x) then Option.bind (F0_slices_insertionSortCmpFunc_Event N z.fst.fst z.fst.snd.fst) fun (y : Unit) => rec ((z.fst.snd.fst, IntKind.i64.wrap
 (z.fst.snd.fst + 20), ()), (), (), ()) else Option.bind (F0_slices_insertionSortCmpFunc_Event N z.fst.fst x) fun (y : Unit) => iter (fun (rec : (Int × Unit) × Unit × Unit × Unit → Option Unit) (z : (Int × Unit) × Unit ×
 Unit × Unit) => bif decide (z.fst.fst < x) then iter (fun (rec_1 : (Int × Int × Unit) × Unit × Unit × Unit → Option Unit) (z_1 : (Int × Int × Unit) × Unit × Unit × Unit) => bif decide (z_1.fst.snd.fst ≤ x) then none
 else bif decide (IntKind.i64.wrap (z_1.fst.fst + z.fst.fst) < x) then none else rec ((IntKind.i64.wrap (z.fst.fst * 2), ()), (), (), ())) N ((0, IntKind.i64.wrap (2 * z.fst.fst), ()), (), (), ()) else some ()) N ((20,
 ()), (), (), ())) N ((0, 20, ()), (), (), ())
theorem E0_slices_stableCmpFunc_Event (N : Nat) : runO0 Try.prog [e_slices_insertionSortCmpFunc_Event N, e_slices_symMergeCmpFunc_Event N, e_event_Sort_1 N] [] N Try.f84 (.seq .lf (.seq .lf (.seq (.blk (.loop ⟨[(7, .d (.int .i64)), (8, .d (.int .i64))], [], [0, 1, 2, 6], [], [], []⟩ .lf)) (.seq .lf (.blk (.loop ⟨[(6, .d (.int .i64))], [], [0, 1, 2], [], [], []⟩ (.seq .lf (.blk (.seq .lf (.seq (.blk (.loop ⟨[(7, .d (.int .i64)), (8, .d (.int .i64))], [], [0, 1, 2, 6], [], [], []⟩ .lf)) .lf)))))))))) tEvent [.d (.int .i64), .c 58] [] = F0_slices_stableCmpFunc_Event N := by kernel_rfl
noncomputable def F_slices_stableCmpFunc_Event (N : Nat) : List (tEvent : Ty).T → Nat → FunA [.d (.int .i64), .c 58] (Option (List (tEvent : Ty).T × ResO [])) := fun (l : List ((Int × Int) × UInt8 × Int × UInt8 × List
 UInt8 × List (Int × Int))) (n : Nat) (x : Int) => iter (fun (rec : (Int × Int × Unit) × Unit × Unit × List ((Int × Int) × UInt8 × Int × UInt8 × List UInt8 × List (Int × Int)) × Unit → Option (List ((Int × Int) × UInt8 ×
 Int × UInt8 × List UInt8 × List (Int × Int)) × Unit)) (z : (Int × Int × Unit) × Unit × Unit × List ((Int × Int) × UInt8 × Int × UInt8 × List UInt8 × List (Int × Int)) × Unit) => bif decide (z.fst.snd.fst ≤ x) then
 Option.bind (F_slices_insertionSortCmpFunc_Event N z.snd.snd.snd.fst n z.fst.fst z.fst.snd.fst) fun (y : List ((Int × Int) × UInt8 × Int × UInt8 × List UInt8 × List (Int × Int)) × Unit) => rec ((z.fst.snd.fst,
 IntKind.i64.wrap (z.fst.snd.fst + 20), ()), (), (), y.fst, ()) else Option.bind (F_slices_insertionSortCmpFunc_Event N z.snd.snd.snd.fst n z.fst.fst x) fun (y : List ((Int × Int) × UInt8 × Int × UInt8 × List UInt8 ×
 List (Int × Int)) × Unit) => iter (fun (rec : (Int × Unit) × Unit × Unit × List ((Int × Int) × UInt8 × Int × UInt8 × List UInt8 × List (Int × Int)) × Unit → Option (List ((Int × Int) × UInt8 × Int × UInt8 × List UInt8 ×
 List (Int × Int)) × Unit)) (z : (Int × Unit) × Unit × Unit × List ((Int × Int) × UInt8 × Int × UInt8 × List UInt8 × List (Int × Int)) × Unit) => bif decide (z.fst.fst < x) then iter (fun (rec_1 : (Int × Int × Unit) ×
 Unit × Unit × List ((Int × Int) × UInt8 × Int × UInt8 × List UInt8 × List (Int × Int)) × Unit → Option (List ((Int × Int) × UInt8 × Int × UInt8 × List UInt8 × List (Int × Int)) × Unit)) (z_1 : (Int × Int × Unit) × Unit
 × Unit × List ((Int × Int) × UInt8 × Int × UInt8 × List UInt8 × List (Int × Int)) × Unit) => bif decide (z_1.fst.snd.fst ≤ x) then Option.bind (F_slices_symMergeCmpFunc_Event N z_1.snd.snd.snd.fst n z_1.fst.fst
 (IntKind.i64.wrap (z_1.fst.fst + z.fst.fst)) z_1.fst.snd.fst) fun (y : List ((Int × Int) × UInt8 × Int × UInt8 × List UInt8 × List (Int × Int)) × Unit) => rec_1 ((z_1.fst.snd.fst, IntKind.i64.wrap (z_1.fst.snd.fst +
 IntKind.i64.wrap (2 * z.fst.fst)), ()), (), (), y.fst, ()) else bif decide (IntKind.i64.wrap (z_1.fst.fst + z.fst.fst) < x) then Option.bind (F_slices_symMergeCmpFunc_Event N z_1.snd.snd.snd.fst n z_1.fst.fst
 (IntKind.i64.wrap (z_1.fst.fst + z.fst.fst)) x) fun (y : List ((Int × Int) × UInt8 × Int × UInt8 × List UInt8 × List (Int × Int)) × Unit) => rec ((IntKind.i64.wrap (z.fst.fst * 2), ()), (), (), y.fst, ()) else rec
 ((IntKind.i64.wrap (z.fst.fst * 2), ()), (), (), z_1.snd.snd.snd.fst, ())) N ((0, IntKind.i64.wrap (2 * z.fst.fst), ()), (), (), z.snd.snd.snd.fst, ()) else some (z.snd.snd.snd.fst, ())) N ((20, ()), (), (), y.fst, ()))
 N ((0, 20, ()), (), (), l, ())
theorem E_slices_stableCmpFunc_Event (N : Nat) : runO Try.prog [e_slices_insertionSortCmpFunc_Event N, e_slices_symMergeCmpFunc_Event N, e_event_Sort_1 N] [] N Try.f84 (.seq .lf (.seq .lf (.seq (.blk (.loop ⟨[(7, .d (.int .i64)), (8, .d (.int .i64))], [], [0, 1, 2, 6], [], [], [(1, .arr tEvent)]⟩ .lf)) (.seq .lf (.blk (.loop ⟨[(6, .d (.int .i64))], [], [0, 1, 2], [], [], [(1, .arr tEvent)]⟩ (.seq .lf (.blk (.seq .lf (.seq (.blk (.loop ⟨[(7, .d (.int .i64)), (8, .d (.int .i64))], [], [0, 1, 2, 6], [], [], [(1, .arr tEvent)]⟩ .lf)) .lf)))))))))) tEvent [.d (.int .i64), .c 58] [] = F_slices_stableCmpFunc_Event N := by kernel_rfl
noncomputable def e_slices_stableCmpFunc_Event (N : Nat) : Ent Try.prog := mkO2 84 Try.f84 (.seq .lf (.seq .lf (.seq (.blk (.loop ⟨[(7, .d (.int .i64)), (8, .d (.int .i64))], [], [0, 1, 2, 6], [], [], [(1, .arr tEvent)]⟩ .lf)) (.seq .lf (.blk (.loop ⟨[(6, .d (.int .i64))], [], [0, 1, 2], [], [], [(1, .arr tEvent)]⟩ (.seq .lf (.blk (.seq .lf (.seq (.blk (.loop ⟨[(7, .d (.int .i64)), (8, .d (.int .i64))], [], [0, 1, 2, 6], [], [], [(1, .arr tEvent)]⟩ .lf)) .lf)))))))))) (.seq .lf (.seq .lf (.seq (.blk (.loop ⟨[(7, .d (.int .i64)), (8, .d (.int .i64))], [], [0, 1, 2, 6], [], [], []⟩ .lf)) (.seq .lf (.blk (.loop ⟨[(6, .d (.int .i64))], [], [0, 1, 2], [], [], []⟩ (.seq .lf (.blk (.seq .lf (.seq (.blk (.loop ⟨[(7, .d (.int .i64)), (8, .d (.int .i64))], [], [0, 1, 2, 6], [], [], []⟩ .lf)) .lf)))))))))) tEvent [.d (.int .i64), .c 58] [] (F_slices_stableCmpFunc_Event N) (F0_slices_stableCmpFunc_Event N) mixed Try.func84 (.mk' Try.func84 rfl (by decide)) rfl (E_slices_stableCmpFunc_Event N) (E0_slices_stableCmpFunc_Event N)
noncomputable def F0_slices_SortStableFunc_sEvent_Event (N : Nat) : FunA [.c 58] (Option (ResT (rkTys tEvent []))) := Option.bind (F0_slices_stableCmpFunc_Event N 0) fun (y : Unit) => some ()
theorem E0_slices_SortStableFunc_sEvent_Event (N : Nat) : runO0 Try.prog [e_event_Sort_1 N, e_slices_stableCmpFunc_Event N] [] N Try.f57 .lf tEvent [.c 58] [] = F0_slices_SortStableFunc_sEvent_Event N := by kernel_rfl
noncomputable def F_slices_SortStableFunc_sEvent_Event (N : Nat) : List (tEvent : Ty).T → Nat → FunA [.c 58] (Option (List (tEvent : Ty).T × ResO [])) := fun (l : List ((Int × Int) × UInt8 × Int × UInt8 × List UInt8 ×
 List (Int × Int))) (n : Nat) => Option.bind (F_slices_stableCmpFunc_Event N l n (↑n : Int)) fun (y : List ((Int × Int) × UInt8 × Int × UInt8 × List UInt8 × List (Int × Int)) × Unit) => some (y.fst, ())
theorem E_slices_SortStableFunc_sEvent_Event (N : Nat) : runO Try.prog [e_event_Sort_1 N, e_slices_stableCmpFunc_Event N] [] N Try.f57 .lf tEvent [.c 58] [] = F_slices_SortStableFunc_sEvent_Event N := by kernel_rfl
noncomputable def e_slices_SortStableFunc_sEvent_Event (N : Nat) : Ent Try.prog := mkO2 57 Try.f57 .lf .lf tEvent [.c 58] [] (F_slices_SortStableFunc_sEvent_Event N) (F0_slices_SortStableFunc_sEvent_Event N) mixed Try.func57 (.mk' Try.func57 rfl (by decide)) rfl (E_slices_SortStableFunc_sEvent_Event N) (E0_slices_SortStableFunc_sEvent_Event N)
noncomputable def F_event_Sort_2 (N : Nat) : Fun [tEvent, tEvent] (Option (ResT [.bool])) := fun (x x_1 : (Int × Int) × UInt8 × Int × UInt8 × List UInt8 × List (Int × Int)) => some (x.fst.fst == x_1.fst.fst && x.fst.snd
 == x_1.fst.snd)
theorem E_event_Sort_2 (N : Nat) : runF Try.prog [] [] N Try.f61 .lf [tEvent, tEvent] [.bool] = F_event_Sort_2 N := by kernel_rfl
noncomputable def e_event_Sort_2 (N : Nat) : Ent Try.prog := mkFn 61 Try.f61 .lf [tEvent, tEvent] [.bool] (F_event_Sort_2 N) mixed Try.func61 (.mk' Try.func61 rfl (by decide)) rfl (E_event_Sort_2 N)
noncomputable def F0_slices_CompactFunc_sEvent_Event (N : Nat) : FunA [.c 61] (Option (ResT (rkTys tEvent [.s]))) := some []
theorem E0_slices_CompactFunc_sEvent_Event (N : Nat) : runO0 Try.prog [e_event_Sort_2 N] [] N Try.f60 (.seq .lf (.seq .lf (.seq (.seq .lf (.blk (.loop ⟨[(5, .d (.int .i64))], [], [0, 1], [], [], []⟩ (.seq .lf (.seq (.blk (.seq .lf (.cond (.seq .lf (.seq (.seq .lf (.blk (.loop ⟨[(5, .d (.int .i64)), (7, .d (.int .i64))], [], [0, 1, 6], [], [], []⟩ .lf))) .lf)) .lf))) .lf))))) .lf))) tEvent [.c 61] [.s] = F0_slices_CompactFunc_sEvent_Event N := by kernel_rfl
noncomputable def F_slices_CompactFunc_sEvent_Event (N : Nat) : List (tEvent : Ty).T → Nat → FunA [.c 61] (Option (List (tEvent : Ty).T × ResO [.s])) := fun (l : List ((Int × Int) × UInt8 × Int × UInt8 × List UInt8 ×
 List (Int × Int))) (n : Nat) => bif decide ((↑n : Int) < 2) then some (l, n) else iter (fun (rec : (Int × Unit) × Unit × Unit × List ((Int × Int) × UInt8 × Int × UInt8 × List UInt8 × List (Int × Int)) × Unit → Option
 (List ((Int × Int) × UInt8 × Int × UInt8 × List UInt8 × List (Int × Int)) × Nat)) (z : (Int × Unit) × Unit × Unit × List ((Int × Int) × UInt8 × Int × UInt8 × List UInt8 × List (Int × Int)) × Unit) => bif decide
 (z.fst.fst < (↑n : Int)) then bif decide (0 ≤ z.fst.fst) && decide (z.fst.fst < (↑n : Int)) then z.snd.snd.snd.fst[0 + z.fst.fst.toNat]?.bind fun (e : (Int × Int) × UInt8 × Int × UInt8 × List UInt8 × List (Int × Int))
 => bif decide (0 ≤ IntKind.i64.wrap (z.fst.fst - 1)) && decide (IntKind.i64.wrap (z.fst.fst - 1) < (↑n : Int)) then z.snd.snd.snd.fst[0 + (IntKind.i64.wrap (z.fst.fst - 1)).toNat]?.bind fun (e_1 : (Int × Int) × UInt8 ×
 Int × UInt8 × List UInt8 × List (Int × Int)) => Option.bind (F_event_Sort_2 N e e_1) fun (y : Bool) => bif y then bif cutOk z.fst.fst (↑n : Int) n then iter (fun (rec : (Int × Int × Unit) × Unit × Unit × List ((Int ×
 Int) × UInt8 × Int × UInt8 × List UInt8 × List (Int × Int)) × Unit → Option (List ((Int × Int) × UInt8 × Int × UInt8 × List UInt8 × List (Int × Int)) × Nat)) (z_1 : (Int × Int × Unit) × Unit × Unit × List ((Int × Int) ×
 UInt8 × Int × UInt8 × List UInt8 × List (Int × Int)) × Unit) => bif decide (z_1.fst.snd.fst < (↑((↑n : Int).toNat - z.fst.fst.toNat) : Int)) then bif decide (0 ≤ z_1.fst.snd.fst) && decide (z_1.fst.snd.fst < (↑((↑n :
 Int).toNat - z.fst.fst.toNat) : Int)) then z_1.snd.snd.snd.fst[0 + z.fst.fst.toNat + z_1.fst.snd.fst.toNat]?.bind fun (e : (Int × Int) × UInt8 × Int × UInt8 × List UInt8 × List (Int × Int)) => bif decide (0 ≤
 IntKind.i64.wrap (z_1.fst.snd.fst - 1)) && decide (IntKind.i64.wrap (z_1.fst.snd.fst - 1) < (↑((↑n : Int).toNat - z.fst.fst.toNat) : Int)) then z_1.snd.snd.snd.fst[0 + z.fst.fst.toNat + (IntKind.i64.wrap
 (z_1.fst.snd.fst - 1)).toNat]?.bind fun (e_2 : (Int × Int) × UInt8 × Int × UInt8 × List UInt8 × List (Int × Int)) => Option.bind (F_event_Sort_2 N e e_2) fun (y : Bool) => bif !y then bif decide (0 ≤ z_1.fst.snd.fst) &&
 decide (z_1.fst.snd.fst < (↑((↑n : Int).toNat - z.fst.fst.toNat) : Int)) then z_1.snd.snd.snd.fst[0 + z.fst.fst.toNat + z_1.fst.snd.fst.toNat]?.bind fun (e : (Int × Int) × UInt8 × Int × UInt8 × List UInt8 × List (Int ×
 Int)) => bif decide (0 ≤ z_1.fst.fst) && decide (z_1.fst.fst < (↑n : Int)) then z_1.snd.snd.snd.fst[0 + z_1.fst.fst.toNat]?.bind fun (e_3 : (Int × Int) × UInt8 × Int × UInt8 × List UInt8 × List (Int × Int)) => rec
 ((IntKind.i64.wrap (z_1.fst.fst + 1), IntKind.i64.wrap (z_1.fst.snd.fst + 1), ()), (), (), z_1.snd.snd.snd.fst.set (0 + z_1.fst.fst.toNat) e, ()) else none else none else rec ((z_1.fst.fst, IntKind.i64.wrap
 (z_1.fst.snd.fst + 1), ()), (), (), z_1.snd.snd.snd.fst, ()) else none else none else bif cutOk z_1.fst.fst (↑n : Int) n then bif cutOk 0 z_1.fst.fst n then some (List.take (0 + z_1.fst.fst.toNat) z_1.snd.snd.snd.fst,
 z_1.fst.fst.toNat - 0) else none else none) N ((z.fst.fst, 1, ()), (), (), z.snd.snd.snd.fst, ()) else none else rec ((IntKind.i64.wrap (z.fst.fst + 1), ()), (), (), z.snd.snd.snd.fst, ()) else none else none else some
 (z.snd.snd.snd.fst, n)) N ((1, ()), (), (), l, ())
theorem E_slices_CompactFunc_sEvent_Event (N : Nat) : runO Try.prog [e_event_Sort_2 N] [] N Try.f60 (.seq .lf (.seq .lf (.seq (.seq .lf (.blk (.loop ⟨[(5, .d (.int .i64))], [], [0, 1], [], [], [(1, .arr tEvent)]⟩ (.seq .lf (.seq (.blk (.seq .lf (.cond (.seq .lf (.seq (.seq .lf (.blk (.loop ⟨[(5, .d (.int .i64)), (7, .d (.int .i64))], [], [0, 1, 6], [], [], [(1, .arr tEvent)]⟩ .lf))) .lf)) .lf))) .lf))))) .lf))) tEvent [.c 61] [.s] = F_slices_CompactFunc_sEvent_Event N := by kernel_rfl
noncomputable def e_slices_CompactFunc_sEvent_Event (N : Nat) : Ent Try.prog := mkO2 60 Try.f60 (.seq .lf (.seq .lf (.seq (.seq .lf (.blk (.loop ⟨[(5, .d (.int .i64))], [], [0, 1], [], [], [(1, .arr tEvent)]⟩ (.seq .lf (.seq (.blk (.seq .lf (.cond (.seq .lf (.seq (.seq .lf (.blk (.loop ⟨[(5, .d (.int .i64)), (7, .d (.int .i64))], [], [0, 1, 6], [], [], [(1, .arr tEvent)]⟩ .lf))) .lf)) .lf))) .lf))))) .lf))) (.seq .lf (.seq .lf (.seq (.seq .lf (.blk (.loop ⟨[(5, .d (.int .i64))], [], [0, 1], [], [], []⟩ (.seq .lf (.seq (.blk (.seq .lf (.cond (.seq .lf (.seq (.seq .lf (.blk (.loop ⟨[(5, .d (.int .i64)), (7, .d (.int .i64))], [], [0, 1, 6], [], [], []⟩ .lf))) .lf)) .lf))) .lf))))) .lf))) tEvent [.c 61] [.s] (F_slices_CompactFunc_sEvent_Event N) (F0_slices_CompactFunc_sEvent_Event N) mixed Try.func60 (.mk' Try.func60 rfl (by decide)) rfl (E_slices_CompactFunc_sEvent_Event N) (E0_slices_CompactFunc_sEvent_Event N)
noncomputable def F_event_Sort (N : Nat) : Fun [(.sl tEvent)] (Option (ResT [(.sl tEvent)])) := fun (x : List ((Int × Int) × UInt8 × Int × UInt8 × List UInt8 × List (Int × Int))) => iter (fun (rec : (Int × Unit) × Unit ×
 (Option (List ((Int × Int) × UInt8 × Int × UInt8 × List UInt8 × List (Int × Int)) × Nat) × Unit) × Unit → Option (List ((Int × Int) × UInt8 × Int × UInt8 × List UInt8 × List (Int × Int)))) (z : (Int × Unit) × Unit ×
 (Option (List ((Int × Int) × UInt8 × Int × UInt8 × List UInt8 × List (Int × Int)) × Nat) × Unit) × Unit) => optCase z.snd.snd.fst.fst (bif decide (z.fst.fst < (↑x.length : Int)) then (at? x z.fst.fst).bind fun (e : (Int
 × Int) × UInt8 × Int × UInt8 × List UInt8 × List (Int × Int)) => Option.bind (F_event_Copy N e) fun (y : (Int × Int) × UInt8 × Int × UInt8 × List UInt8 × List (Int × Int)) => rec ((IntKind.i64.wrap (z.fst.fst + 1), ()),
 (), (some ([y], [y].length), ()), ()) else Option.bind (F0_slices_SortStableFunc_sEvent_Event N) fun (y : Unit) => Option.bind (F0_slices_CompactFunc_sEvent_Event N) fun (y : List ((Int × Int) × UInt8 × Int × UInt8 ×
 List UInt8 × List (Int × Int))) => some y) fun (y : List ((Int × Int) × UInt8 × Int × UInt8 × List UInt8 × List (Int × Int)) × Nat) => bif decide (z.fst.fst < (↑x.length : Int)) then (at? x z.fst.fst).bind fun (e : (Int
 × Int) × UInt8 × Int × UInt8 × List UInt8 × List (Int × Int)) => Option.bind (F_event_Copy N e) fun (y_1 : (Int × Int) × UInt8 × Int × UInt8 × List UInt8 × List (Int × Int)) => bif y.fst.length.beq y.snd then bif fitsB
 (y.snd + [y_1].length) 80 then rec ((IntKind.i64.wrap (z.fst.fst + 1), ()), (), (some (y.fst ++ [y_1], y.snd + [y_1].length), ()), ()) else none else none else Option.bind (F_slices_SortStableFunc_sEvent_Event N y.fst
 y.snd) fun (y_1 : List ((Int × Int) × UInt8 × Int × UInt8 × List UInt8 × List (Int × Int)) × Unit) => Option.bind (F_slices_CompactFunc_sEvent_Event N y_1.fst y.snd) fun (y : List ((Int × Int) × UInt8 × Int × UInt8 ×
 List UInt8 × List (Int × Int)) × Nat) => bif (0 + y.snd).ble y.fst.length then some (List.take y.snd (List.drop 0 y.fst)) else none) N ((0, ()), (), (none, ()), ())
theorem E_event_Sort (N : Nat) : runF Try.prog [e_event_Copy N, e_slices_SortStableFunc_sEvent_Event N, e_event_Sort_1 N, e_slices_CompactFunc_sEvent_Event N, e_event_Sort_2 N] [16] N Try.f20 (.seq .lf (.seq .lf (.seq (.seq .lf (.blk (.loop ⟨[(8, .d (.int .i64))], [], [6, 7], [], [(3, 400003, tEvent)], []⟩ .lf))) .lf))) [(.sl tEvent)] [(.sl tEvent)] = F_event_Sort N := by kernel_rfl
noncomputable def e_event_Sort (N : Nat) : Ent Try.prog := mkFn 20 Try.f20 (.seq .lf (.seq .lf (.seq (.seq .lf (.blk (.loop ⟨[(8, .d (.int .i64))], [], [6, 7], [], [(3, 400003, tEvent)], []⟩ .lf))) .lf))) [(.sl tEvent)] [(.sl tEvent)] (F_event_Sort N) mixed Try.func20 (.mk' Try.func20 rfl (by decide)) rfl (E_event_Sort N)
noncomputable def F_event_Dots (N : Nat) : Fun [(.sl tEvent)] (Option (ResT [(.sl tDot)])) := fun (x : List ((Int × Int) × UInt8 × Int × UInt8 × List UInt8 × List (Int × Int))) => iter (fun (rec : (List (Int × Int) × Int
 × Unit) × Unit × Unit × Unit → Option (List (Int × Int))) (z : (List (Int × Int) × Int × Unit) × Unit × Unit × Unit) => bif decide (z.fst.snd.fst < (↑x.length : Int)) then (at? x z.fst.snd.fst).bind fun (e : (Int × Int)
 × UInt8 × Int × UInt8 × List UInt8 × List (Int × Int)) => bif fitsB (z.fst.fst.length + [e.fst].length) 16 then bif fitsB ((z.fst.fst ++ [e.fst]).length + e.snd.snd.snd.snd.snd.length) 16 then rec ((z.fst.fst ++ [e.fst]
 ++ e.snd.snd.snd.snd.snd, IntKind.i64.wrap (z.fst.snd.fst + 1), ()), (), (), ()) else none else none else Option.bind (F_dot_Sort N z.fst.fst) fun (y : List (Int × Int)) => some y) N (([], 0, ()), (), (), ())
theorem E_event_Dots (N : Nat) : runF Try.prog [e_dot_Sort N] [] N Try.f22 (.seq .lf (.seq .lf (.seq (.seq .lf (.blk (.loop ⟨[(3, .tip 200003 tDot none), (8, .d (.int .i64))], [], [6, 7], [], [], []⟩ .lf))) .lf))) [(.sl tEvent)] [(.sl tDot)] = F_event_Dots N := by kernel_rfl
noncomputable def e_event_Dots (N : Nat) : Ent Try.prog := mkFn 22 Try.f22 (.seq .lf (.seq .lf (.seq (.seq .lf (.blk (.loop ⟨[(3, .tip 200003 tDot none), (8, .d (.int .i64))], [], [6, 7], [], [], []⟩ .lf))) .lf))) [(.sl tEvent)] [(.sl tDot)] (F_event_Dots N) mixed Try.func22 (.mk' Try.func22 rfl (by decide)) rfl (E_event_Dots N)
noncomputable def F_epitaphlaw13_works (N : Nat) : Fun [] (Option (ResT [.bool])) := Option.bind (F_event_Dots N [((2, 1), 1, 0, 0, [], [(1, 4), (1, 9)])]) fun (y : List (Int × Int)) => Option.bind (F_epitaphref07_Same N
 y [(1, 4), (1, 9), (2, 1)]) fun (y : Bool) => some y
theorem E_epitaphlaw13_works (N : Nat) : runF Try.prog [e_event_Dots N, e_epitaphref07_Same N] [] N Try.f24 .lf [] [.bool] = F_epitaphlaw13_works N := by kernel_rfl
noncomputable def e_epitaphlaw13_works (N : Nat) : Ent Try.prog := mkFn 24 Try.f24 .lf [] [.bool] (F_epitaphlaw13_works N) mixed Try.func24 (.mk' Try.func24 rfl (by decide)) rfl (E_epitaphlaw13_works N)
noncomputable def F_epitaphref13_Same (N : Nat) : Fun [tEvent, tEvent] (Option (ResT [.bool])) := fun (x x_1 : (Int × Int) × UInt8 × Int × UInt8 × List UInt8 × List (Int × Int)) => bif x.fst.fst == x_1.fst.fst &&
 x.fst.snd == x_1.fst.snd then bif x.snd.fst == x_1.snd.fst then bif x.snd.snd.fst == x_1.snd.snd.fst then bif x.snd.snd.snd.fst == x_1.snd.snd.snd.fst then bif x.snd.snd.snd.snd.fst == x_1.snd.snd.snd.snd.fst then
 Option.bind (F_epitaphref07_Same N x.snd.snd.snd.snd.snd x_1.snd.snd.snd.snd.snd) fun (y : Bool) => some y else some false else some false else some false else some false else some false
theorem E_epitaphref13_Same (N : Nat) : runF Try.prog [e_epitaphref07_Same N] [] N Try.f21 .lf [tEvent, tEvent] [.bool] = F_epitaphref13_Same N := by kernel_rfl
noncomputable def e_epitaphref13_Same (N : Nat) : Ent Try.prog := mkFn 21 Try.f21 .lf [tEvent, tEvent] [.bool] (F_epitaphref13_Same N) mixed Try.func21 (.mk' Try.func21 rfl (by decide)) rfl (E_epitaphref13_Same N)
noncomputable def F_epitaphref13_All (N : Nat) : Fun [(.sl tEvent), (.sl tEvent)] (Option (ResT [.bool])) := fun (x x_1 : List ((Int × Int) × UInt8 × Int × UInt8 × List UInt8 × List (Int × Int))) => bif (↑x.length : Int)
 != (↑x_1.length : Int) then some false else iter (fun (rec : (Int × Unit) × Unit × Unit × Unit → Option Bool) (z : (Int × Unit) × Unit × Unit × Unit) => bif decide (z.fst.fst < (↑x.length : Int)) then (at? x
 z.fst.fst).bind fun (e : (Int × Int) × UInt8 × Int × UInt8 × List UInt8 × List (Int × Int)) => (at? x_1 z.fst.fst).bind fun (e_1 : (Int × Int) × UInt8 × Int × UInt8 × List UInt8 × List (Int × Int)) => Option.bind
 (F_epitaphref13_Same N e e_1) fun (y : Bool) => bif !y then some false else rec ((IntKind.i64.wrap (z.fst.fst + 1), ()), (), (), ()) else some true) N ((0, ()), (), (), ())
theorem E_epitaphref13_All (N : Nat) : runF Try.prog [e_epitaphref13_Same N] [] N Try.f26 (.seq .lf (.seq .lf (.seq (.seq .lf (.blk (.loop ⟨[(5, .d (.int .i64))], [], [0, 1], [], [], []⟩ .lf))) .lf))) [(.sl tEvent), (.sl tEvent)] [.bool] = F_epitaphref13_All N := by kernel_rfl
noncomputable def e_epitaphref13_All (N : Nat) : Ent Try.prog := mkFn 26 Try.f26 (.seq .lf (.seq .lf (.seq (.seq .lf (.blk (.loop ⟨[(5, .d (.int .i64))], [], [0, 1], [], [], []⟩ .lf))) .lf))) [(.sl tEvent), (.sl tEvent)] [.bool] (F_epitaphref13_All N) mixed Try.func26 (.mk' Try.func26 rfl (by decide)) rfl (E_epitaphref13_All N)
noncomputable def F_epitaphref13_Dots (N : Nat) : Fun [(.sl tEvent)] (Option (ResT [(.sl tDot)])) := fun (x : List ((Int × Int) × UInt8 × Int × UInt8 × List UInt8 × List (Int × Int))) => iter (fun (rec : (List (Int ×
 Int) × Int × Unit) × Unit × Unit × Unit → Option (List (Int × Int))) (z : (List (Int × Int) × Int × Unit) × Unit × Unit × Unit) => bif decide (z.fst.snd.fst < (↑x.length : Int)) then (at? x z.fst.snd.fst).bind fun (e :
 (Int × Int) × UInt8 × Int × UInt8 × List UInt8 × List (Int × Int)) => Option.bind (F_epitaphref07_Put N z.fst.fst e.fst) fun (y : List (Int × Int)) => iter (fun (rec_1 : (List (Int × Int) × Int × Unit) × Unit × Unit ×
 Unit → Option (List (Int × Int))) (z_1 : (List (Int × Int) × Int × Unit) × Unit × Unit × Unit) => (at? x z.fst.snd.fst).bind fun (e : (Int × Int) × UInt8 × Int × UInt8 × List UInt8 × List (Int × Int)) => bif decide
 (z_1.fst.snd.fst < (↑e.snd.snd.snd.snd.snd.length : Int)) then (at? x z.fst.snd.fst).bind fun (e : (Int × Int) × UInt8 × Int × UInt8 × List UInt8 × List (Int × Int)) => (at? e.snd.snd.snd.snd.snd z_1.fst.snd.fst).bind
 fun (e : Int × Int) => Option.bind (F_epitaphref07_Put N z_1.fst.fst e) fun (y : List (Int × Int)) => rec_1 ((y, IntKind.i64.wrap (z_1.fst.snd.fst + 1), ()), (), (), ()) else rec ((z_1.fst.fst, IntKind.i64.wrap
 (z.fst.snd.fst + 1), ()), (), (), ())) N ((y, 0, ()), (), (), ()) else some z.fst.fst) N (([], 0, ()), (), (), ())
theorem E_epitaphref13_Dots (N : Nat) : runF Try.prog [e_epitaphref07_Put N] [] N Try.f28 (.seq .lf (.seq .lf (.seq (.seq .lf (.blk (.loop ⟨[(3, .d (.sl tDot)), (4, .d (.int .i64))], [], [0], [], [], []⟩ (.seq .lf (.seq (.blk (.seq .lf (.seq .lf (.blk (.loop ⟨[(3, .d (.sl tDot)), (5, .d (.int .i64))], [], [0, 4], [], [], []⟩ .lf))))) .lf))))) .lf))) [(.sl tEvent)] [(.sl tDot)] = F_epitaphref13_Dots N := by kernel_rfl
noncomputable def e_epitaphref13_Dots (N : Nat) : Ent Try.prog := mkFn 28 Try.f28 (.seq .lf (.seq .lf (.seq (.seq .lf (.blk (.loop ⟨[(3, .d (.sl tDot)), (4, .d (.int .i64))], [], [0], [], [], []⟩ (.seq .lf (.seq (.blk (.seq .lf (.seq .lf (.blk (.loop ⟨[(3, .d (.sl tDot)), (5, .d (.int .i64))], [], [0, 4], [], [], []⟩ .lf))))) .lf))))) .lf))) [(.sl tEvent)] [(.sl tDot)] (F_epitaphref13_Dots N) mixed Try.func28 (.mk' Try.func28 rfl (by decide)) rfl (E_epitaphref13_Dots N)
noncomputable def F_event_Same (N : Nat) : Fun [tEvent, tEvent] (Option (ResT [.bool])) := fun (x x_1 : (Int × Int) × UInt8 × Int × UInt8 × List UInt8 × List (Int × Int)) => bif x.fst.fst == x_1.fst.fst && x.fst.snd ==
 x_1.fst.snd then bif x.snd.fst == x_1.snd.fst then bif x.snd.snd.fst == x_1.snd.snd.fst then bif x.snd.snd.snd.fst == x_1.snd.snd.snd.fst then bif x.snd.snd.snd.snd.fst == x_1.snd.snd.snd.snd.fst then Option.bind
 (F_dot_Same N x.snd.snd.snd.snd.snd x_1.snd.snd.snd.snd.snd) fun (y : Bool) => some y else some false else some false else some false else some false else some false
theorem E_event_Same (N : Nat) : runF Try.prog [e_dot_Same N] [] N Try.f23 .lf [tEvent, tEvent] [.bool] = F_event_Same N := by kernel_rfl
noncomputable def e_event_Same (N : Nat) : Ent Try.prog := mkFn 23 Try.f23 .lf [tEvent, tEvent] [.bool] (F_event_Same N) mixed Try.func23 (.mk' Try.func23 rfl (by decide)) rfl (E_event_Same N)
@[reducible] def S_slices_EqualFunc_sEvent_sEvent_Event_Event : CSp := ⟨[.d (.sl tEvent), .d (.sl tEvent), .clo 23 []], [], [], ⟨[(6, .d .bool)], [], [], [], [], []⟩⟩
noncomputable def F_slices_EqualFunc_sEvent_sEvent_Event_Event (N : Nat) : CSp.Fun S_slices_EqualFunc_sEvent_sEvent_Event_Event (Option S_slices_EqualFunc_sEvent_sEvent_Event_Event.out.T) := fun (y y_1 : List ((Int ×
 Int) × UInt8 × Int × UInt8 × List UInt8 × List (Int × Int))) => bif (↑y.length : Int) != (↑y_1.length : Int) then some ((false, ()), (), (), ()) else iter (fun (rec : (Int × Unit) × Unit × Unit × Unit → Option ((Bool ×
 Unit) × Unit × Unit × Unit)) (z : (Int × Unit) × Unit × Unit × Unit) => bif decide (z.fst.fst < (↑y.length : Int)) then (at? y z.fst.fst).bind fun (e : (Int × Int) × UInt8 × Int × UInt8 × List UInt8 × List (Int × Int))
 => (at? y_1 z.fst.fst).bind fun (e_1 : (Int × Int) × UInt8 × Int × UInt8 × List UInt8 × List (Int × Int)) => Option.bind (F_event_Same N e e_1) fun (y : Bool) => bif !y then some ((false, ()), (), (), ()) else rec
 ((IntKind.i64.wrap (z.fst.fst + 1), ()), (), (), ()) else some ((true, ()), (), (), ())) N ((0, ()), (), (), ())
theorem E_slices_EqualFunc_sEvent_sEvent_Event_Event (N : Nat) : runC Try.prog [e_event_Same N] [] N Try.f65 (.seq .lf (.seq .lf (.seq (.seq .lf (.blk (.loop ⟨[(17, .d (.int .i64))], [], [1, 2, 15, 16], [], [], []⟩ .lf))) .lf))) S_slices_EqualFunc_sEvent_sEvent_Event_Event = F_slices_EqualFunc_sEvent_sEvent_Event_Event N := by kernel_rfl
noncomputable def e_slices_EqualFunc_sEvent_sEvent_Event_Event (N : Nat) : Ent Try.prog := mkC 65 Try.f65 (.seq .lf (.seq .lf (.seq (.seq .lf (.blk (.loop ⟨[(17, .d (.int .i64))], [], [1, 2, 15, 16], [], [], []⟩ .lf))) .lf))) S_slices_EqualFunc_sEvent_sEvent_Event_Event (F_slices_EqualFunc_sEvent_sEvent_Event_Event N) mixed Try.func65 (.mk' Try.func65 rfl (by decide)) rfl rfl rfl (E_slices_EqualFunc_sEvent_sEvent_Event_Event N)
noncomputable def F_event_All (N : Nat) : Fun [(.sl tEvent), (.sl tEvent)] (Option (ResT [.bool])) := fun (x x_1 : List ((Int × Int) × UInt8 × Int × UInt8 × List UInt8 × List (Int × Int))) => Option.bind
 (F_slices_EqualFunc_sEvent_sEvent_Event_Event N x x_1) fun (y : (Bool × Unit) × Unit × Unit × Unit) => some y.fst.fst
theorem E_event_All (N : Nat) : runF Try.prog [e_event_Same N, e_slices_EqualFunc_sEvent_sEvent_Event_Event N] [] N Try.f29 .lf [(.sl tEvent), (.sl tEvent)] [.bool] = F_event_All N := by kernel_rfl
noncomputable def e_event_All (N : Nat) : Ent Try.prog := mkFn 29 Try.f29 .lf [(.sl tEvent), (.sl tEvent)] [.bool] (F_event_All N) mixed Try.func29 (.mk' Try.func29 rfl (by decide)) rfl (E_event_All N)
noncomputable def F_epitaphref13_Few (N : Nat) : Fun [(.sl tEvent), (.int .i64)] (Option (ResT [.bool])) := fun (x : List ((Int × Int) × UInt8 × Int × UInt8 × List UInt8 × List (Int × Int))) (x_1 : Int) => bif decide
 (x_1 < (↑x.length : Int)) then some false else iter (fun (rec : (Int × Unit) × Unit × Unit × Unit → Option Bool) (z : (Int × Unit) × Unit × Unit × Unit) => bif decide (z.fst.fst < (↑x.length : Int)) then (at? x
 z.fst.fst).bind fun (e : (Int × Int) × UInt8 × Int × UInt8 × List UInt8 × List (Int × Int)) => bif decide (300 < (↑e.snd.snd.snd.snd.snd.length : Int)) then some false else (at? x z.fst.fst).bind fun (e : (Int × Int) ×
 UInt8 × Int × UInt8 × List UInt8 × List (Int × Int)) => bif decide (200 < (↑e.snd.snd.snd.snd.fst.length : Int)) then some false else rec ((IntKind.i64.wrap (z.fst.fst + 1), ()), (), (), ()) else some true) N ((0, ()),
 (), (), ())
theorem E_epitaphref13_Few (N : Nat) : runF Try.prog [] [] N Try.f8 (.seq .lf (.seq .lf (.seq (.seq .lf (.blk (.loop ⟨[(5, .d (.int .i64))], [], [0], [], [], []⟩ .lf))) .lf))) [(.sl tEvent), (.int .i64)] [.bool] = F_epitaphref13_Few N := by kernel_rfl
noncomputable def e_epitaphref13_Few (N : Nat) : Ent Try.prog := mkFn 8 Try.f8 (.seq .lf (.seq .lf (.seq (.seq .lf (.blk (.loop ⟨[(5, .d (.int .i64))], [], [0], [], [], []⟩ .lf))) .lf))) [(.sl tEvent), (.int .i64)] [.bool] (F_epitaphref13_Few N) mixed Try.func8 (.mk' Try.func8 rfl (by decide)) rfl (E_epitaphref13_Few N)
noncomputable def F_epitaphlaw13_EventLists (N : Nat) : Fun [(.sl tEvent), (.sl tEvent)] (Option (ResT [.bool])) := fun (x x_1 : List ((Int × Int) × UInt8 × Int × UInt8 × List UInt8 × List (Int × Int))) => Option.bind
 (F_epitaphref13_Few N x 30) fun (y : Bool) => bif !y then Option.bind (F_epitaphlaw13_works N) fun (y : Bool) => some y else Option.bind (F_epitaphref13_Few N x_1 30) fun (y : Bool) => bif !y then Option.bind
 (F_epitaphlaw13_works N) fun (y : Bool) => some y else Option.bind (F_event_Sort N x) fun (y : List ((Int × Int) × UInt8 × Int × UInt8 × List UInt8 × List (Int × Int))) => iter (fun (rec : (Int × Unit) × Unit × Unit ×
 Unit → Option Bool) (z : (Int × Unit) × Unit × Unit × Unit) => bif decide (z.fst.fst < (↑y.length : Int)) then (at? y (IntKind.i64.wrap (z.fst.fst - 1))).bind fun (e : (Int × Int) × UInt8 × Int × UInt8 × List UInt8 ×
 List (Int × Int)) => (at? y z.fst.fst).bind fun (e_1 : (Int × Int) × UInt8 × Int × UInt8 × List UInt8 × List (Int × Int)) => Option.bind (F_epitaphref07_Cmp N e.fst e_1.fst) fun (y : Int) => bif decide (0 ≤ y) then some
 false else rec ((IntKind.i64.wrap (z.fst.fst + 1), ()), (), (), ()) else Option.bind (F_epitaphref13_Sort N x) fun (y_1 : List ((Int × Int) × UInt8 × Int × UInt8 × List UInt8 × List (Int × Int))) => Option.bind
 (F_epitaphref13_All N y y_1) fun (y_2 : Bool) => bif y_2 then Option.bind (F_event_Dots N x) fun (y_3 : List (Int × Int)) => Option.bind (F_epitaphref13_Dots N x) fun (y_4 : List (Int × Int)) => Option.bind
 (F_epitaphref07_Same N y_3 y_4) fun (y_5 : Bool) => bif y_5 then Option.bind (F_event_All N x x_1) fun (y_6 : Bool) => Option.bind (F_epitaphref13_All N x x_1) fun (y_7 : Bool) => bif y_6 == y_7 then Option.bind
 (F_event_Sort N y) fun (y_8 : List ((Int × Int) × UInt8 × Int × UInt8 × List UInt8 × List (Int × Int))) => Option.bind (F_epitaphref13_All N y_8 y) fun (y : Bool) => bif y then Option.bind (F_epitaphlaw13_works N) fun
 (y : Bool) => some y else some false else some false else some false else some false) N ((1, ()), (), (), ())
theorem E_epitaphlaw13_EventLists (N : Nat) : runF Try.prog [e_epitaphref13_Sort N, e_event_Sort N, e_event_Dots N, e_epitaphlaw13_works N, e_epitaphref07_Cmp N, e_epitaphref13_All N, e_epitaphref07_Same N, e_epitaphref13_Dots N, e_event_All N, e_epitaphref13_Few N] [] N Try.f6 (.seq .lf (.seq .lf (.seq .lf (.seq (.seq .lf (.blk (.loop ⟨[(6, .d (.int .i64))], [], [0, 1, 5], [], [], []⟩ .lf))) .lf)))) [(.sl tEvent), (.sl tEvent)] [.bool] = F_epitaphlaw13_EventLists N := by kernel_rfl
theorem D_epitaphlaw13_EventLists (N : Nat) : SoundF Try.prog 6 [.bool] [(.sl tEvent), (.sl tEvent)] (F_epitaphlaw13_EventLists N) [] := E_epitaphlaw13_EventLists N ▸ runF_sound mixed Try.func6 rfl
end Go.Proofs.Xg
set_option linter.unusedVariables false
set_option linter.unusedSimpArgs false
namespace Go.Proofs.Xg
open Go Go.Xl Go.Ab Go.Proofs Go.Sort
section
variable {α : Type} [DecidableEq α]
def compGo (p : α) : List α → List α
  | [] => []
  | y :: r => if y = p then compGo p r else y :: compGo y r
def comp : List α → List α
  | [] => []
  | x :: r => x :: compGo x r
theorem compGo_snoc (q y : α) : ∀ (p : α) (l : List α), (p :: l).getLast? = some q → compGo p (l ++ [y]) = if y = q then compGo p l else compGo p l ++ [y]
  | p, [], h => by
    simp at h
    subst h
    simp [compGo]
  | p, x :: r, h => by
    rw [List.getLast?_cons_cons] at h
    simp only [List.cons_append, compGo]
    have ih := compGo_snoc q y x r h
    by_cases hx : x = p
    · subst hx
      rw [if_pos rfl, if_pos rfl, ih]
    · rw [if_neg hx, if_neg hx, ih]
      by_cases hy : y = q
      · rw [if_pos hy, if_pos hy]
      · rw [if_neg hy, if_neg hy]; rfl
theorem comp_take_succ {l : List α} {m : Nat} (hm : 0 < m) {a b : α} (ha : l[m - 1]? = some a) (hb : l[m]? = some b) : comp (l.take (m + 1)) = if b = a then comp (l.take m) else comp (l.take m) ++ [b] := by
  have hlt : m < l.length := (List.getElem?_eq_some_iff.1 hb).1
  have e : l.take (m + 1) = l.take m ++ [b] := by
    rw [List.take_add_one, hb]; rfl
  rw [e]
  cases hl : l.take m with
  | nil => simp at hl; rcases hl with h | h <;> (subst h; simp at *)
  | cons x r =>
    have hlast : (x :: r).getLast? = some a := by
      rw [← hl, List.getLast?_eq_getElem?, List.length_take, List.getElem?_take, Nat.min_eq_left (by omega), if_pos (by omega)]; exact ha
    simp only [List.cons_append, comp]
    rw [compGo_snoc a b x r hlast]
    by_cases h : b = a
    · rw [if_pos h, if_pos h]
    · rw [if_neg h, if_neg h]
theorem comp_one (l : List α) : comp (l.take 1) = l.take 1 := by
  cases l with
  | nil => rfl
  | cons x r => simp [comp, compGo]
end
theorem dot_eq (e f : Int × Int) : (e.fst == f.fst && e.snd == f.snd) = decide (e = f) := by
  obtain ⟨a, b⟩ := e; obtain ⟨c, d⟩ := f
  by_cases h1 : a = c <;> by_cases h2 : b = d <;> simp [h1, h2]
end Go.Proofs.Xg
set_option linter.unusedVariables false
set_option linter.unusedSimpArgs false
namespace Go.Proofs.Xg
open Go Go.Xl Go.Ab Go.Proofs Go.Sort
theorem getElem?_lt {α : Type} {l : List α} {i : Nat} (h : i < l.length) : l[i]? = some l[i] := List.getElem?_eq_getElem h
theorem toNat_nat (n : Nat) : ((n : Int)).toNat = n := rfl
def CompactQ (l : List (Int × Int)) (r : List (Int × Int) × Nat) : Prop := r.1.take r.2 = comp l ∧ r.2 ≤ r.1.length
theorem compact_eq (N : Nat) (l : List (Int × Int)) (hb : l.length < 4611686018427387904) (hN : l.length < N) : ∃ r, F_slices_Compact_sDot_Dot N l l.length = some r ∧ CompactQ l r := by
  unfold F_slices_Compact_sDot_Dot
  simp only [cond_eq_ite, dot_eq]
  by_cases h2 : ((l.length : Nat) : Int) < 2
  · rw [if_pos (by simpa using h2)]
    refine ⟨_, rfl, ?_, Nat.le_refl _⟩
    have : l = l.take 1 := by rw [List.take_of_length_le (by omega)]
    rw [List.take_length, this, comp_one]
  · rw [if_neg (by simpa using h2)]
    refine iter_ok (fun n z => ∃ k : Nat, z = (((k : Int), ()), (), (), l, ()) ∧ 1 ≤ k ∧ k ≤ l.length ∧ n = l.length - k ∧ comp (l.take k) = l.take k) ?_ N (l.length - 1) _ ⟨1, rfl, by omega, by omega, rfl, comp_one l⟩ (by omega)
    rintro n z rec ⟨k, rfl, k1, k2, hn, hc⟩ ih
    simp only
    by_cases hk : k < l.length
    · have e1 : IntKind.i64.wrap ((k : Int) - 1) = ((k - 1 : Nat) : Int) := i64_pred (by omega) (by omega)
      have e2 : IntKind.i64.wrap ((k : Int) + 1) = ((k + 1 : Nat) : Int) := i64_succ (by omega)
      simp only [e1, e2, toNat_nat, Nat.zero_add, getElem?_lt hk, getElem?_lt (show k - 1 < l.length by omega), Option.bind_some]
      rw [if_pos (by simp; omega), if_pos (by simp; omega), if_pos (by simp; omega)]
      have hstep := comp_take_succ (l := l) (m := k) (by omega) (getElem?_lt (show k - 1 < l.length by omega)) (getElem?_lt hk)
      by_cases he : l[k] = l[k - 1]
      · rw [if_pos (by simpa using he), if_pos (by simp [cutOk]; omega)]
        refine iter_ok (fun n z => ∃ (i q : Nat) (c : List (Int × Int)), z = (((i : Int), (q : Int), ()), (), (), c, ()) ∧ 1 ≤ q ∧ k + q ≤ l.length ∧ i + 1 ≤ k + q ∧ c.length = l.length ∧
          (∀ j, i ≤ j → c[j]? = l[j]?) ∧ c.take i = comp (l.take (k + q)) ∧ n = l.length - (k + q)) ?_ N (l.length - (k + 1)) _
          ⟨k, 1, l, rfl, by omega, by omega, by omega, rfl, fun _ _ => rfl, by rw [hstep, if_pos he, hc], rfl⟩ (by omega)
        rintro n z rec ⟨i, q, c, rfl, q1, q2, q3, hcl, hcj, hct, hn⟩ ih'
        simp only
        by_cases hq : k + q < l.length
        · have f1 : IntKind.i64.wrap ((q : Int) - 1) = ((q - 1 : Nat) : Int) := i64_pred (by omega) (by omega)
          have f2 : IntKind.i64.wrap ((q : Int) + 1) = ((q + 1 : Nat) : Int) := i64_succ (by omega)
          have f3 : IntKind.i64.wrap ((i : Int) + 1) = ((i + 1 : Nat) : Int) := i64_succ (by omega)
          have g1 : c[k + q]? = some l[k + q] := by rw [hcj _ (by omega), getElem?_lt hq]
          have g2 : c[k + (q - 1)]? = some l[k + (q - 1)] := by rw [hcj _ (by omega), getElem?_lt (by omega)]
          have g3 : c[i]? = some (c[i]'(by omega)) := getElem?_lt (by omega)
          simp only [f1, f2, f3, toNat_nat, Nat.zero_add, g1, g2, g3, Option.bind_some]
          rw [if_pos (by simp; omega), if_pos (by simp; omega), if_pos (by simp; omega)]
          have hs := comp_take_succ (l := l) (m := k + q) (a := l[k + (q - 1)]) (by omega) (by rw [show k + q - 1 = k + (q - 1) by omega]; exact getElem?_lt _) (getElem?_lt hq)
          by_cases hne : l[k + q] = l[k + (q - 1)]
          · rw [if_neg (by simpa using hne)]
            refine ih' (l.length - (k + (q + 1))) _ (by omega) ⟨i, q + 1, c, rfl, by omega, by omega, by omega, hcl, hcj, ?_, rfl⟩
            rw [hct, ← Nat.add_assoc, hs, if_pos hne]
          · rw [if_pos (by simpa using hne), if_pos (by simp; omega), if_pos (by simp; omega)]
            refine ih' (l.length - (k + (q + 1))) _ (by omega) ⟨i + 1, q + 1, c.set i l[k + q], rfl, by omega, by omega, by omega, by simpa using hcl, ?_, ?_, rfl⟩
            · intro j hj
              rw [List.getElem?_set_ne (by omega)]
              exact hcj j (by omega)
            · rw [← Nat.add_assoc, hs, if_neg hne, ← hct, List.take_add_one, List.take_set_of_le (Nat.le_refl _), List.getElem?_set_self (by omega)]; rfl
        · rw [if_neg (by simp; omega), if_pos (by simp [cutOk]; omega), if_pos (by simp [cutOk]; omega)]
          refine ⟨_, rfl, ?_, ?_⟩
          · have : k + q = l.length := by omega
            rw [this, List.take_length] at hct
            simp only [toNat_nat, Nat.zero_add, Nat.sub_zero, CompactQ]
            rw [← hct, List.take_take, Nat.min_self]
          · simp only [toNat_nat, Nat.sub_zero, Nat.zero_add, List.length_take]; omega
      · rw [if_neg (by simpa using he)]
        refine ih (l.length - (k + 1)) _ (by omega) ⟨k + 1, rfl, by omega, by omega, rfl, ?_⟩
        rw [hstep, if_neg he, hc, List.take_add_one, getElem?_lt hk]; rfl
    · rw [if_neg (by simp; omega)]
      refine ⟨_, rfl, ?_, Nat.le_refl _⟩
      have : k = l.length := by omega
      subst this
      rw [List.take_length] at hc ⊢
      exact hc.symm
end Go.Proofs.Xg
set_option linter.unusedVariables false
set_option linter.unusedSimpArgs false
namespace Go.Proofs.Xg
open Go Go.Xl Go.Ab Go.Proofs Go.Sort
def sortDots (l : List (Int × Int)) : List (Int × Int) := comp (F_SortFunc_Dot l)
theorem sort_length (l : List (Int × Int)) : (F_SortFunc_Dot l).length = l.length := by simp [F_SortFunc_Dot]
theorem dotSort_eq (N : Nat) (l : List (Int × Int)) (hb : l.length * 16 ≤ 140737488355328) (hN : l.length < N) : F_dot_Sort N l = some (sortDots l) := by
  unfold F_dot_Sort
  cases l with
  | nil =>
    simp only [listCase, optCase, Option.bind_some, sortDots, F_SortFunc_Dot, List.mergeSort_nil, comp]
    rfl
  | cons x r =>
    have hlen : (x :: r).length < 4611686018427387904 := by omega
    have hfit : fitsB (x :: r).length 16 = true := by
      simp only [fitsB, Bool.and_eq_true, decide_eq_true_eq]
      omega
    generalize hl : x :: r = l at *
    have hs := sort_length l
    obtain ⟨q, hq, h1, h2⟩ := compact_eq N (F_SortFunc_Dot l) (by omega) (by omega)
    rw [hs] at hq
    have e : listCase l (some none) (fun (y : Int × Int) r => bif fitsB (y :: r).length 16 then some (some (y :: r, (y :: r).length)) else none) = some (some (l, l.length)) := by
      subst hl
      simp only [listCase, hfit, cond_true]
    rw [e]
    simp only [Option.bind_some, optCase, List.take_length, List.drop_length, List.append_nil, hq]
    have b1 : Nat.ble l.length l.length = true := by simp
    have b2 : Nat.ble l.length 4611686018427387903 = true := by simp only [Nat.ble_eq]; omega
    have b3 : Nat.ble (0 + q.2) q.1.length = true := by simp only [Nat.ble_eq]; omega
    simp only [b1, b2, b3, cond_true, List.drop_zero, h1]
    rfl
end Go.Proofs.Xg
set_option linter.unusedVariables false
set_option linter.unusedSimpArgs false
namespace Go.Proofs.Xg
open Go Go.Xl Go.Ab Go.Proofs Go.Sort
theorem getl {α : Type} {l : List α} {i : Nat} (h : i < l.length) : l[i]? = some l[i] := List.getElem?_eq_getElem h
theorem dec_lt (a b : Nat) : decide ((a : Int) < (b : Int)) = decide (a < b) := by simp
theorem same_eq (N : Nat) (l m : List (Int × Int)) (hl : l.length < 9223372036854775807) (hN : l.length < N) : F_epitaphref07_Same N l m = some (decide (l = m)) := by
  unfold F_epitaphref07_Same
  by_cases hlen : l.length = m.length
  · have h0 : ((l.length : Int) != (m.length : Int)) = false := by simp [hlen]
    simp only [h0, cond_false]
    refine (scan_eq l.length (fun k => some (decide (l.drop k = m.drop k))) 0 ?_ ?_ N hN).trans rfl
    · intro rec k _ hk hr
      have hk' : k < m.length := by omega
      simp only [dec_lt, at?_nat, getl hk, getl hk', Option.bind_some, i64_succ (show k + 1 < 9223372036854775808 by omega), hr, decide_eq_true hk, cond_true, dot_eq]
      have e1 : l.drop k = l[k] :: l.drop (k + 1) := List.drop_eq_getElem_cons hk
      have e2 : m.drop k = m[k] :: m.drop (k + 1) := List.drop_eq_getElem_cons hk'
      rw [e1, e2]
      by_cases he : l[k] = m[k] <;> simp [-List.getElem_cons_drop, he]
    · intro rec k hk
      simp only [dec_lt, decide_eq_false (show ¬ k < l.length by omega), cond_false]
      rw [List.drop_eq_nil_of_le hk, List.drop_eq_nil_of_le (by omega)]; rfl
  · have h0 : ((l.length : Int) != (m.length : Int)) = true := by simp; omega
    have h1 : ¬ l = m := fun h => hlen (by rw [h])
    simp only [h0, cond_true, decide_eq_false h1]
theorem equal_eq (N : Nat) (l m : List (Int × Int)) (hl : l.length < 9223372036854775807) (hN : l.length < N) : F_dot_Same N l m = some (decide (l = m)) := by
  have : F_slices_Equal_sDot_Dot N l m = F_epitaphref07_Same N l m := rfl
  unfold F_dot_Same
  rw [this, same_eq N l m hl hN]; rfl
abbrev Ev := (Int × Int) × UInt8 × Int × UInt8 × List UInt8 × List (Int × Int)
def sameE (a b : Ev) : Bool :=
  a.1.1 == b.1.1 && a.1.2 == b.1.2 && a.2.1 == b.2.1 && a.2.2.1 == b.2.2.1 && a.2.2.2.1 == b.2.2.2.1 && a.2.2.2.2.1 == b.2.2.2.2.1 && decide (a.2.2.2.2.2 = b.2.2.2.2.2)
theorem eventSame_eq (N : Nat) (a b : Ev) (hl : a.2.2.2.2.2.length < 9223372036854775807) (hN : a.2.2.2.2.2.length < N) : F_event_Same N a b = some (sameE a b) := by
  unfold F_event_Same sameE
  simp only [equal_eq N _ _ hl hN, Option.bind_some]
  cases a.1.1 == b.1.1 <;> cases a.1.2 == b.1.2 <;> cases a.2.1 == b.2.1 <;> cases a.2.2.1 == b.2.2.1 <;> cases a.2.2.2.1 == b.2.2.2.1 <;> cases a.2.2.2.2.1 == b.2.2.2.2.1 <;> rfl
theorem refSame_eq (N : Nat) (a b : Ev) (hl : a.2.2.2.2.2.length < 9223372036854775807) (hN : a.2.2.2.2.2.length < N) : F_epitaphref13_Same N a b = some (sameE a b) := by
  unfold F_epitaphref13_Same sameE
  simp only [same_eq N _ _ hl hN, Option.bind_some]
  cases a.1.1 == b.1.1 <;> cases a.1.2 == b.1.2 <;> cases a.2.1 == b.2.1 <;> cases a.2.2.1 == b.2.2.1 <;> cases a.2.2.2.1 == b.2.2.2.1 <;> cases a.2.2.2.2.1 == b.2.2.2.2.1 <;> rfl
end Go.Proofs.Xg
set_option linter.unusedVariables false
set_option linter.unusedSimpArgs false
namespace Go.Xl
structure LO {α : Type} (lt eq : α → α → Bool) : Prop where
  asymm : ∀ x y, lt x y = true → lt y x = false
  ntrans : ∀ x y z, lt x y = false → lt y z = false → lt x z = false
  eq_def : ∀ x y, eq x y = (!lt x y && !lt y x)
section
variable {α : Type} {lt eq : α → α → Bool}
theorem LO.irrefl (h : LO lt eq) (x : α) : lt x x = false := by
  cases hx : lt x x with
  | false => rfl
  | true => have := h.asymm x x hx; rw [hx] at this; cases this
theorem LO.trans (h : LO lt eq) {x y z : α} (h1 : lt x y = true) (h2 : lt y z = true) : lt x z = true := by
  cases hx : lt x z with
  | true => rfl
  | false =>
    have := h.ntrans x z y hx (h.asymm _ _ h2)
    rw [h1] at this; cases this
theorem LO.lt_le (h : LO lt eq) {x y z : α} (h1 : lt x y = true) (h2 : lt z y = false) : lt x z = true := by
  cases hx : lt x z with
  | true => rfl
  | false => have := h.ntrans x z y hx h2; rw [h1] at this; cases this
theorem LO.le_lt (h : LO lt eq) {x y z : α} (h1 : lt y x = false) (h2 : lt y z = true) : lt x z = true := by
  cases hx : lt x z with
  | true => rfl
  | false => have := h.ntrans y x z h1 hx; rw [h2] at this; cases this
theorem LO.eq_true (h : LO lt eq) {x y : α} : eq x y = true ↔ lt x y = false ∧ lt y x = false := by
  rw [h.eq_def]; simp
theorem LO.eq_symm (h : LO lt eq) (x y : α) : eq x y = eq y x := by rw [h.eq_def, h.eq_def, Bool.and_comm]
def insR (lt : α → α → Bool) (x : α) : List α → List α
  | [] => [x]
  | y :: r => cond (lt x y) (x :: y :: r) (y :: insR lt x r)
def isort (lt : α → α → Bool) (l : List α) : List α := l.foldl (fun p x => insR lt x p) []
def Asc (lt : α → α → Bool) (l : List α) : Prop := l.Pairwise fun a b => lt b a = false
def compGoB (eq : α → α → Bool) (p : α) : List α → List α
  | [] => []
  | y :: r => cond (eq y p) (compGoB eq p r) (y :: compGoB eq y r)
def compB (eq : α → α → Bool) : List α → List α
  | [] => []
  | x :: r => x :: compGoB eq x r
def putR (lt eq : α → α → Bool) (x : α) (q : List α) : List α := cond (q.any (eq x)) q (insR lt x q)
theorem insR_mem {x z : α} {l : List α} : z ∈ insR lt x l ↔ z = x ∨ z ∈ l := by
  induction l with
  | nil => simp [insR]
  | cons y r ih =>
    simp only [insR]
    cases lt x y with
    | true => simp
    | false => simp [ih]; constructor <;> rintro (h | h | h) <;> simp [h]
theorem insR_length (x : α) (l : List α) : (insR lt x l).length = l.length + 1 := by
  induction l with
  | nil => rfl
  | cons y r ih =>
    simp only [insR]
    cases lt x y <;> simp [ih]
theorem insR_asc (h : LO lt eq) {x : α} {l : List α} (hl : Asc lt l) : Asc lt (insR lt x l) := by
  induction l with
  | nil => simp [insR, Asc]
  | cons y r ih =>
    simp only [Asc, List.pairwise_cons] at hl ⊢
    simp only [insR]
    cases hx : lt x y with
    | true =>
      simp only [cond_true, List.pairwise_cons, List.mem_cons]
      refine ⟨?_, hl.1, hl.2⟩
      rintro z (rfl | hz)
      · exact h.asymm _ _ hx
      · exact h.asymm _ _ (h.lt_le hx (hl.1 z hz))
    | false =>
      simp only [cond_false, List.pairwise_cons]
      refine ⟨fun z hz => ?_, ih hl.2⟩
      rcases insR_mem.1 hz with rfl | hz
      · exact hx
      · exact hl.1 z hz
theorem isort_snoc (l : List α) (x : α) : isort lt (l ++ [x]) = insR lt x (isort lt l) := by simp [isort]
theorem isort_asc (h : LO lt eq) (l : List α) : Asc lt (isort lt l) := by
  have : ∀ (l p : List α), Asc lt p → Asc lt (l.foldl (fun p x => insR lt x p) p) := by
    intro l
    induction l with
    | nil => intro p hp; exact hp
    | cons y r ih => intro p hp; exact ih _ (insR_asc h hp)
  exact this l [] (by simp [Asc])
theorem isort_length (l : List α) : (isort lt l).length = l.length := by
  have : ∀ (l p : List α), (l.foldl (fun p x => insR lt x p) p).length = p.length + l.length := by
    intro l
    induction l with
    | nil => intro p; simp
    | cons y r ih => intro p; rw [List.foldl_cons, ih, insR_length]; simp; omega
  simpa [isort] using this l []
theorem isort_mem {z : α} (l : List α) : z ∈ isort lt l ↔ z ∈ l := by
  have : ∀ (l p : List α), z ∈ l.foldl (fun p x => insR lt x p) p ↔ z ∈ p ∨ z ∈ l := by
    intro l
    induction l with
    | nil => intro p; simp
    | cons y r ih => intro p; rw [List.foldl_cons, ih, insR_mem]; simp; constructor <;> rintro (h | h) <;> grind
  simpa [isort] using this l []
theorem compGoB_mem {p z : α} {l : List α} (h : z ∈ compGoB eq p l) : z ∈ l := by
  induction l generalizing p with
  | nil => simp [compGoB] at h
  | cons y r ih =>
    simp only [compGoB] at h
    cases hy : eq y p with
    | true => rw [hy] at h; exact List.mem_cons_of_mem _ (ih h)
    | false =>
      rw [hy] at h
      rcases List.mem_cons.1 h with rfl | h
      · exact List.mem_cons_self
      · exact List.mem_cons_of_mem _ (ih h)
theorem compB_mem {z : α} {l : List α} (h : z ∈ compB eq l) : z ∈ l := by
  cases l with
  | nil => simp [compB] at h
  | cons x r =>
    rcases List.mem_cons.1 h with rfl | h
    · exact List.mem_cons_self
    · exact List.mem_cons_of_mem _ (compGoB_mem h)
theorem any_false {x : α} {q : List α} (h : LO lt eq) (hq : ∀ z ∈ q, lt x z = true) : q.any (eq x) = false := by
  rw [List.any_eq_false]
  intro z hz he
  have := (h.eq_true.1 he).1
  rw [hq z hz] at this; cases this
theorem insR_front {x y : α} {q : List α} (hx : lt x y = true) : insR lt x (y :: q) = x :: y :: q := by simp [insR, hx]
theorem insR_back {x y : α} {q : List α} (hx : lt x y = false) : insR lt x (y :: q) = y :: insR lt x q := by simp [insR, hx]
theorem compGoB_ins (h : LO lt eq) (x : α) : ∀ (r : List α) (y : α), Asc lt (y :: r) → lt x y = false → compGoB eq y (insR lt x r) = cond (eq x y) (compGoB eq y r) (putR lt eq x (compGoB eq y r))
  | [], y, hs, hx => by
    simp only [insR, compGoB, putR, List.any_nil, cond_false]
  | z :: r, y, hs, hx => by
    have hs' := hs
    simp only [Asc, List.pairwise_cons, List.mem_cons] at hs'
    obtain ⟨hy, hz, hr⟩ := hs'
    have hyz : lt z y = false := hy z (.inl rfl)
    cases hxz : lt x z with
    | true =>
      rw [insR_front hxz]
      have ezx : eq z x = false := by
        rw [h.eq_symm, h.eq_def, hxz]; rfl
      have hall : ∀ w ∈ z :: compGoB eq z r, lt x w = true := by
        intro w hw
        rcases List.mem_cons.1 hw with rfl | hw
        · exact hxz
        · exact h.lt_le hxz (hz w (compGoB_mem hw))
      cases he : eq x y with
      | true => simp only [compGoB, he, cond_true]
      | false =>
        have ezy : eq z y = false := by
          rw [h.eq_def, hyz]
          have : lt y z = true := h.le_lt hx hxz
          rw [this]; rfl
        simp only [compGoB, he, ezx, ezy, cond_false, putR]
        rw [any_false h hall, cond_false, insR_front hxz]
    | false =>
      rw [insR_back hxz]
      cases hezy : eq z y with
      | true =>
        simp only [compGoB, hezy, cond_true]
        refine compGoB_ins h x r y ?_ hx
        simp only [Asc, List.pairwise_cons]
        exact ⟨fun w hw => hy w (.inr hw), hr⟩
      | false =>
        have hyz' : lt y z = true := by
          cases hh : lt y z with
          | true => rfl
          | false => rw [h.eq_def, hyz, hh] at hezy; cases hezy
        have hyx : lt y x = true := h.lt_le hyz' hxz
        have exy : eq x y = false := by rw [h.eq_def, hyx]; simp
        simp only [compGoB, hezy, cond_false, exy]
        rw [compGoB_ins h x r z (by simp only [Asc, List.pairwise_cons]; exact ⟨hz, hr⟩) hxz]
        cases hexz : eq x z with
        | true => simp only [cond_true, putR, List.any_cons, hexz, Bool.true_or]
        | false =>
          simp only [cond_false, putR, List.any_cons, hexz, Bool.false_or]
          cases ha : (compGoB eq z r).any (eq x) with
          | true => simp
          | false => simp only [cond_false]; rw [insR_back hxz]
theorem compB_ins (h : LO lt eq) (x : α) {p : List α} (hp : Asc lt p) : compB eq (insR lt x p) = putR lt eq x (compB eq p) := by
  cases p with
  | nil => rfl
  | cons y r =>
    have hs := hp
    simp only [Asc, List.pairwise_cons] at hs
    cases hx : lt x y with
    | true =>
      rw [insR_front hx]
      have eyx : eq y x = false := by rw [h.eq_symm, h.eq_def, hx]; rfl
      have hall : ∀ w ∈ y :: compGoB eq y r, lt x w = true := by
        intro w hw
        rcases List.mem_cons.1 hw with rfl | hw
        · exact hx
        · exact h.lt_le hx (hs.1 w (compGoB_mem hw))
      simp only [compB, compGoB, eyx, cond_false, putR]
      rw [any_false h hall, cond_false, insR_front hx]
    | false =>
      rw [insR_back hx]
      simp only [compB]
      rw [compGoB_ins h x r y hp hx]
      cases he : eq x y with
      | true => simp only [cond_true, putR, List.any_cons, he, Bool.true_or]
      | false =>
        simp only [cond_false, putR, List.any_cons, he, Bool.false_or]
        cases ha : (compGoB eq y r).any (eq x) with
        | true => simp
        | false => simp only [cond_false]; rw [insR_back hx]
theorem compB_isort (h : LO lt eq) (l : List α) : compB eq (isort lt l) = l.foldl (fun q x => putR lt eq x q) [] := by
  have : ∀ (l p : List α), Asc lt p → compB eq (l.foldl (fun p x => insR lt x p) p) = l.foldl (fun q x => putR lt eq x q) (compB eq p) := by
    intro l
    induction l with
    | nil => intro p _; rfl
    | cons x r ih =>
      intro p hp
      simp only [List.foldl_cons]
      rw [ih _ (insR_asc h hp), compB_ins h x hp]
  exact this l [] (by simp [Asc])
theorem LO.eq_cong (h : LO lt eq) {x p : α} (hx : eq x p = true) (y : α) : eq y x = eq y p := by
  obtain ⟨h1, h2⟩ := h.eq_true.1 hx
  rw [Bool.eq_iff_iff, h.eq_true, h.eq_true]
  exact ⟨fun ⟨a, b⟩ => ⟨h.ntrans _ _ _ a h1, h.ntrans _ _ _ h2 b⟩, fun ⟨a, b⟩ => ⟨h.ntrans _ _ _ a h2, h.ntrans _ _ _ h1 b⟩⟩
theorem compGoB_snoc (h : LO lt eq) (q y : α) : ∀ (p : α) (l : List α), (p :: l).getLast? = some q → compGoB eq p (l ++ [y]) = cond (eq y q) (compGoB eq p l) (compGoB eq p l ++ [y])
  | p, [], hq => by
    simp at hq
    subst hq
    simp [compGoB]
  | p, x :: r, hq => by
    rw [List.getLast?_cons_cons] at hq
    simp only [List.cons_append, compGoB]
    cases hx : eq x p with
    | true =>
      simp only [cond_true]
      cases r with
      | nil =>
        simp at hq
        subst hq
        simp [compGoB, h.eq_cong hx y]
      | cons z s => exact compGoB_snoc h q y p (z :: s) (by rw [List.getLast?_cons_cons] at hq ⊢; exact hq)
    | false =>
      simp only [cond_false]
      rw [compGoB_snoc h q y x r hq]
      cases hy : eq y q <;> simp
theorem compB_take_succ (h : LO lt eq) {l : List α} {m : Nat} (hm : 0 < m) {a b : α} (ha : l[m - 1]? = some a) (hb : l[m]? = some b) : compB eq (l.take (m + 1)) = cond (eq b a) (compB eq (l.take m)) (compB eq (l.take m) ++ [b]) := by
  have hlt : m < l.length := (List.getElem?_eq_some_iff.1 hb).1
  have e : l.take (m + 1) = l.take m ++ [b] := by
    rw [List.take_add_one, hb]; rfl
  rw [e]
  cases hl : l.take m with
  | nil => simp at hl; rcases hl with h | h <;> (subst h; simp at *)
  | cons x r =>
    have hlast : (x :: r).getLast? = some a := by
      rw [← hl, List.getLast?_eq_getElem?, List.length_take, List.getElem?_take, Nat.min_eq_left (by omega), if_pos (by omega)]; exact ha
    simp only [List.cons_append, compB]
    rw [compGoB_snoc h a b x r hlast]
    cases eq b a <;> simp
theorem compB_one (l : List α) : compB eq (l.take 1) = l.take 1 := by
  cases l with
  | nil => rfl
  | cons x r => simp [compB, compGoB]
end
end Go.Xl
set_option linter.unusedVariables false
set_option linter.unusedSimpArgs false
set_option maxRecDepth 100000
namespace Go.Proofs.Xg
open Go Go.Xl Go.Ab Go.Proofs Go.Sort
def ltE (x y : Ev) : Bool := ltOf cfDot x.1 y.1
def eqE (x y : Ev) : Bool := x.1.1 == y.1.1 && x.1.2 == y.1.2
theorem lo_E : LO ltE eqE where
  asymm x y h := by
    unfold ltE at *
    rw [dot_lt] at *
    simp at *; omega
  ntrans x y z h1 h2 := by
    unfold ltE at *
    rw [dot_lt] at *
    simp at *; omega
  eq_def x y := by
    unfold ltE eqE
    rw [dot_lt, dot_lt, Bool.eq_iff_iff]
    simp
    omega
theorem sort1_eq (N : Nat) (x y : Ev) : F_event_Sort_1 N x y = some (cfDot x.1 y.1) := by
  unfold F_event_Sort_1
  rw [Cmp_eq]; rfl
theorem insR_split {α : Type} {lt : α → α → Bool} {x : α} : ∀ {p q : List α}, (∀ y ∈ p, lt x y = false) → (∀ y ∈ q, lt x y = true) → insR lt x (p ++ q) = p ++ x :: q
  | [], [], _, _ => rfl
  | [], y :: q, _, h => by
    simp only [List.nil_append]
    exact insR_front (h y List.mem_cons_self)
  | y :: p, q, h, h' => by
    simp only [List.cons_append]
    rw [insR_back (h y List.mem_cons_self), insR_split (fun z hz => h z (List.mem_cons_of_mem _ hz)) h']
theorem set_swap {α : Type} (pre : List α) (x y : α) (S : List α) : ((pre ++ y :: x :: S).set (pre.length + 1) y).set pre.length x = pre ++ x :: y :: S := by
  rw [List.set_append_right _ _ (by omega), List.set_append_right _ _ (by omega)]
  have : pre.length + 1 - pre.length = 1 := by omega
  rw [this, Nat.sub_self]
  rfl
theorem get_pre {α : Type} (pre : List α) (y : α) (S : List α) : (pre ++ y :: S)[pre.length]? = some y := by simp
theorem get_pre1 {α : Type} (pre : List α) (y x : α) (S : List α) : (pre ++ y :: x :: S)[pre.length + 1]? = some x := by
  rw [List.getElem?_append_right (by omega)]
  have : pre.length + 1 - pre.length = 1 := by omega
  rw [this]; rfl
theorem insertion_eq (N : Nat) (l : List Ev) (a b : Nat) (hab : a ≤ b) (hb : b ≤ l.length) (hl : l.length < 4611686018427387904) (hN : l.length < N) :
    F_slices_insertionSortCmpFunc_Event N l l.length a b = some (l.take a ++ isort ltE ((l.take b).drop a) ++ l.drop b, ()) := by
  unfold F_slices_insertionSortCmpFunc_Event
  have e0 : IntKind.i64.wrap ((a : Int) + 1) = ((a + 1 : Nat) : Int) := i64_succ (by omega)
  rw [e0]
  refine some_of ?_
  refine iter_ok (Q := fun r => r = (l.take a ++ isort ltE ((l.take b).drop a) ++ l.drop b, ())) (fun n z => ∃ (i : Nat) (arr : List Ev), z = (((i : Int), ()), (), (), arr, ()) ∧ a + 1 ≤ i ∧ i ≤ b + 1 ∧ n = b - i ∧
    arr = l.take a ++ isort ltE ((l.take (min i b)).drop a) ++ l.drop (min i b)) ?_ N (b - (a + 1)) _ ⟨a + 1, l, rfl, Nat.le_refl _, by omega, rfl, ?_⟩ (by omega)
  · rintro n z rec ⟨i, arr, rfl, hi1, hi2, rfl, harr⟩ ih
    simp only [dec_lt]
    by_cases hib : i < b
    · rw [decide_eq_true hib, cond_true]
      have hil : i < l.length := by omega
      have hm : min i b = i := by omega
      rw [hm] at harr
      have hP : ((l.take (i + 1)).drop a) = ((l.take i).drop a) ++ [l[i]] := by
        rw [List.take_add_one, getl hil, List.drop_append_of_le_length (by simp; omega)]; rfl
      have hdrop : l.drop i = l[i] :: l.drop (i + 1) := List.drop_eq_getElem_cons hil
      have hasc := isort_asc lo_E ((l.take i).drop a)
      have hPl : (isort ltE ((l.take i).drop a)).length = i - a := by rw [isort_length]; simp; omega
      have hA : (l.take a).length = a := by simp; omega
      have next : ∀ arr', arr' = l.take a ++ insR ltE l[i] (isort ltE ((l.take i).drop a)) ++ l.drop (i + 1) → ∃ r, rec ((IntKind.i64.wrap ((i : Int) + 1), ()), (), (), arr', ()) = some r ∧ r = (l.take a ++ isort ltE ((l.take b).drop a) ++ l.drop b, ()) := by
        intro arr' he
        rw [i64_succ (by omega)]
        refine ih (b - (i + 1)) _ (by omega) ⟨i + 1, arr', rfl, by omega, by omega, rfl, ?_⟩
        have hm' : min (i + 1) b = i + 1 := by omega
        rw [hm', hP, isort_snoc, he]
      generalize isort ltE ((l.take i).drop a) = P at *
      generalize l[i] = x at *
      refine iter_ok (Q := fun r => r = (l.take a ++ isort ltE ((l.take b).drop a) ++ l.drop b, ())) (fun m z => ∃ p q : List Ev, P = p ++ q ∧ (∀ y ∈ q, ltE x y = true) ∧ z = ((((a + p.length : Nat) : Int), ()), (), (), l.take a ++ p ++ x :: (q ++ l.drop (i + 1)), ()) ∧ m = p.length) ?_ N (i - a) _
        ⟨P, [], by simp, by simp, by rw [harr, hdrop, hPl]; simp; omega, by rw [hPl]⟩ (by omega)
      rintro m z1 rec1 ⟨p, q, hpq, hq, rfl, rfl⟩ ih1
      simp only [dec_lt]
      rcases List.eq_nil_or_concat p with rfl | ⟨p', y, rfl⟩
      · rw [decide_eq_false (by simp), cond_false]
        refine next _ ?_
        rw [hpq, insR_split (by simp) hq]
        simp
      · rw [List.concat_eq_append] at *
        have hlen : (p' ++ [y]).length = p'.length + 1 := by simp
        have hpl : p'.length + 1 + q.length = i - a := by rw [← hPl, hpq]; simp; omega
        have hj : a + (p'.length + 1) < l.length := by omega
        have harr' : l.take a ++ (p' ++ [y]) ++ x :: (q ++ l.drop (i + 1)) = (l.take a ++ p') ++ y :: x :: (q ++ l.drop (i + 1)) := by simp
        have hpre : (l.take a ++ p').length = a + p'.length := by simp; omega
        have w1 : IntKind.i64.wrap (((a + (p'.length + 1) : Nat) : Int) - 1) = ((a + p'.length : Nat) : Int) := by
          rw [i64_pred (by omega) (by omega)]; congr 1
        rw [hlen, harr']
        generalize hpg : l.take a ++ p' = pre at *
        have g1 : (pre ++ y :: x :: (q ++ l.drop (i + 1)))[0 + (((a + (p'.length + 1) : Nat) : Int)).toNat]? = some x := by
          rw [toNat_nat, Nat.zero_add, show a + (p'.length + 1) = pre.length + 1 by omega]; exact get_pre1 _ _ _ _
        have g2 : (pre ++ y :: x :: (q ++ l.drop (i + 1)))[0 + (((a + p'.length : Nat) : Int)).toNat]? = some y := by
          rw [toNat_nat, Nat.zero_add, show a + p'.length = pre.length by omega]; exact get_pre _ _ _
        have c1 : decide (a < a + (p'.length + 1)) = true := by simp
        have c2 : decide ((0 : Int) ≤ ((a + (p'.length + 1) : Nat) : Int)) = true := decide_eq_true (Int.natCast_nonneg _)
        have c3 : decide (a + (p'.length + 1) < l.length) = true := by simpa using hj
        have c4 : decide ((0 : Int) ≤ ((a + p'.length : Nat) : Int)) = true := decide_eq_true (Int.natCast_nonneg _)
        have c5 : decide (a + p'.length < l.length) = true := by simp; omega
        simp only [w1, dec_lt, c1, c2, c3, c4, c5, Bool.and_self, cond_true, g1, g2, Option.bind_some, sort1_eq]
        cases hlt : ltE x y with
        | true =>
          have hc : decide (cfDot x.1 y.1 < 0) = true := hlt
          rw [hc, cond_true]
          have g3 : ((pre ++ y :: x :: (q ++ l.drop (i + 1))).set (0 + (((a + (p'.length + 1) : Nat) : Int)).toNat) y)[0 + (((a + p'.length : Nat) : Int)).toNat]? = some y := by
            rw [toNat_nat, toNat_nat, Nat.zero_add, Nat.zero_add, List.getElem?_set_ne (by omega), show a + p'.length = pre.length by omega]; exact get_pre _ _ _
          rw [g3, Option.bind_some]
          have hs : ((pre ++ y :: x :: (q ++ l.drop (i + 1))).set (0 + (((a + (p'.length + 1) : Nat) : Int)).toNat) y).set (0 + (((a + p'.length : Nat) : Int)).toNat) x = pre ++ x :: y :: (q ++ l.drop (i + 1)) := by
            rw [toNat_nat, toNat_nat, Nat.zero_add, Nat.zero_add, show a + (p'.length + 1) = pre.length + 1 by omega, show a + p'.length = pre.length by omega]
            exact set_swap _ _ _ _
          rw [hs]
          refine ih1 p'.length _ (by simp) ⟨p', y :: q, by rw [hpq]; simp, ?_, by rw [hpg]; rfl, rfl⟩
          intro z hz
          rcases List.mem_cons.1 hz with rfl | hz
          · exact hlt
          · exact hq z hz
        | false =>
          have hc : decide (cfDot x.1 y.1 < 0) = false := hlt
          rw [hc, cond_false]
          refine next _ ?_
          rw [hpq, insR_split ?_ hq]
          · rw [← hpg]; simp
          · intro z hz
            rcases List.mem_append.1 hz with hz | hz
            · rw [hpq] at hasc
              have : ltE y z = false := by
                have h1 := (List.pairwise_append.1 hasc).1
                exact (List.pairwise_append.1 h1).2.2 z hz y (by simp)
              exact lo_E.ntrans _ _ _ hlt this
            · rw [List.mem_singleton.1 hz]; exact hlt
    · rw [decide_eq_false hib, cond_false]
      have hm : min i b = b := by omega
      rw [hm] at harr
      exact ⟨_, rfl, by rw [harr]⟩
  · by_cases h : a < b
    · have hm : min (a + 1) b = a + 1 := by omega
      have ha : a < l.length := by omega
      rw [hm]
      have : ((l.take (a + 1)).drop a) = [l[a]] := by
        rw [List.take_add_one, getl ha, List.drop_append_of_le_length (by simp; omega)]
        simp
      rw [this]
      have h2 : l.drop a = l[a] :: l.drop (a + 1) := List.drop_eq_getElem_cons ha
      have h3 : isort ltE [l[a]] = [l[a]] := rfl
      rw [h3, List.append_assoc, List.singleton_append, ← h2, List.take_append_drop]
    · have hm : min (a + 1) b = b := by omega
      have : b = a := by omega
      subst this
      rw [hm]
      have : (l.take b).drop b = [] := by simp
      rw [this]
      have h3 : isort ltE ([] : List Ev) = [] := rfl
      rw [h3, List.append_nil, List.take_append_drop]
end Go.Proofs.Xg
set_option linter.unusedVariables false
set_option linter.unusedSimpArgs false
set_option maxRecDepth 100000
namespace Go.Proofs.Xg
open Go Go.Xl Go.Ab Go.Proofs Go.Sort
section
variable {α : Type}
theorem get_at {p : List α} {u : α} {t : List α} {k : Nat} (h : p.length = k) : (p ++ u :: t)[k]? = some u := by subst h; simp
theorem set_at {p : List α} {u x : α} {t : List α} {k : Nat} (h : p.length = k) : (p ++ u :: t).set k x = p ++ x :: t := by subst h; simp
theorem cons_of {l : List α} {n : Nat} (h : l.length = n + 1) : ∃ u t, l = u :: t ∧ t.length = n := by
  cases l with
  | nil => simp at h
  | cons u t => exact ⟨u, t, rfl, by simpa using h⟩
end
theorem i64_add {a b : Nat} (h : a + b < 9223372036854775808) : IntKind.i64.wrap ((a : Int) + (b : Int)) = ((a + b : Nat) : Int) := by
  rw [show (a : Int) + (b : Int) = ((a + b : Nat) : Int) by omega, i64_nat h]
theorem i64_sub {a b : Nat} (h : b ≤ a) (h' : a < 9223372036854775808) : IntKind.i64.wrap ((a : Int) - (b : Int)) = ((a - b : Nat) : Int) := by
  rw [show (a : Int) - (b : Int) = ((a - b : Nat) : Int) by omega, i64_nat (by omega)]
theorem inB {a n : Nat} (h : a < n) : (decide (0 ≤ (a : Int)) && decide (a < n)) = true := by simp; omega
theorem swapRange_eq (N : Nat) (P U Q V R : List Ev) (a b n len : Nat) (ha : P.length = a) (hb : P.length + U.length + Q.length = b) (hu : U.length = n) (hv : V.length = n)
    (hlen : (P ++ U ++ Q ++ V ++ R).length = len) (hl : len < 4611686018427387904) (hN : len < N) :
    F_slices_swapRangeCmpFunc_Event N (P ++ U ++ Q ++ V ++ R) len a b n = some (P ++ V ++ Q ++ U ++ R, ()) := by
  unfold F_slices_swapRangeCmpFunc_Event
  simp only [List.length_append] at hlen
  refine iter_eq (G := fun _ => some (P ++ V ++ Q ++ U ++ R, ())) (fun m z => ∃ (k : Nat) (P' U' Q' V' : List Ev), z = (((k : Int), ()), (), (), P' ++ U' ++ Q' ++ V' ++ R, ()) ∧ P'.length = a + k ∧ P'.length + U'.length + Q'.length = b + k ∧ U'.length = n - k ∧ V'.length = n - k ∧ k ≤ n ∧ m = n - k ∧
    P' ++ V' ++ Q' ++ U' ++ R = P ++ V ++ Q ++ U ++ R) ?_ N n _ ⟨0, P, U, Q, V, rfl, by omega, by omega, by omega, by omega, by omega, by omega, rfl⟩ (by omega)
  rintro m z rec ⟨k, P', U', Q', V', rfl, h1, h2, h3, h4, h5, rfl, h6⟩ ih
  by_cases hk : k < n
  · obtain ⟨u, U2, rfl, hu2⟩ := cons_of (l := U') (n := n - k - 1) (by omega)
    obtain ⟨v, V2, rfl, hv2⟩ := cons_of (l := V') (n := n - k - 1) (by omega)
    simp only [List.length_cons] at h2 h3 h4
    have w1 : IntKind.i64.wrap ((b : Int) + (k : Int)) = ((b + k : Nat) : Int) := i64_add (by omega)
    have w2 : IntKind.i64.wrap ((a : Int) + (k : Int)) = ((a + k : Nat) : Int) := i64_add (by omega)
    have g1 : (P' ++ u :: U2 ++ Q' ++ v :: V2 ++ R)[b + k]? = some v := by
      have : P' ++ u :: U2 ++ Q' ++ v :: V2 ++ R = (P' ++ u :: U2 ++ Q') ++ v :: (V2 ++ R) := by simp
      rw [this]; exact get_at (by simp; omega)
    have g2 : (P' ++ u :: U2 ++ Q' ++ v :: V2 ++ R)[a + k]? = some u := by
      have : P' ++ u :: U2 ++ Q' ++ v :: V2 ++ R = P' ++ u :: (U2 ++ Q' ++ v :: V2 ++ R) := by simp
      rw [this]; exact get_at (by omega)
    have s1 : (P' ++ u :: U2 ++ Q' ++ v :: V2 ++ R).set (a + k) v = (P' ++ v :: U2 ++ Q') ++ v :: (V2 ++ R) := by
      have : P' ++ u :: U2 ++ Q' ++ v :: V2 ++ R = P' ++ u :: (U2 ++ Q' ++ v :: V2 ++ R) := by simp
      rw [this, set_at (by omega)]; simp
    have g3 : ((P' ++ v :: U2 ++ Q') ++ v :: (V2 ++ R))[b + k]? = some v := get_at (by simp; omega)
    have s2 : ((P' ++ v :: U2 ++ Q') ++ v :: (V2 ++ R)).set (b + k) u = (P' ++ [v]) ++ U2 ++ (Q' ++ [u]) ++ V2 ++ R := by
      rw [set_at (by simp; omega)]; simp
    simp only [dec_lt, decide_eq_true hk, cond_true, w1, w2, inB (show b + k < len by omega), inB (show a + k < len by omega), Nat.zero_add, toNat_nat, g1, g2, Option.bind_some, s1, g3, s2, i64_succ (show k + 1 < 9223372036854775808 by omega)]
    refine ih (n - (k + 1)) _ (by omega) ⟨k + 1, P' ++ [v], U2, Q' ++ [u], V2, rfl, by simp; omega, by simp; omega, by omega, by omega, by omega, rfl, ?_⟩
    rw [← h6]; simp
  · have : k = n := by omega
    subst this
    have e1 : U' = [] := List.length_eq_zero_iff.1 (by omega)
    have e2 : V' = [] := List.length_eq_zero_iff.1 (by omega)
    subst e1; subst e2
    simp only [dec_lt, decide_eq_false hk, cond_false]
    rw [← h6]
theorem rotate_eq (N : Nat) (P U V R : List Ev) (a m b len : Nat) (ha : P.length = a) (hm : a + U.length = m) (hb : m + V.length = b) (hu : 0 < U.length) (hv : 0 < V.length)
    (hlen : (P ++ U ++ V ++ R).length = len) (hl : len < 4611686018427387904) (hN : len < N) :
    F_slices_rotateCmpFunc_Event N (P ++ U ++ V ++ R) len a m b = some (P ++ V ++ U ++ R, ()) := by
  unfold F_slices_rotateCmpFunc_Event
  simp only [List.length_append] at hlen
  have w1 : IntKind.i64.wrap ((m : Int) - (a : Int)) = (U.length : Int) := by rw [i64_sub (by omega) (by omega)]; congr 1; omega
  have w2 : IntKind.i64.wrap ((b : Int) - (m : Int)) = (V.length : Int) := by rw [i64_sub (by omega) (by omega)]; congr 1; omega
  rw [w1, w2]
  refine iter_eq (G := fun _ => some (P ++ V ++ U ++ R, ())) (fun q z => ∃ (P' U' V' R' : List Ev), z = (((U'.length : Int), (V'.length : Int), ()), (), (), P' ++ U' ++ V' ++ R', ()) ∧ P'.length + U'.length = m ∧ P'.length + U'.length + V'.length + R'.length = len ∧ 0 < U'.length ∧ 0 < V'.length ∧ q = U'.length + V'.length ∧
    P' ++ V' ++ U' ++ R' = P ++ V ++ U ++ R) ?_ N (U.length + V.length) _ ⟨P, U, V, R, rfl, by omega, by omega, hu, hv, rfl, rfl⟩ (by omega)
  rintro q z rec ⟨P', U', V', R', rfl, h1, h2, h3, h4, rfl, h6⟩ ih
  have w3 : IntKind.i64.wrap ((m : Int) - (U'.length : Int)) = (P'.length : Int) := by rw [i64_sub (by omega) (by omega)]; congr 1; omega
  by_cases he : U'.length = V'.length
  · have hb : ((U'.length : Int) != (V'.length : Int)) = false := by simp [he]
    simp only [hb, cond_false, w3]
    have := swapRange_eq N P' U' [] V' R' P'.length m U'.length len rfl (by simp; omega) rfl he.symm (by simp; omega) hl hN
    simp only [List.append_nil] at this
    rw [this, Option.bind_some, h6]
  · have hb : ((U'.length : Int) != (V'.length : Int)) = true := by simp; omega
    simp only [hb, cond_true, w3]
    by_cases hlt : V'.length < U'.length
    · have hd : decide ((V'.length : Int) < (U'.length : Int)) = true := by simp; omega
      rw [hd, cond_true]
      have hU : U' = U'.take V'.length ++ U'.drop V'.length := (List.take_append_drop _ _).symm
      have l1 : (U'.take V'.length).length = V'.length := by simp; omega
      have l2 : (U'.drop V'.length).length = U'.length - V'.length := by simp
      generalize U'.take V'.length = U1 at *
      generalize U'.drop V'.length = U2 at *
      have w4 : IntKind.i64.wrap ((U'.length : Int) - (V'.length : Int)) = (U2.length : Int) := by rw [i64_sub (by omega) (by omega), l2]
      rw [w4]
      subst hU
      simp only [List.length_append] at *
      have := swapRange_eq N P' U1 U2 V' R' P'.length m V'.length len rfl (by omega) l1 rfl (by simp; omega) hl hN
      have e1 : P' ++ (U1 ++ U2) ++ V' ++ R' = P' ++ U1 ++ U2 ++ V' ++ R' := by simp
      rw [e1, this, Option.bind_some]
      have e2 : P' ++ V' ++ U2 ++ U1 ++ R' = (P' ++ V') ++ U2 ++ U1 ++ R' := by simp
      refine ih (U2.length + U1.length) _ (by omega) ⟨P' ++ V', U2, U1, R', by rw [l1], by simp; omega, by simp; omega, by omega, by omega, rfl, ?_⟩
      rw [← h6]; simp
    · have hd : decide ((V'.length : Int) < (U'.length : Int)) = false := by simp; omega
      rw [hd, cond_false]
      have hV : V' = V'.take (V'.length - U'.length) ++ V'.drop (V'.length - U'.length) := (List.take_append_drop _ _).symm
      have l1 : (V'.take (V'.length - U'.length)).length = V'.length - U'.length := by simp
      have l2 : (V'.drop (V'.length - U'.length)).length = U'.length := by simp; omega
      generalize V'.take (V'.length - U'.length) = V1 at *
      generalize V'.drop (V'.length - U'.length) = V2 at *
      have w4 : IntKind.i64.wrap ((V'.length : Int) - (U'.length : Int)) = (V1.length : Int) := by rw [i64_sub (by omega) (by omega), l1]
      have w5 : IntKind.i64.wrap ((m : Int) + (V'.length : Int)) = ((m + V'.length : Nat) : Int) := i64_add (by omega)
      have w6 : IntKind.i64.wrap (((m + V'.length : Nat) : Int) - (U'.length : Int)) = ((m + V1.length : Nat) : Int) := by rw [i64_sub (by omega) (by omega)]; congr 1; omega
      rw [w4, w5, w6]
      subst hV
      simp only [List.length_append] at *
      have := swapRange_eq N P' U' V1 V2 R' P'.length (m + V1.length) U'.length len rfl (by omega) rfl l2 (by simp; omega) hl hN
      have e1 : P' ++ U' ++ (V1 ++ V2) ++ R' = P' ++ U' ++ V1 ++ V2 ++ R' := by simp
      rw [e1, this, Option.bind_some]
      refine ih (V2.length + V1.length) _ (by omega) ⟨P', V2, V1, U' ++ R', ?_, by omega, by simp; omega, by omega, by omega, rfl, ?_⟩
      · rw [l2]; simp
      · rw [← h6]; simp
end Go.Proofs.Xg
set_option linter.unusedVariables false
set_option linter.unusedSimpArgs false
set_option maxRecDepth 100000
namespace Go.Proofs.Xg
open Go Go.Xl Go.Ab Go.Proofs Go.Sort
structure St (S M : List Ev) : Prop where
  perm : M.Perm S
  cls : ∀ x, M.filter (eqE x) = S.filter (eqE x)
theorem St.refl (S : List Ev) : St S S := ⟨.refl _, fun _ => rfl⟩
theorem St.trans {S M L : List Ev} (h : St S M) (h' : St M L) : St S L := ⟨h'.perm.trans h.perm, fun x => (h'.cls x).trans (h.cls x)⟩
theorem St.app {S M S' M' : List Ev} (h : St S M) (h' : St S' M') : St (S ++ S') (M ++ M') := ⟨h.perm.append h'.perm, fun x => by rw [List.filter_append, List.filter_append, h.cls, h'.cls]⟩
theorem St.swap {X Y : List Ev} (h : ∀ y ∈ Y, ∀ x ∈ X, ltE y x = true) : St (X ++ Y) (Y ++ X) := by
  refine ⟨List.perm_append_comm, fun z => ?_⟩
  rw [List.filter_append, List.filter_append]
  have : X.filter (eqE z) = [] ∨ Y.filter (eqE z) = [] := by
    rcases List.eq_nil_or_concat (X.filter (eqE z)) with h1 | ⟨_, x, h1⟩
    · exact .inl h1
    · right
      rw [List.filter_eq_nil_iff]
      intro y hy hzy
      have hx : x ∈ X.filter (eqE z) := by rw [h1]; simp
      obtain ⟨hx1, hx2⟩ := List.mem_filter.1 hx
      have e1 := lo_E.eq_true.1 hzy
      have e2 := lo_E.eq_true.1 hx2
      have h3 := h y hy x hx1
      -- y < x, x not above z: y < z
      have h4 := lo_E.lt_le h3 e2.1
      rw [e1.2] at h4; cases h4
  rcases this with h | h <;> simp [h]
theorem asc_app {A B : List Ev} (ha : Asc ltE A) (hb : Asc ltE B) (h : ∀ u ∈ A, ∀ v ∈ B, ltE v u = false) : Asc ltE (A ++ B) := by
  unfold Asc
  rw [List.pairwise_append]
  exact ⟨ha, hb, h⟩
theorem asc_left {A B : List Ev} (h : Asc ltE (A ++ B)) : Asc ltE A := (List.pairwise_append.1 h).1
theorem asc_right {A B : List Ev} (h : Asc ltE (A ++ B)) : Asc ltE B := (List.pairwise_append.1 h).2.1
theorem asc_cross {A B : List Ev} (h : Asc ltE (A ++ B)) : ∀ u ∈ A, ∀ v ∈ B, ltE v u = false := (List.pairwise_append.1 h).2.2
theorem le_refl' (x : Ev) : ltE x x = false := lo_E.irrefl x
theorem one_right {x : Ev} {B1 B2 : List Ev} (hb : Asc ltE (B1 ++ B2)) (h1 : ∀ u ∈ B1, ltE u x = true) (h2 : ∀ u ∈ B2, ltE u x = false) :
    Asc ltE (B1 ++ x :: B2) ∧ St (x :: (B1 ++ B2)) (B1 ++ x :: B2) := by
  refine ⟨?_, ?_⟩
  · refine asc_app (asc_left hb) ?_ ?_
    · unfold Asc
      rw [List.pairwise_cons]
      exact ⟨fun u hu => h2 u hu, asc_right hb⟩
    · intro u hu v hv
      rcases List.mem_cons.1 hv with rfl | hv
      · exact lo_E.asymm _ _ (h1 u hu)
      · exact asc_cross hb u hu v hv
  · have := (St.swap (X := [x]) (Y := B1) (by intro y hy z hz; simp at hz; subst hz; exact h1 y hy)).app (.refl B2)
    simpa using this
theorem one_left {y : Ev} {A1 A2 : List Ev} (ha : Asc ltE (A1 ++ A2)) (h1 : ∀ u ∈ A1, ltE y u = false) (h2 : ∀ u ∈ A2, ltE y u = true) :
    Asc ltE (A1 ++ y :: A2) ∧ St ((A1 ++ A2) ++ [y]) (A1 ++ y :: A2) := by
  refine ⟨?_, ?_⟩
  · refine asc_app (asc_left ha) ?_ ?_
    · unfold Asc
      rw [List.pairwise_cons]
      exact ⟨fun u hu => lo_E.asymm _ _ (h2 u hu), asc_right ha⟩
    · intro u hu v hv
      rcases List.mem_cons.1 hv with rfl | hv
      · exact h1 u hu
      · exact asc_cross ha u hu v hv
  · have := (St.refl A1).app (St.swap (X := A2) (Y := [y]) (by intro z hz x hx; simp at hz; subst hz; exact h2 x hx))
    simpa using this
theorem halves {A1 X Y B2 M1 M2 : List Ev} (ha : Asc ltE (A1 ++ X)) (hb : Asc ltE (Y ++ B2)) (hs : ∀ y ∈ Y, ∀ x ∈ X, ltE y x = true) (hc : ∀ u ∈ A1, ∀ v ∈ B2, ltE v u = false)
    (h1 : Asc ltE M1) (s1 : St (A1 ++ Y) M1) (h2 : Asc ltE M2) (s2 : St (X ++ B2) M2) : Asc ltE (M1 ++ M2) ∧ St ((A1 ++ X) ++ (Y ++ B2)) (M1 ++ M2) := by
  refine ⟨asc_app h1 h2 ?_, ?_⟩
  · intro u hu v hv
    have hu := (s1.perm.mem_iff).1 hu
    have hv := (s2.perm.mem_iff).1 hv
    rcases List.mem_append.1 hu with hu | hu <;> rcases List.mem_append.1 hv with hv | hv
    · exact asc_cross ha u hu v hv
    · exact hc u hu v hv
    · exact lo_E.asymm _ _ (hs u hu v hv)
    · exact asc_cross hb u hu v hv
  · have e1 : St ((A1 ++ X) ++ (Y ++ B2)) ((A1 ++ Y) ++ (X ++ B2)) := by
      have := ((St.refl A1).app (St.swap hs)).app (.refl B2)
      simpa using this
    exact e1.trans (s1.app s2)
theorem st_unique : ∀ {M L : List Ev}, Asc ltE M → Asc ltE L → (∀ x, M.filter (eqE x) = L.filter (eqE x)) → M = L
  | [], [], _, _, _ => rfl
  | [], b :: L, _, _, h => by
    have := h b
    have hb : eqE b b = true := lo_E.eq_true.2 ⟨le_refl' b, le_refl' b⟩
    simp [hb] at this
  | a :: M, [], _, _, h => by
    have := h a
    have hb : eqE a a = true := lo_E.eq_true.2 ⟨le_refl' a, le_refl' a⟩
    simp [hb] at this
  | a :: M, b :: L, hm, hl, h => by
    have hm' := hm
    have hl' := hl
    unfold Asc at hm' hl'
    rw [List.pairwise_cons] at hm' hl'
    have raa : eqE a a = true := lo_E.eq_true.2 ⟨le_refl' a, le_refl' a⟩
    have rbb : eqE b b = true := lo_E.eq_true.2 ⟨le_refl' b, le_refl' b⟩
    have ha : ∃ z ∈ b :: L, eqE a z = true := by
      have h1 : a ∈ (a :: M).filter (eqE a) := by simp [raa]
      rw [h a] at h1
      exact ⟨a, (List.mem_filter.1 h1).1, raa⟩
    have hb : ∃ z ∈ a :: M, eqE b z = true := by
      have h1 : b ∈ (b :: L).filter (eqE b) := by simp [rbb]
      rw [← h b] at h1
      exact ⟨b, (List.mem_filter.1 h1).1, rbb⟩
    have hab : eqE a b = true := by
      obtain ⟨z, hz, hz2⟩ := ha
      obtain ⟨w, hw, hw2⟩ := hb
      have z2 := lo_E.eq_true.1 hz2
      have w2 := lo_E.eq_true.1 hw2
      have c1 : ltE z b = false := by
        rcases List.mem_cons.1 hz with rfl | hz
        · exact le_refl' _
        · exact hl'.1 z hz
      have c2 : ltE w a = false := by
        rcases List.mem_cons.1 hw with rfl | hw
        · exact le_refl' _
        · exact hm'.1 w hw
      refine lo_E.eq_true.2 ⟨?_, ?_⟩
      · -- a < b would give z below b
        cases hh : ltE a b with
        | false => rfl
        | true =>
          have := lo_E.le_lt z2.1 hh
          rw [c1] at this; cases this
      · cases hh : ltE b a with
        | false => rfl
        | true =>
          have := lo_E.le_lt w2.1 hh
          rw [c2] at this; cases this
    have hhead := h a
    have e1 : (a :: M).filter (eqE a) = a :: M.filter (eqE a) := by simp [raa]
    have e2 : (b :: L).filter (eqE a) = b :: L.filter (eqE a) := by simp [hab]
    rw [e1, e2] at hhead
    have hh : a = b := by simpa using (List.cons.inj hhead).1
    subst hh
    congr 1
    refine st_unique hm'.2 hl'.2 fun x => ?_
    have := h x
    simp only [List.filter_cons] at this
    cases hx : eqE x a with
    | true => simpa [hx] using this
    | false => simpa [hx] using this
theorem insR_cls (x z : Ev) : ∀ l : List Ev, Asc ltE l → (insR ltE x l).filter (eqE z) = l.filter (eqE z) ++ [x].filter (eqE z)
  | [], _ => by simp [insR]
  | y :: r, h => by
    have h' := h
    unfold Asc at h'
    rw [List.pairwise_cons] at h'
    simp only [insR]
    cases hxy : ltE x y with
    | true =>
      simp only [if_true, cond_true]
      have hs : St ((y :: r) ++ [x]) ([x] ++ (y :: r)) := St.swap (by
        intro a ha b hb
        simp at ha; subst ha
        rcases List.mem_cons.1 hb with rfl | hb
        · exact hxy
        · exact lo_E.lt_le hxy (h'.1 b hb))
      show ([x] ++ (y :: r)).filter (eqE z) = _
      rw [hs.cls z, List.filter_append]
    | false =>
      have ih := insR_cls x z r h'.2
      simp only [Bool.false_eq_true, if_false, cond_false, List.filter_cons, ih]
      split <;> simp
theorem isort_st (l : List Ev) : St l (isort ltE l) := by
  refine ⟨?_, fun z => ?_⟩
  · have key : ∀ (l p : List Ev), (l.foldl (fun p x => insR ltE x p) p).Perm (p ++ l) := by
      intro l
      induction l with
      | nil => intro p; simp
      | cons x r ih =>
        intro p
        refine (ih _).trans ?_
        have hp : ∀ q : List Ev, (insR ltE x q).Perm (x :: q) := by
          intro q
          induction q with
          | nil => exact .refl _
          | cons y q ihq =>
            simp only [insR]
            cases ltE x y with
            | true => exact .refl _
            | false => exact (ihq.cons y).trans (.swap x y q)
        exact ((hp p).append_right r).trans (by simpa using (List.perm_middle (a := x) (l₁ := p) (l₂ := r)).symm)
    have := key l []
    simpa [isort] using this
  · have key : ∀ (l p : List Ev), Asc ltE p → (l.foldl (fun p x => insR ltE x p) p).filter (eqE z) = p.filter (eqE z) ++ l.filter (eqE z) := by
      intro l
      induction l with
      | nil => intro p _; simp
      | cons x r ih =>
        intro p hp
        rw [List.foldl_cons, ih _ (insR_asc lo_E hp), insR_cls x z p hp, List.append_assoc, ← List.filter_append]
        rfl
    have := key l [] (by simp [Asc])
    simpa [isort] using this
end Go.Proofs.Xg
set_option linter.unusedVariables false
set_option linter.unusedSimpArgs false
set_option maxRecDepth 100000
namespace Go.Proofs.Xg
open Go Go.Xl Go.Ab Go.Proofs Go.Sort
theorem snoc_cases' {α : Type} (l : List α) : l = [] ∨ ∃ o e, l = o ++ [e] := by
  rcases List.eq_nil_or_concat l with h | ⟨o, e, h⟩
  · exact .inl h
  · exact .inr ⟨o, e, by simpa using h⟩
theorem half' {i j : Nat} (h : i < j) (hj : j ≤ 1000000000000) : IntKind.i64.wrap ((IntKind.u64.wrap (IntKind.i64.wrap ((i : Int) + (j : Int)))).fdiv 2) = (((i + j) / 2 : Nat) : Int) := by
  have e : (i : Int) + (j : Int) = ((i + j : Nat) : Int) := by omega
  have u : IntKind.u64.wrap ((i + j : Nat) : Int) = ((i + j : Nat) : Int) := by
    simp [IntKind.wrap, IntKind.bits, IntKind.signed]; omega
  rw [e, i64_nat (by omega), u]
  have : ((i + j : Nat) : Int).fdiv 2 = (((i + j) / 2 : Nat) : Int) := by
    rw [Int.fdiv_eq_ediv_of_nonneg _ (by omega)]; omega
  rw [this, i64_nat (by omega)]
theorem ltE_def (x y : Ev) : decide (cfDot x.1 y.1 < 0) = ltE x y := rfl
theorem get_mid {α : Type} {P B R : List α} {k a : Nat} (ha : P.length = a) (h1 : a ≤ k) (h2 : k < a + B.length) : (P ++ B ++ R)[k]? = some (B[k - a]'(by omega)) := by
  rw [List.append_assoc, List.getElem?_append_right (by omega), ha, List.getElem?_append_left (by omega), List.getElem?_eq_getElem (by omega)]
theorem take_mem_le {B : List Ev} (hB : Asc ltE B) {h : Nat} (hh : h < B.length) : ∀ u ∈ B.take (h + 1), ltE B[h] u = false := by
  intro u hu
  obtain ⟨k, hk⟩ := List.mem_iff_getElem?.1 hu
  obtain ⟨hkl, e⟩ := List.getElem?_eq_some_iff.1 hk
  rw [List.getElem_take] at e
  rw [List.length_take] at hkl
  subst e
  rcases Nat.lt_or_ge k h with h1 | h1
  · exact List.pairwise_iff_getElem.1 hB k h (by omega) hh h1
  · have : k = h := by omega
    subst this; exact le_refl' _
theorem drop_mem_ge {B : List Ev} (hB : Asc ltE B) {h : Nat} (hh : h < B.length) : ∀ u ∈ B.drop h, ltE u B[h] = false := by
  intro u hu
  obtain ⟨k, hk⟩ := List.mem_iff_getElem?.1 hu
  obtain ⟨hkl, e⟩ := List.getElem?_eq_some_iff.1 hk
  rw [List.getElem_drop] at e
  rw [List.length_drop] at hkl
  subst e
  rcases Nat.eq_zero_or_pos k with h1 | h1
  · subst h1; exact le_refl' _
  · exact List.pairwise_iff_getElem.1 hB h (h + k) hh (by omega) (by omega)
theorem sym1 (N : Nat) (G : FnO tEvent [.d (.int .i64), .d (.int .i64), .d (.int .i64), .c 58] []) (P : List Ev) (x0 : Ev) (B R : List Ev) (a m b len : Nat) (ha : P.length = a) (hm : m = a + 1) (hb : m + B.length = b) (hB : Asc ltE B)
    (hlen : (P ++ [x0] ++ B ++ R).length = len) (hl : len ≤ 1000000000) (hN : 1000000000000 < N) :
    ∃ M, R_slices_symMergeCmpFunc_Event N G (P ++ [x0] ++ B ++ R) len a m b = some (P ++ M ++ R, ()) ∧ Asc ltE M ∧ St ([x0] ++ B) M := by
  suffices H : ∃ r, R_slices_symMergeCmpFunc_Event N G (P ++ [x0] ++ B ++ R) len a m b = some r ∧ ∃ M, r = (P ++ M ++ R, ()) ∧ Asc ltE M ∧ St ([x0] ++ B) M by
    obtain ⟨r, h1, M, rfl, h2⟩ := H
    exact ⟨M, h1, h2⟩
  unfold R_slices_symMergeCmpFunc_Event
  simp only [List.length_append, List.length_singleton] at hlen
  have w1 : (IntKind.i64.wrap ((m : Int) - (a : Int)) == 1) = true := by
    rw [i64_sub (by omega) (by omega), show m - a = 1 by omega]; rfl
  rw [w1, cond_true]
  refine iter_ok (Q := fun r : List Ev × Unit => ∃ M, r = (P ++ M ++ R, ()) ∧ Asc ltE M ∧ St ([x0] ++ B) M)
    (fun q z => ∃ i j : Nat, z = (((i : Int), (j : Int), ()), (), (), ()) ∧ m ≤ i ∧ i ≤ j ∧ j ≤ b ∧ q = j - i ∧ (∀ u ∈ B.take (i - m), ltE u x0 = true) ∧ ∀ u ∈ B.drop (j - m), ltE u x0 = false) ?_ N (b - m) _
    ⟨m, b, rfl, by omega, by omega, by omega, rfl, by simp, by rw [List.drop_of_length_le (by omega)]; simp⟩ (by omega)
  rintro q z rec ⟨i, j, rfl, h1, h2, h3, rfl, h4, h5⟩ ih
  by_cases hij : i < j
  · have hh : (i + j) / 2 - m < B.length := by omega
    have g1 : (P ++ [x0] ++ B ++ R)[(i + j) / 2]? = some B[(i + j) / 2 - m] := get_mid (by simp; omega) (by omega) (by omega)
    have g2 : (P ++ [x0] ++ B ++ R)[a]? = some x0 := by
      have : P ++ [x0] ++ B ++ R = P ++ x0 :: (B ++ R) := by simp
      rw [this]; exact get_at ha
    simp only [dec_lt, decide_eq_true hij, cond_true, half' hij (by omega), inB (show (i + j) / 2 < len by omega), inB (show a < len by omega), Nat.zero_add, toNat_nat, g1, g2, Option.bind_some, sort1_eq, ltE_def]
    cases hc : ltE B[(i + j) / 2 - m] x0 with
    | true =>
      simp only [cond_true, i64_succ (show (i + j) / 2 + 1 < 9223372036854775808 by omega)]
      refine ih (j - ((i + j) / 2 + 1)) _ (by omega) ⟨(i + j) / 2 + 1, j, rfl, by omega, by omega, h3, rfl, ?_, h5⟩
      intro u hu
      rw [show (i + j) / 2 + 1 - m = ((i + j) / 2 - m) + 1 by omega] at hu
      exact lo_E.le_lt (take_mem_le hB hh u hu) hc
    | false =>
      simp only [cond_false]
      refine ih ((i + j) / 2 - i) _ (by omega) ⟨i, (i + j) / 2, rfl, by omega, by omega, by omega, rfl, h4, ?_⟩
      intro u hu
      cases hu2 : ltE u x0 with
      | false => rfl
      | true =>
        have := lo_E.le_lt (drop_mem_ge hB hh u hu) hu2
        rw [hc] at this; cases this
  · have : j = i := by omega
    subst this
    simp only [dec_lt, decide_eq_false hij, cond_false]
    have hB12 : B.take (j - m) ++ B.drop (j - m) = B := List.take_append_drop _ _
    have hl1 : (B.take (j - m)).length = j - m := by simp; omega
    obtain ⟨f1, f2⟩ := one_right (x := x0) (B1 := B.take (j - m)) (B2 := B.drop (j - m)) (by rw [hB12]; exact hB) h4 h5
    rw [hB12] at f2
    refine ⟨(P ++ (B.take (j - m) ++ x0 :: B.drop (j - m)) ++ R, ()), ?_, _, rfl, f1, f2⟩
    have hw : IntKind.i64.wrap ((j : Int) - 1) = ((j - 1 : Nat) : Int) := i64_pred (by omega) (by omega)
    rw [hw]
    have hst : P ++ [x0] ++ B ++ R = P ++ x0 :: B.take (j - m) ++ (B.drop (j - m) ++ R) := by
      conv => lhs; rw [← hB12]
      simp only [List.append_assoc, List.cons_append, List.nil_append]
    rw [hst]
    refine iter_eq (G := fun _ => some (P ++ (B.take (j - m) ++ x0 :: B.drop (j - m)) ++ R, ())) (fun q z => ∃ (k : Nat) (P' W : List Ev), z = (((k : Int), ()), (), (), P' ++ x0 :: W ++ (B.drop (j - m) ++ R), ()) ∧ P'.length = k ∧ k + W.length = j - 1 ∧ q = W.length ∧
      P' ++ W ++ x0 :: (B.drop (j - m) ++ R) = P ++ (B.take (j - m) ++ x0 :: B.drop (j - m)) ++ R) ?_ N (j - m) _ ⟨a, P, B.take (j - m), rfl, ha, by omega, hl1.symm, by simp⟩ (by omega)
    clear ih
    rintro q z rec ⟨k, P', W, rfl, k1, k2, rfl, k3⟩ ih
    by_cases hk : k < j - 1
    · obtain ⟨w, W2, rfl, hw2⟩ := cons_of (l := W) (n := W.length - 1) (by omega)
      simp only [List.length_cons] at k2
      generalize hT : B.drop (j - m) ++ R = T at *
      have g1 : (P' ++ x0 :: w :: W2 ++ T)[k + 1]? = some w := by
        have : P' ++ x0 :: w :: W2 ++ T = (P' ++ [x0]) ++ w :: (W2 ++ T) := by simp
        rw [this]; exact get_at (by simp; omega)
      have g2 : (P' ++ x0 :: w :: W2 ++ T)[k]? = some x0 := by
        have : P' ++ x0 :: w :: W2 ++ T = P' ++ x0 :: (w :: W2 ++ T) := by simp
        rw [this]; exact get_at k1
      have s1 : (P' ++ x0 :: w :: W2 ++ T).set k w = (P' ++ [w]) ++ w :: (W2 ++ T) := by
        have : P' ++ x0 :: w :: W2 ++ T = P' ++ x0 :: (w :: W2 ++ T) := by simp
        rw [this, set_at k1]; simp
      have g3 : ((P' ++ [w]) ++ w :: (W2 ++ T))[k + 1]? = some w := get_at (by simp; omega)
      have s2 : ((P' ++ [w]) ++ w :: (W2 ++ T)).set (k + 1) x0 = (P' ++ [w]) ++ x0 :: W2 ++ T := by
        rw [set_at (by simp; omega)]; simp
      simp only [dec_lt, decide_eq_true hk, cond_true, i64_succ (show k + 1 < 9223372036854775808 by omega), inB (show k + 1 < len by omega), inB (show k < len by omega), Nat.zero_add, toNat_nat, g1, g2, Option.bind_some, s1, g3, s2]
      refine ih W2.length _ (by simp) ⟨k + 1, P' ++ [w], W2, rfl, by simp; omega, by omega, rfl, ?_⟩
      rw [← k3]; simp
    · have : W = [] := List.length_eq_zero_iff.1 (by omega)
      subst this
      simp only [dec_lt, decide_eq_false hk, cond_false]
      rw [← k3]; simp
theorem sym2 (N : Nat) (G : FnO tEvent [.d (.int .i64), .d (.int .i64), .d (.int .i64), .c 58] []) (P : List Ev) (y0 : Ev) (A R : List Ev) (a m b len : Nat) (ha : P.length = a) (hm : a + A.length = m) (hA2 : A.length ≠ 1) (hb : b = m + 1) (hA : Asc ltE A)
    (hlen : (P ++ A ++ [y0] ++ R).length = len) (hl : len ≤ 1000000000) (hN : 1000000000000 < N) :
    ∃ M, R_slices_symMergeCmpFunc_Event N G (P ++ A ++ [y0] ++ R) len a m b = some (P ++ M ++ R, ()) ∧ Asc ltE M ∧ St (A ++ [y0]) M := by
  suffices H : ∃ r, R_slices_symMergeCmpFunc_Event N G (P ++ A ++ [y0] ++ R) len a m b = some r ∧ ∃ M, r = (P ++ M ++ R, ()) ∧ Asc ltE M ∧ St (A ++ [y0]) M by
    obtain ⟨r, h1, M, rfl, h2⟩ := H
    exact ⟨M, h1, h2⟩
  unfold R_slices_symMergeCmpFunc_Event
  simp only [List.length_append, List.length_singleton] at hlen
  have w1 : (IntKind.i64.wrap ((m : Int) - (a : Int)) == 1) = false := by
    rw [i64_sub (by omega) (by omega)]
    have : ((m - a : Nat) : Int) ≠ 1 := by omega
    simpa using this
  have w2 : (IntKind.i64.wrap ((b : Int) - (m : Int)) == 1) = true := by
    rw [i64_sub (by omega) (by omega), show b - m = 1 by omega]; rfl
  rw [w1, cond_false, w2, cond_true]
  refine iter_ok (Q := fun r : List Ev × Unit => ∃ M, r = (P ++ M ++ R, ()) ∧ Asc ltE M ∧ St (A ++ [y0]) M)
    (fun q z => ∃ i j : Nat, z = (((i : Int), (j : Int), ()), (), (), ()) ∧ a ≤ i ∧ i ≤ j ∧ j ≤ m ∧ q = j - i ∧ (∀ u ∈ A.take (i - a), ltE y0 u = false) ∧ ∀ u ∈ A.drop (j - a), ltE y0 u = true) ?_ N (m - a) _
    ⟨a, m, rfl, by omega, by omega, by omega, rfl, by simp, by rw [List.drop_of_length_le (by omega)]; simp⟩ (by omega)
  rintro q z rec ⟨i, j, rfl, h1, h2, h3, rfl, h4, h5⟩ ih
  by_cases hij : i < j
  · have hh : (i + j) / 2 - a < A.length := by omega
    have g1 : (P ++ A ++ [y0] ++ R)[(i + j) / 2]? = some A[(i + j) / 2 - a] := by
      have : P ++ A ++ [y0] ++ R = P ++ A ++ ([y0] ++ R) := by simp
      rw [this]; exact get_mid ha (by omega) (by omega)
    have g2 : (P ++ A ++ [y0] ++ R)[m]? = some y0 := by
      have : P ++ A ++ [y0] ++ R = (P ++ A) ++ y0 :: R := by simp
      rw [this]; exact get_at (by simp; omega)
    simp only [dec_lt, decide_eq_true hij, cond_true, half' hij (by omega), inB (show (i + j) / 2 < len by omega), inB (show m < len by omega), Nat.zero_add, toNat_nat, g1, g2, Option.bind_some, sort1_eq, ltE_def]
    cases hc : ltE y0 A[(i + j) / 2 - a] with
    | false =>
      simp only [Bool.not_false, cond_true, i64_succ (show (i + j) / 2 + 1 < 9223372036854775808 by omega)]
      refine ih (j - ((i + j) / 2 + 1)) _ (by omega) ⟨(i + j) / 2 + 1, j, rfl, by omega, by omega, h3, rfl, ?_, h5⟩
      intro u hu
      rw [show (i + j) / 2 + 1 - a = ((i + j) / 2 - a) + 1 by omega] at hu
      cases hu2 : ltE y0 u with
      | false => rfl
      | true =>
        have := lo_E.lt_le hu2 (take_mem_le hA hh u hu)
        rw [hc] at this; cases this
    | true =>
      simp only [Bool.not_true, cond_false]
      refine ih ((i + j) / 2 - i) _ (by omega) ⟨i, (i + j) / 2, rfl, by omega, by omega, by omega, rfl, h4, ?_⟩
      intro u hu
      exact lo_E.lt_le hc (drop_mem_ge hA hh u hu)
  · have : j = i := by omega
    subst this
    simp only [dec_lt, decide_eq_false hij, cond_false]
    have hA12 : A.take (j - a) ++ A.drop (j - a) = A := List.take_append_drop _ _
    have hl1 : (A.take (j - a)).length = j - a := by simp; omega
    have hl2 : (A.drop (j - a)).length = m - j := by simp; omega
    obtain ⟨f1, f2⟩ := one_left (y := y0) (A1 := A.take (j - a)) (A2 := A.drop (j - a)) (by rw [hA12]; exact hA) h4 h5
    rw [hA12] at f2
    refine ⟨(P ++ (A.take (j - a) ++ y0 :: A.drop (j - a)) ++ R, ()), ?_, _, rfl, f1, f2⟩
    have hst : P ++ A ++ [y0] ++ R = (P ++ A.take (j - a)) ++ A.drop (j - a) ++ y0 :: R := by
      conv => lhs; rw [← hA12]
      simp only [List.append_assoc, List.cons_append, List.nil_append]
    rw [hst]
    have hT : (P ++ A.take (j - a)).length = j := by simp; omega
    have hfin : P ++ (A.take (j - a) ++ y0 :: A.drop (j - a)) ++ R = (P ++ A.take (j - a)) ++ y0 :: (A.drop (j - a) ++ R) := by simp
    rw [hfin]
    have htot : (P ++ A.take (j - a)).length + (A.drop (j - a)).length + 1 + R.length = len := by rw [hT, hl2]; omega
    generalize P ++ A.take (j - a) = T at *
    generalize A.drop (j - a) = W0 at *
    refine iter_eq (G := fun _ => some (T ++ y0 :: (W0 ++ R), ())) (fun q z => ∃ (k : Nat) (W S : List Ev), z = (((k : Int), ()), (), (), T ++ W ++ y0 :: S, ()) ∧ j + W.length = k ∧ q = W.length ∧ k + 1 + S.length = len ∧ W ++ S = W0 ++ R) ?_ N (m - j) _ ⟨m, W0, R, rfl, by omega, by omega, by omega, rfl⟩ (by omega)
    clear ih
    rintro q z rec ⟨k, W, S, rfl, k1, rfl, k2, k3⟩ ih
    by_cases hk : j < k
    · rcases snoc_cases' W with rfl | ⟨W2, w, rfl⟩
      · simp at k1; omega
      · simp only [List.length_append, List.length_singleton] at k1
        have g1 : (T ++ (W2 ++ [w]) ++ y0 :: S)[k - 1]? = some w := by
          have : T ++ (W2 ++ [w]) ++ y0 :: S = (T ++ W2) ++ w :: (y0 :: S) := by simp
          rw [this]; exact get_at (by simp; omega)
        have g2 : (T ++ (W2 ++ [w]) ++ y0 :: S)[k]? = some y0 := get_at (by simp; omega)
        have s1 : (T ++ (W2 ++ [w]) ++ y0 :: S).set k w = (T ++ W2) ++ w :: (w :: S) := by
          rw [set_at (by simp; omega)]; simp
        have g3 : ((T ++ W2) ++ w :: (w :: S))[k - 1]? = some w := get_at (by simp; omega)
        have s2 : ((T ++ W2) ++ w :: (w :: S)).set (k - 1) y0 = T ++ W2 ++ y0 :: (w :: S) := by
          rw [set_at (by simp; omega)]
        simp only [dec_lt, decide_eq_true hk, cond_true, i64_pred (show 0 < k by omega) (show k < 9223372036854775808 by omega), inB (show k - 1 < len by omega), inB (show k < len by omega), Nat.zero_add, toNat_nat, g1, g2, Option.bind_some, s1, g3, s2]
        refine ih W2.length _ (by simp) ⟨k - 1, W2, w :: S, rfl, by omega, rfl, by simp; omega, ?_⟩
        rw [← k3]; simp
    · have : W = [] := List.length_eq_zero_iff.1 (by omega)
      subst this
      simp only [dec_lt, decide_eq_false hk, cond_false]
      rw [← k3]; simp
end Go.Proofs.Xg
set_option linter.unusedVariables false
set_option linter.unusedSimpArgs false
set_option maxRecDepth 100000
namespace Go.Proofs.Xg
open Go Go.Xl Go.Ab Go.Proofs Go.Sort
abbrev K1 : Type := Unit × Unit × Unit × List Ev × Unit
theorem turnJ {R' : Type} (k : K1 → Option R') (c1 c2 : Bool) (o : Option (List Ev × Unit)) (l l1 : List Ev) (h : c1 = true → c2 = true → o = some (l1, ())) (h' : ¬ (c1 = true ∧ c2 = true) → l = l1) :
    joinAt k (fun k => bif c1 then bif c2 then Option.bind o fun y => k ((), (), (), y.fst, ()) else k ((), (), (), l, ()) else k ((), (), (), l, ())) = k ((), (), (), l1, ()) := by
  unfold joinAt
  cases c1 with
  | false => rw [h' (by simp)]; rfl
  | true =>
    cases c2 with
    | false => rw [h' (by simp)]; rfl
    | true => rw [h rfl rfl]; rfl
theorem turnE (c1 c2 : Bool) (o : Option (List Ev × Unit)) (l l1 : List Ev) (h : c1 = true → c2 = true → o = some (l1, ())) (h' : ¬ (c1 = true ∧ c2 = true) → l = l1) :
    (bif c1 then bif c2 then Option.bind o fun y => some (y.fst, ()) else some (l, ()) else some (l, ())) = some (l1, ()) := by
  cases c1 with
  | false => rw [h' (by simp)]; rfl
  | true =>
    cases c2 with
    | false => rw [h' (by simp)]; rfl
    | true => rw [h rfl rfl]; rfl
set_option maxHeartbeats 2000000 in
theorem sym_eq (N len : Nat) (hl : len ≤ 1000000000) (hN : 1000000000000 < N) : ∀ (n : Nat) (P A B R : List Ev) (a m b : Nat), A.length + B.length ≤ n → P.length = a → a + A.length = m → m + B.length = b → 0 < A.length → 0 < B.length → Asc ltE A → Asc ltE B → (P ++ A ++ B ++ R).length = len →
    ∃ M, recO (R_slices_symMergeCmpFunc_Event N) n (P ++ A ++ B ++ R) len a m b = some (P ++ M ++ R, ()) ∧ Asc ltE M ∧ St (A ++ B) M := by
  intro n
  induction n with
  | zero => intro P A B R a m b h; omega
  | succ n IH =>
    intro P A B R a m b hn ha hm hb hA0 hB0 hA hB hlen
    show ∃ M, R_slices_symMergeCmpFunc_Event N (recO (R_slices_symMergeCmpFunc_Event N) n) (P ++ A ++ B ++ R) len a m b = _ ∧ _
    by_cases hA1 : A.length = 1
    · obtain ⟨x0, t, rfl, ht⟩ := cons_of (l := A) (n := 0) hA1
      have : t = [] := List.length_eq_zero_iff.1 ht
      subst this
      exact sym1 N _ P x0 B R a m b len ha (by simp at hm; omega) hb hB hlen hl hN
    · by_cases hB1 : B.length = 1
      · obtain ⟨y0, t, rfl, ht⟩ := cons_of (l := B) (n := 0) hB1
        have : t = [] := List.length_eq_zero_iff.1 ht
        subst this
        exact sym2 N _ P y0 A R a m b len ha hm hA1 (by simp at hb; omega) hA hlen hl hN
      · suffices H : ∃ r, R_slices_symMergeCmpFunc_Event N (recO (R_slices_symMergeCmpFunc_Event N) n) (P ++ A ++ B ++ R) len a m b = some r ∧ ∃ M, r = (P ++ M ++ R, ()) ∧ Asc ltE M ∧ St (A ++ B) M by
          obtain ⟨r, h1, M, rfl, h2⟩ := H
          exact ⟨M, h1, h2⟩
        have hlen' : P.length + A.length + B.length + R.length = len := by simp only [List.length_append] at hlen; exact hlen
        generalize recO (R_slices_symMergeCmpFunc_Event N) n = G at *
        unfold R_slices_symMergeCmpFunc_Event
        have w1 : (IntKind.i64.wrap ((m : Int) - (a : Int)) == 1) = false := by
          rw [i64_sub (by omega) (by omega)]
          have : ((m - a : Nat) : Int) ≠ 1 := by omega
          simpa using this
        have w2 : (IntKind.i64.wrap ((b : Int) - (m : Int)) == 1) = false := by
          rw [i64_sub (by omega) (by omega)]
          have : ((b - m : Nat) : Int) ≠ 1 := by omega
          simpa using this
        obtain ⟨mid, hmid⟩ : ∃ mid, mid = (a + b) / 2 := ⟨_, rfl⟩
        have wmid : IntKind.i64.wrap ((IntKind.u64.wrap (IntKind.i64.wrap ((a : Int) + (b : Int)))).fdiv 2) = (mid : Int) := by rw [half' (by omega) (by omega), hmid]
        have wn : IntKind.i64.wrap ((mid : Int) + (m : Int)) = ((mid + m : Nat) : Int) := i64_add (by omega)
        have wp : IntKind.i64.wrap (((mid + m : Nat) : Int) - 1) = ((mid + m - 1 : Nat) : Int) := i64_pred (by omega) (by omega)
        rw [w1, cond_false, w2, cond_false]
        simp only [wmid, wn, wp]
        have aux : ∀ (Q : List Ev × Unit → Prop) (K0 : (Int × Int × Unit) × Unit × Unit × Unit → Option (List Ev × Unit)), (∀ s0 r0 : Nat, a ≤ s0 → s0 ≤ r0 → r0 ≤ m → r0 ≤ mid → (mid + m - s0 ≤ b) → (s0 = a ∨ mid + m - s0 = b) → (r0 = m ∨ r0 = mid) → ∃ r, K0 (((s0 : Int), (r0 : Int), ()), (), (), ()) = some r ∧ Q r) →
            ∃ r, joinAt K0 (fun k => bif decide ((mid : Int) < (m : Int)) then k ((IntKind.i64.wrap (((mid + m : Nat) : Int) - (b : Int)), (mid : Int), ()), (), (), ()) else k (((a : Int), (m : Int), ()), (), (), ())) = some r ∧ Q r := by
          intro Q K0 h
          unfold joinAt
          by_cases hmm : mid < m
          · have : decide ((mid : Int) < (m : Int)) = true := by simp; omega
            simp only [this, cond_true]
            rw [i64_sub (by omega) (by omega)]
            exact h (mid + m - b) mid (by omega) (by omega) (by omega) (by omega) (by omega) (by omega) (by omega)
          · have : decide ((mid : Int) < (m : Int)) = false := by simp; omega
            simp only [this, cond_false]
            exact h a m (by omega) (by omega) (by omega) (by omega) (by omega) (by omega) (by omega)
        refine aux (fun r => ∃ M, r = (P ++ M ++ R, ()) ∧ Asc ltE M ∧ St (A ++ B) M) _ ?_
        clear aux
        intro s0 r0 c1 c2 c3 c4 c5 c6 c7
        have gA : ∀ k, a ≤ k → (h : k < m) → (P ++ A ++ B ++ R)[k]? = some (A[k - a]'(by omega)) := by
          intro k h1 h2
          have : P ++ A ++ B ++ R = P ++ A ++ (B ++ R) := by simp
          rw [this]; exact get_mid ha h1 (by omega)
        have gB : ∀ k, m ≤ k → (h : k < b) → (P ++ A ++ B ++ R)[k]? = some (B[k - m]'(by omega)) := by
          intro k h1 h2
          exact get_mid (by simp; omega) h1 (by omega)
        refine iter_ok (Q := fun r : List Ev × Unit => ∃ M, r = (P ++ M ++ R, ()) ∧ Asc ltE M ∧ St (A ++ B) M)
          (fun q z => ∃ i j : Nat, z = (((i : Int), (j : Int), ()), (), (), ()) ∧ s0 ≤ i ∧ i ≤ j ∧ j ≤ r0 ∧ q = j - i ∧
            (i = s0 ∨ ∃ u v, (P ++ A ++ B ++ R)[mid + m - i]? = some u ∧ (P ++ A ++ B ++ R)[i - 1]? = some v ∧ ltE u v = false) ∧
            (j = r0 ∨ ∃ u v, (P ++ A ++ B ++ R)[mid + m - 1 - j]? = some u ∧ (P ++ A ++ B ++ R)[j]? = some v ∧ ltE u v = true)) ?_ N (r0 - s0) _
          ⟨s0, r0, rfl, by omega, by omega, by omega, rfl, .inl rfl, .inl rfl⟩ (by omega)
        rintro q z rec ⟨i, j, rfl, h1, h2, h3, rfl, h4, h5⟩ ih
        by_cases hij : i < j
        · have hc1 : a ≤ (i + j) / 2 := by omega
          have hc2 : (i + j) / 2 < m := by omega
          have hc3 : m ≤ mid + m - 1 - (i + j) / 2 := by omega
          have hc4 : mid + m - 1 - (i + j) / 2 < b := by omega
          have wi : IntKind.i64.wrap (((mid + m - 1 : Nat) : Int) - (((i + j) / 2 : Nat) : Int)) = ((mid + m - 1 - (i + j) / 2 : Nat) : Int) := i64_sub (by omega) (by omega)
          have g1 := gB _ hc3 hc4
          have g2 := gA _ hc1 hc2
          simp only [dec_lt, decide_eq_true hij, cond_true, half' hij (by omega), wi, inB (show mid + m - 1 - (i + j) / 2 < len by omega), inB (show (i + j) / 2 < len by omega), Nat.zero_add, toNat_nat, g1, g2, Option.bind_some, sort1_eq, ltE_def]
          cases hc : ltE (B[mid + m - 1 - (i + j) / 2 - m]'(by omega)) (A[(i + j) / 2 - a]'(by omega)) with
          | false =>
            simp only [Bool.not_false, cond_true, i64_succ (show (i + j) / 2 + 1 < 9223372036854775808 by omega)]
            refine ih (j - ((i + j) / 2 + 1)) _ (by omega) ⟨(i + j) / 2 + 1, j, rfl, by omega, by omega, h3, rfl, .inr ⟨_, _, ?_, ?_, hc⟩, h5⟩
            · rw [show mid + m - ((i + j) / 2 + 1) = mid + m - 1 - (i + j) / 2 by omega]; exact g1
            · rw [show (i + j) / 2 + 1 - 1 = (i + j) / 2 by omega]; exact g2
          | true =>
            simp only [Bool.not_true, cond_false]
            exact ih ((i + j) / 2 - i) _ (by omega) ⟨i, (i + j) / 2, rfl, by omega, by omega, by omega, rfl, h4, .inr ⟨_, _, g1, g2, hc⟩⟩
        · have : j = i := by omega
          subst this
          clear ih
          have we : IntKind.i64.wrap (((mid + m : Nat) : Int) - (j : Int)) = ((mid + m - j : Nat) : Int) := i64_sub (by omega) (by omega)
          simp only [dec_lt, decide_eq_false hij, cond_false, we]
          obtain ⟨e, he⟩ : ∃ e, e = mid + m - j := ⟨_, rfl⟩
          rw [← he]
          -- the four blocks
          have sA : A.take (j - a) ++ A.drop (j - a) = A := List.take_append_drop _ _
          have sB : B.take (e - m) ++ B.drop (e - m) = B := List.take_append_drop _ _
          have lA1 : (A.take (j - a)).length = j - a := by simp; omega
          have lX : (A.drop (j - a)).length = m - j := by simp; omega
          have lY : (B.take (e - m)).length = e - m := by simp; omega
          have lB2 : (B.drop (e - m)).length = b - e := by simp; omega
          -- what the search found
          have hcross : ∀ u ∈ A.take (j - a), ∀ v ∈ B.drop (e - m), ltE v u = false := by
            intro u hu v hv
            have n1 : 0 < j - a := by rw [← lA1]; exact List.length_pos_of_mem hu
            have n2 : 0 < b - e := by rw [← lB2]; exact List.length_pos_of_mem hv
            rcases h4 with h4 | ⟨u', v', q1, q2, q3⟩
            · omega
            · rw [← he, gB e (by omega) (by omega)] at q1
              rw [gA (j - 1) (by omega) (by omega)] at q2
              cases q1; cases q2
              cases hh : ltE v u with
              | false => rfl
              | true =>
                have t1 := drop_mem_ge hB (h := e - m) (by omega) v hv
                have t2 := take_mem_le hA (h := j - 1 - a) (by omega) u (by rw [show j - 1 - a + 1 = j - a by omega]; exact hu)
                -- first of B2 ≤ v < u ≤ last of A1
                have t3 := lo_E.lt_le (lo_E.le_lt t1 hh) t2
                rw [q3] at t3; cases t3
          have hstrict : ∀ y ∈ B.take (e - m), ∀ x ∈ A.drop (j - a), ltE y x = true := by
            intro y hy x hx
            have n1 : 0 < e - m := by rw [← lY]; exact List.length_pos_of_mem hy
            have n2 : 0 < m - j := by rw [← lX]; exact List.length_pos_of_mem hx
            rcases h5 with h5 | ⟨u', v', q1, q2, q3⟩
            · omega
            · rw [show mid + m - 1 - j = e - 1 by omega, gB (e - 1) (by omega) (by omega)] at q1
              rw [gA j (by omega) (by omega)] at q2
              cases q1; cases q2
              have t1 := take_mem_le hB (h := e - 1 - m) (by omega) y (by rw [show e - 1 - m + 1 = e - m by omega]; exact hy)
              have t2 := drop_mem_ge hA (h := j - a) (by omega) x hx
              exact lo_E.lt_le (lo_E.le_lt t1 q3) t2
          have hA' : Asc ltE (A.take (j - a) ++ A.drop (j - a)) := by rw [sA]; exact hA
          have hB' : Asc ltE (B.take (e - m) ++ B.drop (e - m)) := by rw [sB]; exact hB
          have hst : P ++ A ++ B ++ R = (P ++ A.take (j - a)) ++ A.drop (j - a) ++ B.take (e - m) ++ (B.drop (e - m) ++ R) := by
            conv => lhs; rw [← sA, ← sB]
            simp only [List.append_assoc]
          have hst2 : A ++ B = (A.take (j - a) ++ A.drop (j - a)) ++ (B.take (e - m) ++ B.drop (e - m)) := by rw [sA, sB]
          rw [hst, hst2]
          clear h4 h5 gA gB hst hst2 sA sB hA hB
          generalize A.take (j - a) = A1 at *
          generalize A.drop (j - a) = X at *
          generalize B.take (e - m) = Y at *
          generalize B.drop (e - m) = B2 at *
          -- turned
          rw [turnJ _ (decide (j < m)) (decide (m < e)) _ ((P ++ A1) ++ X ++ Y ++ (B2 ++ R)) ((P ++ A1) ++ Y ++ X ++ (B2 ++ R)) (by
              intro t1 t2
              have t1 := of_decide_eq_true t1
              have t2 := of_decide_eq_true t2
              exact rotate_eq N (P ++ A1) X Y (B2 ++ R) j m e len (by simp; omega) (by omega) (by omega) (by omega) (by omega) (by simp; omega) (by omega) (by omega)) (by
              intro hnot
              by_cases t1 : j < m
              · have t2 : ¬ m < e := fun t2 => hnot ⟨decide_eq_true t1, decide_eq_true t2⟩
                have : Y = [] := List.length_eq_zero_iff.1 (by omega)
                subst this; simp
              · have : X = [] := List.length_eq_zero_iff.1 (by omega)
                subst this; simp)]
          -- the first half
          obtain ⟨M1, m1, m2, m3⟩ : ∃ M1, (a < j → j < mid → G (P ++ A1 ++ Y ++ (X ++ B2 ++ R)) len a j mid = some (P ++ M1 ++ (X ++ B2 ++ R), ())) ∧ (Asc ltE M1 ∧ St (A1 ++ Y) M1) ∧ (¬ (a < j ∧ j < mid) → M1 = A1 ++ Y) := by
            by_cases t : a < j ∧ j < mid
            · obtain ⟨M1, k1, k2, k3⟩ := IH P A1 Y (X ++ B2 ++ R) a j mid (by omega) ha (by omega) (by omega) (by omega) (by omega) (asc_left hA') (asc_left hB') (by simp; omega)
              exact ⟨M1, fun _ _ => k1, ⟨k2, k3⟩, fun h => (h t).elim⟩
            · refine ⟨A1 ++ Y, fun t1 t2 => (t ⟨t1, t2⟩).elim, ⟨?_, .refl _⟩, fun _ => rfl⟩
              by_cases t1 : a < j
              · have : Y = [] := List.length_eq_zero_iff.1 (by omega)
                subst this; rw [List.append_nil]; exact asc_left hA'
              · have : A1 = [] := List.length_eq_zero_iff.1 (by omega)
                subst this; exact asc_left hB'
          have lM1 : M1.length = mid - a := by
            have := m2.2.perm.length_eq
            rw [List.length_append] at this; omega
          rw [turnJ _ (decide (a < j)) (decide (j < mid)) _ ((P ++ A1) ++ Y ++ X ++ (B2 ++ R)) (P ++ M1 ++ (X ++ B2 ++ R)) (by
              intro t1 t2
              have e1 : (P ++ A1) ++ Y ++ X ++ (B2 ++ R) = P ++ A1 ++ Y ++ (X ++ B2 ++ R) := by simp only [List.append_assoc]
              rw [e1]
              exact m1 (of_decide_eq_true t1) (of_decide_eq_true t2)) (by
              intro hnot
              rw [m3 fun t => hnot ⟨decide_eq_true t.1, decide_eq_true t.2⟩]
              simp only [List.append_assoc])]
          obtain ⟨M2, k1, k2, k3⟩ : ∃ M2, (mid < e → e < b → G ((P ++ M1) ++ X ++ B2 ++ R) len mid e b = some ((P ++ M1) ++ M2 ++ R, ())) ∧ (Asc ltE M2 ∧ St (X ++ B2) M2) ∧ (¬ (mid < e ∧ e < b) → M2 = X ++ B2) := by
            by_cases t : mid < e ∧ e < b
            · obtain ⟨M2, k1, k2, k3⟩ := IH (P ++ M1) X B2 R mid e b (by omega) (by simp; omega) (by omega) (by omega) (by omega) (by omega) (asc_right hA') (asc_right hB') (by simp; omega)
              exact ⟨M2, fun _ _ => k1, ⟨k2, k3⟩, fun h => (h t).elim⟩
            · refine ⟨X ++ B2, fun t1 t2 => (t ⟨t1, t2⟩).elim, ⟨?_, .refl _⟩, fun _ => rfl⟩
              by_cases t1 : mid < e
              · have : B2 = [] := List.length_eq_zero_iff.1 (by omega)
                subst this; rw [List.append_nil]; exact asc_right hA'
              · have : X = [] := List.length_eq_zero_iff.1 (by omega)
                subst this; exact asc_right hB'
          rw [turnE (decide (mid < e)) (decide (e < b)) _ (P ++ M1 ++ (X ++ B2 ++ R)) ((P ++ M1) ++ M2 ++ R) (by
              intro t1 t2
              have e1 : P ++ M1 ++ (X ++ B2 ++ R) = (P ++ M1) ++ X ++ B2 ++ R := by simp only [List.append_assoc]
              rw [e1]
              exact k1 (of_decide_eq_true t1) (of_decide_eq_true t2)) (by
              intro hnot
              rw [k3 fun t => hnot ⟨decide_eq_true t.1, decide_eq_true t.2⟩]
              simp only [List.append_assoc])]
          obtain ⟨f1, f2⟩ := halves hA' hB' hstrict hcross m2.1 m2.2 k2.1 k2.2
          exact ⟨_, rfl, M1 ++ M2, by simp only [List.append_assoc], f1, f2⟩
end Go.Proofs.Xg
set_option linter.unusedVariables false
set_option linter.unusedSimpArgs false
set_option maxRecDepth 100000
namespace Go.Proofs.Xg
open Go Go.Xl Go.Ab Go.Proofs Go.Sort
theorem insertion_all (N : Nat) (l : List Ev) (hl : l.length < 4611686018427387904) (hN : l.length < N) :
    F_slices_insertionSortCmpFunc_Event N l l.length 0 l.length = some (isort ltE l, ()) := by
  have := insertion_eq N l 0 l.length (Nat.zero_le _) (Nat.le_refl _) hl hN
  simpa using this
theorem isort_app (l : List Ev) (k : Nat) : St l (isort ltE (l.take k) ++ isort ltE (l.drop k)) := by
  have := (isort_st (l.take k)).app (isort_st (l.drop k))
  rwa [List.take_append_drop] at this
theorem stable_eq (N : Nat) (l : List Ev) (h20 : l.length ≤ 39) (hN : 1000000000000 < N) : F_slices_stableCmpFunc_Event N l l.length l.length = some (isort ltE l, ()) := by
  unfold F_slices_stableCmpFunc_Event
  have hi := isort_length (lt := ltE)
  refine iter_eq (G := fun _ => some (isort ltE l, ())) (fun q z => (q = 1 ∧ z = ((((0 : Nat) : Int), ((20 : Nat) : Int), ()), (), (), l, ())) ∨ (q = 0 ∧ 20 ≤ l.length ∧ z = ((((20 : Nat) : Int), ((40 : Nat) : Int), ()), (), (), isort ltE (l.take 20) ++ l.drop 20, ()))) ?_ N 1 _ (.inl ⟨rfl, rfl⟩) (by omega)
  intro q z rec hz ih
  have cases' : (20 ≤ l.length ∧ q = 1 ∧ z = ((((0 : Nat) : Int), ((20 : Nat) : Int), ()), (), (), l, ())) ∨ ∃ (a b : Nat) (zz L : List Ev), z = (((a : Int), (b : Int), ()), (), (), zz, ()) ∧ l.length < b ∧ F_slices_insertionSortCmpFunc_Event N zz l.length a l.length = some (L, ()) ∧ L.length = l.length ∧ (l.length ≤ 20 → L = isort ltE l) ∧ (20 < l.length → L = isort ltE (l.take 20) ++ isort ltE (l.drop 20)) := by
    rcases hz with ⟨rfl, rfl⟩ | ⟨rfl, h1, rfl⟩
    · by_cases h : 20 ≤ l.length
      · exact .inl ⟨h, rfl, rfl⟩
      · right
        have := insertion_all N l (by omega) (by omega)
        exact ⟨0, 20, l, isort ltE l, rfl, by omega, this, hi l, fun _ => rfl, fun h => by omega⟩
    · right
      have hl1 : (isort ltE (l.take 20) ++ l.drop 20).length = l.length := by simp [hi]; omega
      have ht : (isort ltE (l.take 20)).length = 20 := by rw [hi]; simp; omega
      have := insertion_eq N (isort ltE (l.take 20) ++ l.drop 20) 20 l.length h1 (by omega) (by omega) (by omega)
      rw [hl1] at this
      have e1 : (isort ltE (l.take 20) ++ l.drop 20).take 20 = isort ltE (l.take 20) := by rw [List.take_append_of_le_length (by omega), List.take_of_length_le (by omega)]
      have e2 : ((isort ltE (l.take 20) ++ l.drop 20).take l.length).drop 20 = l.drop 20 := by
        rw [List.take_of_length_le (by omega), List.drop_append_of_le_length (by omega), List.drop_of_length_le (by omega)]; rfl
      have e3 : (isort ltE (l.take 20) ++ l.drop 20).drop l.length = [] := List.drop_of_length_le (by omega)
      rw [e1, e2, e3, List.append_nil] at this
      refine ⟨20, 40, _, _, rfl, by omega, this, by simp [hi]; omega, fun h => ?_, fun _ => rfl⟩
      have hl : l.length = 20 := by omega
      rw [List.take_of_length_le (by omega), List.drop_of_length_le (by omega)]
      exact List.append_nil _
  rcases cases' with ⟨h, rfl, rfl⟩ | ⟨a, b, zz, L, rfl, h1, h2, h3, h4, h5⟩
  · have hd : decide (((20 : Nat) : Int) ≤ (l.length : Int)) = true := by simp; omega
    have hins := insertion_eq N l 0 20 (by omega) h (by omega) (by omega)
    have e1 : l.take 0 ++ isort ltE ((l.take 20).drop 0) ++ l.drop 20 = isort ltE (l.take 20) ++ l.drop 20 := by simp
    rw [e1] at hins
    simp only [hd, cond_true, hins, Option.bind_some]
    exact ih 0 _ (by omega) (.inr ⟨rfl, h, rfl⟩)
  · have hd : decide ((b : Int) ≤ (l.length : Int)) = false := by simp; omega
    simp only [hd, cond_false, h2, Option.bind_some]
    clear ih hz hd h2 rec
    refine iter_eq (G := fun _ => some (isort ltE l, ())) (fun q z => (q = 1 ∧ z = ((((20 : Nat) : Int), ()), (), (), L, ())) ∨ (q = 0 ∧ 20 < l.length ∧ z = ((((40 : Nat) : Int), ()), (), (), isort ltE l, ()))) ?_ N 1 _ (.inl ⟨rfl, rfl⟩) (by omega)
    intro q z rec hz ih
    rcases hz with ⟨rfl, rfl⟩ | ⟨rfl, h6, rfl⟩
    · by_cases h : 20 < l.length
      · have hd : decide (((20 : Nat) : Int) < (l.length : Int)) = true := by simp; omega
        simp only [hd, cond_true]
        obtain ⟨M, s1, s2, s3⟩ := sym_eq N l.length (by omega) hN N [] (isort ltE (l.take 20)) (isort ltE (l.drop 20)) [] 0 20 l.length (by rw [hi, hi]; simp; omega) rfl (by rw [hi]; simp; omega) (by rw [hi]; simp; omega) (by rw [hi]; simp; omega) (by rw [hi]; simp; omega) (isort_asc lo_E _) (isort_asc lo_E _) (by simp [hi]; omega)
        have hM : M = isort ltE l := st_unique s2 (isort_asc lo_E l) fun x => by
          rw [s3.cls x, (isort_app l 20).cls x, (isort_st l).cls x]
        rw [hM] at s1
        have hL := h5 h
        simp only [List.nil_append, List.append_nil, ← hL] at s1
        refine iter_eq (G := fun _ => some (isort ltE l, ())) (fun q z => z = ((((0 : Nat) : Int), ((40 : Nat) : Int), ()), (), (), L, ())) ?_ N 0 _ rfl (by omega)
        rintro q z rec1 rfl _
        have hd2 : decide (((40 : Nat) : Int) ≤ (l.length : Int)) = false := by simp; omega
        have w1 : IntKind.i64.wrap (((0 : Nat) : Int) + ((20 : Nat) : Int)) = ((20 : Nat) : Int) := i64_add (by omega)
        simp only [hd2, cond_false, w1, hd, cond_true]
        unfold F_slices_symMergeCmpFunc_Event
        rw [s1, Option.bind_some]
        exact ih 0 _ (by omega) (.inr ⟨rfl, h, rfl⟩)
      · have hd : decide (((20 : Nat) : Int) < (l.length : Int)) = false := by simp; omega
        simp only [hd, cond_false, h4 (by omega)]
    · have hd : decide (((40 : Nat) : Int) < (l.length : Int)) = false := by simp; omega
      simp only [hd, cond_false]
theorem sortStable_eq (N : Nat) (l : List Ev) (h20 : l.length ≤ 39) (hN : 1000000000000 < N) : F_slices_SortStableFunc_sEvent_Event N l l.length = some (isort ltE l, ()) := by
  unfold F_slices_SortStableFunc_sEvent_Event
  rw [stable_eq N l h20 hN]
  rfl
theorem sort2_eq (N : Nat) (x y : Ev) : F_event_Sort_2 N x y = some (eqE x y) := rfl
theorem compactE_eq (N : Nat) (l : List Ev) (hb : l.length < 4611686018427387904) (hN : l.length < N) : ∃ r : List Ev × Nat, F_slices_CompactFunc_sEvent_Event N l l.length = some r ∧ r.1.take r.2 = compB eqE l ∧ r.2 ≤ r.1.length := by
  unfold F_slices_CompactFunc_sEvent_Event
  simp only [cond_eq_ite, sort2_eq, Option.bind_some]
  by_cases h2 : ((l.length : Nat) : Int) < 2
  · rw [if_pos (by simpa using h2)]
    refine ⟨_, rfl, ?_, Nat.le_refl _⟩
    have : l = l.take 1 := by rw [List.take_of_length_le (by omega)]
    rw [List.take_length, this, compB_one]
  · rw [if_neg (by simpa using h2)]
    refine iter_ok (Q := fun (r : List Ev × Nat) => r.1.take r.2 = compB eqE l ∧ r.2 ≤ r.1.length) (fun n z => ∃ k : Nat, z = (((k : Int), ()), (), (), l, ()) ∧ 1 ≤ k ∧ k ≤ l.length ∧ n = l.length - k ∧ compB eqE (l.take k) = l.take k) ?_ N (l.length - 1) _ ⟨1, rfl, by omega, by omega, rfl, compB_one l⟩ (by omega)
    rintro n z rec ⟨k, rfl, k1, k2, hn, hc⟩ ih
    simp only
    by_cases hk : k < l.length
    · have e1 : IntKind.i64.wrap ((k : Int) - 1) = ((k - 1 : Nat) : Int) := i64_pred (by omega) (by omega)
      have e2 : IntKind.i64.wrap ((k : Int) + 1) = ((k + 1 : Nat) : Int) := i64_succ (by omega)
      simp only [e1, e2, toNat_nat, Nat.zero_add, getElem?_lt hk, getElem?_lt (show k - 1 < l.length by omega), Option.bind_some]
      rw [if_pos (by simp; omega), if_pos (by simp; omega), if_pos (by simp; omega)]
      have hstep := compB_take_succ lo_E (l := l) (m := k) (by omega) (getElem?_lt (show k - 1 < l.length by omega)) (getElem?_lt hk)
      cases he : eqE l[k] l[k - 1] with
      | true =>
        rw [he] at hstep
        rw [if_pos rfl, if_pos (by simp [cutOk]; omega)]
        refine iter_ok (Q := fun (r : List Ev × Nat) => r.1.take r.2 = compB eqE l ∧ r.2 ≤ r.1.length) (fun n z => ∃ (i q : Nat) (c : List Ev), z = (((i : Int), (q : Int), ()), (), (), c, ()) ∧ 1 ≤ q ∧ k + q ≤ l.length ∧ i + 1 ≤ k + q ∧ c.length = l.length ∧
          (∀ j, i ≤ j → c[j]? = l[j]?) ∧ c.take i = compB eqE (l.take (k + q)) ∧ n = l.length - (k + q)) ?_ N (l.length - (k + 1)) _
          ⟨k, 1, l, rfl, by omega, by omega, by omega, rfl, fun _ _ => rfl, by rw [hstep, cond_true, hc], rfl⟩ (by omega)
        rintro n z rec ⟨i, q, c, rfl, q1, q2, q3, hcl, hcj, hct, hn⟩ ih'
        simp only
        by_cases hq : k + q < l.length
        · have f1 : IntKind.i64.wrap ((q : Int) - 1) = ((q - 1 : Nat) : Int) := i64_pred (by omega) (by omega)
          have f2 : IntKind.i64.wrap ((q : Int) + 1) = ((q + 1 : Nat) : Int) := i64_succ (by omega)
          have f3 : IntKind.i64.wrap ((i : Int) + 1) = ((i + 1 : Nat) : Int) := i64_succ (by omega)
          have g1 : c[k + q]? = some l[k + q] := by rw [hcj _ (by omega), getElem?_lt hq]
          have g2 : c[k + (q - 1)]? = some l[k + (q - 1)] := by rw [hcj _ (by omega), getElem?_lt (by omega)]
          have g3 : c[i]? = some (c[i]'(by omega)) := getElem?_lt (by omega)
          simp only [f1, f2, f3, toNat_nat, Nat.zero_add, g1, g2, g3, Option.bind_some]
          rw [if_pos (by simp; omega), if_pos (by simp; omega), if_pos (by simp; omega)]
          have hs := compB_take_succ lo_E (l := l) (m := k + q) (a := l[k + (q - 1)]) (by omega) (by rw [show k + q - 1 = k + (q - 1) by omega]; exact getElem?_lt _) (getElem?_lt hq)
          cases hne : eqE l[k + q] l[k + (q - 1)] with
          | true =>
            rw [hne] at hs
            rw [if_neg (by simp)]
            refine ih' (l.length - (k + (q + 1))) _ (by omega) ⟨i, q + 1, c, rfl, by omega, by omega, by omega, hcl, hcj, ?_, rfl⟩
            rw [hct, ← Nat.add_assoc, hs, cond_true]
          | false =>
            rw [hne] at hs
            rw [if_pos (by simp), if_pos (by simp; omega), if_pos (by simp; omega)]
            refine ih' (l.length - (k + (q + 1))) _ (by omega) ⟨i + 1, q + 1, c.set i l[k + q], rfl, by omega, by omega, by omega, by simpa using hcl, ?_, ?_, rfl⟩
            · intro j hj
              rw [List.getElem?_set_ne (by omega)]
              exact hcj j (by omega)
            · rw [← Nat.add_assoc, hs, cond_false, ← hct, List.take_add_one, List.take_set_of_le (Nat.le_refl _), List.getElem?_set_self (by omega)]; rfl
        · rw [if_neg (by simp; omega), if_pos (by simp [cutOk]; omega), if_pos (by simp [cutOk]; omega)]
          refine ⟨_, rfl, ?_, ?_⟩
          · have : k + q = l.length := by omega
            rw [this, List.take_length] at hct
            simp only [toNat_nat, Nat.zero_add, Nat.sub_zero]
            rw [← hct, List.take_take, Nat.min_self]
          · simp only [toNat_nat, Nat.sub_zero, Nat.zero_add, List.length_take]; omega
      | false =>
        rw [he] at hstep
        rw [if_neg (by simp)]
        refine ih (l.length - (k + 1)) _ (by omega) ⟨k + 1, rfl, by omega, by omega, rfl, ?_⟩
        rw [hstep, cond_false, hc, List.take_add_one, getElem?_lt hk]; rfl
    · rw [if_neg (by simp; omega)]
      refine ⟨_, rfl, ?_, Nat.le_refl _⟩
      have : k = l.length := by omega
      subst this
      rw [List.take_length] at hc ⊢
      exact hc.symm
def sortE (l : List Ev) : List Ev := compB eqE (isort ltE l)
def smE (e : Ev) : Prop := e.2.2.2.2.2.length ≤ 5000
theorem copy_eq (N : Nat) (e : Ev) (he : smE e) : F_event_Copy N e = some e := by
  unfold F_event_Copy
  have : F_slices_Clone_sDot_Dot_d N e.2.2.2.2.2 = some e.2.2.2.2.2 := by
    unfold F_slices_Clone_sDot_Dot_d cloneD
    unfold smE at he
    cases hk : e.2.2.2.2.2 with
    | nil => rfl
    | cons y r =>
      rw [hk] at he
      have hfit : fitsB (y :: r).length 16 = true := by
        simp only [fitsB, Bool.and_eq_true, decide_eq_true_eq]
        omega
      simp only [listCase, hfit, cond_true]
  rw [this]; rfl
theorem sort0_eq (N : Nat) (hN : 0 < N) : F0_slices_SortStableFunc_sEvent_Event N = some () := by
  have h1 : F0_slices_insertionSortCmpFunc_Event N 0 0 = some () := by
    unfold F0_slices_insertionSortCmpFunc_Event
    have e : IntKind.i64.wrap (0 + 1) = 1 := by decide
    rw [e]
    obtain ⟨M, rfl⟩ : ∃ M, N = M + 1 := ⟨N - 1, by omega⟩
    simp only [iter]
    rfl
  unfold F0_slices_SortStableFunc_sEvent_Event
  have h2 : F0_slices_stableCmpFunc_Event N 0 = some () := by
    unfold F0_slices_stableCmpFunc_Event
    obtain ⟨M, rfl⟩ : ∃ M, N = M + 1 := ⟨N - 1, by omega⟩
    simp only [iter]
    rw [decide_eq_false (by decide), cond_false]
    rw [h1]
    simp only [Option.bind_some]
    rw [decide_eq_false (by decide), cond_false]
  rw [h2]; rfl
theorem eventSort_eq (N : Nat) (l : List Ev) (h20 : l.length ≤ 39) (hsm : ∀ e ∈ l, smE e) (hN : 1000000000000 < N) : F_event_Sort N l = some (sortE l) := by
  unfold F_event_Sort
  refine some_of ?_
  refine iter_ok (Q := fun r => r = sortE l) (fun n z => ∃ k : Nat, z = (((k : Int), ()), (), ((if k = 0 then none else some (l.take k, k)), ()), ()) ∧ k ≤ l.length ∧ n = l.length - k) ?_ N l.length _ ⟨0, rfl, Nat.zero_le _, by omega⟩ (by omega)
  rintro n z rec ⟨k, rfl, hk, rfl⟩ ih
  simp only [dec_lt]
  by_cases hkl : k < l.length
  · have hc := copy_eq N l[k] (hsm _ (List.getElem_mem hkl))
    have hw : IntKind.i64.wrap ((k : Int) + 1) = ((k + 1 : Nat) : Int) := i64_succ (by omega)
    by_cases h0 : k = 0
    · subst h0
      rw [if_pos rfl]
      simp only [optCase]
      rw [decide_eq_true hkl]
      simp only [cond_true, at?_nat]
      rw [getl hkl]
      simp only [Option.bind_some]
      rw [hc, hw]
      simp only [Option.bind_some]
      refine ih (l.length - 1) _ (by omega) ⟨1, ?_, by omega, rfl⟩
      have : l.take 1 = [l[0]] := by
        rw [List.take_add_one, getl hkl]; rfl
      rw [this, if_neg (by omega)]
      rfl
    · have hlt : (l.take k).length = k := by simp; omega
      have hb : Nat.beq (l.take k).length k = true := by rw [hlt]; exact Nat.beq_refl k
      have hf : fitsB (k + [l[k]].length) 80 = true := by
        simp only [fitsB, List.length_singleton, Bool.and_eq_true, decide_eq_true_eq]; omega
      rw [if_neg h0]
      simp only [optCase]
      rw [decide_eq_true hkl]
      simp only [cond_true, at?_nat]
      rw [getl hkl]
      simp only [Option.bind_some]
      rw [hc]
      simp only [Option.bind_some]
      rw [hb, hf, hw]
      simp only [cond_true]
      refine ih (l.length - (k + 1)) _ (by omega) ⟨k + 1, ?_, by omega, rfl⟩
      have : l.take (k + 1) = l.take k ++ [l[k]] := by
        rw [List.take_add_one, getl hkl]; rfl
      rw [this, if_neg (by omega)]
      rfl
  · have hkl' : k = l.length := by omega
    by_cases h0 : k = 0
    · have : l = [] := List.eq_nil_of_length_eq_zero (by omega)
      subst this
      rw [if_pos h0]
      simp only [optCase]
      rw [decide_eq_false hkl]
      simp only [cond_false]
      rw [sort0_eq N (by omega)]
      exact ⟨_, rfl, rfl⟩
    · rw [hkl'] at h0 ⊢
      rw [if_neg h0]
      simp only [optCase]
      rw [decide_eq_false (by omega)]
      simp only [cond_false, List.take_length]
      rw [sortStable_eq N l h20 hN]
      simp only [Option.bind_some]
      have hi := isort_length (lt := ltE) l
      obtain ⟨r, h1, h2, h3⟩ := compactE_eq N (isort ltE l) (by omega) (by omega)
      rw [hi] at h1
      rw [h1]
      simp only [Option.bind_some]
      have hb : Nat.ble (0 + r.2) r.1.length = true := by simp only [Nat.ble_eq]; omega
      rw [hb, cond_true, List.drop_zero, h2]
      exact ⟨_, rfl, rfl⟩
end Go.Proofs.Xg
set_option linter.unusedVariables false
set_option linter.unusedSimpArgs false
set_option maxRecDepth 100000
namespace Go.Proofs.Xg
open Go Go.Xl Go.Ab Go.Proofs Go.Sort
theorem refCmp_eq (N : Nat) (x y : Int × Int) : F_epitaphref07_Cmp N x y = some (cfDot x y) := by
  simp only [F_epitaphref07_Cmp, cfDot, cond_eq_ite]
  grind
def ltD (x y : Int × Int) : Bool := ltOf cfDot x y
theorem ltD_asymm (x y : Int × Int) (h : ltD x y = true) : ltD y x = false := by
  unfold ltD at *
  rw [dot_lt] at *
  simp at *; omega
theorem ltD_trans {x y z : Int × Int} (h : ltD x y = true) (h' : ltD y z = true) : ltD x z = true := by
  unfold ltD at *
  rw [dot_lt] at *
  simp at *; omega
theorem ltD_total (x y : Int × Int) (h1 : ltD x y = false) (h2 : ltD y x = false) : x = y := dot_total x y h1 h2
theorem gtD (x y : Int × Int) : decide (0 < cfDot x y) = ltD y x := by
  unfold ltD
  rw [dot_lt, Bool.eq_iff_iff]
  unfold cfDot
  simp only [decide_eq_true_eq]
  grind
theorem ltD_def (x y : Int × Int) : decide (cfDot x y < 0) = ltD x y := rfl
def putF (d : Int × Int) (l : List (Int × Int)) : List (Int × Int) := l.filter (fun x => ltD x d) ++ [d] ++ l.filter (fun x => ltD d x)
theorem putF_length (d : Int × Int) (l : List (Int × Int)) : (putF d l).length ≤ l.length + 1 := by
  unfold putF
  have : ∀ l : List (Int × Int), (l.filter (fun x => ltD x d)).length + (l.filter (fun x => ltD d x)).length ≤ l.length := by
    intro l
    induction l with
    | nil => simp
    | cons x r ih =>
      simp only [List.filter_cons]
      cases h1 : ltD x d with
      | true => rw [ltD_asymm _ _ h1]; simp; omega
      | false => cases ltD d x <;> simp <;> omega
  have := this l
  simp; omega
theorem putF_mem (d x : Int × Int) (l : List (Int × Int)) : x ∈ putF d l ↔ x = d ∨ x ∈ l := by
  unfold putF
  simp only [List.mem_append, List.mem_filter, List.mem_singleton]
  constructor
  · rintro ((⟨h, _⟩ | h) | ⟨h, _⟩)
    · exact .inr h
    · exact .inl h
    · exact .inr h
  · rintro (h | h)
    · exact .inl (.inr h)
    · cases h1 : ltD x d with
      | true => exact .inl (.inl ⟨h, rfl⟩)
      | false =>
        cases h2 : ltD d x with
        | true => exact .inr ⟨h, rfl⟩
        | false => exact .inl (.inr (ltD_total _ _ h1 h2))
theorem putF_asc (d : Int × Int) (l : List (Int × Int)) (h : SAsc ltD l) : SAsc ltD (putF d l) := by
  unfold putF SAsc
  rw [List.append_assoc, List.pairwise_append, List.singleton_append, List.pairwise_cons]
  refine ⟨List.Pairwise.filter _ h, ⟨fun y hy => (List.mem_filter.1 hy).2, List.Pairwise.filter _ h⟩, ?_⟩
  intro a ha b hb
  have h1 := (List.mem_filter.1 ha).2
  rcases List.mem_cons.1 hb with rfl | hb
  · exact h1
  · exact ltD_trans h1 (List.mem_filter.1 hb).2
def putsF (l : List (Int × Int)) : List (Int × Int) := l.foldl (fun q d => putF d q) []
theorem putsF_facts : ∀ (l q : List (Int × Int)), SAsc ltD q → SAsc ltD (l.foldl (fun q d => putF d q) q) ∧ (∀ x, x ∈ l.foldl (fun q d => putF d q) q ↔ x ∈ q ∨ x ∈ l) ∧ (l.foldl (fun q d => putF d q) q).length ≤ q.length + l.length
  | [], q, h => ⟨h, by simp, by simp⟩
  | d :: r, q, h => by
    obtain ⟨h1, h2, h3⟩ := putsF_facts r (putF d q) (putF_asc d q h)
    refine ⟨h1, fun x => ?_, ?_⟩
    · rw [List.foldl_cons, h2, putF_mem]; simp; constructor <;> rintro (h | h) <;> grind
    · rw [List.foldl_cons]
      have := putF_length d q
      simp; omega
theorem compGo_mem {p x : Int × Int} : ∀ {l : List (Int × Int)}, (x = p ∨ x ∈ compGo p l) ↔ (x = p ∨ x ∈ l)
  | [] => by simp [compGo]
  | y :: r => by
    simp only [compGo]
    by_cases hy : y = p
    · subst hy
      rw [if_pos rfl, compGo_mem (l := r)]; simp
    · rw [if_neg hy]
      have := compGo_mem (p := y) (x := x) (l := r)
      simp only [List.mem_cons]
      rw [this]
theorem compGo_asc : ∀ (p : Int × Int) (l : List (Int × Int)), (p :: l).Pairwise (fun a b => ltD b a = false) → SAsc ltD (p :: compGo p l)
  | p, [], h => by simp [compGo, SAsc]
  | p, y :: r, h => by
    have h' := h
    simp only [List.pairwise_cons, List.mem_cons] at h'
    simp only [compGo]
    by_cases hy : y = p
    · subst hy
      rw [if_pos rfl]
      exact compGo_asc y r (by simp only [List.pairwise_cons]; exact ⟨fun a ha => h'.1 a (.inr ha), h'.2.2⟩)
    · rw [if_neg hy]
      have ih := compGo_asc y r (by simp only [List.pairwise_cons]; exact h'.2)
      have hpy : ltD p y = true := by
        cases hh : ltD p y with
        | true => rfl
        | false => exact absurd (ltD_total _ _ (h'.1 y (.inl rfl)) hh) hy
      unfold SAsc at *
      rw [List.pairwise_cons]
      refine ⟨fun a ha => ?_, ih⟩
      rcases List.mem_cons.1 ha with rfl | ha
      · exact hpy
      · exact ltD_trans hpy ((List.pairwise_cons.1 ih).1 a ha)
theorem sortDots_facts (l : List (Int × Int)) : SAsc ltD (sortDots l) ∧ ∀ x, x ∈ sortDots l ↔ x ∈ l := by
  have hp : (F_SortFunc_Dot l).Pairwise (fun a b => ltD b a = false) := by
    have := List.pairwise_mergeSort (le := fun x y => !(ltOf cfDot) y x) (by
      intro a b c h1 h2
      simp only [Bool.not_eq_true'] at *
      exact dot_swo.ntrans _ _ _ h2 h1) (by
      intro a b
      cases h : ltOf cfDot b a with
      | false => simp [h]
      | true => simp [h, ltD_asymm b a h] ; exact ltD_asymm b a h) l
    refine this.imp ?_
    intro a b h
    simpa [ltD] using h
  have hm : ∀ x, x ∈ F_SortFunc_Dot l ↔ x ∈ l := fun x => by simp [F_SortFunc_Dot]
  unfold sortDots
  cases hs : F_SortFunc_Dot l with
  | nil =>
    rw [hs] at hm
    exact ⟨by simp [comp, SAsc], by simpa [comp] using hm⟩
  | cons p r =>
    rw [hs] at hm hp
    refine ⟨compGo_asc p r hp, fun x => ?_⟩
    simp only [comp, List.mem_cons]
    rw [compGo_mem, ← hm x, List.mem_cons]
theorem sortDots_puts (l : List (Int × Int)) : sortDots l = putsF l := by
  obtain ⟨h1, h2⟩ := sortDots_facts l
  obtain ⟨h3, h4, _⟩ := putsF_facts l [] (by simp [SAsc])
  exact SAsc.ext ltD_asymm h1 h3 fun x => by rw [h2, putsF, h4]; simp
theorem refPut_eq (N : Nat) (l : List (Int × Int)) (d : Int × Int) (hl : l.length ≤ 1000000) (hN : 1000000 < N) : F_epitaphref07_Put N l d = some (putF d l) := by
  unfold F_epitaphref07_Put
  have e0 := foldl_filter (fun x => ltD x d) l []
  rw [fold_loop l (fun a x => cond (ltD x d) (a ++ [x]) a) [] (fun a => some (a ++ [d] ++ l.filter (fun x => ltD d x))) ?_ ?_ N (by omega), e0]
  · rfl
  · intro rec k a hk ha
    have hal : a.length ≤ k := by
      rw [ha, foldl_filter, List.nil_append]
      have := List.length_filter_le (fun x => ltD x d) (l.take k)
      rw [List.length_take] at this; omega
    have hf : fitsB (a.length + [l[k]].length) 16 = true := fit (by simp; omega) (by simp; omega)
    simp only [dec_lt, decide_eq_true hk, cond_true, at?_nat, getl hk, Option.bind_some, refCmp_eq, ltD_def, hf, i64_succ (show k + 1 < 9223372036854775808 by omega)]
    cases ltD l[k] d <;> rfl
  · intro rec
    have hal : (l.foldl (fun a x => cond (ltD x d) (a ++ [x]) a) []).length ≤ l.length := by
      rw [foldl_filter, List.nil_append]
      exact List.length_filter_le _ _
    generalize l.foldl (fun a x => cond (ltD x d) (a ++ [x]) a) [] = b at *
    have hf : fitsB (b.length + [d].length) 16 = true := fit (by simp; omega) (by simp; omega)
    simp only [dec_lt, decide_eq_false (Nat.lt_irrefl _), cond_false, hf, cond_true]
    have e1 := foldl_filter (fun x => ltD d x) l (b ++ [d])
    rw [fold_loop l (fun a x => cond (ltD d x) (a ++ [x]) a) (b ++ [d]) (fun a => some a) ?_ ?_ N (by omega), e1]
    · intro rec k a hk ha
      have hal : a.length ≤ k + b.length + 1 := by
        rw [ha, foldl_filter]
        have := List.length_filter_le (ltD d) (l.take k)
        rw [List.length_take] at this
        rw [List.length_append, List.length_append, List.length_singleton]
        omega
      have hf : fitsB (a.length + [l[k]].length) 16 = true := fit (by simp; omega) (by simp; omega)
      simp only [dec_lt, decide_eq_true hk, cond_true, at?_nat, getl hk, Option.bind_some, refCmp_eq, gtD, hf, i64_succ (show k + 1 < 9223372036854775808 by omega)]
      cases ltD d l[k] <;> rfl
    · intro rec
      simp only [dec_lt, decide_eq_false (Nat.lt_irrefl _), cond_false]
end Go.Proofs.Xg
set_option linter.unusedVariables false
set_option linter.unusedSimpArgs false
set_option maxRecDepth 100000
namespace Go.Proofs.Xg
open Go Go.Xl Go.Ab Go.Proofs Go.Sort
theorem sort_example : sortDots [(2, 1), (1, 4), (1, 9)] = [(1, 4), (1, 9), (2, 1)] := by
  have : F_SortFunc_Dot [(2, 1), (1, 4), (1, 9)] = [(1, 4), (1, 9), (2, 1)] := by
    simp [F_SortFunc_Dot, List.mergeSort, List.MergeSort.Internal.splitInTwo, List.merge, ltOf, cfDot]
  unfold sortDots
  rw [this]
  decide
theorem works_eq (N : Nat) (hN : 10 < N) : F_epitaphlaw13_works N = some true := by
  have hd : F_event_Dots N [((2, 1), 1, 0, 0, [], [(1, 4), (1, 9)])] = some [(1, 4), (1, 9), (2, 1)] := by
    unfold F_event_Dots
    rw [show N = (N - 2) + 1 + 1 by omega]
    simp only [iter]
    have e1 : IntKind.i64.wrap 1 = 1 := by decide
    have e2 : F_dot_Sort (N - 2 + 1 + 1) [(2, 1), (1, 4), (1, 9)] = some [(1, 4), (1, 9), (2, 1)] := by
      rw [dotSort_eq _ _ (by decide) (by simp only [List.length_cons, List.length_nil]; omega), sort_example]
    simp [at?, fitsB, e1, e2]
  unfold F_epitaphlaw13_works
  rw [hd]
  simp only [Option.bind_some]
  rw [same_eq N _ _ (by decide) (by simp; omega)]
  rfl
def dsE (e : Ev) : List (Int × Int) := e.1 :: e.2.2.2.2.2
theorem dsE_len {e : Ev} (h : smE e) : (dsE e).length ≤ 5001 := by
  unfold dsE smE at *; simp; omega
theorem flat_len {l : List Ev} (h : ∀ e ∈ l, smE e) : (l.flatMap dsE).length ≤ 5001 * l.length := by
  induction l with
  | nil => simp
  | cons e r ih =>
    have h1 := dsE_len (h e List.mem_cons_self)
    have h2 := ih fun x hx => h x (List.mem_cons_of_mem _ hx)
    rw [List.flatMap_cons, List.length_append, List.length_cons]; omega
theorem take_sm {l : List Ev} (h : ∀ e ∈ l, smE e) (k : Nat) : ∀ e ∈ l.take k, smE e := fun e he => h e (List.mem_of_mem_take he)
theorem dots_eq (N : Nat) (l : List Ev) (hl : l.length ≤ 100) (hsm : ∀ e ∈ l, smE e) (hN : 1000000 < N) : F_event_Dots N l = some (sortDots (l.flatMap dsE)) := by
  unfold F_event_Dots
  have e0 := foldl_flatMap dsE l []
  have hfl := flat_len hsm
  rw [fold_loop l (fun a e => a ++ dsE e) [] (fun a => Option.bind (F_dot_Sort N a) fun y => some y) ?_ ?_ N (by omega), e0]
  · rw [List.nil_append, dotSort_eq N _ (by omega) (by omega)]; rfl
  · intro rec k a hk ha
    have hal : a.length ≤ 5001 * 100 := by
      rw [ha, foldl_flatMap, List.nil_append]
      have := flat_len (take_sm hsm k)
      rw [List.length_take] at this; omega
    have hk2 : l[k].2.2.2.2.2.length ≤ 5000 := hsm _ (List.getElem_mem hk)
    have hf1 : fitsB (a.length + [l[k].1].length) 16 = true := fit (by simp; omega) (by simp; omega)
    have hf2 : fitsB ((a ++ [l[k].1]).length + l[k].2.2.2.2.2.length) 16 = true := fit (by simp; omega) (by simp; omega)
    simp only [dec_lt, decide_eq_true hk, cond_true, at?_nat, getl hk, Option.bind_some, hf1, hf2, i64_succ (show k + 1 < 9223372036854775808 by omega)]
    simp [dsE]
  · intro rec
    simp only [dec_lt, decide_eq_false (Nat.lt_irrefl _), cond_false]
theorem putsF_len (a : List (Int × Int)) : (putsF a).length ≤ a.length := by
  have := (putsF_facts a [] (by simp [SAsc])).2.2
  simpa [putsF] using this
theorem refDots_eq (N : Nat) (l : List Ev) (hl : l.length ≤ 100) (hsm : ∀ e ∈ l, smE e) (hN : 1000000 < N) : F_epitaphref13_Dots N l = some (sortDots (l.flatMap dsE)) := by
  rw [sortDots_puts]
  unfold F_epitaphref13_Dots
  have hfold : ∀ (m : List Ev) (q : List (Int × Int)), m.foldl (fun q e => (dsE e).foldl (fun q d => putF d q) q) q = (m.flatMap dsE).foldl (fun q d => putF d q) q := by
    intro m
    induction m with
    | nil => intro q; rfl
    | cons e r ih => intro q; rw [List.foldl_cons, ih, List.flatMap_cons, List.foldl_append]
  rw [fold_loop l (fun q e => (dsE e).foldl (fun q d => putF d q) q) [] (fun a => some a) ?_ ?_ N (by omega), hfold]
  · rfl
  · intro rec k a hk ha
    rw [hfold] at ha
    have hal : a.length ≤ 5001 * 100 := by
      rw [ha]
      have h1 := putsF_len ((l.take k).flatMap dsE)
      have := flat_len (take_sm hsm k)
      rw [List.length_take] at this
      unfold putsF at h1
      omega
    have hk2 : l[k].2.2.2.2.2.length ≤ 5000 := hsm _ (List.getElem_mem hk)
    simp only [dec_lt, decide_eq_true hk, cond_true, at?_nat, getl hk, Option.bind_some]
    rw [refPut_eq N a _ (by omega) hN]
    simp only [Option.bind_some]
    have hpl := putF_length l[k].1 a
    generalize hp : putF l[k].1 a = p at hpl
    rw [fold_loop l[k].2.2.2.2.2 (fun q d => putF d q) p (fun a => rec ((a, IntKind.i64.wrap ((k : Int) + 1), ()), (), (), ())) ?_ ?_ N (by omega)]
    · rw [i64_succ (by omega), ← hp]
      rfl
    · intro rec1 j b hj hb
      have hbl : b.length ≤ 5001 * 100 + 5002 := by
        rw [hb]
        have : ∀ (m q : List (Int × Int)), (m.foldl (fun q d => putF d q) q).length ≤ q.length + m.length := by
          intro m
          induction m with
          | nil => simp
          | cons d r ih => intro q; rw [List.foldl_cons]; have := ih (putF d q); have := putF_length d q; simp; omega
        have := this (l[k].2.2.2.2.2.take j) p
        rw [List.length_take] at this; omega
      simp only [dec_lt, decide_eq_true hj, cond_true, at?_nat, getl hj, Option.bind_some]
      rw [refPut_eq N b _ (by omega) hN]
      simp only [Option.bind_some]
      rw [i64_succ (by omega)]
    · intro rec1
      simp only [dec_lt, decide_eq_false (Nat.lt_irrefl _), cond_false]
  · intro rec
    simp only [dec_lt, decide_eq_false (Nat.lt_irrefl _), cond_false]
theorem cmp_zero (x y : Ev) : (cfDot x.1 y.1 == 0) = eqE x y := by
  unfold eqE cfDot
  rw [Bool.eq_iff_iff]
  simp only [beq_iff_eq, Bool.and_eq_true]
  grind
theorem refPutE_eq (N : Nat) (l : List Ev) (e : Ev) (hl : l.length ≤ 100) (hN : 10000 < N) : F_epitaphref13_Put N l e = some (putR ltE eqE e l) := by
  unfold F_epitaphref13_Put
  refine some_of ?_
  refine iter_ok (Q := fun r => r = putR ltE eqE e l) (fun n z => ∃ (k : Nat) (out : List Ev) (done : Bool), z = ((out, done, (k : Int), ()), (), (), ()) ∧ k ≤ l.length ∧ out.length ≤ k + cond done 1 0 ∧ n = l.length - k ∧
    putR ltE eqE e l = cond ((l.drop k).any (eqE e)) l (out ++ cond done (l.drop k) (insR ltE e (l.drop k)))) ?_ N l.length _ ⟨0, [], false, rfl, Nat.zero_le _, by simp, by simp, rfl⟩ (by omega)
  rintro n z rec ⟨k, out, done, rfl, hk, ho', rfl, hT⟩ ih
  have ho : out.length ≤ k + 1 := by cases done <;> simp at ho' <;> omega
  simp only [dec_lt]
  by_cases hkl : k < l.length
  · have hd : l.drop k = l[k] :: l.drop (k + 1) := List.drop_eq_getElem_cons hkl
    rw [hd] at hT
    generalize l[k] = x at *
    have gx : l[k]? = some x := by
      have : (l.drop k)[0]? = some x := by rw [hd]; rfl
      rwa [List.getElem?_drop, Nat.add_zero] at this
    simp only [decide_eq_true hkl, cond_true, at?_nat, gx, Option.bind_some, refCmp_eq, cmp_zero, gtD, joinAt]
    rw [lo_E.eq_symm]
    cases hx : eqE e x with
    | true =>
      simp only [cond_true]
      refine ⟨_, rfl, ?_⟩
      rw [hT]; simp [hx]
    | false =>
      simp only [cond_false]
      have hT' : putR ltE eqE e l = cond ((l.drop (k + 1)).any (eqE e)) l (out ++ cond done (x :: l.drop (k + 1)) (insR ltE e (x :: l.drop (k + 1)))) := by
        rw [hT]; simp [hx]
      have hw : IntKind.i64.wrap ((k : Int) + 1) = ((k + 1 : Nat) : Int) := i64_succ (by omega)
      have hg : ltD e.1 x.1 = ltE e x := rfl
      have hf1 : fitsB (out.length + [x].length) 80 = true := fit (by simp; omega) (by simp; omega)
      have hf2 : fitsB (out.length + [e].length) 80 = true := fit (by simp; omega) (by simp; omega)
      have hf3 : fitsB ((out ++ [e]).length + [x].length) 80 = true := fit (by simp; omega) (by simp; omega)
      rw [hg]
      cases hlt : ltE e x with
      | true =>
        cases done with
        | true =>
          simp only [cond_true, Bool.not_true, cond_false, hf1, hw]
          refine ih (l.length - (k + 1)) _ (by omega) ⟨k + 1, out ++ [x], true, rfl, by omega, by simp at ho' ⊢; omega, rfl, ?_⟩
          rw [hT']; simp
        | false =>
          simp only [cond_true, Bool.not_false, hf2, hf3, hw]
          refine ih (l.length - (k + 1)) _ (by omega) ⟨k + 1, out ++ [e] ++ [x], true, rfl, by omega, by simp at ho' ⊢; omega, rfl, ?_⟩
          rw [hT']; simp [insR_front hlt]
      | false =>
        simp only [cond_false, hf1, hw, cond_true]
        refine ih (l.length - (k + 1)) _ (by omega) ⟨k + 1, out ++ [x], done, rfl, by omega, by cases done <;> simp at ho' ⊢ <;> omega, rfl, ?_⟩
        rw [hT']
        cases done <;> simp [insR_back hlt]
  · have hd : l.drop k = [] := List.drop_eq_nil_of_le (by omega)
    rw [hd] at hT
    simp only [decide_eq_false hkl, cond_false]
    have hf2 : fitsB (out.length + [e].length) 80 = true := fit (by simp; omega) (by simp; omega)
    cases done with
    | true =>
      simp only [Bool.not_true, cond_false]
      exact ⟨_, rfl, by rw [hT]; simp⟩
    | false =>
      simp only [Bool.not_false, cond_true, hf2]
      exact ⟨_, rfl, by rw [hT]; simp [insR]⟩
theorem putR_length (e : Ev) (l : List Ev) : (putR ltE eqE e l).length ≤ l.length + 1 := by
  unfold putR
  cases l.any (eqE e) with
  | true => simp
  | false => simp [insR_length]
theorem putsR_length : ∀ (l q : List Ev), (l.foldl (fun q x => putR ltE eqE x q) q).length ≤ q.length + l.length
  | [], q => by simp
  | e :: r, q => by
    have := putsR_length r (putR ltE eqE e q)
    have := putR_length e q
    rw [List.foldl_cons]; simp; omega
theorem sortE_puts (l : List Ev) : sortE l = l.foldl (fun q x => putR ltE eqE x q) [] := compB_isort lo_E l
theorem sortE_length (l : List Ev) : (sortE l).length ≤ l.length := by
  rw [sortE_puts]; simpa using putsR_length l []
theorem sortE_mem {l : List Ev} {e : Ev} (h : e ∈ sortE l) : e ∈ l := (isort_mem l).1 (compB_mem h)
theorem refSortE_eq (N : Nat) (l : List Ev) (hl : l.length ≤ 100) (hN : 10000 < N) : F_epitaphref13_Sort N l = some (sortE l) := by
  rw [sortE_puts]
  unfold F_epitaphref13_Sort
  rw [fold_loop l (fun q x => putR ltE eqE x q) [] (fun a => some a) ?_ ?_ N (by omega)]
  · intro rec k a hk ha
    have hal : a.length ≤ 100 := by
      rw [ha]
      have := putsR_length (l.take k) []
      rw [List.length_take] at this
      simp at this ⊢; omega
    simp only [dec_lt, decide_eq_true hk, cond_true, at?_nat, getl hk, Option.bind_some]
    rw [refPutE_eq N a _ hal hN, Option.bind_some, i64_succ (by omega)]
  · intro rec
    simp only [dec_lt, decide_eq_false (Nat.lt_irrefl _), cond_false]
theorem sameE_refl (e : Ev) : sameE e e = true := by simp [sameE]
theorem refAll_refl (N : Nat) (l : List Ev) (hl : l.length ≤ 100) (hsm : ∀ e ∈ l, smE e) (hN : 10000 < N) : F_epitaphref13_All N l l = some true := by
  unfold F_epitaphref13_All
  have h0 : ((l.length : Int) != (l.length : Int)) = false := by simp
  rw [h0, cond_false]
  refine (scan_eq l.length (fun k => some true) 0 ?_ ?_ N (by omega)).trans rfl
  · intro rec k _ hk hr
    have hk2 : l[k].2.2.2.2.2.length ≤ 5000 := hsm _ (List.getElem_mem hk)
    simp only [dec_lt, at?_nat, getl hk, Option.bind_some, i64_succ (show k + 1 < 9223372036854775808 by omega), hr, decide_eq_true hk, cond_true]
    rw [refSame_eq N _ _ (by omega) (by omega), sameE_refl]
    rfl
  · intro rec k hk
    simp only [dec_lt, decide_eq_false (show ¬ k < l.length by omega), cond_false]
theorem few_300 (N : Nat) (l : List Ev) (m : Nat) (hm : m ≤ 100) (hN : 10000 < N) : ∃ b, F_epitaphref13_Few N l m = some b ∧ (b = true → l.length ≤ m ∧ ∀ e ∈ l, e.2.2.2.2.2.length ≤ 300) := by
  unfold F_epitaphref13_Few
  by_cases hl : m < l.length
  · have : decide ((m : Int) < (l.length : Int)) = true := by simpa using hl
    rw [this]
    exact ⟨false, rfl, by simp⟩
  · have : decide ((m : Int) < (l.length : Int)) = false := by simpa using hl
    rw [this, cond_false]
    refine iter_ok (Q := fun b => b = true → l.length ≤ m ∧ ∀ e ∈ l, e.2.2.2.2.2.length ≤ 300) (fun n z => ∃ k : Nat, z = (((k : Int), ()), (), (), ()) ∧ k ≤ l.length ∧ n = l.length - k ∧ ∀ e ∈ l.take k, e.2.2.2.2.2.length ≤ 300) ?_ N l.length _ ⟨0, rfl, Nat.zero_le _, rfl, by simp⟩ (by omega)
    rintro n z rec ⟨k, rfl, hk, rfl, hall⟩ ih
    simp only [dec_lt]
    by_cases hkl : k < l.length
    · simp only [decide_eq_true hkl, cond_true, at?_nat, getl hkl, Option.bind_some]
      by_cases h1 : (300 : Int) < (l[k].2.2.2.2.2.length : Int)
      · rw [decide_eq_true h1]; exact ⟨false, rfl, by simp⟩
      · rw [decide_eq_false h1, cond_false]
        by_cases h2 : (200 : Int) < (l[k].2.2.2.2.1.length : Int)
        · rw [decide_eq_true h2]; exact ⟨false, rfl, by simp⟩
        · rw [decide_eq_false h2, cond_false, i64_succ (by omega)]
          refine ih (l.length - (k + 1)) _ (by omega) ⟨k + 1, rfl, by omega, rfl, ?_⟩
          intro e he
          rw [List.take_add_one, getl hkl] at he
          rcases List.mem_append.1 he with he | he
          · exact hall e he
          · simp at he; subst he
            omega
    · simp only [decide_eq_false hkl, cond_false]
      refine ⟨true, rfl, fun _ => ⟨by omega, ?_⟩⟩
      rwa [List.take_of_length_le (by omega)] at hall
theorem few_any (N : Nat) (l : List Ev) (m : Nat) (hm : m ≤ 100) (hN : 10000 < N) : ∃ b, F_epitaphref13_Few N l m = some b ∧ (b = true → l.length ≤ m ∧ ∀ e ∈ l, smE e) := by
  obtain ⟨b, h1, h2⟩ := few_300 N l m hm hN
  exact ⟨b, h1, fun h => ⟨(h2 h).1, fun e he => by have := (h2 h).2 e he; unfold smE; omega⟩⟩
end Go.Proofs.Xg
set_option linter.unusedVariables false
set_option linter.unusedSimpArgs false
set_option maxRecDepth 100000
namespace Go.Xl
section
variable {α : Type} {lt eq : α → α → Bool}
theorem compGoB_sasc (h : LO lt eq) : ∀ (p : α) (l : List α), Asc lt (p :: l) → SAsc lt (p :: compGoB eq p l)
  | p, [], hs => by simp [compGoB, SAsc]
  | p, y :: r, hs => by
    have h' := hs
    simp only [Asc, List.pairwise_cons, List.mem_cons] at h'
    simp only [compGoB]
    cases hy : eq y p with
    | true =>
      simp only [cond_true]
      exact compGoB_sasc h p r (by simp only [Asc, List.pairwise_cons]; exact ⟨fun a ha => h'.1 a (.inr ha), h'.2.2⟩)
    | false =>
      simp only [cond_false]
      have ih := compGoB_sasc h y r (by simp only [Asc, List.pairwise_cons]; exact h'.2)
      have hyp : lt y p = false := h'.1 y (.inl rfl)
      have hpy : lt p y = true := by
        cases hh : lt p y with
        | true => rfl
        | false => rw [h.eq_def, hyp, hh] at hy; cases hy
      unfold SAsc at *
      rw [List.pairwise_cons]
      refine ⟨fun a ha => ?_, ih⟩
      rcases List.mem_cons.1 ha with rfl | ha
      · exact hpy
      · exact h.trans hpy ((List.pairwise_cons.1 ih).1 a ha)
theorem compB_sasc (h : LO lt eq) {l : List α} (hl : Asc lt l) : SAsc lt (compB eq l) := by
  cases l with
  | nil => simp [compB, SAsc]
  | cons p r => exact compGoB_sasc h p r hl
theorem compGoB_id (h : LO lt eq) : ∀ (p : α) (l : List α), SAsc lt (p :: l) → compGoB eq p l = l
  | p, [], _ => rfl
  | p, y :: r, hs => by
    have h' := hs
    simp only [SAsc, List.pairwise_cons, List.mem_cons] at h'
    have : eq y p = false := by rw [h.eq_def, h'.1 y (.inl rfl)]; simp
    simp only [compGoB, this, cond_false]
    rw [compGoB_id h y r (by simp only [SAsc, List.pairwise_cons]; exact h'.2)]
theorem compB_id (h : LO lt eq) {l : List α} (hl : SAsc lt l) : compB eq l = l := by
  cases l with
  | nil => rfl
  | cons p r => simp only [compB]; rw [compGoB_id h p r hl]
theorem insR_perm (x : α) : ∀ l : List α, (insR lt x l).Perm (x :: l)
  | [] => .refl _
  | y :: r => by
    simp only [insR]
    cases lt x y with
    | true => exact .refl _
    | false => exact (List.Perm.cons y (insR_perm x r)).trans (List.Perm.swap x y r)
theorem isort_perm (l : List α) : (isort lt l).Perm l := by
  have : ∀ (l p : List α), (l.foldl (fun p x => insR lt x p) p).Perm (p ++ l) := by
    intro l
    induction l with
    | nil => intro p; simp
    | cons x r ih =>
      intro p
      rw [List.foldl_cons]
      refine (ih _).trans ?_
      refine ((insR_perm x p).append_right r).trans ?_
      simpa using List.perm_middle.symm
  simpa [isort] using this l []
theorem sort_perm (h : LO lt eq) {s m : List α} (hs : SAsc lt s) (hp : m.Perm s) : compB eq (isort lt m) = s := by
  have hperm : (isort lt m).Perm s := (isort_perm m).trans hp
  have hnd : s.Pairwise fun a b => eq a b = false := hs.imp fun {a b} hab => by rw [h.eq_def, hab]; rfl
  have hnd' : (isort lt m).Pairwise fun a b => eq a b = false := (hperm.symm.pairwise_iff (fun {a b} hab => by rw [h.eq_symm]; exact hab)).1 hnd
  have hsm : SAsc lt (isort lt m) := by
    have ha := isort_asc h m
    unfold SAsc Asc at *
    refine (List.pairwise_and_iff.2 ⟨ha, hnd'⟩).imp ?_
    rintro a b ⟨h1, h2⟩
    cases hh : lt a b with
    | true => rfl
    | false => rw [h.eq_def, h1, hh] at h2; cases h2
  have : isort lt m = s := SAsc.ext h.asymm hsm hs fun x => hperm.mem_iff
  rw [this, compB_id h hs]
end
end Go.Xl
namespace Go.Proofs.Xg
open Go Go.Xl Go.Ab Go.Proofs Go.Sort
theorem sortE_sasc (l : List Ev) : SAsc ltE (sortE l) := compB_sasc lo_E (isort_asc lo_E l)
end Go.Proofs.Xg
set_option linter.unusedVariables false
set_option linter.unusedSimpArgs false
set_option maxRecDepth 100000
namespace Go.Proofs.Xg
open Go Go.Xl Go.Ab Go.Proofs Go.Sort
def allE (a b : List Ev) : Bool := decide (a.length = b.length) && (a.zip b).all fun p => sameE p.1 p.2
theorem refAll_eq (N : Nat) (a b : List Ev) (hl : a.length ≤ 100) (hsm : ∀ e ∈ a, smE e) (hN : 10000 < N) : F_epitaphref13_All N a b = some (allE a b) := by
  unfold F_epitaphref13_All allE
  by_cases hlen : a.length = b.length
  · have h1 : ((a.length : Int) != (b.length : Int)) = false := by simp [hlen]
    rw [h1, cond_false, decide_eq_true hlen, Bool.true_and]
    refine (scan_eq a.length (fun k => some (((a.drop k).zip (b.drop k)).all fun p => sameE p.1 p.2)) 0 ?_ ?_ N (by omega)).trans rfl
    · intro rec k _ hk hr
      have hkb : k < b.length := by omega
      have hs : a[k].2.2.2.2.2.length ≤ 5000 := hsm _ (List.getElem_mem hk)
      simp only [dec_lt, decide_eq_true hk, cond_true, at?_nat, getl hk, getl hkb, Option.bind_some, i64_succ (show k + 1 < 9223372036854775808 by omega), hr, refSame_eq N _ _ (show a[k].2.2.2.2.2.length < 9223372036854775807 by omega) (show a[k].2.2.2.2.2.length < N by omega)]
      rw [List.drop_eq_getElem_cons hk, List.drop_eq_getElem_cons hkb, List.zip_cons_cons, List.all_cons]
      cases sameE a[k] b[k] <;> simp
    · intro rec k hk
      simp only [dec_lt, decide_eq_false (show ¬ k < a.length by omega), cond_false]
      rw [List.drop_of_length_le hk]; rfl
  · have h1 : ((a.length : Int) != (b.length : Int)) = true := by simp; omega
    rw [h1, cond_true, decide_eq_false hlen]; rfl
theorem scan_eq' {R : Type} (len : Nat) (g : Nat → R) {f : ((Int × Unit) × Unit × Unit × Unit → Option R) → (Int × Unit) × Unit × Unit × Unit → Option R}
    (hs : ∀ (rec : (Int × Unit) × Unit × Unit × Unit → Option R) (k : Nat), k < len → rec ((((k + 1 : Nat) : Int), ()), (), (), ()) = some (g (k + 1)) → f rec (((k : Int), ()), (), (), ()) = some (g k))
    (he : ∀ rec (k : Nat), len ≤ k → f rec (((k : Int), ()), (), (), ()) = some (g k)) (N : Nat) (hN : len < N) : iter f N ((((0 : Nat) : Int), ()), (), (), ()) = some (g 0) :=
  scan_eq len (fun k => some (g k)) 0 (fun rec k _ hk hr => hs rec k hk hr) he N hN
theorem ownAll_eq (N : Nat) (a b : List Ev) (hl : a.length ≤ 100) (hsm : ∀ e ∈ a, smE e) (hN : 10000 < N) : F_event_All N a b = some (allE a b) := by
  unfold F_event_All F_slices_EqualFunc_sEvent_sEvent_Event_Event allE
  by_cases hlen : a.length = b.length
  · have h1 : ((a.length : Int) != (b.length : Int)) = false := by simp [hlen]
    rw [h1, cond_false, decide_eq_true hlen, Bool.true_and]
    have := fun f hs he => scan_eq' (f := f) a.length (fun k => ((((((a.drop k).zip (b.drop k)).all fun p => sameE p.1 p.2) : Bool), ()), ((), (), ()))) hs he N (by omega)
    refine (congrArg (fun o => Option.bind o fun (y : (Bool × Unit) × Unit × Unit × Unit) => some y.fst.fst) (this _ ?_ ?_)).trans rfl
    · intro rec k hk hr
      have hkb : k < b.length := by omega
      have hs : a[k].2.2.2.2.2.length ≤ 5000 := hsm _ (List.getElem_mem hk)
      simp only [dec_lt, decide_eq_true hk, cond_true, at?_nat, getl hk, getl hkb, Option.bind_some, i64_succ (show k + 1 < 9223372036854775808 by omega), hr, eventSame_eq N _ _ (show a[k].2.2.2.2.2.length < 9223372036854775807 by omega) (show a[k].2.2.2.2.2.length < N by omega)]
      rw [List.drop_eq_getElem_cons hk, List.drop_eq_getElem_cons hkb, List.zip_cons_cons, List.all_cons]
      cases sameE a[k] b[k] <;> simp
    · intro rec k hk
      simp only [dec_lt, decide_eq_false (show ¬ k < a.length by omega), cond_false]
      rw [List.drop_of_length_le hk]; rfl
  · have h1 : ((a.length : Int) != (b.length : Int)) = true := by simp; omega
    rw [h1, cond_true, decide_eq_false hlen]; rfl
theorem sortE_sm {l : List Ev} (h : ∀ e ∈ l, smE e) : ∀ e ∈ sortE l, smE e := fun e he => h e (sortE_mem he)
theorem eventLists_true (N : Nat) (hN : 1000000000000 < N) (l m : List Ev) : F_epitaphlaw13_EventLists N l m = some true := by
  unfold F_epitaphlaw13_EventLists
  have hw := works_eq N (by omega)
  obtain ⟨b1, h1, h2⟩ := few_any N l 30 (by omega) (by omega)
  have h1' : F_epitaphref13_Few N l 30 = some b1 := h1
  rw [h1', Option.bind_some]
  cases b1 with
  | false => simp only [Bool.not_false, cond_true, hw, Option.bind_some]
  | true =>
    obtain ⟨hl, hsm⟩ := h2 rfl
    obtain ⟨b2, h3, h4⟩ := few_any N m 30 (by omega) (by omega)
    have h3' : F_epitaphref13_Few N m 30 = some b2 := h3
    simp only [Bool.not_true, cond_false, h3', Option.bind_some]
    cases b2 with
    | false => simp only [Bool.not_false, cond_true, hw, Option.bind_some]
    | true =>
      have hs := eventSort_eq N l (by omega) hsm hN
      have hsl := sortE_length l
      have hsa := sortE_sasc l
      have hss := sortE_sm hsm
      have hs2 := eventSort_eq N (sortE l) (by omega) hss hN
      have hid : sortE (sortE l) = sortE l := sort_perm lo_E hsa (.refl _)
      rw [hid] at hs2
      simp only [Bool.not_true, cond_false, hs, Option.bind_some]
      have hrs := refSortE_eq N l (by omega) (by omega)
      generalize sortE l = s at *
      refine (scan_eq s.length (fun _ => some true) 1 ?_ ?_ N (by omega))
      · intro rec k hk1 hk hr
        have hlt : ltE s[k - 1] s[k] = true := List.pairwise_iff_getElem.1 hsa (k - 1) k (by omega) hk (by omega)
        have hd : decide ((0 : Int) ≤ cfDot s[k - 1].1 s[k].1) = false := by
          have : cfDot s[k - 1].1 s[k].1 < 0 := of_decide_eq_true hlt
          simp; omega
        simp only [dec_lt, decide_eq_true hk, cond_true, at?_nat, i64_pred (show 0 < k by omega) (show k < 9223372036854775808 by omega), getl hk, getl (show k - 1 < s.length by omega), Option.bind_some, refCmp_eq, hd, cond_false, i64_succ (show k + 1 < 9223372036854775808 by omega), hr]
      · intro rec k hk
        simp only [dec_lt, decide_eq_false (show ¬ k < s.length by omega), cond_false, hrs, Option.bind_some, refAll_refl N s (by omega) hss (by omega), cond_true, dots_eq N l (by omega) hsm (by omega), refDots_eq N l (by omega) hsm (by omega)]
        have hfl := flat_len hsm
        have hsd : (sortDots (l.flatMap dsE)).length ≤ 5001 * l.length := by
          rw [sortDots_puts]
          exact Nat.le_trans (putsF_len _) hfl
        rw [same_eq N _ _ (by omega) (by omega), Option.bind_some]
        simp only [decide_true, cond_true, ownAll_eq N l m (by omega) hsm (by omega), refAll_eq N l m (by omega) hsm (by omega), Option.bind_some, beq_self_eq_true, hs2, refAll_refl N s (by omega) hss (by omega), hw]
end Go.Proofs.Xg
set_option linter.unusedVariables false
set_option linter.unusedSimpArgs false
namespace Go.Xl
open Go.Ab
def Ty.In : (t : Ty) → t.T → Prop
  | .int k, n => (Lit.int k n).wf = true
  | .u8, _ => True
  | .bool, _ => True
  | .str, l => l.length ≤ maxLen
  | .sl a, l => l.length ≤ maxLen ∧ ∀ x ∈ l, a.In x
  | .unit, _ => True
  | .pair a b, x => a.In x.1 ∧ b.In x.2
  | .st1 a, x => a.In x
  | .tab _, _ => True
  | .err, _ => True
  | .ic _ _, _ => True
  | .ptr, _ => True
def opFs (P : Program) (rec : TypeId → Ty → Bool) : Nat → List Field → Ty → Bool
  | off, [f], .st1 a => cond (Nat.beq f.offset off) (cond (Nat.beq (P.cellsOf f.type) a.size) (rec f.type a) false) false
  | off, [f, g], .pair a b => cond (Nat.beq f.offset off) (cond (Nat.beq (P.cellsOf f.type) a.size) (cond (rec f.type a) (cond (Nat.beq g.offset (off + a.size)) (cond (Nat.beq (P.cellsOf g.type) b.size) (rec g.type b) false) false) false) false) false
  | off, f :: g :: h :: r, .pair a b => cond (Nat.beq f.offset off) (cond (Nat.beq (P.cellsOf f.type) a.size) (cond (rec f.type a) (opFs P rec (off + a.size) (g :: h :: r) b) false) false) false
  | _, _, _ => false
def opB (P : Program) : Nat → TypeId → Ty → Bool
  | 0, _, _ => false
  | n + 1, t, ty =>
    match P.underlying t, ty with
    | some (.int k), .int k' => cond (kindB k k') true false
    | some (.int .u8), .u8 => true
    | some .bool, .bool => true
    | some .string, .str => true
    | some (.slice e), .sl a => cond (Nat.beq (P.cellsOf e) a.size) (cond (Nat.ble 1 a.size) (opB P n e a) false) false
    | some (.struct fs), a => cond a.agg (cond (Nat.beq (P.cellsOf t) a.size) (opFs P (opB P n) 0 fs.toList a) false) false
    | _, _ => false
def CellsD (γ : Nat → Nat) (w : World) (ds : List D) (cs : List Value) : Prop := ds.length = cs.length ∧ ∀ (i : Nat) d v, ds[i]? = some d → cs[i]? = some v → RD γ w d v
theorem CellsD.one {γ : Nat → Nat} {w : World} {d : D} {v : Value} (h : RD γ w d v) : CellsD γ w [d] [v] := by
  refine ⟨rfl, fun i e u he hu => ?_⟩
  cases i with
  | zero => simp at he hu; subst he; subst hu; exact h
  | succ i => simp at he
theorem CellsD.append {γ : Nat → Nat} {w : World} {a b : List D} {cs ds : List Value} (h : CellsD γ w a cs) (h' : CellsD γ w b ds) : CellsD γ w (a ++ b) (cs ++ ds) := by
  refine ⟨by simp [h.1, h'.1], fun i e u he hu => ?_⟩
  rw [List.getElem?_append] at he hu
  rw [← h.1] at hu
  split at he
  · rename_i hlt
    rw [if_pos hlt] at hu
    exact h.2 i e u he hu
  · rename_i hge
    rw [if_neg hge] at hu
    exact h'.2 _ e u he hu
theorem cT {a b : Bool} (h : cond a b false = true) : a = true ∧ b = true := by
  cases a <;> simp at h; exact ⟨rfl, h⟩
section
variable {H : Type} {enc : TypeId × Value → H} {P : Program} {W : World}
def OpR (P : Program) (W : World) (H : Type) (enc : TypeId × Value → H) (fuel : Nat) (rec : TypeId → Ty → Bool) : Prop :=
  ∀ (t : TypeId) (ty : Ty) (cs : List Value) (d : DataW H) (ps : List MemPlace), rec t ty = true → DataW.trod enc P W 0 (fun _ => true) true fuel t cs = some (d, ps) →
    ∃ x : ty.T, ty.In x ∧ CellsD (fullγ W) W (ty.ds x) cs
theorem take_split {α : Type} (l : List α) (off a b : Nat) : (l.drop off).take (a + b) = (l.drop off).take a ++ (l.drop (off + a)).take b := by
  rw [List.take_add, List.drop_drop]
theorem open_fs {fuel : Nat} {rec : TypeId → Ty → Bool} (hr : OpR P W H enc fuel rec) {cs : List Value} : ∀ (fs : List Field) (off : Nat) (ty : Ty), opFs P rec off fs ty = true →
    (∀ f ∈ fs, ∃ y, DataW.trod enc P W 0 (fun _ => true) true fuel f.type ((cs.drop f.offset).take (P.cellsOf f.type)) = some y) →
    ∃ x : ty.T, ty.In x ∧ CellsD (fullγ W) W (ty.ds x) ((cs.drop off).take ty.size)
  | [], off, ty, h, hf => by cases ty <;> simp [opFs] at h
  | [f], off, ty, h, hf => by
    cases ty with
    | st1 a =>
      simp only [opFs] at h
      obtain ⟨h1, h⟩ := cT h
      obtain ⟨h2, h⟩ := cT h
      have h1 := Nat.eq_of_beq_eq_true h1
      have h2 := Nat.eq_of_beq_eq_true h2
      obtain ⟨y, hy⟩ := hf f (by simp)
      rw [h1, h2] at hy
      exact hr f.type a _ _ _ h hy
    | _ => simp [opFs] at h
  | [f, g], off, ty, h, hf => by
    cases ty with
    | pair a b =>
      simp only [opFs] at h
      obtain ⟨h1, h⟩ := cT h
      obtain ⟨h2, h⟩ := cT h
      obtain ⟨h3, h⟩ := cT h
      obtain ⟨h4, h⟩ := cT h
      obtain ⟨h5, h⟩ := cT h
      have h1 := Nat.eq_of_beq_eq_true h1
      have h2 := Nat.eq_of_beq_eq_true h2
      have h4 := Nat.eq_of_beq_eq_true h4
      have h5 := Nat.eq_of_beq_eq_true h5
      obtain ⟨y, hy⟩ := hf f (by simp)
      obtain ⟨z, hz⟩ := hf g (by simp)
      rw [h1, h2] at hy
      rw [h4, h5] at hz
      obtain ⟨x1, i1, c1⟩ := hr _ _ _ _ _ h3 hy
      obtain ⟨x2, i2, c2⟩ := hr _ _ _ _ _ h hz
      refine ⟨(x1, x2), ⟨i1, i2⟩, ?_⟩
      simp only [Ty.ds, Ty.size]
      rw [take_split]
      exact c1.append c2
    | _ => simp [opFs] at h
  | f :: g :: k :: r, off, ty, h, hf => by
    cases ty with
    | pair a b =>
      simp only [opFs] at h
      obtain ⟨h1, h⟩ := cT h
      obtain ⟨h2, h⟩ := cT h
      obtain ⟨h3, h⟩ := cT h
      have h1 := Nat.eq_of_beq_eq_true h1
      have h2 := Nat.eq_of_beq_eq_true h2
      obtain ⟨y, hy⟩ := hf f (by simp)
      rw [h1, h2] at hy
      obtain ⟨x1, i1, c1⟩ := hr _ _ _ _ _ h3 hy
      obtain ⟨x2, i2, c2⟩ := open_fs hr (g :: k :: r) (off + a.size) b h (fun q hq => hf q (List.mem_cons_of_mem _ hq))
      refine ⟨(x1, x2), ⟨i1, i2⟩, ?_⟩
      simp only [Ty.ds, Ty.size]
      rw [take_split]
      exact c1.append c2
    | _ => simp [opFs] at h
theorem choose_list {α β : Type} (p : Nat → β → α → Prop) : ∀ (l : List β), (∀ i y, l[i]? = some y → ∃ x, p i y x) → ∃ xs : List α, xs.length = l.length ∧ ∀ i y x, l[i]? = some y → xs[i]? = some x → p i y x := by
  intro l
  induction l generalizing p with
  | nil => intro _; exact ⟨[], rfl, by simp⟩
  | cons a r ih =>
    intro h
    obtain ⟨x, hx⟩ := h 0 a rfl
    obtain ⟨xs, h1, h2⟩ := ih (fun i => p (i + 1)) (fun i y hy => h (i + 1) y (by simpa using hy))
    refine ⟨x :: xs, by simp [h1], fun i y z hy hz => ?_⟩
    cases i with
    | zero => simp at hy hz; subst hy; subst hz; exact hx
    | succ i => exact h2 i y z (by simpa using hy) (by simpa using hz)
theorem open_cells : ∀ (n fuel : Nat), OpR P W H enc fuel (opB P n)
  | 0, fuel => by intro t ty cs d ps ho; simp [opB] at ho
  | n + 1, fuel => by
    intro t ty cs d ps ho h
    unfold opB at ho
    split at ho
    · rename_i k k' hu
      obtain ⟨hk, _⟩ := cT ho
      have := kindB_eq hk
      subst this
      obtain ⟨m, rfl, _, hw⟩ := DataW.trod_int hu h
      exact ⟨m, hw, .one (.sc _)⟩
    · rename_i hu
      obtain ⟨m, rfl, _, hw⟩ := DataW.trod_int hu h
      have hm : 0 ≤ m ∧ m ≤ 255 := by simpa [Lit.wf, IntKind.wrap, IntKind.bits, IntKind.signed, IntKind.min, IntKind.max] using hw
      refine ⟨UInt8.ofNat m.toNat, trivial, .one ?_⟩
      have : (((UInt8.ofNat m.toNat).toNat : Nat) : Int) = m := by
        rw [UInt8.toNat_ofNat']; omega
      rw [this]
      exact .sc _
    · rename_i hu
      obtain ⟨b, rfl, _⟩ := DataW.trod_bool hu h
      exact ⟨b, trivial, .one (.sc _)⟩
    · rename_i hu
      obtain ⟨s, rfl, _, hw⟩ := DataW.trod_string hu h
      exact ⟨s.data.toList, by simpa [Ty.In] using hw, .one (.sc _)⟩
    · rename_i e a hu
      obtain ⟨h1, ho⟩ := cT ho
      obtain ⟨h2, ho⟩ := cT ho
      have h1 := Nat.eq_of_beq_eq_true h1
      have h2 := Nat.le_of_ble_eq_true h2
      rcases DataW.trod_slice hu h with ⟨rfl, _⟩ | ⟨ad, len, cap, elems, rest, m, rfl, rfl, _, hb, hl, hc, hel, hcell, _, _⟩
      · exact ⟨[], ⟨by simp, by simp⟩, .one (.nil _ _ _ fun _ => rfl)⟩
      · have key : ∀ i y, (List.range len)[i]? = some y → ∃ x : a.T, a.In x ∧ ∃ cs', cs'.length = a.size ∧ CellsD (fullγ W) W (a.ds x) cs' ∧ ∀ j, j < a.size → W.cell? ((ad.add (i * a.size)).add j) = cs'[j]? := by
          intro i y hi
          have hlt : i < len := by have := (List.getElem?_eq_some_iff.1 hi).1; simpa using this
          have hc := hcell i hlt
          obtain ⟨z, hz⟩ : ∃ z, elems[i]? = some z := ⟨_, List.getElem?_eq_getElem (by omega)⟩
          rw [hz, Option.bind_eq_some_iff, h1] at hc
          obtain ⟨cs', hc1, hc2⟩ := hc
          obtain ⟨_, hcl, hcc⟩ := World.cells?_some hc1
          obtain ⟨x, hx1, hx2⟩ := open_cells n m _ _ _ _ _ ho hc2
          exact ⟨x, hx1, cs', hcl, hx2, hcc⟩
        obtain ⟨xs, hxl, hx⟩ := choose_list _ _ key
        rw [List.length_range] at hxl
        have hxs : ∀ i x, xs[i]? = some x → a.In x ∧ ∃ cs', cs'.length = a.size ∧ CellsD (fullγ W) W (a.ds x) cs' ∧ ∀ j, j < a.size → W.cell? ((ad.add (i * a.size)).add j) = cs'[j]? := by
          intro i x hi
          have hlt : i < len := by have := (List.getElem?_eq_some_iff.1 hi).1; omega
          exact hx i i x (by simp [hlt]) hi
        refine ⟨xs, ⟨by omega, fun x hm => ?_⟩, .one ?_⟩
        · obtain ⟨i, hi⟩ := List.mem_iff_getElem?.1 hm
          exact (hxs i x hi).1
        · rcases Nat.eq_zero_or_pos len with h0 | h0
          · have : xs = [] := List.eq_nil_of_length_eq_zero (by omega)
            subst this
            subst h0
            exact .nil _ (some ad) cap (by simp)
          · have spot : ad.spot = none := by
              obtain ⟨x0, hx0⟩ : ∃ z, xs[0]? = some z := ⟨_, List.getElem?_eq_getElem (by omega)⟩
              obtain ⟨_, cs', hl', _, hc'⟩ := hxs 0 x0 hx0
              have := hc' 0 (by omega)
              rw [List.getElem?_eq_getElem (by omega)] at this
              have := World.cell?_spot this
              simpa [Addr.add] using this
            obtain ⟨b, off, sp⟩ := ad
            simp only at spot
            subst spot
            have hcell' : ∀ i x, xs[i]? = some x → ∃ cs', cs'.length = a.size ∧ CellsD (fullγ W) W (a.ds x) cs' ∧ ∀ j, j < a.size → W.cell? ⟨b, off + (i * a.size + j), none⟩ = cs'[j]? := by
              intro i x hi
              obtain ⟨_, cs', hl', hd', hc'⟩ := hxs i x hi
              refine ⟨cs', hl', hd', fun j hj => ?_⟩
              have := hc' j hj
              rwa [WideShapes.add_plain, WideShapes.add_plain, Nat.add_assoc] at this
            refine .ofCells' (by simp [hxl]) ?_ hl ?_ ?_
            · obtain ⟨x, hx⟩ : ∃ z, xs[len - 1]? = some z := ⟨_, List.getElem?_eq_getElem (by omega)⟩
              obtain ⟨cs', hl', _, hc'⟩ := hcell' (len - 1) x hx
              have := hc' (a.size - 1) (by omega)
              rw [List.getElem?_eq_getElem (by omega)] at this
              have := fullγ_cell this
              have e : len * a.size = (len - 1) * a.size + a.size := by
                rw [← Nat.succ_mul]; congr 1; omega
              show off + len * a.size ≤ fullγ W b
              omega
            · intro i cs hi
              rw [List.getElem?_map, Option.map_eq_some_iff] at hi
              obtain ⟨x, _, rfl⟩ := hi
              exact a.ds_length x
            · intro i j cs c u hi hj hu
              rw [List.getElem?_map, Option.map_eq_some_iff] at hi
              obtain ⟨x, hx, rfl⟩ := hi
              obtain ⟨cs', hl', hd', hc'⟩ := hcell' i x hx
              have hjl : j < a.size := by have := (List.getElem?_eq_some_iff.1 hj).1; rwa [a.ds_length] at this
              rw [hc' j hjl] at hu
              exact hd'.2 j c u hj hu
    · rename_i fs hu
      obtain ⟨_, ho⟩ := cT ho
      obtain ⟨h2, ho⟩ := cT ho
      have h2 := Nat.eq_of_beq_eq_true h2
      obtain ⟨xs, m, rfl, _, hl, hxl, hall⟩ := DataW.trod_struct hu h
      obtain ⟨x, hx1, hx2⟩ := open_fs (open_cells n m) (cs := cs) fs.toList 0 _ ho (by
        intro f hf
        obtain ⟨i, hi⟩ := List.mem_iff_getElem?.1 hf
        have hi' : fs[i]? = some f := by simpa using hi
        have := hall i f hi'
        rw [this]
        have hlt := (Array.getElem?_eq_some_iff.1 hi').1
        exact ⟨_, List.getElem?_eq_getElem (by omega)⟩)
      refine ⟨x, hx1, ?_⟩
      rw [List.drop_zero, List.take_of_length_le (by omega)] at hx2
      exact hx2
    · cases ho
theorem open_arg {b0 n : Nat} {t : TypeId} {ty : Ty} {v : Value} {d : DataW H} {ps : List MemPlace} (ho : opB P n t ty = true) (hv : Value.okWide P W .any b0 t v)
    (h : DataW.Trod enc P W 0 (fun _ => true) true t v d ps) : ∃ x : ty.T, ty.In x ∧ RA (full W) W (XV.d (ty.xv x)).a v := by
  obtain ⟨fuel, hf⟩ := h
  obtain ⟨x, h1, h2⟩ := open_cells n fuel _ _ _ _ _ ho hf
  refine ⟨x, h1, .d _ _ ?_⟩
  show RD (fullγ W) W (ty.dv x) v
  cases hagg : ty.agg with
  | true =>
    rw [ty.dv_agg x hagg]
    have : ∃ fs, P.underlying t = some (.struct fs) := by
      cases n with
      | zero => simp [opB] at ho
      | succ n =>
        unfold opB at ho
        split at ho <;> simp_all [Ty.agg]
    obtain ⟨fs, hu⟩ := this
    obtain ⟨cs, rfl, _⟩ := WideShapes.okWide_struct hu hv
    simp only [Value.cells] at h2
    exact .agg _ _ (by simpa using h2.1) fun i c u hc hu => h2.2 i c u hc (by simpa using hu)
  | false =>
    rw [ty.dv_one x hagg] at h2
    have hv' : v.cells = #[v] := by
      have := h2.1
      cases v with
      | agg cs =>
        exfalso
        cases n with
        | zero => simp [opB] at ho
        | succ n =>
          unfold opB at ho
          split at ho
          · rename_i hu; obtain ⟨_, e⟩ := WideShapes.okWide_int hu hv; cases e
          · rename_i hu; obtain ⟨_, e⟩ := WideShapes.okWide_int hu hv; cases e
          · rename_i hu; obtain ⟨_, e⟩ := WideShapes.okWide_bool hu hv; cases e
          · rename_i hu; obtain ⟨_, e⟩ := WideShapes.okWide_string hu hv; cases e
          · rename_i hu; obtain ⟨_, _, _, e⟩ := WideShapes.okWide_slice hu hv; cases e
          · rw [hagg] at ho; simp at ho
          · cases ho
      | _ => rfl
    rw [hv'] at h2
    exact h2.2 0 _ _ rfl rfl
end
end Go.Xl
