import Derived.Test.YtcaocpilahbciaaDoorZd
import Derived.KernelRfl
import Derived.Laws.Bits64b
import Derived.Test.YtcaocpilahbciaaDoorZc
import Derived.OpenShut
import Derived.FnData
import Derived.LaidSub
set_option linter.unusedVariables false
set_option maxRecDepth 100000
namespace Go.Proofs.Xt
open Go Go.Xl Go.Ab Go.Proofs Go.Proofs.Xh

/-- epitaph/epitaphref07.Cmp -/
noncomputable def F_epitaphref07_Cmp (N : Nat) : Fun [tDot, tDot] (Option (ResT [(.int .i64)])) :=
  fun (x x_1 : Int × Int) =>
  bif x.fst == x_1.fst && x.snd == x_1.snd then some 0
  else
    bif decide (x.fst < x_1.fst) then some (-1)
    else bif x.fst == x_1.fst then bif decide (x.snd < x_1.snd) then some (-1) else some 1 else some 1
theorem E_epitaphref07_Cmp (N : Nat) : runF Tryd.prog [] [] N Tryd.f11 .lf [tDot, tDot] [(.int .i64)] = F_epitaphref07_Cmp N := by kernel_rfl
noncomputable def e_epitaphref07_Cmp (N : Nat) : Ent Tryd.prog := mkFn 11 Tryd.f11 .lf [tDot, tDot] [(.int .i64)] (F_epitaphref07_Cmp N) mixed Tryd.func11 (.mk' Tryd.func11 rfl (by decide)) rfl (E_epitaphref07_Cmp N)
/-- epitaph/shift.Pack -/
noncomputable def F_shift_Pack (N : Nat) : Fun [(.int .u16), (.int .u64)] (Option (ResT [(.int .u64)])) :=
  fun (x x_1 : Int) =>
  some
    (bits BinOp.or IntKind.u64 (IntKind.u64.wrap (IntKind.u64.wrap x * 281474976710656))
      (bits BinOp.and IntKind.u64 x_1 281474976710655))
theorem E_shift_Pack (N : Nat) : runF Tryd.prog [] [] N Tryd.f29 .lf [(.int .u16), (.int .u64)] [(.int .u64)] = F_shift_Pack N := by kernel_rfl
noncomputable def e_shift_Pack (N : Nat) : Ent Tryd.prog := mkFn 29 Tryd.f29 .lf [(.int .u16), (.int .u64)] [(.int .u64)] (F_shift_Pack N) mixed Tryd.func29 (.mk' Tryd.func29 rfl (by decide)) rfl (E_shift_Pack N)
/-- epitaph/dot.Pack -/
noncomputable def F_dot_Pack (N : Nat) : Fun [tDot] (Option (ResT [(.int .u64)])) :=
  fun (x : Int × Int) => Option.bind (F_shift_Pack N x.fst x.snd) fun (y : Int) => some y
theorem E_dot_Pack (N : Nat) : runF Tryd.prog [e_shift_Pack N] [] N Tryd.f12 .lf [tDot] [(.int .u64)] = F_dot_Pack N := by kernel_rfl
noncomputable def e_dot_Pack (N : Nat) : Ent Tryd.prog := mkFn 12 Tryd.f12 .lf [tDot] [(.int .u64)] (F_dot_Pack N) mixed Tryd.func12 (.mk' Tryd.func12 rfl (by decide)) rfl (E_dot_Pack N)
/-- epitaph/epitaphref01.Pack -/
noncomputable def F_epitaphref01_Pack (N : Nat) : Fun [(.int .u16), (.int .u64)] (Option (ResT [(.int .u64)])) :=
  fun (x x_1 : Int) =>
  some (IntKind.u64.wrap (IntKind.u64.wrap (IntKind.u64.wrap x * 281474976710656) + x_1.tmod 281474976710656))
theorem E_epitaphref01_Pack (N : Nat) : runF Tryd.prog [] [] N Tryd.f13 .lf [(.int .u16), (.int .u64)] [(.int .u64)] = F_epitaphref01_Pack N := by kernel_rfl
noncomputable def e_epitaphref01_Pack (N : Nat) : Ent Tryd.prog := mkFn 13 Tryd.f13 .lf [(.int .u16), (.int .u64)] [(.int .u64)] (F_epitaphref01_Pack N) mixed Tryd.func13 (.mk' Tryd.func13 rfl (by decide)) rfl (E_epitaphref01_Pack N)
/-- internal/strconv.small -/
noncomputable def F_internal_strconv_small (N : Nat) : Fun [(.int .i64)] (Option (ResT [.str])) :=
  fun (x : Int) =>
  bif decide (x < 10) then
    bif cutOk x (IntKind.i64.wrap (x + 1)) 36 then
      some
        (List.take ((IntKind.i64.wrap (x + 1)).toNat - x.toNat)
          (List.drop x.toNat
            [48, 49, 50, 51, 52, 53, 54, 55, 56, 57, 97, 98, 99, 100, 101, 102, 103, 104, 105, 106, 107, 108, 109, 110,
              111, 112, 113, 114, 115, 116, 117, 118, 119, 120, 121, 122]))
    else none
  else
    bif cutOk (IntKind.i64.wrap (x * 2)) (IntKind.i64.wrap (IntKind.i64.wrap (x * 2) + 2)) 200 then
      some
        (List.take ((IntKind.i64.wrap (IntKind.i64.wrap (x * 2) + 2)).toNat - (IntKind.i64.wrap (x * 2)).toNat)
          (List.drop (IntKind.i64.wrap (x * 2)).toNat
            [48, 48, 48, 49, 48, 50, 48, 51, 48, 52, 48, 53, 48, 54, 48, 55, 48, 56, 48, 57, 49, 48, 49, 49, 49, 50, 49,
              51, 49, 52, 49, 53, 49, 54, 49, 55, 49, 56, 49, 57, 50, 48, 50, 49, 50, 50, 50, 51, 50, 52, 50, 53, 50,
              54, 50, 55, 50, 56, 50, 57, 51, 48, 51, 49, 51, 50, 51, 51, 51, 52, 51, 53, 51, 54, 51, 55, 51, 56, 51,
              57, 52, 48, 52, 49, 52, 50, 52, 51, 52, 52, 52, 53, 52, 54, 52, 55, 52, 56, 52, 57, 53, 48, 53, 49, 53,
              50, 53, 51, 53, 52, 53, 53, 53, 54, 53, 55, 53, 56, 53, 57, 54, 48, 54, 49, 54, 50, 54, 51, 54, 52, 54,
              53, 54, 54, 54, 55, 54, 56, 54, 57, 55, 48, 55, 49, 55, 50, 55, 51, 55, 52, 55, 53, 55, 54, 55, 55, 55,
              56, 55, 57, 56, 48, 56, 49, 56, 50, 56, 51, 56, 52, 56, 53, 56, 54, 56, 55, 56, 56, 56, 57, 57, 48, 57,
              49, 57, 50, 57, 51, 57, 52, 57, 53, 57, 54, 57, 55, 57, 56, 57, 57]))
    else none
theorem E_internal_strconv_small (N : Nat) : runF Tryd.prog [] [] N Tryd.f44 .lf [(.int .i64)] [.str] = F_internal_strconv_small N := by kernel_rfl
noncomputable def e_internal_strconv_small (N : Nat) : Ent Tryd.prog := mkFn 44 Tryd.f44 .lf [(.int .i64)] [.str] (F_internal_strconv_small N) mixed Tryd.func44 (.mk' Tryd.func44 rfl (by decide)) rfl (E_internal_strconv_small N)
/-- math/bits.Len64 -/
noncomputable def F_math_bits_Len64 (N : Nat) : Fun [(.int .u64)] (Option (ResT [(.int .i64)])) :=
  fun (x : Int) =>
  joinAt
    (fun (z : (Int × Int × Unit) × Unit × Unit × Unit) =>
      joinAt
        (fun (z : (Int × Int × Unit) × Unit × Unit × Unit) =>
          joinAt
            (fun (z : (Int × Int × Unit) × Unit × Unit × Unit) =>
              [0, 1, 2, 2, 3, 3, 3, 3, 4, 4, 4, 4, 4, 4, 4, 4, 5, 5, 5, 5, 5, 5, 5, 5, 5, 5, 5, 5, 5, 5, 5, 5, 6, 6, 6,
                      6, 6, 6, 6, 6, 6, 6, 6, 6, 6, 6, 6, 6, 6, 6, 6, 6, 6, 6, 6, 6, 6, 6, 6, 6, 6, 6, 6, 6, 7, 7, 7, 7,
                      7, 7, 7, 7, 7, 7, 7, 7, 7, 7, 7, 7, 7, 7, 7, 7, 7, 7, 7, 7, 7, 7, 7, 7, 7, 7, 7, 7, 7, 7, 7, 7, 7,
                      7, 7, 7, 7, 7, 7, 7, 7, 7, 7, 7, 7, 7, 7, 7, 7, 7, 7, 7, 7, 7, 7, 7, 7, 7, 7, 7, 8, 8, 8, 8, 8, 8,
                      8, 8, 8, 8, 8, 8, 8, 8, 8, 8, 8, 8, 8, 8, 8, 8, 8, 8, 8, 8, 8, 8, 8, 8, 8, 8, 8, 8, 8, 8, 8, 8, 8,
                      8, 8, 8, 8, 8, 8, 8, 8, 8, 8, 8, 8, 8, 8, 8, 8, 8, 8, 8, 8, 8, 8, 8, 8, 8, 8, 8, 8, 8, 8, 8, 8, 8,
                      8, 8, 8, 8, 8, 8, 8, 8, 8, 8, 8, 8, 8, 8, 8, 8, 8, 8, 8, 8, 8, 8, 8, 8, 8, 8, 8, 8, 8, 8, 8, 8, 8,
                      8, 8, 8, 8, 8, 8, 8, 8, 8, 8, 8, 8, 8, 8, 8, 8, 8, 8, 8, 8, 8, 8,
                      8][(toU8 (IntKind.u8.wrap z.fst.fst)).toNat]?.bind
                fun (c : UInt8) => some (IntKind.i64.wrap (z.fst.snd.fst + (↑c.toNat : Int))))
            fun (k : (Int × Int × Unit) × Unit × Unit × Unit → Option Int) =>
            bif decide (256 ≤ z.fst.fst) then
              k ((z.fst.fst.fdiv 256, IntKind.i64.wrap (z.fst.snd.fst + 8), ()), (), (), ())
            else k ((z.fst.fst, z.fst.snd.fst, ()), (), (), ()))
        fun (k : (Int × Int × Unit) × Unit × Unit × Unit → Option Int) =>
        bif decide (65536 ≤ z.fst.fst) then
          k ((z.fst.fst.fdiv 65536, IntKind.i64.wrap (z.fst.snd.fst + 16), ()), (), (), ())
        else k ((z.fst.fst, z.fst.snd.fst, ()), (), (), ()))
    fun (k : (Int × Int × Unit) × Unit × Unit × Unit → Option Int) =>
    bif decide (4294967296 ≤ x) then k ((x.fdiv 4294967296, 32, ()), (), (), ()) else k ((x, 0, ()), (), (), ())
theorem E_math_bits_Len64 (N : Nat) : runF Tryd.prog [] [] N Tryd.f57 (.seq .lf (.join ⟨[(0, .d (.int .u64)), (2, .d (.int .i64))], [], [], [], [], []⟩ .lf (.join ⟨[(0, .d (.int .u64)), (2, .d (.int .i64))], [], [], [], [], []⟩ .lf (.join ⟨[(0, .d (.int .u64)), (2, .d (.int .i64))], [], [], [], [], []⟩ .lf .lf)))) [(.int .u64)] [(.int .i64)] = F_math_bits_Len64 N := by kernel_rfl
noncomputable def e_math_bits_Len64 (N : Nat) : Ent Tryd.prog := mkFn 57 Tryd.f57 (.seq .lf (.join ⟨[(0, .d (.int .u64)), (2, .d (.int .i64))], [], [], [], [], []⟩ .lf (.join ⟨[(0, .d (.int .u64)), (2, .d (.int .i64))], [], [], [], [], []⟩ .lf (.join ⟨[(0, .d (.int .u64)), (2, .d (.int .i64))], [], [], [], [], []⟩ .lf .lf)))) [(.int .u64)] [(.int .i64)] (F_math_bits_Len64 N) mixed Tryd.func57 (.mk' Tryd.func57 rfl (by decide)) rfl (E_math_bits_Len64 N)
/-- internal/strconv.log10Pow2 -/
noncomputable def F_internal_strconv_log10Pow2 (N : Nat) : Fun [(.int .i64)] (Option (ResT [(.int .i64)])) :=
  fun (x : Int) => some ((IntKind.i64.wrap (x * 78913)).fdiv 262144)
theorem E_internal_strconv_log10Pow2 (N : Nat) : runF Tryd.prog [] [] N Tryd.f58 .lf [(.int .i64)] [(.int .i64)] = F_internal_strconv_log10Pow2 N := by kernel_rfl
noncomputable def e_internal_strconv_log10Pow2 (N : Nat) : Ent Tryd.prog := mkFn 58 Tryd.f58 .lf [(.int .i64)] [(.int .i64)] (F_internal_strconv_log10Pow2 N) mixed Tryd.func58 (.mk' Tryd.func58 rfl (by decide)) rfl (E_internal_strconv_log10Pow2 N)
/-- internal/strconv.bool2[int] -/
noncomputable def F_internal_strconv_bool2_int (N : Nat) : Fun [.bool] (Option (ResT [(.int .i64)])) :=
  fun (x : Bool) => bif x then some 1 else some 0
theorem E_internal_strconv_bool2_int (N : Nat) : runF Tryd.prog [] [] N Tryd.f59 .lf [.bool] [(.int .i64)] = F_internal_strconv_bool2_int N := by kernel_rfl
noncomputable def e_internal_strconv_bool2_int (N : Nat) : Ent Tryd.prog := mkFn 59 Tryd.f59 .lf [.bool] [(.int .i64)] (F_internal_strconv_bool2_int N) mixed Tryd.func59 (.mk' Tryd.func59 rfl (by decide)) rfl (E_internal_strconv_bool2_int N)
/-- internal/strconv.numDigits -/
noncomputable def F_internal_strconv_numDigits (N : Nat) : Fun [(.int .u64), (.tab (.int .u64))] (Option (ResT [(.int .i64)])) :=
  fun (x : Int) (x_1 : List Int) =>
  Option.bind (F_math_bits_Len64 N x) fun (y : Int) =>
    Option.bind (F_internal_strconv_log10Pow2 N y) fun (y : Int) =>
      bif x_1.length.ble 20 then
        (at? x_1 y).bind fun (e : Int) =>
          Option.bind (F_internal_strconv_bool2_int N (decide (e ≤ x))) fun (y_1 : Int) =>
            some (IntKind.i64.wrap (y + y_1))
      else none
theorem E_internal_strconv_numDigits (N : Nat) : runG Tryd.prog [e_math_bits_Len64 N, e_internal_strconv_log10Pow2 N, e_internal_strconv_bool2_int N] [] N Tryd.f45 .lf [(.int .u64), (.tab (.int .u64))] [(.int .i64)] 1 [0] = F_internal_strconv_numDigits N := by kernel_rfl
noncomputable def e_internal_strconv_numDigits (N : Nat) : Ent Tryd.prog := mkFnG 45 Tryd.f45 .lf [(.int .u64), (.tab (.int .u64))] [(.int .i64)] 1 [0] (F_internal_strconv_numDigits N) mixed Tryd.func45 (.mk' Tryd.func45 rfl (by decide)) rfl (E_internal_strconv_numDigits N)
noncomputable def F0_internal_strconv_formatBase10 (N : Nat) : FunA [.d (.int .u64)] (Option (ResT (rkTys .u8 []))) :=
  fun (x : Int) =>
  iter
    (fun (rec : (Int × Int × Unit) × Unit × Unit × Unit → Option Unit)
        (z : (Int × Int × Unit) × Unit × Unit × Unit) =>
      bif decide (8 ≤ z.fst.snd.fst) then
        (at?
              [48, 48, 48, 49, 48, 50, 48, 51, 48, 52, 48, 53, 48, 54, 48, 55, 48, 56, 48, 57, 49, 48, 49, 49, 49, 50,
                49, 51, 49, 52, 49, 53, 49, 54, 49, 55, 49, 56, 49, 57, 50, 48, 50, 49, 50, 50, 50, 51, 50, 52, 50, 53,
                50, 54, 50, 55, 50, 56, 50, 57, 51, 48, 51, 49, 51, 50, 51, 51, 51, 52, 51, 53, 51, 54, 51, 55, 51, 56,
                51, 57, 52, 48, 52, 49, 52, 50, 52, 51, 52, 52, 52, 53, 52, 54, 52, 55, 52, 56, 52, 57, 53, 48, 53, 49,
                53, 50, 53, 51, 53, 52, 53, 53, 53, 54, 53, 55, 53, 56, 53, 57, 54, 48, 54, 49, 54, 50, 54, 51, 54, 52,
                54, 53, 54, 54, 54, 55, 54, 56, 54, 57, 55, 48, 55, 49, 55, 50, 55, 51, 55, 52, 55, 53, 55, 54, 55, 55,
                55, 56, 55, 57, 56, 48, 56, 49, 56, 50, 56, 51, 56, 52, 56, 53, 56, 54, 56, 55, 56, 56, 56, 57, 57, 48,
                57, 49, 57, 50, 57, 51, 57, 52, 57, 53, 57, 54, 57, 55, 57, 56, 57, 57]
              (IntKind.u32.wrap
                (IntKind.u32.wrap (((IntKind.u32.wrap (z.fst.fst.tmod 100000000)).tmod 10000).tmod 100 * 2) + 1))).bind
          fun (c : UInt8) =>
          (at?
                [48, 48, 48, 49, 48, 50, 48, 51, 48, 52, 48, 53, 48, 54, 48, 55, 48, 56, 48, 57, 49, 48, 49, 49, 49, 50,
                  49, 51, 49, 52, 49, 53, 49, 54, 49, 55, 49, 56, 49, 57, 50, 48, 50, 49, 50, 50, 50, 51, 50, 52, 50,
                  53, 50, 54, 50, 55, 50, 56, 50, 57, 51, 48, 51, 49, 51, 50, 51, 51, 51, 52, 51, 53, 51, 54, 51, 55,
                  51, 56, 51, 57, 52, 48, 52, 49, 52, 50, 52, 51, 52, 52, 52, 53, 52, 54, 52, 55, 52, 56, 52, 57, 53,
                  48, 53, 49, 53, 50, 53, 51, 53, 52, 53, 53, 53, 54, 53, 55, 53, 56, 53, 57, 54, 48, 54, 49, 54, 50,
                  54, 51, 54, 52, 54, 53, 54, 54, 54, 55, 54, 56, 54, 57, 55, 48, 55, 49, 55, 50, 55, 51, 55, 52, 55,
                  53, 55, 54, 55, 55, 55, 56, 55, 57, 56, 48, 56, 49, 56, 50, 56, 51, 56, 52, 56, 53, 56, 54, 56, 55,
                  56, 56, 56, 57, 57, 48, 57, 49, 57, 50, 57, 51, 57, 52, 57, 53, 57, 54, 57, 55, 57, 56, 57, 57]
                (IntKind.u32.wrap (((IntKind.u32.wrap (z.fst.fst.tmod 100000000)).tmod 10000).tmod 100 * 2))).bind
            fun (c : UInt8) => (at? [] (IntKind.i64.wrap (z.fst.snd.fst - 1))).bind fun (e : UInt8) => none
      else
        joinAt
          (fun (z : (Int × Int × Unit) × Unit × Unit × Unit) =>
            joinAt
              (fun (z : (Int × Int × Unit) × Unit × Unit × Unit) =>
                bif decide (0 < z.fst.fst) then none else some ())
              fun (k : (Int × Int × Unit) × Unit × Unit × Unit → Option Unit) =>
              bif decide (2 ≤ z.fst.fst) then
                (at?
                      [48, 48, 48, 49, 48, 50, 48, 51, 48, 52, 48, 53, 48, 54, 48, 55, 48, 56, 48, 57, 49, 48, 49, 49,
                        49, 50, 49, 51, 49, 52, 49, 53, 49, 54, 49, 55, 49, 56, 49, 57, 50, 48, 50, 49, 50, 50, 50, 51,
                        50, 52, 50, 53, 50, 54, 50, 55, 50, 56, 50, 57, 51, 48, 51, 49, 51, 50, 51, 51, 51, 52, 51, 53,
                        51, 54, 51, 55, 51, 56, 51, 57, 52, 48, 52, 49, 52, 50, 52, 51, 52, 52, 52, 53, 52, 54, 52, 55,
                        52, 56, 52, 57, 53, 48, 53, 49, 53, 50, 53, 51, 53, 52, 53, 53, 53, 54, 53, 55, 53, 56, 53, 57,
                        54, 48, 54, 49, 54, 50, 54, 51, 54, 52, 54, 53, 54, 54, 54, 55, 54, 56, 54, 57, 55, 48, 55, 49,
                        55, 50, 55, 51, 55, 52, 55, 53, 55, 54, 55, 55, 55, 56, 55, 57, 56, 48, 56, 49, 56, 50, 56, 51,
                        56, 52, 56, 53, 56, 54, 56, 55, 56, 56, 56, 57, 57, 48, 57, 49, 57, 50, 57, 51, 57, 52, 57, 53,
                        57, 54, 57, 55, 57, 56, 57, 57]
                      (IntKind.u32.wrap (IntKind.u32.wrap (z.fst.snd.fst.tmod 100 * 2) + 1))).bind
                  fun (c : UInt8) =>
                  (at?
                        [48, 48, 48, 49, 48, 50, 48, 51, 48, 52, 48, 53, 48, 54, 48, 55, 48, 56, 48, 57, 49, 48, 49, 49,
                          49, 50, 49, 51, 49, 52, 49, 53, 49, 54, 49, 55, 49, 56, 49, 57, 50, 48, 50, 49, 50, 50, 50,
                          51, 50, 52, 50, 53, 50, 54, 50, 55, 50, 56, 50, 57, 51, 48, 51, 49, 51, 50, 51, 51, 51, 52,
                          51, 53, 51, 54, 51, 55, 51, 56, 51, 57, 52, 48, 52, 49, 52, 50, 52, 51, 52, 52, 52, 53, 52,
                          54, 52, 55, 52, 56, 52, 57, 53, 48, 53, 49, 53, 50, 53, 51, 53, 52, 53, 53, 53, 54, 53, 55,
                          53, 56, 53, 57, 54, 48, 54, 49, 54, 50, 54, 51, 54, 52, 54, 53, 54, 54, 54, 55, 54, 56, 54,
                          57, 55, 48, 55, 49, 55, 50, 55, 51, 55, 52, 55, 53, 55, 54, 55, 55, 55, 56, 55, 57, 56, 48,
                          56, 49, 56, 50, 56, 51, 56, 52, 56, 53, 56, 54, 56, 55, 56, 56, 56, 57, 57, 48, 57, 49, 57,
                          50, 57, 51, 57, 52, 57, 53, 57, 54, 57, 55, 57, 56, 57, 57]
                        (IntKind.u32.wrap (z.fst.snd.fst.tmod 100 * 2))).bind
                    fun (c : UInt8) => (at? [] (IntKind.i64.wrap (z.fst.fst - 1))).bind fun (e : UInt8) => none
              else k ((z.fst.fst, z.fst.snd.fst, ()), (), (), ()))
          fun (k : (Int × Int × Unit) × Unit × Unit × Unit → Option Unit) =>
          bif decide (4 ≤ z.fst.snd.fst) then
            (at?
                  [48, 48, 48, 49, 48, 50, 48, 51, 48, 52, 48, 53, 48, 54, 48, 55, 48, 56, 48, 57, 49, 48, 49, 49, 49,
                    50, 49, 51, 49, 52, 49, 53, 49, 54, 49, 55, 49, 56, 49, 57, 50, 48, 50, 49, 50, 50, 50, 51, 50, 52,
                    50, 53, 50, 54, 50, 55, 50, 56, 50, 57, 51, 48, 51, 49, 51, 50, 51, 51, 51, 52, 51, 53, 51, 54, 51,
                    55, 51, 56, 51, 57, 52, 48, 52, 49, 52, 50, 52, 51, 52, 52, 52, 53, 52, 54, 52, 55, 52, 56, 52, 57,
                    53, 48, 53, 49, 53, 50, 53, 51, 53, 52, 53, 53, 53, 54, 53, 55, 53, 56, 53, 57, 54, 48, 54, 49, 54,
                    50, 54, 51, 54, 52, 54, 53, 54, 54, 54, 55, 54, 56, 54, 57, 55, 48, 55, 49, 55, 50, 55, 51, 55, 52,
                    55, 53, 55, 54, 55, 55, 55, 56, 55, 57, 56, 48, 56, 49, 56, 50, 56, 51, 56, 52, 56, 53, 56, 54, 56,
                    55, 56, 56, 56, 57, 57, 48, 57, 49, 57, 50, 57, 51, 57, 52, 57, 53, 57, 54, 57, 55, 57, 56, 57, 57]
                  (IntKind.u32.wrap
                    (IntKind.u32.wrap (((IntKind.u32.wrap z.fst.fst).tmod 10000).tmod 100 * 2) + 1))).bind
              fun (c : UInt8) =>
              (at?
                    [48, 48, 48, 49, 48, 50, 48, 51, 48, 52, 48, 53, 48, 54, 48, 55, 48, 56, 48, 57, 49, 48, 49, 49, 49,
                      50, 49, 51, 49, 52, 49, 53, 49, 54, 49, 55, 49, 56, 49, 57, 50, 48, 50, 49, 50, 50, 50, 51, 50,
                      52, 50, 53, 50, 54, 50, 55, 50, 56, 50, 57, 51, 48, 51, 49, 51, 50, 51, 51, 51, 52, 51, 53, 51,
                      54, 51, 55, 51, 56, 51, 57, 52, 48, 52, 49, 52, 50, 52, 51, 52, 52, 52, 53, 52, 54, 52, 55, 52,
                      56, 52, 57, 53, 48, 53, 49, 53, 50, 53, 51, 53, 52, 53, 53, 53, 54, 53, 55, 53, 56, 53, 57, 54,
                      48, 54, 49, 54, 50, 54, 51, 54, 52, 54, 53, 54, 54, 54, 55, 54, 56, 54, 57, 55, 48, 55, 49, 55,
                      50, 55, 51, 55, 52, 55, 53, 55, 54, 55, 55, 55, 56, 55, 57, 56, 48, 56, 49, 56, 50, 56, 51, 56,
                      52, 56, 53, 56, 54, 56, 55, 56, 56, 56, 57, 57, 48, 57, 49, 57, 50, 57, 51, 57, 52, 57, 53, 57,
                      54, 57, 55, 57, 56, 57, 57]
                    (IntKind.u32.wrap (((IntKind.u32.wrap z.fst.fst).tmod 10000).tmod 100 * 2))).bind
                fun (c : UInt8) => (at? [] (IntKind.i64.wrap (z.fst.snd.fst - 1))).bind fun (e : UInt8) => none
          else k ((z.fst.snd.fst, IntKind.u32.wrap z.fst.fst, ()), (), (), ()))
    N ((x, 0, ()), (), (), ())
theorem E0_internal_strconv_formatBase10 (N : Nat) : runO0 Tryd.prog [] [] N Tryd.f46 (.seq .lf (.seq (.blk (.loop ⟨[(1, .d (.int .u64)), (4, .d (.int .i64))], [], [0], [], [], []⟩ .lf)) (.seq .lf (.join ⟨[(4, .d (.int .i64)), (12, .d (.int .u32))], [], [0], [], [], []⟩ .lf (.join ⟨[(4, .d (.int .i64)), (12, .d (.int .u32))], [], [0], [], [], []⟩ .lf .lf))))) .u8 [.d (.int .u64)] [] = F0_internal_strconv_formatBase10 N := by kernel_rfl
/-- internal/strconv.formatBase10 -/
noncomputable def F_internal_strconv_formatBase10 (N : Nat) : List (.u8 : Ty).T → Nat → FunA [.d (.int .u64)] (Option (List (.u8 : Ty).T × ResO [])) :=
  fun (l : List UInt8) (n : Nat) (x : Int) =>
  iter
    (fun (rec : (Int × Int × Unit) × Unit × Unit × List UInt8 × Unit → Option (List UInt8 × Unit))
        (z : (Int × Int × Unit) × Unit × Unit × List UInt8 × Unit) =>
      bif decide (8 ≤ z.fst.snd.fst) then
        (at?
              [48, 48, 48, 49, 48, 50, 48, 51, 48, 52, 48, 53, 48, 54, 48, 55, 48, 56, 48, 57, 49, 48, 49, 49, 49, 50,
                49, 51, 49, 52, 49, 53, 49, 54, 49, 55, 49, 56, 49, 57, 50, 48, 50, 49, 50, 50, 50, 51, 50, 52, 50, 53,
                50, 54, 50, 55, 50, 56, 50, 57, 51, 48, 51, 49, 51, 50, 51, 51, 51, 52, 51, 53, 51, 54, 51, 55, 51, 56,
                51, 57, 52, 48, 52, 49, 52, 50, 52, 51, 52, 52, 52, 53, 52, 54, 52, 55, 52, 56, 52, 57, 53, 48, 53, 49,
                53, 50, 53, 51, 53, 52, 53, 53, 53, 54, 53, 55, 53, 56, 53, 57, 54, 48, 54, 49, 54, 50, 54, 51, 54, 52,
                54, 53, 54, 54, 54, 55, 54, 56, 54, 57, 55, 48, 55, 49, 55, 50, 55, 51, 55, 52, 55, 53, 55, 54, 55, 55,
                55, 56, 55, 57, 56, 48, 56, 49, 56, 50, 56, 51, 56, 52, 56, 53, 56, 54, 56, 55, 56, 56, 56, 57, 57, 48,
                57, 49, 57, 50, 57, 51, 57, 52, 57, 53, 57, 54, 57, 55, 57, 56, 57, 57]
              (IntKind.u32.wrap
                (IntKind.u32.wrap (((IntKind.u32.wrap (z.fst.fst.tmod 100000000)).tmod 10000).tmod 100 * 2) + 1))).bind
          fun (c : UInt8) =>
          (at?
                [48, 48, 48, 49, 48, 50, 48, 51, 48, 52, 48, 53, 48, 54, 48, 55, 48, 56, 48, 57, 49, 48, 49, 49, 49, 50,
                  49, 51, 49, 52, 49, 53, 49, 54, 49, 55, 49, 56, 49, 57, 50, 48, 50, 49, 50, 50, 50, 51, 50, 52, 50,
                  53, 50, 54, 50, 55, 50, 56, 50, 57, 51, 48, 51, 49, 51, 50, 51, 51, 51, 52, 51, 53, 51, 54, 51, 55,
                  51, 56, 51, 57, 52, 48, 52, 49, 52, 50, 52, 51, 52, 52, 52, 53, 52, 54, 52, 55, 52, 56, 52, 57, 53,
                  48, 53, 49, 53, 50, 53, 51, 53, 52, 53, 53, 53, 54, 53, 55, 53, 56, 53, 57, 54, 48, 54, 49, 54, 50,
                  54, 51, 54, 52, 54, 53, 54, 54, 54, 55, 54, 56, 54, 57, 55, 48, 55, 49, 55, 50, 55, 51, 55, 52, 55,
                  53, 55, 54, 55, 55, 55, 56, 55, 57, 56, 48, 56, 49, 56, 50, 56, 51, 56, 52, 56, 53, 56, 54, 56, 55,
                  56, 56, 56, 57, 57, 48, 57, 49, 57, 50, 57, 51, 57, 52, 57, 53, 57, 54, 57, 55, 57, 56, 57, 57]
                (IntKind.u32.wrap (((IntKind.u32.wrap (z.fst.fst.tmod 100000000)).tmod 10000).tmod 100 * 2))).bind
            fun (c_1 : UInt8) =>
            bif
                decide (0 ≤ IntKind.i64.wrap (z.fst.snd.fst - 1)) &&
                  decide (IntKind.i64.wrap (z.fst.snd.fst - 1) < (↑n : Int)) then
              z.snd.snd.snd.fst[0 + (IntKind.i64.wrap (z.fst.snd.fst - 1)).toNat]?.bind fun (e : UInt8) =>
                bif
                    decide (0 ≤ IntKind.i64.wrap (z.fst.snd.fst - 2)) &&
                      decide (IntKind.i64.wrap (z.fst.snd.fst - 2) < (↑n : Int)) then
                  (z.snd.snd.snd.fst.set (0 + (IntKind.i64.wrap (z.fst.snd.fst - 1)).toNat)
                          c)[0 + (IntKind.i64.wrap (z.fst.snd.fst - 2)).toNat]?.bind
                    fun (e : UInt8) =>
                    (at?
                          [48, 48, 48, 49, 48, 50, 48, 51, 48, 52, 48, 53, 48, 54, 48, 55, 48, 56, 48, 57, 49, 48, 49,
                            49, 49, 50, 49, 51, 49, 52, 49, 53, 49, 54, 49, 55, 49, 56, 49, 57, 50, 48, 50, 49, 50, 50,
                            50, 51, 50, 52, 50, 53, 50, 54, 50, 55, 50, 56, 50, 57, 51, 48, 51, 49, 51, 50, 51, 51, 51,
                            52, 51, 53, 51, 54, 51, 55, 51, 56, 51, 57, 52, 48, 52, 49, 52, 50, 52, 51, 52, 52, 52, 53,
                            52, 54, 52, 55, 52, 56, 52, 57, 53, 48, 53, 49, 53, 50, 53, 51, 53, 52, 53, 53, 53, 54, 53,
                            55, 53, 56, 53, 57, 54, 48, 54, 49, 54, 50, 54, 51, 54, 52, 54, 53, 54, 54, 54, 55, 54, 56,
                            54, 57, 55, 48, 55, 49, 55, 50, 55, 51, 55, 52, 55, 53, 55, 54, 55, 55, 55, 56, 55, 57, 56,
                            48, 56, 49, 56, 50, 56, 51, 56, 52, 56, 53, 56, 54, 56, 55, 56, 56, 56, 57, 57, 48, 57, 49,
                            57, 50, 57, 51, 57, 52, 57, 53, 57, 54, 57, 55, 57, 56, 57, 57]
                          (IntKind.u32.wrap
                            (IntKind.u32.wrap
                                (IntKind.u32.wrap
                                    (((IntKind.u32.wrap (z.fst.fst.tmod 100000000)).tmod 10000).tdiv 100) *
                                  2) +
                              1))).bind
                      fun (c_2 : UInt8) =>
                      (at?
                            [48, 48, 48, 49, 48, 50, 48, 51, 48, 52, 48, 53, 48, 54, 48, 55, 48, 56, 48, 57, 49, 48, 49,
                              49, 49, 50, 49, 51, 49, 52, 49, 53, 49, 54, 49, 55, 49, 56, 49, 57, 50, 48, 50, 49, 50,
                              50, 50, 51, 50, 52, 50, 53, 50, 54, 50, 55, 50, 56, 50, 57, 51, 48, 51, 49, 51, 50, 51,
                              51, 51, 52, 51, 53, 51, 54, 51, 55, 51, 56, 51, 57, 52, 48, 52, 49, 52, 50, 52, 51, 52,
                              52, 52, 53, 52, 54, 52, 55, 52, 56, 52, 57, 53, 48, 53, 49, 53, 50, 53, 51, 53, 52, 53,
                              53, 53, 54, 53, 55, 53, 56, 53, 57, 54, 48, 54, 49, 54, 50, 54, 51, 54, 52, 54, 53, 54,
                              54, 54, 55, 54, 56, 54, 57, 55, 48, 55, 49, 55, 50, 55, 51, 55, 52, 55, 53, 55, 54, 55,
                              55, 55, 56, 55, 57, 56, 48, 56, 49, 56, 50, 56, 51, 56, 52, 56, 53, 56, 54, 56, 55, 56,
                              56, 56, 57, 57, 48, 57, 49, 57, 50, 57, 51, 57, 52, 57, 53, 57, 54, 57, 55, 57, 56, 57,
                              57]
                            (IntKind.u32.wrap
                              (IntKind.u32.wrap (((IntKind.u32.wrap (z.fst.fst.tmod 100000000)).tmod 10000).tdiv 100) *
                                2))).bind
                        fun (c_3 : UInt8) =>
                        bif
                            decide (0 ≤ IntKind.i64.wrap (z.fst.snd.fst - 3)) &&
                              decide (IntKind.i64.wrap (z.fst.snd.fst - 3) < (↑n : Int)) then
                          ((z.snd.snd.snd.fst.set (0 + (IntKind.i64.wrap (z.fst.snd.fst - 1)).toNat) c).set
                                  (0 + (IntKind.i64.wrap (z.fst.snd.fst - 2)).toNat)
                                  c_1)[0 + (IntKind.i64.wrap (z.fst.snd.fst - 3)).toNat]?.bind
                            fun (e : UInt8) =>
                            bif
                                decide (0 ≤ IntKind.i64.wrap (z.fst.snd.fst - 4)) &&
                                  decide (IntKind.i64.wrap (z.fst.snd.fst - 4) < (↑n : Int)) then
                              (((z.snd.snd.snd.fst.set (0 + (IntKind.i64.wrap (z.fst.snd.fst - 1)).toNat) c).set
                                          (0 + (IntKind.i64.wrap (z.fst.snd.fst - 2)).toNat) c_1).set
                                      (0 + (IntKind.i64.wrap (z.fst.snd.fst - 3)).toNat)
                                      c_2)[0 + (IntKind.i64.wrap (z.fst.snd.fst - 4)).toNat]?.bind
                                fun (e : UInt8) =>
                                (at?
                                      [48, 48, 48, 49, 48, 50, 48, 51, 48, 52, 48, 53, 48, 54, 48, 55, 48, 56, 48, 57,
                                        49, 48, 49, 49, 49, 50, 49, 51, 49, 52, 49, 53, 49, 54, 49, 55, 49, 56, 49, 57,
                                        50, 48, 50, 49, 50, 50, 50, 51, 50, 52, 50, 53, 50, 54, 50, 55, 50, 56, 50, 57,
                                        51, 48, 51, 49, 51, 50, 51, 51, 51, 52, 51, 53, 51, 54, 51, 55, 51, 56, 51, 57,
                                        52, 48, 52, 49, 52, 50, 52, 51, 52, 52, 52, 53, 52, 54, 52, 55, 52, 56, 52, 57,
                                        53, 48, 53, 49, 53, 50, 53, 51, 53, 52, 53, 53, 53, 54, 53, 55, 53, 56, 53, 57,
                                        54, 48, 54, 49, 54, 50, 54, 51, 54, 52, 54, 53, 54, 54, 54, 55, 54, 56, 54, 57,
                                        55, 48, 55, 49, 55, 50, 55, 51, 55, 52, 55, 53, 55, 54, 55, 55, 55, 56, 55, 57,
                                        56, 48, 56, 49, 56, 50, 56, 51, 56, 52, 56, 53, 56, 54, 56, 55, 56, 56, 56, 57,
                                        57, 48, 57, 49, 57, 50, 57, 51, 57, 52, 57, 53, 57, 54, 57, 55, 57, 56, 57, 57]
                                      (IntKind.u32.wrap
                                        (IntKind.u32.wrap
                                            ((IntKind.u32.wrap
                                                    ((IntKind.u32.wrap (z.fst.fst.tmod 100000000)).tdiv 10000)).tmod
                                                100 *
                                              2) +
                                          1))).bind
                                  fun (c_4 : UInt8) =>
                                  (at?
                                        [48, 48, 48, 49, 48, 50, 48, 51, 48, 52, 48, 53, 48, 54, 48, 55, 48, 56, 48, 57,
                                          49, 48, 49, 49, 49, 50, 49, 51, 49, 52, 49, 53, 49, 54, 49, 55, 49, 56, 49,
                                          57, 50, 48, 50, 49, 50, 50, 50, 51, 50, 52, 50, 53, 50, 54, 50, 55, 50, 56,
                                          50, 57, 51, 48, 51, 49, 51, 50, 51, 51, 51, 52, 51, 53, 51, 54, 51, 55, 51,
                                          56, 51, 57, 52, 48, 52, 49, 52, 50, 52, 51, 52, 52, 52, 53, 52, 54, 52, 55,
                                          52, 56, 52, 57, 53, 48, 53, 49, 53, 50, 53, 51, 53, 52, 53, 53, 53, 54, 53,
                                          55, 53, 56, 53, 57, 54, 48, 54, 49, 54, 50, 54, 51, 54, 52, 54, 53, 54, 54,
                                          54, 55, 54, 56, 54, 57, 55, 48, 55, 49, 55, 50, 55, 51, 55, 52, 55, 53, 55,
                                          54, 55, 55, 55, 56, 55, 57, 56, 48, 56, 49, 56, 50, 56, 51, 56, 52, 56, 53,
                                          56, 54, 56, 55, 56, 56, 56, 57, 57, 48, 57, 49, 57, 50, 57, 51, 57, 52, 57,
                                          53, 57, 54, 57, 55, 57, 56, 57, 57]
                                        (IntKind.u32.wrap
                                          ((IntKind.u32.wrap
                                                  ((IntKind.u32.wrap (z.fst.fst.tmod 100000000)).tdiv 10000)).tmod
                                              100 *
                                            2))).bind
                                    fun (c_5 : UInt8) =>
                                    bif
                                        decide (0 ≤ IntKind.i64.wrap (z.fst.snd.fst - 5)) &&
                                          decide (IntKind.i64.wrap (z.fst.snd.fst - 5) < (↑n : Int)) then
                                      ((((z.snd.snd.snd.fst.set (0 + (IntKind.i64.wrap (z.fst.snd.fst - 1)).toNat)
                                                          c).set
                                                      (0 + (IntKind.i64.wrap (z.fst.snd.fst - 2)).toNat) c_1).set
                                                  (0 + (IntKind.i64.wrap (z.fst.snd.fst - 3)).toNat) c_2).set
                                              (0 + (IntKind.i64.wrap (z.fst.snd.fst - 4)).toNat)
                                              c_3)[0 + (IntKind.i64.wrap (z.fst.snd.fst - 5)).toNat]?.bind
                                        fun (e : UInt8) =>
                                        bif
                                            decide (0 ≤ IntKind.i64.wrap (z.fst.snd.fst - 6)) &&
                                              decide (IntKind.i64.wrap (z.fst.snd.fst - 6) < (↑n : Int)) then
                                          (((((z.snd.snd.snd.fst.set (0 + (IntKind.i64.wrap (z.fst.snd.fst - 1)).toNat)
                                                                  c).set
                                                              (0 + (IntKind.i64.wrap (z.fst.snd.fst - 2)).toNat)
                                                              c_1).set
                                                          (0 + (IntKind.i64.wrap (z.fst.snd.fst - 3)).toNat) c_2).set
                                                      (0 + (IntKind.i64.wrap (z.fst.snd.fst - 4)).toNat) c_3).set
                                                  (0 + (IntKind.i64.wrap (z.fst.snd.fst - 5)).toNat)
                                                  c_4)[0 + (IntKind.i64.wrap (z.fst.snd.fst - 6)).toNat]?.bind
                                            fun (e : UInt8) =>
                                            (at?
                                                  [48, 48, 48, 49, 48, 50, 48, 51, 48, 52, 48, 53, 48, 54, 48, 55, 48,
                                                    56, 48, 57, 49, 48, 49, 49, 49, 50, 49, 51, 49, 52, 49, 53, 49, 54,
                                                    49, 55, 49, 56, 49, 57, 50, 48, 50, 49, 50, 50, 50, 51, 50, 52, 50,
                                                    53, 50, 54, 50, 55, 50, 56, 50, 57, 51, 48, 51, 49, 51, 50, 51, 51,
                                                    51, 52, 51, 53, 51, 54, 51, 55, 51, 56, 51, 57, 52, 48, 52, 49, 52,
                                                    50, 52, 51, 52, 52, 52, 53, 52, 54, 52, 55, 52, 56, 52, 57, 53, 48,
                                                    53, 49, 53, 50, 53, 51, 53, 52, 53, 53, 53, 54, 53, 55, 53, 56, 53,
                                                    57, 54, 48, 54, 49, 54, 50, 54, 51, 54, 52, 54, 53, 54, 54, 54, 55,
                                                    54, 56, 54, 57, 55, 48, 55, 49, 55, 50, 55, 51, 55, 52, 55, 53, 55,
                                                    54, 55, 55, 55, 56, 55, 57, 56, 48, 56, 49, 56, 50, 56, 51, 56, 52,
                                                    56, 53, 56, 54, 56, 55, 56, 56, 56, 57, 57, 48, 57, 49, 57, 50, 57,
                                                    51, 57, 52, 57, 53, 57, 54, 57, 55, 57, 56, 57, 57]
                                                  (IntKind.u32.wrap
                                                    (IntKind.u32.wrap
                                                        (IntKind.u32.wrap
                                                            ((IntKind.u32.wrap
                                                                  ((IntKind.u32.wrap (z.fst.fst.tmod 100000000)).tdiv
                                                                    10000)).tdiv
                                                              100) *
                                                          2) +
                                                      1))).bind
                                              fun (c_6 : UInt8) =>
                                              (at?
                                                    [48, 48, 48, 49, 48, 50, 48, 51, 48, 52, 48, 53, 48, 54, 48, 55, 48,
                                                      56, 48, 57, 49, 48, 49, 49, 49, 50, 49, 51, 49, 52, 49, 53, 49,
                                                      54, 49, 55, 49, 56, 49, 57, 50, 48, 50, 49, 50, 50, 50, 51, 50,
                                                      52, 50, 53, 50, 54, 50, 55, 50, 56, 50, 57, 51, 48, 51, 49, 51,
                                                      50, 51, 51, 51, 52, 51, 53, 51, 54, 51, 55, 51, 56, 51, 57, 52,
                                                      48, 52, 49, 52, 50, 52, 51, 52, 52, 52, 53, 52, 54, 52, 55, 52,
                                                      56, 52, 57, 53, 48, 53, 49, 53, 50, 53, 51, 53, 52, 53, 53, 53,
                                                      54, 53, 55, 53, 56, 53, 57, 54, 48, 54, 49, 54, 50, 54, 51, 54,
                                                      52, 54, 53, 54, 54, 54, 55, 54, 56, 54, 57, 55, 48, 55, 49, 55,
                                                      50, 55, 51, 55, 52, 55, 53, 55, 54, 55, 55, 55, 56, 55, 57, 56,
                                                      48, 56, 49, 56, 50, 56, 51, 56, 52, 56, 53, 56, 54, 56, 55, 56,
                                                      56, 56, 57, 57, 48, 57, 49, 57, 50, 57, 51, 57, 52, 57, 53, 57,
                                                      54, 57, 55, 57, 56, 57, 57]
                                                    (IntKind.u32.wrap
                                                      (IntKind.u32.wrap
                                                          ((IntKind.u32.wrap
                                                                ((IntKind.u32.wrap (z.fst.fst.tmod 100000000)).tdiv
                                                                  10000)).tdiv
                                                            100) *
                                                        2))).bind
                                                fun (c_7 : UInt8) =>
                                                bif
                                                    decide (0 ≤ IntKind.i64.wrap (z.fst.snd.fst - 7)) &&
                                                      decide (IntKind.i64.wrap (z.fst.snd.fst - 7) < (↑n : Int)) then
                                                  ((((((z.snd.snd.snd.fst.set
                                                                              (0 +
                                                                                (IntKind.i64.wrap
                                                                                    (z.fst.snd.fst - 1)).toNat)
                                                                              c).set
                                                                          (0 +
                                                                            (IntKind.i64.wrap
                                                                                (z.fst.snd.fst - 2)).toNat)
                                                                          c_1).set
                                                                      (0 + (IntKind.i64.wrap (z.fst.snd.fst - 3)).toNat)
                                                                      c_2).set
                                                                  (0 + (IntKind.i64.wrap (z.fst.snd.fst - 4)).toNat)
                                                                  c_3).set
                                                              (0 + (IntKind.i64.wrap (z.fst.snd.fst - 5)).toNat)
                                                              c_4).set
                                                          (0 + (IntKind.i64.wrap (z.fst.snd.fst - 6)).toNat)
                                                          c_5)[0 + (IntKind.i64.wrap (z.fst.snd.fst - 7)).toNat]?.bind
                                                    fun (e : UInt8) =>
                                                    bif
                                                        decide (0 ≤ IntKind.i64.wrap (z.fst.snd.fst - 8)) &&
                                                          decide
                                                            (IntKind.i64.wrap (z.fst.snd.fst - 8) < (↑n : Int)) then
                                                      (((((((z.snd.snd.snd.fst.set
                                                                                      (0 +
                                                                                        (IntKind.i64.wrap
                                                                                            (z.fst.snd.fst - 1)).toNat)
                                                                                      c).set
                                                                                  (0 +
                                                                                    (IntKind.i64.wrap
                                                                                        (z.fst.snd.fst - 2)).toNat)
                                                                                  c_1).set
                                                                              (0 +
                                                                                (IntKind.i64.wrap
                                                                                    (z.fst.snd.fst - 3)).toNat)
                                                                              c_2).set
                                                                          (0 +
                                                                            (IntKind.i64.wrap
                                                                                (z.fst.snd.fst - 4)).toNat)
                                                                          c_3).set
                                                                      (0 + (IntKind.i64.wrap (z.fst.snd.fst - 5)).toNat)
                                                                      c_4).set
                                                                  (0 + (IntKind.i64.wrap (z.fst.snd.fst - 6)).toNat)
                                                                  c_5).set
                                                              (0 + (IntKind.i64.wrap (z.fst.snd.fst - 7)).toNat)
                                                              c_6)[0 +
                                                              (IntKind.i64.wrap (z.fst.snd.fst - 8)).toNat]?.bind
                                                        fun (e : UInt8) =>
                                                        rec
                                                          ((IntKind.u64.wrap (z.fst.fst.tdiv 100000000),
                                                              IntKind.i64.wrap (z.fst.snd.fst - 8), ()),
                                                            (), (),
                                                            (((((((z.snd.snd.snd.fst.set
                                                                                          (0 +
                                                                                            (IntKind.i64.wrap
                                                                                                (z.fst.snd.fst -
                                                                                                  1)).toNat)
                                                                                          c).set
                                                                                      (0 +
                                                                                        (IntKind.i64.wrap
                                                                                            (z.fst.snd.fst - 2)).toNat)
                                                                                      c_1).set
                                                                                  (0 +
                                                                                    (IntKind.i64.wrap
                                                                                        (z.fst.snd.fst - 3)).toNat)
                                                                                  c_2).set
                                                                              (0 +
                                                                                (IntKind.i64.wrap
                                                                                    (z.fst.snd.fst - 4)).toNat)
                                                                              c_3).set
                                                                          (0 +
                                                                            (IntKind.i64.wrap
                                                                                (z.fst.snd.fst - 5)).toNat)
                                                                          c_4).set
                                                                      (0 + (IntKind.i64.wrap (z.fst.snd.fst - 6)).toNat)
                                                                      c_5).set
                                                                  (0 + (IntKind.i64.wrap (z.fst.snd.fst - 7)).toNat)
                                                                  c_6).set
                                                              (0 + (IntKind.i64.wrap (z.fst.snd.fst - 8)).toNat) c_7,
                                                            ())
                                                    else none
                                                else none
                                        else none
                                    else none
                            else none
                        else none
                else none
            else none
      else
        joinAt
          (fun (z : (Int × Int × Unit) × Unit × Unit × List UInt8 × Unit) =>
            joinAt
              (fun (z : (Int × Int × Unit) × Unit × Unit × List UInt8 × Unit) =>
                bif decide (0 < z.fst.fst) then
                  bif decide (0 < (↑n : Int)) then
                    z.snd.snd.snd.fst[0]?.bind fun (e : UInt8) =>
                      some
                        (z.snd.snd.snd.fst.set 0 (toU8 (IntKind.u8.wrap (IntKind.u32.wrap (48 + z.fst.snd.fst)))), ())
                  else none
                else some (z.snd.snd.snd.fst, ()))
              fun (k : (Int × Int × Unit) × Unit × Unit × List UInt8 × Unit → Option (List UInt8 × Unit)) =>
              bif decide (2 ≤ z.fst.fst) then
                (at?
                      [48, 48, 48, 49, 48, 50, 48, 51, 48, 52, 48, 53, 48, 54, 48, 55, 48, 56, 48, 57, 49, 48, 49, 49,
                        49, 50, 49, 51, 49, 52, 49, 53, 49, 54, 49, 55, 49, 56, 49, 57, 50, 48, 50, 49, 50, 50, 50, 51,
                        50, 52, 50, 53, 50, 54, 50, 55, 50, 56, 50, 57, 51, 48, 51, 49, 51, 50, 51, 51, 51, 52, 51, 53,
                        51, 54, 51, 55, 51, 56, 51, 57, 52, 48, 52, 49, 52, 50, 52, 51, 52, 52, 52, 53, 52, 54, 52, 55,
                        52, 56, 52, 57, 53, 48, 53, 49, 53, 50, 53, 51, 53, 52, 53, 53, 53, 54, 53, 55, 53, 56, 53, 57,
                        54, 48, 54, 49, 54, 50, 54, 51, 54, 52, 54, 53, 54, 54, 54, 55, 54, 56, 54, 57, 55, 48, 55, 49,
                        55, 50, 55, 51, 55, 52, 55, 53, 55, 54, 55, 55, 55, 56, 55, 57, 56, 48, 56, 49, 56, 50, 56, 51,
                        56, 52, 56, 53, 56, 54, 56, 55, 56, 56, 56, 57, 57, 48, 57, 49, 57, 50, 57, 51, 57, 52, 57, 53,
                        57, 54, 57, 55, 57, 56, 57, 57]
                      (IntKind.u32.wrap (IntKind.u32.wrap (z.fst.snd.fst.tmod 100 * 2) + 1))).bind
                  fun (c : UInt8) =>
                  (at?
                        [48, 48, 48, 49, 48, 50, 48, 51, 48, 52, 48, 53, 48, 54, 48, 55, 48, 56, 48, 57, 49, 48, 49, 49,
                          49, 50, 49, 51, 49, 52, 49, 53, 49, 54, 49, 55, 49, 56, 49, 57, 50, 48, 50, 49, 50, 50, 50,
                          51, 50, 52, 50, 53, 50, 54, 50, 55, 50, 56, 50, 57, 51, 48, 51, 49, 51, 50, 51, 51, 51, 52,
                          51, 53, 51, 54, 51, 55, 51, 56, 51, 57, 52, 48, 52, 49, 52, 50, 52, 51, 52, 52, 52, 53, 52,
                          54, 52, 55, 52, 56, 52, 57, 53, 48, 53, 49, 53, 50, 53, 51, 53, 52, 53, 53, 53, 54, 53, 55,
                          53, 56, 53, 57, 54, 48, 54, 49, 54, 50, 54, 51, 54, 52, 54, 53, 54, 54, 54, 55, 54, 56, 54,
                          57, 55, 48, 55, 49, 55, 50, 55, 51, 55, 52, 55, 53, 55, 54, 55, 55, 55, 56, 55, 57, 56, 48,
                          56, 49, 56, 50, 56, 51, 56, 52, 56, 53, 56, 54, 56, 55, 56, 56, 56, 57, 57, 48, 57, 49, 57,
                          50, 57, 51, 57, 52, 57, 53, 57, 54, 57, 55, 57, 56, 57, 57]
                        (IntKind.u32.wrap (z.fst.snd.fst.tmod 100 * 2))).bind
                    fun (c_1 : UInt8) =>
                    bif
                        decide (0 ≤ IntKind.i64.wrap (z.fst.fst - 1)) &&
                          decide (IntKind.i64.wrap (z.fst.fst - 1) < (↑n : Int)) then
                      z.snd.snd.snd.fst[0 + (IntKind.i64.wrap (z.fst.fst - 1)).toNat]?.bind fun (e : UInt8) =>
                        bif
                            decide (0 ≤ IntKind.i64.wrap (z.fst.fst - 2)) &&
                              decide (IntKind.i64.wrap (z.fst.fst - 2) < (↑n : Int)) then
                          (z.snd.snd.snd.fst.set (0 + (IntKind.i64.wrap (z.fst.fst - 1)).toNat)
                                  c)[0 + (IntKind.i64.wrap (z.fst.fst - 2)).toNat]?.bind
                            fun (e : UInt8) =>
                            k
                              ((IntKind.i64.wrap (z.fst.fst - 2), IntKind.u32.wrap (z.fst.snd.fst.tdiv 100), ()), (),
                                (),
                                (z.snd.snd.snd.fst.set (0 + (IntKind.i64.wrap (z.fst.fst - 1)).toNat) c).set
                                  (0 + (IntKind.i64.wrap (z.fst.fst - 2)).toNat) c_1,
                                ())
                        else none
                    else none
              else k ((z.fst.fst, z.fst.snd.fst, ()), (), (), z.snd.snd.snd.fst, ()))
          fun (k : (Int × Int × Unit) × Unit × Unit × List UInt8 × Unit → Option (List UInt8 × Unit)) =>
          bif decide (4 ≤ z.fst.snd.fst) then
            (at?
                  [48, 48, 48, 49, 48, 50, 48, 51, 48, 52, 48, 53, 48, 54, 48, 55, 48, 56, 48, 57, 49, 48, 49, 49, 49,
                    50, 49, 51, 49, 52, 49, 53, 49, 54, 49, 55, 49, 56, 49, 57, 50, 48, 50, 49, 50, 50, 50, 51, 50, 52,
                    50, 53, 50, 54, 50, 55, 50, 56, 50, 57, 51, 48, 51, 49, 51, 50, 51, 51, 51, 52, 51, 53, 51, 54, 51,
                    55, 51, 56, 51, 57, 52, 48, 52, 49, 52, 50, 52, 51, 52, 52, 52, 53, 52, 54, 52, 55, 52, 56, 52, 57,
                    53, 48, 53, 49, 53, 50, 53, 51, 53, 52, 53, 53, 53, 54, 53, 55, 53, 56, 53, 57, 54, 48, 54, 49, 54,
                    50, 54, 51, 54, 52, 54, 53, 54, 54, 54, 55, 54, 56, 54, 57, 55, 48, 55, 49, 55, 50, 55, 51, 55, 52,
                    55, 53, 55, 54, 55, 55, 55, 56, 55, 57, 56, 48, 56, 49, 56, 50, 56, 51, 56, 52, 56, 53, 56, 54, 56,
                    55, 56, 56, 56, 57, 57, 48, 57, 49, 57, 50, 57, 51, 57, 52, 57, 53, 57, 54, 57, 55, 57, 56, 57, 57]
                  (IntKind.u32.wrap
                    (IntKind.u32.wrap (((IntKind.u32.wrap z.fst.fst).tmod 10000).tmod 100 * 2) + 1))).bind
              fun (c : UInt8) =>
              (at?
                    [48, 48, 48, 49, 48, 50, 48, 51, 48, 52, 48, 53, 48, 54, 48, 55, 48, 56, 48, 57, 49, 48, 49, 49, 49,
                      50, 49, 51, 49, 52, 49, 53, 49, 54, 49, 55, 49, 56, 49, 57, 50, 48, 50, 49, 50, 50, 50, 51, 50,
                      52, 50, 53, 50, 54, 50, 55, 50, 56, 50, 57, 51, 48, 51, 49, 51, 50, 51, 51, 51, 52, 51, 53, 51,
                      54, 51, 55, 51, 56, 51, 57, 52, 48, 52, 49, 52, 50, 52, 51, 52, 52, 52, 53, 52, 54, 52, 55, 52,
                      56, 52, 57, 53, 48, 53, 49, 53, 50, 53, 51, 53, 52, 53, 53, 53, 54, 53, 55, 53, 56, 53, 57, 54,
                      48, 54, 49, 54, 50, 54, 51, 54, 52, 54, 53, 54, 54, 54, 55, 54, 56, 54, 57, 55, 48, 55, 49, 55,
                      50, 55, 51, 55, 52, 55, 53, 55, 54, 55, 55, 55, 56, 55, 57, 56, 48, 56, 49, 56, 50, 56, 51, 56,
                      52, 56, 53, 56, 54, 56, 55, 56, 56, 56, 57, 57, 48, 57, 49, 57, 50, 57, 51, 57, 52, 57, 53, 57,
                      54, 57, 55, 57, 56, 57, 57]
                    (IntKind.u32.wrap (((IntKind.u32.wrap z.fst.fst).tmod 10000).tmod 100 * 2))).bind
                fun (c_1 : UInt8) =>
                bif
                    decide (0 ≤ IntKind.i64.wrap (z.fst.snd.fst - 1)) &&
                      decide (IntKind.i64.wrap (z.fst.snd.fst - 1) < (↑n : Int)) then
                  z.snd.snd.snd.fst[0 + (IntKind.i64.wrap (z.fst.snd.fst - 1)).toNat]?.bind fun (e : UInt8) =>
                    bif
                        decide (0 ≤ IntKind.i64.wrap (z.fst.snd.fst - 2)) &&
                          decide (IntKind.i64.wrap (z.fst.snd.fst - 2) < (↑n : Int)) then
                      (z.snd.snd.snd.fst.set (0 + (IntKind.i64.wrap (z.fst.snd.fst - 1)).toNat)
                              c)[0 + (IntKind.i64.wrap (z.fst.snd.fst - 2)).toNat]?.bind
                        fun (e : UInt8) =>
                        (at?
                              [48, 48, 48, 49, 48, 50, 48, 51, 48, 52, 48, 53, 48, 54, 48, 55, 48, 56, 48, 57, 49, 48,
                                49, 49, 49, 50, 49, 51, 49, 52, 49, 53, 49, 54, 49, 55, 49, 56, 49, 57, 50, 48, 50, 49,
                                50, 50, 50, 51, 50, 52, 50, 53, 50, 54, 50, 55, 50, 56, 50, 57, 51, 48, 51, 49, 51, 50,
                                51, 51, 51, 52, 51, 53, 51, 54, 51, 55, 51, 56, 51, 57, 52, 48, 52, 49, 52, 50, 52, 51,
                                52, 52, 52, 53, 52, 54, 52, 55, 52, 56, 52, 57, 53, 48, 53, 49, 53, 50, 53, 51, 53, 52,
                                53, 53, 53, 54, 53, 55, 53, 56, 53, 57, 54, 48, 54, 49, 54, 50, 54, 51, 54, 52, 54, 53,
                                54, 54, 54, 55, 54, 56, 54, 57, 55, 48, 55, 49, 55, 50, 55, 51, 55, 52, 55, 53, 55, 54,
                                55, 55, 55, 56, 55, 57, 56, 48, 56, 49, 56, 50, 56, 51, 56, 52, 56, 53, 56, 54, 56, 55,
                                56, 56, 56, 57, 57, 48, 57, 49, 57, 50, 57, 51, 57, 52, 57, 53, 57, 54, 57, 55, 57, 56,
                                57, 57]
                              (IntKind.u32.wrap
                                (IntKind.u32.wrap
                                    (IntKind.u32.wrap (((IntKind.u32.wrap z.fst.fst).tmod 10000).tdiv 100) * 2) +
                                  1))).bind
                          fun (c_2 : UInt8) =>
                          (at?
                                [48, 48, 48, 49, 48, 50, 48, 51, 48, 52, 48, 53, 48, 54, 48, 55, 48, 56, 48, 57, 49, 48,
                                  49, 49, 49, 50, 49, 51, 49, 52, 49, 53, 49, 54, 49, 55, 49, 56, 49, 57, 50, 48, 50,
                                  49, 50, 50, 50, 51, 50, 52, 50, 53, 50, 54, 50, 55, 50, 56, 50, 57, 51, 48, 51, 49,
                                  51, 50, 51, 51, 51, 52, 51, 53, 51, 54, 51, 55, 51, 56, 51, 57, 52, 48, 52, 49, 52,
                                  50, 52, 51, 52, 52, 52, 53, 52, 54, 52, 55, 52, 56, 52, 57, 53, 48, 53, 49, 53, 50,
                                  53, 51, 53, 52, 53, 53, 53, 54, 53, 55, 53, 56, 53, 57, 54, 48, 54, 49, 54, 50, 54,
                                  51, 54, 52, 54, 53, 54, 54, 54, 55, 54, 56, 54, 57, 55, 48, 55, 49, 55, 50, 55, 51,
                                  55, 52, 55, 53, 55, 54, 55, 55, 55, 56, 55, 57, 56, 48, 56, 49, 56, 50, 56, 51, 56,
                                  52, 56, 53, 56, 54, 56, 55, 56, 56, 56, 57, 57, 48, 57, 49, 57, 50, 57, 51, 57, 52,
                                  57, 53, 57, 54, 57, 55, 57, 56, 57, 57]
                                (IntKind.u32.wrap
                                  (IntKind.u32.wrap (((IntKind.u32.wrap z.fst.fst).tmod 10000).tdiv 100) * 2))).bind
                            fun (c_3 : UInt8) =>
                            bif
                                decide (0 ≤ IntKind.i64.wrap (z.fst.snd.fst - 3)) &&
                                  decide (IntKind.i64.wrap (z.fst.snd.fst - 3) < (↑n : Int)) then
                              ((z.snd.snd.snd.fst.set (0 + (IntKind.i64.wrap (z.fst.snd.fst - 1)).toNat) c).set
                                      (0 + (IntKind.i64.wrap (z.fst.snd.fst - 2)).toNat)
                                      c_1)[0 + (IntKind.i64.wrap (z.fst.snd.fst - 3)).toNat]?.bind
                                fun (e : UInt8) =>
                                bif
                                    decide (0 ≤ IntKind.i64.wrap (z.fst.snd.fst - 4)) &&
                                      decide (IntKind.i64.wrap (z.fst.snd.fst - 4) < (↑n : Int)) then
                                  (((z.snd.snd.snd.fst.set (0 + (IntKind.i64.wrap (z.fst.snd.fst - 1)).toNat) c).set
                                              (0 + (IntKind.i64.wrap (z.fst.snd.fst - 2)).toNat) c_1).set
                                          (0 + (IntKind.i64.wrap (z.fst.snd.fst - 3)).toNat)
                                          c_2)[0 + (IntKind.i64.wrap (z.fst.snd.fst - 4)).toNat]?.bind
                                    fun (e : UInt8) =>
                                    k
                                      ((IntKind.i64.wrap (z.fst.snd.fst - 4),
                                          IntKind.u32.wrap ((IntKind.u32.wrap z.fst.fst).tdiv 10000), ()),
                                        (), (),
                                        (((z.snd.snd.snd.fst.set (0 + (IntKind.i64.wrap (z.fst.snd.fst - 1)).toNat)
                                                      c).set
                                                  (0 + (IntKind.i64.wrap (z.fst.snd.fst - 2)).toNat) c_1).set
                                              (0 + (IntKind.i64.wrap (z.fst.snd.fst - 3)).toNat) c_2).set
                                          (0 + (IntKind.i64.wrap (z.fst.snd.fst - 4)).toNat) c_3,
                                        ())
                                else none
                            else none
                    else none
                else none
          else k ((z.fst.snd.fst, IntKind.u32.wrap z.fst.fst, ()), (), (), z.snd.snd.snd.fst, ()))
    N ((x, (↑n : Int), ()), (), (), l, ())
theorem E_internal_strconv_formatBase10 (N : Nat) : runO Tryd.prog [] [] N Tryd.f46 (.seq .lf (.seq (.blk (.loop ⟨[(1, .d (.int .u64)), (4, .d (.int .i64))], [], [0], [], [], [(1, .u8)]⟩ .lf)) (.seq .lf (.join ⟨[(4, .d (.int .i64)), (12, .d (.int .u32))], [], [0], [], [], [(1, .u8)]⟩ .lf (.join ⟨[(4, .d (.int .i64)), (12, .d (.int .u32))], [], [0], [], [], [(1, .u8)]⟩ .lf .lf))))) .u8 [.d (.int .u64)] [] = F_internal_strconv_formatBase10 N := by kernel_rfl
noncomputable def e_internal_strconv_formatBase10 (N : Nat) : Ent Tryd.prog := mkO2 46 Tryd.f46 (.seq .lf (.seq (.blk (.loop ⟨[(1, .d (.int .u64)), (4, .d (.int .i64))], [], [0], [], [], [(1, .u8)]⟩ .lf)) (.seq .lf (.join ⟨[(4, .d (.int .i64)), (12, .d (.int .u32))], [], [0], [], [], [(1, .u8)]⟩ .lf (.join ⟨[(4, .d (.int .i64)), (12, .d (.int .u32))], [], [0], [], [], [(1, .u8)]⟩ .lf .lf))))) (.seq .lf (.seq (.blk (.loop ⟨[(1, .d (.int .u64)), (4, .d (.int .i64))], [], [0], [], [], []⟩ .lf)) (.seq .lf (.join ⟨[(4, .d (.int .i64)), (12, .d (.int .u32))], [], [0], [], [], []⟩ .lf (.join ⟨[(4, .d (.int .i64)), (12, .d (.int .u32))], [], [0], [], [], []⟩ .lf .lf))))) .u8 [.d (.int .u64)] [] (F_internal_strconv_formatBase10 N) (F0_internal_strconv_formatBase10 N) mixed Tryd.func46 (.mk' Tryd.func46 rfl (by decide)) rfl (E_internal_strconv_formatBase10 N) (E0_internal_strconv_formatBase10 N)
noncomputable def e_internal_strconv_formatBits (N : Nat) : Ent Tryd.prog := mkNone 47
/-- internal/strconv.FormatUint -/
noncomputable def F_internal_strconv_FormatUint (N : Nat) : Fun [(.int .u64), (.int .i64), (.tab (.int .u64))] (Option (ResT [.str])) :=
  fun (x x_1 : Int) (x_2 : List Int) =>
  bif x_1 == 10 then
    bif decide (x < 100) then
      Option.bind (F_internal_strconv_small N (IntKind.i64.wrap x)) fun (y : List UInt8) => some y
    else
      Option.bind (F_internal_strconv_numDigits N x x_2) fun (y : Int) =>
        bif cutOk 0 y 24 then
          Option.bind (F_internal_strconv_formatBase10 N (List.replicate 24 0) (y.toNat - 0) x)
            fun (y_1 : List UInt8 × Unit) =>
            bif Nat.ble 24 y_1.fst.length then
              bif cutOk 0 y 24 then
                bif (0 + (y.toNat - 0)).ble y_1.fst.length then some (List.take (y.toNat - 0) (List.drop 0 y_1.fst))
                else none
              else none
            else none
        else none
  else none
theorem E_internal_strconv_FormatUint (N : Nat) : runG Tryd.prog [e_internal_strconv_small N, e_internal_strconv_numDigits N, e_internal_strconv_formatBase10 N, e_internal_strconv_formatBits N] [5] N Tryd.f40 .lf [(.int .u64), (.int .i64), (.tab (.int .u64))] [.str] 2 [0] = F_internal_strconv_FormatUint N := by kernel_rfl
noncomputable def e_internal_strconv_FormatUint (N : Nat) : Ent Tryd.prog := mkFnG 40 Tryd.f40 .lf [(.int .u64), (.int .i64), (.tab (.int .u64))] [.str] 2 [0] (F_internal_strconv_FormatUint N) mixed Tryd.func40 (.mk' Tryd.func40 rfl (by decide)) rfl (E_internal_strconv_FormatUint N)
/-- strconv.FormatUint -/
noncomputable def F_strconv_FormatUint (N : Nat) : Fun [(.int .u64), (.int .i64), (.tab (.int .u64))] (Option (ResT [.str])) :=
  fun (x x_1 : Int) (x_2 : List Int) =>
  Option.bind (F_internal_strconv_FormatUint N x x_1 x_2) fun (y : List UInt8) => some y
theorem E_strconv_FormatUint (N : Nat) : runG Tryd.prog [e_internal_strconv_FormatUint N] [] N Tryd.f30 .lf [(.int .u64), (.int .i64), (.tab (.int .u64))] [.str] 2 [0] = F_strconv_FormatUint N := by kernel_rfl
noncomputable def e_strconv_FormatUint (N : Nat) : Ent Tryd.prog := mkFnG 30 Tryd.f30 .lf [(.int .u64), (.int .i64), (.tab (.int .u64))] [.str] 2 [0] (F_strconv_FormatUint N) mixed Tryd.func30 (.mk' Tryd.func30 rfl (by decide)) rfl (E_strconv_FormatUint N)
/-- epitaph/dot.Text -/
noncomputable def F_dot_Text (N : Nat) : Fun [tDot, (.tab (.int .u64))] (Option (ResT [.str])) :=
  fun (x : Int × Int) (x_1 : List Int) =>
  Option.bind (F_strconv_FormatUint N (IntKind.u64.wrap x.fst) 10 x_1) fun (y : List UInt8) =>
    bif decide (y.length + 1 ≤ 4611686018427387904) then
      Option.bind (F_strconv_FormatUint N x.snd 10 x_1) fun (y_1 : List UInt8) =>
        bif decide ((y ++ [46]).length + y_1.length ≤ 4611686018427387904) then some (y ++ [46] ++ y_1) else none
    else none
theorem E_dot_Text (N : Nat) : runG Tryd.prog [e_strconv_FormatUint N] [] N Tryd.f14 .lf [tDot, (.tab (.int .u64))] [.str] 1 [0] = F_dot_Text N := by kernel_rfl
noncomputable def e_dot_Text (N : Nat) : Ent Tryd.prog := mkFnG 14 Tryd.f14 .lf [tDot, (.tab (.int .u64))] [.str] 1 [0] (F_dot_Text N) mixed Tryd.func14 (.mk' Tryd.func14 rfl (by decide)) rfl (E_dot_Text N)
/-- epitaph/epitaphref07.Decimal, one call -/
noncomputable def R_epitaphref07_Decimal (N : Nat) : (Fun [(.int .u64)] (Option (ResT [.str]))) → Fun [(.int .u64)] (Option (ResT [.str])) :=
  fun (G : (Ty.int IntKind.u64).T → Option (List UInt8)) (x : Int) =>
  bif decide (x < 10) then some [toU8 (IntKind.u8.wrap (IntKind.u64.wrap (48 + x.tmod 10)))]
  else
    (G (IntKind.u64.wrap (x.tdiv 10))).bind fun (y : List UInt8) =>
      bif
          decide
            (y.length + [toU8 (IntKind.u8.wrap (IntKind.u64.wrap (48 + x.tmod 10)))].length ≤ 4611686018427387904) then
        some (y ++ [toU8 (IntKind.u8.wrap (IntKind.u64.wrap (48 + x.tmod 10)))])
      else none
theorem ER_epitaphref07_Decimal (N : Nat) (G : Fun [(.int .u64)] (Option (ResT [.str]))) (hG : SoundF Tryd.prog 31 [.str] [(.int .u64)] G []) : runF Tryd.prog [(mkEnt 31 [(.int .u64)] [.str] G (.mk' Tryd.func31 rfl (by decide)) hG)] [] N Tryd.f31 .lf [(.int .u64)] [.str] = R_epitaphref07_Decimal N G := by kernel_rfl
noncomputable def F_epitaphref07_Decimal (N : Nat) : Fun [(.int .u64)] (Option (ResT [.str])) := recF (args := [(.int .u64)]) (res := [.str]) (R_epitaphref07_Decimal N) N
theorem S_epitaphref07_Decimal (N : Nat) : SoundF Tryd.prog 31 [.str] [(.int .u64)] (F_epitaphref07_Decimal N) [] := recF_sound (fun G hG => ER_epitaphref07_Decimal N G hG ▸ runF_sound mixed Tryd.func31 rfl) N
noncomputable def e_epitaphref07_Decimal (N : Nat) : Ent Tryd.prog := mkEnt 31 [(.int .u64)] [.str] (F_epitaphref07_Decimal N) (.mk' Tryd.func31 rfl (by decide)) (S_epitaphref07_Decimal N)
/-- epitaph/epitaphref07.Text -/
noncomputable def F_epitaphref07_Text (N : Nat) : Fun [tDot] (Option (ResT [.str])) :=
  fun (x : Int × Int) =>
  Option.bind (F_epitaphref07_Decimal N (IntKind.u64.wrap x.fst)) fun (y : List UInt8) =>
    bif decide (y.length + 1 ≤ 4611686018427387904) then
      Option.bind (F_epitaphref07_Decimal N x.snd) fun (y_1 : List UInt8) =>
        bif decide ((y ++ [46]).length + y_1.length ≤ 4611686018427387904) then some (y ++ [46] ++ y_1) else none
    else none
theorem E_epitaphref07_Text (N : Nat) : runF Tryd.prog [e_epitaphref07_Decimal N] [] N Tryd.f15 .lf [tDot] [.str] = F_epitaphref07_Text N := by kernel_rfl
noncomputable def e_epitaphref07_Text (N : Nat) : Ent Tryd.prog := mkFn 15 Tryd.f15 .lf [tDot] [.str] (F_epitaphref07_Text N) mixed Tryd.func15 (.mk' Tryd.func15 rfl (by decide)) rfl (E_epitaphref07_Text N)

/-- epitaph/epitaphref07.Same -/
noncomputable def F_epitaphref07_Same (N : Nat) : Fun [(.sl tDot), (.sl tDot)] (Option (ResT [.bool])) :=
  fun (x x_1 : List (Int × Int)) =>
  bif (↑x.length : Int) != (↑x_1.length : Int) then some false
  else
    iter
      (fun (rec : (Int × Unit) × Unit × Unit × Unit → Option Bool) (z : (Int × Unit) × Unit × Unit × Unit) =>
        bif decide (z.fst.fst < (↑x.length : Int)) then
          (at? x z.fst.fst).bind fun (e : Int × Int) =>
            (at? x_1 z.fst.fst).bind fun (e_1 : Int × Int) =>
              bif !(e.fst == e_1.fst && e.snd == e_1.snd) then some false
              else rec ((IntKind.i64.wrap (z.fst.fst + 1), ()), (), (), ())
        else some true)
      N ((0, ()), (), (), ())
theorem E_epitaphref07_Same (N : Nat) : runF Tryd.prog [] [] N Tryd.f18 (.seq .lf (.seq .lf (.seq (.seq .lf (.blk (.loop ⟨[(5, .d (.int .i64))], [], [0, 1], [], [], []⟩ .lf))) .lf))) [(.sl tDot), (.sl tDot)] [.bool] = F_epitaphref07_Same N := by kernel_rfl
noncomputable def e_epitaphref07_Same (N : Nat) : Ent Tryd.prog := mkFn 18 Tryd.f18 (.seq .lf (.seq .lf (.seq (.seq .lf (.blk (.loop ⟨[(5, .d (.int .i64))], [], [0, 1], [], [], []⟩ .lf))) .lf))) [(.sl tDot), (.sl tDot)] [.bool] (F_epitaphref07_Same N) mixed Tryd.func18 (.mk' Tryd.func18 rfl (by decide)) rfl (E_epitaphref07_Same N)
/-- epitaph/epitaphlaw07.works -/
noncomputable def F_epitaphlaw07_works (N : Nat) : Fun [(.tab (.int .u64))] (Option (ResT [.bool])) :=
  fun (x : List Int) =>
  Option.bind (F_dot_Text N (3, 17) x) fun (y : List UInt8) =>
    bif y == [51, 46, 49, 55] then
      Option.bind (F_dot_Sort N [(2, 1), (1, 9), (2, 1)]) fun (y : List (Int × Int)) =>
        Option.bind (F_epitaphref07_Same N y [(1, 9), (2, 1)]) fun (y : Bool) => some y
    else some false
theorem E_epitaphlaw07_works (N : Nat) : runG Tryd.prog [e_dot_Text N, e_dot_Sort N, e_epitaphref07_Same N] [] N Tryd.f16 .lf [(.tab (.int .u64))] [.bool] 0 [0] = F_epitaphlaw07_works N := by kernel_rfl
noncomputable def e_epitaphlaw07_works (N : Nat) : Ent Tryd.prog := mkFnG 16 Tryd.f16 .lf [(.tab (.int .u64))] [.bool] 0 [0] (F_epitaphlaw07_works N) mixed Tryd.func16 (.mk' Tryd.func16 rfl (by decide)) rfl (E_epitaphlaw07_works N)
theorem D_epitaphlaw07_works (N : Nat) : SoundG Tryd.prog 16 [.bool] 0 [0] [(.tab (.int .u64))] (F_epitaphlaw07_works N) [] := E_epitaphlaw07_works N ▸ runG_sound mixed Tryd.func16 rfl
/-- epitaph/shift.Split -/
noncomputable def F_shift_Split (N : Nat) : Fun [(.int .u64)] (Option (ResT [(.int .u16), (.int .u64)])) :=
  fun (x : Int) =>
  some (IntKind.u16.wrap (x.fdiv 281474976710656), bits BinOp.and IntKind.u64 x 281474976710655)
theorem E_shift_Split (N : Nat) : runF Tryd.prog [] [] N Tryd.f25 .lf [(.int .u64)] [(.int .u16), (.int .u64)] = F_shift_Split N := by kernel_rfl
noncomputable def e_shift_Split (N : Nat) : Ent Tryd.prog := mkFn 25 Tryd.f25 .lf [(.int .u64)] [(.int .u16), (.int .u64)] (F_shift_Split N) mixed Tryd.func25 (.mk' Tryd.func25 rfl (by decide)) rfl (E_shift_Split N)
/-- epitaph/dot.Good -/
noncomputable def F_dot_Good (N : Nat) : Fun [tDot] (Option (ResT [.bool])) :=
  fun (x : Int × Int) =>
  bif decide (0 < x.fst) then bif decide (0 < x.snd) then some (decide (x.snd ≤ 281474976710655)) else some false
  else some false
theorem E_dot_Good (N : Nat) : runF Tryd.prog [] [] N Tryd.f8 .lf [tDot] [.bool] = F_dot_Good N := by kernel_rfl
noncomputable def e_dot_Good (N : Nat) : Ent Tryd.prog := mkFn 8 Tryd.f8 .lf [tDot] [.bool] (F_dot_Good N) mixed Tryd.func8 (.mk' Tryd.func8 rfl (by decide)) rfl (E_dot_Good N)
/-- epitaph/dot.Unpack -/
noncomputable def F_dot_Unpack (N : Nat) : Fun [(.int .u64)] (Option (ResT [tDot, .bool])) :=
  fun (x : Int) =>
  Option.bind (F_shift_Split N x) fun (y : Int × Int) =>
    Option.bind (F_dot_Good N y) fun (y_1 : Bool) => bif !y_1 then some ((0, 0), false) else some (y, true)
theorem E_dot_Unpack (N : Nat) : runF Tryd.prog [e_shift_Split N, e_dot_Good N] [] N Tryd.f6 .lf [(.int .u64)] [tDot, .bool] = F_dot_Unpack N := by kernel_rfl
noncomputable def e_dot_Unpack (N : Nat) : Ent Tryd.prog := mkFn 6 Tryd.f6 .lf [(.int .u64)] [tDot, .bool] (F_dot_Unpack N) mixed Tryd.func6 (.mk' Tryd.func6 rfl (by decide)) rfl (E_dot_Unpack N)
/-- epitaph/epitaphref01.Split -/
noncomputable def F_epitaphref01_Split (N : Nat) : Fun [(.int .u64)] (Option (ResT [(.int .u16), (.int .u64)])) :=
  fun (x : Int) => some (IntKind.u16.wrap (IntKind.u64.wrap (x.tdiv 281474976710656)), x.tmod 281474976710656)
theorem E_epitaphref01_Split (N : Nat) : runF Tryd.prog [] [] N Tryd.f26 .lf [(.int .u64)] [(.int .u16), (.int .u64)] = F_epitaphref01_Split N := by kernel_rfl
noncomputable def e_epitaphref01_Split (N : Nat) : Ent Tryd.prog := mkFn 26 Tryd.f26 .lf [(.int .u64)] [(.int .u16), (.int .u64)] (F_epitaphref01_Split N) mixed Tryd.func26 (.mk' Tryd.func26 rfl (by decide)) rfl (E_epitaphref01_Split N)
/-- epitaph/epitaphref07.Good -/
noncomputable def F_epitaphref07_Good (N : Nat) : Fun [tDot] (Option (ResT [.bool])) :=
  fun (x : Int × Int) =>
  bif decide (1 ≤ x.fst) then bif decide (1 ≤ x.snd) then some (decide (x.snd < 281474976710656)) else some false
  else some false
theorem E_epitaphref07_Good (N : Nat) : runF Tryd.prog [] [] N Tryd.f9 .lf [tDot] [.bool] = F_epitaphref07_Good N := by kernel_rfl
noncomputable def e_epitaphref07_Good (N : Nat) : Ent Tryd.prog := mkFn 9 Tryd.f9 .lf [tDot] [.bool] (F_epitaphref07_Good N) mixed Tryd.func9 (.mk' Tryd.func9 rfl (by decide)) rfl (E_epitaphref07_Good N)
/-- epitaph/epitaphref07.Unpack -/
noncomputable def F_epitaphref07_Unpack (N : Nat) : Fun [(.int .u64)] (Option (ResT [tDot, .bool])) :=
  fun (x : Int) =>
  Option.bind (F_epitaphref01_Split N x) fun (y : Int × Int) =>
    Option.bind (F_epitaphref07_Good N y) fun (y_1 : Bool) => bif !y_1 then some ((0, 0), false) else some (y, true)
theorem E_epitaphref07_Unpack (N : Nat) : runF Tryd.prog [e_epitaphref01_Split N, e_epitaphref07_Good N] [] N Tryd.f7 .lf [(.int .u64)] [tDot, .bool] = F_epitaphref07_Unpack N := by kernel_rfl
noncomputable def e_epitaphref07_Unpack (N : Nat) : Ent Tryd.prog := mkFn 7 Tryd.f7 .lf [(.int .u64)] [tDot, .bool] (F_epitaphref07_Unpack N) mixed Tryd.func7 (.mk' Tryd.func7 rfl (by decide)) rfl (E_epitaphref07_Unpack N)
/-- epitaph/epitaphlaw07.DotTells -/
noncomputable def F_epitaphlaw07_DotTells (N : Nat) : Fun [tDot, tDot, (.int .u64), (.tab (.int .u64))] (Option (ResT [.bool])) :=
  fun (x x_1 : Int × Int) (x_2 : Int) (x_3 : List Int) =>
  Option.bind (F_dot_Unpack N x_2) fun (y : (Int × Int) × Bool) =>
    Option.bind (F_epitaphref07_Unpack N x_2) fun (y_1 : (Int × Int) × Bool) =>
      Option.bind (F_dot_Good N x) fun (y_2 : Bool) =>
        Option.bind (F_epitaphref07_Good N x) fun (y_3 : Bool) =>
          bif y_2 == y_3 then
            Option.bind (F_dot_Cmp N x x_1) fun (y_4 : Int) =>
              Option.bind (F_epitaphref07_Cmp N x x_1) fun (y_5 : Int) =>
                bif y_4 == y_5 then
                  Option.bind (F_dot_Pack N x) fun (y_6 : Int) =>
                    Option.bind (F_epitaphref01_Pack N x.fst x.snd) fun (y_7 : Int) =>
                      bif y_6 == y_7 then
                        bif y.fst.fst == y_1.fst.fst && y.fst.snd == y_1.fst.snd then
                          bif y.snd == y_1.snd then
                            Option.bind (F_dot_Text N x x_3) fun (y : List UInt8) =>
                              Option.bind (F_epitaphref07_Text N x) fun (y_8 : List UInt8) =>
                                bif y == y_8 then Option.bind (F_epitaphlaw07_works N x_3) fun (y : Bool) => some y
                                else some false
                          else some false
                        else some false
                      else some false
                else some false
          else some false
theorem E_epitaphlaw07_DotTells (N : Nat) : runG Tryd.prog [e_dot_Cmp N, e_epitaphref07_Cmp N, e_dot_Pack N, e_epitaphref01_Pack N, e_dot_Text N, e_epitaphref07_Text N, e_epitaphlaw07_works N, e_dot_Unpack N, e_epitaphref07_Unpack N, e_dot_Good N, e_epitaphref07_Good N] [] N Tryd.f3 .lf [tDot, tDot, (.int .u64), (.tab (.int .u64))] [.bool] 3 [0] = F_epitaphlaw07_DotTells N := by kernel_rfl
noncomputable def e_epitaphlaw07_DotTells (N : Nat) : Ent Tryd.prog := mkFnG 3 Tryd.f3 .lf [tDot, tDot, (.int .u64), (.tab (.int .u64))] [.bool] 3 [0] (F_epitaphlaw07_DotTells N) mixed Tryd.func3 (.mk' Tryd.func3 rfl (by decide)) rfl (E_epitaphlaw07_DotTells N)
theorem D_epitaphlaw07_DotTells (N : Nat) : SoundG Tryd.prog 3 [.bool] 3 [0] [tDot, tDot, (.int .u64), (.tab (.int .u64))] (F_epitaphlaw07_DotTells N) [] := E_epitaphlaw07_DotTells N ▸ runG_sound mixed Tryd.func3 rfl
end Go.Proofs.Xt
/-
  Numbers as text: strconv.FormatUint at base 10.
-/
set_option linter.unusedVariables false
set_option linter.unusedSimpArgs false
set_option maxRecDepth 100000
namespace Go.Proofs.Xt
open Go Go.Xl Go.Ab Go.Proofs Go.Proofs.Xh

def dg (k : Nat) : UInt8 := UInt8.ofNat (48 + k % 10)
/-- w digits -/
def pad : Nat → Nat → List UInt8
  | 0, _ => []
  | w + 1, x => pad w (x / 10) ++ [dg x]

theorem pad_split (a : Nat) : ∀ (b x : Nat), pad (a + b) x = pad a (x / 10 ^ b) ++ pad b x
  | 0, x => by simp [pad]
  | b + 1, x => by
    rw [← Nat.add_assoc, pad, pad_split a b, pad, Nat.div_div_eq_div_mul, Nat.pow_succ, Nat.mul_comm 10, List.append_assoc]

theorem set_drop {α : Type} {m : List α} {i j : Nat} {c : α} {t : List α} (h : j + 1 = i) (hj : j < m.length) (hd : m.drop i = t) : (m.set j c).drop j = c :: t := by
  subst hd; subst h
  rw [List.drop_eq_getElem_cons (by simpa using hj)]
  simp [List.drop_set]

theorem tm100 (a : Nat) : ((a : Nat) : Int).tmod 100 = ((a % 100 : Nat) : Int) := rfl
theorem tm4 (a : Nat) : ((a : Nat) : Int).tmod 10000 = ((a % 10000 : Nat) : Int) := rfl
theorem tm8 (a : Nat) : ((a : Nat) : Int).tmod 100000000 = ((a % 100000000 : Nat) : Int) := rfl
theorem td100 (a : Nat) : ((a : Nat) : Int).tdiv 100 = ((a / 100 : Nat) : Int) := rfl
theorem td4 (a : Nat) : ((a : Nat) : Int).tdiv 10000 = ((a / 10000 : Nat) : Int) := rfl
theorem td8 (a : Nat) : ((a : Nat) : Int).tdiv 100000000 = ((a / 100000000 : Nat) : Int) := rfl
theorem u32n {a : Nat} (h : a < 4294967296) : IntKind.u32.wrap (a : Int) = (a : Int) := IntWalk.u32_in _ (by omega)
theorem u32m {a : Nat} (h : a < 100) : IntKind.u32.wrap ((a : Int) * 2) = ((a * 2 : Nat) : Int) := by rw [IntWalk.u32_in _ (by omega)]; omega
theorem u32p {a : Nat} (h : a < 200) : IntKind.u32.wrap ((a : Int) + 1) = ((a + 1 : Nat) : Int) := by rw [IntWalk.u32_in _ (by omega)]; omega
theorem u64n {a : Nat} (h : a < 18446744073709551616) : IntKind.u64.wrap (a : Int) = (a : Int) := IntWalk.u64_in _ (by omega)
theorem i64s {i k : Nat} (h : k ≤ i) (h' : i < 9223372036854775808) : IntKind.i64.wrap ((i : Int) - (k : Int)) = ((i - k : Nat) : Int) := by rw [IntWalk.i64_in _ (by omega)]; omega

/-- the table of two digits -/
abbrev SM : List UInt8 := [48, 48, 48, 49, 48, 50, 48, 51, 48, 52, 48, 53, 48, 54, 48, 55, 48, 56, 48, 57, 49, 48, 49, 49, 49, 50, 49, 51, 49, 52, 49, 53, 49, 54, 49, 55, 49, 56, 49, 57, 50, 48, 50, 49, 50, 50, 50, 51, 50, 52, 50, 53, 50, 54, 50, 55, 50, 56, 50, 57, 51, 48, 51, 49, 51, 50, 51, 51, 51, 52, 51, 53, 51, 54, 51, 55, 51, 56, 51, 57, 52, 48, 52, 49, 52, 50, 52, 51, 52, 52, 52, 53, 52, 54, 52, 55, 52, 56, 52, 57, 53, 48, 53, 49, 53, 50, 53, 51, 53, 52, 53, 53, 53, 54, 53, 55, 53, 56, 53, 57, 54, 48, 54, 49, 54, 50, 54, 51, 54, 52, 54, 53, 54, 54, 54, 55, 54, 56, 54, 57, 55, 48, 55, 49, 55, 50, 55, 51, 55, 52, 55, 53, 55, 54, 55, 55, 55, 56, 55, 57, 56, 48, 56, 49, 56, 50, 56, 51, 56, 52, 56, 53, 56, 54, 56, 55, 56, 56, 56, 57, 57, 48, 57, 49, 57, 50, 57, 51, 57, 52, 57, 53, 57, 54, 57, 55, 57, 56, 57, 57]

theorem sm_all : ∀ k < 100, SM[k * 2]? = some (dg (k / 10)) ∧ SM[k * 2 + 1]? = some (dg k) := by decide +kernel
theorem sm0 {k : Nat} (h : k < 100) : at? SM ((k * 2 : Nat) : Int) = some (dg (k / 10)) := (sm_all k h).1
theorem sm1 {k : Nat} (h : k < 100) : at? SM ((k * 2 + 1 : Nat) : Int) = some (dg k) := (sm_all k h).2
theorem smA {k : Nat} (h : k < 100) : at? SM (IntKind.u32.wrap (IntKind.u32.wrap ((k : Int) * 2) + 1)) = some (dg k) := by rw [u32m h, u32p (by omega)]; exact sm1 h
theorem smB {k : Nat} (h : k < 100) : at? SM (IntKind.u32.wrap ((k : Int) * 2)) = some (dg (k / 10)) := by rw [u32m h]; exact sm0 h

theorem dg_eq {a b : Nat} (h : a % 10 = b % 10) : dg a = dg b := by unfold dg; rw [h]

/-- one store -/
theorem put1 {R : Type} {m : List UInt8} {i n : Nat} {v : Int} {K : UInt8 → Option R} (hv : v = (i : Int)) (h : i < n) (hm : n ≤ m.length) :
    (bif decide (0 ≤ v) && decide (v < (n : Int)) then (m[0 + v.toNat]?).bind K else none) = K m[i] := by
  subst hv
  have h1 : (decide (0 ≤ (i : Int)) && decide ((i : Int) < (n : Int))) = true := by simp; omega
  rw [h1, cond_true, Int.toNat_natCast, Nat.zero_add, List.getElem?_eq_getElem (by omega)]
  rfl
/-- one store, in plain numbers -/
theorem put2 {R : Type} {m : List UInt8} {i n : Nat} {K : UInt8 → Option R} (h : i < n) (hm : n ≤ m.length) :
    (bif decide (0 ≤ (i : Int)) && decide ((i : Int) < (n : Int)) then (m[i]?).bind K else none) = K (m[i]'(by omega)) := by
  have h1 : (decide (0 ≤ (i : Int)) && decide ((i : Int) < (n : Int))) = true := by simp; omega
  rw [h1, cond_true, List.getElem?_eq_getElem (by omega)]
  rfl

/-- so far -/
def Inv (l : List UInt8) (n x i u : Nat) (m : List UInt8) : Prop :=
  i ≤ n ∧ m.length = l.length ∧ (m.drop i).take (n - i) = pad (n - i) x ∧ x / 10 ^ (n - i) = u ∧ u < 10 ^ i

theorem Inv.one {l m : List UInt8} {n x i u : Nat} (h : Inv l n x i u m) (hl : n ≤ l.length) (h1 : 1 ≤ i) : Inv l n x (i - 1) (u / 10) (m.set (i - 1) (dg u)) := by
  obtain ⟨h1', h2, h3, h4, h5⟩ := h
  refine ⟨by omega, by simp only [List.length_set]; exact h2, ?_, ?_, ?_⟩
  · rw [set_drop (m := m) (i := i) (j := i - 1) (c := dg u) (by omega) (by omega) rfl, show n - (i - 1) = (n - i) + 1 by omega, Nat.add_comm (n - i) 1, pad_split 1, h4, Nat.add_comm 1]
    simp only [List.take_succ_cons, h3, pad, List.nil_append, List.cons_append]
  · rw [show n - (i - 1) = (n - i) + 1 by omega, Nat.pow_succ, ← Nat.div_div_eq_div_mul, h4]
  · have : 10 ^ i = 10 * 10 ^ (i - 1) := by
      conv => lhs; rw [show i = (i - 1) + 1 by omega, Nat.pow_succ, Nat.mul_comm]
    exact Nat.div_lt_of_lt_mul (by omega)

theorem Inv.two {l m : List UInt8} {n x i u : Nat} (h : Inv l n x i u m) (hl : n ≤ l.length) (h2 : 2 ≤ i) : Inv l n x (i - 2) (u / 100) ((m.set (i - 1) (dg (u % 100))).set (i - 2) (dg (u % 100 / 10))) := by
  have := (h.one hl (by omega)).one hl (by omega)
  rw [Nat.div_div_eq_div_mul, Nat.sub_sub] at this
  rw [dg_eq (a := u % 100) (b := u) (by omega), dg_eq (a := u % 100 / 10) (b := u / 10) (by omega)]
  exact this

theorem Inv.four {l m : List UInt8} {n x i u : Nat} (h : Inv l n x i u m) (hl : n ≤ l.length) (h4 : 4 ≤ i) :
    Inv l n x (i - 4) (u / 10000) ((((m.set (i - 1) (dg (u % 10000 % 100))).set (i - 2) (dg (u % 10000 % 100 / 10))).set (i - 3) (dg (u % 10000 / 100))).set (i - 4) (dg (u % 10000 / 100 / 10))) := by
  have := (h.two hl (by omega)).two hl (by omega)
  rw [Nat.div_div_eq_div_mul, Nat.sub_sub, Nat.sub_sub] at this
  rw [dg_eq (a := u % 10000 % 100) (b := u % 100) (by omega), dg_eq (a := u % 10000 % 100 / 10) (b := u % 100 / 10) (by omega), dg_eq (a := u % 10000 / 100) (b := u / 100 % 100) (by omega), dg_eq (a := u % 10000 / 100 / 10) (b := u / 100 % 100 / 10) (by omega)]
  exact this

/-- the last digit -/
def T3 (n : Nat) (i v : Int) (m : List UInt8) : Option (List UInt8 × Unit) :=
  bif decide (0 < i) then
    bif decide (0 < (n : Int)) then m[0]?.bind fun (e : UInt8) => some (m.set 0 (toU8 (IntKind.u8.wrap (IntKind.u32.wrap (48 + v)))), ())
    else none
  else some (m, ())

/-- two digits -/
def T2 (n : Nat) (i v : Int) (m : List UInt8) : Option (List UInt8 × Unit) :=
  bif decide (2 ≤ i) then
    (at? SM (IntKind.u32.wrap (IntKind.u32.wrap (v.tmod 100 * 2) + 1))).bind fun (c : UInt8) =>
      (at? SM (IntKind.u32.wrap (v.tmod 100 * 2))).bind fun (c_1 : UInt8) =>
        bif decide (0 ≤ IntKind.i64.wrap (i - 1)) && decide (IntKind.i64.wrap (i - 1) < (n : Int)) then
          m[0 + (IntKind.i64.wrap (i - 1)).toNat]?.bind fun (e : UInt8) =>
            bif decide (0 ≤ IntKind.i64.wrap (i - 2)) && decide (IntKind.i64.wrap (i - 2) < (n : Int)) then
              (m.set (0 + (IntKind.i64.wrap (i - 1)).toNat) c)[0 + (IntKind.i64.wrap (i - 2)).toNat]?.bind fun (e : UInt8) =>
                T3 n (IntKind.i64.wrap (i - 2)) (IntKind.u32.wrap (v.tdiv 100)) ((m.set (0 + (IntKind.i64.wrap (i - 1)).toNat) c).set (0 + (IntKind.i64.wrap (i - 2)).toNat) c_1)
            else none
        else none
  else T3 n i v m

/-- four digits -/
def T1 (n : Nat) (i v : Int) (m : List UInt8) : Option (List UInt8 × Unit) :=
  bif decide (4 ≤ i) then
    (at? SM (IntKind.u32.wrap (IntKind.u32.wrap (((IntKind.u32.wrap v).tmod 10000).tmod 100 * 2) + 1))).bind fun (c : UInt8) =>
      (at? SM (IntKind.u32.wrap (((IntKind.u32.wrap v).tmod 10000).tmod 100 * 2))).bind fun (c_1 : UInt8) =>
        bif decide (0 ≤ IntKind.i64.wrap (i - 1)) && decide (IntKind.i64.wrap (i - 1) < (n : Int)) then
          m[0 + (IntKind.i64.wrap (i - 1)).toNat]?.bind fun (e : UInt8) =>
            bif decide (0 ≤ IntKind.i64.wrap (i - 2)) && decide (IntKind.i64.wrap (i - 2) < (n : Int)) then
              (m.set (0 + (IntKind.i64.wrap (i - 1)).toNat) c)[0 + (IntKind.i64.wrap (i - 2)).toNat]?.bind fun (e : UInt8) =>
                (at? SM (IntKind.u32.wrap (IntKind.u32.wrap (IntKind.u32.wrap (((IntKind.u32.wrap v).tmod 10000).tdiv 100) * 2) + 1))).bind fun (c_2 : UInt8) =>
                  (at? SM (IntKind.u32.wrap (IntKind.u32.wrap (((IntKind.u32.wrap v).tmod 10000).tdiv 100) * 2))).bind fun (c_3 : UInt8) =>
                    bif decide (0 ≤ IntKind.i64.wrap (i - 3)) && decide (IntKind.i64.wrap (i - 3) < (n : Int)) then
                      ((m.set (0 + (IntKind.i64.wrap (i - 1)).toNat) c).set (0 + (IntKind.i64.wrap (i - 2)).toNat) c_1)[0 + (IntKind.i64.wrap (i - 3)).toNat]?.bind fun (e : UInt8) =>
                        bif decide (0 ≤ IntKind.i64.wrap (i - 4)) && decide (IntKind.i64.wrap (i - 4) < (n : Int)) then
                          (((m.set (0 + (IntKind.i64.wrap (i - 1)).toNat) c).set (0 + (IntKind.i64.wrap (i - 2)).toNat) c_1).set (0 + (IntKind.i64.wrap (i - 3)).toNat) c_2)[0 + (IntKind.i64.wrap (i - 4)).toNat]?.bind fun (e : UInt8) =>
                            T2 n (IntKind.i64.wrap (i - 4)) (IntKind.u32.wrap ((IntKind.u32.wrap v).tdiv 10000)) ((((m.set (0 + (IntKind.i64.wrap (i - 1)).toNat) c).set (0 + (IntKind.i64.wrap (i - 2)).toNat) c_1).set (0 + (IntKind.i64.wrap (i - 3)).toNat) c_2).set (0 + (IntKind.i64.wrap (i - 4)).toNat) c_3)
                        else none
                    else none
            else none
        else none
  else T2 n i (IntKind.u32.wrap v) m

section
variable {l m : List UInt8} {n x i v : Nat}
theorem T3_ok (hi : i ≤ 1) (hl : n ≤ l.length) (h : Inv l n x i v m) : ∃ r : List UInt8 × Unit, T3 n i v m = some r ∧ (r.1.length = l.length ∧ r.1.take n = pad n x) := by
  unfold T3
  by_cases h0 : i = 0
  · subst h0
    obtain ⟨h1', h2, h3, h4, h5⟩ := h
    exact ⟨(m, ()), rfl, h2, by simpa using h3⟩
  · have : i = 1 := by omega
    subst this
    have h' := h.one hl (Nat.le_refl 1)
    obtain ⟨h1', h2, h3, h4, h5⟩ := h
    have hn : decide (0 < (n : Int)) = true := by simp; omega
    have h01 : decide (0 < ((1 : Nat) : Int)) = true := rfl
    have hv : v < 10 := by simpa using h5
    have hc : toU8 (IntKind.u8.wrap (IntKind.u32.wrap (48 + (v : Int)))) = dg v := by
      have : ∀ v < 10, toU8 (IntKind.u8.wrap (IntKind.u32.wrap (48 + ((v : Nat) : Int)))) = dg v := by decide +kernel
      exact this v hv
    obtain ⟨g1, g2, g3, g4, g5⟩ := h'
    refine ⟨(m.set 0 (dg v), ()), ?_, g2, by simpa using g3⟩
    rw [h01, hn, hc, List.getElem?_eq_getElem (by omega)]
    rfl

theorem T2_ok (hi : i ≤ 3) (hl : n ≤ l.length) (hl2 : l.length < 1000000) (hv : v < 100000000) (h : Inv l n x i v m) : ∃ r : List UInt8 × Unit, T2 n i v m = some r ∧ (r.1.length = l.length ∧ r.1.take n = pad n x) := by
  unfold T2
  have hin := h.1
  have hm := h.2.1
  by_cases h2 : 2 ≤ i
  · have e : decide ((2 : Int) ≤ (i : Int)) = true := by simp; omega
    have s1 : IntKind.i64.wrap ((i : Int) - 1) = ((i - 1 : Nat) : Int) := i64s (k := 1) (by omega) (by omega)
    have s2 : IntKind.i64.wrap ((i : Int) - 2) = ((i - 2 : Nat) : Int) := i64s (k := 2) (by omega) (by omega)
    have r2 : IntKind.u32.wrap ((v : Int).tdiv 100) = ((v / 100 : Nat) : Int) := by rw [td100, u32n (by omega)]
    have h1 : v % 100 < 100 := by omega
    simp only [e, cond_true, s1, s2, r2, tm100, Int.toNat_natCast, Nat.zero_add]
    rw [smA h1, Option.bind_some, smB h1, Option.bind_some, put2 (by omega) (by omega), put2 (by omega) (by simp only [List.length_set]; omega)]
    exact T3_ok (by omega) hl (h.two hl h2)
  · have e : decide ((2 : Int) ≤ (i : Int)) = false := by simp; omega
    simp only [e, cond_false]
    exact T3_ok (by omega) hl h

theorem T1_ok (hi : i ≤ 7) (hl : n ≤ l.length) (hl2 : l.length < 1000000) (hv : v < 100000000) (h : Inv l n x i v m) : ∃ r : List UInt8 × Unit, T1 n i v m = some r ∧ (r.1.length = l.length ∧ r.1.take n = pad n x) := by
  unfold T1
  have hin := h.1
  have hm := h.2.1
  by_cases h4 : 4 ≤ i
  · have e : decide ((4 : Int) ≤ (i : Int)) = true := by simp; omega
    have s1 : IntKind.i64.wrap ((i : Int) - 1) = ((i - 1 : Nat) : Int) := i64s (k := 1) (by omega) (by omega)
    have s2 : IntKind.i64.wrap ((i : Int) - 2) = ((i - 2 : Nat) : Int) := i64s (k := 2) (by omega) (by omega)
    have s3 : IntKind.i64.wrap ((i : Int) - 3) = ((i - 3 : Nat) : Int) := i64s (k := 3) (by omega) (by omega)
    have s4 : IntKind.i64.wrap ((i : Int) - 4) = ((i - 4 : Nat) : Int) := i64s (k := 4) (by omega) (by omega)
    have r1 : ((IntKind.u32.wrap (v : Int)).tmod 10000).tmod 100 = ((v % 10000 % 100 : Nat) : Int) := by rw [u32n (by omega), tm4, tm100]
    have r2 : IntKind.u32.wrap (((IntKind.u32.wrap (v : Int)).tmod 10000).tdiv 100) = ((v % 10000 / 100 : Nat) : Int) := by rw [u32n (by omega), tm4, td100, u32n (by omega)]
    have r3 : IntKind.u32.wrap ((IntKind.u32.wrap (v : Int)).tdiv 10000) = ((v / 10000 : Nat) : Int) := by rw [u32n (by omega), td4, u32n (by omega)]
    have h1 : v % 10000 % 100 < 100 := by omega
    have h2 : v % 10000 / 100 < 100 := by omega
    simp only [e, cond_true, s1, s2, s3, s4, r1, r2, r3, Int.toNat_natCast, Nat.zero_add]
    rw [smA h1, Option.bind_some, smB h1, Option.bind_some, put2 (by omega) (by omega), put2 (by omega) (by simp only [List.length_set]; omega), smA h2, Option.bind_some, smB h2, Option.bind_some,
      put2 (by omega) (by simp only [List.length_set]; omega), put2 (by omega) (by simp only [List.length_set]; omega)]
    exact T2_ok (by omega) hl hl2 (by omega) (h.four hl h4)
  · have e : decide ((4 : Int) ≤ (i : Int)) = false := by simp; omega
    simp only [e, cond_false, u32n (show v < 4294967296 by omega)]
    exact T2_ok (by omega) hl hl2 hv h
end

theorem fb10 (N : Nat) (l : List UInt8) (n x : Nat) (hl : n ≤ l.length) (hl2 : l.length < 1000000) (hx : x < 10 ^ n) (hx2 : x < 18446744073709551616) (hN : n < N) :
    ∃ r : List UInt8 × Unit, F_internal_strconv_formatBase10 N l n (x : Int) = some r ∧ (r.1.length = l.length ∧ r.1.take n = pad n x) := by
  unfold F_internal_strconv_formatBase10
  refine iter_ok (Q := fun r : List UInt8 × Unit => r.1.length = l.length ∧ r.1.take n = pad n x) (fun k z => ∃ (i : Nat) (m : List UInt8), z = ((((x / 10 ^ (n - i) : Nat) : Int), (i : Int), ()), (), (), m, ()) ∧ i ≤ n ∧ k = i ∧ m.length = l.length ∧ (m.drop i).take (n - i) = pad (n - i) x) ?_ N n _ ⟨n, l, ?_, Nat.le_refl _, rfl, rfl, ?_⟩ hN
  · rintro k z rec ⟨i, m, rfl, hi, rfl, hm, hd⟩ ih
    have hu0 : x / 10 ^ (n - k) ≤ x := Nat.div_le_self _ _
    generalize hu : x / 10 ^ (n - k) = u at hu0
    by_cases h8 : 8 ≤ k
    · have e8 : decide ((8 : Int) ≤ (k : Int)) = true := by simp; omega
      have s1 : IntKind.i64.wrap ((k : Int) - 1) = ((k - 1 : Nat) : Int) := i64s (k := 1) (by omega) (by omega)
      have s2 : IntKind.i64.wrap ((k : Int) - 2) = ((k - 2 : Nat) : Int) := i64s (k := 2) (by omega) (by omega)
      have s3 : IntKind.i64.wrap ((k : Int) - 3) = ((k - 3 : Nat) : Int) := i64s (k := 3) (by omega) (by omega)
      have s4 : IntKind.i64.wrap ((k : Int) - 4) = ((k - 4 : Nat) : Int) := i64s (k := 4) (by omega) (by omega)
      have s5 : IntKind.i64.wrap ((k : Int) - 5) = ((k - 5 : Nat) : Int) := i64s (k := 5) (by omega) (by omega)
      have s6 : IntKind.i64.wrap ((k : Int) - 6) = ((k - 6 : Nat) : Int) := i64s (k := 6) (by omega) (by omega)
      have s7 : IntKind.i64.wrap ((k : Int) - 7) = ((k - 7 : Nat) : Int) := i64s (k := 7) (by omega) (by omega)
      have s8 : IntKind.i64.wrap ((k : Int) - 8) = ((k - 8 : Nat) : Int) := i64s (k := 8) (by omega) (by omega)
      have r1 : (((IntKind.u32.wrap ((u : Int).tmod 100000000)).tmod 10000).tmod 100) = ((u % 100000000 % 10000 % 100 : Nat) : Int) := by rw [tm8, u32n (by omega), tm4, tm100]
      have r2 : IntKind.u32.wrap (((IntKind.u32.wrap ((u : Int).tmod 100000000)).tmod 10000).tdiv 100) = ((u % 100000000 % 10000 / 100 : Nat) : Int) := by rw [tm8, u32n (by omega), tm4, td100, u32n (by omega)]
      have r3 : (IntKind.u32.wrap ((IntKind.u32.wrap ((u : Int).tmod 100000000)).tdiv 10000)).tmod 100 = ((u % 100000000 / 10000 % 100 : Nat) : Int) := by rw [tm8, u32n (by omega), td4, u32n (by omega), tm100]
      have r4 : IntKind.u32.wrap ((IntKind.u32.wrap ((IntKind.u32.wrap ((u : Int).tmod 100000000)).tdiv 10000)).tdiv 100) = ((u % 100000000 / 10000 / 100 : Nat) : Int) := by rw [tm8, u32n (by omega), td4, u32n (by omega), td100, u32n (by omega)]
      have r5 : IntKind.u64.wrap ((u : Int).tdiv 100000000) = ((u / 100000000 : Nat) : Int) := by rw [td8, u64n (by omega)]
      have h1 : u % 100000000 % 10000 % 100 < 100 := by omega
      have h2 : u % 100000000 % 10000 / 100 < 100 := by omega
      have h3 : u % 100000000 / 10000 % 100 < 100 := by omega
      have h4 : u % 100000000 / 10000 / 100 < 100 := by omega
      simp only [e8, cond_true, s1, s2, s3, s4, s5, s6, s7, s8, r1, r2, r3, r4, r5, Int.toNat_natCast, Nat.zero_add]
      rw [smA h1, Option.bind_some, smB h1, Option.bind_some, put2 (by omega) (by omega), put2 (by omega) (by simp only [List.length_set]; omega), smA h2, Option.bind_some, smB h2, Option.bind_some,
        put2 (by omega) (by simp only [List.length_set]; omega), put2 (by omega) (by simp only [List.length_set]; omega), smA h3, Option.bind_some, smB h3, Option.bind_some,
        put2 (by omega) (by simp only [List.length_set]; omega), put2 (by omega) (by simp only [List.length_set]; omega), smA h4, Option.bind_some, smB h4, Option.bind_some,
        put2 (by omega) (by simp only [List.length_set]; omega), put2 (by omega) (by simp only [List.length_set]; omega)]
      have hq : x / 10 ^ (n - (k - 8)) = u / 100000000 := by
        rw [show n - (k - 8) = (n - k) + 8 by omega, Nat.pow_add, ← Nat.div_div_eq_div_mul, hu]
      refine ih (k - 8) _ (by omega) ⟨k - 8, _, by rw [hq], by omega, rfl, ?_, ?_⟩
      · simp only [List.length_set]; exact hm
      · have d1 := set_drop (m := m) (i := k) (j := k - 1) (c := dg (u % 100000000 % 10000 % 100)) (by omega) (by omega) rfl
        have d2 := set_drop (i := k - 1) (j := k - 2) (c := dg (u % 100000000 % 10000 % 100 / 10)) (by omega) (by simp only [List.length_set]; omega) d1
        have d3 := set_drop (i := k - 2) (j := k - 3) (c := dg (u % 100000000 % 10000 / 100)) (by omega) (by simp only [List.length_set]; omega) d2
        have d4 := set_drop (i := k - 3) (j := k - 4) (c := dg (u % 100000000 % 10000 / 100 / 10)) (by omega) (by simp only [List.length_set]; omega) d3
        have d5 := set_drop (i := k - 4) (j := k - 5) (c := dg (u % 100000000 / 10000 % 100)) (by omega) (by simp only [List.length_set]; omega) d4
        have d6 := set_drop (i := k - 5) (j := k - 6) (c := dg (u % 100000000 / 10000 % 100 / 10)) (by omega) (by simp only [List.length_set]; omega) d5
        have d7 := set_drop (i := k - 6) (j := k - 7) (c := dg (u % 100000000 / 10000 / 100)) (by omega) (by simp only [List.length_set]; omega) d6
        have d8 := set_drop (i := k - 7) (j := k - 8) (c := dg (u % 100000000 / 10000 / 100 / 10)) (by omega) (by simp only [List.length_set]; omega) d7
        have hp : pad 8 u = [dg (u % 100000000 / 10000 / 100 / 10), dg (u % 100000000 / 10000 / 100), dg (u % 100000000 / 10000 % 100 / 10), dg (u % 100000000 / 10000 % 100), dg (u % 100000000 % 10000 / 100 / 10), dg (u % 100000000 % 10000 / 100), dg (u % 100000000 % 10000 % 100 / 10), dg (u % 100000000 % 10000 % 100)] := by
          simp only [pad, List.nil_append, List.cons_append, List.cons.injEq, and_true]
          refine ⟨dg_eq ?_, dg_eq ?_, dg_eq ?_, dg_eq ?_, dg_eq ?_, dg_eq ?_, dg_eq ?_, dg_eq ?_⟩ <;> omega
        rw [d8, show n - (k - 8) = (n - k) + 8 by omega, Nat.add_comm (n - k) 8, pad_split 8, hu, hp, Nat.add_comm 8]
        simp only [List.take_succ_cons, List.cons_append, List.nil_append, hd]
    · have e8 : decide ((8 : Int) ≤ (k : Int)) = false := by simp; omega
      have hk : k < 8 := by omega
      have hul : u < 10 ^ k := by
        rw [← hu]
        refine Nat.div_lt_of_lt_mul ?_
        rw [← Nat.pow_add, show n - k + k = n by omega]; exact hx
      have hu8 : u < 100000000 := Nat.lt_of_lt_of_le hul (Nat.pow_le_pow_right (by omega) (show k ≤ 8 by omega))
      have hI : Inv l n x k u m := ⟨hi, hm, hd, hu, hul⟩
      simp only [e8, cond_false]
      exact T1_ok (by omega) hl hl2 hu8 hI
  · simp
  · simp [pad]
end Go.Proofs.Xt
/-
  Numbers as text: how many digits; strconv.FormatUint and the document's Decimal.
-/
set_option linter.unusedVariables false
set_option linter.unusedSimpArgs false
set_option maxRecDepth 100000
namespace Go.Proofs.Xt
open Go Go.Xl Go.Ab Go.Proofs Go.Proofs.Xh

/-- so many digits -/
def Dig (d x : Nat) : Prop := 1 ≤ d ∧ x < 10 ^ d ∧ (d = 1 ∨ 10 ^ (d - 1) ≤ x)

theorem Dig.exists (x : Nat) (h : x < 18446744073709551616) : ∃ d, Dig d x ∧ d ≤ 20 := by
  have key : ∀ k x, x < 10 ^ (k + 1) → ∃ d, Dig d x ∧ d ≤ k + 1 := by
    intro k
    induction k with
    | zero => intro x hx; exact ⟨1, ⟨by omega, by simpa using hx, .inl rfl⟩, by omega⟩
    | succ k ih =>
      intro x hx
      by_cases h : x < 10 ^ (k + 1)
      · obtain ⟨d, h1, h2⟩ := ih x h
        exact ⟨d, h1, by omega⟩
      · exact ⟨k + 2, ⟨by omega, hx, .inr (by simpa using h)⟩, by omega⟩
  exact key 19 x (Nat.lt_trans h (by decide))

theorem Dig.unique {d e x : Nat} (h : Dig d x) (h' : Dig e x) : d = e := by
  obtain ⟨h1, h2, h3⟩ := h
  obtain ⟨g1, g2, g3⟩ := h'
  have key : ∀ {a b : Nat}, 1 ≤ a → x < 10 ^ a → (b = 1 ∨ 10 ^ (b - 1) ≤ x) → b ≤ a := by
    intro a b ha hx hb
    rcases hb with rfl | hb
    · exact ha
    · have : 10 ^ (b - 1) < 10 ^ a := Nat.lt_of_le_of_lt hb hx
      have := (Nat.pow_lt_pow_iff_right (show 1 < 10 by decide)).1 this
      omega
  exact Nat.le_antisymm (key g1 g2 h3) (key h1 h2 g3)

/-- the digits -/
noncomputable def dec (x : Nat) : List UInt8 := pad (Nat.rec (motive := fun _ => Nat → Nat) (fun _ => 1) (fun _ ih y => if y < 10 then 1 else ih (y / 10) + 1) 20 x) x

theorem nd_dig : ∀ (k x : Nat), x < 10 ^ (k + 1) → Dig (Nat.rec (motive := fun _ => Nat → Nat) (fun _ => 1) (fun _ ih y => if y < 10 then 1 else ih (y / 10) + 1) k x) x
  | 0, x, h => ⟨Nat.le_refl _, by show x < 10 ^ 1; simpa using h, .inl rfl⟩
  | k + 1, x, h => by
    show Dig (if x < 10 then 1 else Nat.rec (motive := fun _ => Nat → Nat) (fun _ => 1) (fun _ ih y => if y < 10 then 1 else ih (y / 10) + 1) k (x / 10) + 1) x
    by_cases hx : x < 10
    · rw [if_pos hx]; exact ⟨Nat.le_refl _, by simpa using hx, .inl rfl⟩
    · rw [if_neg hx]
      obtain ⟨h1, h2, h3⟩ := nd_dig k (x / 10) (Nat.div_lt_of_lt_mul (by rw [Nat.mul_comm, ← Nat.pow_succ]; exact h))
      generalize (Nat.rec (motive := fun _ => Nat → Nat) (fun _ => 1) (fun _ ih y => if y < 10 then 1 else ih (y / 10) + 1) k (x / 10) : Nat) = d at h1 h2 h3
      refine ⟨by omega, by rw [Nat.pow_succ]; omega, .inr ?_⟩
      rw [Nat.add_sub_cancel]
      rcases h3 with rfl | h3
      · simpa using hx
      · have : d = (d - 1) + 1 := by omega
        rw [this, Nat.pow_succ]; omega

theorem dec_pad {d x : Nat} (hx : x < 18446744073709551616) (h : Dig d x) : dec x = pad d x := by
  have := nd_dig 20 x (Nat.lt_trans hx (by decide))
  unfold dec
  rw [this.unique h]

theorem pad_len : ∀ (d x : Nat), (pad d x).length = d
  | 0, _ => rfl
  | d + 1, x => by simp [pad, pad_len d]

theorem toU8_dg (x : Nat) (h : x < 18446744073709551616) : toU8 (IntKind.u8.wrap (IntKind.u64.wrap (48 + ((x : Nat) : Int).tmod 10))) = dg x := by
  have h1 : ((x : Nat) : Int).tmod 10 = ((x % 10 : Nat) : Int) := rfl
  have h2 : ∀ k < 10, toU8 (IntKind.u8.wrap (IntKind.u64.wrap (48 + ((k : Nat) : Int)))) = UInt8.ofNat (48 + k) := by decide +kernel
  rw [h1, h2 _ (Nat.mod_lt _ (by decide))]
  rfl

theorem td10 (a : Nat) : ((a : Nat) : Int).tdiv 10 = ((a / 10 : Nat) : Int) := rfl

theorem R_eq (N : Nat) (G : Int → Option (List UInt8)) (x : Int) : R_epitaphref07_Decimal N G x = bif decide (x < 10) then some [toU8 (IntKind.u8.wrap (IntKind.u64.wrap (48 + x.tmod 10)))]
  else (G (IntKind.u64.wrap (x.tdiv 10))).bind fun (y : List UInt8) => bif decide (y.length + [toU8 (IntKind.u8.wrap (IntKind.u64.wrap (48 + x.tmod 10)))].length ≤ 4611686018427387904) then
        some (y ++ [toU8 (IntKind.u8.wrap (IntKind.u64.wrap (48 + x.tmod 10)))]) else none := rfl

/-- the document's digits -/
theorem refDec_pad (N M : Nat) : ∀ (d x : Nat), Dig d x → x < 18446744073709551616 → d ≤ 20 → d ≤ M → recF (args := [(.int .u64)]) (res := [.str]) (R_epitaphref07_Decimal N) M (x : Int) = some (pad d x) := by
  induction M with
  | zero => intro d x h _ _ hd; exact absurd h.1 (by omega)
  | succ M ih =>
    intro d x h hx h20 hd
    show R_epitaphref07_Decimal N (recF (R_epitaphref07_Decimal N) M) (x : Int) = _
    rw [R_eq, toU8_dg x hx]
    by_cases h10 : x < 10
    · have : d = 1 := h.unique ⟨Nat.le_refl _, by simpa using h10, .inl rfl⟩
      subst this
      have : decide (((x : Nat) : Int) < 10) = true := by simp; omega
      rw [this]
      simp [pad]
    · have hn : decide (((x : Nat) : Int) < 10) = false := by simp; omega
      obtain ⟨h1, h2, h3⟩ := h
      obtain ⟨k, rfl⟩ : ∃ k, d = k + 1 := ⟨d - 1, by omega⟩
      have hd1 : k + 1 ≠ 1 := by intro hk; rw [hk] at h2; simp at h2; omega
      rw [Nat.pow_succ] at h2
      rw [Nat.add_sub_cancel] at h3
      have hdig : Dig k (x / 10) := by
        refine ⟨by omega, by omega, ?_⟩
        rcases h3 with h3 | h3
        · exact absurd h3 hd1
        · by_cases hd2 : k = 1
          · exact .inl hd2
          · right
            obtain ⟨j, rfl⟩ : ∃ j, k = j + 1 := ⟨k - 1, by omega⟩
            rw [Nat.pow_succ] at h3
            rw [Nat.add_sub_cancel]
            omega
      have hr := ih k (x / 10) hdig (by omega) (by omega) (by omega)
      rw [hn, cond_false, td10, u64n (by omega)]
      show Option.bind (recF (args := [(.int .u64)]) (res := [.str]) (R_epitaphref07_Decimal N) M ((x / 10 : Nat) : Int)) _ = _
      rw [hr, Option.bind_some]
      have hl : decide ((pad k (x / 10)).length + [dg x].length ≤ 4611686018427387904) = true := by
        rw [pad_len]; simp; omega
      rw [hl, cond_true]
      rfl

theorem refDecimal_eq (N x : Nat) (hx : x < 18446744073709551616) (hN : 20 ≤ N) : F_epitaphref07_Decimal N (x : Int) = some (dec x) := by
  obtain ⟨d, h1, h2⟩ := Dig.exists x hx
  rw [dec_pad hx h1]
  exact refDec_pad N N d x h1 hx h2 (by omega)

abbrev T8 : List UInt8 := [0, 1, 2, 2, 3, 3, 3, 3, 4, 4, 4, 4, 4, 4, 4, 4, 5, 5, 5, 5, 5, 5, 5, 5, 5, 5, 5, 5, 5, 5, 5, 5, 6, 6, 6,
                      6, 6, 6, 6, 6, 6, 6, 6, 6, 6, 6, 6, 6, 6, 6, 6, 6, 6, 6, 6, 6, 6, 6, 6, 6, 6, 6, 6, 6, 7, 7, 7, 7,
                      7, 7, 7, 7, 7, 7, 7, 7, 7, 7, 7, 7, 7, 7, 7, 7, 7, 7, 7, 7, 7, 7, 7, 7, 7, 7, 7, 7, 7, 7, 7, 7, 7,
                      7, 7, 7, 7, 7, 7, 7, 7, 7, 7, 7, 7, 7, 7, 7, 7, 7, 7, 7, 7, 7, 7, 7, 7, 7, 7, 7, 8, 8, 8, 8, 8, 8,
                      8, 8, 8, 8, 8, 8, 8, 8, 8, 8, 8, 8, 8, 8, 8, 8, 8, 8, 8, 8, 8, 8, 8, 8, 8, 8, 8, 8, 8, 8, 8, 8, 8,
                      8, 8, 8, 8, 8, 8, 8, 8, 8, 8, 8, 8, 8, 8, 8, 8, 8, 8, 8, 8, 8, 8, 8, 8, 8, 8, 8, 8, 8, 8, 8, 8, 8,
                      8, 8, 8, 8, 8, 8, 8, 8, 8, 8, 8, 8, 8, 8, 8, 8, 8, 8, 8, 8, 8, 8, 8, 8, 8, 8, 8, 8, 8, 8, 8, 8, 8,
                      8, 8, 8, 8, 8, 8, 8, 8, 8, 8, 8, 8, 8, 8, 8, 8, 8, 8, 8, 8, 8, 8,
                      8]
/-- the table of lengths -/
theorem len8 : ∀ k : Nat, k < 256 → ∃ c : UInt8, T8[(toU8 (IntKind.u8.wrap (k : Int))).toNat]? = some c ∧ c.toNat ≤ 8 ∧ k < 2 ^ c.toNat ∧ (k = 0 ∨ 1 ≤ c.toNat ∧ 2 ^ (c.toNat - 1) ≤ k) := by
  intro k hk
  have h := (by decide +kernel : ∀ k : Nat, k < 256 → T8[(toU8 (IntKind.u8.wrap (k : Int))).toNat]?.any (fun c => decide (c.toNat ≤ 8 ∧ k < 2 ^ c.toNat ∧ (k = 0 ∨ 1 ≤ c.toNat ∧ 2 ^ (c.toNat - 1) ≤ k))) = true) k hk
  rw [Option.any_eq_true] at h
  obtain ⟨c, h1, h2⟩ := h
  exact ⟨c, h1, of_decide_eq_true h2⟩

/-- what a length is -/
def Len (n x : Nat) : Prop := n ≤ 64 ∧ x < 2 ^ n ∧ 1 ≤ n ∧ 2 ^ (n - 1) ≤ x

theorem fd (a b : Nat) : ((a : Nat) : Int).fdiv (b : Int) = ((a / b : Nat) : Int) := by rw [Int.fdiv_eq_ediv_of_nonneg _ (by omega)]; rfl
theorem fd8 (a : Nat) : ((a : Nat) : Int).fdiv 256 = ((a / 256 : Nat) : Int) := fd a 256
theorem fd16 (a : Nat) : ((a : Nat) : Int).fdiv 65536 = ((a / 65536 : Nat) : Int) := fd a 65536
theorem fd32 (a : Nat) : ((a : Nat) : Int).fdiv 4294967296 = ((a / 4294967296 : Nat) : Int) := fd a 4294967296
theorem i64k {a : Nat} (h : a < 9223372036854775808) : IntKind.i64.wrap (a : Int) = (a : Int) := IntWalk.i64_in _ (by omega)

theorem len64 (N x : Nat) (h0 : 1 ≤ x) (hx : x < 18446744073709551616) : ∃ n : Nat, F_math_bits_Len64 N (x : Int) = some (n : Int) ∧ Len n x := by
  have fin : ∀ (y b : Nat), 1 ≤ y → y < 256 → b ≤ 56 → y = x / 2 ^ b → ∃ n : Nat, T8[(toU8 (IntKind.u8.wrap (y : Int))).toNat]?.bind (fun c : UInt8 => some (IntKind.i64.wrap ((b : Int) + (c.toNat : Int)))) = some (n : Int) ∧ Len n x := by
    intro y b hy1 hy hb e
    obtain ⟨c, h1, h2, h3, h4⟩ := len8 y hy
    refine ⟨b + c.toNat, ?_, by omega, ?_, ?_, ?_⟩
    · rw [h1, Option.bind_some, show (b : Int) + (c.toNat : Int) = ((b + c.toNat : Nat) : Int) by omega, i64k (by omega)]
    · rw [e] at h3
      have := (Nat.div_lt_iff_lt_mul (Nat.two_pow_pos b)).1 h3
      rw [Nat.pow_add, Nat.mul_comm]; exact this
    · rcases h4 with h4 | h4 <;> omega
    · rcases h4 with h4 | ⟨h4, h5⟩
      · omega
      · rw [e] at h5
        have := (Nat.le_div_iff_mul_le (Nat.two_pow_pos b)).1 h5
        rw [show b + c.toNat - 1 = (c.toNat - 1) + b by omega, Nat.pow_add]; exact this
  have s8 : ∀ (y b : Nat), 1 ≤ y → y < 65536 → b ≤ 48 → y = x / 2 ^ b → ∃ n : Nat, (bif decide (256 ≤ ((y : Nat) : Int)) then T8[(toU8 (IntKind.u8.wrap (((y / 256 : Nat) : Nat) : Int))).toNat]?.bind (fun c : UInt8 => some (IntKind.i64.wrap ((((b + 8 : Nat) : Nat) : Int) + (c.toNat : Int)))) else T8[(toU8 (IntKind.u8.wrap (y : Int))).toNat]?.bind (fun c : UInt8 => some (IntKind.i64.wrap ((b : Int) + (c.toNat : Int))))) = some (n : Int) ∧ Len n x := by
    intro y b hy1 hy hb e
    by_cases h : 256 ≤ y
    · rw [decide_eq_true (by omega), cond_true]
      exact fin (y / 256) (b + 8) (by omega) (by omega) (by omega) (by rw [e, Nat.pow_add, ← Nat.div_div_eq_div_mul])
    · rw [decide_eq_false (by omega), cond_false]
      exact fin y b hy1 (by omega) (by omega) e
  unfold F_math_bits_Len64
  simp only [joinAt]
  have j8 : ∀ b : Nat, b ≤ 48 → IntKind.i64.wrap ((b : Int) + 8) = ((b + 8 : Nat) : Int) := fun b hb => by rw [IntWalk.i64_in _ (by omega)]; omega
  have s16 : ∀ (y b : Nat), 1 ≤ y → y < 4294967296 → b ≤ 32 → y = x / 2 ^ b → IntKind.i64.wrap ((b : Int) + 16) = ((b + 16 : Nat) : Int) := fun y b _ _ hb _ => by rw [IntWalk.i64_in _ (by omega)]; omega
  by_cases h32 : 4294967296 ≤ x
  · rw [decide_eq_true (show (4294967296 : Int) ≤ (x : Int) by omega), cond_true]
    simp only [fd32]
    have hq : x / 4294967296 = x / 2 ^ 32 := rfl
    by_cases h16 : 65536 ≤ x / 4294967296
    · rw [decide_eq_true (show (65536 : Int) ≤ ((x / 4294967296 : Nat) : Int) by omega), cond_true]
      simp only [fd16]
      have := s8 (x / 4294967296 / 65536) 48 (by omega) (by omega) (by omega) (by rw [hq, Nat.div_div_eq_div_mul])
      simp only [fd8]; exact this
    · rw [decide_eq_false (show ¬ (65536 : Int) ≤ ((x / 4294967296 : Nat) : Int) by omega), cond_false]
      have := s8 (x / 4294967296) 32 (by omega) (by omega) (by omega) hq
      simp only [fd8]; exact this
  · rw [decide_eq_false (show ¬ (4294967296 : Int) ≤ (x : Int) by omega), cond_false]
    by_cases h16 : 65536 ≤ x
    · skip
      rw [decide_eq_true (show (65536 : Int) ≤ ((x : Nat) : Int) by omega), cond_true]
      simp only [fd16]
      have := s8 (x / 65536) 16 (by omega) (by omega) (by omega) rfl
      simp only [fd8]; exact this
    · skip
      rw [decide_eq_false (show ¬ (65536 : Int) ≤ ((x : Nat) : Int) by omega), cond_false]
      have := s8 x 0 (by omega) (by omega) (by omega) (by simp)
      simp only [fd8]; exact this

/-- the powers of ten -/
abbrev tab0 : List Int := [1, 10, 100, 1000, 10000, 100000, 1000000, 10000000, 100000000, 1000000000, 10000000000, 100000000000, 1000000000000, 10000000000000, 100000000000000, 1000000000000000, 10000000000000000, 100000000000000000, 1000000000000000000, 10000000000000000000]

theorem log_all : ∀ n < 65, (n * 78913) / 262144 < 20 ∧ tab0[(n * 78913) / 262144]? = some ((10 ^ ((n * 78913) / 262144) : Nat) : Int) ∧ 2 ^ n ≤ 10 ^ ((n * 78913) / 262144 + 1) ∧
    (1 ≤ n → (n * 78913) / 262144 = 0 ∨ 10 ^ ((n * 78913) / 262144 - 1) ≤ 2 ^ (n - 1)) := by decide +kernel

theorem numDigits_eq (N x d : Nat) (h0 : 1 ≤ x) (hx : x < 18446744073709551616) (hd : Dig d x) : F_internal_strconv_numDigits N (x : Int) tab0 = some (d : Int) := by
  obtain ⟨n, h1, h2, h3, h4, h5⟩ := len64 N x h0 hx
  unfold F_internal_strconv_numDigits F_internal_strconv_log10Pow2 F_internal_strconv_bool2_int
  obtain ⟨g1, g2, g3, g4⟩ := log_all n (by omega)
  rw [h1, Option.bind_some, Option.bind_some, show IntKind.i64.wrap ((n : Int) * 78913) = ((n * 78913 : Nat) : Int) by rw [IntWalk.i64_in _ (by omega)]; omega]
  rw [show ((n * 78913 : Nat) : Int).fdiv 262144 = ((n * 78913 / 262144 : Nat) : Int) from fd _ 262144]
  generalize n * 78913 / 262144 = e at g1 g2 g3 g4
  have hb : tab0.length.ble 20 = true := rfl
  rw [hb, cond_true, at?_nat, g2, Option.bind_some]
  by_cases h : 10 ^ e ≤ x
  · rw [decide_eq_true (by omega), cond_true, Option.bind_some, show (e : Int) + 1 = ((e + 1 : Nat) : Int) by omega, i64k (by omega)]
    have : d = e + 1 := hd.unique ⟨by omega, by omega, .inr (by simpa using h)⟩
    rw [this]
  · rw [decide_eq_false (by omega), cond_false, Option.bind_some, Int.add_zero, i64k (by omega)]
    have he : e ≠ 0 := by rintro rfl; simp at h; omega
    have : d = e := hd.unique ⟨by omega, by omega, .inr (by rcases g4 h4 with g | g <;> omega)⟩
    rw [this]

theorem small_all : ∀ k < 100, F_internal_strconv_small 0 ((k : Nat) : Int) = some (dec k) := by decide +kernel

theorem intFormat_eq (N x : Nat) (hx : x < 18446744073709551616) (hN : 30 ≤ N) : F_internal_strconv_FormatUint N (x : Int) 10 tab0 = some (dec x) := by
  unfold F_internal_strconv_FormatUint
  have e10 : ((10 : Int) == 10) = true := rfl
  rw [e10, cond_true]
  by_cases h : x < 100
  · rw [decide_eq_true (by omega), cond_true, i64k (by omega)]
    show Option.bind (F_internal_strconv_small 0 (x : Int)) _ = _
    rw [small_all x h, Option.bind_some]
  · obtain ⟨d, h1, h2⟩ := Dig.exists x hx
    rw [decide_eq_false (by omega), cond_false, numDigits_eq N x d (by omega) hx h1, Option.bind_some]
    have hc : cutOk 0 (d : Int) 24 = true := by simp [cutOk]; omega
    obtain ⟨r, r1, r2, r3⟩ := fb10 N (List.replicate 24 0) d x (by simp; omega) (by simp) h1.2.1 hx (by omega)
    simp only [hc, cond_true, Int.toNat_natCast, Nat.sub_zero]
    rw [r1, Option.bind_some]
    rw [List.length_replicate] at r2
    have hb : Nat.ble 24 r.1.length = true := by rw [r2]; rfl
    have hb2 : (0 + d).ble r.1.length = true := by rw [r2]; exact Nat.ble_eq_true_of_le (by omega)
    rw [hb, cond_true, hb2, cond_true, List.drop_zero, r3, dec_pad hx h1]

theorem format_eq (N x : Nat) (hx : x < 18446744073709551616) (hN : 30 ≤ N) : F_strconv_FormatUint N (x : Int) 10 tab0 = some (dec x) := by
  unfold F_strconv_FormatUint
  rw [intFormat_eq N x hx hN]; rfl

theorem dec_len (x : Nat) (hx : x < 18446744073709551616) : (dec x).length ≤ 20 := by
  obtain ⟨d, h1, h2⟩ := Dig.exists x hx
  rw [dec_pad hx h1, pad_len]; exact h2

end Go.Proofs.Xt
set_option linter.unusedVariables false
set_option maxRecDepth 100000
namespace Go.Proofs.Xh
open Go Go.Xl Go.Ab Go.Proofs

/-- internal/strconv.small -/
noncomputable def F_internal_strconv_small (N : Nat) : Fun [(.int .i64)] (Option (ResT [.str])) :=
  fun (x : Int) =>
  bif decide (x < 10) then
    bif cutOk x (IntKind.i64.wrap (x + 1)) 36 then
      some
        (List.take ((IntKind.i64.wrap (x + 1)).toNat - x.toNat)
          (List.drop x.toNat
            [48, 49, 50, 51, 52, 53, 54, 55, 56, 57, 97, 98, 99, 100, 101, 102, 103, 104, 105, 106, 107, 108, 109, 110,
              111, 112, 113, 114, 115, 116, 117, 118, 119, 120, 121, 122]))
    else none
  else
    bif cutOk (IntKind.i64.wrap (x * 2)) (IntKind.i64.wrap (IntKind.i64.wrap (x * 2) + 2)) 200 then
      some
        (List.take ((IntKind.i64.wrap (IntKind.i64.wrap (x * 2) + 2)).toNat - (IntKind.i64.wrap (x * 2)).toNat)
          (List.drop (IntKind.i64.wrap (x * 2)).toNat
            [48, 48, 48, 49, 48, 50, 48, 51, 48, 52, 48, 53, 48, 54, 48, 55, 48, 56, 48, 57, 49, 48, 49, 49, 49, 50, 49,
              51, 49, 52, 49, 53, 49, 54, 49, 55, 49, 56, 49, 57, 50, 48, 50, 49, 50, 50, 50, 51, 50, 52, 50, 53, 50,
              54, 50, 55, 50, 56, 50, 57, 51, 48, 51, 49, 51, 50, 51, 51, 51, 52, 51, 53, 51, 54, 51, 55, 51, 56, 51,
              57, 52, 48, 52, 49, 52, 50, 52, 51, 52, 52, 52, 53, 52, 54, 52, 55, 52, 56, 52, 57, 53, 48, 53, 49, 53,
              50, 53, 51, 53, 52, 53, 53, 53, 54, 53, 55, 53, 56, 53, 57, 54, 48, 54, 49, 54, 50, 54, 51, 54, 52, 54,
              53, 54, 54, 54, 55, 54, 56, 54, 57, 55, 48, 55, 49, 55, 50, 55, 51, 55, 52, 55, 53, 55, 54, 55, 55, 55,
              56, 55, 57, 56, 48, 56, 49, 56, 50, 56, 51, 56, 52, 56, 53, 56, 54, 56, 55, 56, 56, 56, 57, 57, 48, 57,
              49, 57, 50, 57, 51, 57, 52, 57, 53, 57, 54, 57, 55, 57, 56, 57, 57]))
    else none
theorem E_internal_strconv_small (N : Nat) : runF Tryd.prog [] [] N Tryd.f44 .lf [(.int .i64)] [.str] = F_internal_strconv_small N := by kernel_rfl
noncomputable def e_internal_strconv_small (N : Nat) : Ent Tryd.prog := mkFn 44 Tryd.f44 .lf [(.int .i64)] [.str] (F_internal_strconv_small N) mixed Tryd.func44 (.mk' Tryd.func44 rfl (by decide)) rfl (E_internal_strconv_small N)
noncomputable def e_internal_strconv_numDigits (N : Nat) : Ent Tryd.prog := mkNone 45
noncomputable def e_internal_strconv_formatBase10 (N : Nat) : Ent Tryd.prog := mkNone 46
noncomputable def e_internal_strconv_formatBits (N : Nat) : Ent Tryd.prog := mkNone 47
/-- internal/strconv.FormatUint -/
noncomputable def F_internal_strconv_FormatUint (N : Nat) : Fun [(.int .u64), (.int .i64)] (Option (ResT [.str])) :=
  fun (x x_1 : Int) =>
  bif x_1 == 10 then
    bif decide (x < 100) then
      Option.bind (F_internal_strconv_small N (IntKind.i64.wrap x)) fun (y : List UInt8) => some y
    else none
  else none
theorem E_internal_strconv_FormatUint (N : Nat) : runF Tryd.prog [e_internal_strconv_small N, e_internal_strconv_numDigits N, e_internal_strconv_formatBase10 N, e_internal_strconv_formatBits N] [] N Tryd.f40 .lf [(.int .u64), (.int .i64)] [.str] = F_internal_strconv_FormatUint N := by kernel_rfl
noncomputable def e_internal_strconv_FormatUint (N : Nat) : Ent Tryd.prog := mkFn 40 Tryd.f40 .lf [(.int .u64), (.int .i64)] [.str] (F_internal_strconv_FormatUint N) mixed Tryd.func40 (.mk' Tryd.func40 rfl (by decide)) rfl (E_internal_strconv_FormatUint N)
/-- strconv.FormatUint -/
noncomputable def F_strconv_FormatUint (N : Nat) : Fun [(.int .u64), (.int .i64)] (Option (ResT [.str])) :=
  fun (x x_1 : Int) => Option.bind (F_internal_strconv_FormatUint N x x_1) fun (y : List UInt8) => some y
theorem E_strconv_FormatUint (N : Nat) : runF Tryd.prog [e_internal_strconv_FormatUint N] [] N Tryd.f30 .lf [(.int .u64), (.int .i64)] [.str] = F_strconv_FormatUint N := by kernel_rfl
noncomputable def e_strconv_FormatUint (N : Nat) : Ent Tryd.prog := mkFn 30 Tryd.f30 .lf [(.int .u64), (.int .i64)] [.str] (F_strconv_FormatUint N) mixed Tryd.func30 (.mk' Tryd.func30 rfl (by decide)) rfl (E_strconv_FormatUint N)
/-- epitaph/dot.Text -/
noncomputable def F_dot_Text (N : Nat) : Fun [tDot] (Option (ResT [.str])) :=
  fun (x : Int × Int) =>
  Option.bind (F_strconv_FormatUint N (IntKind.u64.wrap x.fst) 10) fun (y : List UInt8) =>
    bif decide (y.length + 1 ≤ 4611686018427387904) then
      Option.bind (F_strconv_FormatUint N x.snd 10) fun (y_1 : List UInt8) =>
        bif decide ((y ++ [46]).length + y_1.length ≤ 4611686018427387904) then some (y ++ [46] ++ y_1) else none
    else none
theorem E_dot_Text (N : Nat) : runF Tryd.prog [e_strconv_FormatUint N] [] N Tryd.f14 .lf [tDot] [.str] = F_dot_Text N := by kernel_rfl
noncomputable def e_dot_Text (N : Nat) : Ent Tryd.prog := mkFn 14 Tryd.f14 .lf [tDot] [.str] (F_dot_Text N) mixed Tryd.func14 (.mk' Tryd.func14 rfl (by decide)) rfl (E_dot_Text N)

/-- epitaph/epitaphref07.Same -/
noncomputable def F_epitaphref07_Same (N : Nat) : Fun [(.sl tDot), (.sl tDot)] (Option (ResT [.bool])) :=
  fun (x x_1 : List (Int × Int)) =>
  bif (↑x.length : Int) != (↑x_1.length : Int) then some false
  else
    iter
      (fun (rec : (Int × Unit) × Unit × Unit × Unit → Option Bool) (z : (Int × Unit) × Unit × Unit × Unit) =>
        bif decide (z.fst.fst < (↑x.length : Int)) then
          (at? x z.fst.fst).bind fun (e : Int × Int) =>
            (at? x_1 z.fst.fst).bind fun (e_1 : Int × Int) =>
              bif !(e.fst == e_1.fst && e.snd == e_1.snd) then some false
              else rec ((IntKind.i64.wrap (z.fst.fst + 1), ()), (), (), ())
        else some true)
      N ((0, ()), (), (), ())
theorem E_epitaphref07_Same (N : Nat) : runF Tryd.prog [] [] N Tryd.f18 (.seq .lf (.seq .lf (.seq (.seq .lf (.blk (.loop ⟨[(5, .d (.int .i64))], [], [0, 1], [], [], []⟩ .lf))) .lf))) [(.sl tDot), (.sl tDot)] [.bool] = F_epitaphref07_Same N := by kernel_rfl
noncomputable def e_epitaphref07_Same (N : Nat) : Ent Tryd.prog := mkFn 18 Tryd.f18 (.seq .lf (.seq .lf (.seq (.seq .lf (.blk (.loop ⟨[(5, .d (.int .i64))], [], [0, 1], [], [], []⟩ .lf))) .lf))) [(.sl tDot), (.sl tDot)] [.bool] (F_epitaphref07_Same N) mixed Tryd.func18 (.mk' Tryd.func18 rfl (by decide)) rfl (E_epitaphref07_Same N)
/-- epitaph/epitaphlaw07.works -/
noncomputable def F_epitaphlaw07_works (N : Nat) : Fun [] (Option (ResT [.bool])) :=
  Option.bind (F_dot_Text N (3, 17)) fun (y : List UInt8) =>
    bif y == [51, 46, 49, 55] then
      Option.bind (F_dot_Sort N [(2, 1), (1, 9), (2, 1)]) fun (y : List (Int × Int)) =>
        Option.bind (F_epitaphref07_Same N y [(1, 9), (2, 1)]) fun (y : Bool) => some y
    else some false
theorem E_epitaphlaw07_works (N : Nat) : runF Tryd.prog [e_dot_Text N, e_dot_Sort N, e_epitaphref07_Same N] [] N Tryd.f16 .lf [] [.bool] = F_epitaphlaw07_works N := by kernel_rfl
noncomputable def e_epitaphlaw07_works (N : Nat) : Ent Tryd.prog := mkFn 16 Tryd.f16 .lf [] [.bool] (F_epitaphlaw07_works N) mixed Tryd.func16 (.mk' Tryd.func16 rfl (by decide)) rfl (E_epitaphlaw07_works N)
theorem D_epitaphlaw07_works (N : Nat) : SoundF Tryd.prog 16 [.bool] [] (F_epitaphlaw07_works N) [] := E_epitaphlaw07_works N ▸ runF_sound mixed Tryd.func16 rfl
/-- epitaph/dot.Rising -/
noncomputable def F_dot_Rising (N : Nat) : Fun [(.sl tDot)] (Option (ResT [.bool])) :=
  fun (x : List (Int × Int)) =>
  iter
    (fun (rec : (Int × Unit) × Unit × Unit × Unit → Option Bool) (z : (Int × Unit) × Unit × Unit × Unit) =>
      bif decide (z.fst.fst < (↑x.length : Int)) then
        bif decide (0 < z.fst.fst) then
          (at? x (IntKind.i64.wrap (z.fst.fst - 1))).bind fun (e : Int × Int) =>
            (at? x z.fst.fst).bind fun (e_1 : Int × Int) =>
              Option.bind (F_dot_Cmp N e e_1) fun (y : Int) =>
                bif decide (0 ≤ y) then some false else rec ((IntKind.i64.wrap (z.fst.fst + 1), ()), (), (), ())
        else rec ((IntKind.i64.wrap (z.fst.fst + 1), ()), (), (), ())
      else some true)
    N ((0, ()), (), (), ())
theorem E_dot_Rising (N : Nat) : runF Tryd.prog [e_dot_Cmp N] [] N Tryd.f19 (.seq .lf (.seq (.seq .lf (.blk (.loop ⟨[(6, .d (.int .i64))], [], [0, 5], [], [], []⟩ .lf))) .lf)) [(.sl tDot)] [.bool] = F_dot_Rising N := by kernel_rfl
noncomputable def e_dot_Rising (N : Nat) : Ent Tryd.prog := mkFn 19 Tryd.f19 (.seq .lf (.seq (.seq .lf (.blk (.loop ⟨[(6, .d (.int .i64))], [], [0, 5], [], [], []⟩ .lf))) .lf)) [(.sl tDot)] [.bool] (F_dot_Rising N) mixed Tryd.func19 (.mk' Tryd.func19 rfl (by decide)) rfl (E_dot_Rising N)
/-- slices.Index[[]epitaph/api.Dot,epitaph/api.Dot] -/
noncomputable def F_slices_Index_sDot_Dot (N : Nat) : Fun [(.sl tDot), tDot] (Option (ResT [(.int .i64)])) :=
  fun (x : List (Int × Int)) (x_1 : Int × Int) =>
  iter
    (fun (rec : (Int × Unit) × Unit × Unit × Unit → Option Int) (z : (Int × Unit) × Unit × Unit × Unit) =>
      bif decide (z.fst.fst < (↑x.length : Int)) then
        (at? x z.fst.fst).bind fun (e : Int × Int) =>
          bif x_1.fst == e.fst && x_1.snd == e.snd then some z.fst.fst
          else rec ((IntKind.i64.wrap (z.fst.fst + 1), ()), (), (), ())
      else some (-1))
    N ((0, ()), (), (), ())
theorem E_slices_Index_sDot_Dot (N : Nat) : runF Tryd.prog [] [] N Tryd.f43 (.seq .lf (.seq (.seq .lf (.blk (.loop ⟨[(8, .d (.int .i64))], [], [0, 3, 7], [1003], [], []⟩ .lf))) .lf)) [(.sl tDot), tDot] [(.int .i64)] = F_slices_Index_sDot_Dot N := by kernel_rfl
noncomputable def e_slices_Index_sDot_Dot (N : Nat) : Ent Tryd.prog := mkFn 43 Tryd.f43 (.seq .lf (.seq (.seq .lf (.blk (.loop ⟨[(8, .d (.int .i64))], [], [0, 3, 7], [1003], [], []⟩ .lf))) .lf)) [(.sl tDot), tDot] [(.int .i64)] (F_slices_Index_sDot_Dot N) mixed Tryd.func43 (.mk' Tryd.func43 rfl (by decide)) rfl (E_slices_Index_sDot_Dot N)
/-- slices.Contains[[]epitaph/api.Dot,epitaph/api.Dot] -/
noncomputable def F_slices_Contains_sDot_Dot (N : Nat) : Fun [(.sl tDot), tDot] (Option (ResT [.bool])) :=
  fun (x : List (Int × Int)) (x_1 : Int × Int) =>
  Option.bind (F_slices_Index_sDot_Dot N x x_1) fun (y : Int) => some (decide (0 ≤ y))
theorem E_slices_Contains_sDot_Dot (N : Nat) : runF Tryd.prog [e_slices_Index_sDot_Dot N] [] N Tryd.f35 .lf [(.sl tDot), tDot] [.bool] = F_slices_Contains_sDot_Dot N := by kernel_rfl
noncomputable def e_slices_Contains_sDot_Dot (N : Nat) : Ent Tryd.prog := mkFn 35 Tryd.f35 .lf [(.sl tDot), tDot] [.bool] (F_slices_Contains_sDot_Dot N) mixed Tryd.func35 (.mk' Tryd.func35 rfl (by decide)) rfl (E_slices_Contains_sDot_Dot N)
/-- epitaph/dot.Has -/
noncomputable def F_dot_Has (N : Nat) : Fun [(.sl tDot), tDot] (Option (ResT [.bool])) :=
  fun (x : List (Int × Int)) (x_1 : Int × Int) =>
  Option.bind (F_slices_Contains_sDot_Dot N x x_1) fun (y : Bool) => some y
theorem E_dot_Has (N : Nat) : runF Tryd.prog [e_slices_Contains_sDot_Dot N] [] N Tryd.f20 .lf [(.sl tDot), tDot] [.bool] = F_dot_Has N := by kernel_rfl
noncomputable def e_dot_Has (N : Nat) : Ent Tryd.prog := mkFn 20 Tryd.f20 .lf [(.sl tDot), tDot] [.bool] (F_dot_Has N) mixed Tryd.func20 (.mk' Tryd.func20 rfl (by decide)) rfl (E_dot_Has N)
/-- epitaph/epitaphlaw07.DotOrders -/
noncomputable def F_epitaphlaw07_DotOrders (N : Nat) : Fun [tDot, tDot, tDot] (Option (ResT [.bool])) :=
  fun (x x_1 x_2 : Int × Int) =>
  joinAt
    (fun (z : Unit × Unit × Unit × Unit) =>
      Option.bind (F_dot_Sort N [x, x_1, x_2]) fun (y : List (Int × Int)) =>
        Option.bind (F_dot_Sort N [x_2, x, x_1, x]) fun (y_1 : List (Int × Int)) =>
          Option.bind (F_epitaphref07_Same N y y_1) fun (y_2 : Bool) =>
            bif y_2 then
              Option.bind (F_dot_Rising N y) fun (y_3 : Bool) =>
                bif y_3 then
                  Option.bind (F_dot_Has N y x) fun (y_4 : Bool) =>
                    bif y_4 then
                      Option.bind (F_dot_Has N y x_1) fun (y_5 : Bool) =>
                        bif y_5 then
                          Option.bind (F_dot_Has N y x_2) fun (y : Bool) =>
                            bif y then
                              bif (x.fst, [XD.i IntKind.u64 x.snd]).fst == x.fst && x.snd == x.snd then
                                bif (x_2.fst, [XD.i IntKind.u64 x_2.snd]).fst == x_2.fst && x_2.snd == x_2.snd then
                                  Option.bind (F_epitaphlaw07_works N) fun (y : Bool) => some y
                                else some false
                              else some false
                            else some false
                        else some false
                    else some false
                else some false
            else some false)
    fun (k : Unit × Unit × Unit × Unit → Option Bool) =>
    Option.bind (F_dot_Cmp N x x_1) fun (y : Int) =>
      Option.bind (F_dot_Cmp N x_1 x) fun (y_1 : Int) =>
        bif y != IntKind.i64.wrap (0 - y_1) then some false
        else
          Option.bind (F_dot_Cmp N x x_1) fun (y : Int) =>
            bif !(y == 0) == (x.fst == x_1.fst && x.snd == x_1.snd) then some false
            else
              Option.bind (F_dot_Cmp N x x_1) fun (y : Int) =>
                bif decide (y < 0) then
                  Option.bind (F_dot_Cmp N x_1 x_2) fun (y : Int) =>
                    bif decide (y < 0) then
                      Option.bind (F_dot_Cmp N x x_2) fun (y : Int) =>
                        bif decide (0 ≤ y) then some false else k ((), (), (), ())
                    else k ((), (), (), ())
                else k ((), (), (), ())
theorem E_epitaphlaw07_DotOrders (N : Nat) : runF Tryd.prog [e_dot_Cmp N, e_epitaphlaw07_works N, e_dot_Sort N, e_epitaphref07_Same N, e_dot_Rising N, e_dot_Has N] [] N Tryd.f4 (.seq .lf (.join ⟨[], [], [3, 4, 5], [1003, 1004, 1005], [], []⟩ .lf .lf)) [tDot, tDot, tDot] [.bool] = F_epitaphlaw07_DotOrders N := by kernel_rfl
noncomputable def e_epitaphlaw07_DotOrders (N : Nat) : Ent Tryd.prog := mkFn 4 Tryd.f4 (.seq .lf (.join ⟨[], [], [3, 4, 5], [1003, 1004, 1005], [], []⟩ .lf .lf)) [tDot, tDot, tDot] [.bool] (F_epitaphlaw07_DotOrders N) mixed Tryd.func4 (.mk' Tryd.func4 rfl (by decide)) rfl (E_epitaphlaw07_DotOrders N)
theorem D_epitaphlaw07_DotOrders (N : Nat) : SoundF Tryd.prog 4 [.bool] [tDot, tDot, tDot] (F_epitaphlaw07_DotOrders N) [] := E_epitaphlaw07_DotOrders N ▸ runF_sound mixed Tryd.func4 rfl
/-- epitaph/epitaphref07.Cmp -/
noncomputable def F_epitaphref07_Cmp (N : Nat) : Fun [tDot, tDot] (Option (ResT [(.int .i64)])) :=
  fun (x x_1 : Int × Int) =>
  bif x.fst == x_1.fst && x.snd == x_1.snd then some 0
  else
    bif decide (x.fst < x_1.fst) then some (-1)
    else bif x.fst == x_1.fst then bif decide (x.snd < x_1.snd) then some (-1) else some 1 else some 1
theorem E_epitaphref07_Cmp (N : Nat) : runF Tryd.prog [] [] N Tryd.f11 .lf [tDot, tDot] [(.int .i64)] = F_epitaphref07_Cmp N := by kernel_rfl
noncomputable def e_epitaphref07_Cmp (N : Nat) : Ent Tryd.prog := mkFn 11 Tryd.f11 .lf [tDot, tDot] [(.int .i64)] (F_epitaphref07_Cmp N) mixed Tryd.func11 (.mk' Tryd.func11 rfl (by decide)) rfl (E_epitaphref07_Cmp N)
/-- epitaph/epitaphref07.Put -/
noncomputable def F_epitaphref07_Put (N : Nat) : Fun [(.sl tDot), tDot] (Option (ResT [(.sl tDot)])) :=
  fun (x : List (Int × Int)) (x_1 : Int × Int) =>
  iter
    (fun (rec : (List (Int × Int) × Int × Unit) × Unit × Unit × Unit → Option (List (Int × Int)))
        (z : (List (Int × Int) × Int × Unit) × Unit × Unit × Unit) =>
      bif decide (z.fst.snd.fst < (↑x.length : Int)) then
        (at? x z.fst.snd.fst).bind fun (e : Int × Int) =>
          Option.bind (F_epitaphref07_Cmp N e x_1) fun (y : Int) =>
            bif decide (y < 0) then
              (at? x z.fst.snd.fst).bind fun (e : Int × Int) =>
                bif fitsB (z.fst.fst.length + [e].length) 16 then
                  rec ((z.fst.fst ++ [e], IntKind.i64.wrap (z.fst.snd.fst + 1), ()), (), (), ())
                else none
            else rec ((z.fst.fst, IntKind.i64.wrap (z.fst.snd.fst + 1), ()), (), (), ())
      else
        bif fitsB (z.fst.fst.length + [x_1].length) 16 then
          iter
            (fun (rec : (List (Int × Int) × Int × Unit) × Unit × Unit × Unit → Option (List (Int × Int)))
                (z : (List (Int × Int) × Int × Unit) × Unit × Unit × Unit) =>
              bif decide (z.fst.snd.fst < (↑x.length : Int)) then
                (at? x z.fst.snd.fst).bind fun (e : Int × Int) =>
                  Option.bind (F_epitaphref07_Cmp N e x_1) fun (y : Int) =>
                    bif decide (0 < y) then
                      (at? x z.fst.snd.fst).bind fun (e : Int × Int) =>
                        bif fitsB (z.fst.fst.length + [e].length) 16 then
                          rec ((z.fst.fst ++ [e], IntKind.i64.wrap (z.fst.snd.fst + 1), ()), (), (), ())
                        else none
                    else rec ((z.fst.fst, IntKind.i64.wrap (z.fst.snd.fst + 1), ()), (), (), ())
              else some z.fst.fst)
            N ((z.fst.fst ++ [x_1], 0, ()), (), (), ())
        else none)
    N (([], 0, ()), (), (), ())
theorem E_epitaphref07_Put (N : Nat) : runF Tryd.prog [e_epitaphref07_Cmp N] [] N Tryd.f36 (.seq .lf (.seq .lf (.seq (.seq .lf (.blk (.loop ⟨[(5, .tip 200005 tDot none), (6, .d (.int .i64))], [], [0, 3], [1003], [], []⟩ .lf))) (.seq .lf (.seq (.seq .lf (.blk (.loop ⟨[(5, .tip 200005 tDot none), (7, .d (.int .i64))], [], [0, 3], [1003], [], []⟩ .lf))) .lf))))) [(.sl tDot), tDot] [(.sl tDot)] = F_epitaphref07_Put N := by kernel_rfl
noncomputable def e_epitaphref07_Put (N : Nat) : Ent Tryd.prog := mkFn 36 Tryd.f36 (.seq .lf (.seq .lf (.seq (.seq .lf (.blk (.loop ⟨[(5, .tip 200005 tDot none), (6, .d (.int .i64))], [], [0, 3], [1003], [], []⟩ .lf))) (.seq .lf (.seq (.seq .lf (.blk (.loop ⟨[(5, .tip 200005 tDot none), (7, .d (.int .i64))], [], [0, 3], [1003], [], []⟩ .lf))) .lf))))) [(.sl tDot), tDot] [(.sl tDot)] (F_epitaphref07_Put N) mixed Tryd.func36 (.mk' Tryd.func36 rfl (by decide)) rfl (E_epitaphref07_Put N)
/-- epitaph/epitaphref07.Sort -/
noncomputable def F_epitaphref07_Sort (N : Nat) : Fun [(.sl tDot)] (Option (ResT [(.sl tDot)])) :=
  fun (x : List (Int × Int)) =>
  iter
    (fun (rec : (List (Int × Int) × Int × Unit) × Unit × Unit × Unit → Option (List (Int × Int)))
        (z : (List (Int × Int) × Int × Unit) × Unit × Unit × Unit) =>
      bif decide (z.fst.snd.fst < (↑x.length : Int)) then
        (at? x z.fst.snd.fst).bind fun (e : Int × Int) =>
          Option.bind (F_epitaphref07_Put N z.fst.fst e) fun (y : List (Int × Int)) =>
            rec ((y, IntKind.i64.wrap (z.fst.snd.fst + 1), ()), (), (), ())
      else some z.fst.fst)
    N (([], 0, ()), (), (), ())
theorem E_epitaphref07_Sort (N : Nat) : runF Tryd.prog [e_epitaphref07_Put N] [] N Tryd.f21 (.seq .lf (.seq .lf (.seq (.seq .lf (.blk (.loop ⟨[(3, .d (.sl tDot)), (4, .d (.int .i64))], [], [0], [], [], []⟩ .lf))) .lf))) [(.sl tDot)] [(.sl tDot)] = F_epitaphref07_Sort N := by kernel_rfl
noncomputable def e_epitaphref07_Sort (N : Nat) : Ent Tryd.prog := mkFn 21 Tryd.f21 (.seq .lf (.seq .lf (.seq (.seq .lf (.blk (.loop ⟨[(3, .d (.sl tDot)), (4, .d (.int .i64))], [], [0], [], [], []⟩ .lf))) .lf))) [(.sl tDot)] [(.sl tDot)] (F_epitaphref07_Sort N) mixed Tryd.func21 (.mk' Tryd.func21 rfl (by decide)) rfl (E_epitaphref07_Sort N)
/-- epitaph/epitaphref07.Rising -/
noncomputable def F_epitaphref07_Rising (N : Nat) : Fun [(.sl tDot)] (Option (ResT [.bool])) :=
  fun (x : List (Int × Int)) =>
  iter
    (fun (rec : (Int × Unit) × Unit × Unit × Unit → Option Bool) (z : (Int × Unit) × Unit × Unit × Unit) =>
      bif decide (z.fst.fst < (↑x.length : Int)) then
        (at? x (IntKind.i64.wrap (z.fst.fst - 1))).bind fun (e : Int × Int) =>
          (at? x z.fst.fst).bind fun (e_1 : Int × Int) =>
            Option.bind (F_epitaphref07_Cmp N e e_1) fun (y : Int) =>
              bif decide (0 ≤ y) then some false else rec ((IntKind.i64.wrap (z.fst.fst + 1), ()), (), (), ())
      else some true)
    N ((1, ()), (), (), ())
theorem E_epitaphref07_Rising (N : Nat) : runF Tryd.prog [e_epitaphref07_Cmp N] [] N Tryd.f22 (.seq .lf (.seq (.seq .lf (.blk (.loop ⟨[(3, .d (.int .i64))], [], [0], [], [], []⟩ .lf))) .lf)) [(.sl tDot)] [.bool] = F_epitaphref07_Rising N := by kernel_rfl
noncomputable def e_epitaphref07_Rising (N : Nat) : Ent Tryd.prog := mkFn 22 Tryd.f22 (.seq .lf (.seq (.seq .lf (.blk (.loop ⟨[(3, .d (.int .i64))], [], [0], [], [], []⟩ .lf))) .lf)) [(.sl tDot)] [.bool] (F_epitaphref07_Rising N) mixed Tryd.func22 (.mk' Tryd.func22 rfl (by decide)) rfl (E_epitaphref07_Rising N)
/-- epitaph/epitaphref07.Has -/
noncomputable def F_epitaphref07_Has (N : Nat) : Fun [(.sl tDot), tDot] (Option (ResT [.bool])) :=
  fun (x : List (Int × Int)) (x_1 : Int × Int) =>
  iter
    (fun (rec : (Int × Unit) × Unit × Unit × Unit → Option Bool) (z : (Int × Unit) × Unit × Unit × Unit) =>
      bif decide (z.fst.fst < (↑x.length : Int)) then
        (at? x z.fst.fst).bind fun (e : Int × Int) =>
          bif e.fst == x_1.fst && e.snd == x_1.snd then some true
          else rec ((IntKind.i64.wrap (z.fst.fst + 1), ()), (), (), ())
      else some false)
    N ((0, ()), (), (), ())
theorem E_epitaphref07_Has (N : Nat) : runF Tryd.prog [] [] N Tryd.f23 (.seq .lf (.seq (.seq .lf (.blk (.loop ⟨[(5, .d (.int .i64))], [], [0, 3], [1003], [], []⟩ .lf))) .lf)) [(.sl tDot), tDot] [.bool] = F_epitaphref07_Has N := by kernel_rfl
noncomputable def e_epitaphref07_Has (N : Nat) : Ent Tryd.prog := mkFn 23 Tryd.f23 (.seq .lf (.seq (.seq .lf (.blk (.loop ⟨[(5, .d (.int .i64))], [], [0, 3], [1003], [], []⟩ .lf))) .lf)) [(.sl tDot), tDot] [.bool] (F_epitaphref07_Has N) mixed Tryd.func23 (.mk' Tryd.func23 rfl (by decide)) rfl (E_epitaphref07_Has N)
/-- slices.Equal[[]epitaph/api.Dot,epitaph/api.Dot] -/
noncomputable def F_slices_Equal_sDot_Dot (N : Nat) : Fun [(.sl tDot), (.sl tDot)] (Option (ResT [.bool])) :=
  fun (x x_1 : List (Int × Int)) =>
  bif (↑x.length : Int) != (↑x_1.length : Int) then some false
  else
    iter
      (fun (rec : (Int × Unit) × Unit × Unit × Unit → Option Bool) (z : (Int × Unit) × Unit × Unit × Unit) =>
        bif decide (z.fst.fst < (↑x.length : Int)) then
          (at? x z.fst.fst).bind fun (e : Int × Int) =>
            (at? x_1 z.fst.fst).bind fun (e_1 : Int × Int) =>
              bif !(e.fst == e_1.fst && e.snd == e_1.snd) then some false
              else rec ((IntKind.i64.wrap (z.fst.fst + 1), ()), (), (), ())
        else some true)
      N ((0, ()), (), (), ())
theorem E_slices_Equal_sDot_Dot (N : Nat) : runF Tryd.prog [] [] N Tryd.f37 (.seq .lf (.seq .lf (.seq (.seq .lf (.blk (.loop ⟨[(13, .d (.int .i64))], [], [0, 1, 12], [], [], []⟩ .lf))) .lf))) [(.sl tDot), (.sl tDot)] [.bool] = F_slices_Equal_sDot_Dot N := by kernel_rfl
noncomputable def e_slices_Equal_sDot_Dot (N : Nat) : Ent Tryd.prog := mkFn 37 Tryd.f37 (.seq .lf (.seq .lf (.seq (.seq .lf (.blk (.loop ⟨[(13, .d (.int .i64))], [], [0, 1, 12], [], [], []⟩ .lf))) .lf))) [(.sl tDot), (.sl tDot)] [.bool] (F_slices_Equal_sDot_Dot N) mixed Tryd.func37 (.mk' Tryd.func37 rfl (by decide)) rfl (E_slices_Equal_sDot_Dot N)
/-- epitaph/dot.Same -/
noncomputable def F_dot_Same (N : Nat) : Fun [(.sl tDot), (.sl tDot)] (Option (ResT [.bool])) :=
  fun (x x_1 : List (Int × Int)) => Option.bind (F_slices_Equal_sDot_Dot N x x_1) fun (y : Bool) => some y
theorem E_dot_Same (N : Nat) : runF Tryd.prog [e_slices_Equal_sDot_Dot N] [] N Tryd.f24 .lf [(.sl tDot), (.sl tDot)] [.bool] = F_dot_Same N := by kernel_rfl
noncomputable def e_dot_Same (N : Nat) : Ent Tryd.prog := mkFn 24 Tryd.f24 .lf [(.sl tDot), (.sl tDot)] [.bool] (F_dot_Same N) mixed Tryd.func24 (.mk' Tryd.func24 rfl (by decide)) rfl (E_dot_Same N)
/-- epitaph/epitaphlaw07.DotLists -/
noncomputable def F_epitaphlaw07_DotLists (N : Nat) : Fun [(.sl tDot), (.sl tDot), tDot] (Option (ResT [.bool])) :=
  fun (x x_1 : List (Int × Int)) (x_2 : Int × Int) =>
  bif decide (200 < (↑x.length : Int)) then Option.bind (F_epitaphlaw07_works N) fun (y : Bool) => some y
  else
    Option.bind (F_dot_Sort N x) fun (y : List (Int × Int)) =>
      Option.bind (F_epitaphref07_Sort N x) fun (y_1 : List (Int × Int)) =>
        Option.bind (F_epitaphref07_Same N y y_1) fun (y : Bool) =>
          bif y then
            Option.bind (F_dot_Rising N x) fun (y : Bool) =>
              Option.bind (F_epitaphref07_Rising N x) fun (y_2 : Bool) =>
                bif y == y_2 then
                  Option.bind (F_dot_Has N x x_2) fun (y : Bool) =>
                    Option.bind (F_epitaphref07_Has N x x_2) fun (y_3 : Bool) =>
                      bif y == y_3 then
                        Option.bind (F_dot_Same N x x_1) fun (y : Bool) =>
                          Option.bind (F_epitaphref07_Same N x x_1) fun (y_4 : Bool) =>
                            bif y == y_4 then
                              Option.bind (F_dot_Sort N x) fun (y : List (Int × Int)) =>
                                Option.bind (F_dot_Rising N y) fun (y : Bool) =>
                                  bif y then Option.bind (F_epitaphlaw07_works N) fun (y : Bool) => some y
                                  else some false
                            else some false
                      else some false
                else some false
          else some false
theorem E_epitaphlaw07_DotLists (N : Nat) : runF Tryd.prog [e_epitaphlaw07_works N, e_dot_Sort N, e_epitaphref07_Same N, e_dot_Rising N, e_dot_Has N, e_epitaphref07_Sort N, e_epitaphref07_Rising N, e_epitaphref07_Has N, e_dot_Same N] [] N Tryd.f5 .lf [(.sl tDot), (.sl tDot), tDot] [.bool] = F_epitaphlaw07_DotLists N := by kernel_rfl
noncomputable def e_epitaphlaw07_DotLists (N : Nat) : Ent Tryd.prog := mkFn 5 Tryd.f5 .lf [(.sl tDot), (.sl tDot), tDot] [.bool] (F_epitaphlaw07_DotLists N) mixed Tryd.func5 (.mk' Tryd.func5 rfl (by decide)) rfl (E_epitaphlaw07_DotLists N)
theorem D_epitaphlaw07_DotLists (N : Nat) : SoundF Tryd.prog 5 [.bool] [(.sl tDot), (.sl tDot), tDot] (F_epitaphlaw07_DotLists N) [] := E_epitaphlaw07_DotLists N ▸ runF_sound mixed Tryd.func5 rfl
end Go.Proofs.Xh
/-
  Plain laws on lists in order: insertion, each once.
-/
set_option linter.unusedVariables false
set_option linter.unusedSimpArgs false
namespace Go.Xl

/-- an order, and what is neither ahead nor behind -/
structure LO {α : Type} (lt eq : α → α → Bool) : Prop where
  asymm : ∀ x y, lt x y = true → lt y x = false
  ntrans : ∀ x y z, lt x y = false → lt y z = false → lt x z = false
  eq_def : ∀ x y, eq x y = (!lt x y && !lt y x)

section
variable {α : Type} {lt eq : α → α → Bool}

theorem LO.irrefl (h : LO lt eq) (x : α) : lt x x = false := by
  cases hx : lt x x with
  | false => rfl
  | true => have := h.asymm x x hx; rw [hx] at this; cases this

theorem LO.trans (h : LO lt eq) {x y z : α} (h1 : lt x y = true) (h2 : lt y z = true) : lt x z = true := by
  cases hx : lt x z with
  | true => rfl
  | false =>
    have := h.ntrans x z y hx (h.asymm _ _ h2)
    rw [h1] at this; cases this

/-- x < y ≤ z -/
theorem LO.lt_le (h : LO lt eq) {x y z : α} (h1 : lt x y = true) (h2 : lt z y = false) : lt x z = true := by
  cases hx : lt x z with
  | true => rfl
  | false => have := h.ntrans x z y hx h2; rw [h1] at this; cases this

/-- x ≤ y < z -/
theorem LO.le_lt (h : LO lt eq) {x y z : α} (h1 : lt y x = false) (h2 : lt y z = true) : lt x z = true := by
  cases hx : lt x z with
  | true => rfl
  | false => have := h.ntrans y x z h1 hx; rw [h2] at this; cases this

theorem LO.eq_true (h : LO lt eq) {x y : α} : eq x y = true ↔ lt x y = false ∧ lt y x = false := by
  rw [h.eq_def]; simp

theorem LO.eq_symm (h : LO lt eq) (x y : α) : eq x y = eq y x := by rw [h.eq_def, h.eq_def, Bool.and_comm]

/-- in its place, behind those that are the same -/
def insR (lt : α → α → Bool) (x : α) : List α → List α
  | [] => [x]
  | y :: r => cond (lt x y) (x :: y :: r) (y :: insR lt x r)

/-- one by one -/
def isort (lt : α → α → Bool) (l : List α) : List α := l.foldl (fun p x => insR lt x p) []

/-- in order -/
def Asc (lt : α → α → Bool) (l : List α) : Prop := l.Pairwise fun a b => lt b a = false

/-- each one once, of those that stand side by side; the first one stays -/
def compGoB (eq : α → α → Bool) (p : α) : List α → List α
  | [] => []
  | y :: r => cond (eq y p) (compGoB eq p r) (y :: compGoB eq y r)
def compB (eq : α → α → Bool) : List α → List α
  | [] => []
  | x :: r => x :: compGoB eq x r

/-- one more, but that one with its key is there -/
def putR (lt eq : α → α → Bool) (x : α) (q : List α) : List α := cond (q.any (eq x)) q (insR lt x q)

theorem insR_mem {x z : α} {l : List α} : z ∈ insR lt x l ↔ z = x ∨ z ∈ l := by
  induction l with
  | nil => simp [insR]
  | cons y r ih =>
    simp only [insR]
    cases lt x y with
    | true => simp
    | false => simp [ih]; constructor <;> rintro (h | h | h) <;> simp [h]

theorem insR_length (x : α) (l : List α) : (insR lt x l).length = l.length + 1 := by
  induction l with
  | nil => rfl
  | cons y r ih =>
    simp only [insR]
    cases lt x y <;> simp [ih]

theorem insR_asc (h : LO lt eq) {x : α} {l : List α} (hl : Asc lt l) : Asc lt (insR lt x l) := by
  induction l with
  | nil => simp [insR, Asc]
  | cons y r ih =>
    simp only [Asc, List.pairwise_cons] at hl ⊢
    simp only [insR]
    cases hx : lt x y with
    | true =>
      simp only [cond_true, List.pairwise_cons, List.mem_cons]
      refine ⟨?_, hl.1, hl.2⟩
      rintro z (rfl | hz)
      · exact h.asymm _ _ hx
      · exact h.asymm _ _ (h.lt_le hx (hl.1 z hz))
    | false =>
      simp only [cond_false, List.pairwise_cons]
      refine ⟨fun z hz => ?_, ih hl.2⟩
      rcases insR_mem.1 hz with rfl | hz
      · exact hx
      · exact hl.1 z hz

theorem isort_snoc (l : List α) (x : α) : isort lt (l ++ [x]) = insR lt x (isort lt l) := by simp [isort]

theorem isort_asc (h : LO lt eq) (l : List α) : Asc lt (isort lt l) := by
  have : ∀ (l p : List α), Asc lt p → Asc lt (l.foldl (fun p x => insR lt x p) p) := by
    intro l
    induction l with
    | nil => intro p hp; exact hp
    | cons y r ih => intro p hp; exact ih _ (insR_asc h hp)
  exact this l [] (by simp [Asc])

theorem isort_length (l : List α) : (isort lt l).length = l.length := by
  have : ∀ (l p : List α), (l.foldl (fun p x => insR lt x p) p).length = p.length + l.length := by
    intro l
    induction l with
    | nil => intro p; simp
    | cons y r ih => intro p; rw [List.foldl_cons, ih, insR_length]; simp; omega
  simpa [isort] using this l []

theorem isort_mem {z : α} (l : List α) : z ∈ isort lt l ↔ z ∈ l := by
  have : ∀ (l p : List α), z ∈ l.foldl (fun p x => insR lt x p) p ↔ z ∈ p ∨ z ∈ l := by
    intro l
    induction l with
    | nil => intro p; simp
    | cons y r ih => intro p; rw [List.foldl_cons, ih, insR_mem]; simp; constructor <;> rintro (h | h) <;> grind
  simpa [isort] using this l []

theorem compGoB_mem {p z : α} {l : List α} (h : z ∈ compGoB eq p l) : z ∈ l := by
  induction l generalizing p with
  | nil => simp [compGoB] at h
  | cons y r ih =>
    simp only [compGoB] at h
    cases hy : eq y p with
    | true => rw [hy] at h; exact List.mem_cons_of_mem _ (ih h)
    | false =>
      rw [hy] at h
      rcases List.mem_cons.1 h with rfl | h
      · exact List.mem_cons_self
      · exact List.mem_cons_of_mem _ (ih h)

theorem compB_mem {z : α} {l : List α} (h : z ∈ compB eq l) : z ∈ l := by
  cases l with
  | nil => simp [compB] at h
  | cons x r =>
    rcases List.mem_cons.1 h with rfl | h
    · exact List.mem_cons_self
    · exact List.mem_cons_of_mem _ (compGoB_mem h)

theorem any_false {x : α} {q : List α} (h : LO lt eq) (hq : ∀ z ∈ q, lt x z = true) : q.any (eq x) = false := by
  rw [List.any_eq_false]
  intro z hz he
  have := (h.eq_true.1 he).1
  rw [hq z hz] at this; cases this

theorem insR_front {x y : α} {q : List α} (hx : lt x y = true) : insR lt x (y :: q) = x :: y :: q := by simp [insR, hx]
theorem insR_back {x y : α} {q : List α} (hx : lt x y = false) : insR lt x (y :: q) = y :: insR lt x q := by simp [insR, hx]

theorem compGoB_ins (h : LO lt eq) (x : α) : ∀ (r : List α) (y : α), Asc lt (y :: r) → lt x y = false → compGoB eq y (insR lt x r) = cond (eq x y) (compGoB eq y r) (putR lt eq x (compGoB eq y r))
  | [], y, hs, hx => by
    simp only [insR, compGoB, putR, List.any_nil, cond_false]
  | z :: r, y, hs, hx => by
    have hs' := hs
    simp only [Asc, List.pairwise_cons, List.mem_cons] at hs'
    obtain ⟨hy, hz, hr⟩ := hs'
    have hyz : lt z y = false := hy z (.inl rfl)
    cases hxz : lt x z with
    | true =>
      rw [insR_front hxz]
      have ezx : eq z x = false := by
        rw [h.eq_symm, h.eq_def, hxz]; rfl
      have hall : ∀ w ∈ z :: compGoB eq z r, lt x w = true := by
        intro w hw
        rcases List.mem_cons.1 hw with rfl | hw
        · exact hxz
        · exact h.lt_le hxz (hz w (compGoB_mem hw))
      cases he : eq x y with
      | true => simp only [compGoB, he, cond_true]
      | false =>
        have ezy : eq z y = false := by
          rw [h.eq_def, hyz]
          have : lt y z = true := h.le_lt hx hxz
          rw [this]; rfl
        simp only [compGoB, he, ezx, ezy, cond_false, putR]
        rw [any_false h hall, cond_false, insR_front hxz]
    | false =>
      rw [insR_back hxz]
      cases hezy : eq z y with
      | true =>
        simp only [compGoB, hezy, cond_true]
        refine compGoB_ins h x r y ?_ hx
        simp only [Asc, List.pairwise_cons]
        exact ⟨fun w hw => hy w (.inr hw), hr⟩
      | false =>
        have hyz' : lt y z = true := by
          cases hh : lt y z with
          | true => rfl
          | false => rw [h.eq_def, hyz, hh] at hezy; cases hezy
        have hyx : lt y x = true := h.lt_le hyz' hxz
        have exy : eq x y = false := by rw [h.eq_def, hyx]; simp
        simp only [compGoB, hezy, cond_false, exy]
        rw [compGoB_ins h x r z (by simp only [Asc, List.pairwise_cons]; exact ⟨hz, hr⟩) hxz]
        cases hexz : eq x z with
        | true => simp only [cond_true, putR, List.any_cons, hexz, Bool.true_or]
        | false =>
          simp only [cond_false, putR, List.any_cons, hexz, Bool.false_or]
          cases ha : (compGoB eq z r).any (eq x) with
          | true => simp
          | false => simp only [cond_false]; rw [insR_back hxz]

theorem compB_ins (h : LO lt eq) (x : α) {p : List α} (hp : Asc lt p) : compB eq (insR lt x p) = putR lt eq x (compB eq p) := by
  cases p with
  | nil => rfl
  | cons y r =>
    have hs := hp
    simp only [Asc, List.pairwise_cons] at hs
    cases hx : lt x y with
    | true =>
      rw [insR_front hx]
      have eyx : eq y x = false := by rw [h.eq_symm, h.eq_def, hx]; rfl
      have hall : ∀ w ∈ y :: compGoB eq y r, lt x w = true := by
        intro w hw
        rcases List.mem_cons.1 hw with rfl | hw
        · exact hx
        · exact h.lt_le hx (hs.1 w (compGoB_mem hw))
      simp only [compB, compGoB, eyx, cond_false, putR]
      rw [any_false h hall, cond_false, insR_front hx]
    | false =>
      rw [insR_back hx]
      simp only [compB]
      rw [compGoB_ins h x r y hp hx]
      cases he : eq x y with
      | true => simp only [cond_true, putR, List.any_cons, he, Bool.true_or]
      | false =>
        simp only [cond_false, putR, List.any_cons, he, Bool.false_or]
        cases ha : (compGoB eq y r).any (eq x) with
        | true => simp
        | false => simp only [cond_false]; rw [insR_back hx]

/-- sorted and each once is put one by one -/
theorem compB_isort (h : LO lt eq) (l : List α) : compB eq (isort lt l) = l.foldl (fun q x => putR lt eq x q) [] := by
  have : ∀ (l p : List α), Asc lt p → compB eq (l.foldl (fun p x => insR lt x p) p) = l.foldl (fun q x => putR lt eq x q) (compB eq p) := by
    intro l
    induction l with
    | nil => intro p _; rfl
    | cons x r ih =>
      intro p hp
      simp only [List.foldl_cons]
      rw [ih _ (insR_asc h hp), compB_ins h x hp]
  exact this l [] (by simp [Asc])

/-! rows of lists, read off the end -/

theorem LO.eq_cong (h : LO lt eq) {x p : α} (hx : eq x p = true) (y : α) : eq y x = eq y p := by
  obtain ⟨h1, h2⟩ := h.eq_true.1 hx
  rw [Bool.eq_iff_iff, h.eq_true, h.eq_true]
  exact ⟨fun ⟨a, b⟩ => ⟨h.ntrans _ _ _ a h1, h.ntrans _ _ _ h2 b⟩, fun ⟨a, b⟩ => ⟨h.ntrans _ _ _ a h2, h.ntrans _ _ _ h1 b⟩⟩

theorem compGoB_snoc (h : LO lt eq) (q y : α) : ∀ (p : α) (l : List α), (p :: l).getLast? = some q → compGoB eq p (l ++ [y]) = cond (eq y q) (compGoB eq p l) (compGoB eq p l ++ [y])
  | p, [], hq => by
    simp at hq
    subst hq
    simp [compGoB]
  | p, x :: r, hq => by
    rw [List.getLast?_cons_cons] at hq
    simp only [List.cons_append, compGoB]
    cases hx : eq x p with
    | true =>
      simp only [cond_true]
      cases r with
      | nil =>
        simp at hq
        subst hq
        simp [compGoB, h.eq_cong hx y]
      | cons z s => exact compGoB_snoc h q y p (z :: s) (by rw [List.getLast?_cons_cons] at hq ⊢; exact hq)
    | false =>
      simp only [cond_false]
      rw [compGoB_snoc h q y x r hq]
      cases hy : eq y q <;> simp

theorem compB_take_succ (h : LO lt eq) {l : List α} {m : Nat} (hm : 0 < m) {a b : α} (ha : l[m - 1]? = some a) (hb : l[m]? = some b) : compB eq (l.take (m + 1)) = cond (eq b a) (compB eq (l.take m)) (compB eq (l.take m) ++ [b]) := by
  have hlt : m < l.length := (List.getElem?_eq_some_iff.1 hb).1
  have e : l.take (m + 1) = l.take m ++ [b] := by
    rw [List.take_add_one, hb]; rfl
  rw [e]
  cases hl : l.take m with
  | nil => simp at hl; rcases hl with h | h <;> (subst h; simp at *)
  | cons x r =>
    have hlast : (x :: r).getLast? = some a := by
      rw [← hl, List.getLast?_eq_getElem?, List.length_take, List.getElem?_take, Nat.min_eq_left (by omega), if_pos (by omega)]; exact ha
    simp only [List.cons_append, compB]
    rw [compGoB_snoc h a b x r hlast]
    cases eq b a <;> simp

theorem compB_one (l : List α) : compB eq (l.take 1) = l.take 1 := by
  cases l with
  | nil => rfl
  | cons x r => simp [compB, compGoB]

end
end Go.Xl
/-
  Lists without neighbours that are the same.
-/
set_option linter.unusedVariables false
set_option linter.unusedSimpArgs false
namespace Go.Proofs.Xh
open Go Go.Xl Go.Ab Go.Proofs Go.Sort

section
variable {α : Type} [DecidableEq α]

def compGo (p : α) : List α → List α
  | [] => []
  | y :: r => if y = p then compGo p r else y :: compGo y r

/-- each one once, of those that stand side by side -/
def comp : List α → List α
  | [] => []
  | x :: r => x :: compGo x r

theorem compGo_snoc (q y : α) : ∀ (p : α) (l : List α), (p :: l).getLast? = some q → compGo p (l ++ [y]) = if y = q then compGo p l else compGo p l ++ [y]
  | p, [], h => by
    simp at h
    subst h
    simp [compGo]
  | p, x :: r, h => by
    rw [List.getLast?_cons_cons] at h
    simp only [List.cons_append, compGo]
    have ih := compGo_snoc q y x r h
    by_cases hx : x = p
    · subst hx
      rw [if_pos rfl, if_pos rfl, ih]
    · rw [if_neg hx, if_neg hx, ih]
      by_cases hy : y = q
      · rw [if_pos hy, if_pos hy]
      · rw [if_neg hy, if_neg hy]; rfl

theorem comp_take_succ {l : List α} {m : Nat} (hm : 0 < m) {a b : α} (ha : l[m - 1]? = some a) (hb : l[m]? = some b) : comp (l.take (m + 1)) = if b = a then comp (l.take m) else comp (l.take m) ++ [b] := by
  have hlt : m < l.length := (List.getElem?_eq_some_iff.1 hb).1
  have e : l.take (m + 1) = l.take m ++ [b] := by
    rw [List.take_add_one, hb]; rfl
  rw [e]
  cases hl : l.take m with
  | nil => simp at hl; rcases hl with h | h <;> (subst h; simp at *)
  | cons x r =>
    have hlast : (x :: r).getLast? = some a := by
      rw [← hl, List.getLast?_eq_getElem?, List.length_take, List.getElem?_take, Nat.min_eq_left (by omega), if_pos (by omega)]; exact ha
    simp only [List.cons_append, comp]
    rw [compGo_snoc a b x r hlast]
    by_cases h : b = a
    · rw [if_pos h, if_pos h]
    · rw [if_neg h, if_neg h]

theorem comp_one (l : List α) : comp (l.take 1) = l.take 1 := by
  cases l with
  | nil => rfl
  | cons x r => simp [comp, compGo]
end

theorem dot_eq (e f : Int × Int) : (e.fst == f.fst && e.snd == f.snd) = decide (e = f) := by
  obtain ⟨a, b⟩ := e; obtain ⟨c, d⟩ := f
  by_cases h1 : a = c <;> by_cases h2 : b = d <;> simp [h1, h2]

end Go.Proofs.Xh

/-
  slices.Compact at dots.
-/
set_option linter.unusedVariables false
set_option linter.unusedSimpArgs false
namespace Go.Proofs.Xh
open Go Go.Xl Go.Ab Go.Proofs Go.Sort

theorem getElem?_lt {α : Type} {l : List α} {i : Nat} (h : i < l.length) : l[i]? = some l[i] := List.getElem?_eq_getElem h

theorem toNat_nat (n : Nat) : ((n : Int)).toNat = n := rfl

/-- what Compact is said to do -/
def CompactQ (l : List (Int × Int)) (r : List (Int × Int) × Nat) : Prop := r.1.take r.2 = comp l ∧ r.2 ≤ r.1.length

theorem compact_eq (N : Nat) (l : List (Int × Int)) (hb : l.length < 4611686018427387904) (hN : l.length < N) : ∃ r, F_slices_Compact_sDot_Dot N l l.length = some r ∧ CompactQ l r := by
  unfold F_slices_Compact_sDot_Dot
  simp only [cond_eq_ite, dot_eq]
  by_cases h2 : ((l.length : Nat) : Int) < 2
  · rw [if_pos (by simpa using h2)]
    refine ⟨_, rfl, ?_, Nat.le_refl _⟩
    have : l = l.take 1 := by rw [List.take_of_length_le (by omega)]
    rw [List.take_length, this, comp_one]
  · rw [if_neg (by simpa using h2)]
    refine iter_ok (fun n z => ∃ k : Nat, z = (((k : Int), ()), (), (), l, ()) ∧ 1 ≤ k ∧ k ≤ l.length ∧ n = l.length - k ∧ comp (l.take k) = l.take k) ?_ N (l.length - 1) _ ⟨1, rfl, by omega, by omega, rfl, comp_one l⟩ (by omega)
    rintro n z rec ⟨k, rfl, k1, k2, hn, hc⟩ ih
    simp only
    by_cases hk : k < l.length
    · have e1 : IntKind.i64.wrap ((k : Int) - 1) = ((k - 1 : Nat) : Int) := i64_pred (by omega) (by omega)
      have e2 : IntKind.i64.wrap ((k : Int) + 1) = ((k + 1 : Nat) : Int) := i64_succ (by omega)
      simp only [e1, e2, toNat_nat, Nat.zero_add, getElem?_lt hk, getElem?_lt (show k - 1 < l.length by omega), Option.bind_some]
      rw [if_pos (by simp; omega), if_pos (by simp; omega), if_pos (by simp; omega)]
      have hstep := comp_take_succ (l := l) (m := k) (by omega) (getElem?_lt (show k - 1 < l.length by omega)) (getElem?_lt hk)
      by_cases he : l[k] = l[k - 1]
      · rw [if_pos (by simpa using he), if_pos (by simp [cutOk]; omega)]
        refine iter_ok (fun n z => ∃ (i q : Nat) (c : List (Int × Int)), z = (((i : Int), (q : Int), ()), (), (), c, ()) ∧ 1 ≤ q ∧ k + q ≤ l.length ∧ i + 1 ≤ k + q ∧ c.length = l.length ∧
          (∀ j, i ≤ j → c[j]? = l[j]?) ∧ c.take i = comp (l.take (k + q)) ∧ n = l.length - (k + q)) ?_ N (l.length - (k + 1)) _
          ⟨k, 1, l, rfl, by omega, by omega, by omega, rfl, fun _ _ => rfl, by rw [hstep, if_pos he, hc], rfl⟩ (by omega)
        rintro n z rec ⟨i, q, c, rfl, q1, q2, q3, hcl, hcj, hct, hn⟩ ih'
        simp only
        by_cases hq : k + q < l.length
        · have f1 : IntKind.i64.wrap ((q : Int) - 1) = ((q - 1 : Nat) : Int) := i64_pred (by omega) (by omega)
          have f2 : IntKind.i64.wrap ((q : Int) + 1) = ((q + 1 : Nat) : Int) := i64_succ (by omega)
          have f3 : IntKind.i64.wrap ((i : Int) + 1) = ((i + 1 : Nat) : Int) := i64_succ (by omega)
          have g1 : c[k + q]? = some l[k + q] := by rw [hcj _ (by omega), getElem?_lt hq]
          have g2 : c[k + (q - 1)]? = some l[k + (q - 1)] := by rw [hcj _ (by omega), getElem?_lt (by omega)]
          have g3 : c[i]? = some (c[i]'(by omega)) := getElem?_lt (by omega)
          simp only [f1, f2, f3, toNat_nat, Nat.zero_add, g1, g2, g3, Option.bind_some]
          rw [if_pos (by simp; omega), if_pos (by simp; omega), if_pos (by simp; omega)]
          have hs := comp_take_succ (l := l) (m := k + q) (a := l[k + (q - 1)]) (by omega) (by rw [show k + q - 1 = k + (q - 1) by omega]; exact getElem?_lt _) (getElem?_lt hq)
          by_cases hne : l[k + q] = l[k + (q - 1)]
          · rw [if_neg (by simpa using hne)]
            refine ih' (l.length - (k + (q + 1))) _ (by omega) ⟨i, q + 1, c, rfl, by omega, by omega, by omega, hcl, hcj, ?_, rfl⟩
            rw [hct, ← Nat.add_assoc, hs, if_pos hne]
          · rw [if_pos (by simpa using hne), if_pos (by simp; omega), if_pos (by simp; omega)]
            refine ih' (l.length - (k + (q + 1))) _ (by omega) ⟨i + 1, q + 1, c.set i l[k + q], rfl, by omega, by omega, by omega, by simpa using hcl, ?_, ?_, rfl⟩
            · intro j hj
              rw [List.getElem?_set_ne (by omega)]
              exact hcj j (by omega)
            · rw [← Nat.add_assoc, hs, if_neg hne, ← hct, List.take_add_one, List.take_set_of_le (Nat.le_refl _), List.getElem?_set_self (by omega)]; rfl
        · rw [if_neg (by simp; omega), if_pos (by simp [cutOk]; omega), if_pos (by simp [cutOk]; omega)]
          refine ⟨_, rfl, ?_, ?_⟩
          · have : k + q = l.length := by omega
            rw [this, List.take_length] at hct
            simp only [toNat_nat, Nat.zero_add, Nat.sub_zero, CompactQ]
            rw [← hct, List.take_take, Nat.min_self]
          · simp only [toNat_nat, Nat.sub_zero, Nat.zero_add, List.length_take]; omega
      · rw [if_neg (by simpa using he)]
        refine ih (l.length - (k + 1)) _ (by omega) ⟨k + 1, rfl, by omega, by omega, rfl, ?_⟩
        rw [hstep, if_neg he, hc, List.take_add_one, getElem?_lt hk]; rfl
    · rw [if_neg (by simp; omega)]
      refine ⟨_, rfl, ?_, Nat.le_refl _⟩
      have : k = l.length := by omega
      subst this
      rw [List.take_length] at hc ⊢
      exact hc.symm

end Go.Proofs.Xh

/-
  dot.Sort: in order, each once.
-/
set_option linter.unusedVariables false
set_option linter.unusedSimpArgs false
namespace Go.Proofs.Xh
open Go Go.Xl Go.Ab Go.Proofs Go.Sort

/-- dots in order, each once -/
def sortDots (l : List (Int × Int)) : List (Int × Int) := comp (F_SortFunc_Dot l)

theorem sort_length (l : List (Int × Int)) : (F_SortFunc_Dot l).length = l.length := by simp [F_SortFunc_Dot]

theorem dotSort_eq (N : Nat) (l : List (Int × Int)) (hb : l.length * 16 ≤ 140737488355328) (hN : l.length < N) : F_dot_Sort N l = some (sortDots l) := by
  unfold F_dot_Sort
  cases l with
  | nil =>
    simp only [listCase, optCase, Option.bind_some, sortDots, F_SortFunc_Dot, List.mergeSort_nil, comp]
    rfl
  | cons x r =>
    have hlen : (x :: r).length < 4611686018427387904 := by omega
    have hfit : fitsB (x :: r).length 16 = true := by
      simp only [fitsB, Bool.and_eq_true, decide_eq_true_eq]
      omega
    generalize hl : x :: r = l at *
    have hs := sort_length l
    obtain ⟨q, hq, h1, h2⟩ := compact_eq N (F_SortFunc_Dot l) (by omega) (by omega)
    rw [hs] at hq
    have e : listCase l (some none) (fun (y : Int × Int) r => bif fitsB (y :: r).length 16 then some (some (y :: r, (y :: r).length)) else none) = some (some (l, l.length)) := by
      subst hl
      simp only [listCase, hfit, cond_true]
    rw [e]
    simp only [Option.bind_some, optCase, List.take_length, List.drop_length, List.append_nil, hq]
    have b1 : Nat.ble l.length l.length = true := by simp
    have b2 : Nat.ble l.length 4611686018427387903 = true := by simp only [Nat.ble_eq]; omega
    have b3 : Nat.ble (0 + q.2) q.1.length = true := by simp only [Nat.ble_eq]; omega
    simp only [b1, b2, b3, cond_true, List.drop_zero, h1]
    rfl

end Go.Proofs.Xh

/-
  EventTells: plain laws.
-/
set_option linter.unusedVariables false
set_option linter.unusedSimpArgs false
namespace Go.Proofs.Xh
open Go Go.Xl Go.Ab Go.Proofs Go.Sort

theorem getl {α : Type} {l : List α} {i : Nat} (h : i < l.length) : l[i]? = some l[i] := List.getElem?_eq_getElem h

theorem dec_lt (a b : Nat) : decide ((a : Int) < (b : Int)) = decide (a < b) := by simp

theorem refHas_eq (N : Nat) (l : List (Int × Int)) (d : Int × Int) (hl : l.length < 9223372036854775807) (hN : l.length < N) : F_epitaphref07_Has N l d = some (decide (d ∈ l)) := by
  unfold F_epitaphref07_Has
  refine (scan_eq l.length (fun k => some (decide (d ∈ l.drop k))) 0 ?_ ?_ N hN).trans rfl
  · intro rec k _ hk hr
    simp only [dec_lt, at?_nat, getl hk, Option.bind_some, i64_succ (show k + 1 < 9223372036854775808 by omega), hr, decide_eq_true hk, cond_true, dot_eq]
    have e : l.drop k = l[k] :: l.drop (k + 1) := List.drop_eq_getElem_cons hk
    rw [e]
    by_cases h : l[k] = d
    · subst h; simp [-List.getElem_cons_drop]
    · rw [decide_eq_false h, cond_false]
      have : (d ∈ l[k] :: l.drop (k + 1)) ↔ d ∈ l.drop (k + 1) := by simp [-List.getElem_cons_drop, Ne.symm h]
      simp only [this]
  · intro rec k hk
    simp only [dec_lt, decide_eq_false (show ¬ k < l.length by omega), cond_false]
    rw [List.drop_eq_nil_of_le hk]; rfl

theorem index_eq (N : Nat) (l : List (Int × Int)) (d : Int × Int) (hl : l.length < 9223372036854775807) (hN : l.length < N) :
    ∃ i : Int, F_slices_Index_sDot_Dot N l d = some i ∧ decide (0 ≤ i) = decide (d ∈ l) := by
  unfold F_slices_Index_sDot_Dot
  refine iter_ok (Q := fun i : Int => decide (0 ≤ i) = decide (d ∈ l)) (fun n z => ∃ k : Nat, z = (((k : Int), ()), (), (), ()) ∧ k ≤ l.length ∧ n = l.length - k ∧ ¬ d ∈ l.take k) ?_ N l.length _ ⟨0, rfl, Nat.zero_le _, rfl, by simp⟩ hN
  rintro n z rec ⟨k, rfl, h1, h2, h3⟩ ih
  by_cases hk : k < l.length
  · simp only [dec_lt, at?_nat, getl hk, Option.bind_some, i64_succ (show k + 1 < 9223372036854775808 by omega), decide_eq_true hk, cond_true, dot_eq]
    by_cases he : d = l[k]
    · refine ⟨(k : Int), by simp [he], ?_⟩
      have : d ∈ l := by rw [he]; exact List.getElem_mem hk
      rw [decide_eq_true this]; simp
    · rw [decide_eq_false he, cond_false]
      refine ih (l.length - (k + 1)) _ (by omega) ⟨k + 1, rfl, by omega, rfl, ?_⟩
      rw [List.take_add_one, List.mem_append, getl hk]
      simp [h3, he]
  · simp only [dec_lt, decide_eq_false hk, cond_false]
    refine ⟨-1, rfl, ?_⟩
    rw [List.take_of_length_le (by omega)] at h3
    rw [decide_eq_false h3]; rfl

theorem has_eq (N : Nat) (l : List (Int × Int)) (d : Int × Int) (hl : l.length < 9223372036854775807) (hN : l.length < N) : F_dot_Has N l d = some (decide (d ∈ l)) := by
  obtain ⟨i, h1, h2⟩ := index_eq N l d hl hN
  unfold F_dot_Has F_slices_Contains_sDot_Dot
  rw [h1]
  simp only [Option.bind_some, h2]

theorem same_eq (N : Nat) (l m : List (Int × Int)) (hl : l.length < 9223372036854775807) (hN : l.length < N) : F_epitaphref07_Same N l m = some (decide (l = m)) := by
  unfold F_epitaphref07_Same
  by_cases hlen : l.length = m.length
  · have h0 : ((l.length : Int) != (m.length : Int)) = false := by simp [hlen]
    simp only [h0, cond_false]
    refine (scan_eq l.length (fun k => some (decide (l.drop k = m.drop k))) 0 ?_ ?_ N hN).trans rfl
    · intro rec k _ hk hr
      have hk' : k < m.length := by omega
      simp only [dec_lt, at?_nat, getl hk, getl hk', Option.bind_some, i64_succ (show k + 1 < 9223372036854775808 by omega), hr, decide_eq_true hk, cond_true, dot_eq]
      have e1 : l.drop k = l[k] :: l.drop (k + 1) := List.drop_eq_getElem_cons hk
      have e2 : m.drop k = m[k] :: m.drop (k + 1) := List.drop_eq_getElem_cons hk'
      rw [e1, e2]
      by_cases he : l[k] = m[k] <;> simp [-List.getElem_cons_drop, he]
    · intro rec k hk
      simp only [dec_lt, decide_eq_false (show ¬ k < l.length by omega), cond_false]
      rw [List.drop_eq_nil_of_le hk, List.drop_eq_nil_of_le (by omega)]; rfl
  · have h0 : ((l.length : Int) != (m.length : Int)) = true := by simp; omega
    have h1 : ¬ l = m := fun h => hlen (by rw [h])
    simp only [h0, cond_true, decide_eq_false h1]

theorem equal_eq (N : Nat) (l m : List (Int × Int)) (hl : l.length < 9223372036854775807) (hN : l.length < N) : F_dot_Same N l m = some (decide (l = m)) := by
  have : F_slices_Equal_sDot_Dot N l m = F_epitaphref07_Same N l m := rfl
  unfold F_dot_Same
  rw [this, same_eq N l m hl hN]; rfl

end Go.Proofs.Xh

/-
  EventTells: lists that rise, dots of numbers.
-/
set_option linter.unusedVariables false
set_option linter.unusedSimpArgs false
namespace Go.Proofs.Xh
open Go Go.Xl Go.Ab Go.Proofs Go.Sort

def rise : List (Int × Int) → Bool
  | [] => true
  | [_] => true
  | x :: y :: r => decide (cfDot x y < 0) && rise (y :: r)

theorem rise_short {l : List (Int × Int)} (h : l.length ≤ 1) : rise l = true := by
  match l with
  | [] => rfl
  | [_] => rfl
  | _ :: _ :: _ => simp at h

theorem rise_drop {l : List (Int × Int)} {k : Nat} (h0 : 0 < k) (hk : k < l.length) : rise (l.drop (k - 1)) = (decide (cfDot l[k - 1] l[k] < 0) && rise (l.drop k)) := by
  have e1 : l.drop (k - 1) = l[k - 1] :: l.drop (k - 1 + 1) := List.drop_eq_getElem_cons (by omega)
  have e2 : l.drop k = l[k] :: l.drop (k + 1) := List.drop_eq_getElem_cons hk
  rw [show k - 1 + 1 = k by omega] at e1
  rw [e1, e2, rise]

theorem refCmp_eq (N : Nat) (x y : Int × Int) : F_epitaphref07_Cmp N x y = some (cfDot x y) := by
  simp only [F_epitaphref07_Cmp, cfDot, cond_eq_ite]
  grind

theorem rising_eq (N : Nat) (l : List (Int × Int)) (hl : l.length < 9223372036854775807) (hN : l.length < N) : F_dot_Rising N l = some (rise l) := by
  unfold F_dot_Rising
  refine (scan_eq l.length (fun k => some (rise (l.drop (k - 1)))) 0 ?_ ?_ N hN).trans rfl
  · intro rec k _ hk hr
    by_cases h0 : 0 < k
    · have h0' : decide ((0 : Int) < (k : Int)) = true := by simp; omega
      have e1 : IntKind.i64.wrap ((k : Int) - 1) = ((k - 1 : Nat) : Int) := i64_pred h0 (by omega)
      simp only [dec_lt, h0', e1, at?_nat, getl hk, getl (show k - 1 < l.length by omega), Option.bind_some, i64_succ (show k + 1 < 9223372036854775808 by omega), hr, decide_eq_true hk, cond_true, Cmp_eq]
      rw [rise_drop h0 hk, show k + 1 - 1 = k by omega]
      by_cases hc : 0 ≤ cfDot l[k - 1] l[k]
      · simp only [decide_eq_true hc, cond_true, decide_eq_false (show ¬ cfDot l[k - 1] l[k] < 0 by omega), Bool.false_and]
      · simp only [decide_eq_false hc, cond_false, decide_eq_true (show cfDot l[k - 1] l[k] < 0 by omega), Bool.true_and]
    · have : k = 0 := by omega
      subst this
      have h0' : decide ((0 : Int) < ((0 : Nat) : Int)) = false := by simp
      simp only [dec_lt, h0', i64_succ (show 0 + 1 < 9223372036854775808 by omega), hr, decide_eq_true hk, cond_true, cond_false]
  · intro rec k hk
    simp only [dec_lt, decide_eq_false (show ¬ k < l.length by omega), cond_false]
    rw [rise_short]; rw [List.length_drop]; omega

theorem refRising_eq (N : Nat) (l : List (Int × Int)) (hl : l.length < 9223372036854775807) (hN : l.length < N) : F_epitaphref07_Rising N l = some (rise l) := by
  unfold F_epitaphref07_Rising
  refine (scan_eq l.length (fun k => some (rise (l.drop (k - 1)))) 1 ?_ ?_ N hN).trans rfl
  · intro rec k h0 hk hr
    have e1 : IntKind.i64.wrap ((k : Int) - 1) = ((k - 1 : Nat) : Int) := i64_pred h0 (by omega)
    simp only [dec_lt, e1, at?_nat, getl hk, getl (show k - 1 < l.length by omega), Option.bind_some, i64_succ (show k + 1 < 9223372036854775808 by omega), hr, decide_eq_true hk, cond_true, refCmp_eq]
    rw [rise_drop h0 hk, show k + 1 - 1 = k by omega]
    by_cases hc : 0 ≤ cfDot l[k - 1] l[k]
    · simp only [decide_eq_true hc, cond_true, decide_eq_false (show ¬ cfDot l[k - 1] l[k] < 0 by omega), Bool.false_and]
    · simp only [decide_eq_false hc, cond_false, decide_eq_true (show cfDot l[k - 1] l[k] < 0 by omega), Bool.true_and]
  · intro rec k hk
    simp only [dec_lt, decide_eq_false (show ¬ k < l.length by omega), cond_false]
    rw [rise_short]; rw [List.length_drop]; omega

end Go.Proofs.Xh

/-
  Dots put one by one; the dots of events.
-/
set_option linter.unusedVariables false
set_option linter.unusedSimpArgs false
set_option maxRecDepth 100000
namespace Go.Proofs.Xh
open Go Go.Xl Go.Ab Go.Proofs Go.Sort

def ltD (x y : Int × Int) : Bool := ltOf cfDot x y

theorem ltD_asymm (x y : Int × Int) (h : ltD x y = true) : ltD y x = false := by
  unfold ltD at *
  rw [dot_lt] at *
  simp at *; omega
theorem ltD_trans {x y z : Int × Int} (h : ltD x y = true) (h' : ltD y z = true) : ltD x z = true := by
  unfold ltD at *
  rw [dot_lt] at *
  simp at *; omega
theorem ltD_total (x y : Int × Int) (h1 : ltD x y = false) (h2 : ltD y x = false) : x = y := dot_total x y h1 h2
theorem gtD (x y : Int × Int) : decide (0 < cfDot x y) = ltD y x := by
  unfold ltD
  rw [dot_lt, Bool.eq_iff_iff]
  unfold cfDot
  simp only [decide_eq_true_eq]
  grind
theorem ltD_def (x y : Int × Int) : decide (cfDot x y < 0) = ltD x y := rfl

/-- a dot more -/
def putF (d : Int × Int) (l : List (Int × Int)) : List (Int × Int) := l.filter (fun x => ltD x d) ++ [d] ++ l.filter (fun x => ltD d x)

theorem putF_length (d : Int × Int) (l : List (Int × Int)) : (putF d l).length ≤ l.length + 1 := by
  unfold putF
  have : ∀ l : List (Int × Int), (l.filter (fun x => ltD x d)).length + (l.filter (fun x => ltD d x)).length ≤ l.length := by
    intro l
    induction l with
    | nil => simp
    | cons x r ih =>
      simp only [List.filter_cons]
      cases h1 : ltD x d with
      | true => rw [ltD_asymm _ _ h1]; simp; omega
      | false => cases ltD d x <;> simp <;> omega
  have := this l
  simp; omega

theorem putF_mem (d x : Int × Int) (l : List (Int × Int)) : x ∈ putF d l ↔ x = d ∨ x ∈ l := by
  unfold putF
  simp only [List.mem_append, List.mem_filter, List.mem_singleton]
  constructor
  · rintro ((⟨h, _⟩ | h) | ⟨h, _⟩)
    · exact .inr h
    · exact .inl h
    · exact .inr h
  · rintro (h | h)
    · exact .inl (.inr h)
    · cases h1 : ltD x d with
      | true => exact .inl (.inl ⟨h, rfl⟩)
      | false =>
        cases h2 : ltD d x with
        | true => exact .inr ⟨h, rfl⟩
        | false => exact .inl (.inr (ltD_total _ _ h1 h2))

theorem putF_asc (d : Int × Int) (l : List (Int × Int)) (h : SAsc ltD l) : SAsc ltD (putF d l) := by
  unfold putF SAsc
  rw [List.append_assoc, List.pairwise_append, List.singleton_append, List.pairwise_cons]
  refine ⟨List.Pairwise.filter _ h, ⟨fun y hy => (List.mem_filter.1 hy).2, List.Pairwise.filter _ h⟩, ?_⟩
  intro a ha b hb
  have h1 := (List.mem_filter.1 ha).2
  rcases List.mem_cons.1 hb with rfl | hb
  · exact h1
  · exact ltD_trans h1 (List.mem_filter.1 hb).2

/-- dots put one by one -/
def putsF (l : List (Int × Int)) : List (Int × Int) := l.foldl (fun q d => putF d q) []

theorem putsF_facts : ∀ (l q : List (Int × Int)), SAsc ltD q → SAsc ltD (l.foldl (fun q d => putF d q) q) ∧ (∀ x, x ∈ l.foldl (fun q d => putF d q) q ↔ x ∈ q ∨ x ∈ l) ∧ (l.foldl (fun q d => putF d q) q).length ≤ q.length + l.length
  | [], q, h => ⟨h, by simp, by simp⟩
  | d :: r, q, h => by
    obtain ⟨h1, h2, h3⟩ := putsF_facts r (putF d q) (putF_asc d q h)
    refine ⟨h1, fun x => ?_, ?_⟩
    · rw [List.foldl_cons, h2, putF_mem]; simp; constructor <;> rintro (h | h) <;> grind
    · rw [List.foldl_cons]
      have := putF_length d q
      simp; omega

theorem compGo_mem {p x : Int × Int} : ∀ {l : List (Int × Int)}, (x = p ∨ x ∈ compGo p l) ↔ (x = p ∨ x ∈ l)
  | [] => by simp [compGo]
  | y :: r => by
    simp only [compGo]
    by_cases hy : y = p
    · subst hy
      rw [if_pos rfl, compGo_mem (l := r)]; simp
    · rw [if_neg hy]
      have := compGo_mem (p := y) (x := x) (l := r)
      simp only [List.mem_cons]
      rw [this]

theorem compGo_asc : ∀ (p : Int × Int) (l : List (Int × Int)), (p :: l).Pairwise (fun a b => ltD b a = false) → SAsc ltD (p :: compGo p l)
  | p, [], h => by simp [compGo, SAsc]
  | p, y :: r, h => by
    have h' := h
    simp only [List.pairwise_cons, List.mem_cons] at h'
    simp only [compGo]
    by_cases hy : y = p
    · subst hy
      rw [if_pos rfl]
      exact compGo_asc y r (by simp only [List.pairwise_cons]; exact ⟨fun a ha => h'.1 a (.inr ha), h'.2.2⟩)
    · rw [if_neg hy]
      have ih := compGo_asc y r (by simp only [List.pairwise_cons]; exact h'.2)
      have hpy : ltD p y = true := by
        cases hh : ltD p y with
        | true => rfl
        | false => exact absurd (ltD_total _ _ (h'.1 y (.inl rfl)) hh) hy
      unfold SAsc at *
      rw [List.pairwise_cons]
      refine ⟨fun a ha => ?_, ih⟩
      rcases List.mem_cons.1 ha with rfl | ha
      · exact hpy
      · exact ltD_trans hpy ((List.pairwise_cons.1 ih).1 a ha)

theorem sortDots_facts (l : List (Int × Int)) : SAsc ltD (sortDots l) ∧ ∀ x, x ∈ sortDots l ↔ x ∈ l := by
  have hp : (F_SortFunc_Dot l).Pairwise (fun a b => ltD b a = false) := by
    have := List.pairwise_mergeSort (le := fun x y => !(ltOf cfDot) y x) (by
      intro a b c h1 h2
      simp only [Bool.not_eq_true'] at *
      exact dot_swo.ntrans _ _ _ h2 h1) (by
      intro a b
      cases h : ltOf cfDot b a with
      | false => simp [h]
      | true => simp [h, ltD_asymm b a h] ; exact ltD_asymm b a h) l
    refine this.imp ?_
    intro a b h
    simpa [ltD] using h
  have hm : ∀ x, x ∈ F_SortFunc_Dot l ↔ x ∈ l := fun x => by simp [F_SortFunc_Dot]
  unfold sortDots
  cases hs : F_SortFunc_Dot l with
  | nil =>
    rw [hs] at hm
    exact ⟨by simp [comp, SAsc], by simpa [comp] using hm⟩
  | cons p r =>
    rw [hs] at hm hp
    refine ⟨compGo_asc p r hp, fun x => ?_⟩
    simp only [comp, List.mem_cons]
    rw [compGo_mem, ← hm x, List.mem_cons]

theorem sortDots_puts (l : List (Int × Int)) : sortDots l = putsF l := by
  obtain ⟨h1, h2⟩ := sortDots_facts l
  obtain ⟨h3, h4, _⟩ := putsF_facts l [] (by simp [SAsc])
  exact SAsc.ext ltD_asymm h1 h3 fun x => by rw [h2, putsF, h4]; simp

theorem refPut_eq (N : Nat) (l : List (Int × Int)) (d : Int × Int) (hl : l.length ≤ 1000000) (hN : 1000000 < N) : F_epitaphref07_Put N l d = some (putF d l) := by
  unfold F_epitaphref07_Put
  have e0 := foldl_filter (fun x => ltD x d) l []
  rw [fold_loop l (fun a x => cond (ltD x d) (a ++ [x]) a) [] (fun a => some (a ++ [d] ++ l.filter (fun x => ltD d x))) ?_ ?_ N (by omega), e0]
  · rfl
  · intro rec k a hk ha
    have hal : a.length ≤ k := by
      rw [ha, foldl_filter, List.nil_append]
      have := List.length_filter_le (fun x => ltD x d) (l.take k)
      rw [List.length_take] at this; omega
    have hf : fitsB (a.length + [l[k]].length) 16 = true := fit (by simp; omega) (by simp; omega)
    simp only [dec_lt, decide_eq_true hk, cond_true, at?_nat, getl hk, Option.bind_some, refCmp_eq, ltD_def, hf, i64_succ (show k + 1 < 9223372036854775808 by omega)]
    cases ltD l[k] d <;> rfl
  · intro rec
    have hal : (l.foldl (fun a x => cond (ltD x d) (a ++ [x]) a) []).length ≤ l.length := by
      rw [foldl_filter, List.nil_append]
      exact List.length_filter_le _ _
    generalize l.foldl (fun a x => cond (ltD x d) (a ++ [x]) a) [] = b at *
    have hf : fitsB (b.length + [d].length) 16 = true := fit (by simp; omega) (by simp; omega)
    simp only [dec_lt, decide_eq_false (Nat.lt_irrefl _), cond_false, hf, cond_true]
    have e1 := foldl_filter (fun x => ltD d x) l (b ++ [d])
    rw [fold_loop l (fun a x => cond (ltD d x) (a ++ [x]) a) (b ++ [d]) (fun a => some a) ?_ ?_ N (by omega), e1]
    · intro rec k a hk ha
      have hal : a.length ≤ k + b.length + 1 := by
        rw [ha, foldl_filter]
        have := List.length_filter_le (ltD d) (l.take k)
        rw [List.length_take] at this
        rw [List.length_append, List.length_append, List.length_singleton]
        omega
      have hf : fitsB (a.length + [l[k]].length) 16 = true := fit (by simp; omega) (by simp; omega)
      simp only [dec_lt, decide_eq_true hk, cond_true, at?_nat, getl hk, Option.bind_some, refCmp_eq, gtD, hf, i64_succ (show k + 1 < 9223372036854775808 by omega)]
      cases ltD d l[k] <;> rfl
    · intro rec
      simp only [dec_lt, decide_eq_false (Nat.lt_irrefl _), cond_false]

end Go.Proofs.Xh
/-
  DotOrders, DotLists: they are true.
-/
set_option linter.unusedVariables false
set_option linter.unusedSimpArgs false
set_option maxRecDepth 100000
namespace Go.Proofs.Xh
open Go Go.Xl Go.Ab Go.Proofs Go.Sort

theorem refSort_eq (N : Nat) (l : List (Int × Int)) (hl : l.length ≤ 1000) (hN : 1000000 < N) : F_epitaphref07_Sort N l = some (sortDots l) := by
  rw [sortDots_puts]
  unfold F_epitaphref07_Sort
  rw [fold_loop l (fun q d => putF d q) [] (fun a => some a) ?_ ?_ N (by omega)]
  · rfl
  · intro rec k a hk ha
    have hal : a.length ≤ 1000 := by
      have := (putsF_facts (l.take k) [] (by simp [SAsc])).2.2
      rw [← ha, List.length_take] at this
      simp at this; omega
    simp only [dec_lt, decide_eq_true hk, cond_true, at?_nat, getl hk, Option.bind_some]
    rw [refPut_eq N a _ (by omega) hN, Option.bind_some, i64_succ (by omega)]
  · intro rec
    simp only [dec_lt, decide_eq_false (Nat.lt_irrefl _), cond_false]

theorem sortDots_len (l : List (Int × Int)) : (sortDots l).length ≤ l.length := by
  rw [sortDots_puts]
  have := (putsF_facts l [] (by simp [SAsc])).2.2
  simpa [putsF] using this

theorem rise_asc : ∀ {l : List (Int × Int)}, SAsc ltD l → rise l = true
  | [], _ => rfl
  | [x], _ => rfl
  | x :: y :: r, h => by
    simp only [SAsc, List.pairwise_cons, List.mem_cons] at h
    have h1 : decide (cfDot x y < 0) = true := h.1 y (.inl rfl)
    have h2 := rise_asc (l := y :: r) (by simp only [SAsc, List.pairwise_cons]; exact h.2)
    simp only [rise]
    simp [h1, h2]

theorem sortDots_ext {l m : List (Int × Int)} (h : ∀ x, x ∈ l ↔ x ∈ m) : sortDots l = sortDots m :=
  SAsc.ext ltD_asymm (sortDots_facts l).1 (sortDots_facts m).1 fun x => by rw [(sortDots_facts l).2, (sortDots_facts m).2, h]

theorem text_example (N : Nat) : F_dot_Text N (3, 17) = some [51, 46, 49, 55] := by
  have h1 : F_strconv_FormatUint N (IntKind.u64.wrap 3) 10 = some [51] := by rfl
  have h2 : F_strconv_FormatUint N 17 10 = some [49, 55] := by rfl
  unfold F_dot_Text
  simp only
  rw [h1]
  simp only [Option.bind_some]
  rw [h2]
  rfl

theorem works_eq (N : Nat) (hN : 10 < N) : F_epitaphlaw07_works N = some true := by
  unfold F_epitaphlaw07_works
  rw [text_example]
  have e1 : sortDots [(2, 1), (1, 9), (2, 1)] = [(1, 9), (2, 1)] := by rw [sortDots_puts]; decide
  rw [dotSort_eq N _ (by decide) (by simp; omega), e1]
  simp only [Option.bind_some]
  rw [same_eq N _ _ (by decide) (by simp; omega)]
  rfl

theorem dotLists_true (N : Nat) (hN : 1000000 < N) (l m : List (Int × Int)) (d : Int × Int) : F_epitaphlaw07_DotLists N l m d = some true := by
  unfold F_epitaphlaw07_DotLists
  by_cases hl : (200 : Int) < (l.length : Int)
  · rw [decide_eq_true hl, cond_true, works_eq N (by omega)]; rfl
  · rw [decide_eq_false hl, cond_false]
    have hl' : l.length ≤ 200 := by omega
    have hs := sortDots_len l
    rw [dotSort_eq N l (by omega) (by omega), refSort_eq N l (by omega) hN]
    simp only [Option.bind_some]
    rw [same_eq N (sortDots l) _ (by omega) (by omega), rising_eq N l (by omega) (by omega), refRising_eq N l (by omega) (by omega), has_eq N l d (by omega) (by omega), refHas_eq N l d (by omega) (by omega),
      equal_eq N l m (by omega) (by omega), same_eq N l m (by omega) (by omega), rising_eq N (sortDots l) (by omega) (by omega), rise_asc (sortDots_facts l).1, works_eq N (by omega)]
    simp

theorem cfDot_neg (x y : Int × Int) : (cfDot x y != IntKind.i64.wrap (0 - cfDot y x)) = false := by
  have h : cfDot x y = IntKind.i64.wrap (0 - cfDot y x) := by
    have hb : cfDot y x = -1 ∨ cfDot y x = 0 ∨ cfDot y x = 1 := by unfold cfDot; grind
    have hw : IntKind.i64.wrap (0 - cfDot y x) = 0 - cfDot y x := by
      rcases hb with h | h | h <;> rw [h] <;> decide
    rw [hw]
    unfold cfDot
    grind
  rw [← h]; simp

theorem cfDot_zero (x y : Int × Int) : (!(cfDot x y == 0) == (x.1 == y.1 && x.2 == y.2)) = false := by
  have : (cfDot x y == 0) = (x.1 == y.1 && x.2 == y.2) := by
    unfold cfDot
    rw [Bool.eq_iff_iff]
    simp only [beq_iff_eq, Bool.and_eq_true]
    grind
  rw [this]
  cases (x.1 == y.1 && x.2 == y.2) <;> rfl

theorem dotOrders_true (N : Nat) (hN : 1000000 < N) (a b c : Int × Int) : F_epitaphlaw07_DotOrders N a b c = some true := by
  unfold F_epitaphlaw07_DotOrders
  simp only [joinAt, Cmp_eq, Option.bind_some]
  rw [cfDot_neg, cfDot_zero]
  simp only [cond_false]
  have htail : (Option.bind (F_dot_Sort N [a, b, c]) fun y : List (Int × Int) => Option.bind (F_dot_Sort N [c, a, b, a]) fun y_1 : List (Int × Int) => Option.bind (F_epitaphref07_Same N y y_1) fun y_2 : Bool =>
      bif y_2 then Option.bind (F_dot_Rising N y) fun y_3 : Bool => bif y_3 then Option.bind (F_dot_Has N y a) fun y_4 : Bool => bif y_4 then Option.bind (F_dot_Has N y b) fun y_5 : Bool =>
        bif y_5 then Option.bind (F_dot_Has N y c) fun y : Bool => bif y then bif a.1 == a.1 && a.2 == a.2 then bif c.1 == c.1 && c.2 == c.2 then Option.bind (F_epitaphlaw07_works N) fun y : Bool => some y else some false else some false else some false
        else some false else some false else some false else some false) = some true := by
    have e1 : sortDots [a, b, c] = sortDots [c, a, b, a] := sortDots_ext (by intro x; simp; grind)
    have hs := sortDots_len [a, b, c]
    simp only [List.length_cons, List.length_nil] at hs
    rw [dotSort_eq N [a, b, c] (by simp) (by simp; omega), dotSort_eq N [c, a, b, a] (by simp) (by simp; omega), ← e1]
    simp only [Option.bind_some]
    have hm : ∀ x ∈ [a, b, c], decide (x ∈ sortDots [a, b, c]) = true := fun x hx => decide_eq_true (((sortDots_facts [a, b, c]).2 x).2 hx)
    rw [same_eq N _ _ (by omega) (by omega), rising_eq N _ (by omega) (by omega), rise_asc (sortDots_facts _).1, has_eq N _ a (by omega) (by omega), has_eq N _ b (by omega) (by omega), has_eq N _ c (by omega) (by omega),
      hm a (by simp), hm b (by simp), hm c (by simp), works_eq N (by omega)]
    simp
  cases h1 : decide (cfDot a b < 0) with
  | false => exact htail
  | true =>
    simp only [cond_true]
    cases h2 : decide (cfDot b c < 0) with
    | false => exact htail
    | true =>
      simp only [cond_true]
      have h3 : ltD a c = true := ltD_trans (x := a) (y := b) (z := c) h1 h2
      have h4 : cfDot a c < 0 := by simpa [ltD, ltOf] using h3
      rw [decide_eq_false (by omega), cond_false]
      exact htail

end Go.Proofs.Xh
/-
  A row's arguments, opened: values of any code.
-/
set_option linter.unusedVariables false
set_option linter.unusedSimpArgs false
namespace Go.Xl
open Go.Ab

/-- what the integers of a value are, and how long its lists -/
def Ty.In : (t : Ty) → t.T → Prop
  | .int k, n => (Lit.int k n).wf = true
  | .u8, _ => True
  | .bool, _ => True
  | .str, l => l.length ≤ maxLen
  | .sl a, l => l.length ≤ maxLen ∧ ∀ x ∈ l, a.In x
  | .unit, _ => True
  | .pair a b, x => a.In x.1 ∧ b.In x.2
  | .st1 a, x => a.In x
  | .tab _, _ => True

/-- the code of a struct's fields, from the cell off on -/
def opFs (P : Program) (rec : TypeId → Ty → Bool) : Nat → List Field → Ty → Bool
  | off, [f], .st1 a => cond (Nat.beq f.offset off) (cond (Nat.beq (P.cellsOf f.type) a.size) (rec f.type a) false) false
  | off, [f, g], .pair a b => cond (Nat.beq f.offset off) (cond (Nat.beq (P.cellsOf f.type) a.size) (cond (rec f.type a) (cond (Nat.beq g.offset (off + a.size)) (cond (Nat.beq (P.cellsOf g.type) b.size) (rec g.type b) false) false) false) false) false
  | off, f :: g :: h :: r, .pair a b => cond (Nat.beq f.offset off) (cond (Nat.beq (P.cellsOf f.type) a.size) (cond (rec f.type a) (opFs P rec (off + a.size) (g :: h :: r) b) false) false) false
  | _, _, _ => false

/-- the code of a type, with the layout that a row's reading asks for -/
def opB (P : Program) : Nat → TypeId → Ty → Bool
  | 0, _, _ => false
  | n + 1, t, ty =>
    match P.underlying t, ty with
    | some (.int k), .int k' => cond (kindB k k') true false
    | some (.int .u8), .u8 => true
    | some .bool, .bool => true
    | some .string, .str => true
    | some (.slice e), .sl a => cond (Nat.beq (P.cellsOf e) a.size) (cond (Nat.ble 1 a.size) (opB P n e a) false) false
    | some (.struct fs), a => cond a.agg (cond (Nat.beq (P.cellsOf t) a.size) (opFs P (opB P n) 0 fs.toList a) false) false
    | _, _ => false

/-- cells that hold a value -/
def CellsD (γ : Nat → Nat) (w : World) (ds : List D) (cs : List Value) : Prop := ds.length = cs.length ∧ ∀ (i : Nat) d v, ds[i]? = some d → cs[i]? = some v → RD γ w d v

theorem CellsD.one {γ : Nat → Nat} {w : World} {d : D} {v : Value} (h : RD γ w d v) : CellsD γ w [d] [v] := by
  refine ⟨rfl, fun i e u he hu => ?_⟩
  cases i with
  | zero => simp at he hu; subst he; subst hu; exact h
  | succ i => simp at he

theorem CellsD.append {γ : Nat → Nat} {w : World} {a b : List D} {cs ds : List Value} (h : CellsD γ w a cs) (h' : CellsD γ w b ds) : CellsD γ w (a ++ b) (cs ++ ds) := by
  refine ⟨by simp [h.1, h'.1], fun i e u he hu => ?_⟩
  rw [List.getElem?_append] at he hu
  rw [← h.1] at hu
  split at he
  · rename_i hlt
    rw [if_pos hlt] at hu
    exact h.2 i e u he hu
  · rename_i hge
    rw [if_neg hge] at hu
    exact h'.2 _ e u he hu

theorem cT {a b : Bool} (h : cond a b false = true) : a = true ∧ b = true := by
  cases a <;> simp at h; exact ⟨rfl, h⟩

section
variable {H : Type} {enc : TypeId × Value → H} {P : Program} {W : World}

/-- what is asked of the types inside -/
def OpR (P : Program) (W : World) (H : Type) (enc : TypeId × Value → H) (fuel : Nat) (rec : TypeId → Ty → Bool) : Prop :=
  ∀ (t : TypeId) (ty : Ty) (cs : List Value) (d : DataW H) (ps : List MemPlace), rec t ty = true → DataW.trod enc P W 0 (fun _ => true) true fuel t cs = some (d, ps) →
    ∃ x : ty.T, ty.In x ∧ CellsD (fullγ W) W (ty.ds x) cs

theorem take_split {α : Type} (l : List α) (off a b : Nat) : (l.drop off).take (a + b) = (l.drop off).take a ++ (l.drop (off + a)).take b := by
  rw [List.take_add, List.drop_drop]

theorem open_fs {fuel : Nat} {rec : TypeId → Ty → Bool} (hr : OpR P W H enc fuel rec) {cs : List Value} : ∀ (fs : List Field) (off : Nat) (ty : Ty), opFs P rec off fs ty = true →
    (∀ f ∈ fs, ∃ y, DataW.trod enc P W 0 (fun _ => true) true fuel f.type ((cs.drop f.offset).take (P.cellsOf f.type)) = some y) →
    ∃ x : ty.T, ty.In x ∧ CellsD (fullγ W) W (ty.ds x) ((cs.drop off).take ty.size)
  | [], off, ty, h, hf => by cases ty <;> simp [opFs] at h
  | [f], off, ty, h, hf => by
    cases ty with
    | st1 a =>
      simp only [opFs] at h
      obtain ⟨h1, h⟩ := cT h
      obtain ⟨h2, h⟩ := cT h
      have h1 := Nat.eq_of_beq_eq_true h1
      have h2 := Nat.eq_of_beq_eq_true h2
      obtain ⟨y, hy⟩ := hf f (by simp)
      rw [h1, h2] at hy
      exact hr f.type a _ _ _ h hy
    | _ => simp [opFs] at h
  | [f, g], off, ty, h, hf => by
    cases ty with
    | pair a b =>
      simp only [opFs] at h
      obtain ⟨h1, h⟩ := cT h
      obtain ⟨h2, h⟩ := cT h
      obtain ⟨h3, h⟩ := cT h
      obtain ⟨h4, h⟩ := cT h
      obtain ⟨h5, h⟩ := cT h
      have h1 := Nat.eq_of_beq_eq_true h1
      have h2 := Nat.eq_of_beq_eq_true h2
      have h4 := Nat.eq_of_beq_eq_true h4
      have h5 := Nat.eq_of_beq_eq_true h5
      obtain ⟨y, hy⟩ := hf f (by simp)
      obtain ⟨z, hz⟩ := hf g (by simp)
      rw [h1, h2] at hy
      rw [h4, h5] at hz
      obtain ⟨x1, i1, c1⟩ := hr _ _ _ _ _ h3 hy
      obtain ⟨x2, i2, c2⟩ := hr _ _ _ _ _ h hz
      refine ⟨(x1, x2), ⟨i1, i2⟩, ?_⟩
      simp only [Ty.ds, Ty.size]
      rw [take_split]
      exact c1.append c2
    | _ => simp [opFs] at h
  | f :: g :: k :: r, off, ty, h, hf => by
    cases ty with
    | pair a b =>
      simp only [opFs] at h
      obtain ⟨h1, h⟩ := cT h
      obtain ⟨h2, h⟩ := cT h
      obtain ⟨h3, h⟩ := cT h
      have h1 := Nat.eq_of_beq_eq_true h1
      have h2 := Nat.eq_of_beq_eq_true h2
      obtain ⟨y, hy⟩ := hf f (by simp)
      rw [h1, h2] at hy
      obtain ⟨x1, i1, c1⟩ := hr _ _ _ _ _ h3 hy
      obtain ⟨x2, i2, c2⟩ := open_fs hr (g :: k :: r) (off + a.size) b h (fun q hq => hf q (List.mem_cons_of_mem _ hq))
      refine ⟨(x1, x2), ⟨i1, i2⟩, ?_⟩
      simp only [Ty.ds, Ty.size]
      rw [take_split]
      exact c1.append c2
    | _ => simp [opFs] at h

theorem choose_list {α β : Type} (p : Nat → β → α → Prop) : ∀ (l : List β), (∀ i y, l[i]? = some y → ∃ x, p i y x) → ∃ xs : List α, xs.length = l.length ∧ ∀ i y x, l[i]? = some y → xs[i]? = some x → p i y x := by
  intro l
  induction l generalizing p with
  | nil => intro _; exact ⟨[], rfl, by simp⟩
  | cons a r ih =>
    intro h
    obtain ⟨x, hx⟩ := h 0 a rfl
    obtain ⟨xs, h1, h2⟩ := ih (fun i => p (i + 1)) (fun i y hy => h (i + 1) y (by simpa using hy))
    refine ⟨x :: xs, by simp [h1], fun i y z hy hz => ?_⟩
    cases i with
    | zero => simp at hy hz; subst hy; subst hz; exact hx
    | succ i => exact h2 i y z (by simpa using hy) (by simpa using hz)

theorem open_cells : ∀ (n fuel : Nat), OpR P W H enc fuel (opB P n)
  | 0, fuel => by intro t ty cs d ps ho; simp [opB] at ho
  | n + 1, fuel => by
    intro t ty cs d ps ho h
    unfold opB at ho
    split at ho
    · rename_i k k' hu
      obtain ⟨hk, _⟩ := cT ho
      have := kindB_eq hk
      subst this
      obtain ⟨m, rfl, _, hw⟩ := DataW.trod_int hu h
      exact ⟨m, hw, .one (.sc _)⟩
    · rename_i hu
      obtain ⟨m, rfl, _, hw⟩ := DataW.trod_int hu h
      have hm : 0 ≤ m ∧ m ≤ 255 := by simpa [Lit.wf, IntKind.wrap, IntKind.bits, IntKind.signed, IntKind.min, IntKind.max] using hw
      refine ⟨UInt8.ofNat m.toNat, trivial, .one ?_⟩
      have : (((UInt8.ofNat m.toNat).toNat : Nat) : Int) = m := by
        rw [UInt8.toNat_ofNat']; omega
      rw [this]
      exact .sc _
    · rename_i hu
      obtain ⟨b, rfl, _⟩ := DataW.trod_bool hu h
      exact ⟨b, trivial, .one (.sc _)⟩
    · rename_i hu
      obtain ⟨s, rfl, _, hw⟩ := DataW.trod_string hu h
      exact ⟨s.data.toList, by simpa [Ty.In] using hw, .one (.sc _)⟩
    · rename_i e a hu
      obtain ⟨h1, ho⟩ := cT ho
      obtain ⟨h2, ho⟩ := cT ho
      have h1 := Nat.eq_of_beq_eq_true h1
      have h2 := Nat.le_of_ble_eq_true h2
      rcases DataW.trod_slice hu h with ⟨rfl, _⟩ | ⟨ad, len, cap, elems, rest, m, rfl, rfl, _, hb, hl, hc, hel, hcell, _, _⟩
      · exact ⟨[], ⟨by simp, by simp⟩, .one (.nil _ _ _ fun _ => rfl)⟩
      · have key : ∀ i y, (List.range len)[i]? = some y → ∃ x : a.T, a.In x ∧ ∃ cs', cs'.length = a.size ∧ CellsD (fullγ W) W (a.ds x) cs' ∧ ∀ j, j < a.size → W.cell? ((ad.add (i * a.size)).add j) = cs'[j]? := by
          intro i y hi
          have hlt : i < len := by have := (List.getElem?_eq_some_iff.1 hi).1; simpa using this
          have hc := hcell i hlt
          obtain ⟨z, hz⟩ : ∃ z, elems[i]? = some z := ⟨_, List.getElem?_eq_getElem (by omega)⟩
          rw [hz, Option.bind_eq_some_iff, h1] at hc
          obtain ⟨cs', hc1, hc2⟩ := hc
          obtain ⟨_, hcl, hcc⟩ := World.cells?_some hc1
          obtain ⟨x, hx1, hx2⟩ := open_cells n m _ _ _ _ _ ho hc2
          exact ⟨x, hx1, cs', hcl, hx2, hcc⟩
        obtain ⟨xs, hxl, hx⟩ := choose_list _ _ key
        rw [List.length_range] at hxl
        have hxs : ∀ i x, xs[i]? = some x → a.In x ∧ ∃ cs', cs'.length = a.size ∧ CellsD (fullγ W) W (a.ds x) cs' ∧ ∀ j, j < a.size → W.cell? ((ad.add (i * a.size)).add j) = cs'[j]? := by
          intro i x hi
          have hlt : i < len := by have := (List.getElem?_eq_some_iff.1 hi).1; omega
          exact hx i i x (by simp [hlt]) hi
        refine ⟨xs, ⟨by omega, fun x hm => ?_⟩, .one ?_⟩
        · obtain ⟨i, hi⟩ := List.mem_iff_getElem?.1 hm
          exact (hxs i x hi).1
        · rcases Nat.eq_zero_or_pos len with h0 | h0
          · have : xs = [] := List.eq_nil_of_length_eq_zero (by omega)
            subst this
            subst h0
            exact .nil _ (some ad) cap (by simp)
          · have spot : ad.spot = none := by
              obtain ⟨x0, hx0⟩ : ∃ z, xs[0]? = some z := ⟨_, List.getElem?_eq_getElem (by omega)⟩
              obtain ⟨_, cs', hl', _, hc'⟩ := hxs 0 x0 hx0
              have := hc' 0 (by omega)
              rw [List.getElem?_eq_getElem (by omega)] at this
              have := World.cell?_spot this
              simpa [Addr.add] using this
            obtain ⟨b, off, sp⟩ := ad
            simp only at spot
            subst spot
            have hcell' : ∀ i x, xs[i]? = some x → ∃ cs', cs'.length = a.size ∧ CellsD (fullγ W) W (a.ds x) cs' ∧ ∀ j, j < a.size → W.cell? ⟨b, off + (i * a.size + j), none⟩ = cs'[j]? := by
              intro i x hi
              obtain ⟨_, cs', hl', hd', hc'⟩ := hxs i x hi
              refine ⟨cs', hl', hd', fun j hj => ?_⟩
              have := hc' j hj
              rwa [WideShapes.add_plain, WideShapes.add_plain, Nat.add_assoc] at this
            refine .ofCells' (by simp [hxl]) ?_ hl ?_ ?_
            · obtain ⟨x, hx⟩ : ∃ z, xs[len - 1]? = some z := ⟨_, List.getElem?_eq_getElem (by omega)⟩
              obtain ⟨cs', hl', _, hc'⟩ := hcell' (len - 1) x hx
              have := hc' (a.size - 1) (by omega)
              rw [List.getElem?_eq_getElem (by omega)] at this
              have := fullγ_cell this
              have e : len * a.size = (len - 1) * a.size + a.size := by
                rw [← Nat.succ_mul]; congr 1; omega
              show off + len * a.size ≤ fullγ W b
              omega
            · intro i cs hi
              rw [List.getElem?_map, Option.map_eq_some_iff] at hi
              obtain ⟨x, _, rfl⟩ := hi
              exact a.ds_length x
            · intro i j cs c u hi hj hu
              rw [List.getElem?_map, Option.map_eq_some_iff] at hi
              obtain ⟨x, hx, rfl⟩ := hi
              obtain ⟨cs', hl', hd', hc'⟩ := hcell' i x hx
              have hjl : j < a.size := by have := (List.getElem?_eq_some_iff.1 hj).1; rwa [a.ds_length] at this
              rw [hc' j hjl] at hu
              exact hd'.2 j c u hj hu
    · rename_i fs hu
      obtain ⟨_, ho⟩ := cT ho
      obtain ⟨h2, ho⟩ := cT ho
      have h2 := Nat.eq_of_beq_eq_true h2
      obtain ⟨xs, m, rfl, _, hl, hxl, hall⟩ := DataW.trod_struct hu h
      obtain ⟨x, hx1, hx2⟩ := open_fs (open_cells n m) (cs := cs) fs.toList 0 _ ho (by
        intro f hf
        obtain ⟨i, hi⟩ := List.mem_iff_getElem?.1 hf
        have hi' : fs[i]? = some f := by simpa using hi
        have := hall i f hi'
        rw [this]
        have hlt := (Array.getElem?_eq_some_iff.1 hi').1
        exact ⟨_, List.getElem?_eq_getElem (by omega)⟩)
      refine ⟨x, hx1, ?_⟩
      rw [List.drop_zero, List.take_of_length_le (by omega)] at hx2
      exact hx2
    · cases ho

/-- an argument, opened -/
theorem open_arg {b0 n : Nat} {t : TypeId} {ty : Ty} {v : Value} {d : DataW H} {ps : List MemPlace} (ho : opB P n t ty = true) (hv : Value.okWide P W .any b0 t v)
    (h : DataW.Trod enc P W 0 (fun _ => true) true t v d ps) : ∃ x : ty.T, ty.In x ∧ RA (full W) W (XV.d (ty.xv x)).a v := by
  obtain ⟨fuel, hf⟩ := h
  obtain ⟨x, h1, h2⟩ := open_cells n fuel _ _ _ _ _ ho hf
  refine ⟨x, h1, .d _ _ ?_⟩
  show RD (fullγ W) W (ty.dv x) v
  cases hagg : ty.agg with
  | true =>
    rw [ty.dv_agg x hagg]
    have : ∃ fs, P.underlying t = some (.struct fs) := by
      cases n with
      | zero => simp [opB] at ho
      | succ n =>
        unfold opB at ho
        split at ho <;> simp_all [Ty.agg]
    obtain ⟨fs, hu⟩ := this
    obtain ⟨cs, rfl, _⟩ := WideShapes.okWide_struct hu hv
    simp only [Value.cells] at h2
    exact .agg _ _ (by simpa using h2.1) fun i c u hc hu => h2.2 i c u hc (by simpa using hu)
  | false =>
    rw [ty.dv_one x hagg] at h2
    have hv' : v.cells = #[v] := by
      have := h2.1
      cases v with
      | agg cs =>
        exfalso
        cases n with
        | zero => simp [opB] at ho
        | succ n =>
          unfold opB at ho
          split at ho
          · rename_i hu; obtain ⟨_, e⟩ := WideShapes.okWide_int hu hv; cases e
          · rename_i hu; obtain ⟨_, e⟩ := WideShapes.okWide_int hu hv; cases e
          · rename_i hu; obtain ⟨_, e⟩ := WideShapes.okWide_bool hu hv; cases e
          · rename_i hu; obtain ⟨_, e⟩ := WideShapes.okWide_string hu hv; cases e
          · rename_i hu; obtain ⟨_, _, _, e⟩ := WideShapes.okWide_slice hu hv; cases e
          · rw [hagg] at ho; simp at ho
          · cases ho
      | _ => rfl
    rw [hv'] at h2
    exact h2.2 0 _ _ rfl rfl
end

end Go.Xl
/-
  DotTells: it is true.
-/
set_option linter.unusedVariables false
set_option linter.unusedSimpArgs false
set_option maxRecDepth 100000
namespace Go.Proofs.Xt
open Go Go.Xl Go.Ab Go.Proofs Go.Proofs.Xh

theorem wf_u64 {x : Int} (h : (Lit.int .u64 x).wf = true) : ∃ n : Nat, x = (n : Int) ∧ n < 18446744073709551616 := by
  have : 0 ≤ x ∧ x ≤ 18446744073709551615 := by simpa [Lit.wf, IntKind.wrap, IntKind.bits, IntKind.signed, IntKind.min, IntKind.max] using h
  exact ⟨x.toNat, by omega, by omega⟩
theorem wf_u16 {x : Int} (h : (Lit.int .u16 x).wf = true) : ∃ n : Nat, x = (n : Int) ∧ n < 65536 := by
  have : 0 ≤ x ∧ x ≤ 65535 := by simpa [Lit.wf, IntKind.wrap, IntKind.bits, IntKind.signed, IntKind.min, IntKind.max] using h
  exact ⟨x.toNat, by omega, by omega⟩

theorem and48 (x : Nat) : x &&& 281474976710655 = x % 281474976710656 := Nat.and_two_pow_sub_one_eq_mod x 48

theorem split_eq (N v : Nat) (hv : v < 18446744073709551616) : F_shift_Split N (v : Int) = some (((v / 281474976710656 : Nat) : Int), ((v % 281474976710656 : Nat) : Int)) := by
  unfold F_shift_Split
  rw [show (281474976710655 : Int) = ((281474976710655 : Nat) : Int) from rfl, bits_and_u64_nat v _ hv (by decide), and48, show ((v : Nat) : Int).fdiv 281474976710656 = ((v / 281474976710656 : Nat) : Int) from fd v 281474976710656,
    IntWalk.u16_in _ (by omega)]

theorem refSplit_eq (N v : Nat) (hv : v < 18446744073709551616) : F_epitaphref01_Split N (v : Int) = some (((v / 281474976710656 : Nat) : Int), ((v % 281474976710656 : Nat) : Int)) := by
  unfold F_epitaphref01_Split
  rw [show ((v : Nat) : Int).tdiv 281474976710656 = ((v / 281474976710656 : Nat) : Int) from rfl, u64n (by omega), IntWalk.u16_in _ (by omega)]
  rfl

theorem good_eq (N : Nat) (d : Int × Int) : F_dot_Good N d = F_epitaphref07_Good N d := by
  unfold F_dot_Good F_epitaphref07_Good
  have e1 : decide (0 < d.1) = decide (1 ≤ d.1) := by rw [decide_eq_decide]; omega
  have e2 : decide (0 < d.2) = decide (1 ≤ d.2) := by rw [decide_eq_decide]; omega
  have e3 : decide (d.2 ≤ 281474976710655) = decide (d.2 < 281474976710656) := by rw [decide_eq_decide]; omega
  simp only [e1, e2, e3]

theorem good_some (N : Nat) (d : Int × Int) : F_epitaphref07_Good N d = some (decide (1 ≤ d.1) && decide (1 ≤ d.2) && decide (d.2 < 281474976710656)) := by
  unfold F_epitaphref07_Good
  cases decide (1 ≤ d.1) <;> cases decide (1 ≤ d.2) <;> rfl

theorem unpack_eq (N v : Nat) (hv : v < 18446744073709551616) : ∃ r, F_dot_Unpack N (v : Int) = some r ∧ F_epitaphref07_Unpack N (v : Int) = some r := by
  unfold F_dot_Unpack F_epitaphref07_Unpack
  rw [split_eq N v hv, refSplit_eq N v hv]
  simp only [Option.bind_some, good_eq, good_some]
  cases (decide (1 ≤ ((v / 281474976710656 : Nat) : Int)) && decide (1 ≤ ((v % 281474976710656 : Nat) : Int)) && decide (((v % 281474976710656 : Nat) : Int) < 281474976710656)) <;> exact ⟨_, rfl, rfl⟩

theorem refCmp_eq (N : Nat) (a b : Int × Int) : F_epitaphref07_Cmp N a b = some (cfDot a b) := by
  unfold F_epitaphref07_Cmp cfDot
  simp only [cond_eq_ite]
  grind

theorem pack_eq (N a n : Nat) (ha : a < 65536) (hn : n < 18446744073709551616) : ∃ r, F_dot_Pack N ((a : Int), (n : Int)) = some r ∧ F_epitaphref01_Pack N (a : Int) (n : Int) = some r := by
  unfold F_dot_Pack F_shift_Pack F_epitaphref01_Pack
  simp only [Option.bind_some]
  refine ⟨_, rfl, ?_⟩
  rw [show (281474976710655 : Int) = ((281474976710655 : Nat) : Int) from rfl, bits_and_u64_nat n _ hn (by decide), and48, u64n (show a < 18446744073709551616 by omega),
    show ((a : Nat) : Int) * 281474976710656 = ((a * 281474976710656 : Nat) : Int) by omega, u64n (show a * 281474976710656 < 18446744073709551616 by omega), bits_or_u64_nat _ _ (by omega) (by omega),
    show ((n : Nat) : Int).tmod 281474976710656 = ((n % 281474976710656 : Nat) : Int) from rfl,
    show ((a * 281474976710656 : Nat) : Int) + ((n % 281474976710656 : Nat) : Int) = ((a * 281474976710656 + n % 281474976710656 : Nat) : Int) by omega, u64n (by omega)]
  have := Nat.two_pow_add_eq_or_of_lt (i := 48) (b := n % 281474976710656) (Nat.mod_lt _ (by decide)) a
  rw [show a * 281474976710656 = 2 ^ 48 * a by omega, this]

/-- a dot's text -/
noncomputable def dotText (a n : Nat) : List UInt8 := dec a ++ [46] ++ dec n

theorem text_eq (N a n : Nat) (hN : 30 ≤ N) (ha : a < 65536) (hn : n < 18446744073709551616) : F_dot_Text N ((a : Int), (n : Int)) tab0 = some (dotText a n) := by
  unfold F_dot_Text
  have h1 := dec_len a (by omega)
  have h2 := dec_len n hn
  simp only
  rw [u64n (show a < 18446744073709551616 by omega), format_eq N a (by omega) hN, Option.bind_some, decide_eq_true (by omega), cond_true, format_eq N n hn hN, Option.bind_some, decide_eq_true (by simp; omega), cond_true]
  rfl

theorem refText_eq (N a n : Nat) (hN : 30 ≤ N) (ha : a < 65536) (hn : n < 18446744073709551616) : F_epitaphref07_Text N ((a : Int), (n : Int)) = some (dotText a n) := by
  unfold F_epitaphref07_Text
  have h1 := dec_len a (by omega)
  have h2 := dec_len n hn
  simp only
  rw [u64n (show a < 18446744073709551616 by omega), refDecimal_eq N a (by omega) (by omega), Option.bind_some, decide_eq_true (by omega), cond_true, refDecimal_eq N n hn (by omega), Option.bind_some, decide_eq_true (by simp; omega), cond_true]
  rfl

theorem sameX (N : Nat) (l m : List (Int × Int)) : F_epitaphref07_Same N l m = Xh.F_epitaphref07_Same N l m := rfl

theorem dotText_ex : dotText 3 17 = [51, 46, 49, 55] := by decide +kernel

theorem works_tab (N : Nat) (hN : 30 ≤ N) : F_epitaphlaw07_works N tab0 = some true := by
  unfold F_epitaphlaw07_works
  have := text_eq N 3 17 hN (by decide) (by decide)
  rw [show F_dot_Text N (3, 17) tab0 = some (dotText 3 17) from this, dotText_ex]
  have e1 : sortDots [(2, 1), (1, 9), (2, 1)] = [(1, 9), (2, 1)] := by rw [sortDots_puts]; decide
  rw [dotSort_eq N _ (by decide) (by simp; omega), e1]
  simp only [Option.bind_some]
  rw [sameX, same_eq N _ _ (by decide) (by simp; omega)]
  rfl

theorem bindS {α β : Type} {x : Option α} {y : α} {f : α → Option β} (h : x = some y) : Option.bind x f = f y := by rw [h]; rfl
theorem condT {α : Type} {b : Bool} {x y : α} (h : b = true) : (bif b then x else y) = x := by rw [h]; rfl

theorem dotTells_true (N : Nat) (hN : 30 ≤ N) (a b : Int × Int) (v : Int) (ha : tDot.In a) (hv : (Ty.int .u64).In v) : F_epitaphlaw07_DotTells N a b v tab0 = some true := by
  obtain ⟨a1, a2⟩ := a
  obtain ⟨x, hx, hx1⟩ := wf_u16 (x := a1) ha.1
  obtain ⟨n, hn, hn1⟩ := wf_u64 (x := a2) ha.2
  obtain ⟨y, hy, hy1⟩ := wf_u64 hv
  subst hx; subst hn; subst hy
  obtain ⟨r, r1, r2⟩ := unpack_eq N y hy1
  obtain ⟨p, p1, p2⟩ := pack_eq N x n hx1 hn1
  have g2 := good_some N ((x : Int), (n : Int))
  have g1 := (good_eq N ((x : Int), (n : Int))).trans g2
  refine (bindS r1).trans ((bindS r2).trans ((bindS g1).trans ((bindS g2).trans ((condT (beq_self_eq_true _)).trans ((bindS (Cmp_eq N _ _)).trans ((bindS (refCmp_eq N _ _)).trans ((condT (beq_self_eq_true _)).trans
    ((bindS p1).trans ((bindS p2).trans ((condT (beq_self_eq_true _)).trans ((condT ?_).trans ((condT (beq_self_eq_true _)).trans ((bindS (text_eq N x n hN hx1 hn1)).trans ((bindS (refText_eq N x n hN hx1 hn1)).trans
    ((condT (beq_self_eq_true _)).trans (bindS (works_tab N hN)))))))))))))))))
  simp
end Go.Proofs.Xt
/-
  A row's laid tables: what the premise says of them, as data of the layer.
-/
set_option linter.unusedVariables false
set_option linter.unusedSimpArgs false
namespace Go.Xl
open Go.Ab Go.RowKit

def litV : Lit → Value
  | .bool b => .bool b
  | .int k n => .int k n
  | .string s => .string ⟨s.toArray⟩
  | .float k b => .float k b
  | .nil => .nilIface

theorem trod_lit {H : Type} {enc : TypeId × Value → H} {P : Program} {w : World} {base : Nat} {sp : Nat → Bool} {held : Bool} {fuel : Nat} {t : TypeId} {cs : List Value} {l : Lit} {p : List MemPlace}
    (h : DataW.trod enc P w base sp held fuel t cs = some (.lit l, p)) : cs = [litV l] := by
  cases fuel with
  | zero => simp [DataW.trod] at h
  | succ m =>
    unfold DataW.trod at h
    split at h <;> simp_all [litV, Option.map_eq_some_iff, Option.bind_eq_some_iff]
    all_goals first
      | (obtain ⟨_, h, _⟩ := h; subst h; rfl)
      | (obtain ⟨h, _⟩ := h; subst h; rfl)
      | (subst h; rfl)
      | (split at h <;> simp_all [Option.bind_eq_some_iff, Option.map_eq_some_iff] <;> (try (obtain ⟨_, _, _, _, h⟩ := h; split at h <;> simp_all)))
      | skip

/-- a row of scalars -/
theorem laid_cells {H : Type} {enc : TypeId × Value → H} {P : Program} {w : World} {base : Nat} {sp : Nat → Bool} {held : Bool} {fuel : Nat} {t e : TypeId} {n : Nat} {cs : List Value} {ls : List Lit} {p : List MemPlace}
    (ht : P.underlying t = some (.array n e)) (he : P.cellsOf e = 1) (hn : P.cellsOf t = ls.length) (hn' : n = ls.length) (h : DataW.trod enc P w base sp held fuel t cs = some (.agg (ls.map .lit), p)) : cs = ls.map litV := by
  obtain ⟨xs, m, rfl, hx, hl, hxl, hc⟩ := DataW.trod_array ht h
  simp only [Prod.mk.injEq, DataW.agg.injEq] at hx
  apply List.ext_getElem?
  intro i
  by_cases hi : i < ls.length
  · have h1 := hc i (by omega)
    have h2 : (xs.map (·.1))[i]? = (ls.map DataW.lit)[i]? := by rw [← hx.1]
    rw [List.getElem?_eq_getElem (l := xs) (by omega)] at h1
    simp only [List.getElem?_map, List.getElem?_eq_getElem (l := xs) (show i < xs.length by omega), List.getElem?_eq_getElem hi, Option.map_some, Option.some.injEq] at h2
    generalize xs[i] = x at h1 h2
    obtain ⟨x1, x2⟩ := x
    simp only at h2
    subst h2
    have := trod_lit h1
    rw [he, Nat.mul_one] at this
    have hd : (cs.drop i)[0]? = some (litV ls[i]) := by
      have h3 : ((cs.drop i).take 1)[0]? = some (litV ls[i]) := by rw [this]; rfl
      simpa using h3
    simp only [List.getElem?_drop, Nat.add_zero] at hd
    rw [hd]
    simp [hi]
  · rw [List.getElem?_eq_none (by omega), List.getElem?_eq_none (by simpa using hi)]

/-- scalars -/
def litOf : (ty : Ty) → ty.T → Lit
  | .int k, n => .int k n
  | .u8, x => .int .u8 (x.toNat : Int)
  | .bool, b => .bool b
  | .str, l => .string l
  | _, _ => .nil

def scTy : Ty → Bool
  | .int _ | .u8 | .bool | .str => true
  | _ => false

theorem sc_ds {ty : Ty} (h : scTy ty = true) (x : ty.T) : ty.ds x = [.sc (litV (litOf ty x))] := by
  cases ty <;> simp [scTy] at h <;> rfl

theorem sc_flat {ty : Ty} (h : scTy ty = true) : ∀ (l : List ty.T), (l.map ty.ds).flatten = l.map fun x => .sc (litV (litOf ty x))
  | [] => rfl
  | x :: r => by rw [List.map_cons, List.flatten_cons, sc_flat h r, sc_ds h x]; rfl

/-- a laid table, as the layer's data -/
theorem laid_tab {P : Program} {laid : List (String × DataW Unit)} {w : World} (h : laidMetH P laid w) (n : String) (g t e k : Nat) (ty : Ty) (l : List ty.T)
    (hf : laid.filter (fun x => x.1 == n) = [(n, .agg (l.map fun x => .lit (litOf ty x)))]) (hg : P.globalNamed n = some g) (ht : (P.globals[g]?).map (·.type) = some t)
    (hu : P.underlying t = some (.array k e)) (he : P.cellsOf e = 1) (hn : P.cellsOf t = k) (hk : k = l.length) (hs : scTy ty = true) :
    RA (full w) w (XV.d (.pa ty l)).a (.pointer (some ⟨g, 0, none⟩)) := by
  have h1 := h.filter (fun x => x.1 == n)
  rw [hf] at h1
  have h2 : laidMet P [(n, .agg (l.map fun x => .lit (litOf ty x)))] w := h1
  obtain ⟨ps, hl, _, _⟩ := h2
  obtain ⟨g', t', cs, fuel, p, q, e1, e2, e3, e4, _, _⟩ := hl
  rw [hg] at e1
  cases e1
  rw [ht] at e2
  cases e2
  have e4' : DataW.trod (fun _ => ()) P w 0 (fun _ => true) false fuel t cs.toList = some (.agg ((l.map (litOf ty)).map .lit), p) := by
    rw [List.map_map]; exact e4
  have hc := laid_cells (ls := l.map (litOf ty)) hu he (by simp; omega) (by simp; omega) e4'
  have hcell : ∀ i, w.cell? ⟨g, i, none⟩ = (l.map fun x => litV (litOf ty x))[i]? := by
    intro i
    rw [World.var?_cell hg e3 i, ← Array.getElem?_toList, hc, List.map_map]; rfl
  refine .d _ _ ?_
  show RD (fullγ w) w (.ep ((l.map ty.ds).flatten)) _
  rw [sc_flat hs]
  refine .ep _ _ _ ?_ ?_
  · rw [Nat.zero_add, List.length_map]
    have h0 : w.heap[g]? = some (.cells cs ((w.heap[g]?).elim 0 (fun b => match b with | .cells _ t _ => t | _ => 0)) ((w.heap[g]?).elim (0, 0) (fun b => match b with | .cells _ _ f => f | _ => (0, 0)))) := by
      unfold World.var? at e3
      rw [hg, Option.bind_some] at e3
      split at e3
      · rename_i cs' T fr hh
        cases e3
        rw [hh]; rfl
      · cases e3
    unfold fullγ
    rw [h0]
    have : cs.toList.length = l.length := by rw [hc]; simp
    simp at this
    simp [this]
  · intro j c v hc1 hc2
    rw [Nat.zero_add, hcell j] at hc2
    simp only [List.getElem?_map, Option.map_eq_some_iff] at hc1 hc2
    obtain ⟨x, hx, rfl⟩ := hc1
    obtain ⟨y, hy, rfl⟩ := hc2
    rw [hx] at hy
    cases hy
    exact .sc _

/-- a law that looks at laid tables -/
theorem DoesG.lawAs {P : Program} {f : FuncId} {args : List AV} {gs : List (Nat × AV)} (h : DoesG P f args gs (.d (.sc (.bool true)))) {w : World} {vs : Array Value} (ha : RAs (full w) w args vs.toList) (hg : GHold (full w) w gs) :
    Calls P f vs w fun e w' => e = .returned (.bool true) ∧ Below w.heap.size w w' := by
  refine (h (full w) w vs (full_hr w) hg (by have := ha.get.1; simpa using this) fun i x v hx hv => ha.get.2 i x v hx (by simpa using hv)).mono ?_
  rintro e w' ⟨g', v, rfl, hr, h1⟩
  refine ⟨by rw [hr.sc_inv], ⟨h1.io.1, h1.io.2.2.1, h1.io.2.1, h1.base, fun b hb => (h1.frame b hb ?_).1⟩⟩
  rintro (⟨k, o, hk, _⟩ | ⟨n, hn⟩)
  · simp [X0] at hk
  · simp [full] at hn

theorem GHold.nil (g : Gh) (w : World) : GHold g w [] := by intro p hp; cases hp
theorem GHold.cons {g : Gh} {w : World} {k : Nat} {a : AV} {gs : List (Nat × AV)} (h : RA g w a (.pointer (some ⟨k, 0, none⟩))) (h' : GHold g w gs) : GHold g w ((k, a) :: gs) := by
  intro p hp
  rcases List.mem_cons.1 hp with rfl | hp
  · exact h
  · exact h' p hp

end Go.Xl
