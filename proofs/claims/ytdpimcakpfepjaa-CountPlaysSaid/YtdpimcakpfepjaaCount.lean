/- DERIVED. The walks of the counters: what each of the functions of packages count and epitaphref10 gives. -/
import Derived.Test.YtdpimcakpfepjaaAbGlue
import Derived.Test.YtdpimcakpfepjaaChecked
import Derived.IntWalk
set_option linter.unusedSimpArgs false
set_option linter.unusedVariables false
namespace Go.Proofs.Ytdpimcakpfepjaa
open Go.Ab
def nlim (l : Int) : Int := if 281474976710655 < l then 281474976710655 else l
def cleft (l n : Int) : Int := if l ≤ n then 0 else l - n
def craise (n x : Int) : Int := if n < nlim x then nlim x else n
def cnext (l n : Int) : Int := if n < l then n + 1 else n
theorem cleft_zero (l n : Int) : (cleft l n == 0) = decide (l ≤ n) := by
  unfold cleft
  split
  · simp_all
  · simp only [beq_eq_false_iff_ne.2 (show l - n ≠ 0 by omega)]
    symm; simp; omega
def u64c (x : Int) : List D := [.int .u64 x]
theorem u64_get {xs : List Int} {k : Nat} (h : k < xs.length) : (xs.map u64c)[(k : Int).toNat]? = some [.int .u64 (xs.getD k 0)] := by
  simp [u64c, h]
theorem inc_i64 {k : Nat} (h : k < 9223372036854775807) : IntKind.i64.wrap ((k : Int) + 1) = ((k + 1 : Nat) : Int) := by
  rw [IntWalk.i64_in _ (by omega)]; omega
theorem nlim_le (l : Int) : nlim l ≤ 281474976710655 := by unfold nlim; split <;> omega
theorem wrap_u64 {n : Int} (h0 : 0 ≤ n) (h1 : n < 18446744073709551616) : IntKind.u64.wrap n = n := by
  exact IntWalk.u64_in n ⟨h0, by omega⟩
theorem z27 : ZeroI Try.prog 27 [.d (.int .u64 (0)), .d (.int .u64 (0))] := .mk' (z := .agg #[.int .u64 0, .int .u64 0]) (by kernel_rfl) (.sc _ (.sc _ .nil))
theorem st27 : StructI Try.prog 27 [(0, 1), (1, 1)] := .mk' (by kernel_rfl)
theorem ty27 : TyI Try.prog 27 true 2 := .mk' (by kernel_rfl) (by kernel_rfl)
theorem ty22 : TyI Try.prog 22 false 1 := .mk' (by kernel_rfl) (by kernel_rfl)
theorem fd27_1 : FieldI Try.prog 27 1 1 1 false := .mk' (by kernel_rfl) ty22 (by decide)
theorem fd27_0 : FieldI Try.prog 27 0 0 1 false := .mk' (by kernel_rfl) ty22 (by decide)
theorem mixed : Try.prog.follows .mixedOrders = true := by kernel_rfl
theorem st42 : StructI Try.prog 42 [(0, 1), (1, 1)] := .mk' (by kernel_rfl)
theorem z42 : ZeroI Try.prog 42 [.d (.int .u64 (0)), .d (.int .u64 (0))] := .mk' (z := .agg #[.int .u64 0, .int .u64 0]) (by kernel_rfl) (.sc _ (.sc _ .nil))
theorem up24 : Try.prog.underlying 24 = some (.pointer 42) := by kernel_rfl
theorem fd42_1 : FieldI Try.prog 42 1 1 1 false := .mk' (by kernel_rfl) ty22 (by decide)
theorem fd42_0 : FieldI Try.prog 42 0 0 1 false := .mk' (by kernel_rfl) ty22 (by decide)
theorem ci14 : CallI Try.prog 14 := .mk' Try.func14 rfl (by decide)
theorem ty42 : TyI Try.prog 42 true 2 := .mk' (by kernel_rfl) (by kernel_rfl)
theorem ci7 : CallI Try.prog 7 := .mk' Try.func7 rfl (by decide)
theorem ci11 : CallI Try.prog 11 := .mk' Try.func11 rfl (by decide)
theorem ci8 : CallI Try.prog 8 := .mk' Try.func8 rfl (by decide)
theorem sl23 : SliceI Try.prog 23 22 1 8 := .mk' (by kernel_rfl) (by kernel_rfl)
theorem ci9 : CallI Try.prog 9 := .mk' Try.func9 rfl (by decide)
theorem ci10 : CallI Try.prog 10 := .mk' Try.func10 rfl (by decide)
theorem ci13 : CallI Try.prog 13 := .mk' Try.func13 rfl (by decide)
theorem ci15 : CallI Try.prog 15 := .mk' Try.func15 rfl (by decide)
theorem ci12 : CallI Try.prog 12 := .mk' Try.func12 rfl (by decide)
theorem ci16 : CallI Try.prog 16 := .mk' Try.func16 rfl (by decide)
theorem ci17 : CallI Try.prog 17 := .mk' Try.func17 rfl (by decide)
set_option maxRecDepth 20000 in
theorem refNew (l : Int) : Does Try.prog 8 [.d (.int .u64 (l))] X0 (.d (.agg [.int .u64 (nlim l), .int .u64 (0)])) X0 := by
  refine spec_intro Try.func8 rfl (Nat.le_of_ble_eq_true rfl) ?_
  refine awp_seq ?_
  refine awp_rw rfl ?_
  refine Rw.opg rfl (guard_yes rfl) (o_alloc 102 rfl z27 rfl rfl) .nil rfl rfl ?_
  refine Rw.done ?_
  refine thenQ_normal ?_
  refine awp_weaken (weak (env := [(0, .d (.int .u64 (l))), (2, .ptr 102 0)]) (objs := [(102, .cells [.d (.int .u64 (0)), .d (.int .u64 (0))])]) (live := []) (.cons (.e rfl) (.cons (.e rfl) .nil)) (.cons rfl .nil) rfl rfl) ?_
  refine awp_seq ?_
  refine awp_seq ?_
  refine awp_rw rfl ?_
  refine Rw.opg rfl (guard_yes rfl) (op_move rfl) (.cons (.t rfl) .nil) rfl rfl ?_
  refine Rw.opg rfl (guard_yes rfl) (op_bin rfl rfl) (.cons (.t rfl) (.cons .c .nil)) rfl rfl ?_
  refine Rw.done ?_
  refine thenQ_normal ?_
  refine awp_weaken (weak (env := [(0, .d (.int .u64 (l))), (2, .ptr 102 0), (4, .d (.bool (decide (281474976710655 < l))))]) (objs := [(102, .cells [.d (.int .u64 (0)), .d (.int .u64 (0))])]) (live := []) (.cons (.e rfl) (.cons (.e rfl) (.cons (.e rfl) .nil))) (.cons rfl .nil) rfl rfl) ?_
  refine awp_cond (b := decide (281474976710655 < l)) (.t rfl) (fun h0 => ?_) (fun h0 => ?_)
  · skip
    refine awp_rw rfl ?_
    refine Rw.opg rfl (guard_yes rfl) (op_assign rfl) (.cons .c .nil) rfl rfl ?_
    refine Rw.done ?_
    refine thenQ_normal ?_
    refine awp_weaken (weak (env := [(0, .d (.int .u64 (281474976710655))), (2, .ptr 102 0)]) (objs := [(102, .cells [.d (.int .u64 (0)), .d (.int .u64 (0))])]) (live := []) (.cons (.e rfl) (.cons (.e rfl) .nil)) (.cons rfl .nil) rfl rfl) ?_
    refine awp_seq ?_
    refine awp_rw rfl ?_
    refine Rw.opg rfl (guard_yes rfl) (op_move rfl) (.cons (.t rfl) .nil) rfl rfl ?_
    refine Rw.opg rfl (guard_yes rfl) (op_build (xs := [.d (.int .u64 (281474976710655))]) rfl st27 z27 rfl rfl rfl) (.cons (.t rfl) .nil) rfl rfl ?_
    refine Rw.opg rfl (guard_yes rfl) (op_store rfl ty27 rfl rfl rfl rfl (Nat.le_of_ble_eq_true rfl)) (.cons (.t rfl) (.cons (.t rfl) .nil)) rfl rfl ?_
    refine Rw.done ?_
    refine thenQ_normal ?_
    refine awp_weaken (weak (env := [(2, .ptr 102 0)]) (objs := [(102, .cells [.d (.int .u64 (281474976710655)), .d (.int .u64 (0))])]) (live := []) (.cons (.e rfl) .nil) (.cons rfl .nil) rfl rfl) ?_
    refine awp_ret ?_
    refine .ret _ [.d (.agg [.int .u64 (281474976710655), .int .u64 (0)])] (.cons _ _ _ _ (.cell _ _ 102 0 _ (.e rfl) (.agg _ _ _ ty27 rfl (Nat.le_of_ble_eq_true rfl) rfl)) .nil) ?_ (weak .nil .nil rfl rfl)
    (first | rfl | (simp_all [tupled, nlim, cleft, craise, cnext]; done) | (simp_all [tupled, nlim, cleft, craise, cnext]; omega))
  · skip
    refine awp_skip ?_
    refine thenQ_normal ?_
    refine awp_weaken (weak (env := [(0, .d (.int .u64 (l))), (2, .ptr 102 0)]) (objs := [(102, .cells [.d (.int .u64 (0)), .d (.int .u64 (0))])]) (live := []) (.cons (.e rfl) (.cons (.e rfl) .nil)) (.cons rfl .nil) rfl rfl) ?_
    refine awp_seq ?_
    refine awp_rw rfl ?_
    refine Rw.opg rfl (guard_yes rfl) (op_move rfl) (.cons (.t rfl) .nil) rfl rfl ?_
    refine Rw.opg rfl (guard_yes rfl) (op_build (xs := [.d (.int .u64 (l))]) rfl st27 z27 rfl rfl rfl) (.cons (.t rfl) .nil) rfl rfl ?_
    refine Rw.opg rfl (guard_yes rfl) (op_store rfl ty27 rfl rfl rfl rfl (Nat.le_of_ble_eq_true rfl)) (.cons (.t rfl) (.cons (.t rfl) .nil)) rfl rfl ?_
    refine Rw.done ?_
    refine thenQ_normal ?_
    refine awp_weaken (weak (env := [(2, .ptr 102 0)]) (objs := [(102, .cells [.d (.int .u64 (l)), .d (.int .u64 (0))])]) (live := []) (.cons (.e rfl) .nil) (.cons rfl .nil) rfl rfl) ?_
    refine awp_ret ?_
    refine .ret _ [.d (.agg [.int .u64 (l), .int .u64 (0)])] (.cons _ _ _ _ (.cell _ _ 102 0 _ (.e rfl) (.agg _ _ _ ty27 rfl (Nat.le_of_ble_eq_true rfl) rfl)) .nil) ?_ (weak .nil .nil rfl rfl)
    (first | rfl | (simp_all [tupled, nlim, cleft, craise, cnext]; done) | (simp_all [tupled, nlim, cleft, craise, cnext]; omega))
set_option maxRecDepth 20000 in
theorem refLeft (l n : Int) (h1 : 0 ≤ n) (h2 : l ≤ 281474976710655) : Does Try.prog 15 [.d (.agg [.int .u64 (l), .int .u64 (n)])] X0 (.d (.int .u64 (cleft l n))) X0 := by
  refine spec_intro Try.func15 rfl (Nat.le_of_ble_eq_true rfl) ?_
  refine awp_seq ?_
  refine awp_rw rfl ?_
  refine Rw.opg rfl (guard_yes rfl) (op_box 101 rfl rfl rfl rfl rfl) (.cons (.t rfl) .nil) rfl rfl ?_
  refine Rw.opg rfl (guard_yes rfl) (op_assign rfl) (.cons .c .nil) rfl rfl ?_
  refine Rw.done ?_
  refine thenQ_normal ?_
  refine awp_weaken (weak (env := [(1, .ptr 101 0), (2, .d (.int .u64 (0)))]) (objs := [(101, .cells [.d (.int .u64 (l)), .d (.int .u64 (n))])]) (live := []) (.cons (.e rfl) (.cons (.e rfl) .nil)) (.cons rfl .nil) rfl rfl) ?_
  refine awp_seq ?_
  refine awp_seq ?_
  refine awp_rw rfl ?_
  refine Rw.opg rfl (guard_yes rfl) (op_fieldAddr_obj rfl fd27_1) (.cons (.t rfl) .nil) rfl rfl ?_
  refine Rw.opg rfl (guard_yes rfl) (op_load_obj rfl (.one _ _ ty22 rfl rfl)) (.cons (.t rfl) .nil) rfl rfl ?_
  refine Rw.opg rfl (guard_yes rfl) (op_fieldAddr_obj rfl fd27_0) (.cons (.t rfl) .nil) rfl rfl ?_
  refine Rw.opg rfl (guard_yes rfl) (op_load_obj rfl (.one _ _ ty22 rfl rfl)) (.cons (.t rfl) .nil) rfl rfl ?_
  refine Rw.opg rfl (guard_yes rfl) (op_bin rfl rfl) (.cons (.t rfl) (.cons (.t rfl) .nil)) rfl rfl ?_
  refine Rw.done ?_
  refine thenQ_normal ?_
  refine awp_weaken (weak (env := [(1, .ptr 101 0), (2, .d (.int .u64 (0))), (7, .d (.bool (decide (l ≤ n))))]) (objs := [(101, .cells [.d (.int .u64 (l)), .d (.int .u64 (n))])]) (live := []) (.cons (.e rfl) (.cons (.e rfl) (.cons (.e rfl) .nil))) (.cons rfl .nil) rfl rfl) ?_
  refine awp_cond (b := decide (l ≤ n)) (.t rfl) (fun h0 => ?_) (fun h0 => ?_)
  · skip
    refine awp_seq ?_
    refine awp_rw rfl ?_
    refine Rw.opg rfl (guard_yes rfl) (op_assign rfl) (.cons .c .nil) rfl rfl ?_
    refine Rw.done ?_
    refine thenQ_normal ?_
    refine awp_weaken (weak (env := [(1, .ptr 101 0), (2, .d (.int .u64 (0)))]) (objs := [(101, .cells [.d (.int .u64 (l)), .d (.int .u64 (n))])]) (live := []) (.cons (.e rfl) (.cons (.e rfl) .nil)) (.cons rfl .nil) rfl rfl) ?_
    refine awp_ret ?_
    refine thenQ_ret ?_
    refine .ret _ [.d (.int .u64 (0))] (.cons _ _ _ _ (.tmp _ _ (.e rfl)) .nil) ?_ (weak .nil .nil rfl rfl)
    (first | rfl | (simp_all [tupled, nlim, cleft, craise, cnext]; done) | (simp_all [tupled, nlim, cleft, craise, cnext]; omega))
  · skip
    refine awp_skip ?_
    refine thenQ_normal ?_
    refine awp_weaken (weak (env := [(1, .ptr 101 0), (2, .d (.int .u64 (0)))]) (objs := [(101, .cells [.d (.int .u64 (l)), .d (.int .u64 (n))])]) (live := []) (.cons (.e rfl) (.cons (.e rfl) .nil)) (.cons rfl .nil) rfl rfl) ?_
    refine awp_seq ?_
    refine awp_rw rfl ?_
    refine Rw.opg rfl (guard_yes rfl) (op_fieldAddr_obj rfl fd27_0) (.cons (.t rfl) .nil) rfl rfl ?_
    refine Rw.opg rfl (guard_yes rfl) (op_load_obj rfl (.one _ _ ty22 rfl rfl)) (.cons (.t rfl) .nil) rfl rfl ?_
    refine Rw.opg rfl (guard_yes rfl) (op_fieldAddr_obj rfl fd27_1) (.cons (.t rfl) .nil) rfl rfl ?_
    refine Rw.opg rfl (guard_yes rfl) (op_load_obj rfl (.one _ _ ty22 rfl rfl)) (.cons (.t rfl) .nil) rfl rfl ?_
    refine Rw.opg rfl (guard_yes rfl) (op_bin_c (c := l - n) rfl rfl (wrap_u64 (by simp_all; omega) (by simp_all; omega))) (.cons (.t rfl) (.cons (.t rfl) .nil)) rfl rfl ?_
    refine Rw.opg rfl (guard_yes rfl) (op_assign rfl) (.cons (.t rfl) .nil) rfl rfl ?_
    refine Rw.done ?_
    refine thenQ_normal ?_
    refine awp_weaken (weak (env := [(2, .d (.int .u64 (l - n)))]) (objs := []) (live := []) (.cons (.e rfl) .nil) .nil rfl rfl) ?_
    refine awp_ret ?_
    refine .ret _ [.d (.int .u64 (l - n))] (.cons _ _ _ _ (.tmp _ _ (.e rfl)) .nil) ?_ (weak .nil .nil rfl rfl)
    (first | rfl | (simp_all [tupled, nlim, cleft, craise, cnext]; done) | (simp_all [tupled, nlim, cleft, craise, cnext]; omega))
set_option maxRecDepth 20000 in
theorem refRaise (l n x : Int) : Does Try.prog 10 [.d (.agg [.int .u64 (l), .int .u64 (n)]), .d (.int .u64 (x))] X0 (.d (.agg [.int .u64 (l), .int .u64 (craise n x)])) X0 := by
  refine spec_intro Try.func10 rfl (Nat.le_of_ble_eq_true rfl) ?_
  refine awp_seq ?_
  refine awp_rw rfl ?_
  refine Rw.opg rfl (guard_yes rfl) (op_box 102 rfl rfl rfl rfl rfl) (.cons (.t rfl) .nil) rfl rfl ?_
  refine Rw.opg rfl (guard_yes rfl) (o_alloc 104 rfl z27 rfl rfl) .nil rfl rfl ?_
  refine Rw.done ?_
  refine thenQ_normal ?_
  refine awp_weaken (weak (env := [(1, .d (.int .u64 (x))), (2, .ptr 102 0), (4, .ptr 104 0)]) (objs := [(104, .cells [.d (.int .u64 (0)), .d (.int .u64 (0))]), (102, .cells [.d (.int .u64 (l)), .d (.int .u64 (n))])]) (live := []) (.cons (.e rfl) (.cons (.e rfl) (.cons (.e rfl) .nil))) (.cons rfl (.cons rfl .nil)) rfl rfl) ?_
  refine awp_seq ?_
  refine awp_seq ?_
  refine awp_rw rfl ?_
  refine Rw.opg rfl (guard_yes rfl) (op_move rfl) (.cons (.t rfl) .nil) rfl rfl ?_
  refine Rw.opg rfl (guard_yes rfl) (op_bin rfl rfl) (.cons (.t rfl) (.cons .c .nil)) rfl rfl ?_
  refine Rw.done ?_
  refine thenQ_normal ?_
  refine awp_weaken (weak (env := [(1, .d (.int .u64 (x))), (2, .ptr 102 0), (4, .ptr 104 0), (6, .d (.bool (decide (281474976710655 < x))))]) (objs := [(104, .cells [.d (.int .u64 (0)), .d (.int .u64 (0))]), (102, .cells [.d (.int .u64 (l)), .d (.int .u64 (n))])]) (live := []) (.cons (.e rfl) (.cons (.e rfl) (.cons (.e rfl) (.cons (.e rfl) .nil)))) (.cons rfl (.cons rfl .nil)) rfl rfl) ?_
  refine awp_cond (b := decide (281474976710655 < x)) (.t rfl) (fun h0 => ?_) (fun h0 => ?_)
  · skip
    refine awp_rw rfl ?_
    refine Rw.opg rfl (guard_yes rfl) (op_assign rfl) (.cons .c .nil) rfl rfl ?_
    refine Rw.done ?_
    refine thenQ_normal ?_
    refine awp_weaken (weak (env := [(1, .d (.int .u64 (281474976710655))), (2, .ptr 102 0), (4, .ptr 104 0)]) (objs := [(104, .cells [.d (.int .u64 (0)), .d (.int .u64 (0))]), (102, .cells [.d (.int .u64 (l)), .d (.int .u64 (n))])]) (live := []) (.cons (.e rfl) (.cons (.e rfl) (.cons (.e rfl) .nil))) (.cons rfl (.cons rfl .nil)) rfl rfl) ?_
    refine awp_seq ?_
    refine awp_seq ?_
    refine awp_rw rfl ?_
    refine Rw.opg rfl (guard_yes rfl) (op_move rfl) (.cons (.t rfl) .nil) rfl rfl ?_
    refine Rw.opg rfl (guard_yes rfl) (op_fieldAddr_obj rfl fd27_1) (.cons (.t rfl) .nil) rfl rfl ?_
    refine Rw.opg rfl (guard_yes rfl) (op_load_obj rfl (.one _ _ ty22 rfl rfl)) (.cons (.t rfl) .nil) rfl rfl ?_
    refine Rw.opg rfl (guard_yes rfl) (op_bin rfl rfl) (.cons (.t rfl) (.cons (.t rfl) .nil)) rfl rfl ?_
    refine Rw.done ?_
    refine thenQ_normal ?_
    refine awp_weaken (weak (env := [(1, .d (.int .u64 (281474976710655))), (2, .ptr 102 0), (4, .ptr 104 0), (10, .d (.bool (decide (n < 281474976710655))))]) (objs := [(104, .cells [.d (.int .u64 (0)), .d (.int .u64 (0))]), (102, .cells [.d (.int .u64 (l)), .d (.int .u64 (n))])]) (live := []) (.cons (.e rfl) (.cons (.e rfl) (.cons (.e rfl) (.cons (.e rfl) .nil)))) (.cons rfl (.cons rfl .nil)) rfl rfl) ?_
    refine awp_cond (b := decide (n < 281474976710655)) (.t rfl) (fun h1 => ?_) (fun h1 => ?_)
    · skip
      refine awp_rw rfl ?_
      refine Rw.opg rfl (guard_yes rfl) (op_move rfl) (.cons (.t rfl) .nil) rfl rfl ?_
      refine Rw.opg rfl (guard_yes rfl) (op_fieldAddr_obj rfl fd27_1) (.cons (.t rfl) .nil) rfl rfl ?_
      refine Rw.opg rfl (guard_yes rfl) (op_store rfl ty22 rfl rfl rfl rfl (Nat.le_of_ble_eq_true rfl)) (.cons (.t rfl) (.cons (.t rfl) .nil)) rfl rfl ?_
      refine Rw.done ?_
      refine thenQ_normal ?_
      refine awp_weaken (weak (env := [(2, .ptr 102 0), (4, .ptr 104 0)]) (objs := [(104, .cells [.d (.int .u64 (0)), .d (.int .u64 (0))]), (102, .cells [.d (.int .u64 (l)), .d (.int .u64 (281474976710655))])]) (live := []) (.cons (.e rfl) (.cons (.e rfl) .nil)) (.cons rfl (.cons rfl .nil)) rfl rfl) ?_
      refine awp_seq ?_
      refine awp_rw rfl ?_
      refine Rw.opg rfl (guard_yes rfl) (op_load_obj rfl (.agg _ _ _ ty27 rfl (Nat.le_of_ble_eq_true rfl) rfl)) (.cons (.t rfl) .nil) rfl rfl ?_
      refine Rw.opg rfl (guard_yes rfl) (op_store rfl ty27 rfl rfl rfl rfl (Nat.le_of_ble_eq_true rfl)) (.cons (.t rfl) (.cons (.t rfl) .nil)) rfl rfl ?_
      refine Rw.done ?_
      refine thenQ_normal ?_
      refine awp_weaken (weak (env := [(4, .ptr 104 0)]) (objs := [(104, .cells [.d (.int .u64 (l)), .d (.int .u64 (281474976710655))])]) (live := []) (.cons (.e rfl) .nil) (.cons rfl .nil) rfl rfl) ?_
      refine awp_ret ?_
      refine .ret _ [.d (.agg [.int .u64 (l), .int .u64 (281474976710655)])] (.cons _ _ _ _ (.cell _ _ 104 0 _ (.e rfl) (.agg _ _ _ ty27 rfl (Nat.le_of_ble_eq_true rfl) rfl)) .nil) ?_ (weak .nil .nil rfl rfl)
      (first | rfl | (simp_all [tupled, nlim, cleft, craise, cnext]; done) | (simp_all [tupled, nlim, cleft, craise, cnext]; omega))
    · skip
      refine awp_skip ?_
      refine thenQ_normal ?_
      refine awp_weaken (weak (env := [(2, .ptr 102 0), (4, .ptr 104 0)]) (objs := [(104, .cells [.d (.int .u64 (0)), .d (.int .u64 (0))]), (102, .cells [.d (.int .u64 (l)), .d (.int .u64 (n))])]) (live := []) (.cons (.e rfl) (.cons (.e rfl) .nil)) (.cons rfl (.cons rfl .nil)) rfl rfl) ?_
      refine awp_seq ?_
      refine awp_rw rfl ?_
      refine Rw.opg rfl (guard_yes rfl) (op_load_obj rfl (.agg _ _ _ ty27 rfl (Nat.le_of_ble_eq_true rfl) rfl)) (.cons (.t rfl) .nil) rfl rfl ?_
      refine Rw.opg rfl (guard_yes rfl) (op_store rfl ty27 rfl rfl rfl rfl (Nat.le_of_ble_eq_true rfl)) (.cons (.t rfl) (.cons (.t rfl) .nil)) rfl rfl ?_
      refine Rw.done ?_
      refine thenQ_normal ?_
      refine awp_weaken (weak (env := [(4, .ptr 104 0)]) (objs := [(104, .cells [.d (.int .u64 (l)), .d (.int .u64 (n))])]) (live := []) (.cons (.e rfl) .nil) (.cons rfl .nil) rfl rfl) ?_
      refine awp_ret ?_
      refine .ret _ [.d (.agg [.int .u64 (l), .int .u64 (n)])] (.cons _ _ _ _ (.cell _ _ 104 0 _ (.e rfl) (.agg _ _ _ ty27 rfl (Nat.le_of_ble_eq_true rfl) rfl)) .nil) ?_ (weak .nil .nil rfl rfl)
      (first | rfl | (simp_all [tupled, nlim, cleft, craise, cnext]; done) | (simp_all [tupled, nlim, cleft, craise, cnext]; omega))
  · skip
    refine awp_skip ?_
    refine thenQ_normal ?_
    refine awp_weaken (weak (env := [(1, .d (.int .u64 (x))), (2, .ptr 102 0), (4, .ptr 104 0)]) (objs := [(104, .cells [.d (.int .u64 (0)), .d (.int .u64 (0))]), (102, .cells [.d (.int .u64 (l)), .d (.int .u64 (n))])]) (live := []) (.cons (.e rfl) (.cons (.e rfl) (.cons (.e rfl) .nil))) (.cons rfl (.cons rfl .nil)) rfl rfl) ?_
    refine awp_seq ?_
    refine awp_seq ?_
    refine awp_rw rfl ?_
    refine Rw.opg rfl (guard_yes rfl) (op_move rfl) (.cons (.t rfl) .nil) rfl rfl ?_
    refine Rw.opg rfl (guard_yes rfl) (op_fieldAddr_obj rfl fd27_1) (.cons (.t rfl) .nil) rfl rfl ?_
    refine Rw.opg rfl (guard_yes rfl) (op_load_obj rfl (.one _ _ ty22 rfl rfl)) (.cons (.t rfl) .nil) rfl rfl ?_
    refine Rw.opg rfl (guard_yes rfl) (op_bin rfl rfl) (.cons (.t rfl) (.cons (.t rfl) .nil)) rfl rfl ?_
    refine Rw.done ?_
    refine thenQ_normal ?_
    refine awp_weaken (weak (env := [(1, .d (.int .u64 (x))), (2, .ptr 102 0), (4, .ptr 104 0), (10, .d (.bool (decide (n < x))))]) (objs := [(104, .cells [.d (.int .u64 (0)), .d (.int .u64 (0))]), (102, .cells [.d (.int .u64 (l)), .d (.int .u64 (n))])]) (live := []) (.cons (.e rfl) (.cons (.e rfl) (.cons (.e rfl) (.cons (.e rfl) .nil)))) (.cons rfl (.cons rfl .nil)) rfl rfl) ?_
    refine awp_cond (b := decide (n < x)) (.t rfl) (fun h2 => ?_) (fun h2 => ?_)
    · skip
      refine awp_rw rfl ?_
      refine Rw.opg rfl (guard_yes rfl) (op_move rfl) (.cons (.t rfl) .nil) rfl rfl ?_
      refine Rw.opg rfl (guard_yes rfl) (op_fieldAddr_obj rfl fd27_1) (.cons (.t rfl) .nil) rfl rfl ?_
      refine Rw.opg rfl (guard_yes rfl) (op_store rfl ty22 rfl rfl rfl rfl (Nat.le_of_ble_eq_true rfl)) (.cons (.t rfl) (.cons (.t rfl) .nil)) rfl rfl ?_
      refine Rw.done ?_
      refine thenQ_normal ?_
      refine awp_weaken (weak (env := [(2, .ptr 102 0), (4, .ptr 104 0)]) (objs := [(104, .cells [.d (.int .u64 (0)), .d (.int .u64 (0))]), (102, .cells [.d (.int .u64 (l)), .d (.int .u64 (x))])]) (live := []) (.cons (.e rfl) (.cons (.e rfl) .nil)) (.cons rfl (.cons rfl .nil)) rfl rfl) ?_
      refine awp_seq ?_
      refine awp_rw rfl ?_
      refine Rw.opg rfl (guard_yes rfl) (op_load_obj rfl (.agg _ _ _ ty27 rfl (Nat.le_of_ble_eq_true rfl) rfl)) (.cons (.t rfl) .nil) rfl rfl ?_
      refine Rw.opg rfl (guard_yes rfl) (op_store rfl ty27 rfl rfl rfl rfl (Nat.le_of_ble_eq_true rfl)) (.cons (.t rfl) (.cons (.t rfl) .nil)) rfl rfl ?_
      refine Rw.done ?_
      refine thenQ_normal ?_
      refine awp_weaken (weak (env := [(4, .ptr 104 0)]) (objs := [(104, .cells [.d (.int .u64 (l)), .d (.int .u64 (x))])]) (live := []) (.cons (.e rfl) .nil) (.cons rfl .nil) rfl rfl) ?_
      refine awp_ret ?_
      refine .ret _ [.d (.agg [.int .u64 (l), .int .u64 (x)])] (.cons _ _ _ _ (.cell _ _ 104 0 _ (.e rfl) (.agg _ _ _ ty27 rfl (Nat.le_of_ble_eq_true rfl) rfl)) .nil) ?_ (weak .nil .nil rfl rfl)
      (first | rfl | (simp_all [tupled, nlim, cleft, craise, cnext]; done) | (simp_all [tupled, nlim, cleft, craise, cnext]; omega))
    · skip
      refine awp_skip ?_
      refine thenQ_normal ?_
      refine awp_weaken (weak (env := [(2, .ptr 102 0), (4, .ptr 104 0)]) (objs := [(104, .cells [.d (.int .u64 (0)), .d (.int .u64 (0))]), (102, .cells [.d (.int .u64 (l)), .d (.int .u64 (n))])]) (live := []) (.cons (.e rfl) (.cons (.e rfl) .nil)) (.cons rfl (.cons rfl .nil)) rfl rfl) ?_
      refine awp_seq ?_
      refine awp_rw rfl ?_
      refine Rw.opg rfl (guard_yes rfl) (op_load_obj rfl (.agg _ _ _ ty27 rfl (Nat.le_of_ble_eq_true rfl) rfl)) (.cons (.t rfl) .nil) rfl rfl ?_
      refine Rw.opg rfl (guard_yes rfl) (op_store rfl ty27 rfl rfl rfl rfl (Nat.le_of_ble_eq_true rfl)) (.cons (.t rfl) (.cons (.t rfl) .nil)) rfl rfl ?_
      refine Rw.done ?_
      refine thenQ_normal ?_
      refine awp_weaken (weak (env := [(4, .ptr 104 0)]) (objs := [(104, .cells [.d (.int .u64 (l)), .d (.int .u64 (n))])]) (live := []) (.cons (.e rfl) .nil) (.cons rfl .nil) rfl rfl) ?_
      refine awp_ret ?_
      refine .ret _ [.d (.agg [.int .u64 (l), .int .u64 (n)])] (.cons _ _ _ _ (.cell _ _ 104 0 _ (.e rfl) (.agg _ _ _ ty27 rfl (Nat.le_of_ble_eq_true rfl) rfl)) .nil) ?_ (weak .nil .nil rfl rfl)
      (first | rfl | (simp_all [tupled, nlim, cleft, craise, cnext]; done) | (simp_all [tupled, nlim, cleft, craise, cnext]; omega))
set_option maxRecDepth 20000 in
theorem refNext (l n : Int) (h1 : 0 ≤ n) (h2 : l ≤ 281474976710655) : Does Try.prog 12 [.d (.agg [.int .u64 (l), .int .u64 (n)])] X0 (.tup [.d (.agg [.int .u64 l, .int .u64 (cnext l n)]), .d (.int .u64 (if n < l then n + 1 else 0)), .d (.int .i64 (if n < l then 0 else 9))]) X0 := by
  refine spec_intro Try.func12 rfl (Nat.le_of_ble_eq_true rfl) ?_
  refine awp_seq ?_
  refine awp_rw rfl ?_
  refine Rw.opg rfl (guard_yes rfl) (op_box 101 rfl rfl rfl rfl rfl) (.cons (.t rfl) .nil) rfl rfl ?_
  refine Rw.opg rfl (guard_yes rfl) (o_alloc 102 rfl z27 rfl rfl) .nil rfl rfl ?_
  refine Rw.opg rfl (guard_yes rfl) (op_assign rfl) (.cons .c .nil) rfl rfl ?_
  refine Rw.opg rfl (guard_yes rfl) (op_assign rfl) (.cons .c .nil) rfl rfl ?_
  refine Rw.done ?_
  refine thenQ_normal ?_
  refine awp_weaken (weak (env := [(1, .ptr 101 0), (2, .ptr 102 0), (3, .d (.int .u64 (0))), (4, .d (.int .i64 (0)))]) (objs := [(102, .cells [.d (.int .u64 (0)), .d (.int .u64 (0))]), (101, .cells [.d (.int .u64 (l)), .d (.int .u64 (n))])]) (live := []) (.cons (.e rfl) (.cons (.e rfl) (.cons (.e rfl) (.cons (.e rfl) .nil)))) (.cons rfl (.cons rfl .nil)) rfl rfl) ?_
  refine awp_seq ?_
  refine awp_seq ?_
  refine awp_rw rfl ?_
  refine Rw.opg rfl (guard_yes rfl) (op_fieldAddr_obj rfl fd27_1) (.cons (.t rfl) .nil) rfl rfl ?_
  refine Rw.opg rfl (guard_yes rfl) (op_load_obj rfl (.one _ _ ty22 rfl rfl)) (.cons (.t rfl) .nil) rfl rfl ?_
  refine Rw.opg rfl (guard_yes rfl) (op_fieldAddr_obj rfl fd27_0) (.cons (.t rfl) .nil) rfl rfl ?_
  refine Rw.opg rfl (guard_yes rfl) (op_load_obj rfl (.one _ _ ty22 rfl rfl)) (.cons (.t rfl) .nil) rfl rfl ?_
  refine Rw.opg rfl (guard_yes rfl) (op_bin rfl rfl) (.cons (.t rfl) (.cons (.t rfl) .nil)) rfl rfl ?_
  refine Rw.done ?_
  refine thenQ_normal ?_
  refine awp_weaken (weak (env := [(1, .ptr 101 0), (2, .ptr 102 0), (3, .d (.int .u64 (0))), (4, .d (.int .i64 (0))), (9, .d (.bool (decide (l ≤ n))))]) (objs := [(102, .cells [.d (.int .u64 (0)), .d (.int .u64 (0))]), (101, .cells [.d (.int .u64 (l)), .d (.int .u64 (n))])]) (live := []) (.cons (.e rfl) (.cons (.e rfl) (.cons (.e rfl) (.cons (.e rfl) (.cons (.e rfl) .nil))))) (.cons rfl (.cons rfl .nil)) rfl rfl) ?_
  refine awp_cond (b := decide (l ≤ n)) (.t rfl) (fun h0 => ?_) (fun h0 => ?_)
  · skip
    refine awp_seq ?_
    refine awp_rw rfl ?_
    refine Rw.opg rfl (guard_yes rfl) (op_load_obj rfl (.agg _ _ _ ty27 rfl (Nat.le_of_ble_eq_true rfl) rfl)) (.cons (.t rfl) .nil) rfl rfl ?_
    refine Rw.opg rfl (guard_yes rfl) (op_store rfl ty27 rfl rfl rfl rfl (Nat.le_of_ble_eq_true rfl)) (.cons (.t rfl) (.cons (.t rfl) .nil)) rfl rfl ?_
    refine Rw.opg rfl (guard_yes rfl) (op_assign rfl) (.cons .c .nil) rfl rfl ?_
    refine Rw.opg rfl (guard_yes rfl) (op_assign rfl) (.cons .c .nil) rfl rfl ?_
    refine Rw.done ?_
    refine thenQ_normal ?_
    refine awp_weaken (weak (env := [(1, .ptr 101 0), (2, .ptr 102 0), (3, .d (.int .u64 (0))), (4, .d (.int .i64 (9)))]) (objs := [(102, .cells [.d (.int .u64 (l)), .d (.int .u64 (n))]), (101, .cells [.d (.int .u64 (l)), .d (.int .u64 (n))])]) (live := []) (.cons (.e rfl) (.cons (.e rfl) (.cons (.e rfl) (.cons (.e rfl) .nil)))) (.cons rfl (.cons rfl .nil)) rfl rfl) ?_
    refine awp_ret ?_
    refine thenQ_ret ?_
    refine .ret _ [.d (.agg [.int .u64 (l), .int .u64 (n)]), .d (.int .u64 (0)), .d (.int .i64 (9))] (.cons _ _ _ _ (.cell _ _ 102 0 _ (.e rfl) (.agg _ _ _ ty27 rfl (Nat.le_of_ble_eq_true rfl) rfl)) (.cons _ _ _ _ (.tmp _ _ (.e rfl)) (.cons _ _ _ _ (.tmp _ _ (.e rfl)) .nil))) ?_ (weak .nil .nil rfl rfl)
    (first | rfl | (simp_all [tupled, nlim, cleft, craise, cnext]; done) | (simp_all [tupled, nlim, cleft, craise, cnext]; omega))
  · skip
    refine awp_skip ?_
    refine thenQ_normal ?_
    refine awp_weaken (weak (env := [(1, .ptr 101 0), (2, .ptr 102 0), (3, .d (.int .u64 (0))), (4, .d (.int .i64 (0)))]) (objs := [(102, .cells [.d (.int .u64 (0)), .d (.int .u64 (0))]), (101, .cells [.d (.int .u64 (l)), .d (.int .u64 (n))])]) (live := []) (.cons (.e rfl) (.cons (.e rfl) (.cons (.e rfl) (.cons (.e rfl) .nil)))) (.cons rfl (.cons rfl .nil)) rfl rfl) ?_
    refine awp_seq ?_
    refine awp_rw rfl ?_
    refine Rw.opg rfl (guard_yes rfl) (op_fieldAddr_obj rfl fd27_1) (.cons (.t rfl) .nil) rfl rfl ?_
    refine Rw.opg rfl (guard_yes rfl) (op_load_obj rfl (.one _ _ ty22 rfl rfl)) (.cons (.t rfl) .nil) rfl rfl ?_
    refine Rw.opg rfl (guard_yes rfl) (op_bin_c (c := n + 1) rfl rfl (wrap_u64 (by simp_all; omega) (by simp_all; omega))) (.cons (.t rfl) (.cons .c .nil)) rfl rfl ?_
    refine Rw.opg rfl (guard_yes rfl) (op_fieldAddr_obj rfl fd27_1) (.cons (.t rfl) .nil) rfl rfl ?_
    refine Rw.opg rfl (guard_yes rfl) (op_store rfl ty22 rfl rfl rfl rfl (Nat.le_of_ble_eq_true rfl)) (.cons (.t rfl) (.cons (.t rfl) .nil)) rfl rfl ?_
    refine Rw.done ?_
    refine thenQ_normal ?_
    refine awp_weaken (weak (env := [(1, .ptr 101 0), (2, .ptr 102 0), (3, .d (.int .u64 (0))), (4, .d (.int .i64 (0)))]) (objs := [(102, .cells [.d (.int .u64 (0)), .d (.int .u64 (0))]), (101, .cells [.d (.int .u64 (l)), .d (.int .u64 (n + 1))])]) (live := []) (.cons (.e rfl) (.cons (.e rfl) (.cons (.e rfl) (.cons (.e rfl) .nil)))) (.cons rfl (.cons rfl .nil)) rfl rfl) ?_
    refine awp_seq ?_
    refine awp_dw 6 mixed ?_
    refine Dw.look (ks := [101]) rfl (guard_yes rfl) (fun X hX => op_load_obj rfl (Loads.congr (X := ⟨[(101, .cells [.d (.int .u64 (l)), .d (.int .u64 (n + 1))])], []⟩) (.agg _ _ _ ty27 rfl (Nat.le_of_ble_eq_true rfl) rfl) ((hX _ List.mem_cons_self).trans rfl))) (.cons (.t rfl) .nil) rfl ?_
    refine Dw.op rfl (guard_yes rfl) (fun X => op_fieldAddr_obj rfl fd27_1) (.cons (.t rfl) .nil) rfl ?_
    refine Dw.look (ks := [101]) rfl (guard_yes rfl) (fun X hX => op_load_obj rfl (Loads.congr (X := ⟨[(101, .cells [.d (.int .u64 (l)), .d (.int .u64 (n + 1))])], []⟩) (.one _ _ ty22 rfl rfl) ((hX _ List.mem_cons_self).trans rfl))) (.cons (.t rfl) .nil) rfl ?_
    refine Dw.put (k := 102) rfl (guard_yes rfl) (fun X hX => op_store rfl ty27 (hX.trans rfl) rfl rfl rfl (Nat.le_of_ble_eq_true rfl)) (.cons (.t rfl) (.cons (.t rfl) .nil)) rfl ?_
    refine Dw.op rfl (guard_yes rfl) (fun X => op_assign rfl) (.cons (.t rfl) .nil) rfl ?_
    refine Dw.op rfl (guard_yes rfl) (fun X => op_assign rfl) (.cons .c .nil) rfl ?_
    refine Dw.fin (by kernel_rfl) ?_
    refine thenQ_normal ?_
    refine awp_weaken (weak (env := [(2, .ptr 102 0), (3, .d (.int .u64 (n + 1))), (4, .d (.int .i64 (0)))]) (objs := [(102, .cells [.d (.int .u64 (l)), .d (.int .u64 (n + 1))])]) (live := []) (.cons (.e rfl) (.cons (.e rfl) (.cons (.e rfl) .nil))) (.cons rfl .nil) rfl rfl) ?_
    refine awp_ret ?_
    refine .ret _ [.d (.agg [.int .u64 (l), .int .u64 (n + 1)]), .d (.int .u64 (n + 1)), .d (.int .i64 (0))] (.cons _ _ _ _ (.cell _ _ 102 0 _ (.e rfl) (.agg _ _ _ ty27 rfl (Nat.le_of_ble_eq_true rfl) rfl)) (.cons _ _ _ _ (.tmp _ _ (.e rfl)) (.cons _ _ _ _ (.tmp _ _ (.e rfl)) .nil))) ?_ (weak .nil .nil rfl rfl)
    (first | rfl | (simp_all [tupled, nlim, cleft, craise, cnext]; done) | (simp_all [tupled, nlim, cleft, craise, cnext]; omega))
set_option maxRecDepth 20000 in
theorem cNew (l : Int) : Does Try.prog 7 [.d (.int .u64 (l))] X0 (.ptr 106 0) ⟨[(106, .cells [.d (.int .u64 (nlim l)), .d (.int .u64 (0))])], []⟩ := by
  refine spec_intro Try.func7 rfl (Nat.le_of_ble_eq_true rfl) ?_
  refine awp_seq ?_
  refine awp_rw rfl ?_
  refine Rw.opg rfl (guard_yes rfl) (op_assign rfl) (.cons .c .nil) rfl rfl ?_
  refine Rw.done ?_
  refine thenQ_normal ?_
  refine awp_weaken (weak (env := [(0, .d (.int .u64 (l))), (2, .d (.sc (.pointer none)))]) (objs := []) (live := []) (.cons (.e rfl) (.cons (.e rfl) .nil)) .nil rfl rfl) ?_
  refine awp_seq ?_
  refine awp_rw rfl ?_
  refine Rw.opg rfl (guard_yes rfl) (op_move rfl) (.cons (.t rfl) .nil) rfl rfl ?_
  refine Rw.opg rfl (guard_yes rfl) (op_min rfl) (.cons (.t rfl) (.cons .c .nil)) rfl rfl ?_
  refine Rw.opg rfl (guard_yes rfl) (op_build (xs := [.d (.int .u64 (if 281474976710655 < l then 281474976710655 else l))]) rfl st42 z42 rfl rfl rfl) (.cons (.t rfl) .nil) rfl rfl ?_
  refine Rw.opg rfl (guard_yes rfl) (op_box 106 rfl rfl rfl rfl rfl) (.cons (.t rfl) .nil) rfl rfl ?_
  refine Rw.opg rfl (guard_yes rfl) (op_assign rfl) (.cons (.t rfl) .nil) rfl rfl ?_
  refine Rw.done ?_
  refine thenQ_normal ?_
  refine awp_weaken (weak (env := [(2, .ptr 106 0)]) (objs := [(106, .cells [.d (.int .u64 (if 281474976710655 < l then 281474976710655 else l)), .d (.int .u64 (0))])]) (live := []) (.cons (.e rfl) .nil) (.cons rfl .nil) rfl rfl) ?_
  refine awp_ret ?_
  refine .ret _ [.ptr 106 0] (.cons _ _ _ _ (.tmp _ _ (.e rfl)) .nil) ?_ (weak .nil (.as rfl (by rfl) .nil) rfl rfl)
  rfl
set_option maxRecDepth 20000 in
theorem cLeft (l n : Int) (h1 : 0 ≤ n) (h2 : l ≤ 281474976710655) : Does Try.prog 14 [.ptr 0 0] ⟨[(0, .cells [.d (.int .u64 (l)), .d (.int .u64 (n))])], []⟩ (.d (.int .u64 (cleft l n))) ⟨[(0, .cells [.d (.int .u64 (l)), .d (.int .u64 (n))])], []⟩ := by
  refine spec_intro Try.func14 rfl (Nat.le_of_ble_eq_true rfl) ?_
  refine awp_seq ?_
  refine awp_rw rfl ?_
  refine Rw.opg rfl (guard_yes rfl) (op_assign rfl) (.cons .c .nil) rfl rfl ?_
  refine Rw.done ?_
  refine thenQ_normal ?_
  refine awp_weaken (weak (env := [(0, .ptr 0 0), (2, .d (.int .u64 (0)))]) (objs := [(0, .cells [.d (.int .u64 (l)), .d (.int .u64 (n))])]) (live := []) (.cons (.e rfl) (.cons (.e rfl) .nil)) (.cons rfl .nil) rfl rfl) ?_
  refine awp_seq ?_
  refine awp_seq ?_
  refine awp_dw 13 mixed ?_
  refine Dw.op rfl (guard_yes rfl) (fun X => op_move rfl) (.cons (.t rfl) .nil) rfl ?_
  refine Dw.op rfl (guard_yes rfl) (fun X => op_ptr_eql rfl up24) (.cons (.t rfl) (.cons .c .nil)) rfl ?_
  refine Dw.op rfl (guard_yes rfl) (fun X => op_move rfl) (.cons (.t rfl) .nil) rfl ?_
  refine Dw.op rfl (guard_run rfl rfl rfl rfl) (fun X => op_move rfl) (.cons (.t rfl) .nil) rfl ?_
  refine Dw.op rfl (guard_run rfl rfl rfl rfl) (fun X => op_nilCheck_obj rfl) (.cons (.t rfl) .nil) rfl ?_
  refine Dw.op rfl (guard_run rfl rfl rfl rfl) (fun X => op_fieldAddr_obj rfl fd42_1) (.cons (.t rfl) .nil) rfl ?_
  refine Dw.look (ks := [0]) rfl (guard_run rfl rfl rfl rfl) (fun X hX => op_load_obj rfl (Loads.congr (X := ⟨[(0, .cells [.d (.int .u64 (l)), .d (.int .u64 (n))])], []⟩) (.one _ _ ty22 rfl rfl) ((hX _ List.mem_cons_self).trans rfl))) (.cons (.t rfl) .nil) rfl ?_
  refine Dw.op rfl (guard_run rfl rfl rfl rfl) (fun X => op_move rfl) (.cons (.t rfl) .nil) rfl ?_
  refine Dw.op rfl (guard_run rfl rfl rfl rfl) (fun X => op_nilCheck_obj rfl) (.cons (.t rfl) .nil) rfl ?_
  refine Dw.op rfl (guard_run rfl rfl rfl rfl) (fun X => op_fieldAddr_obj rfl fd42_0) (.cons (.t rfl) .nil) rfl ?_
  refine Dw.look (ks := [0]) rfl (guard_run rfl rfl rfl rfl) (fun X hX => op_load_obj rfl (Loads.congr (X := ⟨[(0, .cells [.d (.int .u64 (l)), .d (.int .u64 (n))])], []⟩) (.one _ _ ty22 rfl rfl) ((hX _ List.mem_cons_self).trans rfl))) (.cons (.t rfl) .nil) rfl ?_
  refine Dw.op rfl (guard_run rfl rfl rfl rfl) (fun X => op_bin rfl rfl) (.cons (.t rfl) (.cons (.t rfl) .nil)) rfl ?_
  refine Dw.op rfl (guard_yes rfl) (fun X => op_pick_false rfl) (.cons (.t rfl) (.cons (.t rfl) .nil)) rfl ?_
  refine Dw.fin (by kernel_rfl) ?_
  refine thenQ_normal ?_
  refine awp_weaken (weak (env := [(0, .ptr 0 0), (2, .d (.int .u64 (0))), (15, .d (.bool (decide (l ≤ n))))]) (objs := [(0, .cells [.d (.int .u64 (l)), .d (.int .u64 (n))])]) (live := []) (.cons (.e rfl) (.cons (.e rfl) (.cons (.e rfl) .nil))) (.cons rfl .nil) rfl rfl) ?_
  refine awp_cond (b := decide (l ≤ n)) (.t rfl) (fun h0 => ?_) (fun h0 => ?_)
  · skip
    refine awp_seq ?_
    refine awp_rw rfl ?_
    refine Rw.opg rfl (guard_yes rfl) (op_assign rfl) (.cons .c .nil) rfl rfl ?_
    refine Rw.done ?_
    refine thenQ_normal ?_
    refine awp_weaken (weak (env := [(0, .ptr 0 0), (2, .d (.int .u64 (0)))]) (objs := [(0, .cells [.d (.int .u64 (l)), .d (.int .u64 (n))])]) (live := []) (.cons (.e rfl) (.cons (.e rfl) .nil)) (.cons rfl .nil) rfl rfl) ?_
    refine awp_ret ?_
    refine thenQ_ret ?_
    refine .ret _ [.d (.int .u64 (0))] (.cons _ _ _ _ (.tmp _ _ (.e rfl)) .nil) ?_ (weak .nil (.cons rfl .nil) rfl rfl)
    (first | rfl | (simp_all [tupled, nlim, cleft, craise, cnext]; done) | (simp_all [tupled, nlim, cleft, craise, cnext]; omega))
  · skip
    refine awp_skip ?_
    refine thenQ_normal ?_
    refine awp_weaken (weak (env := [(0, .ptr 0 0), (2, .d (.int .u64 (0)))]) (objs := [(0, .cells [.d (.int .u64 (l)), .d (.int .u64 (n))])]) (live := []) (.cons (.e rfl) (.cons (.e rfl) .nil)) (.cons rfl .nil) rfl rfl) ?_
    refine awp_seq ?_
    refine awp_dw 10 mixed ?_
    refine Dw.op rfl (guard_yes rfl) (fun X => op_move rfl) (.cons (.t rfl) .nil) rfl ?_
    refine Dw.op rfl (guard_yes rfl) (fun X => op_nilCheck_obj rfl) (.cons (.t rfl) .nil) rfl ?_
    refine Dw.op rfl (guard_yes rfl) (fun X => op_fieldAddr_obj rfl fd42_0) (.cons (.t rfl) .nil) rfl ?_
    refine Dw.look (ks := [0]) rfl (guard_yes rfl) (fun X hX => op_load_obj rfl (Loads.congr (X := ⟨[(0, .cells [.d (.int .u64 (l)), .d (.int .u64 (n))])], []⟩) (.one _ _ ty22 rfl rfl) ((hX _ List.mem_cons_self).trans rfl))) (.cons (.t rfl) .nil) rfl ?_
    refine Dw.op rfl (guard_yes rfl) (fun X => op_move rfl) (.cons (.t rfl) .nil) rfl ?_
    refine Dw.op rfl (guard_yes rfl) (fun X => op_nilCheck_obj rfl) (.cons (.t rfl) .nil) rfl ?_
    refine Dw.op rfl (guard_yes rfl) (fun X => op_fieldAddr_obj rfl fd42_1) (.cons (.t rfl) .nil) rfl ?_
    refine Dw.look (ks := [0]) rfl (guard_yes rfl) (fun X hX => op_load_obj rfl (Loads.congr (X := ⟨[(0, .cells [.d (.int .u64 (l)), .d (.int .u64 (n))])], []⟩) (.one _ _ ty22 rfl rfl) ((hX _ List.mem_cons_self).trans rfl))) (.cons (.t rfl) .nil) rfl ?_
    refine Dw.op rfl (guard_yes rfl) (fun X => op_bin_c (c := l - n) rfl rfl (wrap_u64 (by simp_all; omega) (by simp_all; omega))) (.cons (.t rfl) (.cons (.t rfl) .nil)) rfl ?_
    refine Dw.op rfl (guard_yes rfl) (fun X => op_assign rfl) (.cons (.t rfl) .nil) rfl ?_
    refine Dw.fin (by kernel_rfl) ?_
    refine thenQ_normal ?_
    refine awp_weaken (weak (env := [(2, .d (.int .u64 (l - n)))]) (objs := [(0, .cells [.d (.int .u64 (l)), .d (.int .u64 (n))])]) (live := []) (.cons (.e rfl) .nil) (.cons rfl .nil) rfl rfl) ?_
    refine awp_ret ?_
    refine .ret _ [.d (.int .u64 (l - n))] (.cons _ _ _ _ (.tmp _ _ (.e rfl)) .nil) ?_ (weak .nil (.cons rfl .nil) rfl rfl)
    (first | rfl | (simp_all [tupled, nlim, cleft, craise, cnext]; done) | (simp_all [tupled, nlim, cleft, craise, cnext]; omega))
set_option maxRecDepth 20000 in
theorem cNext (l n : Int) (h1 : 0 ≤ n) (h2 : l ≤ 281474976710655) : Does Try.prog 11 [.ptr 0 0] ⟨[(0, .cells [.d (.int .u64 (l)), .d (.int .u64 (n))])], []⟩ (.tup [.d (.int .u64 (if n < l then n + 1 else 0)), .d (.int .i64 (if n < l then 0 else 9))]) ⟨[(0, .cells [.d (.int .u64 (l)), .d (.int .u64 (cnext l n))])], []⟩ := by
  refine spec_intro Try.func11 rfl (Nat.le_of_ble_eq_true rfl) ?_
  refine awp_seq ?_
  refine awp_rw rfl ?_
  refine Rw.opg rfl (guard_yes rfl) (op_assign rfl) (.cons .c .nil) rfl rfl ?_
  refine Rw.opg rfl (guard_yes rfl) (op_assign rfl) (.cons .c .nil) rfl rfl ?_
  refine Rw.done ?_
  refine thenQ_normal ?_
  refine awp_weaken (weak (env := [(0, .ptr 0 0), (2, .d (.int .u64 (0))), (3, .d (.int .i64 (0)))]) (objs := [(0, .cells [.d (.int .u64 (l)), .d (.int .u64 (n))])]) (live := []) (.cons (.e rfl) (.cons (.e rfl) (.cons (.e rfl) .nil))) (.cons rfl .nil) rfl rfl) ?_
  refine awp_seq ?_
  refine awp_seq ?_
  refine awp_rw rfl ?_
  refine Rw.opg rfl (guard_yes rfl) (op_move rfl) (.cons (.t rfl) .nil) rfl rfl ?_
  refine Rw.opg rfl (guard_yes rfl) (op_call_look [(0, 0)] rfl ci14 (cLeft _ _ (by first | omega | (simp only [craise, cnext, nlim] <;> (repeat split) <;> omega)) (by first | omega | (simp only [craise, cnext, nlim] <;> (repeat split) <;> omega))) (objCall (.cons rfl .nil) rfl rfl rfl rfl rfl rfl rfl) rfl rfl rfl) (.cons (.t rfl) .nil) rfl rfl ?_
  refine Rw.opg rfl (guard_yes rfl) (op_bin rfl rfl) (.cons (.t rfl) (.cons .c .nil)) rfl rfl ?_
  refine Rw.done ?_
  refine thenQ_normal ?_
  refine awp_weaken (weak (env := [(0, .ptr 0 0), (2, .d (.int .u64 (0))), (3, .d (.int .i64 (0))), (6, .d (.bool ((cleft l n) == 0)))]) (objs := [(0, .cells [.d (.int .u64 (l)), .d (.int .u64 (n))])]) (live := []) (.cons (.e rfl) (.cons (.e rfl) (.cons (.e rfl) (.cons (.e rfl) .nil)))) (.cons rfl .nil) rfl rfl) ?_
  refine awp_cond (b := (cleft l n) == 0) (.t rfl) (fun h0 => ?_) (fun h0 => ?_)
  · skip
    refine awp_seq ?_
    refine awp_rw rfl ?_
    refine Rw.opg rfl (guard_yes rfl) (op_assign rfl) (.cons .c .nil) rfl rfl ?_
    refine Rw.opg rfl (guard_yes rfl) (op_assign rfl) (.cons .c .nil) rfl rfl ?_
    refine Rw.done ?_
    refine thenQ_normal ?_
    refine awp_weaken (weak (env := [(0, .ptr 0 0), (2, .d (.int .u64 (0))), (3, .d (.int .i64 (9)))]) (objs := [(0, .cells [.d (.int .u64 (l)), .d (.int .u64 (n))])]) (live := []) (.cons (.e rfl) (.cons (.e rfl) (.cons (.e rfl) .nil))) (.cons rfl .nil) rfl rfl) ?_
    refine awp_ret ?_
    refine thenQ_ret ?_
    refine .ret _ [.d (.int .u64 (0)), .d (.int .i64 (9))] (.cons _ _ _ _ (.tmp _ _ (.e rfl)) (.cons _ _ _ _ (.tmp _ _ (.e rfl)) .nil)) ?_ (weak .nil (.as rfl (by (have hx := cleft_zero l n; (first | rfl | (simp_all [tupled, nlim, cleft, craise, cnext]; done) | (simp_all [tupled, nlim, cleft, craise, cnext]; omega)))) .nil) rfl rfl)
    (have hx := cleft_zero l n; (first | rfl | (simp_all [tupled, nlim, cleft, craise, cnext]; done) | (simp_all [tupled, nlim, cleft, craise, cnext]; omega)))
  · skip
    refine awp_skip ?_
    refine thenQ_normal ?_
    refine awp_weaken (weak (env := [(0, .ptr 0 0), (2, .d (.int .u64 (0))), (3, .d (.int .i64 (0)))]) (objs := [(0, .cells [.d (.int .u64 (l)), .d (.int .u64 (n))])]) (live := []) (.cons (.e rfl) (.cons (.e rfl) (.cons (.e rfl) .nil))) (.cons rfl .nil) rfl rfl) ?_
    refine awp_seq ?_
    refine awp_rw rfl ?_
    refine Rw.opg rfl (guard_yes rfl) (op_move rfl) (.cons (.t rfl) .nil) rfl rfl ?_
    refine Rw.opg rfl (guard_yes rfl) (op_nilCheck_obj rfl) (.cons (.t rfl) .nil) rfl rfl ?_
    refine Rw.opg rfl (guard_yes rfl) (op_fieldAddr_obj rfl fd42_1) (.cons (.t rfl) .nil) rfl rfl ?_
    refine Rw.opg rfl (guard_yes rfl) (op_load_obj rfl (.one _ _ ty22 rfl rfl)) (.cons (.t rfl) .nil) rfl rfl ?_
    refine Rw.opg rfl (guard_yes rfl) (op_bin_c (c := n + 1) rfl rfl (wrap_u64 (by omega) (by have hx := cleft_zero l n; simp_all; omega))) (.cons (.t rfl) (.cons .c .nil)) rfl rfl ?_
    refine Rw.opg rfl (guard_yes rfl) (op_nilCheck_obj rfl) (.cons (.t rfl) .nil) rfl rfl ?_
    refine Rw.opg rfl (guard_yes rfl) (op_fieldAddr_obj rfl fd42_1) (.cons (.t rfl) .nil) rfl rfl ?_
    refine Rw.opg rfl (guard_yes rfl) (op_store rfl ty22 rfl rfl rfl rfl (Nat.le_of_ble_eq_true rfl)) (.cons (.t rfl) (.cons (.t rfl) .nil)) rfl rfl ?_
    refine Rw.done ?_
    refine thenQ_normal ?_
    refine awp_weaken (weak (env := [(0, .ptr 0 0), (2, .d (.int .u64 (0))), (3, .d (.int .i64 (0)))]) (objs := [(0, .cells [.d (.int .u64 (l)), .d (.int .u64 (n + 1))])]) (live := []) (.cons (.e rfl) (.cons (.e rfl) (.cons (.e rfl) .nil))) (.cons rfl .nil) rfl rfl) ?_
    refine awp_seq ?_
    refine awp_rw rfl ?_
    refine Rw.opg rfl (guard_yes rfl) (op_move rfl) (.cons (.t rfl) .nil) rfl rfl ?_
    refine Rw.opg rfl (guard_yes rfl) (op_nilCheck_obj rfl) (.cons (.t rfl) .nil) rfl rfl ?_
    refine Rw.opg rfl (guard_yes rfl) (op_fieldAddr_obj rfl fd42_1) (.cons (.t rfl) .nil) rfl rfl ?_
    refine Rw.opg rfl (guard_yes rfl) (op_load_obj rfl (.one _ _ ty22 rfl rfl)) (.cons (.t rfl) .nil) rfl rfl ?_
    refine Rw.opg rfl (guard_yes rfl) (op_assign rfl) (.cons (.t rfl) .nil) rfl rfl ?_
    refine Rw.opg rfl (guard_yes rfl) (op_assign rfl) (.cons .c .nil) rfl rfl ?_
    refine Rw.done ?_
    refine thenQ_normal ?_
    refine awp_weaken (weak (env := [(2, .d (.int .u64 (n + 1))), (3, .d (.int .i64 (0)))]) (objs := [(0, .cells [.d (.int .u64 (l)), .d (.int .u64 (n + 1))])]) (live := []) (.cons (.e rfl) (.cons (.e rfl) .nil)) (.cons rfl .nil) rfl rfl) ?_
    refine awp_ret ?_
    refine .ret _ [.d (.int .u64 (n + 1)), .d (.int .i64 (0))] (.cons _ _ _ _ (.tmp _ _ (.e rfl)) (.cons _ _ _ _ (.tmp _ _ (.e rfl)) .nil)) ?_ (weak .nil (.as rfl (by (have hx := cleft_zero l n; (first | rfl | (simp_all [tupled, nlim, cleft, craise, cnext]; done) | (simp_all [tupled, nlim, cleft, craise, cnext]; omega)))) .nil) rfl rfl)
    (have hx := cleft_zero l n; (first | rfl | (simp_all [tupled, nlim, cleft, craise, cnext]; done) | (simp_all [tupled, nlim, cleft, craise, cnext]; omega)))
set_option maxRecDepth 20000 in
theorem cRaise (l n x : Int) : Does Try.prog 9 [.ptr 0 0, .d (.int .u64 (x))] ⟨[(0, .cells [.d (.int .u64 (l)), .d (.int .u64 (n))])], []⟩ (.tup []) ⟨[(0, .cells [.d (.int .u64 (l)), .d (.int .u64 (craise n x))])], []⟩ := by
  refine spec_intro Try.func9 rfl (Nat.le_of_ble_eq_true rfl) ?_
  refine awp_seq ?_
  refine awp_rw rfl ?_
  refine Rw.opg rfl (guard_yes rfl) (op_move rfl) (.cons (.t rfl) .nil) rfl rfl ?_
  refine Rw.opg rfl (guard_yes rfl) (op_ptr_neq rfl up24) (.cons (.t rfl) (.cons .c .nil)) rfl rfl ?_
  refine Rw.done ?_
  refine thenQ_normal ?_
  refine awp_weaken (weak (env := [(0, .ptr 0 0), (1, .d (.int .u64 (x))), (5, .d (.bool (true)))]) (objs := [(0, .cells [.d (.int .u64 (l)), .d (.int .u64 (n))])]) (live := []) (.cons (.e rfl) (.cons (.e rfl) (.cons (.e rfl) .nil))) (.cons rfl .nil) rfl rfl) ?_
  refine awp_cond_true (.t rfl) ?_
  refine awp_rw rfl ?_
  refine Rw.opg rfl (guard_yes rfl) (op_move rfl) (.cons (.t rfl) .nil) rfl rfl ?_
  refine Rw.opg rfl (guard_yes rfl) (op_move rfl) (.cons (.t rfl) .nil) rfl rfl ?_
  refine Rw.opg rfl (guard_yes rfl) (op_nilCheck_obj rfl) (.cons (.t rfl) .nil) rfl rfl ?_
  refine Rw.opg rfl (guard_yes rfl) (op_fieldAddr_obj rfl fd42_1) (.cons (.t rfl) .nil) rfl rfl ?_
  refine Rw.opg rfl (guard_yes rfl) (op_load_obj rfl (.one _ _ ty22 rfl rfl)) (.cons (.t rfl) .nil) rfl rfl ?_
  refine Rw.opg rfl (guard_yes rfl) (op_move rfl) (.cons (.t rfl) .nil) rfl rfl ?_
  refine Rw.opg rfl (guard_yes rfl) (op_min rfl) (.cons (.t rfl) (.cons .c .nil)) rfl rfl ?_
  refine Rw.opg rfl (guard_yes rfl) (op_max rfl) (.cons (.t rfl) (.cons (.t rfl) .nil)) rfl rfl ?_
  refine Rw.opg rfl (guard_yes rfl) (op_nilCheck_obj rfl) (.cons (.t rfl) .nil) rfl rfl ?_
  refine Rw.opg rfl (guard_yes rfl) (op_fieldAddr_obj rfl fd42_1) (.cons (.t rfl) .nil) rfl rfl ?_
  refine Rw.opg rfl (guard_yes rfl) (op_store rfl ty22 rfl rfl rfl rfl (Nat.le_of_ble_eq_true rfl)) (.cons (.t rfl) (.cons (.t rfl) .nil)) rfl rfl ?_
  refine Rw.done ?_
  refine .normal _ [] .nil ?_ (weak .nil (.as rfl (by first | rfl | (simp [craise, nlim]; done)) .nil) rfl rfl)
  (first | rfl | (simp_all [tupled, nlim, cleft, craise, cnext]; done) | (simp_all [tupled, nlim, cleft, craise, cnext]; omega))
set_option maxRecDepth 20000 in
theorem cNow (l n : Int) : Does Try.prog 13 [.ptr 0 0] ⟨[(0, .cells [.d (.int .u64 (l)), .d (.int .u64 (n))])], []⟩ (.d (.int .u64 (n))) ⟨[(0, .cells [.d (.int .u64 (l)), .d (.int .u64 (n))])], []⟩ := by
  refine spec_intro Try.func13 rfl (Nat.le_of_ble_eq_true rfl) ?_
  refine awp_seq ?_
  refine awp_rw rfl ?_
  refine Rw.opg rfl (guard_yes rfl) (op_assign rfl) (.cons .c .nil) rfl rfl ?_
  refine Rw.done ?_
  refine thenQ_normal ?_
  refine awp_weaken (weak (env := [(0, .ptr 0 0), (2, .d (.int .u64 (0)))]) (objs := [(0, .cells [.d (.int .u64 (l)), .d (.int .u64 (n))])]) (live := []) (.cons (.e rfl) (.cons (.e rfl) .nil)) (.cons rfl .nil) rfl rfl) ?_
  refine awp_seq ?_
  refine awp_seq ?_
  refine awp_rw rfl ?_
  refine Rw.opg rfl (guard_yes rfl) (op_move rfl) (.cons (.t rfl) .nil) rfl rfl ?_
  refine Rw.opg rfl (guard_yes rfl) (op_ptr_eql rfl up24) (.cons (.t rfl) (.cons .c .nil)) rfl rfl ?_
  refine Rw.done ?_
  refine thenQ_normal ?_
  refine awp_weaken (weak (env := [(0, .ptr 0 0), (2, .d (.int .u64 (0))), (4, .d (.bool (false)))]) (objs := [(0, .cells [.d (.int .u64 (l)), .d (.int .u64 (n))])]) (live := []) (.cons (.e rfl) (.cons (.e rfl) (.cons (.e rfl) .nil))) (.cons rfl .nil) rfl rfl) ?_
  refine awp_cond_false (.t rfl) ?_
  refine awp_skip ?_
  refine thenQ_normal ?_
  refine awp_weaken (weak (env := [(0, .ptr 0 0), (2, .d (.int .u64 (0)))]) (objs := [(0, .cells [.d (.int .u64 (l)), .d (.int .u64 (n))])]) (live := []) (.cons (.e rfl) (.cons (.e rfl) .nil)) (.cons rfl .nil) rfl rfl) ?_
  refine awp_seq ?_
  refine awp_rw rfl ?_
  refine Rw.opg rfl (guard_yes rfl) (op_move rfl) (.cons (.t rfl) .nil) rfl rfl ?_
  refine Rw.opg rfl (guard_yes rfl) (op_nilCheck_obj rfl) (.cons (.t rfl) .nil) rfl rfl ?_
  refine Rw.opg rfl (guard_yes rfl) (op_fieldAddr_obj rfl fd42_1) (.cons (.t rfl) .nil) rfl rfl ?_
  refine Rw.opg rfl (guard_yes rfl) (op_load_obj rfl (.one _ _ ty22 rfl rfl)) (.cons (.t rfl) .nil) rfl rfl ?_
  refine Rw.opg rfl (guard_yes rfl) (op_assign rfl) (.cons (.t rfl) .nil) rfl rfl ?_
  refine Rw.done ?_
  refine thenQ_normal ?_
  refine awp_weaken (weak (env := [(2, .d (.int .u64 (n)))]) (objs := [(0, .cells [.d (.int .u64 (l)), .d (.int .u64 (n))])]) (live := []) (.cons (.e rfl) .nil) (.cons rfl .nil) rfl rfl) ?_
  refine awp_ret ?_
  refine .ret _ [.d (.int .u64 (n))] (.cons _ _ _ _ (.tmp _ _ (.e rfl)) .nil) ?_ (weak .nil (.cons rfl .nil) rfl rfl)
  (first | rfl | (simp_all [tupled, nlim, cleft, craise, cnext]; done) | (simp_all [tupled, nlim, cleft, craise, cnext]; omega))
set_option maxRecDepth 20000 in
theorem cCopy (l n : Int) : Does Try.prog 17 [.ptr 0 0] ⟨[(0, .cells [.d (.int .u64 (l)), .d (.int .u64 (n))])], []⟩ (.ptr 103 0) ⟨[(0, .cells [.d (.int .u64 (l)), .d (.int .u64 (n))]), (103, .cells [.d (.int .u64 (l)), .d (.int .u64 (n))])], []⟩ := by
  refine spec_intro Try.func17 rfl (Nat.le_of_ble_eq_true rfl) ?_
  refine awp_seq ?_
  refine awp_rw rfl ?_
  refine Rw.opg rfl (guard_yes rfl) (op_assign rfl) (.cons .c .nil) rfl rfl ?_
  refine Rw.done ?_
  refine thenQ_normal ?_
  refine awp_weaken (weak (env := [(0, .ptr 0 0), (2, .d (.sc (.pointer none)))]) (objs := [(0, .cells [.d (.int .u64 (l)), .d (.int .u64 (n))])]) (live := []) (.cons (.e rfl) (.cons (.e rfl) .nil)) (.cons rfl .nil) rfl rfl) ?_
  refine awp_seq ?_
  refine awp_seq ?_
  refine awp_rw rfl ?_
  refine Rw.opg rfl (guard_yes rfl) (op_move rfl) (.cons (.t rfl) .nil) rfl rfl ?_
  refine Rw.opg rfl (guard_yes rfl) (op_ptr_eql rfl up24) (.cons (.t rfl) (.cons .c .nil)) rfl rfl ?_
  refine Rw.done ?_
  refine thenQ_normal ?_
  refine awp_weaken (weak (env := [(0, .ptr 0 0), (2, .d (.sc (.pointer none))), (5, .d (.bool (false)))]) (objs := [(0, .cells [.d (.int .u64 (l)), .d (.int .u64 (n))])]) (live := []) (.cons (.e rfl) (.cons (.e rfl) (.cons (.e rfl) .nil))) (.cons rfl .nil) rfl rfl) ?_
  refine awp_cond_false (.t rfl) ?_
  refine awp_skip ?_
  refine thenQ_normal ?_
  refine awp_weaken (weak (env := [(0, .ptr 0 0), (2, .d (.sc (.pointer none)))]) (objs := [(0, .cells [.d (.int .u64 (l)), .d (.int .u64 (n))])]) (live := []) (.cons (.e rfl) (.cons (.e rfl) .nil)) (.cons rfl .nil) rfl rfl) ?_
  refine awp_seq ?_
  refine awp_rw rfl ?_
  refine Rw.opg rfl (guard_yes rfl) (op_move rfl) (.cons (.t rfl) .nil) rfl rfl ?_
  refine Rw.opg rfl (guard_yes rfl) (op_nilCheck_obj rfl) (.cons (.t rfl) .nil) rfl rfl ?_
  refine Rw.opg rfl (guard_yes rfl) (op_load_obj rfl (.agg _ _ _ ty42 rfl (Nat.le_of_ble_eq_true rfl) rfl)) (.cons (.t rfl) .nil) rfl rfl ?_
  refine Rw.opg rfl (guard_yes rfl) (o_alloc 103 rfl z42 rfl rfl) .nil rfl rfl ?_
  refine Rw.opg rfl (guard_yes rfl) (op_store rfl ty42 rfl rfl rfl rfl (Nat.le_of_ble_eq_true rfl)) (.cons (.t rfl) (.cons (.t rfl) .nil)) rfl rfl ?_
  refine Rw.done ?_
  refine thenQ_normal ?_
  refine awp_weaken (weak (env := [(2, .d (.sc (.pointer none))), (3, .ptr 103 0)]) (objs := [(103, .cells [.d (.int .u64 (l)), .d (.int .u64 (n))]), (0, .cells [.d (.int .u64 (l)), .d (.int .u64 (n))])]) (live := []) (.cons (.e rfl) (.cons (.e rfl) .nil)) (.cons rfl (.cons rfl .nil)) rfl rfl) ?_
  refine awp_seq ?_
  refine awp_rw rfl ?_
  refine Rw.opg rfl (guard_yes rfl) (op_assign rfl) (.cons (.t rfl) .nil) rfl rfl ?_
  refine Rw.done ?_
  refine thenQ_normal ?_
  refine awp_weaken (weak (env := [(2, .ptr 103 0)]) (objs := [(103, .cells [.d (.int .u64 (l)), .d (.int .u64 (n))]), (0, .cells [.d (.int .u64 (l)), .d (.int .u64 (n))])]) (live := []) (.cons (.e rfl) .nil) (.cons rfl (.cons rfl .nil)) rfl rfl) ?_
  refine awp_ret ?_
  refine .ret _ [.ptr 103 0] (.cons _ _ _ _ (.tmp _ _ (.e rfl)) .nil) ?_ (weak .nil (.cons rfl (.cons rfl .nil)) rfl rfl)
  (first | rfl | (simp_all [tupled, nlim, cleft, craise, cnext]; done) | (simp_all [tupled, nlim, cleft, craise, cnext]; omega))
set_option maxRecDepth 20000 in
theorem nLeft  : Does Try.prog 14 [.d (.sc (.pointer none))] X0 (.d (.int .u64 (0))) X0 := by
  refine spec_intro Try.func14 rfl (Nat.le_of_ble_eq_true rfl) ?_
  refine awp_seq ?_
  refine awp_rw rfl ?_
  refine Rw.opg rfl (guard_yes rfl) (op_assign rfl) (.cons .c .nil) rfl rfl ?_
  refine Rw.done ?_
  refine thenQ_normal ?_
  refine awp_weaken (weak (env := [(0, .d (.sc (.pointer none))), (2, .d (.int .u64 (0)))]) (objs := []) (live := []) (.cons (.e rfl) (.cons (.e rfl) .nil)) .nil rfl rfl) ?_
  refine awp_seq ?_
  refine awp_seq ?_
  refine awp_dw 13 mixed ?_
  refine Dw.op rfl (guard_yes rfl) (fun X => op_move rfl) (.cons (.t rfl) .nil) rfl ?_
  refine Dw.op rfl (guard_yes rfl) (fun X => op_nil_eql rfl up24) (.cons (.t rfl) (.cons .c .nil)) rfl ?_
  refine Dw.op rfl (guard_yes rfl) (fun X => op_move rfl) (.cons (.t rfl) .nil) rfl ?_
  refine Dw.skip rfl (guard_not rfl rfl rfl rfl rfl) rfl ?_
  refine Dw.skip rfl (guard_not rfl rfl rfl rfl rfl) rfl ?_
  refine Dw.skip rfl (guard_not rfl rfl rfl rfl rfl) rfl ?_
  refine Dw.skip rfl (guard_not rfl rfl rfl rfl rfl) rfl ?_
  refine Dw.skip rfl (guard_not rfl rfl rfl rfl rfl) rfl ?_
  refine Dw.skip rfl (guard_not rfl rfl rfl rfl rfl) rfl ?_
  refine Dw.skip rfl (guard_not rfl rfl rfl rfl rfl) rfl ?_
  refine Dw.skip rfl (guard_not rfl rfl rfl rfl rfl) rfl ?_
  refine Dw.skip rfl (guard_not rfl rfl rfl rfl rfl) rfl ?_
  refine Dw.op rfl (guard_yes rfl) (fun X => op_pick_true rfl) (.cons (.t rfl) (.cons .c .nil)) rfl ?_
  refine Dw.fin (by kernel_rfl) ?_
  refine thenQ_normal ?_
  refine awp_weaken (weak (env := [(0, .d (.sc (.pointer none))), (2, .d (.int .u64 (0))), (15, .d (.bool (true)))]) (objs := []) (live := []) (.cons (.e rfl) (.cons (.e rfl) (.cons (.e rfl) .nil))) .nil rfl rfl) ?_
  refine awp_cond_true (.t rfl) ?_
  refine awp_seq ?_
  refine awp_rw rfl ?_
  refine Rw.opg rfl (guard_yes rfl) (op_assign rfl) (.cons .c .nil) rfl rfl ?_
  refine Rw.done ?_
  refine thenQ_normal ?_
  refine awp_weaken (weak (env := [(0, .d (.sc (.pointer none))), (2, .d (.int .u64 (0)))]) (objs := []) (live := []) (.cons (.e rfl) (.cons (.e rfl) .nil)) .nil rfl rfl) ?_
  refine awp_ret ?_
  refine thenQ_ret ?_
  refine .ret _ [.d (.int .u64 (0))] (.cons _ _ _ _ (.tmp _ _ (.e rfl)) .nil) ?_ (weak .nil .nil rfl rfl)
  (first | rfl | (simp_all [tupled, nlim, cleft, craise, cnext]; done) | (simp_all [tupled, nlim, cleft, craise, cnext]; omega))
set_option maxRecDepth 20000 in
theorem nNext  : Does Try.prog 11 [.d (.sc (.pointer none))] X0 (.tup [.d (.int .u64 0), .d (.int .i64 9)]) X0 := by
  refine spec_intro Try.func11 rfl (Nat.le_of_ble_eq_true rfl) ?_
  refine awp_seq ?_
  refine awp_rw rfl ?_
  refine Rw.opg rfl (guard_yes rfl) (op_assign rfl) (.cons .c .nil) rfl rfl ?_
  refine Rw.opg rfl (guard_yes rfl) (op_assign rfl) (.cons .c .nil) rfl rfl ?_
  refine Rw.done ?_
  refine thenQ_normal ?_
  refine awp_weaken (weak (env := [(0, .d (.sc (.pointer none))), (2, .d (.int .u64 (0))), (3, .d (.int .i64 (0)))]) (objs := []) (live := []) (.cons (.e rfl) (.cons (.e rfl) (.cons (.e rfl) .nil))) .nil rfl rfl) ?_
  refine awp_seq ?_
  refine awp_seq ?_
  refine awp_rw rfl ?_
  refine Rw.opg rfl (guard_yes rfl) (op_move rfl) (.cons (.t rfl) .nil) rfl rfl ?_
  refine Rw.opg rfl (guard_yes rfl) (op_call rfl ci14 nLeft rfl rfl rfl) (.cons (.t rfl) .nil) rfl rfl ?_
  refine Rw.opg rfl (guard_yes rfl) (op_bin rfl rfl) (.cons (.t rfl) (.cons .c .nil)) rfl rfl ?_
  refine Rw.done ?_
  refine thenQ_normal ?_
  refine awp_weaken (weak (env := [(0, .d (.sc (.pointer none))), (2, .d (.int .u64 (0))), (3, .d (.int .i64 (0))), (6, .d (.bool (true)))]) (objs := []) (live := []) (.cons (.e rfl) (.cons (.e rfl) (.cons (.e rfl) (.cons (.e rfl) .nil)))) .nil rfl rfl) ?_
  refine awp_cond_true (.t rfl) ?_
  refine awp_seq ?_
  refine awp_rw rfl ?_
  refine Rw.opg rfl (guard_yes rfl) (op_assign rfl) (.cons .c .nil) rfl rfl ?_
  refine Rw.opg rfl (guard_yes rfl) (op_assign rfl) (.cons .c .nil) rfl rfl ?_
  refine Rw.done ?_
  refine thenQ_normal ?_
  refine awp_weaken (weak (env := [(0, .d (.sc (.pointer none))), (2, .d (.int .u64 (0))), (3, .d (.int .i64 (9)))]) (objs := []) (live := []) (.cons (.e rfl) (.cons (.e rfl) (.cons (.e rfl) .nil))) .nil rfl rfl) ?_
  refine awp_ret ?_
  refine thenQ_ret ?_
  refine .ret _ [.d (.int .u64 (0)), .d (.int .i64 (9))] (.cons _ _ _ _ (.tmp _ _ (.e rfl)) (.cons _ _ _ _ (.tmp _ _ (.e rfl)) .nil)) ?_ (weak .nil .nil rfl rfl)
  (first | rfl | (simp_all [tupled, nlim, cleft, craise, cnext]; done) | (simp_all [tupled, nlim, cleft, craise, cnext]; omega))
set_option maxRecDepth 20000 in
theorem nRaise (x : Int) : Does Try.prog 9 [.d (.sc (.pointer none)), .d (.int .u64 (x))] X0 (.tup []) X0 := by
  refine spec_intro Try.func9 rfl (Nat.le_of_ble_eq_true rfl) ?_
  refine awp_seq ?_
  refine awp_rw rfl ?_
  refine Rw.opg rfl (guard_yes rfl) (op_move rfl) (.cons (.t rfl) .nil) rfl rfl ?_
  refine Rw.opg rfl (guard_yes rfl) (op_nil_neq rfl up24) (.cons (.t rfl) (.cons .c .nil)) rfl rfl ?_
  refine Rw.done ?_
  refine thenQ_normal ?_
  refine awp_weaken (weak (env := [(0, .d (.sc (.pointer none))), (1, .d (.int .u64 (x))), (5, .d (.bool (false)))]) (objs := []) (live := []) (.cons (.e rfl) (.cons (.e rfl) (.cons (.e rfl) .nil))) .nil rfl rfl) ?_
  refine awp_cond_false (.t rfl) ?_
  refine awp_skip ?_
  refine .normal _ [] .nil ?_ (weak .nil .nil rfl rfl)
  (first | rfl | (simp_all [tupled, nlim, cleft, craise, cnext]; done) | (simp_all [tupled, nlim, cleft, craise, cnext]; omega))
set_option maxRecDepth 20000 in
theorem nNow  : Does Try.prog 13 [.d (.sc (.pointer none))] X0 (.d (.int .u64 (0))) X0 := by
  refine spec_intro Try.func13 rfl (Nat.le_of_ble_eq_true rfl) ?_
  refine awp_seq ?_
  refine awp_rw rfl ?_
  refine Rw.opg rfl (guard_yes rfl) (op_assign rfl) (.cons .c .nil) rfl rfl ?_
  refine Rw.done ?_
  refine thenQ_normal ?_
  refine awp_weaken (weak (env := [(0, .d (.sc (.pointer none))), (2, .d (.int .u64 (0)))]) (objs := []) (live := []) (.cons (.e rfl) (.cons (.e rfl) .nil)) .nil rfl rfl) ?_
  refine awp_seq ?_
  refine awp_seq ?_
  refine awp_rw rfl ?_
  refine Rw.opg rfl (guard_yes rfl) (op_move rfl) (.cons (.t rfl) .nil) rfl rfl ?_
  refine Rw.opg rfl (guard_yes rfl) (op_nil_eql rfl up24) (.cons (.t rfl) (.cons .c .nil)) rfl rfl ?_
  refine Rw.done ?_
  refine thenQ_normal ?_
  refine awp_weaken (weak (env := [(0, .d (.sc (.pointer none))), (2, .d (.int .u64 (0))), (4, .d (.bool (true)))]) (objs := []) (live := []) (.cons (.e rfl) (.cons (.e rfl) (.cons (.e rfl) .nil))) .nil rfl rfl) ?_
  refine awp_cond_true (.t rfl) ?_
  refine awp_seq ?_
  refine awp_rw rfl ?_
  refine Rw.opg rfl (guard_yes rfl) (op_assign rfl) (.cons .c .nil) rfl rfl ?_
  refine Rw.done ?_
  refine thenQ_normal ?_
  refine awp_weaken (weak (env := [(0, .d (.sc (.pointer none))), (2, .d (.int .u64 (0)))]) (objs := []) (live := []) (.cons (.e rfl) (.cons (.e rfl) .nil)) .nil rfl rfl) ?_
  refine awp_ret ?_
  refine thenQ_ret ?_
  refine .ret _ [.d (.int .u64 (0))] (.cons _ _ _ _ (.tmp _ _ (.e rfl)) .nil) ?_ (weak .nil .nil rfl rfl)
  (first | rfl | (simp_all [tupled, nlim, cleft, craise, cnext]; done) | (simp_all [tupled, nlim, cleft, craise, cnext]; omega))
set_option maxRecDepth 20000 in
theorem nCopy  : Does Try.prog 17 [.d (.sc (.pointer none))] X0 (.d (.sc (.pointer none))) X0 := by
  refine spec_intro Try.func17 rfl (Nat.le_of_ble_eq_true rfl) ?_
  refine awp_seq ?_
  refine awp_rw rfl ?_
  refine Rw.opg rfl (guard_yes rfl) (op_assign rfl) (.cons .c .nil) rfl rfl ?_
  refine Rw.done ?_
  refine thenQ_normal ?_
  refine awp_weaken (weak (env := [(0, .d (.sc (.pointer none))), (2, .d (.sc (.pointer none)))]) (objs := []) (live := []) (.cons (.e rfl) (.cons (.e rfl) .nil)) .nil rfl rfl) ?_
  refine awp_seq ?_
  refine awp_seq ?_
  refine awp_rw rfl ?_
  refine Rw.opg rfl (guard_yes rfl) (op_move rfl) (.cons (.t rfl) .nil) rfl rfl ?_
  refine Rw.opg rfl (guard_yes rfl) (op_nil_eql rfl up24) (.cons (.t rfl) (.cons .c .nil)) rfl rfl ?_
  refine Rw.done ?_
  refine thenQ_normal ?_
  refine awp_weaken (weak (env := [(0, .d (.sc (.pointer none))), (2, .d (.sc (.pointer none))), (5, .d (.bool (true)))]) (objs := []) (live := []) (.cons (.e rfl) (.cons (.e rfl) (.cons (.e rfl) .nil))) .nil rfl rfl) ?_
  refine awp_cond_true (.t rfl) ?_
  refine awp_seq ?_
  refine awp_rw rfl ?_
  refine Rw.opg rfl (guard_yes rfl) (op_assign rfl) (.cons .c .nil) rfl rfl ?_
  refine Rw.done ?_
  refine thenQ_normal ?_
  refine awp_weaken (weak (env := [(0, .d (.sc (.pointer none))), (2, .d (.sc (.pointer none)))]) (objs := []) (live := []) (.cons (.e rfl) (.cons (.e rfl) .nil)) .nil rfl rfl) ?_
  refine awp_ret ?_
  refine thenQ_ret ?_
  refine .ret _ [.d (.sc (.pointer none))] (.cons _ _ _ _ (.tmp _ _ (.e rfl)) .nil) ?_ (weak .nil .nil rfl rfl)
  (first | rfl | (simp_all [tupled, nlim, cleft, craise, cnext]; done) | (simp_all [tupled, nlim, cleft, craise, cnext]; omega))
set_option maxRecDepth 20000 in
theorem lworks  : Does Try.prog 16 [] X0 (.d (.bool (true))) X0 := by
  refine spec_intro Try.func16 rfl (Nat.le_of_ble_eq_true rfl) ?_
  refine awp_seq ?_
  refine awp_rw rfl ?_
  refine Rw.opg rfl (guard_yes rfl) (op_assign rfl) (.cons .c .nil) rfl rfl ?_
  refine Rw.done ?_
  refine thenQ_normal ?_
  refine awp_weaken (weak (env := [(0, .d (.bool (false)))]) (objs := []) (live := []) (.cons (.e rfl) .nil) .nil rfl rfl) ?_
  refine awp_seq ?_
  refine awp_rw rfl ?_
  refine Rw.opg rfl (guard_yes rfl) (op_call_obj [(106, 208)] [208] rfl ci7 (cNew _) (objCall .nil rfl rfl rfl rfl rfl rfl rfl) rfl rfl rfl) (.cons .c .nil) rfl rfl ?_
  refine Rw.opg rfl (guard_yes rfl) (op_assign rfl) (.cons (.t rfl) .nil) rfl rfl ?_
  refine Rw.done ?_
  refine thenQ_normal ?_
  refine awp_weaken (weak (env := [(0, .d (.bool (false))), (1, .ptr 208 0)]) (objs := [(208, .cells [.d (.int .u64 (2)), .d (.int .u64 (0))])]) (live := []) (.cons (.e rfl) (.cons (.e rfl) .nil)) (.cons rfl .nil) rfl rfl) ?_
  refine awp_seq ?_
  refine awp_rw rfl ?_
  refine Rw.opg rfl (guard_yes rfl) (op_move rfl) (.cons (.t rfl) .nil) rfl rfl ?_
  refine Rw.opg rfl (guard_yes rfl) (op_call_obj [(0, 208)] [] rfl ci11 (cNext _ _ (by first | omega | (simp only [craise, cnext, nlim] <;> (repeat split) <;> omega)) (by first | omega | (simp only [craise, cnext, nlim] <;> (repeat split) <;> omega))) (objCall (.cons rfl .nil) rfl rfl rfl rfl rfl rfl rfl) rfl rfl rfl) (.cons (.t rfl) .nil) rfl rfl ?_
  refine Rw.opg rfl (guard_yes rfl) (op_move rfl) (.cons (.t rfl) .nil) rfl rfl ?_
  refine Rw.opg rfl (guard_yes rfl) (op_extract rfl rfl) (.cons (.t rfl) .nil) rfl rfl ?_
  refine Rw.opg rfl (guard_yes rfl) (op_extract rfl rfl) (.cons (.t rfl) .nil) rfl rfl ?_
  refine Rw.opg rfl (guard_yes rfl) (op_assign rfl) (.cons (.t rfl) .nil) rfl rfl ?_
  refine Rw.opg rfl (guard_yes rfl) (op_assign rfl) (.cons (.t rfl) .nil) rfl rfl ?_
  refine Rw.done ?_
  refine thenQ_normal ?_
  refine awp_weaken (weak (env := [(0, .d (.bool (false))), (1, .ptr 208 0), (2, .d (.int .u64 (1))), (3, .d (.int .i64 (0)))]) (objs := [(208, .cells [.d (.int .u64 (2)), .d (.int .u64 (1))])]) (live := []) (.cons (.e rfl) (.cons (.e rfl) (.cons (.e rfl) (.cons (.e rfl) .nil)))) (.cons rfl .nil) rfl rfl) ?_
  refine awp_seq ?_
  refine awp_rw rfl ?_
  refine Rw.opg rfl (guard_yes rfl) (op_move rfl) (.cons (.t rfl) .nil) rfl rfl ?_
  refine Rw.opg rfl (guard_yes rfl) (op_call_obj [(0, 208)] [] rfl ci11 (cNext _ _ (by first | omega | (simp only [craise, cnext, nlim] <;> (repeat split) <;> omega)) (by first | omega | (simp only [craise, cnext, nlim] <;> (repeat split) <;> omega))) (objCall (.cons rfl .nil) rfl rfl rfl rfl rfl rfl rfl) rfl rfl rfl) (.cons (.t rfl) .nil) rfl rfl ?_
  refine Rw.opg rfl (guard_yes rfl) (op_move rfl) (.cons (.t rfl) .nil) rfl rfl ?_
  refine Rw.opg rfl (guard_yes rfl) (op_extract rfl rfl) (.cons (.t rfl) .nil) rfl rfl ?_
  refine Rw.opg rfl (guard_yes rfl) (op_extract rfl rfl) (.cons (.t rfl) .nil) rfl rfl ?_
  refine Rw.opg rfl (guard_yes rfl) (op_assign rfl) (.cons (.t rfl) .nil) rfl rfl ?_
  refine Rw.opg rfl (guard_yes rfl) (op_assign rfl) (.cons (.t rfl) .nil) rfl rfl ?_
  refine Rw.done ?_
  refine thenQ_normal ?_
  refine awp_weaken (weak (env := [(0, .d (.bool (false))), (1, .ptr 208 0), (2, .d (.int .u64 (1))), (3, .d (.int .i64 (0))), (4, .d (.int .u64 (2))), (5, .d (.int .i64 (0)))]) (objs := [(208, .cells [.d (.int .u64 (2)), .d (.int .u64 (2))])]) (live := []) (.cons (.e rfl) (.cons (.e rfl) (.cons (.e rfl) (.cons (.e rfl) (.cons (.e rfl) (.cons (.e rfl) .nil)))))) (.cons rfl .nil) rfl rfl) ?_
  refine awp_seq ?_
  refine awp_rw rfl ?_
  refine Rw.opg rfl (guard_yes rfl) (op_move rfl) (.cons (.t rfl) .nil) rfl rfl ?_
  refine Rw.opg rfl (guard_yes rfl) (op_call_obj [(0, 208)] [] rfl ci11 (cNext _ _ (by first | omega | (simp only [craise, cnext, nlim] <;> (repeat split) <;> omega)) (by first | omega | (simp only [craise, cnext, nlim] <;> (repeat split) <;> omega))) (objCall (.cons rfl .nil) rfl rfl rfl rfl rfl rfl rfl) rfl rfl rfl) (.cons (.t rfl) .nil) rfl rfl ?_
  refine Rw.opg rfl (guard_yes rfl) (op_move rfl) (.cons (.t rfl) .nil) rfl rfl ?_
  refine Rw.opg rfl (guard_yes rfl) (op_extract rfl rfl) (.cons (.t rfl) .nil) rfl rfl ?_
  refine Rw.opg rfl (guard_yes rfl) (op_extract rfl rfl) (.cons (.t rfl) .nil) rfl rfl ?_
  refine Rw.opg rfl (guard_yes rfl) (op_assign rfl) (.cons (.t rfl) .nil) rfl rfl ?_
  refine Rw.opg rfl (guard_yes rfl) (op_assign rfl) (.cons (.t rfl) .nil) rfl rfl ?_
  refine Rw.done ?_
  refine thenQ_normal ?_
  refine awp_weaken (weak (env := [(0, .d (.bool (false))), (2, .d (.int .u64 (1))), (3, .d (.int .i64 (0))), (4, .d (.int .u64 (2))), (5, .d (.int .i64 (0))), (7, .d (.int .i64 (9)))]) (objs := []) (live := []) (.cons (.e rfl) (.cons (.e rfl) (.cons (.e rfl) (.cons (.e rfl) (.cons (.e rfl) (.cons (.e rfl) .nil)))))) .nil rfl rfl) ?_
  refine awp_seq ?_
  refine awp_rw rfl ?_
  refine Rw.opg rfl (guard_yes rfl) (op_move rfl) (.cons (.t rfl) .nil) rfl rfl ?_
  refine Rw.opg rfl (guard_yes rfl) (op_bin rfl rfl) (.cons (.t rfl) (.cons .c .nil)) rfl rfl ?_
  refine Rw.opg rfl (guard_yes rfl) (op_move rfl) (.cons (.t rfl) .nil) rfl rfl ?_
  refine Rw.opg rfl (guard_run rfl rfl rfl rfl) (op_move rfl) (.cons (.t rfl) .nil) rfl rfl ?_
  refine Rw.opg rfl (guard_run rfl rfl rfl rfl) (op_bin rfl rfl) (.cons (.t rfl) (.cons .c .nil)) rfl rfl ?_
  refine Rw.opg rfl (guard_yes rfl) (op_pick_true rfl) (.cons (.t rfl) (.cons (.t rfl) .nil)) rfl rfl ?_
  refine Rw.opg rfl (guard_yes rfl) (op_move rfl) (.cons (.t rfl) .nil) rfl rfl ?_
  refine Rw.opg rfl (guard_run rfl rfl rfl rfl) (op_move rfl) (.cons (.t rfl) .nil) rfl rfl ?_
  refine Rw.opg rfl (guard_run rfl rfl rfl rfl) (op_bin rfl rfl) (.cons (.t rfl) (.cons .c .nil)) rfl rfl ?_
  refine Rw.opg rfl (guard_yes rfl) (op_pick_true rfl) (.cons (.t rfl) (.cons (.t rfl) .nil)) rfl rfl ?_
  refine Rw.opg rfl (guard_yes rfl) (op_move rfl) (.cons (.t rfl) .nil) rfl rfl ?_
  refine Rw.opg rfl (guard_run rfl rfl rfl rfl) (op_move rfl) (.cons (.t rfl) .nil) rfl rfl ?_
  refine Rw.opg rfl (guard_run rfl rfl rfl rfl) (op_bin rfl rfl) (.cons (.t rfl) (.cons .c .nil)) rfl rfl ?_
  refine Rw.opg rfl (guard_yes rfl) (op_pick_true rfl) (.cons (.t rfl) (.cons (.t rfl) .nil)) rfl rfl ?_
  refine Rw.opg rfl (guard_yes rfl) (op_move rfl) (.cons (.t rfl) .nil) rfl rfl ?_
  refine Rw.opg rfl (guard_run rfl rfl rfl rfl) (op_move rfl) (.cons (.t rfl) .nil) rfl rfl ?_
  refine Rw.opg rfl (guard_run rfl rfl rfl rfl) (op_bin rfl rfl) (.cons (.t rfl) (.cons .c .nil)) rfl rfl ?_
  refine Rw.opg rfl (guard_yes rfl) (op_pick_true rfl) (.cons (.t rfl) (.cons (.t rfl) .nil)) rfl rfl ?_
  refine Rw.opg rfl (guard_yes rfl) (op_assign rfl) (.cons (.t rfl) .nil) rfl rfl ?_
  refine Rw.done ?_
  refine thenQ_normal ?_
  refine awp_weaken (weak (env := [(0, .d (.bool (true)))]) (objs := []) (live := []) (.cons (.e rfl) .nil) .nil rfl rfl) ?_
  refine awp_ret ?_
  refine .ret _ [.d (.bool (true))] (.cons _ _ _ _ (.tmp _ _ (.e rfl)) .nil) ?_ (weak .nil .nil rfl rfl)
  (first | rfl | (simp_all [tupled, nlim, cleft, craise, cnext]; done) | decide)
set_option maxRecDepth 20000 in
theorem lCountPlays (limit : Int) (xs : List Int) (hl : xs.length ≤ 9223372036854775807) : Does Try.prog 3 [.d (.int .u64 (limit)), .d (.sl 1 (xs.map u64c))] X0 (.d (.bool (true))) X0 := by
  have hL := nlim_le limit
  refine spec_intro Try.func3 rfl (Nat.le_of_ble_eq_true rfl) ?_
  refine awp_seq ?_
  refine awp_rw rfl ?_
  refine Rw.opg rfl (guard_yes rfl) (op_assign rfl) (.cons .c .nil) rfl rfl ?_
  refine Rw.done ?_
  refine thenQ_normal ?_
  refine awp_weaken (weak (env := [(0, .d (.int .u64 (limit))), (1, .d (.sl 1 (xs.map u64c))), (4, .d (.bool (false)))]) (objs := []) (live := []) (.cons (.e rfl) (.cons (.e rfl) (.cons (.e rfl) .nil))) .nil rfl rfl) ?_
  refine awp_seq ?_
  refine awp_rw rfl ?_
  refine Rw.opg rfl (guard_yes rfl) (op_move rfl) (.cons (.t rfl) .nil) rfl rfl ?_
  refine Rw.opg rfl (guard_yes rfl) (op_call_obj [(106, 214)] [214] rfl ci7 (cNew _) (objCall .nil rfl rfl rfl rfl rfl rfl rfl) rfl rfl rfl) (.cons (.t rfl) .nil) rfl rfl ?_
  refine Rw.opg rfl (guard_yes rfl) (op_move rfl) (.cons (.t rfl) .nil) rfl rfl ?_
  refine Rw.opg rfl (guard_yes rfl) (op_call rfl ci8 (refNew _) rfl rfl rfl) (.cons (.t rfl) .nil) rfl rfl ?_
  refine Rw.opg rfl (guard_yes rfl) (o_alloc 106 rfl z27 rfl rfl) .nil rfl rfl ?_
  refine Rw.opg rfl (guard_yes rfl) (op_assign rfl) (.cons (.t rfl) .nil) rfl rfl ?_
  refine Rw.opg rfl (guard_yes rfl) (op_store rfl ty27 rfl rfl rfl rfl (Nat.le_of_ble_eq_true rfl)) (.cons (.t rfl) (.cons (.t rfl) .nil)) rfl rfl ?_
  refine Rw.done ?_
  refine thenQ_normal ?_
  refine awp_weaken (weak (env := [(1, .d (.sl 1 (xs.map u64c))), (4, .d (.bool (false))), (5, .ptr 214 0), (6, .ptr 106 0)]) (objs := [(106, .cells [.d (.int .u64 (nlim limit)), .d (.int .u64 (0))]), (214, .cells [.d (.int .u64 (nlim limit)), .d (.int .u64 (0))])]) (live := []) (.cons (.e rfl) (.cons (.e rfl) (.cons (.e rfl) (.cons (.e rfl) .nil)))) (.cons rfl (.cons rfl .nil)) rfl rfl) ?_
  refine awp_seq ?_
  refine awp_seq ?_
  refine awp_rw rfl ?_
  refine Rw.opg rfl (guard_yes rfl) (op_assign rfl) (.cons .c .nil) rfl rfl ?_
  refine Rw.done ?_
  refine thenQ_normal ?_
  refine awp_weaken (weak (env := [(1, .d (.sl 1 (xs.map u64c))), (4, .d (.bool (false))), (5, .ptr 214 0), (6, .ptr 106 0), (7, .d (.int .i64 (0)))]) (objs := [(106, .cells [.d (.int .u64 (nlim limit)), .d (.int .u64 (0))]), (214, .cells [.d (.int .u64 (nlim limit)), .d (.int .u64 (0))])]) (live := []) (.cons (.e rfl) (.cons (.e rfl) (.cons (.e rfl) (.cons (.e rfl) (.cons (.e rfl) .nil))))) (.cons rfl (.cons rfl .nil)) rfl rfl) ?_
  refine awp_block ?_
  refine awp_loop (fun rk st => ∃ (k : Nat), ∃ (n : Int), k ≤ xs.length ∧ 0 ≤ n ∧ n ≤ 281474976710655 ∧ rk = xs.length - k ∧ Weak [] st ⟨[(1, .d (.sl 1 (xs.map u64c))), (5, .ptr 214 0), (6, .ptr 106 0), (7, .d (.int .i64 ((k : Int))))], ⟨[(106, .cells [.d (.int .u64 (nlim limit)), .d (.int .u64 (n))]), (214, .cells [.d (.int .u64 (nlim limit)), .d (.int .u64 (n))])], []⟩⟩) (xs.length - (0)) ⟨0, 0, by omega, by decide, by decide, rfl, weak (.cons (.e rfl) (.cons (.e rfl) (.cons (.e rfl) (.cons (.as rfl (by rfl)) .nil)))) (.cons rfl (.cons rfl .nil)) rfl rfl⟩ ?_
  rintro rk st ⟨k, n, h0, h1, h2, rfl, hw⟩
  refine awp_weaken hw ?_
  clear hw
  refine awp_seq ?_
  refine awp_seq ?_
  refine awp_rw rfl ?_
  refine Rw.opg rfl (guard_yes rfl) (op_move rfl) (.cons (.t rfl) .nil) rfl rfl ?_
  refine Rw.opg rfl (guard_yes rfl) (op_move rfl) (.cons (.t rfl) .nil) rfl rfl ?_
  refine Rw.opg rfl (guard_yes rfl) (o_len_slice rfl rfl sl23) (.cons (.t rfl) .nil) rfl rfl ?_
  refine Rw.opg rfl (guard_yes rfl) (op_bin rfl rfl) (.cons (.t rfl) (.cons (.t rfl) .nil)) rfl rfl ?_
  refine Rw.done ?_
  refine thenQ_normal ?_
  refine awp_weaken (weak (env := [(1, .d (.sl 1 (xs.map u64c))), (5, .ptr 214 0), (6, .ptr 106 0), (7, .d (.int .i64 ((k : Int)))), (20, .d (.bool (decide ((k : Int) < (List.length (xs.map u64c) : Int)))))]) (objs := [(106, .cells [.d (.int .u64 (nlim limit)), .d (.int .u64 (n))]), (214, .cells [.d (.int .u64 (nlim limit)), .d (.int .u64 (n))])]) (live := []) (.cons (.e rfl) (.cons (.e rfl) (.cons (.e rfl) (.cons (.e rfl) (.cons (.e rfl) .nil))))) (.cons rfl (.cons rfl .nil)) rfl rfl) ?_
  refine awp_cond (b := decide ((k : Int) < (List.length (xs.map u64c) : Int))) (.t rfl) (fun h3 => ?_) (fun h3 => ?_)
  · have hk : k < xs.length := by simpa using h3
    refine awp_skip ?_
    refine thenQ_normal ?_
    refine awp_weaken (weak (env := [(1, .d (.sl 1 (xs.map u64c))), (5, .ptr 214 0), (6, .ptr 106 0), (7, .d (.int .i64 ((k : Int))))]) (objs := [(106, .cells [.d (.int .u64 (nlim limit)), .d (.int .u64 (n))]), (214, .cells [.d (.int .u64 (nlim limit)), .d (.int .u64 (n))])]) (live := []) (.cons (.e rfl) (.cons (.e rfl) (.cons (.e rfl) (.cons (.e rfl) .nil)))) (.cons rfl (.cons rfl .nil)) rfl rfl) ?_
    refine awp_seq ?_
    refine awp_block ?_
    refine awp_seq ?_
    refine awp_seq ?_
    refine awp_rw rfl ?_
    refine Rw.opg rfl (guard_yes rfl) (op_move rfl) (.cons (.t rfl) .nil) rfl rfl ?_
    refine Rw.opg rfl (guard_yes rfl) (op_move rfl) (.cons (.t rfl) .nil) rfl rfl ?_
    refine Rw.opg rfl (guard_yes rfl) (o_indexAddr (cs := [.int .u64 (xs.getD k 0)]) rfl sl23 (by omega) (u64_get hk)) (.cons (.t rfl) (.cons (.t rfl) .nil)) rfl rfl ?_
    refine Rw.opg rfl (guard_yes rfl) (op_load_one rfl ty22) (.cons (.t rfl) .nil) rfl rfl ?_
    refine Rw.opg rfl (guard_yes rfl) (op_bin rfl rfl) (.cons (.t rfl) (.cons .c .nil)) rfl rfl ?_
    refine Rw.done ?_
    refine thenQ_normal ?_
    refine awp_weaken (weak (env := [(1, .d (.sl 1 (xs.map u64c))), (5, .ptr 214 0), (6, .ptr 106 0), (7, .d (.int .i64 ((k : Int)))), (27, .d (.bool (decide (0 < (xs.getD k 0)))))]) (objs := [(106, .cells [.d (.int .u64 (nlim limit)), .d (.int .u64 (n))]), (214, .cells [.d (.int .u64 (nlim limit)), .d (.int .u64 (n))])]) (live := []) (.cons (.e rfl) (.cons (.e rfl) (.cons (.e rfl) (.cons (.e rfl) (.cons (.e rfl) .nil))))) (.cons rfl (.cons rfl .nil)) rfl rfl) ?_
    refine awp_cond (b := decide (0 < (xs.getD k 0))) (.t rfl) (fun h4 => ?_) (fun h4 => ?_)
    · skip
      refine awp_seq ?_
      refine awp_rw rfl ?_
      refine Rw.opg rfl (guard_yes rfl) (op_move rfl) (.cons (.t rfl) .nil) rfl rfl ?_
      refine Rw.opg rfl (guard_yes rfl) (op_move rfl) (.cons (.t rfl) .nil) rfl rfl ?_
      refine Rw.opg rfl (guard_yes rfl) (op_move rfl) (.cons (.t rfl) .nil) rfl rfl ?_
      refine Rw.opg rfl (guard_yes rfl) (o_indexAddr (cs := [.int .u64 (xs.getD k 0)]) rfl sl23 (by omega) (u64_get hk)) (.cons (.t rfl) (.cons (.t rfl) .nil)) rfl rfl ?_
      refine Rw.opg rfl (guard_yes rfl) (op_load_one rfl ty22) (.cons (.t rfl) .nil) rfl rfl ?_
      refine Rw.opg rfl (guard_yes rfl) (op_call_obj [(0, 214)] [] rfl ci9 (cRaise _ _ _) (objCall (.cons rfl .nil) rfl rfl rfl rfl rfl rfl rfl) rfl rfl rfl) (.cons (.t rfl) (.cons (.t rfl) .nil)) rfl rfl ?_
      refine Rw.done ?_
      refine thenQ_normal ?_
      refine awp_weaken (weak (env := [(1, .d (.sl 1 (xs.map u64c))), (5, .ptr 214 0), (6, .ptr 106 0), (7, .d (.int .i64 ((k : Int))))]) (objs := [(106, .cells [.d (.int .u64 (nlim limit)), .d (.int .u64 (n))]), (214, .cells [.d (.int .u64 (nlim limit)), .d (.int .u64 (craise n (xs.getD k 0)))])]) (live := []) (.cons (.e rfl) (.cons (.e rfl) (.cons (.e rfl) (.cons (.e rfl) .nil)))) (.cons rfl (.cons rfl .nil)) rfl rfl) ?_
      refine awp_dw 7 mixed ?_
      refine Dw.look (ks := [106]) rfl (guard_yes rfl) (fun X hX => op_load_obj rfl (Loads.congr (X := ⟨[(106, .cells [.d (.int .u64 (nlim limit)), .d (.int .u64 (n))])], []⟩) (.agg _ _ _ ty27 rfl (Nat.le_of_ble_eq_true rfl) rfl) ((hX _ List.mem_cons_self).trans rfl))) (.cons (.t rfl) .nil) rfl ?_
      refine Dw.op rfl (guard_yes rfl) (fun X => op_move rfl) (.cons (.t rfl) .nil) rfl ?_
      refine Dw.op rfl (guard_yes rfl) (fun X => op_move rfl) (.cons (.t rfl) .nil) rfl ?_
      refine Dw.op rfl (guard_yes rfl) (fun X => o_indexAddr (cs := [.int .u64 (xs.getD k 0)]) rfl sl23 (by omega) (u64_get hk)) (.cons (.t rfl) (.cons (.t rfl) .nil)) rfl ?_
      refine Dw.op rfl (guard_yes rfl) (fun X => op_load_one rfl ty22) (.cons (.t rfl) .nil) rfl ?_
      refine Dw.op rfl (guard_yes rfl) (fun X => op_call rfl ci10 (refRaise _ _ _) rfl rfl rfl) (.cons (.t rfl) (.cons (.t rfl) .nil)) rfl ?_
      refine Dw.put (k := 106) rfl (guard_yes rfl) (fun X hX => op_store rfl ty27 (hX.trans rfl) rfl rfl rfl (Nat.le_of_ble_eq_true rfl)) (.cons (.t rfl) (.cons (.t rfl) .nil)) rfl ?_
      refine Dw.fin (by kernel_rfl) ?_
      refine thenQ_normal ?_
      refine awp_weaken (weak (env := [(1, .d (.sl 1 (xs.map u64c))), (5, .ptr 214 0), (6, .ptr 106 0), (7, .d (.int .i64 ((k : Int))))]) (objs := [(106, .cells [.d (.int .u64 (nlim limit)), .d (.int .u64 (craise n (xs.getD k 0)))]), (214, .cells [.d (.int .u64 (nlim limit)), .d (.int .u64 (craise n (xs.getD k 0)))])]) (live := []) (.cons (.e rfl) (.cons (.e rfl) (.cons (.e rfl) (.cons (.e rfl) .nil)))) (.cons rfl (.cons rfl .nil)) rfl rfl) ?_
      refine awp_seq ?_
      refine awp_dw 12 mixed ?_
      refine Dw.op rfl (guard_yes rfl) (fun X => op_move rfl) (.cons (.t rfl) .nil) rfl ?_
      refine Dw.look (ks := [214]) rfl (guard_yes rfl) (fun X hX => op_call_look [(0, 214)] rfl ci13 (cNow _ _) (objCall (InObjs.look (Y := ⟨[(214, .cells [.d (.int .u64 (nlim limit)), .d (.int .u64 (craise n (xs.getD k 0)))])], []⟩) (ks := [214]) (.cons rfl .nil) (fun k hk => (hX k hk).trans (by simp only [List.mem_cons, List.not_mem_nil, or_false] at hk; rcases hk with rfl <;> rfl)) rfl) rfl rfl rfl rfl rfl rfl rfl) rfl rfl rfl) (.cons (.t rfl) .nil) rfl ?_
      refine Dw.op rfl (guard_yes rfl) (fun X => op_fieldAddr_obj rfl fd27_1) (.cons (.t rfl) .nil) rfl ?_
      refine Dw.look (ks := [106]) rfl (guard_yes rfl) (fun X hX => op_load_obj rfl (Loads.congr (X := ⟨[(106, .cells [.d (.int .u64 (nlim limit)), .d (.int .u64 (craise n (xs.getD k 0)))])], []⟩) (.one _ _ ty22 rfl rfl) ((hX _ List.mem_cons_self).trans rfl))) (.cons (.t rfl) .nil) rfl ?_
      refine Dw.op rfl (guard_yes rfl) (fun X => op_bin rfl rfl) (.cons (.t rfl) (.cons (.t rfl) .nil)) rfl ?_
      refine Dw.op rfl (guard_yes rfl) (fun X => op_move rfl) (.cons (.t rfl) .nil) rfl ?_
      refine Dw.cases (d := 65) rfl (fun h5 => ?_) (fun h5 => ?_)
      · (simp at h5)
      · skip
        refine Dw.op rfl (guard_run rfl rfl rfl rfl) (fun X => op_move rfl) (.cons (.t rfl) .nil) rfl ?_
        refine Dw.look (ks := [214]) rfl (guard_run rfl rfl rfl rfl) (fun X hX => op_call_look [(0, 214)] rfl ci14 (cLeft _ _ (by first | omega | (simp only [craise, cnext, nlim] <;> (repeat split) <;> omega)) (by first | omega | (simp only [craise, cnext, nlim] <;> (repeat split) <;> omega))) (objCall (InObjs.look (Y := ⟨[(214, .cells [.d (.int .u64 (nlim limit)), .d (.int .u64 (craise n (xs.getD k 0)))])], []⟩) (ks := [214]) (.cons rfl .nil) (fun k hk => (hX k hk).trans (by simp only [List.mem_cons, List.not_mem_nil, or_false] at hk; rcases hk with rfl <;> rfl)) rfl) rfl rfl rfl rfl rfl rfl rfl) rfl rfl rfl) (.cons (.t rfl) .nil) rfl ?_
        refine Dw.look (ks := [106]) rfl (guard_run rfl rfl rfl rfl) (fun X hX => op_load_obj rfl (Loads.congr (X := ⟨[(106, .cells [.d (.int .u64 (nlim limit)), .d (.int .u64 (craise n (xs.getD k 0)))])], []⟩) (.agg _ _ _ ty27 rfl (Nat.le_of_ble_eq_true rfl) rfl) ((hX _ List.mem_cons_self).trans rfl))) (.cons (.t rfl) .nil) rfl ?_
        refine Dw.op rfl (guard_run rfl rfl rfl rfl) (fun X => op_call rfl ci15 (refLeft _ _ (by first | omega | (simp only [craise, cnext, nlim] <;> (repeat split) <;> omega)) (by first | omega | (simp only [craise, cnext, nlim] <;> (repeat split) <;> omega))) rfl rfl rfl) (.cons (.t rfl) .nil) rfl ?_
        refine Dw.op rfl (guard_run rfl rfl rfl rfl) (fun X => op_bin rfl rfl) (.cons (.t rfl) (.cons (.t rfl) .nil)) rfl ?_
        refine Dw.op rfl (guard_yes rfl) (fun X => op_pick_false rfl) (.cons (.t rfl) (.cons (.t rfl) .nil)) rfl ?_
        refine Dw.fin (by kernel_rfl) ?_
        refine thenQ_normal ?_
        refine awp_weaken (weak (env := [(1, .d (.sl 1 (xs.map u64c))), (5, .ptr 214 0), (6, .ptr 106 0), (7, .d (.int .i64 ((k : Int)))), (71, .d (.bool ((cleft (nlim limit) (craise n (xs.getD k 0))) != (cleft (nlim limit) (craise n (xs.getD k 0))))))]) (objs := [(106, .cells [.d (.int .u64 (nlim limit)), .d (.int .u64 (craise n (xs.getD k 0)))]), (214, .cells [.d (.int .u64 (nlim limit)), .d (.int .u64 (craise n (xs.getD k 0)))])]) (live := []) (.cons (.e rfl) (.cons (.e rfl) (.cons (.e rfl) (.cons (.e rfl) (.cons (.e rfl) .nil))))) (.cons rfl (.cons rfl .nil)) rfl rfl) ?_
        refine awp_cond (b := (cleft (nlim limit) (craise n (xs.getD k 0))) != (cleft (nlim limit) (craise n (xs.getD k 0)))) (.t rfl) (fun h6 => ?_) (fun h6 => ?_)
        · (simp at h6)
        · skip
          refine awp_skip ?_
          refine blockQ_normal ?_
          refine thenQ_normal ?_
          refine awp_weaken (weak (env := [(1, .d (.sl 1 (xs.map u64c))), (5, .ptr 214 0), (6, .ptr 106 0), (7, .d (.int .i64 ((k : Int))))]) (objs := [(106, .cells [.d (.int .u64 (nlim limit)), .d (.int .u64 (craise n (xs.getD k 0)))]), (214, .cells [.d (.int .u64 (nlim limit)), .d (.int .u64 (craise n (xs.getD k 0)))])]) (live := []) (.cons (.e rfl) (.cons (.e rfl) (.cons (.e rfl) (.cons (.e rfl) .nil)))) (.cons rfl (.cons rfl .nil)) rfl rfl) ?_
          refine awp_rw rfl ?_
          refine Rw.opg rfl (guard_yes rfl) (op_move rfl) (.cons (.t rfl) .nil) rfl rfl ?_
          refine Rw.opg rfl (guard_yes rfl) (op_bin_c (c := ((k + 1 : Nat) : Int)) rfl rfl (inc_i64 (by omega))) (.cons (.t rfl) (.cons .c .nil)) rfl rfl ?_
          refine Rw.opg rfl (guard_yes rfl) (op_assign rfl) (.cons (.t rfl) .nil) rfl rfl ?_
          refine Rw.done ?_
          refine thenQ_normal ?_
          refine ⟨_, ?_, k + 1, (craise n (xs.getD k 0)), by omega, by (first | omega | (simp only [craise, cnext, nlim] <;> (repeat split) <;> omega)), by (first | omega | (simp only [craise, cnext, nlim] <;> (repeat split) <;> omega)), rfl, weak (.cons (.e rfl) (.cons (.e rfl) (.cons (.e rfl) (.cons (.as rfl (by rfl)) .nil)))) (.as rfl (by rfl) (.as rfl (by rfl) .nil)) rfl rfl⟩
          omega
    · skip
      refine awp_seq ?_
      refine awp_rw rfl ?_
      refine Rw.opg rfl (guard_yes rfl) (op_move rfl) (.cons (.t rfl) .nil) rfl rfl ?_
      refine Rw.opg rfl (guard_yes rfl) (op_call_obj [(0, 214)] [] rfl ci11 (cNext _ _ (by first | omega | (simp only [craise, cnext, nlim] <;> (repeat split) <;> omega)) (by first | omega | (simp only [craise, cnext, nlim] <;> (repeat split) <;> omega))) (objCall (.cons rfl .nil) rfl rfl rfl rfl rfl rfl rfl) rfl rfl rfl) (.cons (.t rfl) .nil) rfl rfl ?_
      refine Rw.opg rfl (guard_yes rfl) (op_move rfl) (.cons (.t rfl) .nil) rfl rfl ?_
      refine Rw.opg rfl (guard_yes rfl) (op_extract rfl rfl) (.cons (.t rfl) .nil) rfl rfl ?_
      refine Rw.opg rfl (guard_yes rfl) (op_extract rfl rfl) (.cons (.t rfl) .nil) rfl rfl ?_
      refine Rw.opg rfl (guard_yes rfl) (op_assign rfl) (.cons (.t rfl) .nil) rfl rfl ?_
      refine Rw.opg rfl (guard_yes rfl) (op_assign rfl) (.cons (.t rfl) .nil) rfl rfl ?_
      refine Rw.done ?_
      refine thenQ_normal ?_
      refine awp_weaken (weak (env := [(1, .d (.sl 1 (xs.map u64c))), (5, .ptr 214 0), (6, .ptr 106 0), (7, .d (.int .i64 ((k : Int)))), (8, .d (.int .u64 (if n < (nlim limit) then n + 1 else 0))), (9, .d (.int .i64 (if n < (nlim limit) then 0 else 9)))]) (objs := [(106, .cells [.d (.int .u64 (nlim limit)), .d (.int .u64 (n))]), (214, .cells [.d (.int .u64 (nlim limit)), .d (.int .u64 (cnext (nlim limit) n))])]) (live := []) (.cons (.e rfl) (.cons (.e rfl) (.cons (.e rfl) (.cons (.e rfl) (.cons (.e rfl) (.cons (.e rfl) .nil)))))) (.cons rfl (.cons rfl .nil)) rfl rfl) ?_
      refine awp_seq ?_
      refine awp_rw rfl ?_
      refine Rw.opg rfl (guard_yes rfl) (op_load_obj rfl (.agg _ _ _ ty27 rfl (Nat.le_of_ble_eq_true rfl) rfl)) (.cons (.t rfl) .nil) rfl rfl ?_
      refine Rw.opg rfl (guard_yes rfl) (op_call rfl ci12 (refNext _ _ (by first | omega | (simp only [craise, cnext, nlim] <;> (repeat split) <;> omega)) (by first | omega | (simp only [craise, cnext, nlim] <;> (repeat split) <;> omega))) rfl rfl rfl) (.cons (.t rfl) .nil) rfl rfl ?_
      refine Rw.opg rfl (guard_yes rfl) (op_move rfl) (.cons (.t rfl) .nil) rfl rfl ?_
      refine Rw.opg rfl (guard_yes rfl) (op_extract rfl rfl) (.cons (.t rfl) .nil) rfl rfl ?_
      refine Rw.opg rfl (guard_yes rfl) (op_extract rfl rfl) (.cons (.t rfl) .nil) rfl rfl ?_
      refine Rw.opg rfl (guard_yes rfl) (op_extract rfl rfl) (.cons (.t rfl) .nil) rfl rfl ?_
      refine Rw.opg rfl (guard_yes rfl) (o_alloc 110 rfl z27 rfl rfl) .nil rfl rfl ?_
      refine Rw.opg rfl (guard_yes rfl) (op_store rfl ty27 rfl rfl rfl rfl (Nat.le_of_ble_eq_true rfl)) (.cons (.t rfl) (.cons (.t rfl) .nil)) rfl rfl ?_
      refine Rw.opg rfl (guard_yes rfl) (op_assign rfl) (.cons (.t rfl) .nil) rfl rfl ?_
      refine Rw.opg rfl (guard_yes rfl) (op_assign rfl) (.cons (.t rfl) .nil) rfl rfl ?_
      refine Rw.done ?_
      refine thenQ_normal ?_
      refine awp_weaken (weak (env := [(1, .d (.sl 1 (xs.map u64c))), (5, .ptr 214 0), (6, .ptr 106 0), (7, .d (.int .i64 ((k : Int)))), (8, .d (.int .u64 (if n < (nlim limit) then n + 1 else 0))), (9, .d (.int .i64 (if n < (nlim limit) then 0 else 9))), (10, .ptr 110 0), (11, .d (.int .u64 (if n < (nlim limit) then n + 1 else 0))), (12, .d (.int .i64 (if n < (nlim limit) then 0 else 9)))]) (objs := [(110, .cells [.d (.int .u64 (nlim limit)), .d (.int .u64 (cnext (nlim limit) n))]), (106, .cells [.d (.int .u64 (nlim limit)), .d (.int .u64 (n))]), (214, .cells [.d (.int .u64 (nlim limit)), .d (.int .u64 (cnext (nlim limit) n))])]) (live := []) (.cons (.e rfl) (.cons (.e rfl) (.cons (.e rfl) (.cons (.e rfl) (.cons (.e rfl) (.cons (.e rfl) (.cons (.e rfl) (.cons (.e rfl) (.cons (.e rfl) .nil))))))))) (.cons rfl (.cons rfl (.cons rfl .nil))) rfl rfl) ?_
      refine awp_seq ?_
      refine awp_seq ?_
      refine awp_rw rfl ?_
      refine Rw.opg rfl (guard_yes rfl) (op_move rfl) (.cons (.t rfl) .nil) rfl rfl ?_
      refine Rw.opg rfl (guard_yes rfl) (op_move rfl) (.cons (.t rfl) .nil) rfl rfl ?_
      refine Rw.opg rfl (guard_yes rfl) (op_bin rfl rfl) (.cons (.t rfl) (.cons (.t rfl) .nil)) rfl rfl ?_
      refine Rw.opg rfl (guard_yes rfl) (op_move rfl) (.cons (.t rfl) .nil) rfl rfl ?_
      refine Rw.cases (d := 54) rfl (fun h7 => ?_) (fun h7 => ?_)
      · (simp at h7)
      · skip
        refine Rw.opg rfl (guard_run rfl rfl rfl rfl) (op_move rfl) (.cons (.t rfl) .nil) rfl rfl ?_
        refine Rw.opg rfl (guard_run rfl rfl rfl rfl) (op_move rfl) (.cons (.t rfl) .nil) rfl rfl ?_
        refine Rw.opg rfl (guard_run rfl rfl rfl rfl) (op_bin rfl rfl) (.cons (.t rfl) (.cons (.t rfl) .nil)) rfl rfl ?_
        refine Rw.opg rfl (guard_yes rfl) (op_pick_false rfl) (.cons (.t rfl) (.cons (.t rfl) .nil)) rfl rfl ?_
        refine Rw.done ?_
        refine thenQ_normal ?_
        refine awp_weaken (weak (env := [(1, .d (.sl 1 (xs.map u64c))), (5, .ptr 214 0), (6, .ptr 106 0), (7, .d (.int .i64 ((k : Int)))), (10, .ptr 110 0), (58, .d (.bool ((if n < (nlim limit) then 0 else 9) != (if n < (nlim limit) then 0 else 9))))]) (objs := [(110, .cells [.d (.int .u64 (nlim limit)), .d (.int .u64 (cnext (nlim limit) n))]), (106, .cells [.d (.int .u64 (nlim limit)), .d (.int .u64 (n))]), (214, .cells [.d (.int .u64 (nlim limit)), .d (.int .u64 (cnext (nlim limit) n))])]) (live := []) (.cons (.e rfl) (.cons (.e rfl) (.cons (.e rfl) (.cons (.e rfl) (.cons (.e rfl) (.cons (.e rfl) .nil)))))) (.cons rfl (.cons rfl (.cons rfl .nil))) rfl rfl) ?_
        refine awp_cond (b := (if n < (nlim limit) then 0 else 9) != (if n < (nlim limit) then 0 else 9)) (.t rfl) (fun h8 => ?_) (fun h8 => ?_)
        · (simp at h8)
        · skip
          refine awp_skip ?_
          refine thenQ_normal ?_
          refine awp_weaken (weak (env := [(1, .d (.sl 1 (xs.map u64c))), (5, .ptr 214 0), (6, .ptr 106 0), (7, .d (.int .i64 ((k : Int)))), (10, .ptr 110 0)]) (objs := [(110, .cells [.d (.int .u64 (nlim limit)), .d (.int .u64 (cnext (nlim limit) n))]), (106, .cells [.d (.int .u64 (nlim limit)), .d (.int .u64 (n))]), (214, .cells [.d (.int .u64 (nlim limit)), .d (.int .u64 (cnext (nlim limit) n))])]) (live := []) (.cons (.e rfl) (.cons (.e rfl) (.cons (.e rfl) (.cons (.e rfl) (.cons (.e rfl) .nil))))) (.cons rfl (.cons rfl (.cons rfl .nil))) rfl rfl) ?_
          refine awp_rw rfl ?_
          refine Rw.opg rfl (guard_yes rfl) (op_load_obj rfl (.agg _ _ _ ty27 rfl (Nat.le_of_ble_eq_true rfl) rfl)) (.cons (.t rfl) .nil) rfl rfl ?_
          refine Rw.opg rfl (guard_yes rfl) (op_store rfl ty27 rfl rfl rfl rfl (Nat.le_of_ble_eq_true rfl)) (.cons (.t rfl) (.cons (.t rfl) .nil)) rfl rfl ?_
          refine Rw.done ?_
          refine thenQ_normal ?_
          refine awp_weaken (weak (env := [(1, .d (.sl 1 (xs.map u64c))), (5, .ptr 214 0), (6, .ptr 106 0), (7, .d (.int .i64 ((k : Int))))]) (objs := [(106, .cells [.d (.int .u64 (nlim limit)), .d (.int .u64 (cnext (nlim limit) n))]), (214, .cells [.d (.int .u64 (nlim limit)), .d (.int .u64 (cnext (nlim limit) n))])]) (live := []) (.cons (.e rfl) (.cons (.e rfl) (.cons (.e rfl) (.cons (.e rfl) .nil)))) (.cons rfl (.cons rfl .nil)) rfl rfl) ?_
          refine awp_seq ?_
          refine awp_dw 12 mixed ?_
          refine Dw.op rfl (guard_yes rfl) (fun X => op_move rfl) (.cons (.t rfl) .nil) rfl ?_
          refine Dw.look (ks := [214]) rfl (guard_yes rfl) (fun X hX => op_call_look [(0, 214)] rfl ci13 (cNow _ _) (objCall (InObjs.look (Y := ⟨[(214, .cells [.d (.int .u64 (nlim limit)), .d (.int .u64 (cnext (nlim limit) n))])], []⟩) (ks := [214]) (.cons rfl .nil) (fun k hk => (hX k hk).trans (by simp only [List.mem_cons, List.not_mem_nil, or_false] at hk; rcases hk with rfl <;> rfl)) rfl) rfl rfl rfl rfl rfl rfl rfl) rfl rfl rfl) (.cons (.t rfl) .nil) rfl ?_
          refine Dw.op rfl (guard_yes rfl) (fun X => op_fieldAddr_obj rfl fd27_1) (.cons (.t rfl) .nil) rfl ?_
          refine Dw.look (ks := [106]) rfl (guard_yes rfl) (fun X hX => op_load_obj rfl (Loads.congr (X := ⟨[(106, .cells [.d (.int .u64 (nlim limit)), .d (.int .u64 (cnext (nlim limit) n))])], []⟩) (.one _ _ ty22 rfl rfl) ((hX _ List.mem_cons_self).trans rfl))) (.cons (.t rfl) .nil) rfl ?_
          refine Dw.op rfl (guard_yes rfl) (fun X => op_bin rfl rfl) (.cons (.t rfl) (.cons (.t rfl) .nil)) rfl ?_
          refine Dw.op rfl (guard_yes rfl) (fun X => op_move rfl) (.cons (.t rfl) .nil) rfl ?_
          refine Dw.cases (d := 65) rfl (fun h9 => ?_) (fun h9 => ?_)
          · (simp at h9)
          · skip
            refine Dw.op rfl (guard_run rfl rfl rfl rfl) (fun X => op_move rfl) (.cons (.t rfl) .nil) rfl ?_
            refine Dw.look (ks := [214]) rfl (guard_run rfl rfl rfl rfl) (fun X hX => op_call_look [(0, 214)] rfl ci14 (cLeft _ _ (by first | omega | (simp only [craise, cnext, nlim] <;> (repeat split) <;> omega)) (by first | omega | (simp only [craise, cnext, nlim] <;> (repeat split) <;> omega))) (objCall (InObjs.look (Y := ⟨[(214, .cells [.d (.int .u64 (nlim limit)), .d (.int .u64 (cnext (nlim limit) n))])], []⟩) (ks := [214]) (.cons rfl .nil) (fun k hk => (hX k hk).trans (by simp only [List.mem_cons, List.not_mem_nil, or_false] at hk; rcases hk with rfl <;> rfl)) rfl) rfl rfl rfl rfl rfl rfl rfl) rfl rfl rfl) (.cons (.t rfl) .nil) rfl ?_
            refine Dw.look (ks := [106]) rfl (guard_run rfl rfl rfl rfl) (fun X hX => op_load_obj rfl (Loads.congr (X := ⟨[(106, .cells [.d (.int .u64 (nlim limit)), .d (.int .u64 (cnext (nlim limit) n))])], []⟩) (.agg _ _ _ ty27 rfl (Nat.le_of_ble_eq_true rfl) rfl) ((hX _ List.mem_cons_self).trans rfl))) (.cons (.t rfl) .nil) rfl ?_
            refine Dw.op rfl (guard_run rfl rfl rfl rfl) (fun X => op_call rfl ci15 (refLeft _ _ (by first | omega | (simp only [craise, cnext, nlim] <;> (repeat split) <;> omega)) (by first | omega | (simp only [craise, cnext, nlim] <;> (repeat split) <;> omega))) rfl rfl rfl) (.cons (.t rfl) .nil) rfl ?_
            refine Dw.op rfl (guard_run rfl rfl rfl rfl) (fun X => op_bin rfl rfl) (.cons (.t rfl) (.cons (.t rfl) .nil)) rfl ?_
            refine Dw.op rfl (guard_yes rfl) (fun X => op_pick_false rfl) (.cons (.t rfl) (.cons (.t rfl) .nil)) rfl ?_
            refine Dw.fin (by kernel_rfl) ?_
            refine thenQ_normal ?_
            refine awp_weaken (weak (env := [(1, .d (.sl 1 (xs.map u64c))), (5, .ptr 214 0), (6, .ptr 106 0), (7, .d (.int .i64 ((k : Int)))), (71, .d (.bool ((cleft (nlim limit) (cnext (nlim limit) n)) != (cleft (nlim limit) (cnext (nlim limit) n)))))]) (objs := [(106, .cells [.d (.int .u64 (nlim limit)), .d (.int .u64 (cnext (nlim limit) n))]), (214, .cells [.d (.int .u64 (nlim limit)), .d (.int .u64 (cnext (nlim limit) n))])]) (live := []) (.cons (.e rfl) (.cons (.e rfl) (.cons (.e rfl) (.cons (.e rfl) (.cons (.e rfl) .nil))))) (.cons rfl (.cons rfl .nil)) rfl rfl) ?_
            refine awp_cond (b := (cleft (nlim limit) (cnext (nlim limit) n)) != (cleft (nlim limit) (cnext (nlim limit) n))) (.t rfl) (fun h10 => ?_) (fun h10 => ?_)
            · (simp at h10)
            · skip
              refine awp_skip ?_
              refine blockQ_normal ?_
              refine thenQ_normal ?_
              refine awp_weaken (weak (env := [(1, .d (.sl 1 (xs.map u64c))), (5, .ptr 214 0), (6, .ptr 106 0), (7, .d (.int .i64 ((k : Int))))]) (objs := [(106, .cells [.d (.int .u64 (nlim limit)), .d (.int .u64 (cnext (nlim limit) n))]), (214, .cells [.d (.int .u64 (nlim limit)), .d (.int .u64 (cnext (nlim limit) n))])]) (live := []) (.cons (.e rfl) (.cons (.e rfl) (.cons (.e rfl) (.cons (.e rfl) .nil)))) (.cons rfl (.cons rfl .nil)) rfl rfl) ?_
              refine awp_rw rfl ?_
              refine Rw.opg rfl (guard_yes rfl) (op_move rfl) (.cons (.t rfl) .nil) rfl rfl ?_
              refine Rw.opg rfl (guard_yes rfl) (op_bin_c (c := ((k + 1 : Nat) : Int)) rfl rfl (inc_i64 (by omega))) (.cons (.t rfl) (.cons .c .nil)) rfl rfl ?_
              refine Rw.opg rfl (guard_yes rfl) (op_assign rfl) (.cons (.t rfl) .nil) rfl rfl ?_
              refine Rw.done ?_
              refine thenQ_normal ?_
              refine ⟨_, ?_, k + 1, (cnext (nlim limit) n), by omega, by (first | omega | (simp only [craise, cnext, nlim] <;> (repeat split) <;> omega)), by (first | omega | (simp only [craise, cnext, nlim] <;> (repeat split) <;> omega)), rfl, weak (.cons (.e rfl) (.cons (.e rfl) (.cons (.e rfl) (.cons (.as rfl (by rfl)) .nil)))) (.as rfl (by rfl) (.as rfl (by rfl) .nil)) rfl rfl⟩
              omega
  · skip
    refine awp_exit ?_
    refine thenQ_exit ?_
    refine thenQ_exit ?_
    refine blockQ_hit ?_
    refine thenQ_normal ?_
    refine awp_weaken (weak (env := [(5, .ptr 214 0), (6, .ptr 106 0)]) (objs := [(106, .cells [.d (.int .u64 (nlim limit)), .d (.int .u64 (n))]), (214, .cells [.d (.int .u64 (nlim limit)), .d (.int .u64 (n))])]) (live := []) (.cons (.e rfl) (.cons (.e rfl) .nil)) (.cons rfl (.cons rfl .nil)) rfl rfl) ?_
    refine awp_seq ?_
    refine awp_dw 9 mixed ?_
    refine Dw.op rfl (guard_yes rfl) (fun X => op_move rfl) (.cons (.t rfl) .nil) rfl ?_
    refine Dw.look (ks := [214]) rfl (guard_yes rfl) (fun X hX => op_call_look [(0, 214)] rfl ci13 (cNow _ _) (objCall (InObjs.look (Y := ⟨[(214, .cells [.d (.int .u64 (nlim limit)), .d (.int .u64 (n))])], []⟩) (ks := [214]) (.cons rfl .nil) (fun k hk => (hX k hk).trans (by simp only [List.mem_cons, List.not_mem_nil, or_false] at hk; rcases hk with rfl <;> rfl)) rfl) rfl rfl rfl rfl rfl rfl rfl) rfl rfl rfl) (.cons (.t rfl) .nil) rfl ?_
    refine Dw.op rfl (guard_yes rfl) (fun X => op_fieldAddr_obj rfl fd27_1) (.cons (.t rfl) .nil) rfl ?_
    refine Dw.look (ks := [106]) rfl (guard_yes rfl) (fun X hX => op_load_obj rfl (Loads.congr (X := ⟨[(106, .cells [.d (.int .u64 (nlim limit)), .d (.int .u64 (n))])], []⟩) (.one _ _ ty22 rfl rfl) ((hX _ List.mem_cons_self).trans rfl))) (.cons (.t rfl) .nil) rfl ?_
    refine Dw.op rfl (guard_yes rfl) (fun X => op_bin rfl rfl) (.cons (.t rfl) (.cons (.t rfl) .nil)) rfl ?_
    refine Dw.op rfl (guard_yes rfl) (fun X => op_move rfl) (.cons (.t rfl) .nil) rfl ?_
    refine Dw.cases (d := 77) rfl (fun h11 => ?_) (fun h11 => ?_)
    · skip
      refine Dw.op rfl (guard_run rfl rfl rfl rfl) (fun X => op_call rfl ci16 lworks rfl rfl rfl) .nil rfl ?_
      refine Dw.op rfl (guard_yes rfl) (fun X => op_pick_true rfl) (.cons (.t rfl) (.cons (.t rfl) .nil)) rfl ?_
      refine Dw.op rfl (guard_yes rfl) (fun X => op_assign rfl) (.cons (.t rfl) .nil) rfl ?_
      refine Dw.fin (by kernel_rfl) ?_
      refine thenQ_normal ?_
      refine awp_weaken (weak (env := [(4, .d (.bool (true)))]) (objs := []) (live := []) (.cons (.e rfl) .nil) .nil rfl rfl) ?_
      refine awp_ret ?_
      refine .ret _ [.d (.bool (true))] (.cons _ _ _ _ (.tmp _ _ (.e rfl)) .nil) ?_ (weak .nil .nil rfl rfl)
      (first | rfl | (simp_all [tupled, nlim, cleft, craise, cnext]; done) | decide)
    · (simp at h11)
set_option maxRecDepth 20000 in
theorem lCountNil (n : Int) : Does Try.prog 5 [.d (.int .u64 (n))] X0 (.d (.bool (true))) X0 := by
  refine spec_intro Try.func5 rfl (Nat.le_of_ble_eq_true rfl) ?_
  refine awp_seq ?_
  refine awp_rw rfl ?_
  refine Rw.opg rfl (guard_yes rfl) (op_assign rfl) (.cons .c .nil) rfl rfl ?_
  refine Rw.done ?_
  refine thenQ_normal ?_
  refine awp_weaken (weak (env := [(0, .d (.int .u64 (n))), (2, .d (.bool (false)))]) (objs := []) (live := []) (.cons (.e rfl) (.cons (.e rfl) .nil)) .nil rfl rfl) ?_
  refine awp_seq ?_
  refine awp_rw rfl ?_
  refine Rw.opg rfl (guard_yes rfl) (op_assign rfl) (.cons .c .nil) rfl rfl ?_
  refine Rw.done ?_
  refine thenQ_normal ?_
  refine awp_weaken (weak (env := [(0, .d (.int .u64 (n))), (2, .d (.bool (false))), (3, .d (.sc (.pointer none)))]) (objs := []) (live := []) (.cons (.e rfl) (.cons (.e rfl) (.cons (.e rfl) .nil))) .nil rfl rfl) ?_
  refine awp_seq ?_
  refine awp_rw rfl ?_
  refine Rw.opg rfl (guard_yes rfl) (op_move rfl) (.cons (.t rfl) .nil) rfl rfl ?_
  refine Rw.opg rfl (guard_yes rfl) (op_move rfl) (.cons (.t rfl) .nil) rfl rfl ?_
  refine Rw.opg rfl (guard_yes rfl) (op_call rfl ci9 (nRaise _) rfl rfl rfl) (.cons (.t rfl) (.cons (.t rfl) .nil)) rfl rfl ?_
  refine Rw.done ?_
  refine thenQ_normal ?_
  refine awp_weaken (weak (env := [(2, .d (.bool (false))), (3, .d (.sc (.pointer none)))]) (objs := []) (live := []) (.cons (.e rfl) (.cons (.e rfl) .nil)) .nil rfl rfl) ?_
  refine awp_seq ?_
  refine awp_rw rfl ?_
  refine Rw.opg rfl (guard_yes rfl) (op_move rfl) (.cons (.t rfl) .nil) rfl rfl ?_
  refine Rw.opg rfl (guard_yes rfl) (op_call rfl ci11 nNext rfl rfl rfl) (.cons (.t rfl) .nil) rfl rfl ?_
  refine Rw.opg rfl (guard_yes rfl) (op_move rfl) (.cons (.t rfl) .nil) rfl rfl ?_
  refine Rw.opg rfl (guard_yes rfl) (op_extract rfl rfl) (.cons (.t rfl) .nil) rfl rfl ?_
  refine Rw.opg rfl (guard_yes rfl) (op_extract rfl rfl) (.cons (.t rfl) .nil) rfl rfl ?_
  refine Rw.opg rfl (guard_yes rfl) (op_assign rfl) (.cons (.t rfl) .nil) rfl rfl ?_
  refine Rw.opg rfl (guard_yes rfl) (op_assign rfl) (.cons (.t rfl) .nil) rfl rfl ?_
  refine Rw.done ?_
  refine thenQ_normal ?_
  refine awp_weaken (weak (env := [(2, .d (.bool (false))), (3, .d (.sc (.pointer none))), (5, .d (.int .i64 (9)))]) (objs := []) (live := []) (.cons (.e rfl) (.cons (.e rfl) (.cons (.e rfl) .nil))) .nil rfl rfl) ?_
  refine awp_seq ?_
  refine awp_seq ?_
  refine awp_rw rfl ?_
  refine Rw.opg rfl (guard_yes rfl) (op_move rfl) (.cons (.t rfl) .nil) rfl rfl ?_
  refine Rw.opg rfl (guard_yes rfl) (op_bin rfl rfl) (.cons (.t rfl) (.cons .c .nil)) rfl rfl ?_
  refine Rw.opg rfl (guard_yes rfl) (op_move rfl) (.cons (.t rfl) .nil) rfl rfl ?_
  refine Rw.opg rfl (guard_run rfl rfl rfl rfl) (op_move rfl) (.cons (.t rfl) .nil) rfl rfl ?_
  refine Rw.opg rfl (guard_run rfl rfl rfl rfl) (op_call rfl ci13 nNow rfl rfl rfl) (.cons (.t rfl) .nil) rfl rfl ?_
  refine Rw.opg rfl (guard_run rfl rfl rfl rfl) (op_bin rfl rfl) (.cons (.t rfl) (.cons .c .nil)) rfl rfl ?_
  refine Rw.opg rfl (guard_yes rfl) (op_pick_false rfl) (.cons (.t rfl) (.cons (.t rfl) .nil)) rfl rfl ?_
  refine Rw.opg rfl (guard_yes rfl) (op_move rfl) (.cons (.t rfl) .nil) rfl rfl ?_
  refine Rw.opg rfl (guard_run rfl rfl rfl rfl) (op_move rfl) (.cons (.t rfl) .nil) rfl rfl ?_
  refine Rw.opg rfl (guard_run rfl rfl rfl rfl) (op_call rfl ci14 nLeft rfl rfl rfl) (.cons (.t rfl) .nil) rfl rfl ?_
  refine Rw.opg rfl (guard_run rfl rfl rfl rfl) (op_bin rfl rfl) (.cons (.t rfl) (.cons .c .nil)) rfl rfl ?_
  refine Rw.opg rfl (guard_yes rfl) (op_pick_false rfl) (.cons (.t rfl) (.cons (.t rfl) .nil)) rfl rfl ?_
  refine Rw.opg rfl (guard_yes rfl) (op_move rfl) (.cons (.t rfl) .nil) rfl rfl ?_
  refine Rw.opg rfl (guard_run rfl rfl rfl rfl) (op_move rfl) (.cons (.t rfl) .nil) rfl rfl ?_
  refine Rw.opg rfl (guard_run rfl rfl rfl rfl) (op_call rfl ci17 nCopy rfl rfl rfl) (.cons (.t rfl) .nil) rfl rfl ?_
  refine Rw.opg rfl (guard_run rfl rfl rfl rfl) (op_nil_neq rfl up24) (.cons (.t rfl) (.cons .c .nil)) rfl rfl ?_
  refine Rw.opg rfl (guard_yes rfl) (op_pick_false rfl) (.cons (.t rfl) (.cons (.t rfl) .nil)) rfl rfl ?_
  refine Rw.done ?_
  refine thenQ_normal ?_
  refine awp_weaken (weak (env := [(2, .d (.bool (false))), (33, .d (.bool (false)))]) (objs := []) (live := []) (.cons (.e rfl) (.cons (.e rfl) .nil)) .nil rfl rfl) ?_
  refine awp_cond_false (.t rfl) ?_
  refine awp_skip ?_
  refine thenQ_normal ?_
  refine awp_weaken (weak (env := [(2, .d (.bool (false)))]) (objs := []) (live := []) (.cons (.e rfl) .nil) .nil rfl rfl) ?_
  refine awp_seq ?_
  refine awp_rw rfl ?_
  refine Rw.opg rfl (guard_yes rfl) (o_alloc 106 rfl z42 rfl rfl) .nil rfl rfl ?_
  refine Rw.done ?_
  refine thenQ_normal ?_
  refine awp_weaken (weak (env := [(2, .d (.bool (false))), (6, .ptr 106 0)]) (objs := [(106, .cells [.d (.int .u64 (0)), .d (.int .u64 (0))])]) (live := []) (.cons (.e rfl) (.cons (.e rfl) .nil)) (.cons rfl .nil) rfl rfl) ?_
  refine awp_seq ?_
  refine awp_rw rfl ?_
  refine Rw.opg rfl (guard_yes rfl) (op_call_obj [(0, 106)] [] rfl ci11 (cNext _ _ (by first | omega | (simp only [craise, cnext, nlim] <;> (repeat split) <;> omega)) (by first | omega | (simp only [craise, cnext, nlim] <;> (repeat split) <;> omega))) (objCall (.cons rfl .nil) rfl rfl rfl rfl rfl rfl rfl) rfl rfl rfl) (.cons (.t rfl) .nil) rfl rfl ?_
  refine Rw.opg rfl (guard_yes rfl) (op_move rfl) (.cons (.t rfl) .nil) rfl rfl ?_
  refine Rw.opg rfl (guard_yes rfl) (op_extract rfl rfl) (.cons (.t rfl) .nil) rfl rfl ?_
  refine Rw.opg rfl (guard_yes rfl) (op_extract rfl rfl) (.cons (.t rfl) .nil) rfl rfl ?_
  refine Rw.opg rfl (guard_yes rfl) (op_assign rfl) (.cons (.t rfl) .nil) rfl rfl ?_
  refine Rw.opg rfl (guard_yes rfl) (op_assign rfl) (.cons (.t rfl) .nil) rfl rfl ?_
  refine Rw.done ?_
  refine thenQ_normal ?_
  refine awp_weaken (weak (env := [(2, .d (.bool (false))), (6, .ptr 106 0), (8, .d (.int .i64 (9)))]) (objs := [(106, .cells [.d (.int .u64 (0)), .d (.int .u64 (0))])]) (live := []) (.cons (.e rfl) (.cons (.e rfl) (.cons (.e rfl) .nil))) (.cons rfl .nil) rfl rfl) ?_
  refine awp_seq ?_
  refine awp_rw rfl ?_
  refine Rw.opg rfl (guard_yes rfl) (op_move rfl) (.cons (.t rfl) .nil) rfl rfl ?_
  refine Rw.opg rfl (guard_yes rfl) (op_bin rfl rfl) (.cons (.t rfl) (.cons .c .nil)) rfl rfl ?_
  refine Rw.opg rfl (guard_yes rfl) (op_move rfl) (.cons (.t rfl) .nil) rfl rfl ?_
  refine Rw.opg rfl (guard_run rfl rfl rfl rfl) (op_call_look [(0, 106)] rfl ci13 (cNow _ _) (objCall (.cons rfl .nil) rfl rfl rfl rfl rfl rfl rfl) rfl rfl rfl) (.cons (.t rfl) .nil) rfl rfl ?_
  refine Rw.opg rfl (guard_run rfl rfl rfl rfl) (op_bin rfl rfl) (.cons (.t rfl) (.cons .c .nil)) rfl rfl ?_
  refine Rw.opg rfl (guard_yes rfl) (op_pick_true rfl) (.cons (.t rfl) (.cons (.t rfl) .nil)) rfl rfl ?_
  refine Rw.opg rfl (guard_yes rfl) (op_move rfl) (.cons (.t rfl) .nil) rfl rfl ?_
  refine Rw.opg rfl (guard_run rfl rfl rfl rfl) (op_call_look [(0, 106)] rfl ci14 (cLeft _ _ (by first | omega | (simp only [craise, cnext, nlim] <;> (repeat split) <;> omega)) (by first | omega | (simp only [craise, cnext, nlim] <;> (repeat split) <;> omega))) (objCall (.cons rfl .nil) rfl rfl rfl rfl rfl rfl rfl) rfl rfl rfl) (.cons (.t rfl) .nil) rfl rfl ?_
  refine Rw.opg rfl (guard_run rfl rfl rfl rfl) (op_bin rfl rfl) (.cons (.t rfl) (.cons .c .nil)) rfl rfl ?_
  refine Rw.opg rfl (guard_yes rfl) (op_pick_true rfl) (.cons (.t rfl) (.cons (.t rfl) .nil)) rfl rfl ?_
  refine Rw.opg rfl (guard_yes rfl) (op_move rfl) (.cons (.t rfl) .nil) rfl rfl ?_
  refine Rw.opg rfl (guard_run rfl rfl rfl rfl) (op_call rfl ci16 lworks rfl rfl rfl) .nil rfl rfl ?_
  refine Rw.opg rfl (guard_yes rfl) (op_pick_true rfl) (.cons (.t rfl) (.cons (.t rfl) .nil)) rfl rfl ?_
  refine Rw.opg rfl (guard_yes rfl) (op_assign rfl) (.cons (.t rfl) .nil) rfl rfl ?_
  refine Rw.done ?_
  refine thenQ_normal ?_
  refine awp_weaken (weak (env := [(2, .d (.bool (true)))]) (objs := []) (live := []) (.cons (.e rfl) .nil) .nil rfl rfl) ?_
  refine awp_ret ?_
  refine .ret _ [.d (.bool (true))] (.cons _ _ _ _ (.tmp _ _ (.e rfl)) .nil) ?_ (weak .nil .nil rfl rfl)
  (first | rfl | (simp_all [tupled, nlim, cleft, craise, cnext]; done) | decide)
theorem cNextY (l n : Int) (h0 : 0 ≤ n) (h : n < l) (h2 : l ≤ 281474976710655) : Does Try.prog 11 [.ptr 0 0] ⟨[(0, .cells [.d (.int .u64 (l)), .d (.int .u64 (n))])], []⟩ (.tup [.d (.int .u64 (n + 1)), .d (.int .i64 0)]) ⟨[(0, .cells [.d (.int .u64 (l)), .d (.int .u64 (n + 1))])], []⟩ := by
  have := cNext l n h0 h2
  simp only [cnext, if_pos h] at this
  exact this
theorem cNextN (l n : Int) (h0 : 0 ≤ n) (h : ¬ n < l) (h2 : l ≤ 281474976710655) : Does Try.prog 11 [.ptr 0 0] ⟨[(0, .cells [.d (.int .u64 (l)), .d (.int .u64 (n))])], []⟩ (.tup [.d (.int .u64 0), .d (.int .i64 9)]) ⟨[(0, .cells [.d (.int .u64 (l)), .d (.int .u64 (n))])], []⟩ := by
  have := cNext l n h0 h2
  simp only [cnext, if_neg h] at this
  exact this
set_option maxRecDepth 20000 in
theorem lCountOnce (limit : Int) (xs : List Int) (hl : xs.length ≤ 9223372036854775807) : Does Try.prog 4 [.d (.int .u64 (limit)), .d (.sl 1 (xs.map u64c))] X0 (.d (.bool (true))) X0 := by
  have hL := nlim_le limit
  refine spec_intro Try.func4 rfl (Nat.le_of_ble_eq_true rfl) ?_
  refine awp_seq ?_
  refine awp_rw rfl ?_
  refine Rw.opg rfl (guard_yes rfl) (op_assign rfl) (.cons .c .nil) rfl rfl ?_
  refine Rw.done ?_
  refine thenQ_normal ?_
  refine awp_weaken (weak (env := [(0, .d (.int .u64 (limit))), (1, .d (.sl 1 (xs.map u64c))), (4, .d (.bool (false)))]) (objs := []) (live := []) (.cons (.e rfl) (.cons (.e rfl) (.cons (.e rfl) .nil))) .nil rfl rfl) ?_
  refine awp_seq ?_
  refine awp_rw rfl ?_
  refine Rw.opg rfl (guard_yes rfl) (op_move rfl) (.cons (.t rfl) .nil) rfl rfl ?_
  refine Rw.opg rfl (guard_yes rfl) (op_call_obj [(106, 214)] [214] rfl ci7 (cNew _) (objCall .nil rfl rfl rfl rfl rfl rfl rfl) rfl rfl rfl) (.cons (.t rfl) .nil) rfl rfl ?_
  refine Rw.opg rfl (guard_yes rfl) (op_assign rfl) (.cons (.t rfl) .nil) rfl rfl ?_
  refine Rw.done ?_
  refine thenQ_normal ?_
  refine awp_weaken (weak (env := [(0, .d (.int .u64 (limit))), (1, .d (.sl 1 (xs.map u64c))), (4, .d (.bool (false))), (5, .ptr 214 0)]) (objs := [(214, .cells [.d (.int .u64 (nlim limit)), .d (.int .u64 (0))])]) (live := []) (.cons (.e rfl) (.cons (.e rfl) (.cons (.e rfl) (.cons (.e rfl) .nil)))) (.cons rfl .nil) rfl rfl) ?_
  refine awp_seq ?_
  refine awp_rw rfl ?_
  refine Rw.opg rfl (guard_yes rfl) (op_assign rfl) (.cons .c .nil) rfl rfl ?_
  refine Rw.done ?_
  refine thenQ_normal ?_
  refine awp_weaken (weak (env := [(0, .d (.int .u64 (limit))), (1, .d (.sl 1 (xs.map u64c))), (4, .d (.bool (false))), (5, .ptr 214 0), (6, .d (.int .u64 (0)))]) (objs := [(214, .cells [.d (.int .u64 (nlim limit)), .d (.int .u64 (0))])]) (live := []) (.cons (.e rfl) (.cons (.e rfl) (.cons (.e rfl) (.cons (.e rfl) (.cons (.e rfl) .nil))))) (.cons rfl .nil) rfl rfl) ?_
  refine awp_seq ?_
  refine awp_seq ?_
  refine awp_rw rfl ?_
  refine Rw.opg rfl (guard_yes rfl) (op_assign rfl) (.cons .c .nil) rfl rfl ?_
  refine Rw.done ?_
  refine thenQ_normal ?_
  refine awp_weaken (weak (env := [(0, .d (.int .u64 (limit))), (1, .d (.sl 1 (xs.map u64c))), (4, .d (.bool (false))), (5, .ptr 214 0), (6, .d (.int .u64 (0))), (7, .d (.int .i64 (0)))]) (objs := [(214, .cells [.d (.int .u64 (nlim limit)), .d (.int .u64 (0))])]) (live := []) (.cons (.e rfl) (.cons (.e rfl) (.cons (.e rfl) (.cons (.e rfl) (.cons (.e rfl) (.cons (.e rfl) .nil)))))) (.cons rfl .nil) rfl rfl) ?_
  refine awp_block ?_
  refine awp_loop (fun rk st => ∃ (k : Nat), ∃ (top : Int), k ≤ xs.length ∧ 0 ≤ top ∧ top ≤ 281474976710655 ∧ rk = xs.length - k ∧ Weak [] st ⟨[(0, .d (.int .u64 (limit))), (1, .d (.sl 1 (xs.map u64c))), (5, .ptr 214 0), (6, .d (.int .u64 (top))), (7, .d (.int .i64 ((k : Int))))], ⟨[(214, .cells [.d (.int .u64 (nlim limit)), .d (.int .u64 (top))])], []⟩⟩) (xs.length - (0)) ⟨0, 0, by omega, by decide, by decide, rfl, weak (.cons (.e rfl) (.cons (.e rfl) (.cons (.e rfl) (.cons (.e rfl) (.cons (.as rfl (by rfl)) .nil))))) (.cons rfl .nil) rfl rfl⟩ ?_
  rintro rk st ⟨k, top, h0, h1, h2, rfl, hw⟩
  refine awp_weaken hw ?_
  clear hw
  by_cases hc : top < nlim limit
  · skip
    refine awp_seq ?_
    refine awp_seq ?_
    refine awp_rw rfl ?_
    refine Rw.opg rfl (guard_yes rfl) (op_move rfl) (.cons (.t rfl) .nil) rfl rfl ?_
    refine Rw.opg rfl (guard_yes rfl) (op_move rfl) (.cons (.t rfl) .nil) rfl rfl ?_
    refine Rw.opg rfl (guard_yes rfl) (o_len_slice rfl rfl sl23) (.cons (.t rfl) .nil) rfl rfl ?_
    refine Rw.opg rfl (guard_yes rfl) (op_bin rfl rfl) (.cons (.t rfl) (.cons (.t rfl) .nil)) rfl rfl ?_
    refine Rw.done ?_
    refine thenQ_normal ?_
    refine awp_weaken (weak (env := [(0, .d (.int .u64 (limit))), (1, .d (.sl 1 (xs.map u64c))), (5, .ptr 214 0), (6, .d (.int .u64 (top))), (7, .d (.int .i64 ((k : Int)))), (18, .d (.bool (decide ((k : Int) < (List.length (xs.map u64c) : Int)))))]) (objs := [(214, .cells [.d (.int .u64 (nlim limit)), .d (.int .u64 (top))])]) (live := []) (.cons (.e rfl) (.cons (.e rfl) (.cons (.e rfl) (.cons (.e rfl) (.cons (.e rfl) (.cons (.e rfl) .nil)))))) (.cons rfl .nil) rfl rfl) ?_
    refine awp_cond (b := decide ((k : Int) < (List.length (xs.map u64c) : Int))) (.t rfl) (fun h3 => ?_) (fun h3 => ?_)
    · have hk : k < xs.length := by simpa using h3
      refine awp_skip ?_
      refine thenQ_normal ?_
      refine awp_weaken (weak (env := [(0, .d (.int .u64 (limit))), (1, .d (.sl 1 (xs.map u64c))), (5, .ptr 214 0), (6, .d (.int .u64 (top))), (7, .d (.int .i64 ((k : Int))))]) (objs := [(214, .cells [.d (.int .u64 (nlim limit)), .d (.int .u64 (top))])]) (live := []) (.cons (.e rfl) (.cons (.e rfl) (.cons (.e rfl) (.cons (.e rfl) (.cons (.e rfl) .nil))))) (.cons rfl .nil) rfl rfl) ?_
      refine awp_seq ?_
      refine awp_block ?_
      refine awp_seq ?_
      refine awp_rw rfl ?_
      refine Rw.opg rfl (guard_yes rfl) (op_move rfl) (.cons (.t rfl) .nil) rfl rfl ?_
      refine Rw.opg rfl (guard_yes rfl) (op_call_obj [(0, 214), (103, 222)] [222] rfl ci17 (cCopy _ _) (objCall (.cons rfl .nil) rfl rfl rfl rfl rfl rfl rfl) rfl rfl rfl) (.cons (.t rfl) .nil) rfl rfl ?_
      refine Rw.opg rfl (guard_yes rfl) (op_assign rfl) (.cons (.t rfl) .nil) rfl rfl ?_
      refine Rw.done ?_
      refine thenQ_normal ?_
      refine awp_weaken (weak (env := [(0, .d (.int .u64 (limit))), (1, .d (.sl 1 (xs.map u64c))), (5, .ptr 214 0), (6, .d (.int .u64 (top))), (7, .d (.int .i64 ((k : Int)))), (8, .ptr 222 0)]) (objs := [(214, .cells [.d (.int .u64 (nlim limit)), .d (.int .u64 (top))]), (222, .cells [.d (.int .u64 (nlim limit)), .d (.int .u64 (top))])]) (live := []) (.cons (.e rfl) (.cons (.e rfl) (.cons (.e rfl) (.cons (.e rfl) (.cons (.e rfl) (.cons (.e rfl) .nil)))))) (.cons rfl (.cons rfl .nil)) rfl rfl) ?_
      refine awp_seq ?_
      refine awp_rw rfl ?_
      refine Rw.opg rfl (guard_yes rfl) (op_move rfl) (.cons (.t rfl) .nil) rfl rfl ?_
      refine Rw.opg rfl (guard_yes rfl) (op_call_obj [(0, 214)] [] rfl ci11 (cNextY _ _ h1 hc hL) (objCall (.cons rfl .nil) rfl rfl rfl rfl rfl rfl rfl) rfl rfl rfl) (.cons (.t rfl) .nil) rfl rfl ?_
      refine Rw.opg rfl (guard_yes rfl) (op_move rfl) (.cons (.t rfl) .nil) rfl rfl ?_
      refine Rw.opg rfl (guard_yes rfl) (op_extract rfl rfl) (.cons (.t rfl) .nil) rfl rfl ?_
      refine Rw.opg rfl (guard_yes rfl) (op_extract rfl rfl) (.cons (.t rfl) .nil) rfl rfl ?_
      refine Rw.opg rfl (guard_yes rfl) (op_assign rfl) (.cons (.t rfl) .nil) rfl rfl ?_
      refine Rw.opg rfl (guard_yes rfl) (op_assign rfl) (.cons (.t rfl) .nil) rfl rfl ?_
      refine Rw.done ?_
      refine thenQ_normal ?_
      refine awp_weaken (weak (env := [(0, .d (.int .u64 (limit))), (1, .d (.sl 1 (xs.map u64c))), (5, .ptr 214 0), (6, .d (.int .u64 (top))), (7, .d (.int .i64 ((k : Int)))), (8, .ptr 222 0), (9, .d (.int .u64 (top + 1))), (10, .d (.int .i64 (0)))]) (objs := [(214, .cells [.d (.int .u64 (nlim limit)), .d (.int .u64 (top + 1))]), (222, .cells [.d (.int .u64 (nlim limit)), .d (.int .u64 (top))])]) (live := []) (.cons (.e rfl) (.cons (.e rfl) (.cons (.e rfl) (.cons (.e rfl) (.cons (.e rfl) (.cons (.e rfl) (.cons (.e rfl) (.cons (.e rfl) .nil)))))))) (.cons rfl (.cons rfl .nil)) rfl rfl) ?_
      refine awp_seq ?_
      refine awp_rw rfl ?_
      refine Rw.opg rfl (guard_yes rfl) (op_move rfl) (.cons (.t rfl) .nil) rfl rfl ?_
      refine Rw.opg rfl (guard_yes rfl) (op_call_obj [(0, 222)] [] rfl ci11 (cNextY _ _ h1 hc hL) (objCall (.cons rfl .nil) rfl rfl rfl rfl rfl rfl rfl) rfl rfl rfl) (.cons (.t rfl) .nil) rfl rfl ?_
      refine Rw.opg rfl (guard_yes rfl) (op_move rfl) (.cons (.t rfl) .nil) rfl rfl ?_
      refine Rw.opg rfl (guard_yes rfl) (op_extract rfl rfl) (.cons (.t rfl) .nil) rfl rfl ?_
      refine Rw.opg rfl (guard_yes rfl) (op_extract rfl rfl) (.cons (.t rfl) .nil) rfl rfl ?_
      refine Rw.opg rfl (guard_yes rfl) (op_assign rfl) (.cons (.t rfl) .nil) rfl rfl ?_
      refine Rw.opg rfl (guard_yes rfl) (op_assign rfl) (.cons (.t rfl) .nil) rfl rfl ?_
      refine Rw.done ?_
      refine thenQ_normal ?_
      refine awp_weaken (weak (env := [(0, .d (.int .u64 (limit))), (1, .d (.sl 1 (xs.map u64c))), (5, .ptr 214 0), (6, .d (.int .u64 (top))), (7, .d (.int .i64 ((k : Int)))), (8, .ptr 222 0), (9, .d (.int .u64 (top + 1))), (10, .d (.int .i64 (0))), (11, .d (.int .u64 (top + 1))), (12, .d (.int .i64 (0)))]) (objs := [(214, .cells [.d (.int .u64 (nlim limit)), .d (.int .u64 (top + 1))]), (222, .cells [.d (.int .u64 (nlim limit)), .d (.int .u64 (top + 1))])]) (live := []) (.cons (.e rfl) (.cons (.e rfl) (.cons (.e rfl) (.cons (.e rfl) (.cons (.e rfl) (.cons (.e rfl) (.cons (.e rfl) (.cons (.e rfl) (.cons (.e rfl) (.cons (.e rfl) .nil)))))))))) (.cons rfl (.cons rfl .nil)) rfl rfl) ?_
      refine awp_seq ?_
      refine awp_seq ?_
      refine awp_rw rfl ?_
      refine Rw.opg rfl (guard_yes rfl) (op_move rfl) (.cons (.t rfl) .nil) rfl rfl ?_
      refine Rw.opg rfl (guard_yes rfl) (op_move rfl) (.cons (.t rfl) .nil) rfl rfl ?_
      refine Rw.opg rfl (guard_yes rfl) (op_bin rfl rfl) (.cons (.t rfl) (.cons (.t rfl) .nil)) rfl rfl ?_
      refine Rw.opg rfl (guard_yes rfl) (op_move rfl) (.cons (.t rfl) .nil) rfl rfl ?_
      refine Rw.cases (d := 36) rfl (fun h4 => ?_) (fun h4 => ?_)
      · (simp at h4)
      · skip
        refine Rw.opg rfl (guard_run rfl rfl rfl rfl) (op_move rfl) (.cons (.t rfl) .nil) rfl rfl ?_
        refine Rw.opg rfl (guard_run rfl rfl rfl rfl) (op_move rfl) (.cons (.t rfl) .nil) rfl rfl ?_
        refine Rw.opg rfl (guard_run rfl rfl rfl rfl) (op_bin rfl rfl) (.cons (.t rfl) (.cons (.t rfl) .nil)) rfl rfl ?_
        refine Rw.opg rfl (guard_yes rfl) (op_pick_false rfl) (.cons (.t rfl) (.cons (.t rfl) .nil)) rfl rfl ?_
        refine Rw.opg rfl (guard_yes rfl) (op_move rfl) (.cons (.t rfl) .nil) rfl rfl ?_
        refine Rw.opg rfl (guard_run rfl rfl rfl rfl) (op_move rfl) (.cons (.t rfl) .nil) rfl rfl ?_
        refine Rw.opg rfl (guard_run rfl rfl rfl rfl) (op_bin rfl rfl) (.cons (.t rfl) (.cons .c .nil)) rfl rfl ?_
        refine Rw.opg rfl (guard_run rfl rfl rfl rfl) (op_move rfl) (.cons (.t rfl) .nil) rfl rfl ?_
        refine Rw.opg rfl (guard_run rfl rfl rfl rfl) (op_move rfl) (.cons (.t rfl) .nil) rfl rfl ?_
        refine Rw.opg rfl (guard_run rfl rfl rfl rfl) (op_move rfl) (.cons (.t rfl) .nil) rfl rfl ?_
        refine Rw.opg rfl (guard_run rfl rfl rfl rfl) (op_bin_c (c := top + 1) rfl rfl (wrap_u64 (by omega) (by omega))) (.cons (.t rfl) (.cons .c .nil)) rfl rfl ?_
        refine Rw.opg rfl (guard_run rfl rfl rfl rfl) (op_bin rfl rfl) (.cons (.t rfl) (.cons (.t rfl) .nil)) rfl rfl ?_
        refine Rw.opg rfl (guard_run rfl rfl rfl rfl) (op_pick_true rfl) (.cons (.t rfl) (.cons (.t rfl) .nil)) rfl rfl ?_
        refine Rw.opg rfl (guard_yes rfl) (op_pick_false rfl) (.cons (.t rfl) (.cons (.t rfl) .nil)) rfl rfl ?_
        refine Rw.opg rfl (guard_yes rfl) (op_move rfl) (.cons (.t rfl) .nil) rfl rfl ?_
        refine Rw.cases (d := 51) rfl (fun h5 => ?_) (fun h5 => ?_)
        · (simp at h5)
        · skip
          refine Rw.opg rfl (guard_run rfl rfl rfl rfl) (op_move rfl) (.cons (.t rfl) .nil) rfl rfl ?_
          refine Rw.opg rfl (guard_run rfl rfl rfl rfl) (op_bin rfl rfl) (.cons (.t rfl) (.cons .c .nil)) rfl rfl ?_
          refine Rw.opg rfl (guard_run rfl rfl rfl rfl) (op_move rfl) (.cons (.t rfl) .nil) rfl rfl ?_
          refine Rw.skip rfl (guard_not rfl rfl rfl rfl rfl) rfl ?_
          refine Rw.skip rfl (guard_not rfl rfl rfl rfl rfl) rfl ?_
          refine Rw.skip rfl (guard_not rfl rfl rfl rfl rfl) rfl ?_
          refine Rw.skip rfl (guard_undef rfl rfl rfl rfl) rfl ?_
          refine Rw.skip rfl (guard_undef rfl rfl rfl rfl) rfl ?_
          refine Rw.skip rfl (guard_not rfl rfl rfl rfl rfl) rfl ?_
          refine Rw.skip rfl (guard_not rfl rfl rfl rfl rfl) rfl ?_
          refine Rw.skip rfl (guard_undef rfl rfl rfl rfl) rfl ?_
          refine Rw.skip rfl (guard_undef rfl rfl rfl rfl) rfl ?_
          refine Rw.skip rfl (guard_undef rfl rfl rfl rfl) rfl ?_
          refine Rw.skip rfl (guard_undef rfl rfl rfl rfl) rfl ?_
          refine Rw.skip rfl (guard_not rfl rfl rfl rfl rfl) rfl ?_
          refine Rw.opg rfl (guard_run rfl rfl rfl rfl) (op_pick_false rfl) (.cons (.t rfl) (.cons .c .nil)) rfl rfl ?_
          refine Rw.opg rfl (guard_yes rfl) (op_pick_false rfl) (.cons (.t rfl) (.cons (.t rfl) .nil)) rfl rfl ?_
          refine Rw.done ?_
          refine thenQ_normal ?_
          refine awp_weaken (weak (env := [(0, .d (.int .u64 (limit))), (1, .d (.sl 1 (xs.map u64c))), (5, .ptr 214 0), (6, .d (.int .u64 (top))), (7, .d (.int .i64 ((k : Int)))), (8, .ptr 222 0), (9, .d (.int .u64 (top + 1))), (68, .d (.bool (false)))]) (objs := [(214, .cells [.d (.int .u64 (nlim limit)), .d (.int .u64 (top + 1))]), (222, .cells [.d (.int .u64 (nlim limit)), .d (.int .u64 (top + 1))])]) (live := []) (.cons (.e rfl) (.cons (.e rfl) (.cons (.e rfl) (.cons (.e rfl) (.cons (.e rfl) (.cons (.e rfl) (.cons (.e rfl) (.cons (.e rfl) .nil)))))))) (.cons rfl (.cons rfl .nil)) rfl rfl) ?_
          refine awp_cond_false (.t rfl) ?_
          refine awp_skip ?_
          refine thenQ_normal ?_
          refine awp_weaken (weak (env := [(0, .d (.int .u64 (limit))), (1, .d (.sl 1 (xs.map u64c))), (5, .ptr 214 0), (6, .d (.int .u64 (top))), (7, .d (.int .i64 ((k : Int)))), (8, .ptr 222 0), (9, .d (.int .u64 (top + 1)))]) (objs := [(214, .cells [.d (.int .u64 (nlim limit)), .d (.int .u64 (top + 1))]), (222, .cells [.d (.int .u64 (nlim limit)), .d (.int .u64 (top + 1))])]) (live := []) (.cons (.e rfl) (.cons (.e rfl) (.cons (.e rfl) (.cons (.e rfl) (.cons (.e rfl) (.cons (.e rfl) (.cons (.e rfl) .nil))))))) (.cons rfl (.cons rfl .nil)) rfl rfl) ?_
          refine awp_seq ?_
          refine awp_rw rfl ?_
          refine Rw.opg rfl (guard_yes rfl) (op_move rfl) (.cons (.t rfl) .nil) rfl rfl ?_
          refine Rw.opg rfl (guard_yes rfl) (op_move rfl) (.cons (.t rfl) .nil) rfl rfl ?_
          refine Rw.opg rfl (guard_yes rfl) (op_max_c (c := top + 1) rfl (if_pos (by omega))) (.cons (.t rfl) (.cons (.t rfl) .nil)) rfl rfl ?_
          refine Rw.opg rfl (guard_yes rfl) (op_assign rfl) (.cons (.t rfl) .nil) rfl rfl ?_
          refine Rw.done ?_
          refine thenQ_normal ?_
          refine awp_weaken (weak (env := [(0, .d (.int .u64 (limit))), (1, .d (.sl 1 (xs.map u64c))), (5, .ptr 214 0), (6, .d (.int .u64 (top + 1))), (7, .d (.int .i64 ((k : Int)))), (8, .ptr 222 0)]) (objs := [(214, .cells [.d (.int .u64 (nlim limit)), .d (.int .u64 (top + 1))]), (222, .cells [.d (.int .u64 (nlim limit)), .d (.int .u64 (top + 1))])]) (live := []) (.cons (.e rfl) (.cons (.e rfl) (.cons (.e rfl) (.cons (.e rfl) (.cons (.e rfl) (.cons (.e rfl) .nil)))))) (.cons rfl (.cons rfl .nil)) rfl rfl) ?_
          refine awp_seq ?_
          refine awp_rw rfl ?_
          refine Rw.opg rfl (guard_yes rfl) (op_move rfl) (.cons (.t rfl) .nil) rfl rfl ?_
          refine Rw.opg rfl (guard_yes rfl) (op_move rfl) (.cons (.t rfl) .nil) rfl rfl ?_
          refine Rw.opg rfl (guard_yes rfl) (op_move rfl) (.cons (.t rfl) .nil) rfl rfl ?_
          refine Rw.opg rfl (guard_yes rfl) (o_indexAddr (cs := [.int .u64 (xs.getD k 0)]) rfl sl23 (by omega) (u64_get hk)) (.cons (.t rfl) (.cons (.t rfl) .nil)) rfl rfl ?_
          refine Rw.opg rfl (guard_yes rfl) (op_load_one rfl ty22) (.cons (.t rfl) .nil) rfl rfl ?_
          refine Rw.opg rfl (guard_yes rfl) (op_call_obj [(0, 222)] [] rfl ci9 (cRaise _ _ _) (objCall (.cons rfl .nil) rfl rfl rfl rfl rfl rfl rfl) rfl rfl rfl) (.cons (.t rfl) (.cons (.t rfl) .nil)) rfl rfl ?_
          refine Rw.done ?_
          refine thenQ_normal ?_
          refine awp_weaken (weak (env := [(0, .d (.int .u64 (limit))), (1, .d (.sl 1 (xs.map u64c))), (5, .ptr 214 0), (6, .d (.int .u64 (top + 1))), (7, .d (.int .i64 ((k : Int))))]) (objs := [(214, .cells [.d (.int .u64 (nlim limit)), .d (.int .u64 (top + 1))])]) (live := []) (.cons (.e rfl) (.cons (.e rfl) (.cons (.e rfl) (.cons (.e rfl) (.cons (.e rfl) .nil))))) (.cons rfl .nil) rfl rfl) ?_
          refine awp_seq ?_
          refine awp_seq ?_
          refine awp_rw rfl ?_
          refine Rw.opg rfl (guard_yes rfl) (op_move rfl) (.cons (.t rfl) .nil) rfl rfl ?_
          refine Rw.opg rfl (guard_yes rfl) (op_move rfl) (.cons (.t rfl) .nil) rfl rfl ?_
          refine Rw.opg rfl (guard_yes rfl) (o_indexAddr (cs := [.int .u64 (xs.getD k 0)]) rfl sl23 (by omega) (u64_get hk)) (.cons (.t rfl) (.cons (.t rfl) .nil)) rfl rfl ?_
          refine Rw.opg rfl (guard_yes rfl) (op_load_one rfl ty22) (.cons (.t rfl) .nil) rfl rfl ?_
          refine Rw.opg rfl (guard_yes rfl) (op_rem (c := Int.tmod (xs.getD k 0) 2) rfl (by decide) (rfl)) (.cons (.t rfl) (.cons .c .nil)) rfl rfl ?_
          refine Rw.opg rfl (guard_yes rfl) (op_bin rfl rfl) (.cons (.t rfl) (.cons .c .nil)) rfl rfl ?_
          refine Rw.done ?_
          refine thenQ_normal ?_
          refine awp_weaken (weak (env := [(0, .d (.int .u64 (limit))), (1, .d (.sl 1 (xs.map u64c))), (5, .ptr 214 0), (6, .d (.int .u64 (top + 1))), (7, .d (.int .i64 ((k : Int)))), (83, .d (.bool ((Int.tmod (xs.getD k 0) 2) == 1)))]) (objs := [(214, .cells [.d (.int .u64 (nlim limit)), .d (.int .u64 (top + 1))])]) (live := []) (.cons (.e rfl) (.cons (.e rfl) (.cons (.e rfl) (.cons (.e rfl) (.cons (.e rfl) (.cons (.e rfl) .nil)))))) (.cons rfl .nil) rfl rfl) ?_
          refine awp_cond (b := (Int.tmod (xs.getD k 0) 2) == 1) (.t rfl) (fun h6 => ?_) (fun h6 => ?_)
          · skip
            refine awp_seq ?_
            refine awp_rw rfl ?_
            refine Rw.opg rfl (guard_yes rfl) (op_move rfl) (.cons (.t rfl) .nil) rfl rfl ?_
            refine Rw.opg rfl (guard_yes rfl) (op_move rfl) (.cons (.t rfl) .nil) rfl rfl ?_
            refine Rw.opg rfl (guard_yes rfl) (op_move rfl) (.cons (.t rfl) .nil) rfl rfl ?_
            refine Rw.opg rfl (guard_yes rfl) (o_indexAddr (cs := [.int .u64 (xs.getD k 0)]) rfl sl23 (by omega) (u64_get hk)) (.cons (.t rfl) (.cons (.t rfl) .nil)) rfl rfl ?_
            refine Rw.opg rfl (guard_yes rfl) (op_load_one rfl ty22) (.cons (.t rfl) .nil) rfl rfl ?_
            refine Rw.opg rfl (guard_yes rfl) (op_call_obj [(0, 214)] [] rfl ci9 (cRaise _ _ _) (objCall (.cons rfl .nil) rfl rfl rfl rfl rfl rfl rfl) rfl rfl rfl) (.cons (.t rfl) (.cons (.t rfl) .nil)) rfl rfl ?_
            refine Rw.done ?_
            refine thenQ_normal ?_
            refine awp_weaken (weak (env := [(0, .d (.int .u64 (limit))), (1, .d (.sl 1 (xs.map u64c))), (5, .ptr 214 0), (6, .d (.int .u64 (top + 1))), (7, .d (.int .i64 ((k : Int))))]) (objs := [(214, .cells [.d (.int .u64 (nlim limit)), .d (.int .u64 (craise (top + 1) (xs.getD k 0)))])]) (live := []) (.cons (.e rfl) (.cons (.e rfl) (.cons (.e rfl) (.cons (.e rfl) (.cons (.e rfl) .nil))))) (.cons rfl .nil) rfl rfl) ?_
            refine awp_rw rfl ?_
            refine Rw.opg rfl (guard_yes rfl) (op_move rfl) (.cons (.t rfl) .nil) rfl rfl ?_
            refine Rw.opg rfl (guard_yes rfl) (op_move rfl) (.cons (.t rfl) .nil) rfl rfl ?_
            refine Rw.opg rfl (guard_yes rfl) (op_move rfl) (.cons (.t rfl) .nil) rfl rfl ?_
            refine Rw.opg rfl (guard_yes rfl) (o_indexAddr (cs := [.int .u64 (xs.getD k 0)]) rfl sl23 (by omega) (u64_get hk)) (.cons (.t rfl) (.cons (.t rfl) .nil)) rfl rfl ?_
            refine Rw.opg rfl (guard_yes rfl) (op_load_one rfl ty22) (.cons (.t rfl) .nil) rfl rfl ?_
            refine Rw.opg rfl (guard_yes rfl) (op_min_c (c := nlim (xs.getD k 0)) rfl (rfl)) (.cons (.t rfl) (.cons .c .nil)) rfl rfl ?_
            refine Rw.opg rfl (guard_yes rfl) (op_max_c (c := craise (top + 1) (xs.getD k 0)) rfl (rfl)) (.cons (.t rfl) (.cons (.t rfl) .nil)) rfl rfl ?_
            refine Rw.opg rfl (guard_yes rfl) (op_assign rfl) (.cons (.t rfl) .nil) rfl rfl ?_
            refine Rw.done ?_
            refine thenQ_normal ?_
            refine awp_weaken (weak (env := [(0, .d (.int .u64 (limit))), (1, .d (.sl 1 (xs.map u64c))), (5, .ptr 214 0), (6, .d (.int .u64 (craise (top + 1) (xs.getD k 0)))), (7, .d (.int .i64 ((k : Int))))]) (objs := [(214, .cells [.d (.int .u64 (nlim limit)), .d (.int .u64 (craise (top + 1) (xs.getD k 0)))])]) (live := []) (.cons (.e rfl) (.cons (.e rfl) (.cons (.e rfl) (.cons (.e rfl) (.cons (.e rfl) .nil))))) (.cons rfl .nil) rfl rfl) ?_
            refine awp_seq ?_
            refine awp_rw rfl ?_
            refine Rw.opg rfl (guard_yes rfl) (op_move rfl) (.cons (.t rfl) .nil) rfl rfl ?_
            refine Rw.opg rfl (guard_yes rfl) (op_call_look [(0, 214)] rfl ci13 (cNow _ _) (objCall (.cons rfl .nil) rfl rfl rfl rfl rfl rfl rfl) rfl rfl rfl) (.cons (.t rfl) .nil) rfl rfl ?_
            refine Rw.opg rfl (guard_yes rfl) (op_move rfl) (.cons (.t rfl) .nil) rfl rfl ?_
            refine Rw.opg rfl (guard_yes rfl) (op_bin rfl rfl) (.cons (.t rfl) (.cons (.t rfl) .nil)) rfl rfl ?_
            refine Rw.done ?_
            refine thenQ_normal ?_
            refine awp_weaken (weak (env := [(0, .d (.int .u64 (limit))), (1, .d (.sl 1 (xs.map u64c))), (5, .ptr 214 0), (6, .d (.int .u64 (craise (top + 1) (xs.getD k 0)))), (7, .d (.int .i64 ((k : Int)))), (100, .d (.bool ((craise (top + 1) (xs.getD k 0)) != (craise (top + 1) (xs.getD k 0)))))]) (objs := [(214, .cells [.d (.int .u64 (nlim limit)), .d (.int .u64 (craise (top + 1) (xs.getD k 0)))])]) (live := []) (.cons (.e rfl) (.cons (.e rfl) (.cons (.e rfl) (.cons (.e rfl) (.cons (.e rfl) (.cons (.e rfl) .nil)))))) (.cons rfl .nil) rfl rfl) ?_
            refine awp_cond (b := (craise (top + 1) (xs.getD k 0)) != (craise (top + 1) (xs.getD k 0))) (.t rfl) (fun h7 => ?_) (fun h7 => ?_)
            · (simp at h7)
            · skip
              refine awp_skip ?_
              refine blockQ_normal ?_
              refine thenQ_normal ?_
              refine awp_weaken (weak (env := [(0, .d (.int .u64 (limit))), (1, .d (.sl 1 (xs.map u64c))), (5, .ptr 214 0), (6, .d (.int .u64 (craise (top + 1) (xs.getD k 0)))), (7, .d (.int .i64 ((k : Int))))]) (objs := [(214, .cells [.d (.int .u64 (nlim limit)), .d (.int .u64 (craise (top + 1) (xs.getD k 0)))])]) (live := []) (.cons (.e rfl) (.cons (.e rfl) (.cons (.e rfl) (.cons (.e rfl) (.cons (.e rfl) .nil))))) (.cons rfl .nil) rfl rfl) ?_
              refine awp_rw rfl ?_
              refine Rw.opg rfl (guard_yes rfl) (op_move rfl) (.cons (.t rfl) .nil) rfl rfl ?_
              refine Rw.opg rfl (guard_yes rfl) (op_bin_c (c := ((k + 1 : Nat) : Int)) rfl rfl (inc_i64 (by omega))) (.cons (.t rfl) (.cons .c .nil)) rfl rfl ?_
              refine Rw.opg rfl (guard_yes rfl) (op_assign rfl) (.cons (.t rfl) .nil) rfl rfl ?_
              refine Rw.done ?_
              refine thenQ_normal ?_
              refine ⟨_, ?_, k + 1, (craise (top + 1) (xs.getD k 0)), by omega, by (first | omega | (simp only [craise, cnext, nlim] <;> (repeat split) <;> omega)), by (first | omega | (simp only [craise, cnext, nlim] <;> (repeat split) <;> omega)), rfl, weak (.cons (.e rfl) (.cons (.e rfl) (.cons (.e rfl) (.cons (.as rfl (by rfl)) (.cons (.as rfl (by rfl)) .nil))))) (.as rfl (by rfl) .nil) rfl rfl⟩
              omega
          · skip
            refine awp_skip ?_
            refine thenQ_normal ?_
            refine awp_weaken (weak (env := [(0, .d (.int .u64 (limit))), (1, .d (.sl 1 (xs.map u64c))), (5, .ptr 214 0), (6, .d (.int .u64 (top + 1))), (7, .d (.int .i64 ((k : Int))))]) (objs := [(214, .cells [.d (.int .u64 (nlim limit)), .d (.int .u64 (top + 1))])]) (live := []) (.cons (.e rfl) (.cons (.e rfl) (.cons (.e rfl) (.cons (.e rfl) (.cons (.e rfl) .nil))))) (.cons rfl .nil) rfl rfl) ?_
            refine awp_seq ?_
            refine awp_rw rfl ?_
            refine Rw.opg rfl (guard_yes rfl) (op_move rfl) (.cons (.t rfl) .nil) rfl rfl ?_
            refine Rw.opg rfl (guard_yes rfl) (op_call_look [(0, 214)] rfl ci13 (cNow _ _) (objCall (.cons rfl .nil) rfl rfl rfl rfl rfl rfl rfl) rfl rfl rfl) (.cons (.t rfl) .nil) rfl rfl ?_
            refine Rw.opg rfl (guard_yes rfl) (op_move rfl) (.cons (.t rfl) .nil) rfl rfl ?_
            refine Rw.opg rfl (guard_yes rfl) (op_bin rfl rfl) (.cons (.t rfl) (.cons (.t rfl) .nil)) rfl rfl ?_
            refine Rw.done ?_
            refine thenQ_normal ?_
            refine awp_weaken (weak (env := [(0, .d (.int .u64 (limit))), (1, .d (.sl 1 (xs.map u64c))), (5, .ptr 214 0), (6, .d (.int .u64 (top + 1))), (7, .d (.int .i64 ((k : Int)))), (100, .d (.bool ((top + 1) != (top + 1))))]) (objs := [(214, .cells [.d (.int .u64 (nlim limit)), .d (.int .u64 (top + 1))])]) (live := []) (.cons (.e rfl) (.cons (.e rfl) (.cons (.e rfl) (.cons (.e rfl) (.cons (.e rfl) (.cons (.e rfl) .nil)))))) (.cons rfl .nil) rfl rfl) ?_
            refine awp_cond (b := (top + 1) != (top + 1)) (.t rfl) (fun h8 => ?_) (fun h8 => ?_)
            · (simp at h8)
            · skip
              refine awp_skip ?_
              refine blockQ_normal ?_
              refine thenQ_normal ?_
              refine awp_weaken (weak (env := [(0, .d (.int .u64 (limit))), (1, .d (.sl 1 (xs.map u64c))), (5, .ptr 214 0), (6, .d (.int .u64 (top + 1))), (7, .d (.int .i64 ((k : Int))))]) (objs := [(214, .cells [.d (.int .u64 (nlim limit)), .d (.int .u64 (top + 1))])]) (live := []) (.cons (.e rfl) (.cons (.e rfl) (.cons (.e rfl) (.cons (.e rfl) (.cons (.e rfl) .nil))))) (.cons rfl .nil) rfl rfl) ?_
              refine awp_rw rfl ?_
              refine Rw.opg rfl (guard_yes rfl) (op_move rfl) (.cons (.t rfl) .nil) rfl rfl ?_
              refine Rw.opg rfl (guard_yes rfl) (op_bin_c (c := ((k + 1 : Nat) : Int)) rfl rfl (inc_i64 (by omega))) (.cons (.t rfl) (.cons .c .nil)) rfl rfl ?_
              refine Rw.opg rfl (guard_yes rfl) (op_assign rfl) (.cons (.t rfl) .nil) rfl rfl ?_
              refine Rw.done ?_
              refine thenQ_normal ?_
              refine ⟨_, ?_, k + 1, (top + 1), by omega, by (first | omega | (simp only [craise, cnext, nlim] <;> (repeat split) <;> omega)), by (first | omega | (simp only [craise, cnext, nlim] <;> (repeat split) <;> omega)), rfl, weak (.cons (.e rfl) (.cons (.e rfl) (.cons (.e rfl) (.cons (.as rfl (by rfl)) (.cons (.as rfl (by rfl)) .nil))))) (.as rfl (by rfl) .nil) rfl rfl⟩
              omega
    · skip
      refine awp_exit ?_
      refine thenQ_exit ?_
      refine thenQ_exit ?_
      refine blockQ_hit ?_
      refine thenQ_normal ?_
      refine awp_weaken (weak (env := []) (objs := []) (live := []) .nil .nil rfl rfl) ?_
      refine awp_seq ?_
      refine awp_rw rfl ?_
      refine Rw.opg rfl (guard_yes rfl) (op_call rfl ci16 lworks rfl rfl rfl) .nil rfl rfl ?_
      refine Rw.opg rfl (guard_yes rfl) (op_assign rfl) (.cons (.t rfl) .nil) rfl rfl ?_
      refine Rw.done ?_
      refine thenQ_normal ?_
      refine awp_weaken (weak (env := [(4, .d (.bool (true)))]) (objs := []) (live := []) (.cons (.e rfl) .nil) .nil rfl rfl) ?_
      refine awp_ret ?_
      refine .ret _ [.d (.bool (true))] (.cons _ _ _ _ (.tmp _ _ (.e rfl)) .nil) ?_ (weak .nil .nil rfl rfl)
      (first | rfl | (simp_all [tupled, nlim, cleft, craise, cnext]; done) | decide)
  · skip
    refine awp_seq ?_
    refine awp_seq ?_
    refine awp_rw rfl ?_
    refine Rw.opg rfl (guard_yes rfl) (op_move rfl) (.cons (.t rfl) .nil) rfl rfl ?_
    refine Rw.opg rfl (guard_yes rfl) (op_move rfl) (.cons (.t rfl) .nil) rfl rfl ?_
    refine Rw.opg rfl (guard_yes rfl) (o_len_slice rfl rfl sl23) (.cons (.t rfl) .nil) rfl rfl ?_
    refine Rw.opg rfl (guard_yes rfl) (op_bin rfl rfl) (.cons (.t rfl) (.cons (.t rfl) .nil)) rfl rfl ?_
    refine Rw.done ?_
    refine thenQ_normal ?_
    refine awp_weaken (weak (env := [(0, .d (.int .u64 (limit))), (1, .d (.sl 1 (xs.map u64c))), (5, .ptr 214 0), (6, .d (.int .u64 (top))), (7, .d (.int .i64 ((k : Int)))), (18, .d (.bool (decide ((k : Int) < (List.length (xs.map u64c) : Int)))))]) (objs := [(214, .cells [.d (.int .u64 (nlim limit)), .d (.int .u64 (top))])]) (live := []) (.cons (.e rfl) (.cons (.e rfl) (.cons (.e rfl) (.cons (.e rfl) (.cons (.e rfl) (.cons (.e rfl) .nil)))))) (.cons rfl .nil) rfl rfl) ?_
    refine awp_cond (b := decide ((k : Int) < (List.length (xs.map u64c) : Int))) (.t rfl) (fun h9 => ?_) (fun h9 => ?_)
    · have hk : k < xs.length := by simpa using h9
      refine awp_skip ?_
      refine thenQ_normal ?_
      refine awp_weaken (weak (env := [(0, .d (.int .u64 (limit))), (1, .d (.sl 1 (xs.map u64c))), (5, .ptr 214 0), (6, .d (.int .u64 (top))), (7, .d (.int .i64 ((k : Int))))]) (objs := [(214, .cells [.d (.int .u64 (nlim limit)), .d (.int .u64 (top))])]) (live := []) (.cons (.e rfl) (.cons (.e rfl) (.cons (.e rfl) (.cons (.e rfl) (.cons (.e rfl) .nil))))) (.cons rfl .nil) rfl rfl) ?_
      refine awp_seq ?_
      refine awp_block ?_
      refine awp_seq ?_
      refine awp_rw rfl ?_
      refine Rw.opg rfl (guard_yes rfl) (op_move rfl) (.cons (.t rfl) .nil) rfl rfl ?_
      refine Rw.opg rfl (guard_yes rfl) (op_call_obj [(0, 214), (103, 222)] [222] rfl ci17 (cCopy _ _) (objCall (.cons rfl .nil) rfl rfl rfl rfl rfl rfl rfl) rfl rfl rfl) (.cons (.t rfl) .nil) rfl rfl ?_
      refine Rw.opg rfl (guard_yes rfl) (op_assign rfl) (.cons (.t rfl) .nil) rfl rfl ?_
      refine Rw.done ?_
      refine thenQ_normal ?_
      refine awp_weaken (weak (env := [(0, .d (.int .u64 (limit))), (1, .d (.sl 1 (xs.map u64c))), (5, .ptr 214 0), (6, .d (.int .u64 (top))), (7, .d (.int .i64 ((k : Int)))), (8, .ptr 222 0)]) (objs := [(214, .cells [.d (.int .u64 (nlim limit)), .d (.int .u64 (top))]), (222, .cells [.d (.int .u64 (nlim limit)), .d (.int .u64 (top))])]) (live := []) (.cons (.e rfl) (.cons (.e rfl) (.cons (.e rfl) (.cons (.e rfl) (.cons (.e rfl) (.cons (.e rfl) .nil)))))) (.cons rfl (.cons rfl .nil)) rfl rfl) ?_
      refine awp_seq ?_
      refine awp_rw rfl ?_
      refine Rw.opg rfl (guard_yes rfl) (op_move rfl) (.cons (.t rfl) .nil) rfl rfl ?_
      refine Rw.opg rfl (guard_yes rfl) (op_call_obj [(0, 214)] [] rfl ci11 (cNextN _ _ h1 hc hL) (objCall (.cons rfl .nil) rfl rfl rfl rfl rfl rfl rfl) rfl rfl rfl) (.cons (.t rfl) .nil) rfl rfl ?_
      refine Rw.opg rfl (guard_yes rfl) (op_move rfl) (.cons (.t rfl) .nil) rfl rfl ?_
      refine Rw.opg rfl (guard_yes rfl) (op_extract rfl rfl) (.cons (.t rfl) .nil) rfl rfl ?_
      refine Rw.opg rfl (guard_yes rfl) (op_extract rfl rfl) (.cons (.t rfl) .nil) rfl rfl ?_
      refine Rw.opg rfl (guard_yes rfl) (op_assign rfl) (.cons (.t rfl) .nil) rfl rfl ?_
      refine Rw.opg rfl (guard_yes rfl) (op_assign rfl) (.cons (.t rfl) .nil) rfl rfl ?_
      refine Rw.done ?_
      refine thenQ_normal ?_
      refine awp_weaken (weak (env := [(0, .d (.int .u64 (limit))), (1, .d (.sl 1 (xs.map u64c))), (5, .ptr 214 0), (6, .d (.int .u64 (top))), (7, .d (.int .i64 ((k : Int)))), (8, .ptr 222 0), (9, .d (.int .u64 (0))), (10, .d (.int .i64 (9)))]) (objs := [(214, .cells [.d (.int .u64 (nlim limit)), .d (.int .u64 (top))]), (222, .cells [.d (.int .u64 (nlim limit)), .d (.int .u64 (top))])]) (live := []) (.cons (.e rfl) (.cons (.e rfl) (.cons (.e rfl) (.cons (.e rfl) (.cons (.e rfl) (.cons (.e rfl) (.cons (.e rfl) (.cons (.e rfl) .nil)))))))) (.cons rfl (.cons rfl .nil)) rfl rfl) ?_
      refine awp_seq ?_
      refine awp_rw rfl ?_
      refine Rw.opg rfl (guard_yes rfl) (op_move rfl) (.cons (.t rfl) .nil) rfl rfl ?_
      refine Rw.opg rfl (guard_yes rfl) (op_call_obj [(0, 222)] [] rfl ci11 (cNextN _ _ h1 hc hL) (objCall (.cons rfl .nil) rfl rfl rfl rfl rfl rfl rfl) rfl rfl rfl) (.cons (.t rfl) .nil) rfl rfl ?_
      refine Rw.opg rfl (guard_yes rfl) (op_move rfl) (.cons (.t rfl) .nil) rfl rfl ?_
      refine Rw.opg rfl (guard_yes rfl) (op_extract rfl rfl) (.cons (.t rfl) .nil) rfl rfl ?_
      refine Rw.opg rfl (guard_yes rfl) (op_extract rfl rfl) (.cons (.t rfl) .nil) rfl rfl ?_
      refine Rw.opg rfl (guard_yes rfl) (op_assign rfl) (.cons (.t rfl) .nil) rfl rfl ?_
      refine Rw.opg rfl (guard_yes rfl) (op_assign rfl) (.cons (.t rfl) .nil) rfl rfl ?_
      refine Rw.done ?_
      refine thenQ_normal ?_
      refine awp_weaken (weak (env := [(0, .d (.int .u64 (limit))), (1, .d (.sl 1 (xs.map u64c))), (5, .ptr 214 0), (6, .d (.int .u64 (top))), (7, .d (.int .i64 ((k : Int)))), (8, .ptr 222 0), (9, .d (.int .u64 (0))), (10, .d (.int .i64 (9))), (11, .d (.int .u64 (0))), (12, .d (.int .i64 (9)))]) (objs := [(214, .cells [.d (.int .u64 (nlim limit)), .d (.int .u64 (top))]), (222, .cells [.d (.int .u64 (nlim limit)), .d (.int .u64 (top))])]) (live := []) (.cons (.e rfl) (.cons (.e rfl) (.cons (.e rfl) (.cons (.e rfl) (.cons (.e rfl) (.cons (.e rfl) (.cons (.e rfl) (.cons (.e rfl) (.cons (.e rfl) (.cons (.e rfl) .nil)))))))))) (.cons rfl (.cons rfl .nil)) rfl rfl) ?_
      refine awp_seq ?_
      refine awp_seq ?_
      refine awp_rw rfl ?_
      refine Rw.opg rfl (guard_yes rfl) (op_move rfl) (.cons (.t rfl) .nil) rfl rfl ?_
      refine Rw.opg rfl (guard_yes rfl) (op_move rfl) (.cons (.t rfl) .nil) rfl rfl ?_
      refine Rw.opg rfl (guard_yes rfl) (op_bin rfl rfl) (.cons (.t rfl) (.cons (.t rfl) .nil)) rfl rfl ?_
      refine Rw.opg rfl (guard_yes rfl) (op_move rfl) (.cons (.t rfl) .nil) rfl rfl ?_
      refine Rw.opg rfl (guard_run rfl rfl rfl rfl) (op_move rfl) (.cons (.t rfl) .nil) rfl rfl ?_
      refine Rw.opg rfl (guard_run rfl rfl rfl rfl) (op_move rfl) (.cons (.t rfl) .nil) rfl rfl ?_
      refine Rw.opg rfl (guard_run rfl rfl rfl rfl) (op_bin rfl rfl) (.cons (.t rfl) (.cons (.t rfl) .nil)) rfl rfl ?_
      refine Rw.opg rfl (guard_yes rfl) (op_pick_false rfl) (.cons (.t rfl) (.cons (.t rfl) .nil)) rfl rfl ?_
      refine Rw.opg rfl (guard_yes rfl) (op_move rfl) (.cons (.t rfl) .nil) rfl rfl ?_
      refine Rw.opg rfl (guard_run rfl rfl rfl rfl) (op_move rfl) (.cons (.t rfl) .nil) rfl rfl ?_
      refine Rw.opg rfl (guard_run rfl rfl rfl rfl) (op_bin rfl rfl) (.cons (.t rfl) (.cons .c .nil)) rfl rfl ?_
      refine Rw.opg rfl (guard_run rfl rfl rfl rfl) (op_move rfl) (.cons (.t rfl) .nil) rfl rfl ?_
      refine Rw.skip rfl (guard_not rfl rfl rfl rfl rfl) rfl ?_
      refine Rw.skip rfl (guard_not rfl rfl rfl rfl rfl) rfl ?_
      refine Rw.skip rfl (guard_not rfl rfl rfl rfl rfl) rfl ?_
      refine Rw.skip rfl (guard_not rfl rfl rfl rfl rfl) rfl ?_
      refine Rw.opg rfl (guard_run rfl rfl rfl rfl) (op_pick_false rfl) (.cons (.t rfl) (.cons .c .nil)) rfl rfl ?_
      refine Rw.opg rfl (guard_yes rfl) (op_pick_false rfl) (.cons (.t rfl) (.cons (.t rfl) .nil)) rfl rfl ?_
      refine Rw.opg rfl (guard_yes rfl) (op_move rfl) (.cons (.t rfl) .nil) rfl rfl ?_
      refine Rw.opg rfl (guard_run rfl rfl rfl rfl) (op_move rfl) (.cons (.t rfl) .nil) rfl rfl ?_
      refine Rw.opg rfl (guard_run rfl rfl rfl rfl) (op_bin rfl rfl) (.cons (.t rfl) (.cons .c .nil)) rfl rfl ?_
      refine Rw.opg rfl (guard_run rfl rfl rfl rfl) (op_move rfl) (.cons (.t rfl) .nil) rfl rfl ?_
      refine Rw.opg rfl (guard_run rfl rfl rfl rfl) (op_move rfl) (.cons (.t rfl) .nil) rfl rfl ?_
      refine Rw.opg rfl (guard_run rfl rfl rfl rfl) (op_bin rfl rfl) (.cons (.t rfl) (.cons .c .nil)) rfl rfl ?_
      refine Rw.opg rfl (guard_run rfl rfl rfl rfl) (op_move rfl) (.cons (.t rfl) .nil) rfl rfl ?_
      refine Rw.opg rfl (guard_run rfl rfl rfl rfl) (op_move rfl) (.cons (.t rfl) .nil) rfl rfl ?_
      refine Rw.opg rfl (guard_run rfl rfl rfl rfl) (op_bin rfl rfl) (.cons (.t rfl) (.cons .c .nil)) rfl rfl ?_
      refine Rw.opg rfl (guard_run rfl rfl rfl rfl) (op_pick_false rfl) (.cons (.t rfl) (.cons (.t rfl) .nil)) rfl rfl ?_
      refine Rw.opg rfl (guard_run rfl rfl rfl rfl) (op_move rfl) (.cons (.t rfl) .nil) rfl rfl ?_
      refine Rw.opg rfl (guard_run rfl rfl rfl rfl) (op_move rfl) (.cons (.t rfl) .nil) rfl rfl ?_
      refine Rw.opg rfl (guard_run rfl rfl rfl rfl) (op_move rfl) (.cons (.t rfl) .nil) rfl rfl ?_
      refine Rw.opg rfl (guard_run rfl rfl rfl rfl) (op_min rfl) (.cons (.t rfl) (.cons .c .nil)) rfl rfl ?_
      refine Rw.opg rfl (guard_run rfl rfl rfl rfl) (op_bin rfl rfl) (.cons (.t rfl) (.cons (.t rfl) .nil)) rfl rfl ?_
      refine Rw.opg rfl (guard_run rfl rfl rfl rfl) (op_pick_false rfl) (.cons (.t rfl) (.cons (.t rfl) .nil)) rfl rfl ?_
      refine Rw.opg rfl (guard_run rfl rfl rfl rfl) (op_pick_true rfl) (.cons (.t rfl) (.cons (.t rfl) .nil)) rfl rfl ?_
      refine Rw.opg rfl (guard_yes rfl) (op_pick_false rfl) (.cons (.t rfl) (.cons (.t rfl) .nil)) rfl rfl ?_
      refine Rw.done ?_
      refine thenQ_normal ?_
      refine awp_weaken (weak (env := [(0, .d (.int .u64 (limit))), (1, .d (.sl 1 (xs.map u64c))), (5, .ptr 214 0), (6, .d (.int .u64 (top))), (7, .d (.int .i64 ((k : Int)))), (8, .ptr 222 0), (9, .d (.int .u64 (0))), (68, .d (.bool (decide (top < (if 281474976710655 < limit then 281474976710655 else limit)))))]) (objs := [(214, .cells [.d (.int .u64 (nlim limit)), .d (.int .u64 (top))]), (222, .cells [.d (.int .u64 (nlim limit)), .d (.int .u64 (top))])]) (live := []) (.cons (.e rfl) (.cons (.e rfl) (.cons (.e rfl) (.cons (.e rfl) (.cons (.e rfl) (.cons (.e rfl) (.cons (.e rfl) (.cons (.e rfl) .nil)))))))) (.cons rfl (.cons rfl .nil)) rfl rfl) ?_
      refine awp_cond (b := decide (top < (if 281474976710655 < limit then 281474976710655 else limit))) (.t rfl) (fun h10 => ?_) (fun h10 => ?_)
      · (exact absurd (by simpa [nlim] using h10) hc)
      · skip
        refine awp_skip ?_
        refine thenQ_normal ?_
        refine awp_weaken (weak (env := [(0, .d (.int .u64 (limit))), (1, .d (.sl 1 (xs.map u64c))), (5, .ptr 214 0), (6, .d (.int .u64 (top))), (7, .d (.int .i64 ((k : Int)))), (8, .ptr 222 0), (9, .d (.int .u64 (0)))]) (objs := [(214, .cells [.d (.int .u64 (nlim limit)), .d (.int .u64 (top))]), (222, .cells [.d (.int .u64 (nlim limit)), .d (.int .u64 (top))])]) (live := []) (.cons (.e rfl) (.cons (.e rfl) (.cons (.e rfl) (.cons (.e rfl) (.cons (.e rfl) (.cons (.e rfl) (.cons (.e rfl) .nil))))))) (.cons rfl (.cons rfl .nil)) rfl rfl) ?_
        refine awp_seq ?_
        refine awp_rw rfl ?_
        refine Rw.opg rfl (guard_yes rfl) (op_move rfl) (.cons (.t rfl) .nil) rfl rfl ?_
        refine Rw.opg rfl (guard_yes rfl) (op_move rfl) (.cons (.t rfl) .nil) rfl rfl ?_
        refine Rw.opg rfl (guard_yes rfl) (op_max_c (c := top) rfl (if_neg (by omega))) (.cons (.t rfl) (.cons (.t rfl) .nil)) rfl rfl ?_
        refine Rw.opg rfl (guard_yes rfl) (op_assign rfl) (.cons (.t rfl) .nil) rfl rfl ?_
        refine Rw.done ?_
        refine thenQ_normal ?_
        refine awp_weaken (weak (env := [(0, .d (.int .u64 (limit))), (1, .d (.sl 1 (xs.map u64c))), (5, .ptr 214 0), (6, .d (.int .u64 (top))), (7, .d (.int .i64 ((k : Int)))), (8, .ptr 222 0)]) (objs := [(214, .cells [.d (.int .u64 (nlim limit)), .d (.int .u64 (top))]), (222, .cells [.d (.int .u64 (nlim limit)), .d (.int .u64 (top))])]) (live := []) (.cons (.e rfl) (.cons (.e rfl) (.cons (.e rfl) (.cons (.e rfl) (.cons (.e rfl) (.cons (.e rfl) .nil)))))) (.cons rfl (.cons rfl .nil)) rfl rfl) ?_
        refine awp_seq ?_
        refine awp_rw rfl ?_
        refine Rw.opg rfl (guard_yes rfl) (op_move rfl) (.cons (.t rfl) .nil) rfl rfl ?_
        refine Rw.opg rfl (guard_yes rfl) (op_move rfl) (.cons (.t rfl) .nil) rfl rfl ?_
        refine Rw.opg rfl (guard_yes rfl) (op_move rfl) (.cons (.t rfl) .nil) rfl rfl ?_
        refine Rw.opg rfl (guard_yes rfl) (o_indexAddr (cs := [.int .u64 (xs.getD k 0)]) rfl sl23 (by omega) (u64_get hk)) (.cons (.t rfl) (.cons (.t rfl) .nil)) rfl rfl ?_
        refine Rw.opg rfl (guard_yes rfl) (op_load_one rfl ty22) (.cons (.t rfl) .nil) rfl rfl ?_
        refine Rw.opg rfl (guard_yes rfl) (op_call_obj [(0, 222)] [] rfl ci9 (cRaise _ _ _) (objCall (.cons rfl .nil) rfl rfl rfl rfl rfl rfl rfl) rfl rfl rfl) (.cons (.t rfl) (.cons (.t rfl) .nil)) rfl rfl ?_
        refine Rw.done ?_
        refine thenQ_normal ?_
        refine awp_weaken (weak (env := [(0, .d (.int .u64 (limit))), (1, .d (.sl 1 (xs.map u64c))), (5, .ptr 214 0), (6, .d (.int .u64 (top))), (7, .d (.int .i64 ((k : Int))))]) (objs := [(214, .cells [.d (.int .u64 (nlim limit)), .d (.int .u64 (top))])]) (live := []) (.cons (.e rfl) (.cons (.e rfl) (.cons (.e rfl) (.cons (.e rfl) (.cons (.e rfl) .nil))))) (.cons rfl .nil) rfl rfl) ?_
        refine awp_seq ?_
        refine awp_seq ?_
        refine awp_rw rfl ?_
        refine Rw.opg rfl (guard_yes rfl) (op_move rfl) (.cons (.t rfl) .nil) rfl rfl ?_
        refine Rw.opg rfl (guard_yes rfl) (op_move rfl) (.cons (.t rfl) .nil) rfl rfl ?_
        refine Rw.opg rfl (guard_yes rfl) (o_indexAddr (cs := [.int .u64 (xs.getD k 0)]) rfl sl23 (by omega) (u64_get hk)) (.cons (.t rfl) (.cons (.t rfl) .nil)) rfl rfl ?_
        refine Rw.opg rfl (guard_yes rfl) (op_load_one rfl ty22) (.cons (.t rfl) .nil) rfl rfl ?_
        refine Rw.opg rfl (guard_yes rfl) (op_rem (c := Int.tmod (xs.getD k 0) 2) rfl (by decide) (rfl)) (.cons (.t rfl) (.cons .c .nil)) rfl rfl ?_
        refine Rw.opg rfl (guard_yes rfl) (op_bin rfl rfl) (.cons (.t rfl) (.cons .c .nil)) rfl rfl ?_
        refine Rw.done ?_
        refine thenQ_normal ?_
        refine awp_weaken (weak (env := [(0, .d (.int .u64 (limit))), (1, .d (.sl 1 (xs.map u64c))), (5, .ptr 214 0), (6, .d (.int .u64 (top))), (7, .d (.int .i64 ((k : Int)))), (83, .d (.bool ((Int.tmod (xs.getD k 0) 2) == 1)))]) (objs := [(214, .cells [.d (.int .u64 (nlim limit)), .d (.int .u64 (top))])]) (live := []) (.cons (.e rfl) (.cons (.e rfl) (.cons (.e rfl) (.cons (.e rfl) (.cons (.e rfl) (.cons (.e rfl) .nil)))))) (.cons rfl .nil) rfl rfl) ?_
        refine awp_cond (b := (Int.tmod (xs.getD k 0) 2) == 1) (.t rfl) (fun h11 => ?_) (fun h11 => ?_)
        · skip
          refine awp_seq ?_
          refine awp_rw rfl ?_
          refine Rw.opg rfl (guard_yes rfl) (op_move rfl) (.cons (.t rfl) .nil) rfl rfl ?_
          refine Rw.opg rfl (guard_yes rfl) (op_move rfl) (.cons (.t rfl) .nil) rfl rfl ?_
          refine Rw.opg rfl (guard_yes rfl) (op_move rfl) (.cons (.t rfl) .nil) rfl rfl ?_
          refine Rw.opg rfl (guard_yes rfl) (o_indexAddr (cs := [.int .u64 (xs.getD k 0)]) rfl sl23 (by omega) (u64_get hk)) (.cons (.t rfl) (.cons (.t rfl) .nil)) rfl rfl ?_
          refine Rw.opg rfl (guard_yes rfl) (op_load_one rfl ty22) (.cons (.t rfl) .nil) rfl rfl ?_
          refine Rw.opg rfl (guard_yes rfl) (op_call_obj [(0, 214)] [] rfl ci9 (cRaise _ _ _) (objCall (.cons rfl .nil) rfl rfl rfl rfl rfl rfl rfl) rfl rfl rfl) (.cons (.t rfl) (.cons (.t rfl) .nil)) rfl rfl ?_
          refine Rw.done ?_
          refine thenQ_normal ?_
          refine awp_weaken (weak (env := [(0, .d (.int .u64 (limit))), (1, .d (.sl 1 (xs.map u64c))), (5, .ptr 214 0), (6, .d (.int .u64 (top))), (7, .d (.int .i64 ((k : Int))))]) (objs := [(214, .cells [.d (.int .u64 (nlim limit)), .d (.int .u64 (craise top (xs.getD k 0)))])]) (live := []) (.cons (.e rfl) (.cons (.e rfl) (.cons (.e rfl) (.cons (.e rfl) (.cons (.e rfl) .nil))))) (.cons rfl .nil) rfl rfl) ?_
          refine awp_rw rfl ?_
          refine Rw.opg rfl (guard_yes rfl) (op_move rfl) (.cons (.t rfl) .nil) rfl rfl ?_
          refine Rw.opg rfl (guard_yes rfl) (op_move rfl) (.cons (.t rfl) .nil) rfl rfl ?_
          refine Rw.opg rfl (guard_yes rfl) (op_move rfl) (.cons (.t rfl) .nil) rfl rfl ?_
          refine Rw.opg rfl (guard_yes rfl) (o_indexAddr (cs := [.int .u64 (xs.getD k 0)]) rfl sl23 (by omega) (u64_get hk)) (.cons (.t rfl) (.cons (.t rfl) .nil)) rfl rfl ?_
          refine Rw.opg rfl (guard_yes rfl) (op_load_one rfl ty22) (.cons (.t rfl) .nil) rfl rfl ?_
          refine Rw.opg rfl (guard_yes rfl) (op_min_c (c := nlim (xs.getD k 0)) rfl (rfl)) (.cons (.t rfl) (.cons .c .nil)) rfl rfl ?_
          refine Rw.opg rfl (guard_yes rfl) (op_max_c (c := craise top (xs.getD k 0)) rfl (rfl)) (.cons (.t rfl) (.cons (.t rfl) .nil)) rfl rfl ?_
          refine Rw.opg rfl (guard_yes rfl) (op_assign rfl) (.cons (.t rfl) .nil) rfl rfl ?_
          refine Rw.done ?_
          refine thenQ_normal ?_
          refine awp_weaken (weak (env := [(0, .d (.int .u64 (limit))), (1, .d (.sl 1 (xs.map u64c))), (5, .ptr 214 0), (6, .d (.int .u64 (craise top (xs.getD k 0)))), (7, .d (.int .i64 ((k : Int))))]) (objs := [(214, .cells [.d (.int .u64 (nlim limit)), .d (.int .u64 (craise top (xs.getD k 0)))])]) (live := []) (.cons (.e rfl) (.cons (.e rfl) (.cons (.e rfl) (.cons (.e rfl) (.cons (.e rfl) .nil))))) (.cons rfl .nil) rfl rfl) ?_
          refine awp_seq ?_
          refine awp_rw rfl ?_
          refine Rw.opg rfl (guard_yes rfl) (op_move rfl) (.cons (.t rfl) .nil) rfl rfl ?_
          refine Rw.opg rfl (guard_yes rfl) (op_call_look [(0, 214)] rfl ci13 (cNow _ _) (objCall (.cons rfl .nil) rfl rfl rfl rfl rfl rfl rfl) rfl rfl rfl) (.cons (.t rfl) .nil) rfl rfl ?_
          refine Rw.opg rfl (guard_yes rfl) (op_move rfl) (.cons (.t rfl) .nil) rfl rfl ?_
          refine Rw.opg rfl (guard_yes rfl) (op_bin rfl rfl) (.cons (.t rfl) (.cons (.t rfl) .nil)) rfl rfl ?_
          refine Rw.done ?_
          refine thenQ_normal ?_
          refine awp_weaken (weak (env := [(0, .d (.int .u64 (limit))), (1, .d (.sl 1 (xs.map u64c))), (5, .ptr 214 0), (6, .d (.int .u64 (craise top (xs.getD k 0)))), (7, .d (.int .i64 ((k : Int)))), (100, .d (.bool ((craise top (xs.getD k 0)) != (craise top (xs.getD k 0)))))]) (objs := [(214, .cells [.d (.int .u64 (nlim limit)), .d (.int .u64 (craise top (xs.getD k 0)))])]) (live := []) (.cons (.e rfl) (.cons (.e rfl) (.cons (.e rfl) (.cons (.e rfl) (.cons (.e rfl) (.cons (.e rfl) .nil)))))) (.cons rfl .nil) rfl rfl) ?_
          refine awp_cond (b := (craise top (xs.getD k 0)) != (craise top (xs.getD k 0))) (.t rfl) (fun h12 => ?_) (fun h12 => ?_)
          · (simp at h12)
          · skip
            refine awp_skip ?_
            refine blockQ_normal ?_
            refine thenQ_normal ?_
            refine awp_weaken (weak (env := [(0, .d (.int .u64 (limit))), (1, .d (.sl 1 (xs.map u64c))), (5, .ptr 214 0), (6, .d (.int .u64 (craise top (xs.getD k 0)))), (7, .d (.int .i64 ((k : Int))))]) (objs := [(214, .cells [.d (.int .u64 (nlim limit)), .d (.int .u64 (craise top (xs.getD k 0)))])]) (live := []) (.cons (.e rfl) (.cons (.e rfl) (.cons (.e rfl) (.cons (.e rfl) (.cons (.e rfl) .nil))))) (.cons rfl .nil) rfl rfl) ?_
            refine awp_rw rfl ?_
            refine Rw.opg rfl (guard_yes rfl) (op_move rfl) (.cons (.t rfl) .nil) rfl rfl ?_
            refine Rw.opg rfl (guard_yes rfl) (op_bin_c (c := ((k + 1 : Nat) : Int)) rfl rfl (inc_i64 (by omega))) (.cons (.t rfl) (.cons .c .nil)) rfl rfl ?_
            refine Rw.opg rfl (guard_yes rfl) (op_assign rfl) (.cons (.t rfl) .nil) rfl rfl ?_
            refine Rw.done ?_
            refine thenQ_normal ?_
            refine ⟨_, ?_, k + 1, (craise top (xs.getD k 0)), by omega, by (first | omega | (simp only [craise, cnext, nlim] <;> (repeat split) <;> omega)), by (first | omega | (simp only [craise, cnext, nlim] <;> (repeat split) <;> omega)), rfl, weak (.cons (.e rfl) (.cons (.e rfl) (.cons (.e rfl) (.cons (.as rfl (by rfl)) (.cons (.as rfl (by rfl)) .nil))))) (.as rfl (by rfl) .nil) rfl rfl⟩
            omega
        · skip
          refine awp_skip ?_
          refine thenQ_normal ?_
          refine awp_weaken (weak (env := [(0, .d (.int .u64 (limit))), (1, .d (.sl 1 (xs.map u64c))), (5, .ptr 214 0), (6, .d (.int .u64 (top))), (7, .d (.int .i64 ((k : Int))))]) (objs := [(214, .cells [.d (.int .u64 (nlim limit)), .d (.int .u64 (top))])]) (live := []) (.cons (.e rfl) (.cons (.e rfl) (.cons (.e rfl) (.cons (.e rfl) (.cons (.e rfl) .nil))))) (.cons rfl .nil) rfl rfl) ?_
          refine awp_seq ?_
          refine awp_rw rfl ?_
          refine Rw.opg rfl (guard_yes rfl) (op_move rfl) (.cons (.t rfl) .nil) rfl rfl ?_
          refine Rw.opg rfl (guard_yes rfl) (op_call_look [(0, 214)] rfl ci13 (cNow _ _) (objCall (.cons rfl .nil) rfl rfl rfl rfl rfl rfl rfl) rfl rfl rfl) (.cons (.t rfl) .nil) rfl rfl ?_
          refine Rw.opg rfl (guard_yes rfl) (op_move rfl) (.cons (.t rfl) .nil) rfl rfl ?_
          refine Rw.opg rfl (guard_yes rfl) (op_bin rfl rfl) (.cons (.t rfl) (.cons (.t rfl) .nil)) rfl rfl ?_
          refine Rw.done ?_
          refine thenQ_normal ?_
          refine awp_weaken (weak (env := [(0, .d (.int .u64 (limit))), (1, .d (.sl 1 (xs.map u64c))), (5, .ptr 214 0), (6, .d (.int .u64 (top))), (7, .d (.int .i64 ((k : Int)))), (100, .d (.bool (top != top)))]) (objs := [(214, .cells [.d (.int .u64 (nlim limit)), .d (.int .u64 (top))])]) (live := []) (.cons (.e rfl) (.cons (.e rfl) (.cons (.e rfl) (.cons (.e rfl) (.cons (.e rfl) (.cons (.e rfl) .nil)))))) (.cons rfl .nil) rfl rfl) ?_
          refine awp_cond (b := top != top) (.t rfl) (fun h13 => ?_) (fun h13 => ?_)
          · (simp at h13)
          · skip
            refine awp_skip ?_
            refine blockQ_normal ?_
            refine thenQ_normal ?_
            refine awp_weaken (weak (env := [(0, .d (.int .u64 (limit))), (1, .d (.sl 1 (xs.map u64c))), (5, .ptr 214 0), (6, .d (.int .u64 (top))), (7, .d (.int .i64 ((k : Int))))]) (objs := [(214, .cells [.d (.int .u64 (nlim limit)), .d (.int .u64 (top))])]) (live := []) (.cons (.e rfl) (.cons (.e rfl) (.cons (.e rfl) (.cons (.e rfl) (.cons (.e rfl) .nil))))) (.cons rfl .nil) rfl rfl) ?_
            refine awp_rw rfl ?_
            refine Rw.opg rfl (guard_yes rfl) (op_move rfl) (.cons (.t rfl) .nil) rfl rfl ?_
            refine Rw.opg rfl (guard_yes rfl) (op_bin_c (c := ((k + 1 : Nat) : Int)) rfl rfl (inc_i64 (by omega))) (.cons (.t rfl) (.cons .c .nil)) rfl rfl ?_
            refine Rw.opg rfl (guard_yes rfl) (op_assign rfl) (.cons (.t rfl) .nil) rfl rfl ?_
            refine Rw.done ?_
            refine thenQ_normal ?_
            refine ⟨_, ?_, k + 1, (top), by omega, by (first | omega | (simp only [craise, cnext, nlim] <;> (repeat split) <;> omega)), by (first | omega | (simp only [craise, cnext, nlim] <;> (repeat split) <;> omega)), rfl, weak (.cons (.e rfl) (.cons (.e rfl) (.cons (.e rfl) (.cons (.as rfl (by rfl)) (.cons (.as rfl (by rfl)) .nil))))) (.as rfl (by rfl) .nil) rfl rfl⟩
            omega
    · skip
      refine awp_exit ?_
      refine thenQ_exit ?_
      refine thenQ_exit ?_
      refine blockQ_hit ?_
      refine thenQ_normal ?_
      refine awp_weaken (weak (env := []) (objs := []) (live := []) .nil .nil rfl rfl) ?_
      refine awp_seq ?_
      refine awp_rw rfl ?_
      refine Rw.opg rfl (guard_yes rfl) (op_call rfl ci16 lworks rfl rfl rfl) .nil rfl rfl ?_
      refine Rw.opg rfl (guard_yes rfl) (op_assign rfl) (.cons (.t rfl) .nil) rfl rfl ?_
      refine Rw.done ?_
      refine thenQ_normal ?_
      refine awp_weaken (weak (env := [(4, .d (.bool (true)))]) (objs := []) (live := []) (.cons (.e rfl) .nil) .nil rfl rfl) ?_
      refine awp_ret ?_
      refine .ret _ [.d (.bool (true))] (.cons _ _ _ _ (.tmp _ _ (.e rfl)) .nil) ?_ (weak .nil .nil rfl rfl)
      (first | rfl | (simp_all [tupled, nlim, cleft, craise, cnext]; done) | decide)
end Go.Proofs.Ytdpimcakpfepjaa
