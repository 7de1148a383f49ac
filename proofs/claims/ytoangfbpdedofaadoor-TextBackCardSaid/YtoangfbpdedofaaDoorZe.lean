import Derived.Test.YtoangfbpdedofaaDoorZd
import Derived.Laws.StandIn
import Derived.Lib.Bytealg
import Derived.Test.YtoangfbpdedofaaDoorProg
import Derived.KernelRfl
import Derived.Shelf.SlSortCmp.NoneTotal
import Derived.Shelf.SlGeneric
import Derived.Ground.SlsfProg
import Derived.IntWalk
import Derived.Lib.IndexEntry
import Derived.Laws.Bits64b
set_option linter.unusedVariables false
set_option linter.unusedSimpArgs false
namespace Go.Xl
open Go.Ab
def isNoEsc (P : Program) (f : FuncId) : Prop := ∃ fn, P.funcs[f]? = some fn ∧ (fn.name == "runtime.NumGoroutine") = false ∧ fn.body = none ∧ Extern.findNext fn = none ∧ Extern.find fn = some Extern.AbiNoEscape.same
def noEscRun {R : Type} (o : Oper) (st : XSt) (vs : List XV) (K : Out → Option R) : Option R :=
  match o.op with
  | .call c => match c.args.toList, vs with
    | [x], [v] => K (quietO st v [(x, v)])
    | _, _ => none
  | _ => none
def mkNoEsc {P : Program} (f : FuncId) (h : isNoEsc P f) : Ent P where
  id := f
  run := noEscRun
  ok := by
    intro R o st args ts vs K r ho hv hr
    unfold noEscRun at hr
    rw [ho] at hr
    simp only at hr
    split at hr
    · rename_i x v hx
      have ha : args = #[x] := Array.toList_inj.1 hx
      subst ha
      refine ⟨_, hr, quietO_ok ?_ fun X => op_noEscape' ho h⟩
      simp only [xevals] at hv
      split at hv
      · rename_i y ys hy hys
        simp only [Option.some.injEq, List.cons.injEq] at hv
        obtain ⟨rfl, _⟩ := hv
        exact sees1v hy
      · cases hv
    · cases hr
def isExt (P : Program) (f : FuncId) (e : Array Value → Sem Value) : Prop := ∃ fn, P.funcs[f]? = some fn ∧ (fn.name == "runtime.NumGoroutine") = false ∧ fn.body = none ∧ Extern.findNext fn = none ∧ Extern.find fn = some e
def extRun (G : List XV → Option XV) {R : Type} (o : Oper) (st : XSt) (vs : List XV) (K : Out → Option R) : Option R :=
  match o.op with
  | .call c => match G vs with
    | some res => K (quietO st res (c.args.toList.zip vs))
    | none => none
  | _ => none
def ExtOk (P : Program) (e : Array Value → Sem Value) (G : List XV → Option XV) : Prop :=
  ∀ vs res, G vs = some res → ∀ (g : Gh) (w : World) (us : Array Value), vs.length = us.size → (∀ (i : Nat) x v, (asOf vs)[i]? = some x → us[i]? = some v → RA g w x v) → ∃ v, (e us).run P w = .ok v w ∧ RA g w res.a v
def mkExt {P : Program} (f : FuncId) (e : Array Value → Sem Value) (G : List XV → Option XV) (h : isExt P f e) (hG : ExtOk P e G) : Ent P where
  id := f
  run := extRun G
  ok := by
    intro R o st args ts vs K r ho hv hr
    unfold extRun at hr
    rw [ho] at hr
    simp only at hr
    split at hr
    · rename_i res hres
      refine ⟨_, hr, quietO_ok (xevals_sees hv) fun X => .quiet fun _ _ g w a _ hrd => ?_⟩
      obtain ⟨fn, h1, h2, h3, h4, h5⟩ := h
      have hl : vs.length = args.size := by rw [xevals_len hv]; simp
      obtain ⟨v, hv1, hv2⟩ := hG vs res hres g w (args.map a.eval) (by simp [hl]) (by
        rw [imRd_zip] at hrd
        exact fun i x u hx hu => rds_args hrd i x u hx hu)
      refine ⟨v, ?_, hv2⟩
      simp only [execOp, ho, resolve]
      simp [Deferred.ofValue, Act.eval, invoke, run_callFunc_standIn h1 h2 (by rw [h3]; rfl) h4 h5, hv1, Result.andThen]
    · cases hr
def idxByteG : List XV → Option XV
  | [.d (.s l), .d (.u8 c)] => some (.d (.i .i64 (Lib.indexByte l c)))
  | _ => none
theorem idxByte_ok (P : Program) : ExtOk P Extern.BytealgIndexByte.indexByte idxByteG := by
  intro vs res hG g w us hl hus
  unfold idxByteG at hG
  split at hG
  · rename_i l c
    cases hG
    have hs : us = #[us[0]'(by simp at hl; omega), us[1]'(by simp at hl; omega)] := by
      apply Array.ext
      · simpa using hl.symm
      · intro i h1 h2
        simp at h2
        match i, h2 with
        | 0, _ => rfl
        | 1, _ => rfl
    have h0 := (hus 0 _ _ rfl (Array.getElem?_eq_getElem (by simp at hl; omega))).sc_inv
    have h1 := (hus 1 _ _ rfl (Array.getElem?_eq_getElem (by simp at hl; omega))).sc_inv
    rw [h0, h1] at hs
    rw [hs]
    refine ⟨_, run_indexByte_string _ _ w, ?_⟩
    have e1 : ((c.toNat : Nat) : Int).toNat.toUInt8 = c := by simp
    rw [e1, Lib.firstIdx_eq]
    exact .ofSc _ _ _
  · cases hG
def mkIdxByte {P : Program} (f : FuncId) (h : isExt P f Extern.BytealgIndexByte.indexByte) : Ent P := mkExt f _ idxByteG h (idxByte_ok P)
def cntByteG : List XV → Option XV
  | [.d (.s l), .d (.u8 c)] => some (.d (.i .i64 ((l.count c : Nat) : Int)))
  | _ => none
theorem cntByte_ok (P : Program) : ExtOk P Extern.BytealgCount.count cntByteG := by
  intro vs res hG g w us hl hus
  unfold cntByteG at hG
  split at hG
  · rename_i l c
    cases hG
    have hs : us = #[us[0]'(by simp at hl; omega), us[1]'(by simp at hl; omega)] := by
      apply Array.ext
      · simpa using hl.symm
      · intro i h1 h2
        simp at h2
        match i, h2 with
        | 0, _ => rfl
        | 1, _ => rfl
    have h0 := (hus 0 _ _ rfl (Array.getElem?_eq_getElem (by simp at hl; omega))).sc_inv
    have h1 := (hus 1 _ _ rfl (Array.getElem?_eq_getElem (by simp at hl; omega))).sc_inv
    rw [h0, h1] at hs
    rw [hs]
    refine ⟨_, Lib.run_countString _ _ w, ?_⟩
    have e1 : ((c.toNat : Nat) : Int).toNat.toUInt8 = c := by simp
    rw [e1]
    exact .ofSc _ _ _
  · cases hG
def mkCntByte {P : Program} (f : FuncId) (h : isExt P f Extern.BytealgCount.count) : Ent P := mkExt f _ cntByteG h (cntByte_ok P)
end Go.Xl
set_option linter.unusedVariables false
set_option maxRecDepth 100000
namespace Go.Proofs.Xr
open Go Go.Xl Go.Ab Go.Proofs
theorem mixed : Tryd.prog.follows .mixedOrders = true := by kernel_rfl
@[reducible] def tDot : Ty := (.pair (.int .u16) (.int .u64))
end Go.Proofs.Xr
set_option linter.unusedVariables false
set_option linter.unusedSimpArgs false
namespace Go.Xl
open Go.Ab Go.Sort Go.Proofs Go.Shelf Go.RowKit Go.Lib
theorem Ty.Plain.one {t : Ty} (h : t.Plain) (x : t.T) : ∀ v ∈ t.vals x, v.oneCell' = true := by
  intro v hv
  have h1 : D.sc v ∈ t.ds x := by rw [← h.vals x]; exact List.mem_map_of_mem (f := D.sc) hv
  have := t.ds_one x _ h1
  simpa [oneD] using this
theorem Ty.Plain.ra {t : Ty} (h : t.Plain) (ha : t.agg = true) (x : t.T) (g : Gh) (w : World) : RA g w (XV.d (t.xv x)).a (.agg (t.vals x).toArray) := by
  have e : (XV.d (t.xv x)).a = .d (.agg ((t.vals x).map .sc)) := by
    show AV.d (t.dv x) = _
    rw [t.dv_agg x ha, h.vals]
  rw [e]
  refine .d _ _ (.agg _ _ (by simp) ?_)
  intro i c v hc hv
  rw [List.getElem?_map, Option.map_eq_some_iff] at hc
  obtain ⟨u, hu, rfl⟩ := hc
  simp only [List.getElem?_toArray] at hv
  rw [hu] at hv
  cases hv
  exact .sc _
end Go.Xl
set_option maxRecDepth 100000
namespace Go.Proofs
open Go.Shelf
end Go.Proofs
set_option linter.unusedVariables false
set_option linter.unusedSimpArgs false
namespace Go.Xl
theorem iter_eq {σ R : Type} {f : (σ → Option R) → σ → Option R} {G : σ → Option R} (I : Nat → σ → Prop)
    (step : ∀ (n : Nat) (x : σ) (rec : σ → Option R), I n x → (∀ (m : Nat) (y : σ), m < n → I m y → rec y = G y) → f rec x = G x) :
    ∀ (N n : Nat) (x : σ), I n x → n < N → iter f N x = G x
  | 0, n, x, _, h => absurd h (Nat.not_lt_zero _)
  | N + 1, n, x, hi, h => by
    simp only [iter]
    exact step n x _ hi fun m y hm hy => iter_eq I step N m y hy (by omega)
theorem iter_ok {σ R : Type} {f : (σ → Option R) → σ → Option R} {Q : R → Prop} (I : Nat → σ → Prop)
    (step : ∀ (n : Nat) (x : σ) (rec : σ → Option R), I n x → (∀ (m : Nat) (y : σ), m < n → I m y → ∃ r, rec y = some r ∧ Q r) → ∃ r, f rec x = some r ∧ Q r) :
    ∀ (N n : Nat) (x : σ), I n x → n < N → ∃ r, iter f N x = some r ∧ Q r
  | 0, n, x, _, h => absurd h (Nat.not_lt_zero _)
  | N + 1, n, x, hi, h => by
    simp only [iter]
    exact step n x _ hi fun m y hm hy => iter_ok I step N m y hy (by omega)
@[simp] theorem at?_nat {α : Type} (l : List α) (n : Nat) : at? l (n : Int) = l[n]? := rfl
theorem i64_succ {n : Nat} (h : n + 1 < 9223372036854775808) : IntKind.i64.wrap ((n : Int) + 1) = ((n + 1 : Nat) : Int) := by
  rw [IntWalk.i64_in _ (by omega)]; rfl
theorem i64_pred {n : Nat} (h : 0 < n) (h' : n < 9223372036854775808) : IntKind.i64.wrap ((n : Int) - 1) = ((n - 1 : Nat) : Int) := by
  rw [IntWalk.i64_in _ (by omega)]; omega
theorem scan_eq {R : Type} (len : Nat) (g : Nat → Option R) {f : ((Int × Unit) × Unit × Unit × Unit → Option R) → (Int × Unit) × Unit × Unit × Unit → Option R} (start : Nat)
    (hs : ∀ (rec : (Int × Unit) × Unit × Unit × Unit → Option R) (k : Nat), start ≤ k → k < len → rec ((((k + 1 : Nat) : Int), ()), (), (), ()) = g (k + 1) → f rec (((k : Int), ()), (), (), ()) = g k)
    (he : ∀ rec (k : Nat), len ≤ k → f rec (((k : Int), ()), (), (), ()) = g k) (N : Nat) (hN : len < N) : iter f N (((start : Int), ()), (), (), ()) = g start := by
  have := iter_eq (f := f) (G := fun z => g z.1.1.toNat) (fun n z => ∃ k : Nat, z = (((k : Int), ()), (), (), ()) ∧ start ≤ k ∧ n = len - k) (by
    rintro n z rec ⟨k, rfl, h1, h2⟩ ih
    by_cases hk : k < len
    · exact hs rec k h1 hk (ih (len - (k + 1)) _ (by omega) ⟨k + 1, rfl, by omega, rfl⟩)
    · exact he rec k (by omega)) N (len - start) (((start : Int), ()), (), (), ()) ⟨start, rfl, Nat.le_refl _, rfl⟩ (by omega)
  exact this
theorem fit {n bytes : Nat} (h : n * bytes ≤ 140737488355328) (h2 : n ≤ 4611686018427387904) : fitsB n bytes = true := by
  simp only [fitsB, Bool.and_eq_true, decide_eq_true_eq]
  exact ⟨h, h2⟩
def SAsc {α : Type} (lt : α → α → Bool) (l : List α) : Prop := l.Pairwise fun a b => lt a b = true
theorem SAsc.ext {α : Type} {lt : α → α → Bool} (ha : ∀ x y, lt x y = true → lt y x = false) : ∀ {l m : List α}, SAsc lt l → SAsc lt m → (∀ x, x ∈ l ↔ x ∈ m) → l = m
  | [], [], _, _, _ => rfl
  | [], b :: m, _, _, h => by have := (h b).2 List.mem_cons_self; simp at this
  | a :: l, [], _, _, h => by have := (h a).1 List.mem_cons_self; simp at this
  | a :: l, b :: m, hl, hm, h => by
    have hl' := hl
    have hm' := hm
    simp only [SAsc, List.pairwise_cons] at hl' hm'
    have irr : ∀ x, lt x x = false := by
      intro x
      cases hx : lt x x with
      | false => rfl
      | true => have := ha x x hx; rw [hx] at this; cases this
    have hab : a = b := by
      rcases List.mem_cons.1 ((h a).1 List.mem_cons_self) with e | e
      · exact e
      · rcases List.mem_cons.1 ((h b).2 List.mem_cons_self) with e' | e'
        · exact e'.symm
        · have h1 := hm'.1 a e
          have h2 := hl'.1 b e'
          rw [ha _ _ h1] at h2; cases h2
    subst hab
    congr 1
    refine SAsc.ext ha hl'.2 hm'.2 fun x => ?_
    have hx := h x
    simp only [List.mem_cons] at hx
    constructor
    · intro hxl
      rcases hx.1 (.inr hxl) with e | e
      · subst e
        have := hl'.1 x hxl
        rw [irr] at this; cases this
      · exact e
    · intro hxm
      rcases hx.2 (.inr hxm) with e | e
      · subst e
        have := hm'.1 x hxm
        rw [irr] at this; cases this
      · exact e
end Go.Xl
set_option maxRecDepth 100000
set_option linter.unusedVariables false
namespace Go.Proofs.Xr
open Go Go.Xl Go.Ab Go.Proofs Go.Sort
end Go.Proofs.Xr
set_option linter.unusedVariables false
namespace Go.Xl
open Go.Ab
end Go.Xl
namespace Go.Xl
open Go.Ab
def mkNone {P : Program} (f : FuncId) : Ent P where
  id := f
  run := fun _ _ _ _ => none
  ok := by intros; contradiction
end Go.Xl
set_option linter.unusedVariables false
set_option maxRecDepth 100000
namespace Go.Proofs.Xs
open Go Go.Xl Go.Ab Go.Proofs Go.Proofs.Xr
noncomputable def F_internal_strconv_small (N : Nat) : Fun [(.int .i64)] (Option (ResT [.str])) := fun (x : Int) => bif decide (x < 10) then bif cutOk x (IntKind.i64.wrap (x + 1)) 36 then some (List.take
 ((IntKind.i64.wrap (x + 1)).toNat - x.toNat) (List.drop x.toNat [48, 49, 50, 51, 52, 53, 54, 55, 56, 57, 97, 98, 99, 100, 101, 102, 103, 104, 105, 106, 107, 108, 109, 110, 111, 112, 113, 114, 115, 116, 117, 118, 119,
 120, 121, 122])) else none else bif cutOk (IntKind.i64.wrap (x * 2)) (IntKind.i64.wrap (IntKind.i64.wrap (x * 2) + 2)) 200 then some (List.take ((IntKind.i64.wrap (IntKind.i64.wrap (x * 2) + 2)).toNat -
 (IntKind.i64.wrap (x * 2)).toNat) (List.drop (IntKind.i64.wrap (x * 2)).toNat [48, 48, 48, 49, 48, 50, 48, 51, 48, 52, 48, 53, 48, 54, 48, 55, 48, 56, 48, 57, 49, 48, 49, 49, 49, 50, 49, 51, 49, 52, 49, 53, 49, 54, 49,
 55, 49, 56, 49, 57, 50, 48, 50, 49, 50, 50, 50, 51, 50, 52, 50, 53, 50, 54, 50, 55, 50, 56, 50, 57, 51, 48, 51, 49, 51, 50, 51, 51, 51, 52, 51, 53, 51, 54, 51, 55, 51, 56, 51, 57, 52, 48, 52, 49, 52, 50, 52, 51, 52, 52,
 52, 53, 52, 54, 52, 55, 52, 56, 52, 57, 53, 48, 53, 49, 53, 50, 53, 51, 53, 52, 53, 53, 53, 54, 53, 55, 53, 56, 53, 57, 54, 48, 54, 49, 54, 50, 54, 51, 54, 52, 54, 53, 54, 54, 54, 55, 54, 56, 54, 57, 55, 48, 55, 49, 55,
 50, 55, 51, 55, 52, 55, 53, 55, 54, 55, 55, 55, 56, 55, 57, 56, 48, 56, 49, 56, 50, 56, 51, 56, 52, 56, 53, 56, 54, 56, 55, 56, 56, 56, 57, 57, 48, 57, 49, 57, 50, 57, 51, 57, 52, 57, 53, 57, 54, 57, 55, 57, 56, 57,
 57])) else none
theorem E_internal_strconv_small (N : Nat) : runF Tryd.prog [] [] N Tryd.f118 .lf [(.int .i64)] [.str] = F_internal_strconv_small N := by kernel_rfl
noncomputable def e_internal_strconv_small (N : Nat) : Ent Tryd.prog := mkFn 118 Tryd.f118 .lf [(.int .i64)] [.str] (F_internal_strconv_small N) mixed Tryd.func118 (.mk' Tryd.func118 rfl (by decide)) rfl (E_internal_strconv_small N)
noncomputable def F_internal_strconv_log10Pow2 (N : Nat) : Fun [(.int .i64)] (Option (ResT [(.int .i64)])) := fun (x : Int) => some ((IntKind.i64.wrap (x * 78913)).fdiv 262144)
theorem E_internal_strconv_log10Pow2 (N : Nat) : runF Tryd.prog [] [] N Tryd.f140 .lf [(.int .i64)] [(.int .i64)] = F_internal_strconv_log10Pow2 N := by kernel_rfl
noncomputable def e_internal_strconv_log10Pow2 (N : Nat) : Ent Tryd.prog := mkFn 140 Tryd.f140 .lf [(.int .i64)] [(.int .i64)] (F_internal_strconv_log10Pow2 N) mixed Tryd.func140 (.mk' Tryd.func140 rfl (by decide)) rfl (E_internal_strconv_log10Pow2 N)
noncomputable def F_math_bits_Len64 (N : Nat) : Fun [(.int .u64)] (Option (ResT [(.int .i64)])) := fun (x : Int) => joinAt (fun (z : (Int × Int × Unit) × Unit × Unit × Unit) => joinAt (fun (z : (Int × Int × Unit) × Unit
 × Unit × Unit) => joinAt (fun (z : (Int × Int × Unit) × Unit × Unit × Unit) => [0, 1, 2, 2, 3, 3, 3, 3, 4, 4, 4, 4, 4, 4, 4, 4, 5, 5, 5, 5, 5, 5, 5, 5, 5, 5, 5, 5, 5, 5, 5, 5, 6, 6, 6, 6, 6, 6, 6, 6, 6, 6, 6, 6, 6, 6,
 6, 6, 6, 6, 6, 6, 6, 6, 6, 6, 6, 6, 6, 6, 6, 6, 6, 6, 7, 7, 7, 7, 7, 7, 7, 7, 7, 7, 7, 7, 7, 7, 7, 7, 7, 7, 7, 7, 7, 7, 7, 7, 7, 7, 7, 7, 7, 7, 7, 7, 7, 7, 7, 7, 7, 7, 7, 7, 7, 7, 7, 7, 7, 7, 7, 7, 7, 7, 7, 7, 7, 7, 7,
 7, 7, 7, 7, 7, 7, 7, 7, 7, 8, 8, 8, 8, 8, 8, 8, 8, 8, 8, 8, 8, 8, 8, 8, 8, 8, 8, 8, 8, 8, 8, 8, 8, 8, 8, 8, 8, 8, 8, 8, 8, 8, 8, 8, 8, 8, 8, 8, 8, 8, 8, 8, 8, 8, 8, 8, 8, 8, 8, 8, 8, 8, 8, 8, 8, 8, 8, 8, 8, 8, 8, 8, 8,
 8, 8, 8, 8, 8, 8, 8, 8, 8, 8, 8, 8, 8, 8, 8, 8, 8, 8, 8, 8, 8, 8, 8, 8, 8, 8, 8, 8, 8, 8, 8, 8, 8, 8, 8, 8, 8, 8, 8, 8, 8, 8, 8, 8, 8, 8, 8, 8, 8, 8, 8, 8, 8, 8, 8, 8, 8, 8, 8, 8, 8, 8, 8, 8][(toU8 (IntKind.u8.wrap
 z.fst.fst)).toNat]?.bind fun (c : UInt8) => some (IntKind.i64.wrap (z.fst.snd.fst + (↑c.toNat : Int)))) fun (k : (Int × Int × Unit) × Unit × Unit × Unit → Option Int) => bif decide (256 ≤ z.fst.fst) then k
 ((z.fst.fst.fdiv 256, IntKind.i64.wrap (z.fst.snd.fst + 8), ()), (), (), ()) else k ((z.fst.fst, z.fst.snd.fst, ()), (), (), ())) fun (k : (Int × Int × Unit) × Unit × Unit × Unit → Option Int) => bif decide (65536 ≤
 z.fst.fst) then k ((z.fst.fst.fdiv 65536, IntKind.i64.wrap (z.fst.snd.fst + 16), ()), (), (), ()) else k ((z.fst.fst, z.fst.snd.fst, ()), (), (), ())) fun (k : (Int × Int × Unit) × Unit × Unit × Unit → Option Int) =>
 bif decide (4294967296 ≤ x) then k ((x.fdiv 4294967296, 32, ()), (), (), ()) else k ((x, 0, ()), (), (), ())
theorem E_math_bits_Len64 (N : Nat) : runF Tryd.prog [] [] N Tryd.f141 (.seq .lf (.join ⟨[(0, .d (.int .u64)), (2, .d (.int .i64))], [], [], [], [], []⟩ .lf (.join ⟨[(0, .d (.int .u64)), (2, .d (.int .i64))], [], [], [], [], []⟩ .lf (.join ⟨[(0, .d (.int .u64)), (2, .d (.int .i64))], [], [], [], [], []⟩ .lf .lf)))) [(.int .u64)] [(.int .i64)] = F_math_bits_Len64 N := by kernel_rfl
noncomputable def e_math_bits_Len64 (N : Nat) : Ent Tryd.prog := mkFn 141 Tryd.f141 (.seq .lf (.join ⟨[(0, .d (.int .u64)), (2, .d (.int .i64))], [], [], [], [], []⟩ .lf (.join ⟨[(0, .d (.int .u64)), (2, .d (.int .i64))], [], [], [], [], []⟩ .lf (.join ⟨[(0, .d (.int .u64)), (2, .d (.int .i64))], [], [], [], [], []⟩ .lf .lf)))) [(.int .u64)] [(.int .i64)] (F_math_bits_Len64 N) mixed Tryd.func141 (.mk' Tryd.func141 rfl (by decide)) rfl (E_math_bits_Len64 N)
noncomputable def F_internal_strconv_bool2_int (N : Nat) : Fun [.bool] (Option (ResT [(.int .i64)])) := fun (x : Bool) => bif x then some 1 else some 0
theorem E_internal_strconv_bool2_int (N : Nat) : runF Tryd.prog [] [] N Tryd.f142 .lf [.bool] [(.int .i64)] = F_internal_strconv_bool2_int N := by kernel_rfl
noncomputable def e_internal_strconv_bool2_int (N : Nat) : Ent Tryd.prog := mkFn 142 Tryd.f142 .lf [.bool] [(.int .i64)] (F_internal_strconv_bool2_int N) mixed Tryd.func142 (.mk' Tryd.func142 rfl (by decide)) rfl (E_internal_strconv_bool2_int N)
noncomputable def F_internal_strconv_numDigits (N : Nat) : Fun [(.int .u64), (.tab (.int .u64))] (Option (ResT [(.int .i64)])) := fun (x : Int) (x_1 : List Int) => Option.bind (F_math_bits_Len64 N x) fun (y : Int) =>
 Option.bind (F_internal_strconv_log10Pow2 N y) fun (y : Int) => bif x_1.length.ble 20 then (at? x_1 y).bind fun (e : Int) => Option.bind (F_internal_strconv_bool2_int N (decide (e ≤ x))) fun (y_1 : Int) => some
 (IntKind.i64.wrap (y + y_1)) else none
theorem E_internal_strconv_numDigits (N : Nat) : runG Tryd.prog [e_internal_strconv_log10Pow2 N, e_math_bits_Len64 N, e_internal_strconv_bool2_int N] [] N Tryd.f119 .lf [(.int .u64), (.tab (.int .u64))] [(.int .i64)] 1 [3] = F_internal_strconv_numDigits N := by kernel_rfl
noncomputable def e_internal_strconv_numDigits (N : Nat) : Ent Tryd.prog := mkFnG 119 Tryd.f119 .lf [(.int .u64), (.tab (.int .u64))] [(.int .i64)] 1 [3] (F_internal_strconv_numDigits N) mixed Tryd.func119 (.mk' Tryd.func119 rfl (by decide)) rfl (E_internal_strconv_numDigits N)
noncomputable def F0_internal_strconv_formatBase10 (N : Nat) : FunA [.d (.int .u64)] (Option (ResT (rkTys .u8 []))) := fun (x : Int) => iter (fun (rec : (Int × Int × Unit) × Unit × Unit × Unit → Option Unit) (z : (Int ×
 Int × Unit) × Unit × Unit × Unit) => bif decide (8 ≤ z.fst.snd.fst) then (at? [48, 48, 48, 49, 48, 50, 48, 51, 48, 52, 48, 53, 48, 54, 48, 55, 48, 56, 48, 57, 49, 48, 49, 49, 49, 50, 49, 51, 49, 52, 49, 53, 49, 54, 49,
 55, 49, 56, 49, 57, 50, 48, 50, 49, 50, 50, 50, 51, 50, 52, 50, 53, 50, 54, 50, 55, 50, 56, 50, 57, 51, 48, 51, 49, 51, 50, 51, 51, 51, 52, 51, 53, 51, 54, 51, 55, 51, 56, 51, 57, 52, 48, 52, 49, 52, 50, 52, 51, 52, 52,
 52, 53, 52, 54, 52, 55, 52, 56, 52, 57, 53, 48, 53, 49, 53, 50, 53, 51, 53, 52, 53, 53, 53, 54, 53, 55, 53, 56, 53, 57, 54, 48, 54, 49, 54, 50, 54, 51, 54, 52, 54, 53, 54, 54, 54, 55, 54, 56, 54, 57, 55, 48, 55, 49, 55,
 50, 55, 51, 55, 52, 55, 53, 55, 54, 55, 55, 55, 56, 55, 57, 56, 48, 56, 49, 56, 50, 56, 51, 56, 52, 56, 53, 56, 54, 56, 55, 56, 56, 56, 57, 57, 48, 57, 49, 57, 50, 57, 51, 57, 52, 57, 53, 57, 54, 57, 55, 57, 56, 57, 57]
 (IntKind.u32.wrap (IntKind.u32.wrap (((IntKind.u32.wrap (z.fst.fst.tmod 100000000)).tmod 10000).tmod 100 * 2) + 1))).bind fun (c : UInt8) => (at? [48, 48, 48, 49, 48, 50, 48, 51, 48, 52, 48, 53, 48, 54, 48, 55, 48, 56,
 48, 57, 49, 48, 49, 49, 49, 50, 49, 51, 49, 52, 49, 53, 49, 54, 49, 55, 49, 56, 49, 57, 50, 48, 50, 49, 50, 50, 50, 51, 50, 52, 50, 53, 50, 54, 50, 55, 50, 56, 50, 57, 51, 48, 51, 49, 51, 50, 51, 51, 51, 52, 51, 53, 51,
 54, 51, 55, 51, 56, 51, 57, 52, 48, 52, 49, 52, 50, 52, 51, 52, 52, 52, 53, 52, 54, 52, 55, 52, 56, 52, 57, 53, 48, 53, 49, 53, 50, 53, 51, 53, 52, 53, 53, 53, 54, 53, 55, 53, 56, 53, 57, 54, 48, 54, 49, 54, 50, 54, 51,
 54, 52, 54, 53, 54, 54, 54, 55, 54, 56, 54, 57, 55, 48, 55, 49, 55, 50, 55, 51, 55, 52, 55, 53, 55, 54, 55, 55, 55, 56, 55, 57, 56, 48, 56, 49, 56, 50, 56, 51, 56, 52, 56, 53, 56, 54, 56, 55, 56, 56, 56, 57, 57, 48, 57,
 49, 57, 50, 57, 51, 57, 52, 57, 53, 57, 54, 57, 55, 57, 56, 57, 57] (IntKind.u32.wrap (((IntKind.u32.wrap (z.fst.fst.tmod 100000000)).tmod 10000).tmod 100 * 2))).bind fun (c : UInt8) => (at? [] (IntKind.i64.wrap
 (z.fst.snd.fst - 1))).bind fun (e : UInt8) => none else joinAt (fun (z : (Int × Int × Unit) × Unit × Unit × Unit) => joinAt (fun (z : (Int × Int × Unit) × Unit × Unit × Unit) => bif decide (0 < z.fst.fst) then none else
 some ()) fun (k : (Int × Int × Unit) × Unit × Unit × Unit → Option Unit) => bif decide (2 ≤ z.fst.fst) then (at? [48, 48, 48, 49, 48, 50, 48, 51, 48, 52, 48, 53, 48, 54, 48, 55, 48, 56, 48, 57, 49, 48, 49, 49, 49, 50,
 49, 51, 49, 52, 49, 53, 49, 54, 49, 55, 49, 56, 49, 57, 50, 48, 50, 49, 50, 50, 50, 51, 50, 52, 50, 53, 50, 54, 50, 55, 50, 56, 50, 57, 51, 48, 51, 49, 51, 50, 51, 51, 51, 52, 51, 53, 51, 54, 51, 55, 51, 56, 51, 57, 52,
 48, 52, 49, 52, 50, 52, 51, 52, 52, 52, 53, 52, 54, 52, 55, 52, 56, 52, 57, 53, 48, 53, 49, 53, 50, 53, 51, 53, 52, 53, 53, 53, 54, 53, 55, 53, 56, 53, 57, 54, 48, 54, 49, 54, 50, 54, 51, 54, 52, 54, 53, 54, 54, 54, 55,
 54, 56, 54, 57, 55, 48, 55, 49, 55, 50, 55, 51, 55, 52, 55, 53, 55, 54, 55, 55, 55, 56, 55, 57, 56, 48, 56, 49, 56, 50, 56, 51, 56, 52, 56, 53, 56, 54, 56, 55, 56, 56, 56, 57, 57, 48, 57, 49, 57, 50, 57, 51, 57, 52, 57,
 53, 57, 54, 57, 55, 57, 56, 57, 57] (IntKind.u32.wrap (IntKind.u32.wrap (z.fst.snd.fst.tmod 100 * 2) + 1))).bind fun (c : UInt8) => (at? [48, 48, 48, 49, 48, 50, 48, 51, 48, 52, 48, 53, 48, 54, 48, 55, 48, 56, 48, 57,
 49, 48, 49, 49, 49, 50, 49, 51, 49, 52, 49, 53, 49, 54, 49, 55, 49, 56, 49, 57, 50, 48, 50, 49, 50, 50, 50, 51, 50, 52, 50, 53, 50, 54, 50, 55, 50, 56, 50, 57, 51, 48, 51, 49, 51, 50, 51, 51, 51, 52, 51, 53, 51, 54, 51,
 55, 51, 56, 51, 57, 52, 48, 52, 49, 52, 50, 52, 51, 52, 52, 52, 53, 52, 54, 52, 55, 52, 56, 52, 57, 53, 48, 53, 49, 53, 50, 53, 51, 53, 52, 53, 53, 53, 54, 53, 55, 53, 56, 53, 57, 54, 48, 54, 49, 54, 50, 54, 51, 54, 52,
 54, 53, 54, 54, 54, 55, 54, 56, 54, 57, 55, 48, 55, 49, 55, 50, 55, 51, 55, 52, 55, 53, 55, 54, 55, 55, 55, 56, 55, 57, 56, 48, 56, 49, 56, 50, 56, 51, 56, 52, 56, 53, 56, 54, 56, 55, 56, 56, 56, 57, 57, 48, 57, 49, 57,
 50, 57, 51, 57, 52, 57, 53, 57, 54, 57, 55, 57, 56, 57, 57] (IntKind.u32.wrap (z.fst.snd.fst.tmod 100 * 2))).bind fun (c : UInt8) => (at? [] (IntKind.i64.wrap (z.fst.fst - 1))).bind fun (e : UInt8) => none else k
 ((z.fst.fst, z.fst.snd.fst, ()), (), (), ())) fun (k : (Int × Int × Unit) × Unit × Unit × Unit → Option Unit) => bif decide (4 ≤ z.fst.snd.fst) then (at? [48, 48, 48, 49, 48, 50, 48, 51, 48, 52, 48, 53, 48, 54, 48, 55,
 48, 56, 48, 57, 49, 48, 49, 49, 49, 50, 49, 51, 49, 52, 49, 53, 49, 54, 49, 55, 49, 56, 49, 57, 50, 48, 50, 49, 50, 50, 50, 51, 50, 52, 50, 53, 50, 54, 50, 55, 50, 56, 50, 57, 51, 48, 51, 49, 51, 50, 51, 51, 51, 52, 51,
 53, 51, 54, 51, 55, 51, 56, 51, 57, 52, 48, 52, 49, 52, 50, 52, 51, 52, 52, 52, 53, 52, 54, 52, 55, 52, 56, 52, 57, 53, 48, 53, 49, 53, 50, 53, 51, 53, 52, 53, 53, 53, 54, 53, 55, 53, 56, 53, 57, 54, 48, 54, 49, 54, 50,
 54, 51, 54, 52, 54, 53, 54, 54, 54, 55, 54, 56, 54, 57, 55, 48, 55, 49, 55, 50, 55, 51, 55, 52, 55, 53, 55, 54, 55, 55, 55, 56, 55, 57, 56, 48, 56, 49, 56, 50, 56, 51, 56, 52, 56, 53, 56, 54, 56, 55, 56, 56, 56, 57, 57,
 48, 57, 49, 57, 50, 57, 51, 57, 52, 57, 53, 57, 54, 57, 55, 57, 56, 57, 57] (IntKind.u32.wrap (IntKind.u32.wrap (((IntKind.u32.wrap z.fst.fst).tmod 10000).tmod 100 * 2) + 1))).bind fun (c : UInt8) => (at? [48, 48, 48,
 49, 48, 50, 48, 51, 48, 52, 48, 53, 48, 54, 48, 55, 48, 56, 48, 57, 49, 48, 49, 49, 49, 50, 49, 51, 49, 52, 49, 53, 49, 54, 49, 55, 49, 56, 49, 57, 50, 48, 50, 49, 50, 50, 50, 51, 50, 52, 50, 53, 50, 54, 50, 55, 50, 56,
 50, 57, 51, 48, 51, 49, 51, 50, 51, 51, 51, 52, 51, 53, 51, 54, 51, 55, 51, 56, 51, 57, 52, 48, 52, 49, 52, 50, 52, 51, 52, 52, 52, 53, 52, 54, 52, 55, 52, 56, 52, 57, 53, 48, 53, 49, 53, 50, 53, 51, 53, 52, 53, 53, 53,
 54, 53, 55, 53, 56, 53, 57, 54, 48, 54, 49, 54, 50, 54, 51, 54, 52, 54, 53, 54, 54, 54, 55, 54, 56, 54, 57, 55, 48, 55, 49, 55, 50, 55, 51, 55, 52, 55, 53, 55, 54, 55, 55, 55, 56, 55, 57, 56, 48, 56, 49, 56, 50, 56, 51,
 56, 52, 56, 53, 56, 54, 56, 55, 56, 56, 56, 57, 57, 48, 57, 49, 57, 50, 57, 51, 57, 52, 57, 53, 57, 54, 57, 55, 57, 56, 57, 57] (IntKind.u32.wrap (((IntKind.u32.wrap z.fst.fst).tmod 10000).tmod 100 * 2))).bind fun (c :
 UInt8) => (at? [] (IntKind.i64.wrap (z.fst.snd.fst - 1))).bind fun (e : UInt8) => none else k ((z.fst.snd.fst, IntKind.u32.wrap z.fst.fst, ()), (), (), ())) N ((x, 0, ()), (), (), ())
theorem E0_internal_strconv_formatBase10 (N : Nat) : runO0 Tryd.prog [] [] N Tryd.f120 (.seq .lf (.seq (.blk (.loop ⟨[(1, .d (.int .u64)), (4, .d (.int .i64))], [], [0], [], [], []⟩ .lf)) (.seq .lf (.join ⟨[(4, .d (.int .i64)), (12, .d (.int .u32))], [], [0], [], [], []⟩ .lf (.join ⟨[(4, .d (.int .i64)), (12, .d (.int .u32))], [], [0], [], [], []⟩ .lf .lf))))) .u8 [.d (.int .u64)] [] = F0_internal_strconv_formatBase10 N := by kernel_rfl
noncomputable def F_internal_strconv_formatBase10 (N : Nat) : List (.u8 : Ty).T → Nat → FunA [.d (.int .u64)] (Option (List (.u8 : Ty).T × ResO [])) := fun (l : List UInt8) (n : Nat) (x : Int) => iter (fun (rec : (Int ×
 Int × Unit) × Unit × Unit × List UInt8 × Unit → Option (List UInt8 × Unit)) (z : (Int × Int × Unit) × Unit × Unit × List UInt8 × Unit) => bif decide (8 ≤ z.fst.snd.fst) then (at? [48, 48, 48, 49, 48, 50, 48, 51, 48, 52,
 48, 53, 48, 54, 48, 55, 48, 56, 48, 57, 49, 48, 49, 49, 49, 50, 49, 51, 49, 52, 49, 53, 49, 54, 49, 55, 49, 56, 49, 57, 50, 48, 50, 49, 50, 50, 50, 51, 50, 52, 50, 53, 50, 54, 50, 55, 50, 56, 50, 57, 51, 48, 51, 49, 51,
 50, 51, 51, 51, 52, 51, 53, 51, 54, 51, 55, 51, 56, 51, 57, 52, 48, 52, 49, 52, 50, 52, 51, 52, 52, 52, 53, 52, 54, 52, 55, 52, 56, 52, 57, 53, 48, 53, 49, 53, 50, 53, 51, 53, 52, 53, 53, 53, 54, 53, 55, 53, 56, 53, 57,
 54, 48, 54, 49, 54, 50, 54, 51, 54, 52, 54, 53, 54, 54, 54, 55, 54, 56, 54, 57, 55, 48, 55, 49, 55, 50, 55, 51, 55, 52, 55, 53, 55, 54, 55, 55, 55, 56, 55, 57, 56, 48, 56, 49, 56, 50, 56, 51, 56, 52, 56, 53, 56, 54, 56,
 55, 56, 56, 56, 57, 57, 48, 57, 49, 57, 50, 57, 51, 57, 52, 57, 53, 57, 54, 57, 55, 57, 56, 57, 57] (IntKind.u32.wrap (IntKind.u32.wrap (((IntKind.u32.wrap (z.fst.fst.tmod 100000000)).tmod 10000).tmod 100 * 2) +
 1))).bind fun (c : UInt8) => (at? [48, 48, 48, 49, 48, 50, 48, 51, 48, 52, 48, 53, 48, 54, 48, 55, 48, 56, 48, 57, 49, 48, 49, 49, 49, 50, 49, 51, 49, 52, 49, 53, 49, 54, 49, 55, 49, 56, 49, 57, 50, 48, 50, 49, 50, 50,
 50, 51, 50, 52, 50, 53, 50, 54, 50, 55, 50, 56, 50, 57, 51, 48, 51, 49, 51, 50, 51, 51, 51, 52, 51, 53, 51, 54, 51, 55, 51, 56, 51, 57, 52, 48, 52, 49, 52, 50, 52, 51, 52, 52, 52, 53, 52, 54, 52, 55, 52, 56, 52, 57, 53,
 48, 53, 49, 53, 50, 53, 51, 53, 52, 53, 53, 53, 54, 53, 55, 53, 56, 53, 57, 54, 48, 54, 49, 54, 50, 54, 51, 54, 52, 54, 53, 54, 54, 54, 55, 54, 56, 54, 57, 55, 48, 55, 49, 55, 50, 55, 51, 55, 52, 55, 53, 55, 54, 55, 55,
 55, 56, 55, 57, 56, 48, 56, 49, 56, 50, 56, 51, 56, 52, 56, 53, 56, 54, 56, 55, 56, 56, 56, 57, 57, 48, 57, 49, 57, 50, 57, 51, 57, 52, 57, 53, 57, 54, 57, 55, 57, 56, 57, 57] (IntKind.u32.wrap (((IntKind.u32.wrap
 (z.fst.fst.tmod 100000000)).tmod 10000).tmod 100 * 2))).bind fun (c_1 : UInt8) => bif decide (0 ≤ IntKind.i64.wrap (z.fst.snd.fst - 1)) && decide (IntKind.i64.wrap (z.fst.snd.fst - 1) < (↑n : Int)) then
 z.snd.snd.snd.fst[0 + (IntKind.i64.wrap (z.fst.snd.fst - 1)).toNat]?.bind fun (e : UInt8) => bif decide (0 ≤ IntKind.i64.wrap (z.fst.snd.fst - 2)) && decide (IntKind.i64.wrap (z.fst.snd.fst - 2) < (↑n : Int)) then
 (z.snd.snd.snd.fst.set (0 + (IntKind.i64.wrap (z.fst.snd.fst - 1)).toNat) c)[0 + (IntKind.i64.wrap (z.fst.snd.fst - 2)).toNat]?.bind fun (e : UInt8) => (at? [48, 48, 48, 49, 48, 50, 48, 51, 48, 52, 48, 53, 48, 54, 48,
 55, 48, 56, 48, 57, 49, 48, 49, 49, 49, 50, 49, 51, 49, 52, 49, 53, 49, 54, 49, 55, 49, 56, 49, 57, 50, 48, 50, 49, 50, 50, 50, 51, 50, 52, 50, 53, 50, 54, 50, 55, 50, 56, 50, 57, 51, 48, 51, 49, 51, 50, 51, 51, 51, 52,
 51, 53, 51, 54, 51, 55, 51, 56, 51, 57, 52, 48, 52, 49, 52, 50, 52, 51, 52, 52, 52, 53, 52, 54, 52, 55, 52, 56, 52, 57, 53, 48, 53, 49, 53, 50, 53, 51, 53, 52, 53, 53, 53, 54, 53, 55, 53, 56, 53, 57, 54, 48, 54, 49, 54,
 50, 54, 51, 54, 52, 54, 53, 54, 54, 54, 55, 54, 56, 54, 57, 55, 48, 55, 49, 55, 50, 55, 51, 55, 52, 55, 53, 55, 54, 55, 55, 55, 56, 55, 57, 56, 48, 56, 49, 56, 50, 56, 51, 56, 52, 56, 53, 56, 54, 56, 55, 56, 56, 56, 57,
 57, 48, 57, 49, 57, 50, 57, 51, 57, 52, 57, 53, 57, 54, 57, 55, 57, 56, 57, 57] (IntKind.u32.wrap (IntKind.u32.wrap (IntKind.u32.wrap (((IntKind.u32.wrap (z.fst.fst.tmod 100000000)).tmod 10000).tdiv 100) * 2) +
 1))).bind fun (c_2 : UInt8) => (at? [48, 48, 48, 49, 48, 50, 48, 51, 48, 52, 48, 53, 48, 54, 48, 55, 48, 56, 48, 57, 49, 48, 49, 49, 49, 50, 49, 51, 49, 52, 49, 53, 49, 54, 49, 55, 49, 56, 49, 57, 50, 48, 50, 49, 50,
 50, 50, 51, 50, 52, 50, 53, 50, 54, 50, 55, 50, 56, 50, 57, 51, 48, 51, 49, 51, 50, 51, 51, 51, 52, 51, 53, 51, 54, 51, 55, 51, 56, 51, 57, 52, 48, 52, 49, 52, 50, 52, 51, 52, 52, 52, 53, 52, 54, 52, 55, 52, 56, 52, 57,
 53, 48, 53, 49, 53, 50, 53, 51, 53, 52, 53, 53, 53, 54, 53, 55, 53, 56, 53, 57, 54, 48, 54, 49, 54, 50, 54, 51, 54, 52, 54, 53, 54, 54, 54, 55, 54, 56, 54, 57, 55, 48, 55, 49, 55, 50, 55, 51, 55, 52, 55, 53, 55, 54, 55,
 55, 55, 56, 55, 57, 56, 48, 56, 49, 56, 50, 56, 51, 56, 52, 56, 53, 56, 54, 56, 55, 56, 56, 56, 57, 57, 48, 57, 49, 57, 50, 57, 51, 57, 52, 57, 53, 57, 54, 57, 55, 57, 56, 57, 57] (IntKind.u32.wrap (IntKind.u32.wrap
 (((IntKind.u32.wrap (z.fst.fst.tmod 100000000)).tmod 10000).tdiv 100) * 2))).bind fun (c_3 : UInt8) => bif decide (0 ≤ IntKind.i64.wrap (z.fst.snd.fst - 3)) && decide (IntKind.i64.wrap (z.fst.snd.fst - 3) < (↑n : Int))
 then ((z.snd.snd.snd.fst.set (0 + (IntKind.i64.wrap (z.fst.snd.fst - 1)).toNat) c).set (0 + (IntKind.i64.wrap (z.fst.snd.fst - 2)).toNat) c_1)[0 + (IntKind.i64.wrap (z.fst.snd.fst - 3)).toNat]?.bind fun (e : UInt8) =>
 bif decide (0 ≤ IntKind.i64.wrap (z.fst.snd.fst - 4)) && decide (IntKind.i64.wrap (z.fst.snd.fst - 4) < (↑n : Int)) then (((z.snd.snd.snd.fst.set (0 + (IntKind.i64.wrap (z.fst.snd.fst - 1)).toNat) c).set (0 +
 (IntKind.i64.wrap (z.fst.snd.fst - 2)).toNat) c_1).set (0 + (IntKind.i64.wrap (z.fst.snd.fst - 3)).toNat) c_2)[0 + (IntKind.i64.wrap (z.fst.snd.fst - 4)).toNat]?.bind fun (e : UInt8) => (at? [48, 48, 48, 49, 48, 50, 48,
 51, 48, 52, 48, 53, 48, 54, 48, 55, 48, 56, 48, 57, 49, 48, 49, 49, 49, 50, 49, 51, 49, 52, 49, 53, 49, 54, 49, 55, 49, 56, 49, 57, 50, 48, 50, 49, 50, 50, 50, 51, 50, 52, 50, 53, 50, 54, 50, 55, 50, 56, 50, 57, 51, 48,
 51, 49, 51, 50, 51, 51, 51, 52, 51, 53, 51, 54, 51, 55, 51, 56, 51, 57, 52, 48, 52, 49, 52, 50, 52, 51, 52, 52, 52, 53, 52, 54, 52, 55, 52, 56, 52, 57, 53, 48, 53, 49, 53, 50, 53, 51, 53, 52, 53, 53, 53, 54, 53, 55, 53,
 56, 53, 57, 54, 48, 54, 49, 54, 50, 54, 51, 54, 52, 54, 53, 54, 54, 54, 55, 54, 56, 54, 57, 55, 48, 55, 49, 55, 50, 55, 51, 55, 52, 55, 53, 55, 54, 55, 55, 55, 56, 55, 57, 56, 48, 56, 49, 56, 50, 56, 51, 56, 52, 56, 53,
 56, 54, 56, 55, 56, 56, 56, 57, 57, 48, 57, 49, 57, 50, 57, 51, 57, 52, 57, 53, 57, 54, 57, 55, 57, 56, 57, 57] (IntKind.u32.wrap (IntKind.u32.wrap ((IntKind.u32.wrap ((IntKind.u32.wrap (z.fst.fst.tmod 100000000)).tdiv
 10000)).tmod 100 * 2) + 1))).bind fun (c_4 : UInt8) => (at? [48, 48, 48, 49, 48, 50, 48, 51, 48, 52, 48, 53, 48, 54, 48, 55, 48, 56, 48, 57, 49, 48, 49, 49, 49, 50, 49, 51, 49, 52, 49, 53, 49, 54, 49, 55, 49, 56, 49,
 57, 50, 48, 50, 49, 50, 50, 50, 51, 50, 52, 50, 53, 50, 54, 50, 55, 50, 56, 50, 57, 51, 48, 51, 49, 51, 50, 51, 51, 51, 52, 51, 53, 51, 54, 51, 55, 51, 56, 51, 57, 52, 48, 52, 49, 52, 50, 52, 51, 52, 52, 52, 53, 52, 54,
 52, 55, 52, 56, 52, 57, 53, 48, 53, 49, 53, 50, 53, 51, 53, 52, 53, 53, 53, 54, 53, 55, 53, 56, 53, 57, 54, 48, 54, 49, 54, 50, 54, 51, 54, 52, 54, 53, 54, 54, 54, 55, 54, 56, 54, 57, 55, 48, 55, 49, 55, 50, 55, 51, 55,
 52, 55, 53, 55, 54, 55, 55, 55, 56, 55, 57, 56, 48, 56, 49, 56, 50, 56, 51, 56, 52, 56, 53, 56, 54, 56, 55, 56, 56, 56, 57, 57, 48, 57, 49, 57, 50, 57, 51, 57, 52, 57, 53, 57, 54, 57, 55, 57, 56, 57, 57]
 (IntKind.u32.wrap ((IntKind.u32.wrap ((IntKind.u32.wrap (z.fst.fst.tmod 100000000)).tdiv 10000)).tmod 100 * 2))).bind fun (c_5 : UInt8) => bif decide (0 ≤ IntKind.i64.wrap (z.fst.snd.fst - 5)) && decide
 (IntKind.i64.wrap (z.fst.snd.fst - 5) < (↑n : Int)) then ((((z.snd.snd.snd.fst.set (0 + (IntKind.i64.wrap (z.fst.snd.fst - 1)).toNat) c).set (0 + (IntKind.i64.wrap (z.fst.snd.fst - 2)).toNat) c_1).set (0 +
 (IntKind.i64.wrap (z.fst.snd.fst - 3)).toNat) c_2).set (0 + (IntKind.i64.wrap (z.fst.snd.fst - 4)).toNat) c_3)[0 + (IntKind.i64.wrap (z.fst.snd.fst - 5)).toNat]?.bind fun (e : UInt8) => bif decide (0 ≤ IntKind.i64.wrap
 (z.fst.snd.fst - 6)) && decide (IntKind.i64.wrap (z.fst.snd.fst - 6) < (↑n : Int)) then (((((z.snd.snd.snd.fst.set (0 + (IntKind.i64.wrap (z.fst.snd.fst - 1)).toNat) c).set (0 + (IntKind.i64.wrap (z.fst.snd.fst -
 2)).toNat) c_1).set (0 + (IntKind.i64.wrap (z.fst.snd.fst - 3)).toNat) c_2).set (0 + (IntKind.i64.wrap (z.fst.snd.fst - 4)).toNat) c_3).set (0 + (IntKind.i64.wrap (z.fst.snd.fst - 5)).toNat) c_4)[0 + (IntKind.i64.wrap
 (z.fst.snd.fst - 6)).toNat]?.bind fun (e : UInt8) => (at? [48, 48, 48, 49, 48, 50, 48, 51, 48, 52, 48, 53, 48, 54, 48, 55, 48, 56, 48, 57, 49, 48, 49, 49, 49, 50, 49, 51, 49, 52, 49, 53, 49, 54, 49, 55, 49, 56, 49, 57,
 50, 48, 50, 49, 50, 50, 50, 51, 50, 52, 50, 53, 50, 54, 50, 55, 50, 56, 50, 57, 51, 48, 51, 49, 51, 50, 51, 51, 51, 52, 51, 53, 51, 54, 51, 55, 51, 56, 51, 57, 52, 48, 52, 49, 52, 50, 52, 51, 52, 52, 52, 53, 52, 54, 52,
 55, 52, 56, 52, 57, 53, 48, 53, 49, 53, 50, 53, 51, 53, 52, 53, 53, 53, 54, 53, 55, 53, 56, 53, 57, 54, 48, 54, 49, 54, 50, 54, 51, 54, 52, 54, 53, 54, 54, 54, 55, 54, 56, 54, 57, 55, 48, 55, 49, 55, 50, 55, 51, 55, 52,
 55, 53, 55, 54, 55, 55, 55, 56, 55, 57, 56, 48, 56, 49, 56, 50, 56, 51, 56, 52, 56, 53, 56, 54, 56, 55, 56, 56, 56, 57, 57, 48, 57, 49, 57, 50, 57, 51, 57, 52, 57, 53, 57, 54, 57, 55, 57, 56, 57, 57] (IntKind.u32.wrap
 (IntKind.u32.wrap (IntKind.u32.wrap ((IntKind.u32.wrap ((IntKind.u32.wrap (z.fst.fst.tmod 100000000)).tdiv 10000)).tdiv 100) * 2) + 1))).bind fun (c_6 : UInt8) => (at? [48, 48, 48, 49, 48, 50, 48, 51, 48, 52, 48, 53,
 48, 54, 48, 55, 48, 56, 48, 57, 49, 48, 49, 49, 49, 50, 49, 51, 49, 52, 49, 53, 49, 54, 49, 55, 49, 56, 49, 57, 50, 48, 50, 49, 50, 50, 50, 51, 50, 52, 50, 53, 50, 54, 50, 55, 50, 56, 50, 57, 51, 48, 51, 49, 51, 50, 51,
 51, 51, 52, 51, 53, 51, 54, 51, 55, 51, 56, 51, 57, 52, 48, 52, 49, 52, 50, 52, 51, 52, 52, 52, 53, 52, 54, 52, 55, 52, 56, 52, 57, 53, 48, 53, 49, 53, 50, 53, 51, 53, 52, 53, 53, 53, 54, 53, 55, 53, 56, 53, 57, 54, 48,
 54, 49, 54, 50, 54, 51, 54, 52, 54, 53, 54, 54, 54, 55, 54, 56, 54, 57, 55, 48, 55, 49, 55, 50, 55, 51, 55, 52, 55, 53, 55, 54, 55, 55, 55, 56, 55, 57, 56, 48, 56, 49, 56, 50, 56, 51, 56, 52, 56, 53, 56, 54, 56, 55, 56,
 56, 56, 57, 57, 48, 57, 49, 57, 50, 57, 51, 57, 52, 57, 53, 57, 54, 57, 55, 57, 56, 57, 57] (IntKind.u32.wrap (IntKind.u32.wrap ((IntKind.u32.wrap ((IntKind.u32.wrap (z.fst.fst.tmod 100000000)).tdiv 10000)).tdiv 100) *
 2))).bind fun (c_7 : UInt8) => bif decide (0 ≤ IntKind.i64.wrap (z.fst.snd.fst - 7)) && decide (IntKind.i64.wrap (z.fst.snd.fst - 7) < (↑n : Int)) then ((((((z.snd.snd.snd.fst.set (0 + (IntKind.i64.wrap (z.fst.snd.fst -
 1)).toNat) c).set (0 + (IntKind.i64.wrap (z.fst.snd.fst - 2)).toNat) c_1).set (0 + (IntKind.i64.wrap (z.fst.snd.fst - 3)).toNat) c_2).set (0 + (IntKind.i64.wrap (z.fst.snd.fst - 4)).toNat) c_3).set (0 +
 (IntKind.i64.wrap (z.fst.snd.fst - 5)).toNat) c_4).set (0 + (IntKind.i64.wrap (z.fst.snd.fst - 6)).toNat) c_5)[0 + (IntKind.i64.wrap (z.fst.snd.fst - 7)).toNat]?.bind fun (e : UInt8) => bif decide (0 ≤ IntKind.i64.wrap
 (z.fst.snd.fst - 8)) && decide (IntKind.i64.wrap (z.fst.snd.fst - 8) < (↑n : Int)) then (((((((z.snd.snd.snd.fst.set (0 + (IntKind.i64.wrap (z.fst.snd.fst - 1)).toNat) c).set (0 + (IntKind.i64.wrap (z.fst.snd.fst -
 2)).toNat) c_1).set (0 + (IntKind.i64.wrap (z.fst.snd.fst - 3)).toNat) c_2).set (0 + (IntKind.i64.wrap (z.fst.snd.fst - 4)).toNat) c_3).set (0 + (IntKind.i64.wrap (z.fst.snd.fst - 5)).toNat) c_4).set (0 +
 (IntKind.i64.wrap (z.fst.snd.fst - 6)).toNat) c_5).set (0 + (IntKind.i64.wrap (z.fst.snd.fst - 7)).toNat) c_6)[0 + (IntKind.i64.wrap (z.fst.snd.fst - 8)).toNat]?.bind fun (e : UInt8) => rec ((IntKind.u64.wrap
 (z.fst.fst.tdiv 100000000), IntKind.i64.wrap (z.fst.snd.fst - 8), ()), (), (), (((((((z.snd.snd.snd.fst.set (0 + (IntKind.i64.wrap (z.fst.snd.fst - 1)).toNat) c).set (0 + (IntKind.i64.wrap (z.fst.snd.fst - 2)).toNat)
 c_1).set (0 + (IntKind.i64.wrap (z.fst.snd.fst - 3)).toNat) c_2).set (0 + (IntKind.i64.wrap (z.fst.snd.fst - 4)).toNat) c_3).set (0 + (IntKind.i64.wrap (z.fst.snd.fst - 5)).toNat) c_4).set (0 + (IntKind.i64.wrap
 (z.fst.snd.fst - 6)).toNat) c_5).set (0 + (IntKind.i64.wrap (z.fst.snd.fst - 7)).toNat) c_6).set (0 + (IntKind.i64.wrap (z.fst.snd.fst - 8)).toNat) c_7, ()) else none else none else none else none else none else none
 else none else none else joinAt (fun (z : (Int × Int × Unit) × Unit × Unit × List UInt8 × Unit) => joinAt (fun (z : (Int × Int × Unit) × Unit × Unit × List UInt8 × Unit) => bif decide (0 < z.fst.fst) then bif decide (0
 < (↑n : Int)) then z.snd.snd.snd.fst[0]?.bind fun (e : UInt8) => some (z.snd.snd.snd.fst.set 0 (toU8 (IntKind.u8.wrap (IntKind.u32.wrap (48 + z.fst.snd.fst)))), ()) else none else some (z.snd.snd.snd.fst, ())) fun (k :
 (Int × Int × Unit) × Unit × Unit × List UInt8 × Unit → Option (List UInt8 × Unit)) => bif decide (2 ≤ z.fst.fst) then (at? [48, 48, 48, 49, 48, 50, 48, 51, 48, 52, 48, 53, 48, 54, 48, 55, 48, 56, 48, 57, 49, 48, 49, 49,
 49, 50, 49, 51, 49, 52, 49, 53, 49, 54, 49, 55, 49, 56, 49, 57, 50, 48, 50, 49, 50, 50, 50, 51, 50, 52, 50, 53, 50, 54, 50, 55, 50, 56, 50, 57, 51, 48, 51, 49, 51, 50, 51, 51, 51, 52, 51, 53, 51, 54, 51, 55, 51, 56, 51,
 57, 52, 48, 52, 49, 52, 50, 52, 51, 52, 52, 52, 53, 52, 54, 52, 55, 52, 56, 52, 57, 53, 48, 53, 49, 53, 50, 53, 51, 53, 52, 53, 53, 53, 54, 53, 55, 53, 56, 53, 57, 54, 48, 54, 49, 54, 50, 54, 51, 54, 52, 54, 53, 54, 54,
 54, 55, 54, 56, 54, 57, 55, 48, 55, 49, 55, 50, 55, 51, 55, 52, 55, 53, 55, 54, 55, 55, 55, 56, 55, 57, 56, 48, 56, 49, 56, 50, 56, 51, 56, 52, 56, 53, 56, 54, 56, 55, 56, 56, 56, 57, 57, 48, 57, 49, 57, 50, 57, 51, 57,
 52, 57, 53, 57, 54, 57, 55, 57, 56, 57, 57] (IntKind.u32.wrap (IntKind.u32.wrap (z.fst.snd.fst.tmod 100 * 2) + 1))).bind fun (c : UInt8) => (at? [48, 48, 48, 49, 48, 50, 48, 51, 48, 52, 48, 53, 48, 54, 48, 55, 48, 56,
 48, 57, 49, 48, 49, 49, 49, 50, 49, 51, 49, 52, 49, 53, 49, 54, 49, 55, 49, 56, 49, 57, 50, 48, 50, 49, 50, 50, 50, 51, 50, 52, 50, 53, 50, 54, 50, 55, 50, 56, 50, 57, 51, 48, 51, 49, 51, 50, 51, 51, 51, 52, 51, 53, 51,
 54, 51, 55, 51, 56, 51, 57, 52, 48, 52, 49, 52, 50, 52, 51, 52, 52, 52, 53, 52, 54, 52, 55, 52, 56, 52, 57, 53, 48, 53, 49, 53, 50, 53, 51, 53, 52, 53, 53, 53, 54, 53, 55, 53, 56, 53, 57, 54, 48, 54, 49, 54, 50, 54, 51,
 54, 52, 54, 53, 54, 54, 54, 55, 54, 56, 54, 57, 55, 48, 55, 49, 55, 50, 55, 51, 55, 52, 55, 53, 55, 54, 55, 55, 55, 56, 55, 57, 56, 48, 56, 49, 56, 50, 56, 51, 56, 52, 56, 53, 56, 54, 56, 55, 56, 56, 56, 57, 57, 48, 57,
 49, 57, 50, 57, 51, 57, 52, 57, 53, 57, 54, 57, 55, 57, 56, 57, 57] (IntKind.u32.wrap (z.fst.snd.fst.tmod 100 * 2))).bind fun (c_1 : UInt8) => bif decide (0 ≤ IntKind.i64.wrap (z.fst.fst - 1)) && decide
 (IntKind.i64.wrap (z.fst.fst - 1) < (↑n : Int)) then z.snd.snd.snd.fst[0 + (IntKind.i64.wrap (z.fst.fst - 1)).toNat]?.bind fun (e : UInt8) => bif decide (0 ≤ IntKind.i64.wrap (z.fst.fst - 2)) && decide (IntKind.i64.wrap
 (z.fst.fst - 2) < (↑n : Int)) then (z.snd.snd.snd.fst.set (0 + (IntKind.i64.wrap (z.fst.fst - 1)).toNat) c)[0 + (IntKind.i64.wrap (z.fst.fst - 2)).toNat]?.bind fun (e : UInt8) => k ((IntKind.i64.wrap (z.fst.fst - 2),
 IntKind.u32.wrap (z.fst.snd.fst.tdiv 100), ()), (), (), (z.snd.snd.snd.fst.set (0 + (IntKind.i64.wrap (z.fst.fst - 1)).toNat) c).set (0 + (IntKind.i64.wrap (z.fst.fst - 2)).toNat) c_1, ()) else none else none else k
 ((z.fst.fst, z.fst.snd.fst, ()), (), (), z.snd.snd.snd.fst, ())) fun (k : (Int × Int × Unit) × Unit × Unit × List UInt8 × Unit → Option (List UInt8 × Unit)) => bif decide (4 ≤ z.fst.snd.fst) then (at? [48, 48, 48, 49,
 48, 50, 48, 51, 48, 52, 48, 53, 48, 54, 48, 55, 48, 56, 48, 57, 49, 48, 49, 49, 49, 50, 49, 51, 49, 52, 49, 53, 49, 54, 49, 55, 49, 56, 49, 57, 50, 48, 50, 49, 50, 50, 50, 51, 50, 52, 50, 53, 50, 54, 50, 55, 50, 56, 50,
 57, 51, 48, 51, 49, 51, 50, 51, 51, 51, 52, 51, 53, 51, 54, 51, 55, 51, 56, 51, 57, 52, 48, 52, 49, 52, 50, 52, 51, 52, 52, 52, 53, 52, 54, 52, 55, 52, 56, 52, 57, 53, 48, 53, 49, 53, 50, 53, 51, 53, 52, 53, 53, 53, 54,
 53, 55, 53, 56, 53, 57, 54, 48, 54, 49, 54, 50, 54, 51, 54, 52, 54, 53, 54, 54, 54, 55, 54, 56, 54, 57, 55, 48, 55, 49, 55, 50, 55, 51, 55, 52, 55, 53, 55, 54, 55, 55, 55, 56, 55, 57, 56, 48, 56, 49, 56, 50, 56, 51, 56,
 52, 56, 53, 56, 54, 56, 55, 56, 56, 56, 57, 57, 48, 57, 49, 57, 50, 57, 51, 57, 52, 57, 53, 57, 54, 57, 55, 57, 56, 57, 57] (IntKind.u32.wrap (IntKind.u32.wrap (((IntKind.u32.wrap z.fst.fst).tmod 10000).tmod 100 * 2) +
 1))).bind fun (c : UInt8) => (at? [48, 48, 48, 49, 48, 50, 48, 51, 48, 52, 48, 53, 48, 54, 48, 55, 48, 56, 48, 57, 49, 48, 49, 49, 49, 50, 49, 51, 49, 52, 49, 53, 49, 54, 49, 55, 49, 56, 49, 57, 50, 48, 50, 49, 50, 50,
 50, 51, 50, 52, 50, 53, 50, 54, 50, 55, 50, 56, 50, 57, 51, 48, 51, 49, 51, 50, 51, 51, 51, 52, 51, 53, 51, 54, 51, 55, 51, 56, 51, 57, 52, 48, 52, 49, 52, 50, 52, 51, 52, 52, 52, 53, 52, 54, 52, 55, 52, 56, 52, 57, 53,
 48, 53, 49, 53, 50, 53, 51, 53, 52, 53, 53, 53, 54, 53, 55, 53, 56, 53, 57, 54, 48, 54, 49, 54, 50, 54, 51, 54, 52, 54, 53, 54, 54, 54, 55, 54, 56, 54, 57, 55, 48, 55, 49, 55, 50, 55, 51, 55, 52, 55, 53, 55, 54, 55, 55,
 55, 56, 55, 57, 56, 48, 56, 49, 56, 50, 56, 51, 56, 52, 56, 53, 56, 54, 56, 55, 56, 56, 56, 57, 57, 48, 57, 49, 57, 50, 57, 51, 57, 52, 57, 53, 57, 54, 57, 55, 57, 56, 57, 57] (IntKind.u32.wrap (((IntKind.u32.wrap
 z.fst.fst).tmod 10000).tmod 100 * 2))).bind fun (c_1 : UInt8) => bif decide (0 ≤ IntKind.i64.wrap (z.fst.snd.fst - 1)) && decide (IntKind.i64.wrap (z.fst.snd.fst - 1) < (↑n : Int)) then z.snd.snd.snd.fst[0 +
 (IntKind.i64.wrap (z.fst.snd.fst - 1)).toNat]?.bind fun (e : UInt8) => bif decide (0 ≤ IntKind.i64.wrap (z.fst.snd.fst - 2)) && decide (IntKind.i64.wrap (z.fst.snd.fst - 2) < (↑n : Int)) then (z.snd.snd.snd.fst.set (0 +
 (IntKind.i64.wrap (z.fst.snd.fst - 1)).toNat) c)[0 + (IntKind.i64.wrap (z.fst.snd.fst - 2)).toNat]?.bind fun (e : UInt8) => (at? [48, 48, 48, 49, 48, 50, 48, 51, 48, 52, 48, 53, 48, 54, 48, 55, 48, 56, 48, 57, 49, 48,
 49, 49, 49, 50, 49, 51, 49, 52, 49, 53, 49, 54, 49, 55, 49, 56, 49, 57, 50, 48, 50, 49, 50, 50, 50, 51, 50, 52, 50, 53, 50, 54, 50, 55, 50, 56, 50, 57, 51, 48, 51, 49, 51, 50, 51, 51, 51, 52, 51, 53, 51, 54, 51, 55, 51,
 56, 51, 57, 52, 48, 52, 49, 52, 50, 52, 51, 52, 52, 52, 53, 52, 54, 52, 55, 52, 56, 52, 57, 53, 48, 53, 49, 53, 50, 53, 51, 53, 52, 53, 53, 53, 54, 53, 55, 53, 56, 53, 57, 54, 48, 54, 49, 54, 50, 54, 51, 54, 52, 54, 53,
 54, 54, 54, 55, 54, 56, 54, 57, 55, 48, 55, 49, 55, 50, 55, 51, 55, 52, 55, 53, 55, 54, 55, 55, 55, 56, 55, 57, 56, 48, 56, 49, 56, 50, 56, 51, 56, 52, 56, 53, 56, 54, 56, 55, 56, 56, 56, 57, 57, 48, 57, 49, 57, 50, 57,
 51, 57, 52, 57, 53, 57, 54, 57, 55, 57, 56, 57, 57] (IntKind.u32.wrap (IntKind.u32.wrap (IntKind.u32.wrap (((IntKind.u32.wrap z.fst.fst).tmod 10000).tdiv 100) * 2) + 1))).bind fun (c_2 : UInt8) => (at? [48, 48, 48, 49,
 48, 50, 48, 51, 48, 52, 48, 53, 48, 54, 48, 55, 48, 56, 48, 57, 49, 48, 49, 49, 49, 50, 49, 51, 49, 52, 49, 53, 49, 54, 49, 55, 49, 56, 49, 57, 50, 48, 50, 49, 50, 50, 50, 51, 50, 52, 50, 53, 50, 54, 50, 55, 50, 56, 50,
 57, 51, 48, 51, 49, 51, 50, 51, 51, 51, 52, 51, 53, 51, 54, 51, 55, 51, 56, 51, 57, 52, 48, 52, 49, 52, 50, 52, 51, 52, 52, 52, 53, 52, 54, 52, 55, 52, 56, 52, 57, 53, 48, 53, 49, 53, 50, 53, 51, 53, 52, 53, 53, 53, 54,
 53, 55, 53, 56, 53, 57, 54, 48, 54, 49, 54, 50, 54, 51, 54, 52, 54, 53, 54, 54, 54, 55, 54, 56, 54, 57, 55, 48, 55, 49, 55, 50, 55, 51, 55, 52, 55, 53, 55, 54, 55, 55, 55, 56, 55, 57, 56, 48, 56, 49, 56, 50, 56, 51, 56,
 52, 56, 53, 56, 54, 56, 55, 56, 56, 56, 57, 57, 48, 57, 49, 57, 50, 57, 51, 57, 52, 57, 53, 57, 54, 57, 55, 57, 56, 57, 57] (IntKind.u32.wrap (IntKind.u32.wrap (((IntKind.u32.wrap z.fst.fst).tmod 10000).tdiv 100) *
 2))).bind fun (c_3 : UInt8) => bif decide (0 ≤ IntKind.i64.wrap (z.fst.snd.fst - 3)) && decide (IntKind.i64.wrap (z.fst.snd.fst - 3) < (↑n : Int)) then ((z.snd.snd.snd.fst.set (0 + (IntKind.i64.wrap (z.fst.snd.fst -
 1)).toNat) c).set (0 + (IntKind.i64.wrap (z.fst.snd.fst - 2)).toNat) c_1)[0 + (IntKind.i64.wrap (z.fst.snd.fst - 3)).toNat]?.bind fun (e : UInt8) => bif decide (0 ≤ IntKind.i64.wrap (z.fst.snd.fst - 4)) && decide
 (IntKind.i64.wrap (z.fst.snd.fst - 4) < (↑n : Int)) then (((z.snd.snd.snd.fst.set (0 + (IntKind.i64.wrap (z.fst.snd.fst - 1)).toNat) c).set (0 + (IntKind.i64.wrap (z.fst.snd.fst - 2)).toNat) c_1).set (0 +
 (IntKind.i64.wrap (z.fst.snd.fst - 3)).toNat) c_2)[0 + (IntKind.i64.wrap (z.fst.snd.fst - 4)).toNat]?.bind fun (e : UInt8) => k ((IntKind.i64.wrap (z.fst.snd.fst - 4), IntKind.u32.wrap ((IntKind.u32.wrap z.fst.fst).tdiv
 10000), ()), (), (), (((z.snd.snd.snd.fst.set (0 + (IntKind.i64.wrap (z.fst.snd.fst - 1)).toNat) c).set (0 + (IntKind.i64.wrap (z.fst.snd.fst - 2)).toNat) c_1).set (0 + (IntKind.i64.wrap (z.fst.snd.fst - 3)).toNat)
 c_2).set (0 + (IntKind.i64.wrap (z.fst.snd.fst - 4)).toNat) c_3, ()) else none else none else none else none else k ((z.fst.snd.fst, IntKind.u32.wrap z.fst.fst, ()), (), (), z.snd.snd.snd.fst, ())) N ((x, (↑n : Int),
 ()), (), (), l, ())
theorem E_internal_strconv_formatBase10 (N : Nat) : runO Tryd.prog [] [] N Tryd.f120 (.seq .lf (.seq (.blk (.loop ⟨[(1, .d (.int .u64)), (4, .d (.int .i64))], [], [0], [], [], [(1, .arr .u8)]⟩ .lf)) (.seq .lf (.join ⟨[(4, .d (.int .i64)), (12, .d (.int .u32))], [], [0], [], [], [(1, .arr .u8)]⟩ .lf (.join ⟨[(4, .d (.int .i64)), (12, .d (.int .u32))], [], [0], [], [], [(1, .arr .u8)]⟩ .lf .lf))))) .u8 [.d (.int .u64)] [] = F_internal_strconv_formatBase10 N := by kernel_rfl
noncomputable def e_internal_strconv_formatBase10 (N : Nat) : Ent Tryd.prog := mkO2 120 Tryd.f120 (.seq .lf (.seq (.blk (.loop ⟨[(1, .d (.int .u64)), (4, .d (.int .i64))], [], [0], [], [], [(1, .arr .u8)]⟩ .lf)) (.seq .lf (.join ⟨[(4, .d (.int .i64)), (12, .d (.int .u32))], [], [0], [], [], [(1, .arr .u8)]⟩ .lf (.join ⟨[(4, .d (.int .i64)), (12, .d (.int .u32))], [], [0], [], [], [(1, .arr .u8)]⟩ .lf .lf))))) (.seq .lf (.seq (.blk (.loop ⟨[(1, .d (.int .u64)), (4, .d (.int .i64))], [], [0], [], [], []⟩ .lf)) (.seq .lf (.join ⟨[(4, .d (.int .i64)), (12, .d (.int .u32))], [], [0], [], [], []⟩ .lf (.join ⟨[(4, .d (.int .i64)), (12, .d (.int .u32))], [], [0], [], [], []⟩ .lf .lf))))) .u8 [.d (.int .u64)] [] (F_internal_strconv_formatBase10 N) (F0_internal_strconv_formatBase10 N) mixed Tryd.func120 (.mk' Tryd.func120 rfl (by decide)) rfl (E_internal_strconv_formatBase10 N) (E0_internal_strconv_formatBase10 N)
noncomputable def e_internal_strconv_formatBits (N : Nat) : Ent Tryd.prog := mkNone 121
noncomputable def F_internal_strconv_FormatUint (N : Nat) : Fun [(.int .u64), (.int .i64), (.tab (.int .u64))] (Option (ResT [.str])) := fun (x x_1 : Int) (x_2 : List Int) => bif x_1 == 10 then bif decide (x < 100) then
 Option.bind (F_internal_strconv_small N (IntKind.i64.wrap x)) fun (y : List UInt8) => some y else Option.bind (F_internal_strconv_numDigits N x x_2) fun (y : Int) => bif cutOk 0 y 24 then Option.bind
 (F_internal_strconv_formatBase10 N (List.replicate 24 0) (y.toNat - 0) x) fun (y_1 : List UInt8 × Unit) => bif Nat.ble 24 y_1.fst.length then bif cutOk 0 y 24 then bif (0 + (y.toNat - 0)).ble y_1.fst.length then some
 (List.take (y.toNat - 0) (List.drop 0 y_1.fst)) else none else none else none else none else none
theorem E_internal_strconv_FormatUint (N : Nat) : runG Tryd.prog [e_internal_strconv_small N, e_internal_strconv_numDigits N, e_internal_strconv_formatBase10 N, e_internal_strconv_formatBits N] [5] N Tryd.f90 .lf [(.int .u64), (.int .i64), (.tab (.int .u64))] [.str] 2 [3] = F_internal_strconv_FormatUint N := by kernel_rfl
noncomputable def e_internal_strconv_FormatUint (N : Nat) : Ent Tryd.prog := mkFnG 90 Tryd.f90 .lf [(.int .u64), (.int .i64), (.tab (.int .u64))] [.str] 2 [3] (F_internal_strconv_FormatUint N) mixed Tryd.func90 (.mk' Tryd.func90 rfl (by decide)) rfl (E_internal_strconv_FormatUint N)
noncomputable def F_strconv_FormatUint (N : Nat) : Fun [(.int .u64), (.int .i64), (.tab (.int .u64))] (Option (ResT [.str])) := fun (x x_1 : Int) (x_2 : List Int) => Option.bind (F_internal_strconv_FormatUint N x x_1
 x_2) fun (y : List UInt8) => some y
theorem E_strconv_FormatUint (N : Nat) : runG Tryd.prog [e_internal_strconv_FormatUint N] [] N Tryd.f45 .lf [(.int .u64), (.int .i64), (.tab (.int .u64))] [.str] 2 [3] = F_strconv_FormatUint N := by kernel_rfl
noncomputable def e_strconv_FormatUint (N : Nat) : Ent Tryd.prog := mkFnG 45 Tryd.f45 .lf [(.int .u64), (.int .i64), (.tab (.int .u64))] [.str] 2 [3] (F_strconv_FormatUint N) mixed Tryd.func45 (.mk' Tryd.func45 rfl (by decide)) rfl (E_strconv_FormatUint N)
noncomputable def F_dot_Text (N : Nat) : Fun [tDot, (.tab (.int .u64))] (Option (ResT [.str])) := fun (x : Int × Int) (x_1 : List Int) => Option.bind (F_strconv_FormatUint N (IntKind.u64.wrap x.fst) 10 x_1) fun (y : List
 UInt8) => bif decide (y.length + 1 ≤ 4611686018427387904) then Option.bind (F_strconv_FormatUint N x.snd 10 x_1) fun (y_1 : List UInt8) => bif decide ((y ++ [46]).length + y_1.length ≤ 4611686018427387904) then some (y
 ++ [46] ++ y_1) else none else none
noncomputable def F_dot_Good (N : Nat) : Fun [tDot] (Option (ResT [.bool])) := fun (x : Int × Int) => bif decide (0 < x.fst) then bif decide (0 < x.snd) then some (decide (x.snd ≤ 281474976710655)) else some false else
 some false
theorem E_dot_Good (N : Nat) : runF Tryd.prog [] [] N Tryd.f38 .lf [tDot] [.bool] = F_dot_Good N := by kernel_rfl
noncomputable def e_dot_Good (N : Nat) : Ent Tryd.prog := mkFn 38 Tryd.f38 .lf [tDot] [.bool] (F_dot_Good N) mixed Tryd.func38 (.mk' Tryd.func38 rfl (by decide)) rfl (E_dot_Good N)
noncomputable def e_internal_bytealg_IndexByteString (N : Nat) : Ent Tryd.prog := mkIdxByte 158 ⟨_, rfl, rfl, rfl, by kernel_rfl, by kernel_rfl⟩
noncomputable def F_internal_stringslite_IndexByte (N : Nat) : Fun [.str, .u8] (Option (ResT [(.int .i64)])) := fun (x : List UInt8) (x_1 : UInt8) => some (Lib.indexByte x x_1)
theorem E_internal_stringslite_IndexByte (N : Nat) : runF Tryd.prog [e_internal_bytealg_IndexByteString N] [] N Tryd.f133 .lf [.str, .u8] [(.int .i64)] = F_internal_stringslite_IndexByte N := by kernel_rfl
noncomputable def e_internal_stringslite_IndexByte (N : Nat) : Ent Tryd.prog := mkFn 133 Tryd.f133 .lf [.str, .u8] [(.int .i64)] (F_internal_stringslite_IndexByte N) mixed Tryd.func133 (.mk' Tryd.func133 rfl (by decide)) rfl (E_internal_stringslite_IndexByte N)
noncomputable def e_internal_bytealg_IndexString (N : Nat) : Ent Tryd.prog := mkNone 134
noncomputable def e_internal_bytealg_Cutover (N : Nat) : Ent Tryd.prog := mkNone 135
noncomputable def e_internal_bytealg_IndexRabinKarp_string (N : Nat) : Ent Tryd.prog := mkNone 136
noncomputable def F_internal_stringslite_Index (N : Nat) : Fun [.str, .str] (Option (ResT [(.int .i64)])) := fun (x x_1 : List UInt8) => bif (↑x_1.length : Int) == 0 then some 0 else bif x_1 == x then some 0 else bif
 (↑x_1.length : Int) == 1 then x_1[0]?.bind fun (c : UInt8) => Option.bind (F_internal_stringslite_IndexByte N x c) fun (y : Int) => some y else bif decide ((↑x.length : Int) ≤ (↑x_1.length : Int)) then some (-1) else
 none
theorem E_internal_stringslite_Index (N : Nat) : runF Tryd.prog [e_internal_stringslite_IndexByte N, e_internal_bytealg_IndexString N, e_internal_bytealg_Cutover N, e_internal_bytealg_IndexRabinKarp_string N] [] N Tryd.f111 (.seq .lf (.seq .lf (.seq (.blk (.seq .lf (.cond .lf (.seq .lf (.cond .lf (.seq .lf (.cond .lf .stop))))))) (.seq .lf (.seq .lf (.seq .lf (.seq .lf (.seq .lf (.seq (.blk (.loop ⟨[(8, .d (.int .i64)), (10, .d (.int .i64))], [], [0, 1, 5, 6, 7, 9], [], [], []⟩ (.seq .lf (.blk (.join ⟨[(8, .d (.int .i64))], [], [0, 1, 5, 6, 7, 9, 10], [], [], []⟩ .lf .lf))))) .lf))))))))) [.str, .str] [(.int .i64)] = F_internal_stringslite_Index N := by kernel_rfl
noncomputable def e_internal_stringslite_Index (N : Nat) : Ent Tryd.prog := mkFn 111 Tryd.f111 (.seq .lf (.seq .lf (.seq (.blk (.seq .lf (.cond .lf (.seq .lf (.cond .lf (.seq .lf (.cond .lf .stop))))))) (.seq .lf (.seq .lf (.seq .lf (.seq .lf (.seq .lf (.seq (.blk (.loop ⟨[(8, .d (.int .i64)), (10, .d (.int .i64))], [], [0, 1, 5, 6, 7, 9], [], [], []⟩ (.seq .lf (.blk (.join ⟨[(8, .d (.int .i64))], [], [0, 1, 5, 6, 7, 9, 10], [], [], []⟩ .lf .lf))))) .lf))))))))) [.str, .str] [(.int .i64)] (F_internal_stringslite_Index N) mixed Tryd.func111 (.mk' Tryd.func111 rfl (by decide)) rfl (E_internal_stringslite_Index N)
noncomputable def F_internal_stringslite_Cut (N : Nat) : Fun [.str, .str] (Option (ResT [.str, .str, .bool])) := fun (x x_1 : List UInt8) => Option.bind (F_internal_stringslite_Index N x x_1) fun (y : Int) => bif decide
 (0 ≤ y) then bif cutOk 0 y x.length then bif cutOk (IntKind.i64.wrap (y + (↑x_1.length : Int))) (↑x.length : Int) x.length then some (List.take y.toNat x, List.drop (IntKind.i64.wrap (y + (↑x_1.length : Int))).toNat x,
 true) else none else none else some (x, [], false)
theorem E_internal_stringslite_Cut (N : Nat) : runF Tryd.prog [e_internal_stringslite_Index N] [] N Tryd.f98 .lf [.str, .str] [.str, .str, .bool] = F_internal_stringslite_Cut N := by kernel_rfl
noncomputable def e_internal_stringslite_Cut (N : Nat) : Ent Tryd.prog := mkFn 98 Tryd.f98 .lf [.str, .str] [.str, .str, .bool] (F_internal_stringslite_Cut N) mixed Tryd.func98 (.mk' Tryd.func98 rfl (by decide)) rfl (E_internal_stringslite_Cut N)
noncomputable def F_strings_Cut (N : Nat) : Fun [.str, .str] (Option (ResT [.str, .str, .bool])) := fun (x x_1 : List UInt8) => Option.bind (F_internal_stringslite_Cut N x x_1) fun (y : List UInt8 × List UInt8 × Bool) =>
 some y
theorem E_strings_Cut (N : Nat) : runF Tryd.prog [e_internal_stringslite_Cut N] [] N Tryd.f63 .lf [.str, .str] [.str, .str, .bool] = F_strings_Cut N := by kernel_rfl
noncomputable def e_strings_Cut (N : Nat) : Ent Tryd.prog := mkFn 63 Tryd.f63 .lf [.str, .str] [.str, .str, .bool] (F_strings_Cut N) mixed Tryd.func63 (.mk' Tryd.func63 rfl (by decide)) rfl (E_strings_Cut N)
noncomputable def F_internal_strconv_lower (N : Nat) : Fun [.u8] (Option (ResT [.u8])) := fun (x : UInt8) => some (toU8 (bits BinOp.or IntKind.u8 (↑x.toNat : Int) 32))
theorem E_internal_strconv_lower (N : Nat) : runF Tryd.prog [] [] N Tryd.f125 .lf [.u8] [.u8] = F_internal_strconv_lower N := by kernel_rfl
noncomputable def e_internal_strconv_lower (N : Nat) : Ent Tryd.prog := mkFn 125 Tryd.f125 .lf [.u8] [.u8] (F_internal_strconv_lower N) mixed Tryd.func125 (.mk' Tryd.func125 rfl (by decide)) rfl (E_internal_strconv_lower N)
noncomputable def e_internal_strconv_underscoreOK (N : Nat) : Ent Tryd.prog := mkNone 126
noncomputable def F_internal_strconv_ParseUint (N : Nat) : Fun [.str, (.int .i64), (.int .i64)] (Option (ResT [(.int .u64), (.ic 148 .i64)])) := fun (x : List UInt8) (x_1 x_2 : Int) => bif x == [] then some (0, some 2)
 else joinAt (fun (z : (List UInt8 × Int × Unit) × Unit × Unit × Unit) => joinAt (fun (z_1 : (Int × Unit) × Unit × Unit × Unit) => joinAt (fun (z_2 : (Int × Unit) × Unit × Unit × Unit) => bif decide (0 ≤ IntKind.u64.wrap
 z_1.fst.fst) then iter (fun (rec : (Bool × Int × Int × Unit) × Unit × Unit × Unit → Option (Int × Option Int)) (z_3 : (Bool × Int × Int × Unit) × Unit × Unit × Unit) => bif decide (z_3.fst.snd.snd.fst <
 (↑z.fst.fst.length : Int)) then (at? z.fst.fst z_3.fst.snd.snd.fst).bind fun (e : UInt8) => joinAt (fun (z_4 : (Bool × UInt8 × Unit) × Unit × Unit × Unit) => bif decide (toU8 (IntKind.u8.wrap z.fst.snd.fst) ≤
 z_4.fst.snd.fst) then some (0, some 2) else bif decide (z_2.fst.fst ≤ z_3.fst.snd.fst) then some (IntKind.u64.wrap (IntKind.u64.wrap (1 * 2 ^ min (IntKind.u64.wrap z_1.fst.fst).toNat 64) - 1), some 1) else bif decide
 (IntKind.u64.wrap (IntKind.u64.wrap (z_3.fst.snd.fst * IntKind.u64.wrap z.fst.snd.fst) + (↑z_4.fst.snd.fst.toNat : Int)) < IntKind.u64.wrap (z_3.fst.snd.fst * IntKind.u64.wrap z.fst.snd.fst)) then some (IntKind.u64.wrap
 (IntKind.u64.wrap (1 * 2 ^ min (IntKind.u64.wrap z_1.fst.fst).toNat 64) - 1), some 1) else bif decide (IntKind.u64.wrap (IntKind.u64.wrap (1 * 2 ^ min (IntKind.u64.wrap z_1.fst.fst).toNat 64) - 1) < IntKind.u64.wrap
 (IntKind.u64.wrap (z_3.fst.snd.fst * IntKind.u64.wrap z.fst.snd.fst) + (↑z_4.fst.snd.fst.toNat : Int))) then some (IntKind.u64.wrap (IntKind.u64.wrap (1 * 2 ^ min (IntKind.u64.wrap z_1.fst.fst).toNat 64) - 1), some 1)
 else rec ((z_4.fst.fst, IntKind.u64.wrap (IntKind.u64.wrap (z_3.fst.snd.fst * IntKind.u64.wrap z.fst.snd.fst) + (↑z_4.fst.snd.fst.toNat : Int)), IntKind.i64.wrap (z_3.fst.snd.snd.fst + 1), ()), (), (), ())) fun (k :
 (Bool × UInt8 × Unit) × Unit × Unit × Unit → Option (Int × Option Int)) => bif e == 95 then bif x_1 == 0 then none else bif decide (48 ≤ e) then bif decide (e ≤ 57) then k ((z_3.fst.fst, e - 48, ()), (), (), ()) else
 Option.bind (F_internal_strconv_lower N e) fun (y : UInt8) => bif decide (97 ≤ y) then Option.bind (F_internal_strconv_lower N e) fun (y : UInt8) => bif decide (y ≤ 122) then Option.bind (F_internal_strconv_lower N e)
 fun (y : UInt8) => k ((z_3.fst.fst, y - 97 + 10, ()), (), (), ()) else some (0, some 2) else some (0, some 2) else Option.bind (F_internal_strconv_lower N e) fun (y : UInt8) => bif decide (97 ≤ y) then Option.bind
 (F_internal_strconv_lower N e) fun (y : UInt8) => bif decide (y ≤ 122) then Option.bind (F_internal_strconv_lower N e) fun (y : UInt8) => k ((z_3.fst.fst, y - 97 + 10, ()), (), (), ()) else some (0, some 2) else some
 (0, some 2) else bif decide (48 ≤ e) then bif decide (e ≤ 57) then k ((z_3.fst.fst, e - 48, ()), (), (), ()) else Option.bind (F_internal_strconv_lower N e) fun (y : UInt8) => bif decide (97 ≤ y) then Option.bind
 (F_internal_strconv_lower N e) fun (y : UInt8) => bif decide (y ≤ 122) then Option.bind (F_internal_strconv_lower N e) fun (y : UInt8) => k ((z_3.fst.fst, y - 97 + 10, ()), (), (), ()) else some (0, some 2) else some
 (0, some 2) else Option.bind (F_internal_strconv_lower N e) fun (y : UInt8) => bif decide (97 ≤ y) then Option.bind (F_internal_strconv_lower N e) fun (y : UInt8) => bif decide (y ≤ 122) then Option.bind
 (F_internal_strconv_lower N e) fun (y : UInt8) => k ((z_3.fst.fst, y - 97 + 10, ()), (), (), ()) else some (0, some 2) else some (0, some 2) else bif z_3.fst.fst then none else some (z_3.fst.snd.fst, none)) N ((false,
 0, 0, ()), (), (), ()) else none) fun (k : (Int × Unit) × Unit × Unit × Unit → Option (Int × Option Int)) => bif z.fst.snd.fst == 10 then k ((1844674407370955162, ()), (), (), ()) else none) fun (k : (Int × Unit) × Unit
 × Unit × Unit → Option (Int × Option Int)) => bif x_2 == 0 then k ((64, ()), (), (), ()) else bif decide (x_2 < 0) then some (0, some 4) else bif decide (64 < x_2) then some (0, some 4) else k ((x_2, ()), (), (), ()))
 fun (k : (List UInt8 × Int × Unit) × Unit × Unit × Unit → Option (Int × Option Int)) => bif decide (2 ≤ x_1) then bif decide (x_1 ≤ 36) then k ((x, x_1, ()), (), (), ()) else none else none
theorem E_internal_strconv_ParseUint (N : Nat) : runF Tryd.prog [e_internal_strconv_lower N, e_internal_strconv_underscoreOK N] [] N Tryd.f104 (.seq .lf (.seq .lf (.seq .lf (.seq .lf (.join ⟨[(0, .d .str), (1, .d (.int .i64))], [], [2, 8, 9], [], [], []⟩ (.blk (.seq .lf (.cond .lf .stop))) (.join ⟨[(2, .d (.int .i64))], [], [0, 1, 8, 9], [], [], []⟩ .lf (.seq .lf (.join ⟨[(10, .d (.int .u64))], [], [0, 1, 2, 8, 9], [], [], []⟩ (.seq .lf (.blk (.seq .lf (.cond .lf .stop)))) (.seq .lf (.seq .lf (.seq .lf (.seq (.seq .lf (.blk (.loop ⟨[(12, .d .bool), (13, .d (.int .u64)), (101, .d (.int .i64))], [], [1, 8, 9, 10, 11, 99, 100], [], [], []⟩ (.seq .lf (.seq .lf (.seq (.blk (.seq .lf (.seq .lf (.join ⟨[(12, .d .bool), (16, .d .u8)], [], [1, 8, 9, 10, 11, 13, 99, 100, 101], [], [], []⟩ (.blk (.seq .lf (.cond .stop .lf))) .lf)))) .lf)))))) (.seq (.seq .lf (.cond .stop .lf)) .lf))))))))))))) [.str, (.int .i64), (.int .i64)] [(.int .u64), (.ic 148 .i64)] = F_internal_strconv_ParseUint N := by kernel_rfl
noncomputable def e_internal_strconv_ParseUint (N : Nat) : Ent Tryd.prog := mkFn 104 Tryd.f104 (.seq .lf (.seq .lf (.seq .lf (.seq .lf (.join ⟨[(0, .d .str), (1, .d (.int .i64))], [], [2, 8, 9], [], [], []⟩ (.blk (.seq .lf (.cond .lf .stop))) (.join ⟨[(2, .d (.int .i64))], [], [0, 1, 8, 9], [], [], []⟩ .lf (.seq .lf (.join ⟨[(10, .d (.int .u64))], [], [0, 1, 2, 8, 9], [], [], []⟩ (.seq .lf (.blk (.seq .lf (.cond .lf .stop)))) (.seq .lf (.seq .lf (.seq .lf (.seq (.seq .lf (.blk (.loop ⟨[(12, .d .bool), (13, .d (.int .u64)), (101, .d (.int .i64))], [], [1, 8, 9, 10, 11, 99, 100], [], [], []⟩ (.seq .lf (.seq .lf (.seq (.blk (.seq .lf (.seq .lf (.join ⟨[(12, .d .bool), (16, .d .u8)], [], [1, 8, 9, 10, 11, 13, 99, 100, 101], [], [], []⟩ (.blk (.seq .lf (.cond .stop .lf))) .lf)))) .lf)))))) (.seq (.seq .lf (.cond .stop .lf)) .lf))))))))))))) [.str, (.int .i64), (.int .i64)] [(.int .u64), (.ic 148 .i64)] (F_internal_strconv_ParseUint N) mixed Tryd.func104 (.mk' Tryd.func104 rfl (by decide)) rfl (E_internal_strconv_ParseUint N)
noncomputable def F_internal_stringslite_Clone (N : Nat) : Fun [.str] (Option (ResT [.str])) := fun (x : List UInt8) => bif (↑x.length : Int) == 0 then some [] else bif decide (1 * (↑x.length : Int).toNat ≤
 281474976710656) && decide ((↑x.length : Int) ≤ 9223372036854775807) then bif (↑x.length : Int).toNat.beq (repB 0 (↑x.length : Int).toNat).length then bif (repB 0 (↑x.length : Int).toNat).length.beq x.length then bif
 decide (0 < (↑(↑x.length : Int).toNat : Int)) then bif x.length.beq 0 then none else bif (↑(↑x.length : Int).toNat : Int) == (↑x.length : Int) then bif decide (x.length ≤ 9223372036854775807) then some x else none else
 none else none else none else none else none
theorem E_internal_stringslite_Clone (N : Nat) : runF Tryd.prog [] [1000009] N Tryd.f147 .lf [.str] [.str] = F_internal_stringslite_Clone N := by kernel_rfl
noncomputable def e_internal_stringslite_Clone (N : Nat) : Ent Tryd.prog := mkFn 147 Tryd.f147 .lf [.str] [.str] (F_internal_stringslite_Clone N) mixed Tryd.func147 (.mk' Tryd.func147 rfl (by decide)) rfl (E_internal_stringslite_Clone N)
noncomputable def F_strconv_syntaxError (N : Nat) : Fun [.str, .str, (.tab .err)] (Option (ResT [.ptr])) := fun (x x_1 : List UInt8) (x_2 : List Bool) => Option.bind (F_internal_stringslite_Clone N x_1) fun (y : List
 UInt8) => listCase x_2 none fun (z : Bool) (r : List Bool) => some ()
theorem E_strconv_syntaxError (N : Nat) : runG Tryd.prog [e_internal_stringslite_Clone N] [] N Tryd.f127 .lf [.str, .str, (.tab .err)] [.ptr] 2 [4] = F_strconv_syntaxError N := by kernel_rfl
noncomputable def e_strconv_syntaxError (N : Nat) : Ent Tryd.prog := mkFnG 127 Tryd.f127 .lf [.str, .str, (.tab .err)] [.ptr] 2 [4] (F_strconv_syntaxError N) mixed Tryd.func127 (.mk' Tryd.func127 rfl (by decide)) rfl (E_strconv_syntaxError N)
noncomputable def F_strconv_rangeError (N : Nat) : Fun [.str, .str, (.tab .err)] (Option (ResT [.ptr])) := fun (x x_1 : List UInt8) (x_2 : List Bool) => Option.bind (F_internal_stringslite_Clone N x_1) fun (y : List
 UInt8) => listCase x_2 none fun (z : Bool) (r : List Bool) => some ()
theorem E_strconv_rangeError (N : Nat) : runG Tryd.prog [e_internal_stringslite_Clone N] [] N Tryd.f128 .lf [.str, .str, (.tab .err)] [.ptr] 2 [5] = F_strconv_rangeError N := by kernel_rfl
noncomputable def e_strconv_rangeError (N : Nat) : Ent Tryd.prog := mkFnG 128 Tryd.f128 .lf [.str, .str, (.tab .err)] [.ptr] 2 [5] (F_strconv_rangeError N) mixed Tryd.func128 (.mk' Tryd.func128 rfl (by decide)) rfl (E_strconv_rangeError N)
noncomputable def e_strconv_baseError (N : Nat) : Ent Tryd.prog := mkNone 129
noncomputable def e_strconv_bitSizeError (N : Nat) : Ent Tryd.prog := mkNone 130
noncomputable def F_strconv_toError (N : Nat) : Fun [.str, .str, (.int .i64), (.int .i64), (.ic 148 .i64), (.tab .err), (.tab .err)] (Option (ResT [.err])) := fun (x x_1 : List UInt8) (x_2 x_3 : Int) (x_4 : Option Int)
 (x_5 x_6 : List Bool) => bif bif false then !x_4 == some 2 else x_4 == some 2 then Option.bind (F_strconv_syntaxError N x x_1 x_5) fun (y : Unit) => some true else bif bif false then !x_4 == some 1 else x_4 == some 1
 then Option.bind (F_strconv_rangeError N x x_1 x_6) fun (y : Unit) => some true else bif bif false then !x_4 == some 3 else x_4 == some 3 then none else bif bif false then !x_4 == some 4 else x_4 == some 4 then none
 else some x_4.isSome
theorem E_strconv_toError (N : Nat) : runG Tryd.prog [e_strconv_syntaxError N, e_strconv_rangeError N, e_strconv_baseError N, e_strconv_bitSizeError N] [] N Tryd.f105 .lf [.str, .str, (.int .i64), (.int .i64), (.ic 148 .i64), (.tab .err), (.tab .err)] [.err] 5 [4, 5] = F_strconv_toError N := by kernel_rfl
noncomputable def e_strconv_toError (N : Nat) : Ent Tryd.prog := mkFnG 105 Tryd.f105 .lf [.str, .str, (.int .i64), (.int .i64), (.ic 148 .i64), (.tab .err), (.tab .err)] [.err] 5 [4, 5] (F_strconv_toError N) mixed Tryd.func105 (.mk' Tryd.func105 rfl (by decide)) rfl (E_strconv_toError N)
noncomputable def F_strconv_ParseUint (N : Nat) : Fun [.str, (.int .i64), (.int .i64), (.tab .err), (.tab .err)] (Option (ResT [(.int .u64), .err])) := fun (x : List UInt8) (x_1 x_2 : Int) (x_3 x_4 : List Bool) =>
 Option.bind (F_internal_strconv_ParseUint N x x_1 x_2) fun (y : Int × Option Int) => bif bif true then !y.snd.isNone else y.snd.isNone then Option.bind (F_strconv_toError N [80, 97, 114, 115, 101, 85, 105, 110, 116] x
 x_1 x_2 y.snd x_3 x_4) fun (y_1 : Bool) => some (y.fst, y_1) else some (y.fst, false)
theorem E_strconv_ParseUint (N : Nat) : runG Tryd.prog [e_internal_strconv_ParseUint N, e_strconv_toError N] [] N Tryd.f72 .lf [.str, (.int .i64), (.int .i64), (.tab .err), (.tab .err)] [(.int .u64), .err] 3 [4, 5] = F_strconv_ParseUint N := by kernel_rfl
noncomputable def e_strconv_ParseUint (N : Nat) : Ent Tryd.prog := mkFnG 72 Tryd.f72 .lf [.str, (.int .i64), (.int .i64), (.tab .err), (.tab .err)] [(.int .u64), .err] 3 [4, 5] (F_strconv_ParseUint N) mixed Tryd.func72 (.mk' Tryd.func72 rfl (by decide)) rfl (E_strconv_ParseUint N)
noncomputable def F_epitaphref07_Number (N : Nat) : Fun [.str] (Option (ResT [(.int .u64), .bool])) := fun (x : List UInt8) => bif decide ((↑x.length : Int) < 1) then some (0, false) else bif decide (15 < (↑x.length :
 Int)) then some (0, false) else bif decide (1 < (↑x.length : Int)) then x[0]?.bind fun (c : UInt8) => bif c == 48 then some (0, false) else iter (fun (rec : (Int × Int × Unit) × Unit × Unit × Unit → Option (Int × Bool))
 (z : (Int × Int × Unit) × Unit × Unit × Unit) => bif decide (z.fst.snd.fst < (↑x.length : Int)) then (at? x z.fst.snd.fst).bind fun (c : UInt8) => bif decide (c < 48) then some (0, false) else (at? x z.fst.snd.fst).bind
 fun (c : UInt8) => bif decide (57 < c) then some (0, false) else (at? x z.fst.snd.fst).bind fun (c : UInt8) => rec ((IntKind.u64.wrap (IntKind.u64.wrap (z.fst.fst * 10) + (↑(c - 48).toNat : Int)), IntKind.i64.wrap
 (z.fst.snd.fst + 1), ()), (), (), ()) else some (z.fst.fst, true)) N ((0, 0, ()), (), (), ()) else iter (fun (rec : (Int × Int × Unit) × Unit × Unit × Unit → Option (Int × Bool)) (z : (Int × Int × Unit) × Unit × Unit ×
 Unit) => bif decide (z.fst.snd.fst < (↑x.length : Int)) then (at? x z.fst.snd.fst).bind fun (c : UInt8) => bif decide (c < 48) then some (0, false) else (at? x z.fst.snd.fst).bind fun (c : UInt8) => bif decide (57 < c)
 then some (0, false) else (at? x z.fst.snd.fst).bind fun (c : UInt8) => rec ((IntKind.u64.wrap (IntKind.u64.wrap (z.fst.fst * 10) + (↑(c - 48).toNat : Int)), IntKind.i64.wrap (z.fst.snd.fst + 1), ()), (), (), ()) else
 some (z.fst.fst, true)) N ((0, 0, ()), (), (), ())
noncomputable def F_epitaphref07_Good (N : Nat) : Fun [tDot] (Option (ResT [.bool])) := fun (x : Int × Int) => bif decide (1 ≤ x.fst) then bif decide (1 ≤ x.snd) then some (decide (x.snd < 281474976710656)) else some
 false else some false
theorem E_epitaphref07_Good (N : Nat) : runF Tryd.prog [] [] N Tryd.f74 .lf [tDot] [.bool] = F_epitaphref07_Good N := by kernel_rfl
noncomputable def e_epitaphref07_Good (N : Nat) : Ent Tryd.prog := mkFn 74 Tryd.f74 .lf [tDot] [.bool] (F_epitaphref07_Good N) mixed Tryd.func74 (.mk' Tryd.func74 rfl (by decide)) rfl (E_epitaphref07_Good N)
noncomputable def F_shift_Split (N : Nat) : Fun [(.int .u64)] (Option (ResT [(.int .u16), (.int .u64)])) := fun (x : Int) => some (IntKind.u16.wrap (x.fdiv 281474976710656), bits BinOp.and IntKind.u64 x 281474976710655)
theorem E_shift_Split (N : Nat) : runF Tryd.prog [] [] N Tryd.f77 .lf [(.int .u64)] [(.int .u16), (.int .u64)] = F_shift_Split N := by kernel_rfl
noncomputable def e_shift_Split (N : Nat) : Ent Tryd.prog := mkFn 77 Tryd.f77 .lf [(.int .u64)] [(.int .u16), (.int .u64)] (F_shift_Split N) mixed Tryd.func77 (.mk' Tryd.func77 rfl (by decide)) rfl (E_shift_Split N)
noncomputable def F_dot_Unpack (N : Nat) : Fun [(.int .u64)] (Option (ResT [tDot, .bool])) := fun (x : Int) => Option.bind (F_shift_Split N x) fun (y : Int × Int) => Option.bind (F_dot_Good N y) fun (y_1 : Bool) => bif
 !y_1 then some ((0, 0), false) else some (y, true)
theorem E_dot_Unpack (N : Nat) : runF Tryd.prog [e_dot_Good N, e_shift_Split N] [] N Tryd.f36 .lf [(.int .u64)] [tDot, .bool] = F_dot_Unpack N := by kernel_rfl
noncomputable def e_dot_Unpack (N : Nat) : Ent Tryd.prog := mkFn 36 Tryd.f36 .lf [(.int .u64)] [tDot, .bool] (F_dot_Unpack N) mixed Tryd.func36 (.mk' Tryd.func36 rfl (by decide)) rfl (E_dot_Unpack N)
end Go.Proofs.Xs
set_option linter.unusedVariables false
set_option linter.unusedSimpArgs false
namespace Go.Xl
open Go.Ab
def isIdxStr (P : Program) (f k : Nat) : Prop := isExt P f Extern.BytealgIndex.index ∧ P.globals.findIdx? (·.name == "internal/bytealg.MaxLen") = some k
def F_idxStr (a b : List UInt8) (l : List Int) : Option Int :=
  match l with
  | [m] => cond (Nat.ble 2 b.length) (cond (decide ((b.length : Int) ≤ m)) (cond (Nat.blt a.length 4294967281) (some (Lib.index a b)) none) none) none
  | _ => none
def idxStrRun (k : Nat) {R : Type} (o : Oper) (st : XSt) (vs : List XV) (K : Out → Option R) : Option R :=
  match o.op with
  | .call c => match vs, xeval st (.global k) with
    | [.d (.s a), .d (.s b)], some (.d (.pa (.int .i64) l)) => Option.bind (F_idxStr a b l) fun n => K (quietO st (.d (.i .i64 n)) ((c.args.toList ++ [Operand.global k]).zip (vs ++ [.d (.pa (.int .i64) l)])))
    | _, _ => none
  | _ => none
theorem idxStr_ok {P : Program} {f k : Nat} (h : isIdxStr P f k) {a b : List UInt8} {l : List Int} {n : Int} (hG : F_idxStr a b l = some n) (g : Gh) (w : World) (us : Array Value) (hl : 2 = us.size)
    (hus : ∀ (i : Nat) x v, (asOf [.d (.s a), .d (.s b)])[i]? = some x → us[i]? = some v → RA g w x v) (sane : ∀ b i, i < g.γ b → (w.cell? ⟨b, i, none⟩).isSome) (hu : RA g w (XV.d (.pa (.int .i64) l)).a (.pointer (some ⟨k, 0, none⟩))) : ∃ v, (Extern.BytealgIndex.index us).run P w = .ok v w ∧ RA g w (XV.d (.i .i64 n)).a v := by
  unfold F_idxStr at hG
  split at hG
  · rename_i m
    cases h2 : Nat.ble 2 b.length with
    | false => simp [h2] at hG
    | true =>
    cases h3 : decide ((b.length : Int) ≤ m) with
    | false => simp [h2, h3] at hG
    | true =>
    cases h4 : Nat.blt a.length 4294967281 with
    | false => simp [h2, h3, h4] at hG
    | true =>
    simp only [h2, h3, h4, cond_true, Option.some.injEq] at hG
    subst hG
    have hs : us = #[us[0]'(by omega), us[1]'(by omega)] := by
      apply Array.ext
      · exact hl.symm
      · intro i h1 h2
        simp at h2
        match i, h2 with
        | 0, _ => rfl
        | 1, _ => rfl
    have e0 := (hus 0 _ _ rfl (Array.getElem?_eq_getElem (by omega))).sc_inv
    have e1 := (hus 1 _ _ rfl (Array.getElem?_eq_getElem (by omega))).sc_inv
    rw [e0, e1] at hs
    have hm : w.cell? ⟨k, 0, none⟩ = some (.int .i64 m) := by
      cases hu with
      | d _ _ hr =>
        cases hr with
        | ep _ b off hγ hc =>
          have hlt : 0 < g.γ k := by
            have h5 : 0 + 1 ≤ g.γ k := hγ
            omega
          obtain ⟨v, hv⟩ := Option.isSome_iff_exists.1 (sane k 0 hlt)
          have h6 := hc 0 (.sc (.int .i64 m)) v rfl hv
          cases h6
          exact hv
    refine ⟨_, by rw [hs]; exact Lib.run_indexString _ _ w k m h.2 hm (by show 2 ≤ b.toArray.size; simpa using h2) (by show ((b.toArray.size : Nat) : Int) ≤ m; simpa using h3) (by show a.toArray.size < _; simpa [Nat.blt_eq] using h4), ?_⟩
    exact .ofSc _ _ _
  · cases hG
def mkIdxStr {P : Program} (f k : Nat) (h : isIdxStr P f k) : Ent P where
  id := f
  run := idxStrRun k
  ok := by
    intro R o st args ts vs K r ho hv hR
    unfold idxStrRun at hR
    rw [ho] at hR
    simp only at hR
    split at hR
    · rename_i x1 x2 a b l hu
      obtain ⟨n, hn, hR⟩ := Option.bind_eq_some_iff.1 hR
      have hx : xevals st (args.toList ++ [.global k]) = some ([.d (.s a), .d (.s b)] ++ [.d (.pa (.int .i64) l)]) := xevals_append hv (by simp only [xevals, hu])
      refine ⟨_, hR, quietO_ok (xevals_sees hx) fun X => .quiet fun _ _ g w ac hr hrd => ?_⟩
      obtain ⟨⟨fn, h1, h2, h3, h4, h5⟩, h6⟩ := h
      have hl : 2 = args.size := by have := xevals_len hv; simpa using this
      rw [imRd_zip] at hrd
      have happ : (args.toList ++ [Operand.global k]).zip (asOf ([.d (.s a), .d (.s b)] ++ [.d (.pa (.int .i64) l)])) = args.toList.zip (asOf [.d (.s a), .d (.s b)]) ++ [(.global k, (XV.d (.pa (.int .i64) l)).a)] := by
        rw [asOf_append, List.zip_append (by rw [asOf_length]; simp [← hl])]; rfl
      rw [happ] at hrd
      obtain ⟨v, hv1, hv2⟩ := idxStr_ok ⟨⟨fn, h1, h2, h3, h4, h5⟩, h6⟩ hn g w (args.map ac.eval) (by simp [← hl]) (rds_args fun p hp => hrd p (List.mem_append_left _ hp)) hr.sane
        (hrd (.global k, _) (List.mem_append_right _ (List.mem_singleton.2 rfl)))
      refine ⟨v, ?_, hv2⟩
      simp only [execOp, ho, resolve]
      simp [Deferred.ofValue, Act.eval, invoke, run_callFunc_standIn h1 h2 (by rw [h3]; rfl) h4 h5, hv1, Result.andThen]
    · cases hR
end Go.Xl
set_option linter.unusedVariables false
set_option maxRecDepth 100000
namespace Go.Proofs.Xv
open Go Go.Xl Go.Ab Go.Proofs Go.Proofs.Xr Go.Proofs.Xs
noncomputable def F_field_Text (N : Nat) : Fun [.str] (Option (ResT [.bool])) := fun (x : List UInt8) => bif decide (60 < (↑x.length : Int)) then some false else iter (fun (rec : (Int × Unit) × Unit × Unit × Unit →
 Option Bool) (z : (Int × Unit) × Unit × Unit × Unit) => bif decide (z.fst.fst < (↑x.length : Int)) then (at? x z.fst.fst).bind fun (c : UInt8) => bif decide (c < 32) then some false else (at? x z.fst.fst).bind fun (c :
 UInt8) => bif decide (126 < c) then some false else rec ((IntKind.i64.wrap (z.fst.fst + 1), ()), (), (), ()) else some true) N ((0, ()), (), (), ())
theorem E_field_Text (N : Nat) : runF Tryd.prog [] [] N Tryd.f96 (.seq .lf (.seq .lf (.seq (.seq .lf (.blk (.loop ⟨[(9, .d (.int .i64))], [], [0, 8], [], [], []⟩ .lf))) .lf))) [.str] [.bool] = F_field_Text N := by kernel_rfl
noncomputable def e_field_Text (N : Nat) : Ent Tryd.prog := mkFn 96 Tryd.f96 (.seq .lf (.seq .lf (.seq (.seq .lf (.blk (.loop ⟨[(9, .d (.int .i64))], [], [0, 8], [], [], []⟩ .lf))) .lf))) [.str] [.bool] (F_field_Text N) mixed Tryd.func96 (.mk' Tryd.func96 rfl (by decide)) rfl (E_field_Text N)
noncomputable def e_internal_abi_NoEscape (N : Nat) : Ent Tryd.prog := mkNoEsc 117 ⟨_, rfl, rfl, rfl, by kernel_rfl, by kernel_rfl⟩
@[reducible] def S_strings_Builder_copyCheck : CSp := ⟨[.p 1 0], [(1, [.z 1 0, .tip 300001 .u8 (some 5)], some 78)], [], ⟨[], [(1, [.z 1 0, .tip 350001 .u8 (some 5)], some 78)], [], [], [], []⟩⟩
noncomputable def F_strings_Builder_copyCheck (N : Nat) : CSp.Fun S_strings_Builder_copyCheck (Option S_strings_Builder_copyCheck.out.T) := fun (b : Bool) (l : List UInt8) => bif bif false then !b else b then some ((),
 ((false, l, ()), ()), (), ()) else bif b then none else some ((), ((b, l, ()), ()), (), ())
theorem E_strings_Builder_copyCheck (N : Nat) : runC Tryd.prog [e_internal_abi_NoEscape N] [] N Tryd.f89 .lf S_strings_Builder_copyCheck = F_strings_Builder_copyCheck N := by kernel_rfl
noncomputable def e_strings_Builder_copyCheck (N : Nat) : Ent Tryd.prog := mkC 89 Tryd.f89 .lf S_strings_Builder_copyCheck (F_strings_Builder_copyCheck N) mixed Tryd.func89 (.mk' Tryd.func89 rfl (by decide)) rfl rfl rfl (E_strings_Builder_copyCheck N)
@[reducible] def S_strings_Builder_WriteByte : CSp := ⟨[.p 1 0, .d .u8], [(1, [.z 1 0, .tip 300001 .u8 (some 5)], some 78)], [], ⟨[(4, .d .err)], [(1, [.z 1 0, .tip 350001 .u8 (some 5)], some 78)], [], [], [], []⟩⟩
noncomputable def F_strings_Builder_WriteByte (N : Nat) : CSp.Fun S_strings_Builder_WriteByte (Option S_strings_Builder_WriteByte.out.T) := fun (y : UInt8) (b : Bool) (l : List UInt8) => Option.bind
 (F_strings_Builder_copyCheck N b l) fun (y_1 : Unit × ((Bool × List UInt8 × Unit) × Unit) × Unit × Unit) => bif fitsB (y_1.snd.fst.fst.snd.fst.length + [y].length) 1 then some ((false, ()), ((y_1.snd.fst.fst.fst,
 y_1.snd.fst.fst.snd.fst ++ [y], ()), ()), (), ()) else none
theorem E_strings_Builder_WriteByte (N : Nat) : runC Tryd.prog [e_strings_Builder_copyCheck N] [] N Tryd.f48 .lf S_strings_Builder_WriteByte = F_strings_Builder_WriteByte N := by kernel_rfl
noncomputable def e_strings_Builder_WriteByte (N : Nat) : Ent Tryd.prog := mkC 48 Tryd.f48 .lf S_strings_Builder_WriteByte (F_strings_Builder_WriteByte N) mixed Tryd.func48 (.mk' Tryd.func48 rfl (by decide)) rfl rfl rfl (E_strings_Builder_WriteByte N)
@[reducible] def S_strings_Builder_String : CSp := ⟨[.p 1 0], [(1, [.z 1 0, .tip 300001 .u8 (some 5)], some 78)], [], ⟨[(2, .d .str)], [(1, [.z 1 0, .d (.sl .u8)], some 78)], [], [], [], []⟩⟩
noncomputable def F_strings_Builder_String (N : Nat) : CSp.Fun S_strings_Builder_String (Option S_strings_Builder_String.out.T) := fun (b : Bool) (l : List UInt8) => listCase l (bif (↑l.length : Int) == 0 then some (([],
 ()), ((b, l, ()), ()), (), ()) else none) fun (a : UInt8) (r : List UInt8) => bif (↑l.length : Int) == (↑(a :: r).length : Int) then bif decide ((a :: r).length ≤ 9223372036854775807) then some ((a :: r, ()), ((b, l,
 ()), ()), (), ()) else none else none
theorem E_strings_Builder_String (N : Nat) : runC Tryd.prog [] [] N Tryd.f49 .lf S_strings_Builder_String = F_strings_Builder_String N := by kernel_rfl
noncomputable def e_strings_Builder_String (N : Nat) : Ent Tryd.prog := mkC 49 Tryd.f49 .lf S_strings_Builder_String (F_strings_Builder_String N) mixed Tryd.func49 (.mk' Tryd.func49 rfl (by decide)) rfl rfl rfl (E_strings_Builder_String N)
noncomputable def F_field_marked (N : Nat) : Fun [.u8] (Option (ResT [.bool])) := fun (x : UInt8) => bif x == 34 then some true else some (x == 92)
theorem E_field_marked (N : Nat) : runF Tryd.prog [] [] N Tryd.f92 .lf [.u8] [.bool] = F_field_marked N := by kernel_rfl
noncomputable def e_field_marked (N : Nat) : Ent Tryd.prog := mkFn 92 Tryd.f92 .lf [.u8] [.bool] (F_field_marked N) mixed Tryd.func92 (.mk' Tryd.func92 rfl (by decide)) rfl (E_field_marked N)
noncomputable def F_field_Quote (N : Nat) : Fun [.str] (Option (ResT [.str])) := fun (x : List UInt8) => joinAt (fun (z : (Unit × Unit) × ((Bool × List UInt8 × Unit) × Unit) × Unit × Unit) => Option.bind
 (F_strings_Builder_WriteByte N 34 z.snd.fst.fst.fst z.snd.fst.fst.snd.fst) fun (y : (Bool × Unit) × ((Bool × List UInt8 × Unit) × Unit) × Unit × Unit) => iter (fun (rec : (Int × Unit) × ((Bool × List UInt8 × Unit) ×
 Unit) × Unit × Unit → Option (List UInt8)) (z : (Int × Unit) × ((Bool × List UInt8 × Unit) × Unit) × Unit × Unit) => bif decide (z.fst.fst < (↑x.length : Int)) then (at? x z.fst.fst).bind fun (c : UInt8) => Option.bind
 (F_field_marked N c) fun (y : Bool) => bif y then Option.bind (F_strings_Builder_WriteByte N 92 z.snd.fst.fst.fst z.snd.fst.fst.snd.fst) fun (y : (Bool × Unit) × ((Bool × List UInt8 × Unit) × Unit) × Unit × Unit) =>
 (at? x z.fst.fst).bind fun (c : UInt8) => Option.bind (F_strings_Builder_WriteByte N c y.snd.fst.fst.fst y.snd.fst.fst.snd.fst) fun (y : (Bool × Unit) × ((Bool × List UInt8 × Unit) × Unit) × Unit × Unit) => rec
 ((IntKind.i64.wrap (z.fst.fst + 1), ()), ((y.snd.fst.fst.fst, y.snd.fst.fst.snd.fst, ()), ()), (), ()) else (at? x z.fst.fst).bind fun (c : UInt8) => Option.bind (F_strings_Builder_WriteByte N c z.snd.fst.fst.fst
 z.snd.fst.fst.snd.fst) fun (y : (Bool × Unit) × ((Bool × List UInt8 × Unit) × Unit) × Unit × Unit) => rec ((IntKind.i64.wrap (z.fst.fst + 1), ()), ((y.snd.fst.fst.fst, y.snd.fst.fst.snd.fst, ()), ()), (), ()) else
 Option.bind (F_strings_Builder_WriteByte N 34 z.snd.fst.fst.fst z.snd.fst.fst.snd.fst) fun (y : (Bool × Unit) × ((Bool × List UInt8 × Unit) × Unit) × Unit × Unit) => Option.bind (F_strings_Builder_String N
 y.snd.fst.fst.fst y.snd.fst.fst.snd.fst) fun (y : (List UInt8 × Unit) × ((Bool × List UInt8 × Unit) × Unit) × Unit × Unit) => some y.fst.fst) N ((0, ()), ((y.snd.fst.fst.fst, y.snd.fst.fst.snd.fst, ()), ()), (), ()))
 fun (k : (Unit × Unit) × ((Bool × List UInt8 × Unit) × Unit) × Unit × Unit → Option (List UInt8)) => k (((), ()), ((true, [], ()), ()), (), ())
theorem E_field_Quote (N : Nat) : runF Tryd.prog [e_strings_Builder_WriteByte N, e_strings_Builder_String N, e_field_marked N] [] N Tryd.f47 (.seq .lf (.join ⟨[(3, .p 1003 0)], [(1003, [.z 1003 0, .tip 300301 .u8 (some 5)], some 78)], [0], [], [], []⟩ .lf (.seq .lf (.seq (.seq .lf (.blk (.loop ⟨[(8, .d (.int .i64))], [(1003, [.z 1003 0, .tip 300301 .u8 (some 5)], some 78)], [0, 3, 7], [], [], []⟩ .lf))) .lf)))) [.str] [.str] = F_field_Quote N := by kernel_rfl
noncomputable def e_field_Quote (N : Nat) : Ent Tryd.prog := mkFn 47 Tryd.f47 (.seq .lf (.join ⟨[(3, .p 1003 0)], [(1003, [.z 1003 0, .tip 300301 .u8 (some 5)], some 78)], [0], [], [], []⟩ .lf (.seq .lf (.seq (.seq .lf (.blk (.loop ⟨[(8, .d (.int .i64))], [(1003, [.z 1003 0, .tip 300301 .u8 (some 5)], some 78)], [0, 3, 7], [], [], []⟩ .lf))) .lf)))) [.str] [.str] (F_field_Quote N) mixed Tryd.func47 (.mk' Tryd.func47 rfl (by decide)) rfl (E_field_Quote N)
noncomputable def F_field_fits (N : Nat) : Fun [.str, .str] (Option (ResT [.str, .str, .bool])) := fun (x x_1 : List UInt8) => Option.bind (F_field_Text N x) fun (y : Bool) => bif !y then some ([], [], false) else some
 (x, x_1, true)
theorem E_field_fits (N : Nat) : runF Tryd.prog [e_field_Text N] [] N Tryd.f100 .lf [.str, .str] [.str, .str, .bool] = F_field_fits N := by kernel_rfl
noncomputable def e_field_fits (N : Nat) : Ent Tryd.prog := mkFn 100 Tryd.f100 .lf [.str, .str] [.str, .str, .bool] (F_field_fits N) mixed Tryd.func100 (.mk' Tryd.func100 rfl (by decide)) rfl (E_field_fits N)
noncomputable def F_internal_stringslite_HasPrefix (N : Nat) : Fun [.str, .str] (Option (ResT [.bool])) := fun (x x_1 : List UInt8) => bif decide ((↑x_1.length : Int) ≤ (↑x.length : Int)) then bif cutOk 0 (↑x_1.length :
 Int) x.length then some (List.take (↑x_1.length : Int).toNat x == x_1) else none else some false
theorem E_internal_stringslite_HasPrefix (N : Nat) : runF Tryd.prog [] [] N Tryd.f123 .lf [.str, .str] [.bool] = F_internal_stringslite_HasPrefix N := by kernel_rfl
noncomputable def e_internal_stringslite_HasPrefix (N : Nat) : Ent Tryd.prog := mkFn 123 Tryd.f123 .lf [.str, .str] [.bool] (F_internal_stringslite_HasPrefix N) mixed Tryd.func123 (.mk' Tryd.func123 rfl (by decide)) rfl (E_internal_stringslite_HasPrefix N)
noncomputable def F_strings_HasPrefix (N : Nat) : Fun [.str, .str] (Option (ResT [.bool])) := fun (x x_1 : List UInt8) => Option.bind (F_internal_stringslite_HasPrefix N x x_1) fun (y : Bool) => some y
theorem E_strings_HasPrefix (N : Nat) : runF Tryd.prog [e_internal_stringslite_HasPrefix N] [] N Tryd.f99 .lf [.str, .str] [.bool] = F_strings_HasPrefix N := by kernel_rfl
noncomputable def e_strings_HasPrefix (N : Nat) : Ent Tryd.prog := mkFn 99 Tryd.f99 .lf [.str, .str] [.bool] (F_strings_HasPrefix N) mixed Tryd.func99 (.mk' Tryd.func99 rfl (by decide)) rfl (E_strings_HasPrefix N)
noncomputable def F_field_Unquote (N : Nat) : Fun [.str] (Option (ResT [.str, .str, .bool])) := fun (x : List UInt8) => Option.bind (F_strings_HasPrefix N x [34]) fun (y : Bool) => bif !y then some ([], [], false) else
 iter (fun (rec : (List UInt8 × Int × Unit) × Unit × Unit × Unit → Option (List UInt8 × List UInt8 × Bool)) (z : (List UInt8 × Int × Unit) × Unit × Unit × Unit) => bif decide (z.fst.snd.fst < (↑x.length : Int)) then (at?
 x z.fst.snd.fst).bind fun (c : UInt8) => bif c == 34 then bif cutOk (IntKind.i64.wrap (z.fst.snd.fst + 1)) (↑x.length : Int) x.length then Option.bind (F_field_fits N z.fst.fst (List.drop (IntKind.i64.wrap
 (z.fst.snd.fst + 1)).toNat x)) fun (y : List UInt8 × List UInt8 × Bool) => some y else none else bif c == 92 then bif IntKind.i64.wrap (z.fst.snd.fst + 1) == (↑x.length : Int) then some ([], [], false) else (at? x
 (IntKind.i64.wrap (z.fst.snd.fst + 1))).bind fun (c : UInt8) => Option.bind (F_field_marked N c) fun (y : Bool) => bif !y then some ([], [], false) else (at? x (IntKind.i64.wrap (z.fst.snd.fst + 1))).bind fun (c :
 UInt8) => bif fitsB (z.fst.fst.length + [c].length) 1 then rec ((z.fst.fst ++ [c], IntKind.i64.wrap (IntKind.i64.wrap (z.fst.snd.fst + 1) + 1), ()), (), (), ()) else none else bif fitsB (z.fst.fst.length + [c].length) 1
 then rec ((z.fst.fst ++ [c], IntKind.i64.wrap (z.fst.snd.fst + 1), ()), (), (), ()) else none else some ([], [], false)) N (([], 1, ()), (), (), ())
theorem E_field_Unquote (N : Nat) : runF Tryd.prog [e_field_fits N, e_field_marked N, e_strings_HasPrefix N] [] N Tryd.f65 (.seq .lf (.seq .lf (.seq .lf (.seq (.seq .lf (.blk (.loop ⟨[(5, .tip 200005 .u8 none), (6, .d (.int .i64))], [], [0], [], [], []⟩ .lf))) .lf)))) [.str] [.str, .str, .bool] = F_field_Unquote N := by kernel_rfl
noncomputable def e_field_Unquote (N : Nat) : Ent Tryd.prog := mkFn 65 Tryd.f65 (.seq .lf (.seq .lf (.seq .lf (.seq (.seq .lf (.blk (.loop ⟨[(5, .tip 200005 .u8 none), (6, .d (.int .i64))], [], [0], [], [], []⟩ .lf))) .lf)))) [.str] [.str, .str, .bool] (F_field_Unquote N) mixed Tryd.func65 (.mk' Tryd.func65 rfl (by decide)) rfl (E_field_Unquote N)
noncomputable def F_field_Good (N : Nat) : Fun [.u8] (Option (ResT [.bool])) := fun (x : UInt8) => bif decide (1 ≤ x) then some (decide (x ≤ 5)) else some false
theorem E_field_Good (N : Nat) : runF Tryd.prog [] [] N Tryd.f91 .lf [.u8] [.bool] = F_field_Good N := by kernel_rfl
noncomputable def e_field_Good (N : Nat) : Ent Tryd.prog := mkFn 91 Tryd.f91 .lf [.u8] [.bool] (F_field_Good N) mixed Tryd.func91 (.mk' Tryd.func91 rfl (by decide)) rfl (E_field_Good N)
noncomputable def F_field_Name (N : Nat) : Fun [.u8, (.tab .str)] (Option (ResT [.str])) := fun (x : UInt8) (x_1 : List (List UInt8)) => Option.bind (F_field_Good N x) fun (y : Bool) => bif !y then some [] else bif
 x_1.length.ble 5 then x_1[(x - 1).toNat]?.bind fun (e : List UInt8) => some e else none
theorem E_field_Name (N : Nat) : runG Tryd.prog [e_field_Good N] [] N Tryd.f46 .lf [.u8, (.tab .str)] [.str] 1 [1] = F_field_Name N := by kernel_rfl
noncomputable def e_field_Name (N : Nat) : Ent Tryd.prog := mkFnG 46 Tryd.f46 .lf [.u8, (.tab .str)] [.str] 1 [1] (F_field_Name N) mixed Tryd.func46 (.mk' Tryd.func46 rfl (by decide)) rfl (E_field_Name N)
noncomputable def F_field_Of (N : Nat) : Fun [.str, (.tab .str)] (Option (ResT [.u8, .bool])) := fun (x : List UInt8) (x_1 : List (List UInt8)) => bif (x_1.length * 1).beq 5 then iter (fun (rec : (Int × Unit) × Unit ×
 Unit × Unit → Option (UInt8 × Bool)) (z : (Int × Unit) × Unit × Unit × Unit) => bif decide (z.fst.fst < 5) then bif x_1.length.beq 5 then (at? x_1 z.fst.fst).bind fun (z_1 : List UInt8) => bif z_1 == x then some (toU8
 (IntKind.u8.wrap (IntKind.i64.wrap (z.fst.fst + 1))), true) else rec ((IntKind.i64.wrap (z.fst.fst + 1), ()), (), (), ()) else none else some (0, false)) N ((0, ()), (), (), ()) else none
theorem E_field_Of (N : Nat) : runG Tryd.prog [] [] N Tryd.f113 (.seq .lf (.seq (.seq .lf (.blk (.loop ⟨[(7, .d (.int .i64))], [], [0, 6, 1000001], [], [], []⟩ .lf))) .lf)) [.str, (.tab .str)] [.u8, .bool] 1 [1] = F_field_Of N := by kernel_rfl
noncomputable def e_field_Of (N : Nat) : Ent Tryd.prog := mkFnG 113 Tryd.f113 (.seq .lf (.seq (.seq .lf (.blk (.loop ⟨[(7, .d (.int .i64))], [], [0, 6, 1000001], [], [], []⟩ .lf))) .lf)) [.str, (.tab .str)] [.u8, .bool] 1 [1] (F_field_Of N) mixed Tryd.func113 (.mk' Tryd.func113 rfl (by decide)) rfl (E_field_Of N)
noncomputable def F_epitaphref11_Text (N : Nat) : Fun [.str] (Option (ResT [.bool])) := fun (x : List UInt8) => iter (fun (rec : (Int × Unit) × Unit × Unit × Unit → Option Bool) (z : (Int × Unit) × Unit × Unit × Unit) =>
 bif decide (z.fst.fst < (↑x.length : Int)) then (at? x z.fst.fst).bind fun (c : UInt8) => bif decide (c < 32) then some false else (at? x z.fst.fst).bind fun (c : UInt8) => bif decide (126 < c) then some false else rec
 ((IntKind.i64.wrap (z.fst.fst + 1), ()), (), (), ()) else some (decide ((↑x.length : Int) ≤ 60))) N ((0, ()), (), (), ())
theorem E_epitaphref11_Text (N : Nat) : runF Tryd.prog [] [] N Tryd.f55 (.seq .lf (.seq (.seq .lf (.blk (.loop ⟨[(3, .d (.int .i64))], [], [0], [], [], []⟩ .lf))) .lf)) [.str] [.bool] = F_epitaphref11_Text N := by kernel_rfl
noncomputable def e_epitaphref11_Text (N : Nat) : Ent Tryd.prog := mkFn 55 Tryd.f55 (.seq .lf (.seq (.seq .lf (.blk (.loop ⟨[(3, .d (.int .i64))], [], [0], [], [], []⟩ .lf))) .lf)) [.str] [.bool] (F_epitaphref11_Text N) mixed Tryd.func55 (.mk' Tryd.func55 rfl (by decide)) rfl (E_epitaphref11_Text N)
noncomputable def F_epitaphref11_Name (N : Nat) : Fun [.u8] (Option (ResT [.str])) := fun (x : UInt8) => bif x == 1 then some [110, 97, 109, 101] else bif x == 2 then some [112, 104, 111, 110, 101] else bif x == 3 then
 some [109, 97, 105, 108] else bif x == 4 then some [116, 111, 119, 110] else bif x == 5 then some [110, 111, 116, 101] else some []
noncomputable def F_epitaphref11_Good (N : Nat) : Fun [.u8] (Option (ResT [.bool])) := fun (x : UInt8) => bif decide (1 ≤ x) then some (decide (x ≤ 5)) else some false
theorem E_epitaphref11_Good (N : Nat) : runF Tryd.prog [] [] N Tryd.f54 .lf [.u8] [.bool] = F_epitaphref11_Good N := by kernel_rfl
noncomputable def e_epitaphref11_Good (N : Nat) : Ent Tryd.prog := mkFn 54 Tryd.f54 .lf [.u8] [.bool] (F_epitaphref11_Good N) mixed Tryd.func54 (.mk' Tryd.func54 rfl (by decide)) rfl (E_epitaphref11_Good N)
noncomputable def F_epitaphref11_Unquote (N : Nat) : Fun [.str] (Option (ResT [.str, .str, .bool])) := fun (x : List UInt8) => bif x == [] then some ([], [], false) else x[0]?.bind fun (c : UInt8) => bif c != 34 then
 some ([], [], false) else iter (fun (rec : (List UInt8 × Int × Unit) × Unit × Unit × Unit → Option (List UInt8 × List UInt8 × Bool)) (z : (List UInt8 × Int × Unit) × Unit × Unit × Unit) => bif decide (z.fst.snd.fst <
 (↑x.length : Int)) then (at? x z.fst.snd.fst).bind fun (c : UInt8) => bif c == 34 then Option.bind (F_epitaphref11_Text N z.fst.fst) fun (y : Bool) => bif !y then some ([], [], false) else bif cutOk (IntKind.i64.wrap
 (z.fst.snd.fst + 1)) (↑x.length : Int) x.length then some (z.fst.fst, List.drop (IntKind.i64.wrap (z.fst.snd.fst + 1)).toNat x, true) else none else joinAt (fun (z_1 : (Int × Unit) × Unit × Unit × Unit) => bif cutOk
 z_1.fst.fst (IntKind.i64.wrap (z_1.fst.fst + 1)) x.length then bif decide (z.fst.fst.length + (List.take ((IntKind.i64.wrap (z_1.fst.fst + 1)).toNat - z_1.fst.fst.toNat) (List.drop z_1.fst.fst.toNat x)).length ≤
 4611686018427387904) then rec ((z.fst.fst ++ List.take ((IntKind.i64.wrap (z_1.fst.fst + 1)).toNat - z_1.fst.fst.toNat) (List.drop z_1.fst.fst.toNat x), IntKind.i64.wrap (z_1.fst.fst + 1), ()), (), (), ()) else none
 else none) fun (k : (Int × Unit) × Unit × Unit × Unit → Option (List UInt8 × List UInt8 × Bool)) => (at? x z.fst.snd.fst).bind fun (c : UInt8) => bif c == 92 then bif decide ((↑x.length : Int) ≤ IntKind.i64.wrap
 (z.fst.snd.fst + 1)) then some ([], [], false) else (at? x (IntKind.i64.wrap (z.fst.snd.fst + 1))).bind fun (c : UInt8) => bif c != 34 then (at? x (IntKind.i64.wrap (z.fst.snd.fst + 1))).bind fun (c : UInt8) => bif c !=
 92 then some ([], [], false) else k ((IntKind.i64.wrap (z.fst.snd.fst + 1), ()), (), (), ()) else k ((IntKind.i64.wrap (z.fst.snd.fst + 1), ()), (), (), ()) else k ((z.fst.snd.fst, ()), (), (), ()) else some ([], [],
 false)) N (([], 1, ()), (), (), ())
noncomputable def F_epitaphref11_Of (N : Nat) : Fun [.str] (Option (ResT [.u8, .bool])) := fun (x : List UInt8) => iter (fun (rec : (UInt8 × Unit) × Unit × Unit × Unit → Option (UInt8 × Bool)) (z : (UInt8 × Unit) × Unit
 × Unit × Unit) => bif decide (z.fst.fst ≤ 5) then Option.bind (F_epitaphref11_Name N z.fst.fst) fun (y : List UInt8) => bif y == x then some (z.fst.fst, true) else rec ((z.fst.fst + 1, ()), (), (), ()) else some (0,
 false)) N ((1, ()), (), (), ())
@[reducible] def S_strings_Builder_WriteString : CSp := ⟨[.p 1 0, .d .str], [(1, [.z 1 0, .tip 300001 .u8 (some 5)], some 78)], [], ⟨[(4, .d (.int .i64)), (5, .d .err)], [(1, [.z 1 0, .tip 350001 .u8 (some 5)], some 78)], [], [], [], []⟩⟩
noncomputable def F_strings_Builder_WriteString (N : Nat) : CSp.Fun S_strings_Builder_WriteString (Option S_strings_Builder_WriteString.out.T) := fun (y : List UInt8) (b : Bool) (l : List UInt8) => Option.bind
 (F_strings_Builder_copyCheck N b l) fun (y_1 : Unit × ((Bool × List UInt8 × Unit) × Unit) × Unit × Unit) => bif fitsB (y_1.snd.fst.fst.snd.fst.length + y.length) 1 then some (((↑y.length : Int), false, ()),
 ((y_1.snd.fst.fst.fst, y_1.snd.fst.fst.snd.fst ++ y, ()), ()), (), ()) else none
theorem E_strings_Builder_WriteString (N : Nat) : runC Tryd.prog [e_strings_Builder_copyCheck N] [] N Tryd.f44 .lf S_strings_Builder_WriteString = F_strings_Builder_WriteString N := by kernel_rfl
noncomputable def e_strings_Builder_WriteString (N : Nat) : Ent Tryd.prog := mkC 44 Tryd.f44 .lf S_strings_Builder_WriteString (F_strings_Builder_WriteString N) mixed Tryd.func44 (.mk' Tryd.func44 rfl (by decide)) rfl rfl rfl (E_strings_Builder_WriteString N)
end Go.Proofs.Xv
set_option linter.unusedVariables false
set_option maxRecDepth 100000
namespace Go.Proofs.Xx
open Go Go.Xl Go.Ab Go.Proofs Go.Proofs.Xr Go.Proofs.Xs Go.Proofs.Xv
@[reducible] def tLine : Ty := (.pair .u8 (.pair .str (.sl .str)))
@[reducible] def tCard : Ty := (.pair (.int .u64) (.sl tLine))
noncomputable def F_card_line (N : Nat) : Fun [tLine] (Option (ResT [.bool])) := fun (x : UInt8 × List UInt8 × List (List UInt8)) => iter (fun (rec : (Int × Unit) × Unit × Unit × Unit → Option Bool) (z : (Int × Unit) ×
 Unit × Unit × Unit) => bif decide (z.fst.fst < (↑x.snd.snd.length : Int)) then (at? x.snd.snd z.fst.fst).bind fun (e : List UInt8) => Option.bind (F_field_Text N e) fun (y : Bool) => bif !y then some false else bif e ==
 x.snd.fst then some false else bif decide (0 < z.fst.fst) then (at? x.snd.snd (IntKind.i64.wrap (z.fst.fst - 1))).bind fun (e_1 : List UInt8) => bif !Op.bytesLess e_1 e then some false else rec ((IntKind.i64.wrap
 (z.fst.fst + 1), ()), (), (), ()) else rec ((IntKind.i64.wrap (z.fst.fst + 1), ()), (), (), ()) else Option.bind (F_field_Good N x.fst) fun (y : Bool) => bif y then Option.bind (F_field_Text N x.snd.fst) fun (y : Bool)
 => some y else some false) N ((0, ()), (), (), ())
theorem E_card_line (N : Nat) : runF Tryd.prog [e_field_Good N, e_field_Text N] [] N Tryd.f88 (.seq .lf (.seq (.seq .lf (.blk (.loop ⟨[(8, .d (.int .i64))], [], [1, 6, 7], [1001], [], []⟩ .lf))) .lf)) [tLine] [.bool] = F_card_line N := by kernel_rfl
noncomputable def e_card_line (N : Nat) : Ent Tryd.prog := mkFn 88 Tryd.f88 (.seq .lf (.seq (.seq .lf (.blk (.loop ⟨[(8, .d (.int .i64))], [], [1, 6, 7], [1001], [], []⟩ .lf))) .lf)) [tLine] [.bool] (F_card_line N) mixed Tryd.func88 (.mk' Tryd.func88 rfl (by decide)) rfl (E_card_line N)
noncomputable def F_card_Good (N : Nat) : Fun [tCard] (Option (ResT [.bool])) := fun (x : Int × List (UInt8 × List UInt8 × List (List UInt8))) => iter (fun (rec : (Int × Unit) × Unit × Unit × Unit → Option Bool) (z :
 (Int × Unit) × Unit × Unit × Unit) => bif decide (z.fst.fst < (↑x.snd.length : Int)) then (at? x.snd z.fst.fst).bind fun (e : UInt8 × List UInt8 × List (List UInt8)) => Option.bind (F_card_line N e) fun (y : Bool) =>
 bif !y then some false else bif decide (0 < z.fst.fst) then (at? x.snd (IntKind.i64.wrap (z.fst.fst - 1))).bind fun (e_1 : UInt8 × List UInt8 × List (List UInt8)) => bif decide (e.fst ≤ e_1.fst) then some false else rec
 ((IntKind.i64.wrap (z.fst.fst + 1), ()), (), (), ()) else rec ((IntKind.i64.wrap (z.fst.fst + 1), ()), (), (), ()) else Option.bind (F_dot_Unpack N x.fst) fun (y : (Int × Int) × Bool) => bif y.snd then some (decide (0 <
 (↑x.snd.length : Int))) else some false) N ((0, ()), (), (), ())
theorem E_card_Good (N : Nat) : runF Tryd.prog [e_dot_Unpack N, e_card_line N] [] N Tryd.f43 (.seq .lf (.seq (.seq .lf (.blk (.loop ⟨[(10, .d (.int .i64))], [], [1, 8, 9], [1001], [], []⟩ .lf))) .lf)) [tCard] [.bool] = F_card_Good N := by kernel_rfl
noncomputable def e_card_Good (N : Nat) : Ent Tryd.prog := mkFn 43 Tryd.f43 (.seq .lf (.seq (.seq .lf (.blk (.loop ⟨[(10, .d (.int .i64))], [], [1, 8, 9], [1001], [], []⟩ .lf))) .lf)) [tCard] [.bool] (F_card_Good N) mixed Tryd.func43 (.mk' Tryd.func43 rfl (by decide)) rfl (E_card_Good N)
noncomputable def e_internal_abi_NoEscape (N : Nat) : Ent Tryd.prog := mkNoEsc 117 ⟨_, rfl, rfl, rfl, by kernel_rfl, by kernel_rfl⟩
noncomputable def e_internal_strconv_formatBits (N : Nat) : Ent Tryd.prog := mkNone 121
noncomputable def F_text_Print (N : Nat) : Fun [tCard, (.tab .str), (.tab (.int .u64))] (Option (ResT [.str])) := fun (x : Int × List (UInt8 × List UInt8 × List (List UInt8))) (x_1 : List (List UInt8)) (x_2 : List Int)
 => Option.bind (F_card_Good N x) fun (y : Bool) => bif !y then some [] else joinAt (fun (z : (Unit × Unit) × ((Bool × List UInt8 × Unit) × Unit) × Unit × Unit) => Option.bind (F_strconv_FormatUint N x.fst 10 x_2) fun (y
 : List UInt8) => bif decide (8 + y.length ≤ 4611686018427387904) then bif decide (([99, 111, 110, 116, 97, 99, 116, 32] ++ y).length + 1 ≤ 4611686018427387904) then Option.bind (F_strings_Builder_WriteString N ([99,
 111, 110, 116, 97, 99, 116, 32] ++ y ++ [10]) z.snd.fst.fst.fst z.snd.fst.fst.snd.fst) fun (y : (Int × Bool × Unit) × ((Bool × List UInt8 × Unit) × Unit) × Unit × Unit) => iter (fun (rec : (Int × Unit) × ((Bool × List
 UInt8 × Unit) × Unit) × Unit × Unit → Option (List UInt8)) (z : (Int × Unit) × ((Bool × List UInt8 × Unit) × Unit) × Unit × Unit) => bif decide (z.fst.fst < (↑x.snd.length : Int)) then (at? x.snd z.fst.fst).bind fun (e
 : UInt8 × List UInt8 × List (List UInt8)) => Option.bind (F_field_Name N e.fst x_1) fun (y : List UInt8) => bif decide (y.length + 1 ≤ 4611686018427387904) then Option.bind (F_field_Quote N e.snd.fst) fun (y_1 : List
 UInt8) => bif decide ((y ++ [32]).length + y_1.length ≤ 4611686018427387904) then Option.bind (F_strings_Builder_WriteString N (y ++ [32] ++ y_1) z.snd.fst.fst.fst z.snd.fst.fst.snd.fst) fun (y : (Int × Bool × Unit) ×
 ((Bool × List UInt8 × Unit) × Unit) × Unit × Unit) => iter (fun (rec_1 : (Int × Unit) × ((Bool × List UInt8 × Unit) × Unit) × Unit × Unit → Option (List UInt8)) (z_1 : (Int × Unit) × ((Bool × List UInt8 × Unit) × Unit)
 × Unit × Unit) => bif decide (z_1.fst.fst < (↑e.snd.snd.length : Int)) then (at? e.snd.snd z_1.fst.fst).bind fun (e : List UInt8) => Option.bind (F_field_Quote N e) fun (y : List UInt8) => bif decide (1 + y.length ≤
 4611686018427387904) then Option.bind (F_strings_Builder_WriteString N ([32] ++ y) z_1.snd.fst.fst.fst z_1.snd.fst.fst.snd.fst) fun (y : (Int × Bool × Unit) × ((Bool × List UInt8 × Unit) × Unit) × Unit × Unit) => rec_1
 ((IntKind.i64.wrap (z_1.fst.fst + 1), ()), ((y.snd.fst.fst.fst, y.snd.fst.fst.snd.fst, ()), ()), (), ()) else none else Option.bind (F_strings_Builder_WriteByte N 10 z_1.snd.fst.fst.fst z_1.snd.fst.fst.snd.fst) fun (y :
 (Bool × Unit) × ((Bool × List UInt8 × Unit) × Unit) × Unit × Unit) => rec ((IntKind.i64.wrap (z.fst.fst + 1), ()), ((y.snd.fst.fst.fst, y.snd.fst.fst.snd.fst, ()), ()), (), ())) N ((0, ()), ((y.snd.fst.fst.fst,
 y.snd.fst.fst.snd.fst, ()), ()), (), ()) else none else none else Option.bind (F_strings_Builder_WriteString N [101, 110, 100, 10] z.snd.fst.fst.fst z.snd.fst.fst.snd.fst) fun (y : (Int × Bool × Unit) × ((Bool × List
 UInt8 × Unit) × Unit) × Unit × Unit) => Option.bind (F_strings_Builder_String N y.snd.fst.fst.fst y.snd.fst.fst.snd.fst) fun (y : (List UInt8 × Unit) × ((Bool × List UInt8 × Unit) × Unit) × Unit × Unit) => some
 y.fst.fst) N ((0, ()), ((y.snd.fst.fst.fst, y.snd.fst.fst.snd.fst, ()), ()), (), ()) else none else none) fun (k : (Unit × Unit) × ((Bool × List UInt8 × Unit) × Unit) × Unit × Unit → Option (List UInt8)) => k (((), ()),
 ((true, [], ()), ()), (), ())
theorem E_text_Print (N : Nat) : runG Tryd.prog [e_card_Good N, e_strings_Builder_WriteString N, e_strconv_FormatUint N, e_field_Name N, e_field_Quote N, e_strings_Builder_WriteByte N, e_strings_Builder_String N] [] N Tryd.f16 (.seq .lf (.seq .lf (.join ⟨[(3, .p 1003 0)], [(1003, [.z 1003 0, .tip 300301 .u8 (some 5)], some 78)], [1, 1000001, 1000003], [1001], [], []⟩ .lf (.seq .lf (.seq (.seq .lf (.blk (.loop ⟨[(20, .d (.int .i64))], [(1003, [.z 1003 0, .tip 300301 .u8 (some 5)], some 78)], [3, 18, 19, 1000001, 1000003], [], [], []⟩ (.seq .lf (.seq .lf (.seq (.blk (.seq .lf (.seq .lf (.seq (.seq .lf (.blk (.loop ⟨[(36, .d (.int .i64))], [(1003, [.z 1003 0, .tip 300301 .u8 (some 5)], some 78)], [3, 18, 19, 20, 34, 35, 1000001, 1000003], [], [], []⟩ .lf))) .lf)))) .lf)))))) .lf))))) [tCard, (.tab .str), (.tab (.int .u64))] [.str] 1 [1, 3] = F_text_Print N := by kernel_rfl
noncomputable def e_text_Print (N : Nat) : Ent Tryd.prog := mkFnG 16 Tryd.f16 (.seq .lf (.seq .lf (.join ⟨[(3, .p 1003 0)], [(1003, [.z 1003 0, .tip 300301 .u8 (some 5)], some 78)], [1, 1000001, 1000003], [1001], [], []⟩ .lf (.seq .lf (.seq (.seq .lf (.blk (.loop ⟨[(20, .d (.int .i64))], [(1003, [.z 1003 0, .tip 300301 .u8 (some 5)], some 78)], [3, 18, 19, 1000001, 1000003], [], [], []⟩ (.seq .lf (.seq .lf (.seq (.blk (.seq .lf (.seq .lf (.seq (.seq .lf (.blk (.loop ⟨[(36, .d (.int .i64))], [(1003, [.z 1003 0, .tip 300301 .u8 (some 5)], some 78)], [3, 18, 19, 20, 34, 35, 1000001, 1000003], [], [], []⟩ .lf))) .lf)))) .lf)))))) .lf))))) [tCard, (.tab .str), (.tab (.int .u64))] [.str] 1 [1, 3] (F_text_Print N) mixed Tryd.func16 (.mk' Tryd.func16 rfl (by decide)) rfl (E_text_Print N)
noncomputable def F_internal_stringslite_TrimPrefix (N : Nat) : Fun [.str, .str] (Option (ResT [.str])) := fun (x x_1 : List UInt8) => Option.bind (F_internal_stringslite_HasPrefix N x x_1) fun (y : Bool) => bif y then
 bif cutOk (↑x_1.length : Int) (↑x.length : Int) x.length then some (List.drop (↑x_1.length : Int).toNat x) else none else some x
theorem E_internal_stringslite_TrimPrefix (N : Nat) : runF Tryd.prog [e_internal_stringslite_HasPrefix N] [] N Tryd.f101 .lf [.str, .str] [.str] = F_internal_stringslite_TrimPrefix N := by kernel_rfl
noncomputable def e_internal_stringslite_TrimPrefix (N : Nat) : Ent Tryd.prog := mkFn 101 Tryd.f101 .lf [.str, .str] [.str] (F_internal_stringslite_TrimPrefix N) mixed Tryd.func101 (.mk' Tryd.func101 rfl (by decide)) rfl (E_internal_stringslite_TrimPrefix N)
noncomputable def F_strings_TrimPrefix (N : Nat) : Fun [.str, .str] (Option (ResT [.str])) := fun (x x_1 : List UInt8) => Option.bind (F_internal_stringslite_TrimPrefix N x x_1) fun (y : List UInt8) => some y
theorem E_strings_TrimPrefix (N : Nat) : runF Tryd.prog [e_internal_stringslite_TrimPrefix N] [] N Tryd.f66 .lf [.str, .str] [.str] = F_strings_TrimPrefix N := by kernel_rfl
noncomputable def e_strings_TrimPrefix (N : Nat) : Ent Tryd.prog := mkFn 66 Tryd.f66 .lf [.str, .str] [.str] (F_strings_TrimPrefix N) mixed Tryd.func66 (.mk' Tryd.func66 rfl (by decide)) rfl (E_strings_TrimPrefix N)
noncomputable def e_internal_strconv_underscoreOK (N : Nat) : Ent Tryd.prog := mkNone 126
noncomputable def e_strconv_baseError (N : Nat) : Ent Tryd.prog := mkNone 129
noncomputable def e_strconv_bitSizeError (N : Nat) : Ent Tryd.prog := mkNone 130
noncomputable def e_internal_bytealg_IndexString_f (N : Nat) : Ent Tryd.prog := mkIdxStr 134 2 ⟨⟨_, rfl, rfl, rfl, by kernel_rfl, by kernel_rfl⟩, by kernel_rfl⟩
noncomputable def F_internal_bytealg_Cutover_f (N : Nat) : Fun [(.int .i64)] (Option (ResT [(.int .i64)])) := fun (x : Int) => some (IntKind.i64.wrap ((IntKind.i64.wrap (x + 16)).tdiv 8))
theorem E_internal_bytealg_Cutover_f (N : Nat) : runF Tryd.prog [] [] N Tryd.f135 .lf [(.int .i64)] [(.int .i64)] = F_internal_bytealg_Cutover_f N := by kernel_rfl
noncomputable def e_internal_bytealg_Cutover_f (N : Nat) : Ent Tryd.prog := mkFn 135 Tryd.f135 .lf [(.int .i64)] [(.int .i64)] (F_internal_bytealg_Cutover_f N) mixed Tryd.func135 (.mk' Tryd.func135 rfl (by decide)) rfl (E_internal_bytealg_Cutover_f N)
noncomputable def F_internal_bytealg_hashStr_string (N : Nat) : Fun [.str] (Option (ResT [(.int .u32), (.int .u32)])) := fun (x : List UInt8) => iter (fun (rec : (Int × Int × Unit) × Unit × Unit × Unit → Option (Int ×
 Int)) (z : (Int × Int × Unit) × Unit × Unit × Unit) => bif decide (z.fst.snd.fst < (↑x.length : Int)) then (at? x z.fst.snd.fst).bind fun (c : UInt8) => rec ((IntKind.u32.wrap (IntKind.u32.wrap (z.fst.fst * 16777619) +
 (↑c.toNat : Int)), IntKind.i64.wrap (z.fst.snd.fst + 1), ()), (), (), ()) else iter (fun (rec : (Int × Int × Int × Unit) × Unit × Unit × Unit → Option (Int × Int)) (z_1 : (Int × Int × Int × Unit) × Unit × Unit × Unit)
 => bif decide (0 < z_1.fst.snd.snd.fst) then bif bits BinOp.and IntKind.i64 z_1.fst.snd.snd.fst 1 != 0 then rec ((IntKind.u32.wrap (z_1.fst.fst * z_1.fst.snd.fst), IntKind.u32.wrap (z_1.fst.snd.fst * z_1.fst.snd.fst),
 z_1.fst.snd.snd.fst.fdiv 2, ()), (), (), ()) else rec ((z_1.fst.fst, IntKind.u32.wrap (z_1.fst.snd.fst * z_1.fst.snd.fst), z_1.fst.snd.snd.fst.fdiv 2, ()), (), (), ()) else some (z.fst.fst, z_1.fst.fst)) N ((1,
 16777619, (↑x.length : Int), ()), (), (), ())) N ((0, 0, ()), (), (), ())
theorem E_internal_bytealg_hashStr_string (N : Nat) : runF Tryd.prog [] [] N Tryd.f159 (.seq .lf (.seq .lf (.seq (.seq .lf (.blk (.loop ⟨[(4, .d (.int .u32)), (5, .d (.int .i64))], [], [0], [], [], []⟩ .lf))) (.seq .lf (.seq (.seq .lf (.blk (.loop ⟨[(6, .d (.int .u32)), (7, .d (.int .u32)), (8, .d (.int .i64))], [], [4], [], [], []⟩ .lf))) .lf))))) [.str] [(.int .u32), (.int .u32)] = F_internal_bytealg_hashStr_string N := by kernel_rfl
noncomputable def e_internal_bytealg_hashStr_string (N : Nat) : Ent Tryd.prog := mkFn 159 Tryd.f159 (.seq .lf (.seq .lf (.seq (.seq .lf (.blk (.loop ⟨[(4, .d (.int .u32)), (5, .d (.int .i64))], [], [0], [], [], []⟩ .lf))) (.seq .lf (.seq (.seq .lf (.blk (.loop ⟨[(6, .d (.int .u32)), (7, .d (.int .u32)), (8, .d (.int .i64))], [], [4], [], [], []⟩ .lf))) .lf))))) [.str] [(.int .u32), (.int .u32)] (F_internal_bytealg_hashStr_string N) mixed Tryd.func159 (.mk' Tryd.func159 rfl (by decide)) rfl (E_internal_bytealg_hashStr_string N)
noncomputable def F_internal_bytealg_IndexRabinKarp_string_f (N : Nat) : Fun [.str, .str] (Option (ResT [(.int .i64)])) := fun (x x_1 : List UInt8) => Option.bind (F_internal_bytealg_hashStr_string N x_1) fun (y : Int ×
 Int) => iter (fun (rec : (Int × Int × Unit) × Unit × Unit × Unit → Option Int) (z : (Int × Int × Unit) × Unit × Unit × Unit) => bif decide (z.fst.snd.fst < (↑x_1.length : Int)) then (at? x z.fst.snd.fst).bind fun (c :
 UInt8) => rec ((IntKind.u32.wrap (IntKind.u32.wrap (z.fst.fst * 16777619) + (↑c.toNat : Int)), IntKind.i64.wrap (z.fst.snd.fst + 1), ()), (), (), ()) else bif z.fst.fst == y.fst then bif cutOk 0 (↑x_1.length : Int)
 x.length then bif List.take (↑x_1.length : Int).toNat x == x_1 then some 0 else iter (fun (rec : (Int × Int × Unit) × Unit × Unit × Unit → Option Int) (z : (Int × Int × Unit) × Unit × Unit × Unit) => bif decide
 (z.fst.snd.fst < (↑x.length : Int)) then (at? x z.fst.snd.fst).bind fun (c : UInt8) => (at? x (IntKind.i64.wrap (z.fst.snd.fst - (↑x_1.length : Int)))).bind fun (c_1 : UInt8) => bif IntKind.u32.wrap (IntKind.u32.wrap
 (IntKind.u32.wrap (z.fst.fst * 16777619) + (↑c.toNat : Int)) - IntKind.u32.wrap (y.snd * (↑c_1.toNat : Int))) == y.fst then bif cutOk (IntKind.i64.wrap (IntKind.i64.wrap (z.fst.snd.fst + 1) - (↑x_1.length : Int)))
 (IntKind.i64.wrap (z.fst.snd.fst + 1)) x.length then bif List.take ((IntKind.i64.wrap (z.fst.snd.fst + 1)).toNat - (IntKind.i64.wrap (IntKind.i64.wrap (z.fst.snd.fst + 1) - (↑x_1.length : Int))).toNat) (List.drop
 (IntKind.i64.wrap (IntKind.i64.wrap (z.fst.snd.fst + 1) - (↑x_1.length : Int))).toNat x) == x_1 then some (IntKind.i64.wrap (IntKind.i64.wrap (z.fst.snd.fst + 1) - (↑x_1.length : Int))) else rec ((IntKind.u32.wrap
 (IntKind.u32.wrap (IntKind.u32.wrap (z.fst.fst * 16777619) + (↑c.toNat : Int)) - IntKind.u32.wrap (y.snd * (↑c_1.toNat : Int))), IntKind.i64.wrap (z.fst.snd.fst + 1), ()), (), (), ()) else none else rec
 ((IntKind.u32.wrap (IntKind.u32.wrap (IntKind.u32.wrap (z.fst.fst * 16777619) + (↑c.toNat : Int)) - IntKind.u32.wrap (y.snd * (↑c_1.toNat : Int))), IntKind.i64.wrap (z.fst.snd.fst + 1), ()), (), (), ()) else some (-1))
 N ((z.fst.fst, (↑x_1.length : Int), ()), (), (), ()) else none else iter (fun (rec : (Int × Int × Unit) × Unit × Unit × Unit → Option Int) (z : (Int × Int × Unit) × Unit × Unit × Unit) => bif decide (z.fst.snd.fst <
 (↑x.length : Int)) then (at? x z.fst.snd.fst).bind fun (c : UInt8) => (at? x (IntKind.i64.wrap (z.fst.snd.fst - (↑x_1.length : Int)))).bind fun (c_1 : UInt8) => bif IntKind.u32.wrap (IntKind.u32.wrap (IntKind.u32.wrap
 (z.fst.fst * 16777619) + (↑c.toNat : Int)) - IntKind.u32.wrap (y.snd * (↑c_1.toNat : Int))) == y.fst then bif cutOk (IntKind.i64.wrap (IntKind.i64.wrap (z.fst.snd.fst + 1) - (↑x_1.length : Int))) (IntKind.i64.wrap
 (z.fst.snd.fst + 1)) x.length then bif List.take ((IntKind.i64.wrap (z.fst.snd.fst + 1)).toNat - (IntKind.i64.wrap (IntKind.i64.wrap (z.fst.snd.fst + 1) - (↑x_1.length : Int))).toNat) (List.drop (IntKind.i64.wrap
 (IntKind.i64.wrap (z.fst.snd.fst + 1) - (↑x_1.length : Int))).toNat x) == x_1 then some (IntKind.i64.wrap (IntKind.i64.wrap (z.fst.snd.fst + 1) - (↑x_1.length : Int))) else rec ((IntKind.u32.wrap (IntKind.u32.wrap
 (IntKind.u32.wrap (z.fst.fst * 16777619) + (↑c.toNat : Int)) - IntKind.u32.wrap (y.snd * (↑c_1.toNat : Int))), IntKind.i64.wrap (z.fst.snd.fst + 1), ()), (), (), ()) else none else rec ((IntKind.u32.wrap
 (IntKind.u32.wrap (IntKind.u32.wrap (z.fst.fst * 16777619) + (↑c.toNat : Int)) - IntKind.u32.wrap (y.snd * (↑c_1.toNat : Int))), IntKind.i64.wrap (z.fst.snd.fst + 1), ()), (), (), ()) else some (-1)) N ((z.fst.fst,
 (↑x_1.length : Int), ()), (), (), ())) N ((0, 0, ()), (), (), ())
theorem E_internal_bytealg_IndexRabinKarp_string_f (N : Nat) : runF Tryd.prog [e_internal_bytealg_hashStr_string N] [] N Tryd.f136 (.seq .lf (.seq .lf (.seq .lf (.seq .lf (.seq (.seq .lf (.blk (.loop ⟨[(8, .d (.int .u32)), (9, .d (.int .i64))], [], [0, 1, 5, 6, 7], [], [], []⟩ .lf))) (.seq .lf (.seq (.seq .lf (.blk (.loop ⟨[(8, .d (.int .u32)), (10, .d (.int .i64))], [], [0, 1, 5, 6, 7], [], [], []⟩ .lf))) .lf))))))) [.str, .str] [(.int .i64)] = F_internal_bytealg_IndexRabinKarp_string_f N := by kernel_rfl
noncomputable def e_internal_bytealg_IndexRabinKarp_string_f (N : Nat) : Ent Tryd.prog := mkFn 136 Tryd.f136 (.seq .lf (.seq .lf (.seq .lf (.seq .lf (.seq (.seq .lf (.blk (.loop ⟨[(8, .d (.int .u32)), (9, .d (.int .i64))], [], [0, 1, 5, 6, 7], [], [], []⟩ .lf))) (.seq .lf (.seq (.seq .lf (.blk (.loop ⟨[(8, .d (.int .u32)), (10, .d (.int .i64))], [], [0, 1, 5, 6, 7], [], [], []⟩ .lf))) .lf))))))) [.str, .str] [(.int .i64)] (F_internal_bytealg_IndexRabinKarp_string_f N) mixed Tryd.func136 (.mk' Tryd.func136 rfl (by decide)) rfl (E_internal_bytealg_IndexRabinKarp_string_f N)
noncomputable def e_internal_bytealg_IndexByteString (N : Nat) : Ent Tryd.prog := mkIdxByte 158 ⟨_, rfl, rfl, rfl, by kernel_rfl, by kernel_rfl⟩
noncomputable def F_internal_stringslite_Index_f (N : Nat) : Fun [.str, .str, (.tab (.int .i64))] (Option (ResT [(.int .i64)])) := fun (x x_1 : List UInt8) (x_2 : List Int) => joinAt (fun (z : Unit × Unit × Unit × Unit)
 => x_1[0]?.bind fun (c : UInt8) => x_1[1]?.bind fun (c_1 : UInt8) => iter (fun (rec : (Int × Int × Unit) × Unit × Unit × Unit → Option Int) (z : (Int × Int × Unit) × Unit × Unit × Unit) => bif decide (z.fst.fst <
 IntKind.i64.wrap (IntKind.i64.wrap ((↑x.length : Int) - (↑x_1.length : Int)) + 1)) then joinAt (fun (z_1 : (Int × Unit) × Unit × Unit × Unit) => joinAt (fun (z_2 : Unit × Unit × Unit × Unit) => joinAt (fun (z_3 : (Bool
 × Unit) × Unit × Unit × Unit) => bif z_3.fst.fst then bif cutOk (IntKind.i64.wrap (z_1.fst.fst + 1)) (↑x.length : Int) x.length then (F_idxStr (List.drop (IntKind.i64.wrap (z_1.fst.fst + 1)).toNat x) x_1 x_2).bind fun
 (n : Int) => bif decide (0 ≤ n) then some (IntKind.i64.wrap (n + IntKind.i64.wrap (z_1.fst.fst + 1))) else some (-1) else none else joinAt (fun (z_4 : (Bool × Unit) × Unit × Unit × Unit) => bif z_4.fst.fst then bif
 cutOk (IntKind.i64.wrap (z_1.fst.fst + 1)) (↑x.length : Int) x.length then Option.bind (F_internal_bytealg_IndexRabinKarp_string_f N (List.drop (IntKind.i64.wrap (z_1.fst.fst + 1)).toNat x) x_1) fun (y : Int) => bif
 decide (y < 0) then some (-1) else some (IntKind.i64.wrap (IntKind.i64.wrap (z_1.fst.fst + 1) + y)) else none else rec ((IntKind.i64.wrap (z_1.fst.fst + 1), IntKind.i64.wrap (z.fst.snd.fst + 1), ()), (), (), ())) fun (k
 : (Bool × Unit) × Unit × Unit × Unit → Option Int) => listCase x_2 none fun (z_4 : Int) (r : List Int) => bif decide (z_4 < (↑x_1.length : Int)) then bif decide (IntKind.i64.wrap (4 + (IntKind.i64.wrap (z_1.fst.fst +
 1)).fdiv 16) ≤ IntKind.i64.wrap (z.fst.snd.fst + 1)) then k ((decide (IntKind.i64.wrap (z_1.fst.fst + 1) < IntKind.i64.wrap (IntKind.i64.wrap ((↑x.length : Int) - (↑x_1.length : Int)) + 1)), ()), (), (), ()) else k
 ((false, ()), (), (), ()) else k ((false, ()), (), (), ())) fun (k : (Bool × Unit) × Unit × Unit × Unit → Option Int) => listCase x_2 none fun (z_3 : Int) (r : List Int) => bif decide ((↑x_1.length : Int) ≤ z_3) then
 Option.bind (F_internal_bytealg_Cutover_f N (IntKind.i64.wrap (z_1.fst.fst + 1))) fun (y : Int) => k ((decide (y < IntKind.i64.wrap (z.fst.snd.fst + 1)), ()), (), (), ()) else k ((false, ()), (), (), ())) fun (k : Unit
 × Unit × Unit × Unit → Option Int) => (at? x (IntKind.i64.wrap (z_1.fst.fst + 1))).bind fun (c : UInt8) => bif c == c_1 then bif cutOk z_1.fst.fst (IntKind.i64.wrap (z_1.fst.fst + (↑x_1.length : Int))) x.length then bif
 List.take ((IntKind.i64.wrap (z_1.fst.fst + (↑x_1.length : Int))).toNat - z_1.fst.fst.toNat) (List.drop z_1.fst.fst.toNat x) == x_1 then some z_1.fst.fst else k ((), (), (), ()) else none else k ((), (), (), ())) fun (k
 : (Int × Unit) × Unit × Unit × Unit → Option Int) => (at? x z.fst.fst).bind fun (c_2 : UInt8) => bif c_2 != c then bif cutOk (IntKind.i64.wrap (z.fst.fst + 1)) (IntKind.i64.wrap (IntKind.i64.wrap ((↑x.length : Int) -
 (↑x_1.length : Int)) + 1)) x.length then Option.bind (F_internal_stringslite_IndexByte N (List.take ((IntKind.i64.wrap (IntKind.i64.wrap ((↑x.length : Int) - (↑x_1.length : Int)) + 1)).toNat - (IntKind.i64.wrap
 (z.fst.fst + 1)).toNat) (List.drop (IntKind.i64.wrap (z.fst.fst + 1)).toNat x)) c) fun (y : Int) => bif decide (y < 0) then some (-1) else k ((IntKind.i64.wrap (z.fst.fst + IntKind.i64.wrap (y + 1)), ()), (), (), ())
 else none else k ((z.fst.fst, ()), (), (), ()) else some (-1)) N ((0, 0, ()), (), (), ())) fun (k : Unit × Unit × Unit × Unit → Option Int) => joinAt (fun (z : (Bool × Unit) × Unit × Unit × Unit) => bif z.fst.fst then
 some 0 else bif (↑x_1.length : Int) == 1 then x_1[0]?.bind fun (c : UInt8) => Option.bind (F_internal_stringslite_IndexByte N x c) fun (y : Int) => some y else bif decide ((↑x.length : Int) ≤ (↑x_1.length : Int)) then
 some (-1) else listCase x_2 none fun (z : Int) (r : List Int) => bif decide ((↑x_1.length : Int) ≤ z) then bif decide ((↑x.length : Int) ≤ 64) then (F_idxStr x x_1 x_2).bind fun (n : Int) => some n else k ((), (), (),
 ()) else k ((), (), (), ())) fun (k : (Bool × Unit) × Unit × Unit × Unit → Option Int) => bif (↑x_1.length : Int) == 0 then k ((true, ()), (), (), ()) else k ((x_1 == x, ()), (), (), ())
theorem E_internal_stringslite_Index_f (N : Nat) : runG Tryd.prog [e_internal_bytealg_IndexString_f N, e_internal_bytealg_Cutover_f N, e_internal_bytealg_IndexRabinKarp_string_f N, e_internal_stringslite_IndexByte N] [] N Tryd.f111 (.seq .lf (.seq .lf (.join ⟨[], [], [0, 1, 5, 1000002], [], [], []⟩ (.blk (.join ⟨[(16, .d .bool)], [], [0, 1, 5, 1000002], [], [], []⟩ .lf .lf)) (.seq .lf (.seq .lf (.seq .lf (.seq .lf (.seq .lf (.seq (.blk (.loop ⟨[(8, .d (.int .i64)), (10, .d (.int .i64))], [], [0, 1, 5, 6, 7, 9, 1000002], [], [], []⟩ (.seq .lf (.blk (.join ⟨[(8, .d (.int .i64))], [], [0, 1, 5, 6, 7, 9, 10, 1000002], [], [], []⟩ .lf (.join ⟨[], [], [0, 1, 5, 6, 7, 8, 9, 10, 1000002], [], [], []⟩ .lf (.seq .lf (.seq .lf (.join ⟨[(107, .d .bool)], [], [0, 1, 5, 6, 7, 8, 9, 10, 1000002], [], [], []⟩ .lf (.cond .lf (.join ⟨[(132, .d .bool)], [], [0, 1, 5, 6, 7, 8, 9, 10, 1000002], [], [], []⟩ .lf .lf))))))))))) .lf))))))))) [.str, .str, (.tab (.int .i64))] [(.int .i64)] 2 [2] = F_internal_stringslite_Index_f N := by kernel_rfl
noncomputable def e_internal_stringslite_Index_f (N : Nat) : Ent Tryd.prog := mkFnG 111 Tryd.f111 (.seq .lf (.seq .lf (.join ⟨[], [], [0, 1, 5, 1000002], [], [], []⟩ (.blk (.join ⟨[(16, .d .bool)], [], [0, 1, 5, 1000002], [], [], []⟩ .lf .lf)) (.seq .lf (.seq .lf (.seq .lf (.seq .lf (.seq .lf (.seq (.blk (.loop ⟨[(8, .d (.int .i64)), (10, .d (.int .i64))], [], [0, 1, 5, 6, 7, 9, 1000002], [], [], []⟩ (.seq .lf (.blk (.join ⟨[(8, .d (.int .i64))], [], [0, 1, 5, 6, 7, 9, 10, 1000002], [], [], []⟩ .lf (.join ⟨[], [], [0, 1, 5, 6, 7, 8, 9, 10, 1000002], [], [], []⟩ .lf (.seq .lf (.seq .lf (.join ⟨[(107, .d .bool)], [], [0, 1, 5, 6, 7, 8, 9, 10, 1000002], [], [], []⟩ .lf (.cond .lf (.join ⟨[(132, .d .bool)], [], [0, 1, 5, 6, 7, 8, 9, 10, 1000002], [], [], []⟩ .lf .lf))))))))))) .lf))))))))) [.str, .str, (.tab (.int .i64))] [(.int .i64)] 2 [2] (F_internal_stringslite_Index_f N) mixed Tryd.func111 (.mk' Tryd.func111 rfl (by decide)) rfl (E_internal_stringslite_Index_f N)
noncomputable def F_strings_Index (N : Nat) : Fun [.str, .str, (.tab (.int .i64))] (Option (ResT [(.int .i64)])) := fun (x x_1 : List UInt8) (x_2 : List Int) => Option.bind (F_internal_stringslite_Index_f N x x_1 x_2)
 fun (y : Int) => some y
theorem E_strings_Index (N : Nat) : runG Tryd.prog [e_internal_stringslite_Index_f N] [] N Tryd.f81 .lf [.str, .str, (.tab (.int .i64))] [(.int .i64)] 2 [2] = F_strings_Index N := by kernel_rfl
noncomputable def e_strings_Index (N : Nat) : Ent Tryd.prog := mkFnG 81 Tryd.f81 .lf [.str, .str, (.tab (.int .i64))] [(.int .i64)] 2 [2] (F_strings_Index N) mixed Tryd.func81 (.mk' Tryd.func81 rfl (by decide)) rfl (E_strings_Index N)
noncomputable def e_strings_explode (N : Nat) : Ent Tryd.prog := mkNone 137
noncomputable def F_unicode_utf8_RuneCountInString (N : Nat) : Fun [.str] (Option (ResT [(.int .i64)])) := fun (x : List UInt8) => iter (fun (rec : (Int × Unit) × Unit × Unit × (List UInt8 × Nat) × Unit → Option Int) (z
 : (Int × Unit) × Unit × Unit × (List UInt8 × Nat) × Unit) => bif z.snd.snd.snd.fst.snd.blt z.snd.snd.snd.fst.fst.length then rec ((IntKind.i64.wrap (z.fst.fst + 1), ()), (), (), (z.snd.snd.snd.fst.fst,
 z.snd.snd.snd.fst.snd + (Utf8.decode { data := z.snd.snd.snd.fst.fst.toArray } z.snd.snd.snd.fst.snd).snd), ()) else some z.fst.fst) N ((0, ()), (), (), (x, 0), ())
theorem E_unicode_utf8_RuneCountInString (N : Nat) : runF Tryd.prog [] [] N Tryd.f160 (.seq .lf (.seq (.seq .lf (.blk (.loop ⟨[(2, .d (.int .i64))], [], [4], [], [], [(1004, .sit)]⟩ .lf))) .lf)) [.str] [(.int .i64)] = F_unicode_utf8_RuneCountInString N := by kernel_rfl
noncomputable def e_unicode_utf8_RuneCountInString (N : Nat) : Ent Tryd.prog := mkFn 160 Tryd.f160 (.seq .lf (.seq (.seq .lf (.blk (.loop ⟨[(2, .d (.int .i64))], [], [4], [], [], [(1004, .sit)]⟩ .lf))) .lf)) [.str] [(.int .i64)] (F_unicode_utf8_RuneCountInString N) mixed Tryd.func160 (.mk' Tryd.func160 rfl (by decide)) rfl (E_unicode_utf8_RuneCountInString N)
noncomputable def e_internal_bytealg_CountString (N : Nat) : Ent Tryd.prog := mkCntByte 162 ⟨_, rfl, rfl, rfl, by kernel_rfl, by kernel_rfl⟩
noncomputable def F_strings_Count (N : Nat) : Fun [.str, .str, (.tab (.int .i64))] (Option (ResT [(.int .i64)])) := fun (x x_1 : List UInt8) (x_2 : List Int) => bif (↑x_1.length : Int) == 0 then Option.bind
 (F_unicode_utf8_RuneCountInString N x) fun (y : Int) => some (IntKind.i64.wrap (y + 1)) else bif (↑x_1.length : Int) == 1 then x_1[0]?.bind fun (c : UInt8) => some (↑(List.count c x) : Int) else iter (fun (rec : (List
 UInt8 × Int × Unit) × Unit × Unit × Unit → Option Int) (z : (List UInt8 × Int × Unit) × Unit × Unit × Unit) => Option.bind (F_strings_Index N z.fst.fst x_1 x_2) fun (y : Int) => bif y == -1 then some z.fst.snd.fst else
 bif cutOk (IntKind.i64.wrap (y + (↑x_1.length : Int))) (↑z.fst.fst.length : Int) z.fst.fst.length then rec ((List.drop (IntKind.i64.wrap (y + (↑x_1.length : Int))).toNat z.fst.fst, IntKind.i64.wrap (z.fst.snd.fst + 1),
 ()), (), (), ()) else none) N ((x, 0, ()), (), (), ())
theorem E_strings_Count (N : Nat) : runG Tryd.prog [e_unicode_utf8_RuneCountInString N, e_internal_bytealg_CountString N, e_strings_Index N] [] N Tryd.f138 (.seq .lf (.seq .lf (.seq .lf (.seq .lf (.blk (.loop ⟨[(0, .d .str), (5, .d (.int .i64))], [], [1, 1000002], [], [], []⟩ .lf)))))) [.str, .str, (.tab (.int .i64))] [(.int .i64)] 2 [2] = F_strings_Count N := by kernel_rfl
noncomputable def e_strings_Count (N : Nat) : Ent Tryd.prog := mkFnG 138 Tryd.f138 (.seq .lf (.seq .lf (.seq .lf (.seq .lf (.blk (.loop ⟨[(0, .d .str), (5, .d (.int .i64))], [], [1, 1000002], [], [], []⟩ .lf)))))) [.str, .str, (.tab (.int .i64))] [(.int .i64)] 2 [2] (F_strings_Count N) mixed Tryd.func138 (.mk' Tryd.func138 rfl (by decide)) rfl (E_strings_Count N)
noncomputable def F_strings_genSplit (N : Nat) : Fun [.str, .str, (.int .i64), (.int .i64), (.tab (.int .i64))] (Option (ResT [(.sl .str)])) := fun (x x_1 : List UInt8) (x_2 x_3 : Int) (x_4 : List Int) => bif x_3 == 0
 then some [] else bif x_1 == [] then none else joinAt (fun (z : (Int × Unit) × Unit × Unit × Unit) => bif decide (0 ≤ bif true then if IntKind.i64.wrap ((↑x.length : Int) + 1) < z.fst.fst then IntKind.i64.wrap
 ((↑x.length : Int) + 1) else z.fst.fst else if IntKind.i64.wrap ((↑x.length : Int) + 1) > z.fst.fst then IntKind.i64.wrap ((↑x.length : Int) + 1) else z.fst.fst) && (decide (16 * (bif true then if IntKind.i64.wrap
 ((↑x.length : Int) + 1) < z.fst.fst then IntKind.i64.wrap ((↑x.length : Int) + 1) else z.fst.fst else if IntKind.i64.wrap ((↑x.length : Int) + 1) > z.fst.fst then IntKind.i64.wrap ((↑x.length : Int) + 1) else
 z.fst.fst).toNat ≤ 281474976710656) && decide ((bif true then if IntKind.i64.wrap ((↑x.length : Int) + 1) < z.fst.fst then IntKind.i64.wrap ((↑x.length : Int) + 1) else z.fst.fst else if IntKind.i64.wrap ((↑x.length :
 Int) + 1) > z.fst.fst then IntKind.i64.wrap ((↑x.length : Int) + 1) else z.fst.fst) ≤ 9223372036854775807)) then joinAt (fun (z_1 : (List UInt8 × Int × Unit) × Unit × Unit × List (List UInt8) × Unit) => bif decide (0 ≤
 z_1.fst.snd.fst) && decide (z_1.fst.snd.fst < (↑(bif true then if IntKind.i64.wrap ((↑x.length : Int) + 1) < z.fst.fst then IntKind.i64.wrap ((↑x.length : Int) + 1) else z.fst.fst else if IntKind.i64.wrap ((↑x.length :
 Int) + 1) > z.fst.fst then IntKind.i64.wrap ((↑x.length : Int) + 1) else z.fst.fst).toNat : Int)) then z_1.snd.snd.snd.fst[0 + z_1.fst.snd.fst.toNat]?.bind fun (e : List UInt8) => bif cutOk 0 (IntKind.i64.wrap
 (z_1.fst.snd.fst + 1)) (bif true then if IntKind.i64.wrap ((↑x.length : Int) + 1) < z.fst.fst then IntKind.i64.wrap ((↑x.length : Int) + 1) else z.fst.fst else if IntKind.i64.wrap ((↑x.length : Int) + 1) > z.fst.fst
 then IntKind.i64.wrap ((↑x.length : Int) + 1) else z.fst.fst).toNat then bif (0 + ((IntKind.i64.wrap (z_1.fst.snd.fst + 1)).toNat - 0)).ble (z_1.snd.snd.snd.fst.set (0 + z_1.fst.snd.fst.toNat) z_1.fst.fst).length then
 some (List.take ((IntKind.i64.wrap (z_1.fst.snd.fst + 1)).toNat - 0) (List.drop 0 (z_1.snd.snd.snd.fst.set (0 + z_1.fst.snd.fst.toNat) z_1.fst.fst))) else none else none else none) fun (k : (List UInt8 × Int × Unit) ×
 Unit × Unit × List (List UInt8) × Unit → Option (List (List UInt8))) => iter (fun (rec : (List UInt8 × Int × Unit) × Unit × Unit × List (List UInt8) × Unit → Option (List (List UInt8))) (z_1 : (List UInt8 × Int × Unit)
 × Unit × Unit × List (List UInt8) × Unit) => bif decide (z_1.fst.snd.fst < IntKind.i64.wrap ((bif true then if IntKind.i64.wrap ((↑x.length : Int) + 1) < z.fst.fst then IntKind.i64.wrap ((↑x.length : Int) + 1) else
 z.fst.fst else if IntKind.i64.wrap ((↑x.length : Int) + 1) > z.fst.fst then IntKind.i64.wrap ((↑x.length : Int) + 1) else z.fst.fst) - 1)) then Option.bind (F_strings_Index N z_1.fst.fst x_1 x_4) fun (y : Int) => bif
 decide (y < 0) then k ((z_1.fst.fst, z_1.fst.snd.fst, ()), (), (), z_1.snd.snd.snd.fst, ()) else bif cutOk 0 (IntKind.i64.wrap (y + x_2)) z_1.fst.fst.length then bif decide (0 ≤ z_1.fst.snd.fst) && decide
 (z_1.fst.snd.fst < (↑(bif true then if IntKind.i64.wrap ((↑x.length : Int) + 1) < z.fst.fst then IntKind.i64.wrap ((↑x.length : Int) + 1) else z.fst.fst else if IntKind.i64.wrap ((↑x.length : Int) + 1) > z.fst.fst then
 IntKind.i64.wrap ((↑x.length : Int) + 1) else z.fst.fst).toNat : Int)) then z_1.snd.snd.snd.fst[0 + z_1.fst.snd.fst.toNat]?.bind fun (e : List UInt8) => bif cutOk (IntKind.i64.wrap (y + (↑x_1.length : Int)))
 (↑z_1.fst.fst.length : Int) z_1.fst.fst.length then rec ((List.drop (IntKind.i64.wrap (y + (↑x_1.length : Int))).toNat z_1.fst.fst, IntKind.i64.wrap (z_1.fst.snd.fst + 1), ()), (), (), z_1.snd.snd.snd.fst.set (0 +
 z_1.fst.snd.fst.toNat) (List.take (IntKind.i64.wrap (y + x_2)).toNat z_1.fst.fst), ()) else none else none else none else k ((z_1.fst.fst, z_1.fst.snd.fst, ()), (), (), z_1.snd.snd.snd.fst, ())) N ((x, 0, ()), (), (),
 List.replicate (bif true then if IntKind.i64.wrap ((↑x.length : Int) + 1) < z.fst.fst then IntKind.i64.wrap ((↑x.length : Int) + 1) else z.fst.fst else if IntKind.i64.wrap ((↑x.length : Int) + 1) > z.fst.fst then
 IntKind.i64.wrap ((↑x.length : Int) + 1) else z.fst.fst).toNat [], ()) else none) fun (k : (Int × Unit) × Unit × Unit × Unit → Option (List (List UInt8))) => bif decide (x_3 < 0) then Option.bind (F_strings_Count N x
 x_1 x_4) fun (y : Int) => k ((IntKind.i64.wrap (y + 1), ()), (), (), ()) else k ((x_3, ()), (), (), ())
theorem E_strings_genSplit (N : Nat) : runG Tryd.prog [e_strings_explode N, e_strings_Count N, e_strings_Index N] [] N Tryd.f112 (.seq .lf (.seq .lf (.seq .lf (.join ⟨[(3, .d (.int .i64))], [], [0, 1, 2, 1000002], [], [], []⟩ .lf (.seq .lf (.seq .lf (.seq .lf (.seq .lf (.join ⟨[(0, .d .str), (10, .d (.int .i64))], [], [9, 1000002], [], [], [(1031, .arr .str)]⟩ (.blk (.loop ⟨[(0, .d .str), (10, .d (.int .i64))], [], [1, 2, 3, 9, 1000002], [], [], [(1031, .arr .str)]⟩ .lf)) .lf))))))))) [.str, .str, (.int .i64), (.int .i64), (.tab (.int .i64))] [(.sl .str)] 4 [2] = F_strings_genSplit N := by kernel_rfl
noncomputable def e_strings_genSplit (N : Nat) : Ent Tryd.prog := mkFnG 112 Tryd.f112 (.seq .lf (.seq .lf (.seq .lf (.join ⟨[(3, .d (.int .i64))], [], [0, 1, 2, 1000002], [], [], []⟩ .lf (.seq .lf (.seq .lf (.seq .lf (.seq .lf (.join ⟨[(0, .d .str), (10, .d (.int .i64))], [], [9, 1000002], [], [], [(1031, .arr .str)]⟩ (.blk (.loop ⟨[(0, .d .str), (10, .d (.int .i64))], [], [1, 2, 3, 9, 1000002], [], [], [(1031, .arr .str)]⟩ .lf)) .lf))))))))) [.str, .str, (.int .i64), (.int .i64), (.tab (.int .i64))] [(.sl .str)] 4 [2] (F_strings_genSplit N) mixed Tryd.func112 (.mk' Tryd.func112 rfl (by decide)) rfl (E_strings_genSplit N)
noncomputable def F_strings_Split (N : Nat) : Fun [.str, .str, (.tab (.int .i64))] (Option (ResT [(.sl .str)])) := fun (x x_1 : List UInt8) (x_2 : List Int) => Option.bind (F_strings_genSplit N x x_1 0 (-1) x_2) fun (y :
 List (List UInt8)) => some y
theorem E_strings_Split (N : Nat) : runG Tryd.prog [e_strings_genSplit N] [] N Tryd.f82 .lf [.str, .str, (.tab (.int .i64))] [(.sl .str)] 2 [2] = F_strings_Split N := by kernel_rfl
noncomputable def e_strings_Split (N : Nat) : Ent Tryd.prog := mkFnG 82 Tryd.f82 .lf [.str, .str, (.tab (.int .i64))] [(.sl .str)] 2 [2] (F_strings_Split N) mixed Tryd.func82 (.mk' Tryd.func82 rfl (by decide)) rfl (E_strings_Split N)
noncomputable def F_internal_stringslite_CutPrefix (N : Nat) : Fun [.str, .str] (Option (ResT [.str, .bool])) := fun (x x_1 : List UInt8) => Option.bind (F_internal_stringslite_HasPrefix N x x_1) fun (y : Bool) => bif !y
 then some (x, false) else bif cutOk (↑x_1.length : Int) (↑x.length : Int) x.length then some (List.drop (↑x_1.length : Int).toNat x, true) else none
theorem E_internal_stringslite_CutPrefix (N : Nat) : runF Tryd.prog [e_internal_stringslite_HasPrefix N] [] N Tryd.f139 .lf [.str, .str] [.str, .bool] = F_internal_stringslite_CutPrefix N := by kernel_rfl
noncomputable def e_internal_stringslite_CutPrefix (N : Nat) : Ent Tryd.prog := mkFn 139 Tryd.f139 .lf [.str, .str] [.str, .bool] (F_internal_stringslite_CutPrefix N) mixed Tryd.func139 (.mk' Tryd.func139 rfl (by decide)) rfl (E_internal_stringslite_CutPrefix N)
noncomputable def F_strings_CutPrefix (N : Nat) : Fun [.str, .str] (Option (ResT [.str, .bool])) := fun (x x_1 : List UInt8) => Option.bind (F_internal_stringslite_CutPrefix N x x_1) fun (y : List UInt8 × Bool) => some y
theorem E_strings_CutPrefix (N : Nat) : runF Tryd.prog [e_internal_stringslite_CutPrefix N] [] N Tryd.f114 .lf [.str, .str] [.str, .bool] = F_strings_CutPrefix N := by kernel_rfl
noncomputable def e_strings_CutPrefix (N : Nat) : Ent Tryd.prog := mkFn 114 Tryd.f114 .lf [.str, .str] [.str, .bool] (F_strings_CutPrefix N) mixed Tryd.func114 (.mk' Tryd.func114 rfl (by decide)) rfl (E_strings_CutPrefix N)
noncomputable def e_internal_bytealg_IndexString (N : Nat) : Ent Tryd.prog := mkNone 134
noncomputable def e_internal_bytealg_Cutover (N : Nat) : Ent Tryd.prog := mkNone 135
noncomputable def e_internal_bytealg_IndexRabinKarp_string (N : Nat) : Ent Tryd.prog := mkNone 136
noncomputable def F_text_line (N : Nat) : Fun [.str, (.tab .str)] (Option (ResT [tLine])) := fun (x : List UInt8) (x_1 : List (List UInt8)) => Option.bind (F_strings_Cut N x [32]) fun (y : List UInt8 × List UInt8 × Bool)
 => Option.bind (F_field_Of N y.fst x_1) fun (y_1 : UInt8 × Bool) => Option.bind (F_field_Unquote N y.snd.fst) fun (y : List UInt8 × List UInt8 × Bool) => iter (fun (rec : (List UInt8 × Unit) × (((UInt8 × List UInt8 ×
 List (List UInt8)) × Unit) × (UInt8 × List UInt8 × List (List UInt8) × Unit) × Unit) × Unit × Unit → Option (UInt8 × List UInt8 × List (List UInt8))) (z : (List UInt8 × Unit) × (((UInt8 × List UInt8 × List (List UInt8))
 × Unit) × (UInt8 × List UInt8 × List (List UInt8) × Unit) × Unit) × Unit × Unit) => Option.bind (F_strings_CutPrefix N z.fst.fst [32]) fun (y : List UInt8 × Bool) => bif !y.snd then some (z.snd.fst.snd.fst.fst,
 z.snd.fst.snd.fst.snd.fst, z.snd.fst.snd.fst.snd.snd.fst) else Option.bind (F_field_Unquote N y.fst) fun (y : List UInt8 × List UInt8 × Bool) => bif !y.snd.snd then some (z.snd.fst.snd.fst.fst,
 z.snd.fst.snd.fst.snd.fst, z.snd.fst.snd.fst.snd.snd.fst) else bif fitsB (z.snd.fst.snd.fst.snd.snd.fst.length + [y.fst].length) 16 then rec ((y.snd.fst, ()), ((z.snd.fst.fst.fst, ()), (z.snd.fst.snd.fst.fst,
 z.snd.fst.snd.fst.snd.fst, z.snd.fst.snd.fst.snd.snd.fst ++ [y.fst], ()), ()), (), ()) else none) N ((y.snd.fst, ()), (((0, [], []), ()), (y_1.fst, y.fst, [], ()), ()), (), ())
theorem E_text_line (N : Nat) : runG Tryd.prog [e_field_Of N, e_strings_CutPrefix N, e_strings_Cut N, e_field_Unquote N] [] N Tryd.f83 (.seq .lf (.seq .lf (.seq .lf (.seq .lf (.seq .lf (.blk (.loop ⟨[(4, .d .str)], [(1002, [.d tLine], some 74), (1008, [.d .u8, .d .str, .tip 300802 .str none], some 74)], [2, 8, 1000001], [], [], []⟩ .lf))))))) [.str, (.tab .str)] [tLine] 1 [1] = F_text_line N := by kernel_rfl
noncomputable def e_text_line (N : Nat) : Ent Tryd.prog := mkFnG 83 Tryd.f83 (.seq .lf (.seq .lf (.seq .lf (.seq .lf (.seq .lf (.blk (.loop ⟨[(4, .d .str)], [(1002, [.d tLine], some 74), (1008, [.d .u8, .d .str, .tip 300802 .str none], some 74)], [2, 8, 1000001], [], [], []⟩ .lf))))))) [.str, (.tab .str)] [tLine] 1 [1] (F_text_line N) mixed Tryd.func83 (.mk' Tryd.func83 rfl (by decide)) rfl (E_text_line N)
noncomputable def F_text_one (N : Nat) : Fun [.str, (.tab .str), (.tab (.int .i64)), (.tab (.int .u64)), (.tab .err), (.tab .err)] (Option (ResT [tCard, .str, .bool])) := fun (x : List UInt8) (x_1 : List (List UInt8))
 (x_2 x_3 : List Int) (x_4 x_5 : List Bool) => bif decide (1 + x.length ≤ 4611686018427387904) then Option.bind (F_strings_Index N ([10] ++ x) [10, 101, 110, 100, 10] x_2) fun (y : Int) => bif decide (y < 0) then some
 ((0, []), [], false) else bif cutOk 0 (IntKind.i64.wrap (y + 4)) x.length then bif cutOk (IntKind.i64.wrap (y + 4)) (↑x.length : Int) x.length then bif cutOk 0 y x.length then Option.bind (F_strings_Split N (List.take
 y.toNat x) [10] x_2) fun (y_1 : List (List UInt8)) => y_1[0]?.bind fun (e : List UInt8) => Option.bind (F_strings_TrimPrefix N e [99, 111, 110, 116, 97, 99, 116, 32]) fun (y_2 : List UInt8) => Option.bind
 (F_strconv_ParseUint N y_2 10 64 x_4 x_5) fun (y_3 : Int × Bool) => bif cutOk 1 (↑y_1.length : Int) y_1.length then iter (fun (rec : (Int × Unit) × ((Int × List (UInt8 × List UInt8 × List (List UInt8)) × Unit) × Unit) ×
 Unit × Unit → Option ((Int × List (UInt8 × List UInt8 × List (List UInt8))) × List UInt8 × Bool)) (z : (Int × Unit) × ((Int × List (UInt8 × List UInt8 × List (List UInt8)) × Unit) × Unit) × Unit × Unit) => bif decide
 (z.fst.fst < (↑(List.drop 1 y_1).length : Int)) then (at? (List.drop 1 y_1) z.fst.fst).bind fun (e : List UInt8) => bif e != [] then Option.bind (F_text_line N e x_1) fun (y : UInt8 × List UInt8 × List (List UInt8)) =>
 bif fitsB (z.snd.fst.fst.snd.fst.length + [y].length) 48 then rec ((IntKind.i64.wrap (z.fst.fst + 1), ()), ((z.snd.fst.fst.fst, z.snd.fst.fst.snd.fst ++ [y], ()), ()), (), ()) else none else rec ((IntKind.i64.wrap
 (z.fst.fst + 1), ()), ((z.snd.fst.fst.fst, z.snd.fst.fst.snd.fst, ()), ()), (), ()) else Option.bind (F_card_Good N (z.snd.fst.fst.fst, z.snd.fst.fst.snd.fst)) fun (y_4 : Bool) => bif y_4 then Option.bind (F_text_Print
 N (z.snd.fst.fst.fst, z.snd.fst.fst.snd.fst) x_1 x_3) fun (y_5 : List UInt8) => some ((z.snd.fst.fst.fst, z.snd.fst.fst.snd.fst), List.drop (IntKind.i64.wrap (y + 4)).toNat x, y_5 == List.take (IntKind.i64.wrap (y +
 4)).toNat x) else some ((z.snd.fst.fst.fst, z.snd.fst.fst.snd.fst), List.drop (IntKind.i64.wrap (y + 4)).toNat x, false)) N ((0, ()), ((y_3.fst, [], ()), ()), (), ()) else none else none else none else none else none
theorem E_text_one (N : Nat) : runG Tryd.prog [e_text_Print N, e_card_Good N, e_strings_TrimPrefix N, e_strconv_ParseUint N, e_strings_Index N, e_strings_Split N, e_text_line N] [] N Tryd.f40 (.seq .lf (.seq .lf (.seq .lf (.seq .lf (.seq .lf (.seq .lf (.seq .lf (.seq (.seq .lf (.blk (.loop ⟨[(45, .d (.int .i64))], [(1011, [.d (.int .u64), .tip 301101 tLine none], some 36)], [2, 6, 7, 11, 43, 44, 1000001, 1000002, 1000003, 1000004, 1000005], [1002], [], []⟩ .lf))) .lf)))))))) [.str, (.tab .str), (.tab (.int .i64)), (.tab (.int .u64)), (.tab .err), (.tab .err)] [tCard, .str, .bool] 1 [1, 2, 3, 4, 5] = F_text_one N := by kernel_rfl
noncomputable def e_text_one (N : Nat) : Ent Tryd.prog := mkFnG 40 Tryd.f40 (.seq .lf (.seq .lf (.seq .lf (.seq .lf (.seq .lf (.seq .lf (.seq .lf (.seq (.seq .lf (.blk (.loop ⟨[(45, .d (.int .i64))], [(1011, [.d (.int .u64), .tip 301101 tLine none], some 36)], [2, 6, 7, 11, 43, 44, 1000001, 1000002, 1000003, 1000004, 1000005], [1002], [], []⟩ .lf))) .lf)))))))) [.str, (.tab .str), (.tab (.int .i64)), (.tab (.int .u64)), (.tab .err), (.tab .err)] [tCard, .str, .bool] 1 [1, 2, 3, 4, 5] (F_text_one N) mixed Tryd.func40 (.mk' Tryd.func40 rfl (by decide)) rfl (E_text_one N)
noncomputable def F_text_Read (N : Nat) : Fun [.str, (.tab .str), (.tab (.int .i64)), (.tab (.int .u64)), (.tab .err), (.tab .err)] (Option (ResT [(.sl tCard), (.int .i64)])) := fun (x : List UInt8) (x_1 : List (List
 UInt8)) (x_2 x_3 : List Int) (x_4 x_5 : List Bool) => iter (fun (rec : (List UInt8 × List (Int × List (UInt8 × List UInt8 × List (List UInt8))) × Unit) × Unit × Unit × Unit → Option (List (Int × List (UInt8 × List UInt8
 × List (List UInt8))) × Int)) (z : (List UInt8 × List (Int × List (UInt8 × List UInt8 × List (List UInt8))) × Unit) × Unit × Unit × Unit) => bif z.fst.fst != [] then Option.bind (F_text_one N z.fst.fst x_1 x_2 x_3 x_4
 x_5) fun (y : (Int × List (UInt8 × List UInt8 × List (List UInt8))) × List UInt8 × Bool) => bif !y.snd.snd then some ([], 4) else bif fitsB (z.fst.snd.fst.length + [y.fst].length) 32 then rec ((y.snd.fst, z.fst.snd.fst
 ++ [y.fst], ()), (), (), ()) else none else some (z.fst.snd.fst, 0)) N ((x, [], ()), (), (), ())
theorem E_text_Read (N : Nat) : runG Tryd.prog [e_text_one N] [] N Tryd.f12 (.seq .lf (.seq .lf (.seq (.blk (.loop ⟨[(0, .d .str), (4, .tip 200004 tCard none)], [], [1000001, 1000002, 1000003, 1000004, 1000005], [], [], []⟩ .lf)) .lf))) [.str, (.tab .str), (.tab (.int .i64)), (.tab (.int .u64)), (.tab .err), (.tab .err)] [(.sl tCard), (.int .i64)] 1 [1, 2, 3, 4, 5] = F_text_Read N := by kernel_rfl
noncomputable def e_text_Read (N : Nat) : Ent Tryd.prog := mkFnG 12 Tryd.f12 (.seq .lf (.seq .lf (.seq (.blk (.loop ⟨[(0, .d .str), (4, .tip 200004 tCard none)], [], [1000001, 1000002, 1000003, 1000004, 1000005], [], [], []⟩ .lf)) .lf))) [.str, (.tab .str), (.tab (.int .i64)), (.tab (.int .u64)), (.tab .err), (.tab .err)] [(.sl tCard), (.int .i64)] 1 [1, 2, 3, 4, 5] (F_text_Read N) mixed Tryd.func12 (.mk' Tryd.func12 rfl (by decide)) rfl (E_text_Read N)
noncomputable def F_epitaphlaw49_works (N : Nat) : Fun [(.tab .str), (.tab (.int .i64)), (.tab (.int .u64)), (.tab .err), (.tab .err)] (Option (ResT [.bool])) := fun (x : List (List UInt8)) (x_1 x_2 : List Int) (x_3 x_4
 : List Bool) => Option.bind (F_text_Read N [99, 111, 110, 116, 97, 99, 116, 32, 50, 56, 49, 52, 55, 52, 57, 55, 54, 55, 49, 48, 54, 53, 55, 10, 110, 97, 109, 101, 32, 34, 65, 110, 110, 34, 32, 34, 65, 110, 110, 101, 34,
 10, 101, 110, 100, 10] x x_1 x_2 x_3 x_4) fun (y : List (Int × List (UInt8 × List UInt8 × List (List UInt8))) × Int) => bif y.snd == 0 then bif (↑y.fst.length : Int) == 1 then y.fst[0]?.bind fun (e : Int × List (UInt8 ×
 List UInt8 × List (List UInt8))) => bif e.fst == 281474976710657 then y.fst[0]?.bind fun (e : Int × List (UInt8 × List UInt8 × List (List UInt8))) => Option.bind (F_text_Print N e x x_2) fun (y : List UInt8) => some (y
 == [99, 111, 110, 116, 97, 99, 116, 32, 50, 56, 49, 52, 55, 52, 57, 55, 54, 55, 49, 48, 54, 53, 55, 10, 110, 97, 109, 101, 32, 34, 65, 110, 110, 34, 32, 34, 65, 110, 110, 101, 34, 10, 101, 110, 100, 10]) else some false
 else some false else some false
theorem E_epitaphlaw49_works (N : Nat) : runG Tryd.prog [e_text_Read N, e_text_Print N] [] N Tryd.f11 .lf [(.tab .str), (.tab (.int .i64)), (.tab (.int .u64)), (.tab .err), (.tab .err)] [.bool] 0 [1, 2, 3, 4, 5] = F_epitaphlaw49_works N := by kernel_rfl
noncomputable def e_epitaphlaw49_works (N : Nat) : Ent Tryd.prog := mkFnG 11 Tryd.f11 .lf [(.tab .str), (.tab (.int .i64)), (.tab (.int .u64)), (.tab .err), (.tab .err)] [.bool] 0 [1, 2, 3, 4, 5] (F_epitaphlaw49_works N) mixed Tryd.func11 (.mk' Tryd.func11 rfl (by decide)) rfl (E_epitaphlaw49_works N)
noncomputable def F_epitaphref01_Split (N : Nat) : Fun [(.int .u64)] (Option (ResT [(.int .u16), (.int .u64)])) := fun (x : Int) => some (IntKind.u16.wrap (IntKind.u64.wrap (x.tdiv 281474976710656)), x.tmod
 281474976710656)
theorem E_epitaphref01_Split (N : Nat) : runF Tryd.prog [] [] N Tryd.f93 .lf [(.int .u64)] [(.int .u16), (.int .u64)] = F_epitaphref01_Split N := by kernel_rfl
noncomputable def e_epitaphref01_Split (N : Nat) : Ent Tryd.prog := mkFn 93 Tryd.f93 .lf [(.int .u64)] [(.int .u16), (.int .u64)] (F_epitaphref01_Split N) mixed Tryd.func93 (.mk' Tryd.func93 rfl (by decide)) rfl (E_epitaphref01_Split N)
noncomputable def F_epitaphref07_Unpack (N : Nat) : Fun [(.int .u64)] (Option (ResT [tDot, .bool])) := fun (x : Int) => Option.bind (F_epitaphref01_Split N x) fun (y : Int × Int) => Option.bind (F_epitaphref07_Good N y)
 fun (y_1 : Bool) => bif !y_1 then some ((0, 0), false) else some (y, true)
theorem E_epitaphref07_Unpack (N : Nat) : runF Tryd.prog [e_epitaphref07_Good N, e_epitaphref01_Split N] [] N Tryd.f53 .lf [(.int .u64)] [tDot, .bool] = F_epitaphref07_Unpack N := by kernel_rfl
noncomputable def e_epitaphref07_Unpack (N : Nat) : Ent Tryd.prog := mkFn 53 Tryd.f53 .lf [(.int .u64)] [tDot, .bool] (F_epitaphref07_Unpack N) mixed Tryd.func53 (.mk' Tryd.func53 rfl (by decide)) rfl (E_epitaphref07_Unpack N)
noncomputable def F_epitaphref12_more (N : Nat) : Fun [(.sl .str), .str] (Option (ResT [.bool])) := fun (x : List (List UInt8)) (x_1 : List UInt8) => iter (fun (rec : (Int × Unit) × Unit × Unit × Unit → Option Bool) (z :
 (Int × Unit) × Unit × Unit × Unit) => bif decide (z.fst.fst < (↑x.length : Int)) then (at? x z.fst.fst).bind fun (e : List UInt8) => Option.bind (F_epitaphref11_Text N e) fun (y : Bool) => bif !y then some false else
 (at? x z.fst.fst).bind fun (e : List UInt8) => bif e == x_1 then some false else bif decide (0 < z.fst.fst) then (at? x (IntKind.i64.wrap (z.fst.fst - 1))).bind fun (e : List UInt8) => (at? x z.fst.fst).bind fun (e_1 :
 List UInt8) => bif !Op.bytesLess e e_1 then some false else rec ((IntKind.i64.wrap (z.fst.fst + 1), ()), (), (), ()) else rec ((IntKind.i64.wrap (z.fst.fst + 1), ()), (), (), ()) else some true) N ((0, ()), (), (), ())
theorem E_epitaphref12_more (N : Nat) : runF Tryd.prog [e_epitaphref11_Text N] [] N Tryd.f56 (.seq .lf (.seq (.seq .lf (.blk (.loop ⟨[(5, .d (.int .i64))], [], [0, 1], [], [], []⟩ .lf))) .lf)) [(.sl .str), .str] [.bool] = F_epitaphref12_more N := by kernel_rfl
noncomputable def e_epitaphref12_more (N : Nat) : Ent Tryd.prog := mkFn 56 Tryd.f56 (.seq .lf (.seq (.seq .lf (.blk (.loop ⟨[(5, .d (.int .i64))], [], [0, 1], [], [], []⟩ .lf))) .lf)) [(.sl .str), .str] [.bool] (F_epitaphref12_more N) mixed Tryd.func56 (.mk' Tryd.func56 rfl (by decide)) rfl (E_epitaphref12_more N)
noncomputable def F_epitaphref12_Good (N : Nat) : Fun [tCard] (Option (ResT [.bool])) := fun (x : Int × List (UInt8 × List UInt8 × List (List UInt8))) => Option.bind (F_epitaphref07_Unpack N x.fst) fun (y : (Int × Int) ×
 Bool) => bif !y.snd then some false else bif (↑x.snd.length : Int) == 0 then some false else iter (fun (rec : (Int × Unit) × Unit × Unit × Unit → Option Bool) (z : (Int × Unit) × Unit × Unit × Unit) => bif decide
 (z.fst.fst < (↑x.snd.length : Int)) then (at? x.snd z.fst.fst).bind fun (e : UInt8 × List UInt8 × List (List UInt8)) => Option.bind (F_epitaphref11_Good N e.fst) fun (y : Bool) => bif !y then some false else bif decide
 (0 < z.fst.fst) then (at? x.snd (IntKind.i64.wrap (z.fst.fst - 1))).bind fun (e_1 : UInt8 × List UInt8 × List (List UInt8)) => bif decide (e.fst ≤ e_1.fst) then some false else Option.bind (F_epitaphref11_Text N
 e.snd.fst) fun (y : Bool) => bif !y then some false else Option.bind (F_epitaphref12_more N e.snd.snd e.snd.fst) fun (y : Bool) => bif !y then some false else rec ((IntKind.i64.wrap (z.fst.fst + 1), ()), (), (), ())
 else Option.bind (F_epitaphref11_Text N e.snd.fst) fun (y : Bool) => bif !y then some false else Option.bind (F_epitaphref12_more N e.snd.snd e.snd.fst) fun (y : Bool) => bif !y then some false else rec
 ((IntKind.i64.wrap (z.fst.fst + 1), ()), (), (), ()) else some true) N ((0, ()), (), (), ())
theorem E_epitaphref12_Good (N : Nat) : runF Tryd.prog [e_epitaphref07_Unpack N, e_epitaphref11_Good N, e_epitaphref11_Text N, e_epitaphref12_more N] [] N Tryd.f20 (.seq .lf (.seq .lf (.seq .lf (.seq (.seq .lf (.blk (.loop ⟨[(5, .d (.int .i64))], [], [1], [1001], [], []⟩ .lf))) .lf)))) [tCard] [.bool] = F_epitaphref12_Good N := by kernel_rfl
noncomputable def e_epitaphref12_Good (N : Nat) : Ent Tryd.prog := mkFn 20 Tryd.f20 (.seq .lf (.seq .lf (.seq .lf (.seq (.seq .lf (.blk (.loop ⟨[(5, .d (.int .i64))], [], [1], [1001], [], []⟩ .lf))) .lf)))) [tCard] [.bool] (F_epitaphref12_Good N) mixed Tryd.func20 (.mk' Tryd.func20 rfl (by decide)) rfl (E_epitaphref12_Good N)
noncomputable def F_epitaphref49_cut (N : Nat) : Fun [.str] (Option (ResT [.str, .str, .bool])) := fun (x : List UInt8) => iter (fun (rec : (Int × Unit) × Unit × Unit × Unit → Option (List UInt8 × List UInt8 × Bool)) (z
 : (Int × Unit) × Unit × Unit × Unit) => bif decide (z.fst.fst < (↑x.length : Int)) then (at? x z.fst.fst).bind fun (c : UInt8) => bif c == 10 then bif cutOk 0 z.fst.fst x.length then bif cutOk (IntKind.i64.wrap
 (z.fst.fst + 1)) (↑x.length : Int) x.length then some (List.take z.fst.fst.toNat x, List.drop (IntKind.i64.wrap (z.fst.fst + 1)).toNat x, true) else none else none else rec ((IntKind.i64.wrap (z.fst.fst + 1), ()), (),
 (), ()) else some ([], [], false)) N ((0, ()), (), (), ())
noncomputable def F_epitaphref49_number (N : Nat) : Fun [.str] (Option (ResT [(.int .u64), .bool])) := fun (x : List UInt8) => iter (fun (rec : (Int × Int × Unit) × Unit × Unit × Unit → Option (Int × Bool)) (z : (Int ×
 Int × Unit) × Unit × Unit × Unit) => bif decide (z.fst.snd.fst < (↑x.length : Int)) then (at? x z.fst.snd.fst).bind fun (c : UInt8) => (at? x z.fst.snd.fst).bind fun (c_1 : UInt8) => bif decide (c_1 < 48) then some (0,
 false) else (at? x z.fst.snd.fst).bind fun (c_2 : UInt8) => bif decide (57 < c_2) then some (0, false) else bif decide (IntKind.u64.wrap ((IntKind.u64.wrap (18446744073709551615 - IntKind.u64.wrap ((↑c.toNat : Int) -
 48))).tdiv 10) < z.fst.fst) then some (0, false) else rec ((IntKind.u64.wrap (IntKind.u64.wrap (z.fst.fst * 10) + IntKind.u64.wrap ((↑c.toNat : Int) - 48)), IntKind.i64.wrap (z.fst.snd.fst + 1), ()), (), (), ()) else
 bif x != [] then bif x == [48] then some (z.fst.fst, true) else x[0]?.bind fun (c : UInt8) => some (z.fst.fst, c != 48) else some (z.fst.fst, false)) N ((0, 0, ()), (), (), ())
noncomputable def F_epitaphref49_line (N : Nat) : Fun [.str] (Option (ResT [tLine, .bool])) := fun (x : List UInt8) => iter (fun (rec : (Int × Unit) × Unit × Unit × Unit → Option ((UInt8 × List UInt8 × List (List UInt8))
 × Bool)) (z : (Int × Unit) × Unit × Unit × Unit) => bif decide (z.fst.fst < (↑x.length : Int)) then (at? x z.fst.fst).bind fun (c : UInt8) => bif c != 32 then rec ((IntKind.i64.wrap (z.fst.fst + 1), ()), (), (), ())
 else bif cutOk 0 z.fst.fst x.length then Option.bind (F_epitaphref11_Of N (List.take z.fst.fst.toNat x)) fun (y : UInt8 × Bool) => bif cutOk z.fst.fst (↑x.length : Int) x.length then iter (fun (rec : (List UInt8 × Bool
 × Int × Unit) × (((UInt8 × List UInt8 × List (List UInt8)) × Unit) × ((UInt8 × List UInt8 × List (List UInt8)) × Unit) × Unit) × Unit × Unit → Option ((UInt8 × List UInt8 × List (List UInt8)) × Bool)) (z : (List UInt8 ×
 Bool × Int × Unit) × (((UInt8 × List UInt8 × List (List UInt8)) × Unit) × ((UInt8 × List UInt8 × List (List UInt8)) × Unit) × Unit) × Unit × Unit) => bif z.fst.snd.fst then bif z.fst.fst != [] then z.fst.fst[0]?.bind
 fun (c : UInt8) => bif c != 32 then some (z.snd.fst.snd.fst.fst, false) else bif cutOk 1 (↑z.fst.fst.length : Int) z.fst.fst.length then Option.bind (F_epitaphref11_Unquote N (List.drop 1 z.fst.fst)) fun (y : List UInt8
 × List UInt8 × Bool) => bif z.fst.snd.snd.fst == 0 then rec ((y.snd.fst, y.snd.snd, IntKind.i64.wrap (z.fst.snd.snd.fst + 1), ()), ((z.snd.fst.fst.fst, ()), ((z.snd.fst.snd.fst.fst.fst, y.fst,
 z.snd.fst.snd.fst.fst.snd.snd), ()), ()), (), ()) else bif fitsB (0 + z.snd.fst.snd.fst.fst.snd.snd.length) 16 then bif fitsB (([] ++ z.snd.fst.snd.fst.fst.snd.snd).length + [y.fst].length) 16 then rec ((y.snd.fst,
 y.snd.snd, IntKind.i64.wrap (z.fst.snd.snd.fst + 1), ()), ((z.snd.fst.fst.fst, ()), ((z.snd.fst.snd.fst.fst.fst, z.snd.fst.snd.fst.fst.snd.fst, [] ++ z.snd.fst.snd.fst.fst.snd.snd ++ [y.fst]), ()), ()), (), ()) else
 none else none else none else bif z.fst.snd.fst then some (z.snd.fst.snd.fst.fst, decide (0 < z.fst.snd.snd.fst)) else some (z.snd.fst.snd.fst.fst, false) else bif z.fst.snd.fst then some (z.snd.fst.snd.fst.fst, decide
 (0 < z.fst.snd.snd.fst)) else some (z.snd.fst.snd.fst.fst, false)) N ((List.drop z.fst.fst.toNat x, y.snd, 0, ()), (((0, [], []), ()), ((y.fst, [], []), ()), ()), (), ()) else none else none else bif cutOk 0 z.fst.fst
 x.length then Option.bind (F_epitaphref11_Of N (List.take z.fst.fst.toNat x)) fun (y : UInt8 × Bool) => bif cutOk z.fst.fst (↑x.length : Int) x.length then iter (fun (rec : (List UInt8 × Bool × Int × Unit) × (((UInt8 ×
 List UInt8 × List (List UInt8)) × Unit) × ((UInt8 × List UInt8 × List (List UInt8)) × Unit) × Unit) × Unit × Unit → Option ((UInt8 × List UInt8 × List (List UInt8)) × Bool)) (z : (List UInt8 × Bool × Int × Unit) ×
 (((UInt8 × List UInt8 × List (List UInt8)) × Unit) × ((UInt8 × List UInt8 × List (List UInt8)) × Unit) × Unit) × Unit × Unit) => bif z.fst.snd.fst then bif z.fst.fst != [] then z.fst.fst[0]?.bind fun (c : UInt8) => bif
 c != 32 then some (z.snd.fst.snd.fst.fst, false) else bif cutOk 1 (↑z.fst.fst.length : Int) z.fst.fst.length then Option.bind (F_epitaphref11_Unquote N (List.drop 1 z.fst.fst)) fun (y : List UInt8 × List UInt8 × Bool)
 => bif z.fst.snd.snd.fst == 0 then rec ((y.snd.fst, y.snd.snd, IntKind.i64.wrap (z.fst.snd.snd.fst + 1), ()), ((z.snd.fst.fst.fst, ()), ((z.snd.fst.snd.fst.fst.fst, y.fst, z.snd.fst.snd.fst.fst.snd.snd), ()), ()), (),
 ()) else bif fitsB (0 + z.snd.fst.snd.fst.fst.snd.snd.length) 16 then bif fitsB (([] ++ z.snd.fst.snd.fst.fst.snd.snd).length + [y.fst].length) 16 then rec ((y.snd.fst, y.snd.snd, IntKind.i64.wrap (z.fst.snd.snd.fst +
 1), ()), ((z.snd.fst.fst.fst, ()), ((z.snd.fst.snd.fst.fst.fst, z.snd.fst.snd.fst.fst.snd.fst, [] ++ z.snd.fst.snd.fst.fst.snd.snd ++ [y.fst]), ()), ()), (), ()) else none else none else none else bif z.fst.snd.fst then
 some (z.snd.fst.snd.fst.fst, decide (0 < z.fst.snd.snd.fst)) else some (z.snd.fst.snd.fst.fst, false) else bif z.fst.snd.fst then some (z.snd.fst.snd.fst.fst, decide (0 < z.fst.snd.snd.fst)) else some
 (z.snd.fst.snd.fst.fst, false)) N ((List.drop z.fst.fst.toNat x, y.snd, 0, ()), (((0, [], []), ()), ((y.fst, [], []), ()), ()), (), ()) else none else none) N ((0, ()), (), (), ())
noncomputable def F_epitaphref49_one (N : Nat) : Fun [.str] (Option (ResT [tCard, .str, .bool])) := fun (x : List UInt8) => Option.bind (F_epitaphref49_cut N x) fun (y : List UInt8 × List UInt8 × Bool) => bif !y.snd.snd
 then some ((0, []), [], false) else bif decide ((↑y.fst.length : Int) < 9) then some ((0, []), [], false) else bif cutOk 0 8 y.fst.length then bif List.take 8 y.fst != [99, 111, 110, 116, 97, 99, 116, 32] then some ((0,
 []), [], false) else bif cutOk 8 (↑y.fst.length : Int) y.fst.length then Option.bind (F_epitaphref49_number N (List.drop 8 y.fst)) fun (y_1 : Int × Bool) => iter (fun (rec : (List UInt8 × Bool × Unit) × (((Int × List
 (UInt8 × List UInt8 × List (List UInt8))) × Unit) × ((Int × List (UInt8 × List UInt8 × List (List UInt8))) × Unit) × Unit) × Unit × Unit → Option ((Int × List (UInt8 × List UInt8 × List (List UInt8))) × List UInt8 ×
 Bool)) (z : (List UInt8 × Bool × Unit) × (((Int × List (UInt8 × List UInt8 × List (List UInt8))) × Unit) × ((Int × List (UInt8 × List UInt8 × List (List UInt8))) × Unit) × Unit) × Unit × Unit) => bif z.fst.snd.fst then
 Option.bind (F_epitaphref49_cut N z.fst.fst) fun (y : List UInt8 × List UInt8 × Bool) => bif y.snd.snd then bif y.fst == [101, 110, 100] then Option.bind (F_epitaphref12_Good N z.snd.fst.snd.fst.fst) fun (y_2 : Bool) =>
 some (z.snd.fst.snd.fst.fst, y.snd.fst, y_2) else Option.bind (F_epitaphref49_line N y.fst) fun (y_2 : (UInt8 × List UInt8 × List (List UInt8)) × Bool) => bif fitsB (0 + z.snd.fst.snd.fst.fst.snd.length) 48 then bif
 fitsB (([] ++ z.snd.fst.snd.fst.fst.snd).length + [y_2.fst].length) 48 then bif y.snd.snd then rec ((y.snd.fst, y_2.snd, ()), ((z.snd.fst.fst.fst, ()), ((z.snd.fst.snd.fst.fst.fst, [] ++ z.snd.fst.snd.fst.fst.snd ++
 [y_2.fst]), ()), ()), (), ()) else rec ((y.snd.fst, false, ()), ((z.snd.fst.fst.fst, ()), ((z.snd.fst.snd.fst.fst.fst, [] ++ z.snd.fst.snd.fst.fst.snd ++ [y_2.fst]), ()), ()), (), ()) else none else none else
 Option.bind (F_epitaphref49_line N y.fst) fun (y_2 : (UInt8 × List UInt8 × List (List UInt8)) × Bool) => bif fitsB (0 + z.snd.fst.snd.fst.fst.snd.length) 48 then bif fitsB (([] ++ z.snd.fst.snd.fst.fst.snd).length +
 [y_2.fst].length) 48 then bif y.snd.snd then rec ((y.snd.fst, y_2.snd, ()), ((z.snd.fst.fst.fst, ()), ((z.snd.fst.snd.fst.fst.fst, [] ++ z.snd.fst.snd.fst.fst.snd ++ [y_2.fst]), ()), ()), (), ()) else rec ((y.snd.fst,
 false, ()), ((z.snd.fst.fst.fst, ()), ((z.snd.fst.snd.fst.fst.fst, [] ++ z.snd.fst.snd.fst.fst.snd ++ [y_2.fst]), ()), ()), (), ()) else none else none else some ((0, []), [], false)) N ((y.snd.fst, y_1.snd, ()), (((0,
 []), ()), ((y_1.fst, []), ()), ()), (), ()) else none else none
noncomputable def F_epitaphref12_Texts (N : Nat) : Fun [(.sl .str), (.sl .str)] (Option (ResT [.bool])) := fun (x x_1 : List (List UInt8)) => bif (↑x.length : Int) != (↑x_1.length : Int) then some false else iter (fun
 (rec : (Int × Unit) × Unit × Unit × Unit → Option Bool) (z : (Int × Unit) × Unit × Unit × Unit) => bif decide (z.fst.fst < (↑x.length : Int)) then (at? x z.fst.fst).bind fun (e : List UInt8) => (at? x_1 z.fst.fst).bind
 fun (e_1 : List UInt8) => bif e != e_1 then some false else rec ((IntKind.i64.wrap (z.fst.fst + 1), ()), (), (), ()) else some true) N ((0, ()), (), (), ())
theorem E_epitaphref12_Texts (N : Nat) : runF Tryd.prog [] [] N Tryd.f116 (.seq .lf (.seq .lf (.seq (.seq .lf (.blk (.loop ⟨[(5, .d (.int .i64))], [], [0, 1], [], [], []⟩ .lf))) .lf))) [(.sl .str), (.sl .str)] [.bool] = F_epitaphref12_Texts N := by kernel_rfl
noncomputable def e_epitaphref12_Texts (N : Nat) : Ent Tryd.prog := mkFn 116 Tryd.f116 (.seq .lf (.seq .lf (.seq (.seq .lf (.blk (.loop ⟨[(5, .d (.int .i64))], [], [0, 1], [], [], []⟩ .lf))) .lf))) [(.sl .str), (.sl .str)] [.bool] (F_epitaphref12_Texts N) mixed Tryd.func116 (.mk' Tryd.func116 rfl (by decide)) rfl (E_epitaphref12_Texts N)
noncomputable def F_epitaphref12_Lines (N : Nat) : Fun [(.sl tLine), (.sl tLine)] (Option (ResT [.bool])) := fun (x x_1 : List (UInt8 × List UInt8 × List (List UInt8))) => bif (↑x.length : Int) != (↑x_1.length : Int)
 then some false else iter (fun (rec : (Int × Unit) × Unit × Unit × Unit → Option Bool) (z : (Int × Unit) × Unit × Unit × Unit) => bif decide (z.fst.fst < (↑x.length : Int)) then (at? x z.fst.fst).bind fun (e : UInt8 ×
 List UInt8 × List (List UInt8)) => (at? x_1 z.fst.fst).bind fun (e_1 : UInt8 × List UInt8 × List (List UInt8)) => bif e.fst != e_1.fst then some false else (at? x z.fst.fst).bind fun (e : UInt8 × List UInt8 × List (List
 UInt8)) => (at? x_1 z.fst.fst).bind fun (e_2 : UInt8 × List UInt8 × List (List UInt8)) => bif e.snd.fst != e_2.snd.fst then some false else (at? x z.fst.fst).bind fun (e : UInt8 × List UInt8 × List (List UInt8)) => (at?
 x_1 z.fst.fst).bind fun (e_3 : UInt8 × List UInt8 × List (List UInt8)) => Option.bind (F_epitaphref12_Texts N e.snd.snd e_3.snd.snd) fun (y : Bool) => bif !y then some false else rec ((IntKind.i64.wrap (z.fst.fst + 1),
 ()), (), (), ()) else some true) N ((0, ()), (), (), ())
theorem E_epitaphref12_Lines (N : Nat) : runF Tryd.prog [e_epitaphref12_Texts N] [] N Tryd.f87 (.seq .lf (.seq .lf (.seq (.seq .lf (.blk (.loop ⟨[(5, .d (.int .i64))], [], [0, 1], [], [], []⟩ .lf))) .lf))) [(.sl tLine), (.sl tLine)] [.bool] = F_epitaphref12_Lines N := by kernel_rfl
noncomputable def e_epitaphref12_Lines (N : Nat) : Ent Tryd.prog := mkFn 87 Tryd.f87 (.seq .lf (.seq .lf (.seq (.seq .lf (.blk (.loop ⟨[(5, .d (.int .i64))], [], [0, 1], [], [], []⟩ .lf))) .lf))) [(.sl tLine), (.sl tLine)] [.bool] (F_epitaphref12_Lines N) mixed Tryd.func87 (.mk' Tryd.func87 rfl (by decide)) rfl (E_epitaphref12_Lines N)
noncomputable def F_epitaphref12_Same (N : Nat) : Fun [tCard, tCard] (Option (ResT [.bool])) := fun (x x_1 : Int × List (UInt8 × List UInt8 × List (List UInt8))) => bif x.fst == x_1.fst then Option.bind
 (F_epitaphref12_Lines N x.snd x_1.snd) fun (y : Bool) => some y else some false
theorem E_epitaphref12_Same (N : Nat) : runF Tryd.prog [e_epitaphref12_Lines N] [] N Tryd.f42 .lf [tCard, tCard] [.bool] = F_epitaphref12_Same N := by kernel_rfl
noncomputable def e_epitaphref12_Same (N : Nat) : Ent Tryd.prog := mkFn 42 Tryd.f42 .lf [tCard, tCard] [.bool] (F_epitaphref12_Same N) mixed Tryd.func42 (.mk' Tryd.func42 rfl (by decide)) rfl (E_epitaphref12_Same N)
noncomputable def F_epitaphref12_All (N : Nat) : Fun [(.sl tCard), (.sl tCard)] (Option (ResT [.bool])) := fun (x x_1 : List (Int × List (UInt8 × List UInt8 × List (List UInt8)))) => bif (↑x.length : Int) != (↑x_1.length
 : Int) then some false else iter (fun (rec : (Int × Unit) × Unit × Unit × Unit → Option Bool) (z : (Int × Unit) × Unit × Unit × Unit) => bif decide (z.fst.fst < (↑x.length : Int)) then (at? x z.fst.fst).bind fun (e :
 Int × List (UInt8 × List UInt8 × List (List UInt8))) => (at? x_1 z.fst.fst).bind fun (e_1 : Int × List (UInt8 × List UInt8 × List (List UInt8))) => Option.bind (F_epitaphref12_Same N e e_1) fun (y : Bool) => bif !y then
 some false else rec ((IntKind.i64.wrap (z.fst.fst + 1), ()), (), (), ()) else some true) N ((0, ()), (), (), ())
theorem E_epitaphref12_All (N : Nat) : runF Tryd.prog [e_epitaphref12_Same N] [] N Tryd.f14 (.seq .lf (.seq .lf (.seq (.seq .lf (.blk (.loop ⟨[(5, .d (.int .i64))], [], [0, 1], [], [], []⟩ .lf))) .lf))) [(.sl tCard), (.sl tCard)] [.bool] = F_epitaphref12_All N := by kernel_rfl
noncomputable def e_epitaphref12_All (N : Nat) : Ent Tryd.prog := mkFn 14 Tryd.f14 (.seq .lf (.seq .lf (.seq (.seq .lf (.blk (.loop ⟨[(5, .d (.int .i64))], [], [0, 1], [], [], []⟩ .lf))) .lf))) [(.sl tCard), (.sl tCard)] [.bool] (F_epitaphref12_All N) mixed Tryd.func14 (.mk' Tryd.func14 rfl (by decide)) rfl (E_epitaphref12_All N)
noncomputable def F_epitaphref44_Few (N : Nat) : Fun [(.sl tCard)] (Option (ResT [.bool])) := fun (x : List (Int × List (UInt8 × List UInt8 × List (List UInt8)))) => bif decide (25 < (↑x.length : Int)) then some false
 else iter (fun (rec : (Int × Unit) × Unit × Unit × Unit → Option Bool) (z : (Int × Unit) × Unit × Unit × Unit) => bif decide (z.fst.fst < (↑x.length : Int)) then (at? x z.fst.fst).bind fun (e : Int × List (UInt8 × List
 UInt8 × List (List UInt8))) => bif decide (12 < (↑e.snd.length : Int)) then some false else iter (fun (rec_1 : (Int × Unit) × Unit × Unit × Unit → Option Bool) (z_1 : (Int × Unit) × Unit × Unit × Unit) => (at? x
 z.fst.fst).bind fun (e : Int × List (UInt8 × List UInt8 × List (List UInt8))) => bif decide (z_1.fst.fst < (↑e.snd.length : Int)) then (at? x z.fst.fst).bind fun (e : Int × List (UInt8 × List UInt8 × List (List UInt8)))
 => (at? e.snd z_1.fst.fst).bind fun (e : UInt8 × List UInt8 × List (List UInt8)) => bif decide (200 < (↑e.snd.fst.length : Int)) then some false else (at? x z.fst.fst).bind fun (e : Int × List (UInt8 × List UInt8 × List
 (List UInt8))) => (at? e.snd z_1.fst.fst).bind fun (e : UInt8 × List UInt8 × List (List UInt8)) => bif decide (10 < (↑e.snd.snd.length : Int)) then some false else rec_1 ((IntKind.i64.wrap (z_1.fst.fst + 1), ()), (),
 (), ()) else rec ((IntKind.i64.wrap (z.fst.fst + 1), ()), (), (), ())) N ((0, ()), (), (), ()) else some true) N ((0, ()), (), (), ())
theorem E_epitaphref44_Few (N : Nat) : runF Tryd.prog [] [] N Tryd.f15 (.seq .lf (.seq .lf (.seq (.seq .lf (.blk (.loop ⟨[(3, .d (.int .i64))], [], [0], [], [], []⟩ (.seq .lf (.seq (.blk (.seq .lf (.seq .lf (.blk (.loop ⟨[(4, .d (.int .i64))], [], [0, 3], [], [], []⟩ .lf))))) .lf))))) .lf))) [(.sl tCard)] [.bool] = F_epitaphref44_Few N := by kernel_rfl
noncomputable def e_epitaphref44_Few (N : Nat) : Ent Tryd.prog := mkFn 15 Tryd.f15 (.seq .lf (.seq .lf (.seq (.seq .lf (.blk (.loop ⟨[(3, .d (.int .i64))], [], [0], [], [], []⟩ (.seq .lf (.seq (.blk (.seq .lf (.seq .lf (.blk (.loop ⟨[(4, .d (.int .i64))], [], [0, 3], [], [], []⟩ .lf))))) .lf))))) .lf))) [(.sl tCard)] [.bool] (F_epitaphref44_Few N) mixed Tryd.func15 (.mk' Tryd.func15 rfl (by decide)) rfl (E_epitaphref44_Few N)
noncomputable def F_text_All (N : Nat) : Fun [(.sl tCard), (.tab .str), (.tab (.int .u64))] (Option (ResT [.str])) := fun (x : List (Int × List (UInt8 × List UInt8 × List (List UInt8)))) (x_1 : List (List UInt8)) (x_2 :
 List Int) => joinAt (fun (z : (Unit × Unit) × ((Bool × List UInt8 × Unit) × Unit) × Unit × Unit) => iter (fun (rec : (Int × Unit) × ((Bool × List UInt8 × Unit) × Unit) × Unit × Unit → Option (List UInt8)) (z : (Int ×
 Unit) × ((Bool × List UInt8 × Unit) × Unit) × Unit × Unit) => bif decide (z.fst.fst < (↑x.length : Int)) then (at? x z.fst.fst).bind fun (e : Int × List (UInt8 × List UInt8 × List (List UInt8))) => Option.bind
 (F_text_Print N e x_1 x_2) fun (y : List UInt8) => Option.bind (F_strings_Builder_WriteString N y z.snd.fst.fst.fst z.snd.fst.fst.snd.fst) fun (y : (Int × Bool × Unit) × ((Bool × List UInt8 × Unit) × Unit) × Unit ×
 Unit) => rec ((IntKind.i64.wrap (z.fst.fst + 1), ()), ((y.snd.fst.fst.fst, y.snd.fst.fst.snd.fst, ()), ()), (), ()) else Option.bind (F_strings_Builder_String N z.snd.fst.fst.fst z.snd.fst.fst.snd.fst) fun (y : (List
 UInt8 × Unit) × ((Bool × List UInt8 × Unit) × Unit) × Unit × Unit) => some y.fst.fst) N ((0, ()), ((z.snd.fst.fst.fst, z.snd.fst.fst.snd.fst, ()), ()), (), ())) fun (k : (Unit × Unit) × ((Bool × List UInt8 × Unit) ×
 Unit) × Unit × Unit → Option (List UInt8)) => k (((), ()), ((true, [], ()), ()), (), ())
theorem E_text_All (N : Nat) : runG Tryd.prog [e_text_Print N, e_strings_Builder_WriteString N, e_strings_Builder_String N] [] N Tryd.f18 (.seq .lf (.join ⟨[(3, .p 1003 0)], [(1003, [.z 1003 0, .tip 300301 .u8 (some 5)], some 78)], [0, 1000001, 1000003], [], [], []⟩ .lf (.seq (.seq .lf (.blk (.loop ⟨[(8, .d (.int .i64))], [(1003, [.z 1003 0, .tip 300301 .u8 (some 5)], some 78)], [3, 6, 7, 1000001, 1000003], [], [], []⟩ .lf))) .lf))) [(.sl tCard), (.tab .str), (.tab (.int .u64))] [.str] 1 [1, 3] = F_text_All N := by kernel_rfl
noncomputable def e_text_All (N : Nat) : Ent Tryd.prog := mkFnG 18 Tryd.f18 (.seq .lf (.join ⟨[(3, .p 1003 0)], [(1003, [.z 1003 0, .tip 300301 .u8 (some 5)], some 78)], [0, 1000001, 1000003], [], [], []⟩ .lf (.seq (.seq .lf (.blk (.loop ⟨[(8, .d (.int .i64))], [(1003, [.z 1003 0, .tip 300301 .u8 (some 5)], some 78)], [3, 6, 7, 1000001, 1000003], [], [], []⟩ .lf))) .lf))) [(.sl tCard), (.tab .str), (.tab (.int .u64))] [.str] 1 [1, 3] (F_text_All N) mixed Tryd.func18 (.mk' Tryd.func18 rfl (by decide)) rfl (E_text_All N)
noncomputable def F_epitaphlaw49_TextBack (N : Nat) : Fun [(.sl tCard), .str, (.tab .str), (.tab (.int .i64)), (.tab (.int .u64)), (.tab .err), (.tab .err)] (Option (ResT [.bool])) := fun (x : List (Int × List (UInt8 ×
 List UInt8 × List (List UInt8)))) (x_1 : List UInt8) (x_2 : List (List UInt8)) (x_3 x_4 : List Int) (x_5 x_6 : List Bool) => Option.bind (F_epitaphref44_Few N x) fun (y : Bool) => bif !y then Option.bind
 (F_epitaphlaw49_works N x_2 x_3 x_4 x_5 x_6) fun (y : Bool) => some y else bif decide (1500 < (↑x_1.length : Int)) then Option.bind (F_epitaphlaw49_works N x_2 x_3 x_4 x_5 x_6) fun (y : Bool) => some y else iter (fun
 (rec : (List (Int × List (UInt8 × List UInt8 × List (List UInt8))) × Int × Unit) × Unit × Unit × Unit → Option Bool) (z : (List (Int × List (UInt8 × List UInt8 × List (List UInt8))) × Int × Unit) × Unit × Unit × Unit)
 => bif decide (z.fst.snd.fst < (↑x.length : Int)) then (at? x z.fst.snd.fst).bind fun (e : Int × List (UInt8 × List UInt8 × List (List UInt8))) => Option.bind (F_epitaphref12_Good N e) fun (y : Bool) => bif y then (at?
 x z.fst.snd.fst).bind fun (e : Int × List (UInt8 × List UInt8 × List (List UInt8))) => bif fitsB (z.fst.fst.length + [e].length) 32 then rec ((z.fst.fst ++ [e], IntKind.i64.wrap (z.fst.snd.fst + 1), ()), (), (), ())
 else none else rec ((z.fst.fst, IntKind.i64.wrap (z.fst.snd.fst + 1), ()), (), (), ()) else Option.bind (F_text_All N x x_2 x_4) fun (y : List UInt8) => Option.bind (F_text_Read N y x_2 x_3 x_4 x_5 x_6) fun (y : List
 (Int × List (UInt8 × List UInt8 × List (List UInt8))) × Int) => Option.bind (F_text_Read N x_1 x_2 x_3 x_4 x_5 x_6) fun (y_1 : List (Int × List (UInt8 × List UInt8 × List (List UInt8))) × Int) => bif y.snd == 0 then
 Option.bind (F_epitaphref12_All N y.fst z.fst.fst) fun (y : Bool) => bif y then bif y_1.snd != 0 then Option.bind (F_epitaphlaw49_works N x_2 x_3 x_4 x_5 x_6) fun (y : Bool) => some y else Option.bind (F_text_All N
 y_1.fst x_2 x_4) fun (y : List UInt8) => bif y == x_1 then Option.bind (F_epitaphlaw49_works N x_2 x_3 x_4 x_5 x_6) fun (y : Bool) => some y else some false else some false else some false) N (([], 0, ()), (), (), ())
theorem E_epitaphlaw49_TextBack (N : Nat) : runG Tryd.prog [e_epitaphlaw49_works N, e_text_Read N, e_epitaphref12_All N, e_epitaphref44_Few N, e_text_All N, e_epitaphref12_Good N] [] N Tryd.f5 (.seq .lf (.seq .lf (.seq .lf (.seq (.seq .lf (.blk (.loop ⟨[(5, .tip 200005 tCard none), (6, .d (.int .i64))], [], [0, 1, 1000001, 1000002, 1000003, 1000004, 1000005], [], [], []⟩ .lf))) .lf)))) [(.sl tCard), .str, (.tab .str), (.tab (.int .i64)), (.tab (.int .u64)), (.tab .err), (.tab .err)] [.bool] 2 [1, 2, 3, 4, 5] = F_epitaphlaw49_TextBack N := by kernel_rfl
theorem D_epitaphlaw49_TextBack (N : Nat) : SoundG Tryd.prog 5 [.bool] 2 [1, 2, 3, 4, 5] [(.sl tCard), .str, (.tab .str), (.tab (.int .i64)), (.tab (.int .u64)), (.tab .err), (.tab .err)] (F_epitaphlaw49_TextBack N) [] := E_epitaphlaw49_TextBack N ▸ runG_sound mixed Tryd.func5 rfl
end Go.Proofs.Xx
set_option linter.unusedVariables false
set_option linter.unusedSimpArgs false
set_option maxRecDepth 100000
namespace Go.Proofs.Xs
open Go Go.Xl Go.Ab Go.Proofs Go.Proofs.Xr
def dg (k : Nat) : UInt8 := UInt8.ofNat (48 + k % 10)
def pad : Nat → Nat → List UInt8
  | 0, _ => []
  | w + 1, x => pad w (x / 10) ++ [dg x]
theorem pad_split (a : Nat) : ∀ (b x : Nat), pad (a + b) x = pad a (x / 10 ^ b) ++ pad b x
  | 0, x => by simp [pad]
  | b + 1, x => by
    rw [← Nat.add_assoc, pad, pad_split a b, pad, Nat.div_div_eq_div_mul, Nat.pow_succ, Nat.mul_comm 10, List.append_assoc]
theorem set_drop {α : Type} {m : List α} {i j : Nat} {c : α} {t : List α} (h : j + 1 = i) (hj : j < m.length) (hd : m.drop i = t) : (m.set j c).drop j = c :: t := by
  subst hd; subst h
  rw [List.drop_eq_getElem_cons (by simpa using hj)]
  simp [List.drop_set]
theorem tm100 (a : Nat) : ((a : Nat) : Int).tmod 100 = ((a % 100 : Nat) : Int) := rfl
theorem tm4 (a : Nat) : ((a : Nat) : Int).tmod 10000 = ((a % 10000 : Nat) : Int) := rfl
theorem tm8 (a : Nat) : ((a : Nat) : Int).tmod 100000000 = ((a % 100000000 : Nat) : Int) := rfl
theorem td100 (a : Nat) : ((a : Nat) : Int).tdiv 100 = ((a / 100 : Nat) : Int) := rfl
theorem td4 (a : Nat) : ((a : Nat) : Int).tdiv 10000 = ((a / 10000 : Nat) : Int) := rfl
theorem td8 (a : Nat) : ((a : Nat) : Int).tdiv 100000000 = ((a / 100000000 : Nat) : Int) := rfl
theorem u32n {a : Nat} (h : a < 4294967296) : IntKind.u32.wrap (a : Int) = (a : Int) := IntWalk.u32_in _ (by omega)
theorem u32m {a : Nat} (h : a < 100) : IntKind.u32.wrap ((a : Int) * 2) = ((a * 2 : Nat) : Int) := by rw [IntWalk.u32_in _ (by omega)]; omega
theorem u32p {a : Nat} (h : a < 200) : IntKind.u32.wrap ((a : Int) + 1) = ((a + 1 : Nat) : Int) := by rw [IntWalk.u32_in _ (by omega)]; omega
theorem u64n {a : Nat} (h : a < 18446744073709551616) : IntKind.u64.wrap (a : Int) = (a : Int) := IntWalk.u64_in _ (by omega)
theorem i64s {i k : Nat} (h : k ≤ i) (h' : i < 9223372036854775808) : IntKind.i64.wrap ((i : Int) - (k : Int)) = ((i - k : Nat) : Int) := by rw [IntWalk.i64_in _ (by omega)]; omega
abbrev SM : List UInt8 := [48, 48, 48, 49, 48, 50, 48, 51, 48, 52, 48, 53, 48, 54, 48, 55, 48, 56, 48, 57, 49, 48, 49, 49, 49, 50, 49, 51, 49, 52, 49, 53, 49, 54, 49, 55, 49, 56, 49, 57, 50, 48, 50, 49, 50, 50, 50, 51, 50, 52, 50, 53, 50, 54, 50, 55, 50, 56, 50, 57, 51, 48, 51, 49, 51, 50, 51, 51, 51, 52, 51, 53, 51, 54, 51, 55, 51, 56, 51, 57, 52, 48, 52, 49, 52, 50, 52, 51, 52, 52, 52, 53, 52, 54, 52, 55, 52, 56, 52, 57, 53, 48, 53, 49, 53, 50, 53, 51, 53, 52, 53, 53, 53, 54, 53, 55, 53, 56, 53, 57, 54, 48, 54, 49, 54, 50, 54, 51, 54, 52, 54, 53, 54, 54, 54, 55, 54, 56, 54, 57, 55, 48, 55, 49, 55, 50, 55, 51, 55, 52, 55, 53, 55, 54, 55, 55, 55, 56, 55, 57, 56, 48, 56, 49, 56, 50, 56, 51, 56, 52, 56, 53, 56, 54, 56, 55, 56, 56, 56, 57, 57, 48, 57, 49, 57, 50, 57, 51, 57, 52, 57, 53, 57, 54, 57, 55, 57, 56, 57, 57]
theorem sm_all : ∀ k < 100, SM[k * 2]? = some (dg (k / 10)) ∧ SM[k * 2 + 1]? = some (dg k) := by decide +kernel
theorem sm0 {k : Nat} (h : k < 100) : at? SM ((k * 2 : Nat) : Int) = some (dg (k / 10)) := (sm_all k h).1
theorem sm1 {k : Nat} (h : k < 100) : at? SM ((k * 2 + 1 : Nat) : Int) = some (dg k) := (sm_all k h).2
theorem smA {k : Nat} (h : k < 100) : at? SM (IntKind.u32.wrap (IntKind.u32.wrap ((k : Int) * 2) + 1)) = some (dg k) := by rw [u32m h, u32p (by omega)]; exact sm1 h
theorem smB {k : Nat} (h : k < 100) : at? SM (IntKind.u32.wrap ((k : Int) * 2)) = some (dg (k / 10)) := by rw [u32m h]; exact sm0 h
theorem dg_eq {a b : Nat} (h : a % 10 = b % 10) : dg a = dg b := by unfold dg; rw [h]
theorem put2 {R : Type} {m : List UInt8} {i n : Nat} {K : UInt8 → Option R} (h : i < n) (hm : n ≤ m.length) :
    (bif decide (0 ≤ (i : Int)) && decide ((i : Int) < (n : Int)) then (m[i]?).bind K else none) = K (m[i]'(by omega)) := by
  have h1 : (decide (0 ≤ (i : Int)) && decide ((i : Int) < (n : Int))) = true := by simp; omega
  rw [h1, cond_true, List.getElem?_eq_getElem (by omega)]
  rfl
def Inv (l : List UInt8) (n x i u : Nat) (m : List UInt8) : Prop :=
  i ≤ n ∧ m.length = l.length ∧ (m.drop i).take (n - i) = pad (n - i) x ∧ x / 10 ^ (n - i) = u ∧ u < 10 ^ i
theorem Inv.one {l m : List UInt8} {n x i u : Nat} (h : Inv l n x i u m) (hl : n ≤ l.length) (h1 : 1 ≤ i) : Inv l n x (i - 1) (u / 10) (m.set (i - 1) (dg u)) := by
  obtain ⟨h1', h2, h3, h4, h5⟩ := h
  refine ⟨by omega, by simp only [List.length_set]; exact h2, ?_, ?_, ?_⟩
  · rw [set_drop (m := m) (i := i) (j := i - 1) (c := dg u) (by omega) (by omega) rfl, show n - (i - 1) = (n - i) + 1 by omega, Nat.add_comm (n - i) 1, pad_split 1, h4, Nat.add_comm 1]
    simp only [List.take_succ_cons, h3, pad, List.nil_append, List.cons_append]
  · rw [show n - (i - 1) = (n - i) + 1 by omega, Nat.pow_succ, ← Nat.div_div_eq_div_mul, h4]
  · have : 10 ^ i = 10 * 10 ^ (i - 1) := by
      conv => lhs; rw [show i = (i - 1) + 1 by omega, Nat.pow_succ, Nat.mul_comm]
    exact Nat.div_lt_of_lt_mul (by omega)
theorem Inv.two {l m : List UInt8} {n x i u : Nat} (h : Inv l n x i u m) (hl : n ≤ l.length) (h2 : 2 ≤ i) : Inv l n x (i - 2) (u / 100) ((m.set (i - 1) (dg (u % 100))).set (i - 2) (dg (u % 100 / 10))) := by
  have := (h.one hl (by omega)).one hl (by omega)
  rw [Nat.div_div_eq_div_mul, Nat.sub_sub] at this
  rw [dg_eq (a := u % 100) (b := u) (by omega), dg_eq (a := u % 100 / 10) (b := u / 10) (by omega)]
  exact this
theorem Inv.four {l m : List UInt8} {n x i u : Nat} (h : Inv l n x i u m) (hl : n ≤ l.length) (h4 : 4 ≤ i) :
    Inv l n x (i - 4) (u / 10000) ((((m.set (i - 1) (dg (u % 10000 % 100))).set (i - 2) (dg (u % 10000 % 100 / 10))).set (i - 3) (dg (u % 10000 / 100))).set (i - 4) (dg (u % 10000 / 100 / 10))) := by
  have := (h.two hl (by omega)).two hl (by omega)
  rw [Nat.div_div_eq_div_mul, Nat.sub_sub, Nat.sub_sub] at this
  rw [dg_eq (a := u % 10000 % 100) (b := u % 100) (by omega), dg_eq (a := u % 10000 % 100 / 10) (b := u % 100 / 10) (by omega), dg_eq (a := u % 10000 / 100) (b := u / 100 % 100) (by omega), dg_eq (a := u % 10000 / 100 / 10) (b := u / 100 % 100 / 10) (by omega)]
  exact this
def T3 (n : Nat) (i v : Int) (m : List UInt8) : Option (List UInt8 × Unit) :=
  bif decide (0 < i) then
    bif decide (0 < (n : Int)) then m[0]?.bind fun (e : UInt8) => some (m.set 0 (toU8 (IntKind.u8.wrap (IntKind.u32.wrap (48 + v)))), ())
    else none
  else some (m, ())
def T2 (n : Nat) (i v : Int) (m : List UInt8) : Option (List UInt8 × Unit) :=
  bif decide (2 ≤ i) then
    (at? SM (IntKind.u32.wrap (IntKind.u32.wrap (v.tmod 100 * 2) + 1))).bind fun (c : UInt8) =>
      (at? SM (IntKind.u32.wrap (v.tmod 100 * 2))).bind fun (c_1 : UInt8) =>
        bif decide (0 ≤ IntKind.i64.wrap (i - 1)) && decide (IntKind.i64.wrap (i - 1) < (n : Int)) then
          m[0 + (IntKind.i64.wrap (i - 1)).toNat]?.bind fun (e : UInt8) =>
            bif decide (0 ≤ IntKind.i64.wrap (i - 2)) && decide (IntKind.i64.wrap (i - 2) < (n : Int)) then
              (m.set (0 + (IntKind.i64.wrap (i - 1)).toNat) c)[0 + (IntKind.i64.wrap (i - 2)).toNat]?.bind fun (e : UInt8) =>
                T3 n (IntKind.i64.wrap (i - 2)) (IntKind.u32.wrap (v.tdiv 100)) ((m.set (0 + (IntKind.i64.wrap (i - 1)).toNat) c).set (0 + (IntKind.i64.wrap (i - 2)).toNat) c_1)
            else none
        else none
  else T3 n i v m
def T1 (n : Nat) (i v : Int) (m : List UInt8) : Option (List UInt8 × Unit) :=
  bif decide (4 ≤ i) then
    (at? SM (IntKind.u32.wrap (IntKind.u32.wrap (((IntKind.u32.wrap v).tmod 10000).tmod 100 * 2) + 1))).bind fun (c : UInt8) =>
      (at? SM (IntKind.u32.wrap (((IntKind.u32.wrap v).tmod 10000).tmod 100 * 2))).bind fun (c_1 : UInt8) =>
        bif decide (0 ≤ IntKind.i64.wrap (i - 1)) && decide (IntKind.i64.wrap (i - 1) < (n : Int)) then
          m[0 + (IntKind.i64.wrap (i - 1)).toNat]?.bind fun (e : UInt8) =>
            bif decide (0 ≤ IntKind.i64.wrap (i - 2)) && decide (IntKind.i64.wrap (i - 2) < (n : Int)) then
              (m.set (0 + (IntKind.i64.wrap (i - 1)).toNat) c)[0 + (IntKind.i64.wrap (i - 2)).toNat]?.bind fun (e : UInt8) =>
                (at? SM (IntKind.u32.wrap (IntKind.u32.wrap (IntKind.u32.wrap (((IntKind.u32.wrap v).tmod 10000).tdiv 100) * 2) + 1))).bind fun (c_2 : UInt8) =>
                  (at? SM (IntKind.u32.wrap (IntKind.u32.wrap (((IntKind.u32.wrap v).tmod 10000).tdiv 100) * 2))).bind fun (c_3 : UInt8) =>
                    bif decide (0 ≤ IntKind.i64.wrap (i - 3)) && decide (IntKind.i64.wrap (i - 3) < (n : Int)) then
                      ((m.set (0 + (IntKind.i64.wrap (i - 1)).toNat) c).set (0 + (IntKind.i64.wrap (i - 2)).toNat) c_1)[0 + (IntKind.i64.wrap (i - 3)).toNat]?.bind fun (e : UInt8) =>
                        bif decide (0 ≤ IntKind.i64.wrap (i - 4)) && decide (IntKind.i64.wrap (i - 4) < (n : Int)) then
                          (((m.set (0 + (IntKind.i64.wrap (i - 1)).toNat) c).set (0 + (IntKind.i64.wrap (i - 2)).toNat) c_1).set (0 + (IntKind.i64.wrap (i - 3)).toNat) c_2)[0 + (IntKind.i64.wrap (i - 4)).toNat]?.bind fun (e : UInt8) =>
                            T2 n (IntKind.i64.wrap (i - 4)) (IntKind.u32.wrap ((IntKind.u32.wrap v).tdiv 10000)) ((((m.set (0 + (IntKind.i64.wrap (i - 1)).toNat) c).set (0 + (IntKind.i64.wrap (i - 2)).toNat) c_1).set (0 + (IntKind.i64.wrap (i - 3)).toNat) c_2).set (0 + (IntKind.i64.wrap (i - 4)).toNat) c_3)
                        else none
                    else none
            else none
        else none
  else T2 n i (IntKind.u32.wrap v) m
section
variable {l m : List UInt8} {n x i v : Nat}
theorem T3_ok (hi : i ≤ 1) (hl : n ≤ l.length) (h : Inv l n x i v m) : ∃ r : List UInt8 × Unit, T3 n i v m = some r ∧ (r.1.length = l.length ∧ r.1.take n = pad n x) := by
  unfold T3
  by_cases h0 : i = 0
  · subst h0
    obtain ⟨h1', h2, h3, h4, h5⟩ := h
    exact ⟨(m, ()), rfl, h2, by simpa using h3⟩
  · have : i = 1 := by omega
    subst this
    have h' := h.one hl (Nat.le_refl 1)
    obtain ⟨h1', h2, h3, h4, h5⟩ := h
    have hn : decide (0 < (n : Int)) = true := by simp; omega
    have h01 : decide (0 < ((1 : Nat) : Int)) = true := rfl
    have hv : v < 10 := by simpa using h5
    have hc : toU8 (IntKind.u8.wrap (IntKind.u32.wrap (48 + (v : Int)))) = dg v := by
      have : ∀ v < 10, toU8 (IntKind.u8.wrap (IntKind.u32.wrap (48 + ((v : Nat) : Int)))) = dg v := by decide +kernel
      exact this v hv
    obtain ⟨g1, g2, g3, g4, g5⟩ := h'
    refine ⟨(m.set 0 (dg v), ()), ?_, g2, by simpa using g3⟩
    rw [h01, hn, hc, List.getElem?_eq_getElem (by omega)]
    rfl
theorem T2_ok (hi : i ≤ 3) (hl : n ≤ l.length) (hl2 : l.length < 1000000) (hv : v < 100000000) (h : Inv l n x i v m) : ∃ r : List UInt8 × Unit, T2 n i v m = some r ∧ (r.1.length = l.length ∧ r.1.take n = pad n x) := by
  unfold T2
  have hin := h.1
  have hm := h.2.1
  by_cases h2 : 2 ≤ i
  · have e : decide ((2 : Int) ≤ (i : Int)) = true := by simp; omega
    have s1 : IntKind.i64.wrap ((i : Int) - 1) = ((i - 1 : Nat) : Int) := i64s (k := 1) (by omega) (by omega)
    have s2 : IntKind.i64.wrap ((i : Int) - 2) = ((i - 2 : Nat) : Int) := i64s (k := 2) (by omega) (by omega)
    have r2 : IntKind.u32.wrap ((v : Int).tdiv 100) = ((v / 100 : Nat) : Int) := by rw [td100, u32n (by omega)]
    have h1 : v % 100 < 100 := by omega
    simp only [e, cond_true, s1, s2, r2, tm100, Int.toNat_natCast, Nat.zero_add]
    rw [smA h1, Option.bind_some, smB h1, Option.bind_some, put2 (by omega) (by omega), put2 (by omega) (by simp only [List.length_set]; omega)]
    exact T3_ok (by omega) hl (h.two hl h2)
  · have e : decide ((2 : Int) ≤ (i : Int)) = false := by simp; omega
    simp only [e, cond_false]
    exact T3_ok (by omega) hl h
theorem T1_ok (hi : i ≤ 7) (hl : n ≤ l.length) (hl2 : l.length < 1000000) (hv : v < 100000000) (h : Inv l n x i v m) : ∃ r : List UInt8 × Unit, T1 n i v m = some r ∧ (r.1.length = l.length ∧ r.1.take n = pad n x) := by
  unfold T1
  have hin := h.1
  have hm := h.2.1
  by_cases h4 : 4 ≤ i
  · have e : decide ((4 : Int) ≤ (i : Int)) = true := by simp; omega
    have s1 : IntKind.i64.wrap ((i : Int) - 1) = ((i - 1 : Nat) : Int) := i64s (k := 1) (by omega) (by omega)
    have s2 : IntKind.i64.wrap ((i : Int) - 2) = ((i - 2 : Nat) : Int) := i64s (k := 2) (by omega) (by omega)
    have s3 : IntKind.i64.wrap ((i : Int) - 3) = ((i - 3 : Nat) : Int) := i64s (k := 3) (by omega) (by omega)
    have s4 : IntKind.i64.wrap ((i : Int) - 4) = ((i - 4 : Nat) : Int) := i64s (k := 4) (by omega) (by omega)
    have r1 : ((IntKind.u32.wrap (v : Int)).tmod 10000).tmod 100 = ((v % 10000 % 100 : Nat) : Int) := by rw [u32n (by omega), tm4, tm100]
    have r2 : IntKind.u32.wrap (((IntKind.u32.wrap (v : Int)).tmod 10000).tdiv 100) = ((v % 10000 / 100 : Nat) : Int) := by rw [u32n (by omega), tm4, td100, u32n (by omega)]
    have r3 : IntKind.u32.wrap ((IntKind.u32.wrap (v : Int)).tdiv 10000) = ((v / 10000 : Nat) : Int) := by rw [u32n (by omega), td4, u32n (by omega)]
    have h1 : v % 10000 % 100 < 100 := by omega
    have h2 : v % 10000 / 100 < 100 := by omega
    simp only [e, cond_true, s1, s2, s3, s4, r1, r2, r3, Int.toNat_natCast, Nat.zero_add]
    rw [smA h1, Option.bind_some, smB h1, Option.bind_some, put2 (by omega) (by omega), put2 (by omega) (by simp only [List.length_set]; omega), smA h2, Option.bind_some, smB h2, Option.bind_some,
      put2 (by omega) (by simp only [List.length_set]; omega), put2 (by omega) (by simp only [List.length_set]; omega)]
    exact T2_ok (by omega) hl hl2 (by omega) (h.four hl h4)
  · have e : decide ((4 : Int) ≤ (i : Int)) = false := by simp; omega
    simp only [e, cond_false, u32n (show v < 4294967296 by omega)]
    exact T2_ok (by omega) hl hl2 hv h
end
theorem fb10 (N : Nat) (l : List UInt8) (n x : Nat) (hl : n ≤ l.length) (hl2 : l.length < 1000000) (hx : x < 10 ^ n) (hx2 : x < 18446744073709551616) (hN : n < N) :
    ∃ r : List UInt8 × Unit, F_internal_strconv_formatBase10 N l n (x : Int) = some r ∧ (r.1.length = l.length ∧ r.1.take n = pad n x) := by
  unfold F_internal_strconv_formatBase10
  refine iter_ok (Q := fun r : List UInt8 × Unit => r.1.length = l.length ∧ r.1.take n = pad n x) (fun k z => ∃ (i : Nat) (m : List UInt8), z = ((((x / 10 ^ (n - i) : Nat) : Int), (i : Int), ()), (), (), m, ()) ∧ i ≤ n ∧ k = i ∧ m.length = l.length ∧ (m.drop i).take (n - i) = pad (n - i) x) ?_ N n _ ⟨n, l, ?_, Nat.le_refl _, rfl, rfl, ?_⟩ hN
  · rintro k z rec ⟨i, m, rfl, hi, rfl, hm, hd⟩ ih
    have hu0 : x / 10 ^ (n - k) ≤ x := Nat.div_le_self _ _
    generalize hu : x / 10 ^ (n - k) = u at hu0
    by_cases h8 : 8 ≤ k
    · have e8 : decide ((8 : Int) ≤ (k : Int)) = true := by simp; omega
      have s1 : IntKind.i64.wrap ((k : Int) - 1) = ((k - 1 : Nat) : Int) := i64s (k := 1) (by omega) (by omega)
      have s2 : IntKind.i64.wrap ((k : Int) - 2) = ((k - 2 : Nat) : Int) := i64s (k := 2) (by omega) (by omega)
      have s3 : IntKind.i64.wrap ((k : Int) - 3) = ((k - 3 : Nat) : Int) := i64s (k := 3) (by omega) (by omega)
      have s4 : IntKind.i64.wrap ((k : Int) - 4) = ((k - 4 : Nat) : Int) := i64s (k := 4) (by omega) (by omega)
      have s5 : IntKind.i64.wrap ((k : Int) - 5) = ((k - 5 : Nat) : Int) := i64s (k := 5) (by omega) (by omega)
      have s6 : IntKind.i64.wrap ((k : Int) - 6) = ((k - 6 : Nat) : Int) := i64s (k := 6) (by omega) (by omega)
      have s7 : IntKind.i64.wrap ((k : Int) - 7) = ((k - 7 : Nat) : Int) := i64s (k := 7) (by omega) (by omega)
      have s8 : IntKind.i64.wrap ((k : Int) - 8) = ((k - 8 : Nat) : Int) := i64s (k := 8) (by omega) (by omega)
      have r1 : (((IntKind.u32.wrap ((u : Int).tmod 100000000)).tmod 10000).tmod 100) = ((u % 100000000 % 10000 % 100 : Nat) : Int) := by rw [tm8, u32n (by omega), tm4, tm100]
      have r2 : IntKind.u32.wrap (((IntKind.u32.wrap ((u : Int).tmod 100000000)).tmod 10000).tdiv 100) = ((u % 100000000 % 10000 / 100 : Nat) : Int) := by rw [tm8, u32n (by omega), tm4, td100, u32n (by omega)]
      have r3 : (IntKind.u32.wrap ((IntKind.u32.wrap ((u : Int).tmod 100000000)).tdiv 10000)).tmod 100 = ((u % 100000000 / 10000 % 100 : Nat) : Int) := by rw [tm8, u32n (by omega), td4, u32n (by omega), tm100]
      have r4 : IntKind.u32.wrap ((IntKind.u32.wrap ((IntKind.u32.wrap ((u : Int).tmod 100000000)).tdiv 10000)).tdiv 100) = ((u % 100000000 / 10000 / 100 : Nat) : Int) := by rw [tm8, u32n (by omega), td4, u32n (by omega), td100, u32n (by omega)]
      have r5 : IntKind.u64.wrap ((u : Int).tdiv 100000000) = ((u / 100000000 : Nat) : Int) := by rw [td8, u64n (by omega)]
      have h1 : u % 100000000 % 10000 % 100 < 100 := by omega
      have h2 : u % 100000000 % 10000 / 100 < 100 := by omega
      have h3 : u % 100000000 / 10000 % 100 < 100 := by omega
      have h4 : u % 100000000 / 10000 / 100 < 100 := by omega
      simp only [e8, cond_true, s1, s2, s3, s4, s5, s6, s7, s8, r1, r2, r3, r4, r5, Int.toNat_natCast, Nat.zero_add]
      rw [smA h1, Option.bind_some, smB h1, Option.bind_some, put2 (by omega) (by omega), put2 (by omega) (by simp only [List.length_set]; omega), smA h2, Option.bind_some, smB h2, Option.bind_some,
        put2 (by omega) (by simp only [List.length_set]; omega), put2 (by omega) (by simp only [List.length_set]; omega), smA h3, Option.bind_some, smB h3, Option.bind_some,
        put2 (by omega) (by simp only [List.length_set]; omega), put2 (by omega) (by simp only [List.length_set]; omega), smA h4, Option.bind_some, smB h4, Option.bind_some,
        put2 (by omega) (by simp only [List.length_set]; omega), put2 (by omega) (by simp only [List.length_set]; omega)]
      have hq : x / 10 ^ (n - (k - 8)) = u / 100000000 := by
        rw [show n - (k - 8) = (n - k) + 8 by omega, Nat.pow_add, ← Nat.div_div_eq_div_mul, hu]
      refine ih (k - 8) _ (by omega) ⟨k - 8, _, by rw [hq], by omega, rfl, ?_, ?_⟩
      · simp only [List.length_set]; exact hm
      · have d1 := set_drop (m := m) (i := k) (j := k - 1) (c := dg (u % 100000000 % 10000 % 100)) (by omega) (by omega) rfl
        have d2 := set_drop (i := k - 1) (j := k - 2) (c := dg (u % 100000000 % 10000 % 100 / 10)) (by omega) (by simp only [List.length_set]; omega) d1
        have d3 := set_drop (i := k - 2) (j := k - 3) (c := dg (u % 100000000 % 10000 / 100)) (by omega) (by simp only [List.length_set]; omega) d2
        have d4 := set_drop (i := k - 3) (j := k - 4) (c := dg (u % 100000000 % 10000 / 100 / 10)) (by omega) (by simp only [List.length_set]; omega) d3
        have d5 := set_drop (i := k - 4) (j := k - 5) (c := dg (u % 100000000 / 10000 % 100)) (by omega) (by simp only [List.length_set]; omega) d4
        have d6 := set_drop (i := k - 5) (j := k - 6) (c := dg (u % 100000000 / 10000 % 100 / 10)) (by omega) (by simp only [List.length_set]; omega) d5
        have d7 := set_drop (i := k - 6) (j := k - 7) (c := dg (u % 100000000 / 10000 / 100)) (by omega) (by simp only [List.length_set]; omega) d6
        have d8 := set_drop (i := k - 7) (j := k - 8) (c := dg (u % 100000000 / 10000 / 100 / 10)) (by omega) (by simp only [List.length_set]; omega) d7
        have hp : pad 8 u = [dg (u % 100000000 / 10000 / 100 / 10), dg (u % 100000000 / 10000 / 100), dg (u % 100000000 / 10000 % 100 / 10), dg (u % 100000000 / 10000 % 100), dg (u % 100000000 % 10000 / 100 / 10), dg (u % 100000000 % 10000 / 100), dg (u % 100000000 % 10000 % 100 / 10), dg (u % 100000000 % 10000 % 100)] := by
          simp only [pad, List.nil_append, List.cons_append, List.cons.injEq, and_true]
          refine ⟨dg_eq ?_, dg_eq ?_, dg_eq ?_, dg_eq ?_, dg_eq ?_, dg_eq ?_, dg_eq ?_, dg_eq ?_⟩ <;> omega
        rw [d8, show n - (k - 8) = (n - k) + 8 by omega, Nat.add_comm (n - k) 8, pad_split 8, hu, hp, Nat.add_comm 8]
        simp only [List.take_succ_cons, List.cons_append, List.nil_append, hd]
    · have e8 : decide ((8 : Int) ≤ (k : Int)) = false := by simp; omega
      have hk : k < 8 := by omega
      have hul : u < 10 ^ k := by
        rw [← hu]
        refine Nat.div_lt_of_lt_mul ?_
        rw [← Nat.pow_add, show n - k + k = n by omega]; exact hx
      have hu8 : u < 100000000 := Nat.lt_of_lt_of_le hul (Nat.pow_le_pow_right (by omega) (show k ≤ 8 by omega))
      have hI : Inv l n x k u m := ⟨hi, hm, hd, hu, hul⟩
      simp only [e8, cond_false]
      exact T1_ok (by omega) hl hl2 hu8 hI
  · simp
  · simp [pad]
end Go.Proofs.Xs
set_option linter.unusedVariables false
set_option linter.unusedSimpArgs false
set_option maxRecDepth 100000
namespace Go.Proofs.Xs
open Go Go.Xl Go.Ab Go.Proofs Go.Proofs.Xr
def Dig (d x : Nat) : Prop := 1 ≤ d ∧ x < 10 ^ d ∧ (d = 1 ∨ 10 ^ (d - 1) ≤ x)
theorem Dig.exists (x : Nat) (h : x < 18446744073709551616) : ∃ d, Dig d x ∧ d ≤ 20 := by
  have key : ∀ k x, x < 10 ^ (k + 1) → ∃ d, Dig d x ∧ d ≤ k + 1 := by
    intro k
    induction k with
    | zero => intro x hx; exact ⟨1, ⟨by omega, by simpa using hx, .inl rfl⟩, by omega⟩
    | succ k ih =>
      intro x hx
      by_cases h : x < 10 ^ (k + 1)
      · obtain ⟨d, h1, h2⟩ := ih x h
        exact ⟨d, h1, by omega⟩
      · exact ⟨k + 2, ⟨by omega, hx, .inr (by simpa using h)⟩, by omega⟩
  exact key 19 x (Nat.lt_trans h (by decide))
theorem Dig.unique {d e x : Nat} (h : Dig d x) (h' : Dig e x) : d = e := by
  obtain ⟨h1, h2, h3⟩ := h
  obtain ⟨g1, g2, g3⟩ := h'
  have key : ∀ {a b : Nat}, 1 ≤ a → x < 10 ^ a → (b = 1 ∨ 10 ^ (b - 1) ≤ x) → b ≤ a := by
    intro a b ha hx hb
    rcases hb with rfl | hb
    · exact ha
    · have : 10 ^ (b - 1) < 10 ^ a := Nat.lt_of_le_of_lt hb hx
      have := (Nat.pow_lt_pow_iff_right (show 1 < 10 by decide)).1 this
      omega
  exact Nat.le_antisymm (key g1 g2 h3) (key h1 h2 g3)
noncomputable def dec (x : Nat) : List UInt8 := pad (Nat.rec (motive := fun _ => Nat → Nat) (fun _ => 1) (fun _ ih y => if y < 10 then 1 else ih (y / 10) + 1) 20 x) x
theorem nd_dig : ∀ (k x : Nat), x < 10 ^ (k + 1) → Dig (Nat.rec (motive := fun _ => Nat → Nat) (fun _ => 1) (fun _ ih y => if y < 10 then 1 else ih (y / 10) + 1) k x) x
  | 0, x, h => ⟨Nat.le_refl _, by show x < 10 ^ 1; simpa using h, .inl rfl⟩
  | k + 1, x, h => by
    show Dig (if x < 10 then 1 else Nat.rec (motive := fun _ => Nat → Nat) (fun _ => 1) (fun _ ih y => if y < 10 then 1 else ih (y / 10) + 1) k (x / 10) + 1) x
    by_cases hx : x < 10
    · rw [if_pos hx]; exact ⟨Nat.le_refl _, by simpa using hx, .inl rfl⟩
    · rw [if_neg hx]
      obtain ⟨h1, h2, h3⟩ := nd_dig k (x / 10) (Nat.div_lt_of_lt_mul (by rw [Nat.mul_comm, ← Nat.pow_succ]; exact h))
      generalize (Nat.rec (motive := fun _ => Nat → Nat) (fun _ => 1) (fun _ ih y => if y < 10 then 1 else ih (y / 10) + 1) k (x / 10) : Nat) = d at h1 h2 h3
      refine ⟨by omega, by rw [Nat.pow_succ]; omega, .inr ?_⟩
      rw [Nat.add_sub_cancel]
      rcases h3 with rfl | h3
      · simpa using hx
      · have : d = (d - 1) + 1 := by omega
        rw [this, Nat.pow_succ]; omega
theorem dec_pad {d x : Nat} (hx : x < 18446744073709551616) (h : Dig d x) : dec x = pad d x := by
  have := nd_dig 20 x (Nat.lt_trans hx (by decide))
  unfold dec
  rw [this.unique h]
theorem pad_len : ∀ (d x : Nat), (pad d x).length = d
  | 0, _ => rfl
  | d + 1, x => by simp [pad, pad_len d]
abbrev T8 : List UInt8 := [0, 1, 2, 2, 3, 3, 3, 3, 4, 4, 4, 4, 4, 4, 4, 4, 5, 5, 5, 5, 5, 5, 5, 5, 5, 5, 5, 5, 5, 5, 5, 5, 6, 6, 6,
                      6, 6, 6, 6, 6, 6, 6, 6, 6, 6, 6, 6, 6, 6, 6, 6, 6, 6, 6, 6, 6, 6, 6, 6, 6, 6, 6, 6, 6, 7, 7, 7, 7,
                      7, 7, 7, 7, 7, 7, 7, 7, 7, 7, 7, 7, 7, 7, 7, 7, 7, 7, 7, 7, 7, 7, 7, 7, 7, 7, 7, 7, 7, 7, 7, 7, 7,
                      7, 7, 7, 7, 7, 7, 7, 7, 7, 7, 7, 7, 7, 7, 7, 7, 7, 7, 7, 7, 7, 7, 7, 7, 7, 7, 7, 8, 8, 8, 8, 8, 8,
                      8, 8, 8, 8, 8, 8, 8, 8, 8, 8, 8, 8, 8, 8, 8, 8, 8, 8, 8, 8, 8, 8, 8, 8, 8, 8, 8, 8, 8, 8, 8, 8, 8,
                      8, 8, 8, 8, 8, 8, 8, 8, 8, 8, 8, 8, 8, 8, 8, 8, 8, 8, 8, 8, 8, 8, 8, 8, 8, 8, 8, 8, 8, 8, 8, 8, 8,
                      8, 8, 8, 8, 8, 8, 8, 8, 8, 8, 8, 8, 8, 8, 8, 8, 8, 8, 8, 8, 8, 8, 8, 8, 8, 8, 8, 8, 8, 8, 8, 8, 8,
                      8, 8, 8, 8, 8, 8, 8, 8, 8, 8, 8, 8, 8, 8, 8, 8, 8, 8, 8, 8, 8, 8,
                      8]
theorem len8 : ∀ k : Nat, k < 256 → ∃ c : UInt8, T8[(toU8 (IntKind.u8.wrap (k : Int))).toNat]? = some c ∧ c.toNat ≤ 8 ∧ k < 2 ^ c.toNat ∧ (k = 0 ∨ 1 ≤ c.toNat ∧ 2 ^ (c.toNat - 1) ≤ k) := by
  intro k hk
  have h := (by decide +kernel : ∀ k : Nat, k < 256 → T8[(toU8 (IntKind.u8.wrap (k : Int))).toNat]?.any (fun c => decide (c.toNat ≤ 8 ∧ k < 2 ^ c.toNat ∧ (k = 0 ∨ 1 ≤ c.toNat ∧ 2 ^ (c.toNat - 1) ≤ k))) = true) k hk
  rw [Option.any_eq_true] at h
  obtain ⟨c, h1, h2⟩ := h
  exact ⟨c, h1, of_decide_eq_true h2⟩
def Len (n x : Nat) : Prop := n ≤ 64 ∧ x < 2 ^ n ∧ 1 ≤ n ∧ 2 ^ (n - 1) ≤ x
theorem fd (a b : Nat) : ((a : Nat) : Int).fdiv (b : Int) = ((a / b : Nat) : Int) := by rw [Int.fdiv_eq_ediv_of_nonneg _ (by omega)]; rfl
theorem fd8 (a : Nat) : ((a : Nat) : Int).fdiv 256 = ((a / 256 : Nat) : Int) := fd a 256
theorem fd16 (a : Nat) : ((a : Nat) : Int).fdiv 65536 = ((a / 65536 : Nat) : Int) := fd a 65536
theorem fd32 (a : Nat) : ((a : Nat) : Int).fdiv 4294967296 = ((a / 4294967296 : Nat) : Int) := fd a 4294967296
theorem i64k {a : Nat} (h : a < 9223372036854775808) : IntKind.i64.wrap (a : Int) = (a : Int) := IntWalk.i64_in _ (by omega)
theorem len64 (N x : Nat) (h0 : 1 ≤ x) (hx : x < 18446744073709551616) : ∃ n : Nat, F_math_bits_Len64 N (x : Int) = some (n : Int) ∧ Len n x := by
  have fin : ∀ (y b : Nat), 1 ≤ y → y < 256 → b ≤ 56 → y = x / 2 ^ b → ∃ n : Nat, T8[(toU8 (IntKind.u8.wrap (y : Int))).toNat]?.bind (fun c : UInt8 => some (IntKind.i64.wrap ((b : Int) + (c.toNat : Int)))) = some (n : Int) ∧ Len n x := by
    intro y b hy1 hy hb e
    obtain ⟨c, h1, h2, h3, h4⟩ := len8 y hy
    refine ⟨b + c.toNat, ?_, by omega, ?_, ?_, ?_⟩
    · rw [h1, Option.bind_some, show (b : Int) + (c.toNat : Int) = ((b + c.toNat : Nat) : Int) by omega, i64k (by omega)]
    · rw [e] at h3
      have := (Nat.div_lt_iff_lt_mul (Nat.two_pow_pos b)).1 h3
      rw [Nat.pow_add, Nat.mul_comm]; exact this
    · rcases h4 with h4 | h4 <;> omega
    · rcases h4 with h4 | ⟨h4, h5⟩
      · omega
      · rw [e] at h5
        have := (Nat.le_div_iff_mul_le (Nat.two_pow_pos b)).1 h5
        rw [show b + c.toNat - 1 = (c.toNat - 1) + b by omega, Nat.pow_add]; exact this
  have s8 : ∀ (y b : Nat), 1 ≤ y → y < 65536 → b ≤ 48 → y = x / 2 ^ b → ∃ n : Nat, (bif decide (256 ≤ ((y : Nat) : Int)) then T8[(toU8 (IntKind.u8.wrap (((y / 256 : Nat) : Nat) : Int))).toNat]?.bind (fun c : UInt8 => some (IntKind.i64.wrap ((((b + 8 : Nat) : Nat) : Int) + (c.toNat : Int)))) else T8[(toU8 (IntKind.u8.wrap (y : Int))).toNat]?.bind (fun c : UInt8 => some (IntKind.i64.wrap ((b : Int) + (c.toNat : Int))))) = some (n : Int) ∧ Len n x := by
    intro y b hy1 hy hb e
    by_cases h : 256 ≤ y
    · rw [decide_eq_true (by omega), cond_true]
      exact fin (y / 256) (b + 8) (by omega) (by omega) (by omega) (by rw [e, Nat.pow_add, ← Nat.div_div_eq_div_mul])
    · rw [decide_eq_false (by omega), cond_false]
      exact fin y b hy1 (by omega) (by omega) e
  unfold F_math_bits_Len64
  simp only [joinAt]
  have j8 : ∀ b : Nat, b ≤ 48 → IntKind.i64.wrap ((b : Int) + 8) = ((b + 8 : Nat) : Int) := fun b hb => by rw [IntWalk.i64_in _ (by omega)]; omega
  have s16 : ∀ (y b : Nat), 1 ≤ y → y < 4294967296 → b ≤ 32 → y = x / 2 ^ b → IntKind.i64.wrap ((b : Int) + 16) = ((b + 16 : Nat) : Int) := fun y b _ _ hb _ => by rw [IntWalk.i64_in _ (by omega)]; omega
  by_cases h32 : 4294967296 ≤ x
  · rw [decide_eq_true (show (4294967296 : Int) ≤ (x : Int) by omega), cond_true]
    simp only [fd32]
    have hq : x / 4294967296 = x / 2 ^ 32 := rfl
    by_cases h16 : 65536 ≤ x / 4294967296
    · rw [decide_eq_true (show (65536 : Int) ≤ ((x / 4294967296 : Nat) : Int) by omega), cond_true]
      simp only [fd16]
      have := s8 (x / 4294967296 / 65536) 48 (by omega) (by omega) (by omega) (by rw [hq, Nat.div_div_eq_div_mul])
      simp only [fd8]; exact this
    · rw [decide_eq_false (show ¬ (65536 : Int) ≤ ((x / 4294967296 : Nat) : Int) by omega), cond_false]
      have := s8 (x / 4294967296) 32 (by omega) (by omega) (by omega) hq
      simp only [fd8]; exact this
  · rw [decide_eq_false (show ¬ (4294967296 : Int) ≤ (x : Int) by omega), cond_false]
    by_cases h16 : 65536 ≤ x
    · skip
      rw [decide_eq_true (show (65536 : Int) ≤ ((x : Nat) : Int) by omega), cond_true]
      simp only [fd16]
      have := s8 (x / 65536) 16 (by omega) (by omega) (by omega) rfl
      simp only [fd8]; exact this
    · skip
      rw [decide_eq_false (show ¬ (65536 : Int) ≤ ((x : Nat) : Int) by omega), cond_false]
      have := s8 x 0 (by omega) (by omega) (by omega) (by simp)
      simp only [fd8]; exact this
abbrev tab0 : List Int := [1, 10, 100, 1000, 10000, 100000, 1000000, 10000000, 100000000, 1000000000, 10000000000, 100000000000, 1000000000000, 10000000000000, 100000000000000, 1000000000000000, 10000000000000000, 100000000000000000, 1000000000000000000, 10000000000000000000]
theorem log_all : ∀ n < 65, (n * 78913) / 262144 < 20 ∧ tab0[(n * 78913) / 262144]? = some ((10 ^ ((n * 78913) / 262144) : Nat) : Int) ∧ 2 ^ n ≤ 10 ^ ((n * 78913) / 262144 + 1) ∧
    (1 ≤ n → (n * 78913) / 262144 = 0 ∨ 10 ^ ((n * 78913) / 262144 - 1) ≤ 2 ^ (n - 1)) := by decide +kernel
theorem numDigits_eq (N x d : Nat) (h0 : 1 ≤ x) (hx : x < 18446744073709551616) (hd : Dig d x) : F_internal_strconv_numDigits N (x : Int) tab0 = some (d : Int) := by
  obtain ⟨n, h1, h2, h3, h4, h5⟩ := len64 N x h0 hx
  unfold F_internal_strconv_numDigits F_internal_strconv_log10Pow2 F_internal_strconv_bool2_int
  obtain ⟨g1, g2, g3, g4⟩ := log_all n (by omega)
  rw [h1, Option.bind_some, Option.bind_some, show IntKind.i64.wrap ((n : Int) * 78913) = ((n * 78913 : Nat) : Int) by rw [IntWalk.i64_in _ (by omega)]; omega]
  rw [show ((n * 78913 : Nat) : Int).fdiv 262144 = ((n * 78913 / 262144 : Nat) : Int) from fd _ 262144]
  generalize n * 78913 / 262144 = e at g1 g2 g3 g4
  have hb : tab0.length.ble 20 = true := rfl
  rw [hb, cond_true, at?_nat, g2, Option.bind_some]
  by_cases h : 10 ^ e ≤ x
  · rw [decide_eq_true (by omega), cond_true, Option.bind_some, show (e : Int) + 1 = ((e + 1 : Nat) : Int) by omega, i64k (by omega)]
    have : d = e + 1 := hd.unique ⟨by omega, by omega, .inr (by simpa using h)⟩
    rw [this]
  · rw [decide_eq_false (by omega), cond_false, Option.bind_some, Int.add_zero, i64k (by omega)]
    have he : e ≠ 0 := by rintro rfl; simp at h; omega
    have : d = e := hd.unique ⟨by omega, by omega, .inr (by rcases g4 h4 with g | g <;> omega)⟩
    rw [this]
theorem small_all : ∀ k < 100, F_internal_strconv_small 0 ((k : Nat) : Int) = some (dec k) := by decide +kernel
theorem intFormat_eq (N x : Nat) (hx : x < 18446744073709551616) (hN : 30 ≤ N) : F_internal_strconv_FormatUint N (x : Int) 10 tab0 = some (dec x) := by
  unfold F_internal_strconv_FormatUint
  have e10 : ((10 : Int) == 10) = true := rfl
  rw [e10, cond_true]
  by_cases h : x < 100
  · rw [decide_eq_true (by omega), cond_true, i64k (by omega)]
    show Option.bind (F_internal_strconv_small 0 (x : Int)) _ = _
    rw [small_all x h, Option.bind_some]
  · obtain ⟨d, h1, h2⟩ := Dig.exists x hx
    rw [decide_eq_false (by omega), cond_false, numDigits_eq N x d (by omega) hx h1, Option.bind_some]
    have hc : cutOk 0 (d : Int) 24 = true := by simp [cutOk]; omega
    obtain ⟨r, r1, r2, r3⟩ := fb10 N (List.replicate 24 0) d x (by simp; omega) (by simp) h1.2.1 hx (by omega)
    simp only [hc, cond_true, Int.toNat_natCast, Nat.sub_zero]
    rw [r1, Option.bind_some]
    rw [List.length_replicate] at r2
    have hb : Nat.ble 24 r.1.length = true := by rw [r2]; rfl
    have hb2 : (0 + d).ble r.1.length = true := by rw [r2]; exact Nat.ble_eq_true_of_le (by omega)
    rw [hb, cond_true, hb2, cond_true, List.drop_zero, r3, dec_pad hx h1]
theorem format_eq (N x : Nat) (hx : x < 18446744073709551616) (hN : 30 ≤ N) : F_strconv_FormatUint N (x : Int) 10 tab0 = some (dec x) := by
  unfold F_strconv_FormatUint
  rw [intFormat_eq N x hx hN]; rfl
theorem dec_len (x : Nat) (hx : x < 18446744073709551616) : (dec x).length ≤ 20 := by
  obtain ⟨d, h1, h2⟩ := Dig.exists x hx
  rw [dec_pad hx h1, pad_len]; exact h2
end Go.Proofs.Xs
set_option linter.unusedVariables false
set_option linter.unusedSimpArgs false
namespace Go.Xl
structure LO {α : Type} (lt eq : α → α → Bool) : Prop where
  asymm : ∀ x y, lt x y = true → lt y x = false
  ntrans : ∀ x y z, lt x y = false → lt y z = false → lt x z = false
  eq_def : ∀ x y, eq x y = (!lt x y && !lt y x)
section
variable {α : Type} {lt eq : α → α → Bool}
theorem LO.trans (h : LO lt eq) {x y z : α} (h1 : lt x y = true) (h2 : lt y z = true) : lt x z = true := by
  cases hx : lt x z with
  | true => rfl
  | false =>
    have := h.ntrans x z y hx (h.asymm _ _ h2)
    rw [h1] at this; cases this
end
end Go.Xl
set_option linter.unusedVariables false
set_option linter.unusedSimpArgs false
namespace Go.Proofs.Xs
open Go Go.Xl Go.Ab Go.Proofs Go.Proofs.Xr Go.Sort
section
variable {α : Type} [DecidableEq α]
end
end Go.Proofs.Xs
set_option linter.unusedVariables false
set_option linter.unusedSimpArgs false
namespace Go.Proofs.Xs
open Go Go.Xl Go.Ab Go.Proofs Go.Proofs.Xr Go.Sort
end Go.Proofs.Xs
set_option linter.unusedVariables false
set_option linter.unusedSimpArgs false
namespace Go.Proofs.Xs
open Go Go.Xl Go.Ab Go.Proofs Go.Proofs.Xr Go.Sort
end Go.Proofs.Xs
set_option linter.unusedVariables false
set_option linter.unusedSimpArgs false
namespace Go.Proofs.Xs
open Go Go.Xl Go.Ab Go.Proofs Go.Proofs.Xr Go.Sort
theorem getl {α : Type} {l : List α} {i : Nat} (h : i < l.length) : l[i]? = some l[i] := List.getElem?_eq_getElem h
end Go.Proofs.Xs
set_option linter.unusedVariables false
set_option linter.unusedSimpArgs false
namespace Go.Proofs.Xs
open Go Go.Xl Go.Ab Go.Proofs Go.Proofs.Xr Go.Sort
end Go.Proofs.Xs
set_option linter.unusedVariables false
set_option linter.unusedSimpArgs false
set_option maxRecDepth 100000
namespace Go.Proofs.Xs
open Go Go.Xl Go.Ab Go.Proofs Go.Proofs.Xr Go.Sort
end Go.Proofs.Xs
set_option linter.unusedVariables false
set_option linter.unusedSimpArgs false
namespace Go.Xl
open Go.Ab
def Ty.In : (t : Ty) → t.T → Prop
  | .int k, n => (Lit.int k n).wf = true
  | .u8, _ => True
  | .bool, _ => True
  | .str, l => l.length ≤ maxLen
  | .sl a, l => l.length ≤ maxLen ∧ ∀ x ∈ l, a.In x
  | .unit, _ => True
  | .pair a b, x => a.In x.1 ∧ b.In x.2
  | .st1 a, x => a.In x
  | .tab _, _ => True
  | .err, _ => True
  | .ic _ _, _ => True
  | .ptr, _ => True
def opFs (P : Program) (rec : TypeId → Ty → Bool) : Nat → List Field → Ty → Bool
  | off, [f], .st1 a => cond (Nat.beq f.offset off) (cond (Nat.beq (P.cellsOf f.type) a.size) (rec f.type a) false) false
  | off, [f, g], .pair a b => cond (Nat.beq f.offset off) (cond (Nat.beq (P.cellsOf f.type) a.size) (cond (rec f.type a) (cond (Nat.beq g.offset (off + a.size)) (cond (Nat.beq (P.cellsOf g.type) b.size) (rec g.type b) false) false) false) false) false
  | off, f :: g :: h :: r, .pair a b => cond (Nat.beq f.offset off) (cond (Nat.beq (P.cellsOf f.type) a.size) (cond (rec f.type a) (opFs P rec (off + a.size) (g :: h :: r) b) false) false) false
  | _, _, _ => false
def opB (P : Program) : Nat → TypeId → Ty → Bool
  | 0, _, _ => false
  | n + 1, t, ty =>
    match P.underlying t, ty with
    | some (.int k), .int k' => cond (kindB k k') true false
    | some (.int .u8), .u8 => true
    | some .bool, .bool => true
    | some .string, .str => true
    | some (.slice e), .sl a => cond (Nat.beq (P.cellsOf e) a.size) (cond (Nat.ble 1 a.size) (opB P n e a) false) false
    | some (.struct fs), a => cond a.agg (cond (Nat.beq (P.cellsOf t) a.size) (opFs P (opB P n) 0 fs.toList a) false) false
    | _, _ => false
def CellsD (γ : Nat → Nat) (w : World) (ds : List D) (cs : List Value) : Prop := ds.length = cs.length ∧ ∀ (i : Nat) d v, ds[i]? = some d → cs[i]? = some v → RD γ w d v
theorem CellsD.one {γ : Nat → Nat} {w : World} {d : D} {v : Value} (h : RD γ w d v) : CellsD γ w [d] [v] := by
  refine ⟨rfl, fun i e u he hu => ?_⟩
  cases i with
  | zero => simp at he hu; subst he; subst hu; exact h
  | succ i => simp at he
theorem CellsD.append {γ : Nat → Nat} {w : World} {a b : List D} {cs ds : List Value} (h : CellsD γ w a cs) (h' : CellsD γ w b ds) : CellsD γ w (a ++ b) (cs ++ ds) := by
  refine ⟨by simp [h.1, h'.1], fun i e u he hu => ?_⟩
  rw [List.getElem?_append] at he hu
  rw [← h.1] at hu
  split at he
  · rename_i hlt
    rw [if_pos hlt] at hu
    exact h.2 i e u he hu
  · rename_i hge
    rw [if_neg hge] at hu
    exact h'.2 _ e u he hu
theorem cT {a b : Bool} (h : cond a b false = true) : a = true ∧ b = true := by
  cases a <;> simp at h; exact ⟨rfl, h⟩
section
variable {H : Type} {enc : TypeId × Value → H} {P : Program} {W : World}
def OpR (P : Program) (W : World) (H : Type) (enc : TypeId × Value → H) (fuel : Nat) (rec : TypeId → Ty → Bool) : Prop :=
  ∀ (t : TypeId) (ty : Ty) (cs : List Value) (d : DataW H) (ps : List MemPlace), rec t ty = true → DataW.trod enc P W 0 (fun _ => true) true fuel t cs = some (d, ps) →
    ∃ x : ty.T, ty.In x ∧ CellsD (fullγ W) W (ty.ds x) cs
theorem take_split {α : Type} (l : List α) (off a b : Nat) : (l.drop off).take (a + b) = (l.drop off).take a ++ (l.drop (off + a)).take b := by
  rw [List.take_add, List.drop_drop]
theorem open_fs {fuel : Nat} {rec : TypeId → Ty → Bool} (hr : OpR P W H enc fuel rec) {cs : List Value} : ∀ (fs : List Field) (off : Nat) (ty : Ty), opFs P rec off fs ty = true →
    (∀ f ∈ fs, ∃ y, DataW.trod enc P W 0 (fun _ => true) true fuel f.type ((cs.drop f.offset).take (P.cellsOf f.type)) = some y) →
    ∃ x : ty.T, ty.In x ∧ CellsD (fullγ W) W (ty.ds x) ((cs.drop off).take ty.size)
  | [], off, ty, h, hf => by cases ty <;> simp [opFs] at h
  | [f], off, ty, h, hf => by
    cases ty with
    | st1 a =>
      simp only [opFs] at h
      obtain ⟨h1, h⟩ := cT h
      obtain ⟨h2, h⟩ := cT h
      have h1 := Nat.eq_of_beq_eq_true h1
      have h2 := Nat.eq_of_beq_eq_true h2
      obtain ⟨y, hy⟩ := hf f (by simp)
      rw [h1, h2] at hy
      exact hr f.type a _ _ _ h hy
    | _ => simp [opFs] at h
  | [f, g], off, ty, h, hf => by
    cases ty with
    | pair a b =>
      simp only [opFs] at h
      obtain ⟨h1, h⟩ := cT h
      obtain ⟨h2, h⟩ := cT h
      obtain ⟨h3, h⟩ := cT h
      obtain ⟨h4, h⟩ := cT h
      obtain ⟨h5, h⟩ := cT h
      have h1 := Nat.eq_of_beq_eq_true h1
      have h2 := Nat.eq_of_beq_eq_true h2
      have h4 := Nat.eq_of_beq_eq_true h4
      have h5 := Nat.eq_of_beq_eq_true h5
      obtain ⟨y, hy⟩ := hf f (by simp)
      obtain ⟨z, hz⟩ := hf g (by simp)
      rw [h1, h2] at hy
      rw [h4, h5] at hz
      obtain ⟨x1, i1, c1⟩ := hr _ _ _ _ _ h3 hy
      obtain ⟨x2, i2, c2⟩ := hr _ _ _ _ _ h hz
      refine ⟨(x1, x2), ⟨i1, i2⟩, ?_⟩
      simp only [Ty.ds, Ty.size]
      rw [take_split]
      exact c1.append c2
    | _ => simp [opFs] at h
  | f :: g :: k :: r, off, ty, h, hf => by
    cases ty with
    | pair a b =>
      simp only [opFs] at h
      obtain ⟨h1, h⟩ := cT h
      obtain ⟨h2, h⟩ := cT h
      obtain ⟨h3, h⟩ := cT h
      have h1 := Nat.eq_of_beq_eq_true h1
      have h2 := Nat.eq_of_beq_eq_true h2
      obtain ⟨y, hy⟩ := hf f (by simp)
      rw [h1, h2] at hy
      obtain ⟨x1, i1, c1⟩ := hr _ _ _ _ _ h3 hy
      obtain ⟨x2, i2, c2⟩ := open_fs hr (g :: k :: r) (off + a.size) b h (fun q hq => hf q (List.mem_cons_of_mem _ hq))
      refine ⟨(x1, x2), ⟨i1, i2⟩, ?_⟩
      simp only [Ty.ds, Ty.size]
      rw [take_split]
      exact c1.append c2
    | _ => simp [opFs] at h
theorem choose_list {α β : Type} (p : Nat → β → α → Prop) : ∀ (l : List β), (∀ i y, l[i]? = some y → ∃ x, p i y x) → ∃ xs : List α, xs.length = l.length ∧ ∀ i y x, l[i]? = some y → xs[i]? = some x → p i y x := by
  intro l
  induction l generalizing p with
  | nil => intro _; exact ⟨[], rfl, by simp⟩
  | cons a r ih =>
    intro h
    obtain ⟨x, hx⟩ := h 0 a rfl
    obtain ⟨xs, h1, h2⟩ := ih (fun i => p (i + 1)) (fun i y hy => h (i + 1) y (by simpa using hy))
    refine ⟨x :: xs, by simp [h1], fun i y z hy hz => ?_⟩
    cases i with
    | zero => simp at hy hz; subst hy; subst hz; exact hx
    | succ i => exact h2 i y z (by simpa using hy) (by simpa using hz)
theorem open_cells : ∀ (n fuel : Nat), OpR P W H enc fuel (opB P n)
  | 0, fuel => by intro t ty cs d ps ho; simp [opB] at ho
  | n + 1, fuel => by
    intro t ty cs d ps ho h
    unfold opB at ho
    split at ho
    · rename_i k k' hu
      obtain ⟨hk, _⟩ := cT ho
      have := kindB_eq hk
      subst this
      obtain ⟨m, rfl, _, hw⟩ := DataW.trod_int hu h
      exact ⟨m, hw, .one (.sc _)⟩
    · rename_i hu
      obtain ⟨m, rfl, _, hw⟩ := DataW.trod_int hu h
      have hm : 0 ≤ m ∧ m ≤ 255 := by simpa [Lit.wf, IntKind.wrap, IntKind.bits, IntKind.signed, IntKind.min, IntKind.max] using hw
      refine ⟨UInt8.ofNat m.toNat, trivial, .one ?_⟩
      have : (((UInt8.ofNat m.toNat).toNat : Nat) : Int) = m := by
        rw [UInt8.toNat_ofNat']; omega
      rw [this]
      exact .sc _
    · rename_i hu
      obtain ⟨b, rfl, _⟩ := DataW.trod_bool hu h
      exact ⟨b, trivial, .one (.sc _)⟩
    · rename_i hu
      obtain ⟨s, rfl, _, hw⟩ := DataW.trod_string hu h
      exact ⟨s.data.toList, by simpa [Ty.In] using hw, .one (.sc _)⟩
    · rename_i e a hu
      obtain ⟨h1, ho⟩ := cT ho
      obtain ⟨h2, ho⟩ := cT ho
      have h1 := Nat.eq_of_beq_eq_true h1
      have h2 := Nat.le_of_ble_eq_true h2
      rcases DataW.trod_slice hu h with ⟨rfl, _⟩ | ⟨ad, len, cap, elems, rest, m, rfl, rfl, _, hb, hl, hc, hel, hcell, _, _⟩
      · exact ⟨[], ⟨by simp, by simp⟩, .one (.nil _ _ _ fun _ => rfl)⟩
      · have key : ∀ i y, (List.range len)[i]? = some y → ∃ x : a.T, a.In x ∧ ∃ cs', cs'.length = a.size ∧ CellsD (fullγ W) W (a.ds x) cs' ∧ ∀ j, j < a.size → W.cell? ((ad.add (i * a.size)).add j) = cs'[j]? := by
          intro i y hi
          have hlt : i < len := by have := (List.getElem?_eq_some_iff.1 hi).1; simpa using this
          have hc := hcell i hlt
          obtain ⟨z, hz⟩ : ∃ z, elems[i]? = some z := ⟨_, List.getElem?_eq_getElem (by omega)⟩
          rw [hz, Option.bind_eq_some_iff, h1] at hc
          obtain ⟨cs', hc1, hc2⟩ := hc
          obtain ⟨_, hcl, hcc⟩ := World.cells?_some hc1
          obtain ⟨x, hx1, hx2⟩ := open_cells n m _ _ _ _ _ ho hc2
          exact ⟨x, hx1, cs', hcl, hx2, hcc⟩
        obtain ⟨xs, hxl, hx⟩ := choose_list _ _ key
        rw [List.length_range] at hxl
        have hxs : ∀ i x, xs[i]? = some x → a.In x ∧ ∃ cs', cs'.length = a.size ∧ CellsD (fullγ W) W (a.ds x) cs' ∧ ∀ j, j < a.size → W.cell? ((ad.add (i * a.size)).add j) = cs'[j]? := by
          intro i x hi
          have hlt : i < len := by have := (List.getElem?_eq_some_iff.1 hi).1; omega
          exact hx i i x (by simp [hlt]) hi
        refine ⟨xs, ⟨by omega, fun x hm => ?_⟩, .one ?_⟩
        · obtain ⟨i, hi⟩ := List.mem_iff_getElem?.1 hm
          exact (hxs i x hi).1
        · rcases Nat.eq_zero_or_pos len with h0 | h0
          · have : xs = [] := List.eq_nil_of_length_eq_zero (by omega)
            subst this
            subst h0
            exact .nil _ (some ad) cap (by simp)
          · have spot : ad.spot = none := by
              obtain ⟨x0, hx0⟩ : ∃ z, xs[0]? = some z := ⟨_, List.getElem?_eq_getElem (by omega)⟩
              obtain ⟨_, cs', hl', _, hc'⟩ := hxs 0 x0 hx0
              have := hc' 0 (by omega)
              rw [List.getElem?_eq_getElem (by omega)] at this
              have := World.cell?_spot this
              simpa [Addr.add] using this
            obtain ⟨b, off, sp⟩ := ad
            simp only at spot
            subst spot
            have hcell' : ∀ i x, xs[i]? = some x → ∃ cs', cs'.length = a.size ∧ CellsD (fullγ W) W (a.ds x) cs' ∧ ∀ j, j < a.size → W.cell? ⟨b, off + (i * a.size + j), none⟩ = cs'[j]? := by
              intro i x hi
              obtain ⟨_, cs', hl', hd', hc'⟩ := hxs i x hi
              refine ⟨cs', hl', hd', fun j hj => ?_⟩
              have := hc' j hj
              rwa [WideShapes.add_plain, WideShapes.add_plain, Nat.add_assoc] at this
            refine .ofCells' (by simp [hxl]) ?_ hl ?_ ?_
            · obtain ⟨x, hx⟩ : ∃ z, xs[len - 1]? = some z := ⟨_, List.getElem?_eq_getElem (by omega)⟩
              obtain ⟨cs', hl', _, hc'⟩ := hcell' (len - 1) x hx
              have := hc' (a.size - 1) (by omega)
              rw [List.getElem?_eq_getElem (by omega)] at this
              have := fullγ_cell this
              have e : len * a.size = (len - 1) * a.size + a.size := by
                rw [← Nat.succ_mul]; congr 1; omega
              show off + len * a.size ≤ fullγ W b
              omega
            · intro i cs hi
              rw [List.getElem?_map, Option.map_eq_some_iff] at hi
              obtain ⟨x, _, rfl⟩ := hi
              exact a.ds_length x
            · intro i j cs c u hi hj hu
              rw [List.getElem?_map, Option.map_eq_some_iff] at hi
              obtain ⟨x, hx, rfl⟩ := hi
              obtain ⟨cs', hl', hd', hc'⟩ := hcell' i x hx
              have hjl : j < a.size := by have := (List.getElem?_eq_some_iff.1 hj).1; rwa [a.ds_length] at this
              rw [hc' j hjl] at hu
              exact hd'.2 j c u hj hu
    · rename_i fs hu
      obtain ⟨_, ho⟩ := cT ho
      obtain ⟨h2, ho⟩ := cT ho
      have h2 := Nat.eq_of_beq_eq_true h2
      obtain ⟨xs, m, rfl, _, hl, hxl, hall⟩ := DataW.trod_struct hu h
      obtain ⟨x, hx1, hx2⟩ := open_fs (open_cells n m) (cs := cs) fs.toList 0 _ ho (by
        intro f hf
        obtain ⟨i, hi⟩ := List.mem_iff_getElem?.1 hf
        have hi' : fs[i]? = some f := by simpa using hi
        have := hall i f hi'
        rw [this]
        have hlt := (Array.getElem?_eq_some_iff.1 hi').1
        exact ⟨_, List.getElem?_eq_getElem (by omega)⟩)
      refine ⟨x, hx1, ?_⟩
      rw [List.drop_zero, List.take_of_length_le (by omega)] at hx2
      exact hx2
    · cases ho
theorem open_arg {b0 n : Nat} {t : TypeId} {ty : Ty} {v : Value} {d : DataW H} {ps : List MemPlace} (ho : opB P n t ty = true) (hv : Value.okWide P W .any b0 t v)
    (h : DataW.Trod enc P W 0 (fun _ => true) true t v d ps) : ∃ x : ty.T, ty.In x ∧ RA (full W) W (XV.d (ty.xv x)).a v := by
  obtain ⟨fuel, hf⟩ := h
  obtain ⟨x, h1, h2⟩ := open_cells n fuel _ _ _ _ _ ho hf
  refine ⟨x, h1, .d _ _ ?_⟩
  show RD (fullγ W) W (ty.dv x) v
  cases hagg : ty.agg with
  | true =>
    rw [ty.dv_agg x hagg]
    have : ∃ fs, P.underlying t = some (.struct fs) := by
      cases n with
      | zero => simp [opB] at ho
      | succ n =>
        unfold opB at ho
        split at ho <;> simp_all [Ty.agg]
    obtain ⟨fs, hu⟩ := this
    obtain ⟨cs, rfl, _⟩ := WideShapes.okWide_struct hu hv
    simp only [Value.cells] at h2
    exact .agg _ _ (by simpa using h2.1) fun i c u hc hu => h2.2 i c u hc (by simpa using hu)
  | false =>
    rw [ty.dv_one x hagg] at h2
    have hv' : v.cells = #[v] := by
      have := h2.1
      cases v with
      | agg cs =>
        exfalso
        cases n with
        | zero => simp [opB] at ho
        | succ n =>
          unfold opB at ho
          split at ho
          · rename_i hu; obtain ⟨_, e⟩ := WideShapes.okWide_int hu hv; cases e
          · rename_i hu; obtain ⟨_, e⟩ := WideShapes.okWide_int hu hv; cases e
          · rename_i hu; obtain ⟨_, e⟩ := WideShapes.okWide_bool hu hv; cases e
          · rename_i hu; obtain ⟨_, e⟩ := WideShapes.okWide_string hu hv; cases e
          · rename_i hu; obtain ⟨_, _, _, e⟩ := WideShapes.okWide_slice hu hv; cases e
          · rw [hagg] at ho; simp at ho
          · cases ho
      | _ => rfl
    rw [hv'] at h2
    exact h2.2 0 _ _ rfl rfl
end
end Go.Xl
set_option linter.unusedVariables false
set_option linter.unusedSimpArgs false
set_option maxRecDepth 100000
namespace Go.Proofs.Xs
open Go Go.Xl Go.Ab Go.Proofs Go.Proofs.Xr
theorem wf_u64 {x : Int} (h : (Lit.int .u64 x).wf = true) : ∃ n : Nat, x = (n : Int) ∧ n < 18446744073709551616 := by
  have : 0 ≤ x ∧ x ≤ 18446744073709551615 := by simpa [Lit.wf, IntKind.wrap, IntKind.bits, IntKind.signed, IntKind.min, IntKind.max] using h
  exact ⟨x.toNat, by omega, by omega⟩
theorem and48 (x : Nat) : x &&& 281474976710655 = x % 281474976710656 := Nat.and_two_pow_sub_one_eq_mod x 48
theorem split_eq (N v : Nat) (hv : v < 18446744073709551616) : F_shift_Split N (v : Int) = some (((v / 281474976710656 : Nat) : Int), ((v % 281474976710656 : Nat) : Int)) := by
  unfold F_shift_Split
  rw [show (281474976710655 : Int) = ((281474976710655 : Nat) : Int) from rfl, bits_and_u64_nat v _ hv (by decide), and48, show ((v : Nat) : Int).fdiv 281474976710656 = ((v / 281474976710656 : Nat) : Int) from fd v 281474976710656,
    IntWalk.u16_in _ (by omega)]
theorem good_eq (N : Nat) (d : Int × Int) : F_dot_Good N d = F_epitaphref07_Good N d := by
  unfold F_dot_Good F_epitaphref07_Good
  have e1 : decide (0 < d.1) = decide (1 ≤ d.1) := by rw [decide_eq_decide]; omega
  have e2 : decide (0 < d.2) = decide (1 ≤ d.2) := by rw [decide_eq_decide]; omega
  have e3 : decide (d.2 ≤ 281474976710655) = decide (d.2 < 281474976710656) := by rw [decide_eq_decide]; omega
  simp only [e1, e2, e3]
theorem good_some (N : Nat) (d : Int × Int) : F_epitaphref07_Good N d = some (decide (1 ≤ d.1) && decide (1 ≤ d.2) && decide (d.2 < 281474976710656)) := by
  unfold F_epitaphref07_Good
  cases decide (1 ≤ d.1) <;> cases decide (1 ≤ d.2) <;> rfl
noncomputable def dotText (a n : Nat) : List UInt8 := dec a ++ [46] ++ dec n
theorem text_eq (N a n : Nat) (hN : 30 ≤ N) (ha : a < 65536) (hn : n < 18446744073709551616) : F_dot_Text N ((a : Int), (n : Int)) tab0 = some (dotText a n) := by
  unfold F_dot_Text
  have h1 := dec_len a (by omega)
  have h2 := dec_len n hn
  simp only
  rw [u64n (show a < 18446744073709551616 by omega), format_eq N a (by omega) hN, Option.bind_some, decide_eq_true (by omega), cond_true, format_eq N n hn hN, Option.bind_some, decide_eq_true (by simp; omega), cond_true]
  rfl
end Go.Proofs.Xs
set_option linter.unusedVariables false
set_option linter.unusedSimpArgs false
set_option maxRecDepth 100000
namespace Go.Proofs.Xs
open Go Go.Xl Go.Ab Go.Proofs Go.Proofs.Xr
def pu (M : Nat) : Nat → List UInt8 → Int × Option Int
  | n, [] => ((n : Int), none)
  | n, c :: r => if 48 ≤ c.toNat ∧ c.toNat ≤ 57 then (if n * 10 + (c.toNat - 48) ≤ M then pu M (n * 10 + (c.toNat - 48)) r else ((M : Int), some 1)) else (0, some 2)
theorem u8all {p : UInt8 → Prop} (h : ∀ k < 256, p (UInt8.ofNat k)) (c : UInt8) : p c := by
  have := h c.toNat c.toNat_lt
  rwa [UInt8.ofNat_toNat] at this
theorem letter : ∀ y : UInt8, decide (97 ≤ y) = true → decide (y ≤ 122) = true → decide ((10 : UInt8) ≤ y - 97 + 10) = true := u8all (by decide +kernel)
theorem digit : ∀ c : UInt8, 48 ≤ c.toNat ∧ c.toNat ≤ 57 → (c == 95) = false ∧ decide (48 ≤ c) = true ∧ decide (c ≤ 57) = true ∧ decide ((10 : UInt8) ≤ c - 48) = false ∧ ((c - 48).toNat : Nat) = c.toNat - 48 := u8all (by decide +kernel)
theorem nodigit : ∀ c : UInt8, ¬ (48 ≤ c.toNat ∧ c.toNat ≤ 57) → (decide (48 ≤ c) = false ∨ decide (c ≤ 57) = false) := u8all (by decide +kernel)
theorem ten8 : toU8 (IntKind.u8.wrap 10) = 10 := by decide
theorem lower_eq (N : Nat) (c : UInt8) : ∃ y, F_internal_strconv_lower N c = some y := ⟨_, rfl⟩
theorem u64w {x : Int} (h0 : 0 ≤ x) (h : x < 18446744073709551616) : IntKind.u64.wrap x = x := IntWalk.u64_in _ (by omega)
end Go.Proofs.Xs
set_option linter.unusedVariables false
set_option linter.unusedSimpArgs false
set_option maxRecDepth 100000
namespace Go.Proofs.Xs
open Go Go.Xl Go.Ab Go.Proofs Go.Proofs.Xr
def isD (c : UInt8) : Prop := 48 ≤ c.toNat ∧ c.toNat ≤ 57
def wd (c : UInt8) : Nat := c.toNat - 48
attribute [irreducible] wd
theorem wd_eq (c : UInt8) : wd c = c.toNat - 48 := by unfold wd; rfl
def vl : Nat → List UInt8 → Nat
  | n, [] => n
  | n, c :: r => vl (n * 10 + wd c) r
theorem vl_ge : ∀ (s : List UInt8) (n : Nat), n ≤ vl n s
  | [], n => Nat.le_refl _
  | c :: r, n => Nat.le_trans (by omega) (vl_ge r _)
def puStep (M k : Nat) (c : UInt8) (r : List UInt8) : Int × Option Int := if 48 ≤ c.toNat ∧ c.toNat ≤ 57 then (if k ≤ M then pu M k r else ((M : Int), some 1)) else (0, some 2)
theorem pu_cons (M n : Nat) (c : UInt8) (r : List UInt8) : pu M n (c :: r) = puStep M (n * 10 + wd c) c r := by unfold puStep; rw [pu, wd_eq]
theorem vl_cons (n : Nat) (c : UInt8) (r : List UInt8) : vl n (c :: r) = vl (n * 10 + wd c) r := by rw [vl]
theorem pu_none {M : Nat} (s : List UInt8) : ∀ n : Nat, n ≤ M → (((pu M n s).2 = none ↔ (∀ c ∈ s, isD c) ∧ vl n s ≤ M) ∧ ((pu M n s).2 = none → (pu M n s).1 = (vl n s : Int))) := by
  induction s with
  | nil =>
    intro n h
    exact ⟨⟨fun _ => ⟨fun c hc => (by cases hc), h⟩, fun _ => rfl⟩, fun _ => rfl⟩
  | cons c r ih =>
    intro n h
    rw [pu_cons, vl_cons]
    unfold puStep
    by_cases hd : 48 ≤ c.toNat ∧ c.toNat ≤ 57
    · rw [if_pos hd]
      generalize n * 10 + wd c = k
      by_cases hm : k ≤ M
      · rw [if_pos hm]
        obtain ⟨h1, h2⟩ := ih k hm
        refine ⟨h1.trans ⟨fun h => ⟨?_, h.2⟩, fun h => ⟨fun x hx => h.1 x (List.mem_cons_of_mem _ hx), h.2⟩⟩, h2⟩
        intro x hx
        rcases List.mem_cons.1 hx with rfl | hx
        · exact hd
        · exact h.1 x hx
      · rw [if_neg hm]
        have hg := vl_ge r k
        exact ⟨⟨fun h => (by cases h), fun h => absurd (Nat.le_trans hg h.2) hm⟩, fun h => (by cases h)⟩
    · rw [if_neg hd]
      exact ⟨⟨fun h => (by cases h), fun h => absurd (h.1 c List.mem_cons_self) hd⟩, fun h => (by cases h)⟩
theorem pu_err {M : Nat} : ∀ (s : List UInt8) (n : Nat), (pu M n s).2 = none ∨ (pu M n s).2 = some 1 ∨ (pu M n s).2 = some 2
  | [], n => .inl rfl
  | c :: r, n => by
    simp only [pu]
    split
    · split
      · exact pu_err r _
      · exact .inr (.inl rfl)
    · exact .inr (.inr rfl)
theorem vl_snoc (c : UInt8) (s : List UInt8) : ∀ (n : Nat), vl n (s ++ [c]) = vl n s * 10 + wd c := by
  induction s with
  | nil => intro n; rw [List.nil_append, vl_cons]; simp only [vl]
  | cons d r ih => intro n; rw [List.cons_append, vl_cons, vl_cons, ih]
theorem dg_val (x : Nat) : (dg x).toNat = 48 + x % 10 := by
  unfold dg
  rw [UInt8.toNat_ofNat']
  omega
theorem dg_of {c : UInt8} (h : isD c) (y : Nat) : dg (y * 10 + wd c) = c := by
  rw [wd_eq]
  apply UInt8.toNat_inj.1
  rw [dg_val]
  obtain ⟨h1, h2⟩ := h
  omega
theorem pad_vl : ∀ (d : Nat) (s : List UInt8), s.length = d → (∀ c ∈ s, isD c) → pad d (vl 0 s) = s ∧ vl 0 s < 10 ^ d
  | 0, s, hl, _ => by
    have : s = [] := List.eq_nil_of_length_eq_zero hl
    subst this
    exact ⟨rfl, by simp [vl]⟩
  | d + 1, s, hl, h => by
    obtain ⟨t, c, rfl⟩ : ∃ t c, s = t ++ [c] := by
      rcases List.eq_nil_or_concat s with h0 | ⟨t, c, h0⟩
      · subst h0; simp at hl
      · exact ⟨t, c, by rw [h0]; simp⟩
    have hc : isD c := h c (by simp)
    obtain ⟨h1, h2⟩ := pad_vl d t (by simpa using hl) fun x hx => h x (by simp [hx])
    rw [vl_snoc c t 0]
    have e : (vl 0 t * 10 + wd c) / 10 = vl 0 t := by
      rw [wd_eq]
      obtain ⟨h3, h4⟩ := hc
      omega
    refine ⟨?_, ?_⟩
    · rw [pad, e, h1, dg_of hc]
    · obtain ⟨h3, h4⟩ := hc
      rw [Nat.pow_succ, wd_eq]
      omega
theorem pad_isD : ∀ (d x : Nat), ∀ c ∈ pad d x, isD c
  | 0, _, c, h => by cases h
  | d + 1, x, c, h => by
    rw [pad] at h
    rcases List.mem_append.1 h with h | h
    · exact pad_isD d _ c h
    · simp at h
      subst h
      unfold isD
      rw [dg_val]
      omega
theorem vl_pad : ∀ (d x : Nat), vl 0 (pad d x) = x % 10 ^ d
  | 0, x => by simp [pad, vl, Nat.mod_one]
  | d + 1, x => by
    rw [pad, vl_snoc _ _ 0, vl_pad d, wd_eq, dg_val, Nat.pow_succ]
    have := Nat.mod_mul (x := x) (a := 10) (b := 10 ^ d)
    rw [Nat.mul_comm 10] at this
    omega
theorem dec_facts (x : Nat) (hx : x < 18446744073709551616) : (∀ c ∈ dec x, isD c) ∧ vl 0 (dec x) = x ∧ Dig (dec x).length x := by
  obtain ⟨d, h1, h2⟩ := Dig.exists x hx
  rw [dec_pad hx h1]
  refine ⟨pad_isD d x, ?_, ?_⟩
  · rw [vl_pad, Nat.mod_eq_of_lt h1.2.1]
  · rw [pad_len]; exact h1
theorem dec_of {s : List UInt8} (h0 : s ≠ []) (h : ∀ c ∈ s, isD c) (hz : 1 < s.length → s[0]? ≠ some 48) (hx : vl 0 s < 18446744073709551616) : dec (vl 0 s) = s := by
  obtain ⟨h1, h2⟩ := pad_vl s.length s rfl h
  have hl : 1 ≤ s.length := List.length_pos_iff.2 h0
  have hd : Dig s.length (vl 0 s) := by
    refine ⟨hl, h2, ?_⟩
    by_cases h3 : s.length = 1
    · exact .inl h3
    · right
      obtain ⟨c, r, rfl⟩ : ∃ c r, s = c :: r := List.exists_cons_of_ne_nil h0
      have hc := h c List.mem_cons_self
      have hne : c.toNat ≠ 48 := by
        intro he
        refine hz (by omega) ?_
        simp
        exact UInt8.toNat_inj.1 he
      simp only [vl, List.length_cons, Nat.add_sub_cancel]
      have : ∀ (r : List UInt8) (n : Nat), 1 ≤ n → 10 ^ r.length ≤ vl n r := by
        intro r
        induction r with
        | nil => intro n hn; simpa [vl] using hn
        | cons d r ih =>
          intro n hn
          simp only [vl, List.length_cons]
          have h5 : ∀ (r : List UInt8) (n m : Nat), n ≤ m → vl n r ≤ vl m r := by
            intro r
            induction r with
            | nil => intro n m h; exact h
            | cons d r ih2 => intro n m h; exact ih2 _ _ (by omega)
          have h6 : ∀ (r : List UInt8) (n : Nat), n * 10 ^ r.length ≤ vl n r := by
            intro r
            induction r with
            | nil => intro n; simp [vl]
            | cons d r ih2 =>
              intro n
              have := ih2 (n * 10 + wd d)
              simp only [vl, List.length_cons]
              refine Nat.le_trans ?_ this
              rw [Nat.pow_succ, Nat.mul_comm (10 ^ r.length), ← Nat.mul_assoc]
              exact Nat.mul_le_mul_right _ (by omega)
          have := h6 (d :: r) n
          simp only [vl, List.length_cons] at this
          refine Nat.le_trans ?_ this
          exact Nat.le_mul_of_pos_left _ hn
      exact this r _ (by rw [wd_eq]; unfold isD at hc; omega)
  rw [dec_pad hx hd, h1]
end Go.Proofs.Xs
set_option linter.unusedVariables false
set_option linter.unusedSimpArgs false
set_option maxRecDepth 100000
namespace Go.Proofs.Xs
open Go Go.Xl Go.Ab Go.Proofs Go.Proofs.Xr
theorem clone_eq (N : Nat) (s : List UInt8) (h : s.length ≤ 281474976710656) : F_internal_stringslite_Clone N s = some s := by
  unfold F_internal_stringslite_Clone
  by_cases h0 : s.length = 0
  · have : s = [] := List.eq_nil_of_length_eq_zero h0
    subst this; rfl
  · have e1 : (((s.length : Nat) : Int) == 0) = false := by simpa using h0
    have e2 : (repB 0 s.length).length = s.length := by simp [repB]
    have e3 : (decide (1 * s.length ≤ 281474976710656) && decide ((s.length : Int) ≤ 9223372036854775807)) = true := by simp; omega
    have e4 : decide ((0 : Int) < (s.length : Int)) = true := by simp; omega
    have e5 : s.length.beq 0 = false := by cases hh : s.length.beq 0 with
      | false => rfl
      | true => exact absurd (Nat.eq_of_beq_eq_true hh) h0
    have e6 : (((s.length : Nat) : Int) == ((s.length : Nat) : Int)) = true := by simp
    have e7 : decide (s.length ≤ 9223372036854775807) = true := by simp; omega
    simp only [Int.toNat_natCast, e1, e2, e3, e4, e5, e6, e7, Nat.beq_refl, cond_true, cond_false]
def puR (M : Nat) (s : List UInt8) : Int × Option Int := if s = [] then (0, some 2) else pu M 0 s
theorem puR_err (M : Nat) (s : List UInt8) : (puR M s).2 = none ∨ (puR M s).2 = some 1 ∨ (puR M s).2 = some 2 := by
  unfold puR
  split
  · exact .inr (.inr rfl)
  · exact pu_err _ _
theorem puR_none {M : Nat} {s : List UInt8} : (puR M s).2 = none ↔ s ≠ [] ∧ (∀ c ∈ s, isD c) ∧ vl 0 s ≤ M := by
  unfold puR
  split
  · rename_i h; simp [h]
  · rename_i h; rw [(pu_none s 0 (Nat.zero_le _)).1]; simp [h]
theorem puR_val {M : Nat} {s : List UInt8} (h : (puR M s).2 = none) : (puR M s).1 = (vl 0 s : Int) := by
  unfold puR at h ⊢
  split at h
  · cases h
  · rename_i h0; rw [if_neg h0]; exact (pu_none s 0 (Nat.zero_le _)).2 h
theorem idx_none {c : UInt8} : ∀ {l : List UInt8}, c ∉ l → Lib.indexByte l c = -1
  | [], _ => rfl
  | b :: r, h => by
    have h1 : (b == c) = false := by simp at h ⊢; exact fun e => h.1 e.symm
    have h2 := idx_none (l := r) (c := c) (fun hh => h (List.mem_cons_of_mem _ hh))
    simp [Lib.indexByte, h1, h2]
theorem idx_some {c : UInt8} : ∀ {h t : List UInt8}, c ∉ h → Lib.indexByte (h ++ c :: t) c = (h.length : Int)
  | [], t, _ => by simp [Lib.indexByte]
  | b :: r, t, h => by
    have h1 : (b == c) = false := by simp at h ⊢; exact fun e => h.1 e.symm
    have h2 := idx_some (h := r) (t := t) (c := c) (fun hh => h (List.mem_cons_of_mem _ hh))
    have h3 : ((r.length : Int) == -1) = false := by simp
    simp [Lib.indexByte, h1, h2, h3]
theorem split_at (c : UInt8) : ∀ (x : List UInt8), c ∉ x ∨ ∃ h t, x = h ++ c :: t ∧ c ∉ h
  | [] => .inl (by simp)
  | b :: r => by
    by_cases hb : b = c
    · exact .inr ⟨[], r, by simp [hb], by simp⟩
    · rcases split_at c r with h | ⟨h, t, rfl, hn⟩
      · exact .inl (by simp [h, Ne.symm hb])
      · exact .inr ⟨b :: h, t, rfl, by simp [hn, Ne.symm hb]⟩
end Go.Proofs.Xs
set_option linter.unusedVariables false
set_option linter.unusedSimpArgs false
set_option maxRecDepth 100000
namespace Go.Proofs.Xs
open Go Go.Xl Go.Ab Go.Proofs Go.Proofs.Xr
def nr : Nat → List UInt8 → Int × Bool
  | n, [] => ((n : Int), true)
  | n, c :: r => if 48 ≤ c.toNat ∧ c.toNat ≤ 57 then nr (n * 10 + wd c) r else (0, false)
theorem nr_cons (n : Nat) (c : UInt8) (r : List UInt8) : nr n (c :: r) = if 48 ≤ c.toNat ∧ c.toNat ≤ 57 then nr (n * 10 + wd c) r else (0, false) := by rw [nr]
theorem nr_eq (s : List UInt8) : ∀ n : Nat, ((∀ c ∈ s, isD c) ∧ nr n s = ((vl n s : Int), true)) ∨ (¬ (∀ c ∈ s, isD c) ∧ nr n s = (0, false)) := by
  induction s with
  | nil => intro n; exact .inl ⟨fun c hc => (by cases hc), by simp only [nr, vl]⟩
  | cons c r ih =>
    intro n
    rw [nr_cons, vl_cons]
    by_cases hd : 48 ≤ c.toNat ∧ c.toNat ≤ 57
    · rw [if_pos hd]
      rcases ih (n * 10 + wd c) with ⟨h1, h2⟩ | ⟨h1, h2⟩
      · refine .inl ⟨fun x hx => ?_, h2⟩
        rcases List.mem_cons.1 hx with rfl | hx
        · exact hd
        · exact h1 x hx
      · exact .inr ⟨fun h => h1 fun x hx => h x (List.mem_cons_of_mem _ hx), h2⟩
    · rw [if_neg hd]
      exact .inr ⟨fun h => hd (h c List.mem_cons_self), rfl⟩
theorem digit2 : ∀ c : UInt8, 48 ≤ c.toNat ∧ c.toNat ≤ 57 → decide (c < 48) = false ∧ decide (57 < c) = false ∧ ((c - 48).toNat : Nat) = c.toNat - 48 ∧ c.toNat - 48 ≤ 9 := u8all (by decide +kernel)
theorem nodigit2 : ∀ c : UInt8, ¬ (48 ≤ c.toNat ∧ c.toNat ≤ 57) → (decide (c < 48) = true ∨ decide (c < 48) = false ∧ decide (57 < c) = true) := u8all (by decide +kernel)
theorem num_loop (N : Nat) (s : List UInt8) (hl : s.length ≤ 15) (hN : s.length < N) :
    iter (fun (rec : (Int × Int × Unit) × Unit × Unit × Unit → Option (Int × Bool)) (z : (Int × Int × Unit) × Unit × Unit × Unit) =>
      bif decide (z.fst.snd.fst < (↑s.length : Int)) then
        (at? s z.fst.snd.fst).bind fun (c : UInt8) =>
          bif decide (c < 48) then some (0, false)
          else
            (at? s z.fst.snd.fst).bind fun (c : UInt8) =>
              bif decide (57 < c) then some (0, false)
              else
                (at? s z.fst.snd.fst).bind fun (c : UInt8) =>
                  rec ((IntKind.u64.wrap (IntKind.u64.wrap (z.fst.fst * 10) + (↑(c - 48).toNat : Int)), IntKind.i64.wrap (z.fst.snd.fst + 1), ()), (), (), ())
      else some (z.fst.fst, true)) N ((0, 0, ()), (), (), ()) = some (nr 0 s) := by
  refine (iter_eq (R := Int × Bool) (G := fun z : (Int × Int × Unit) × Unit × Unit × Unit => some (nr z.1.1.toNat (s.drop z.1.2.1.toNat)))
    (fun m z => ∃ n i : Nat, z = (((n : Int), (i : Int), ()), (), (), ()) ∧ n < 10 ^ i ∧ i ≤ s.length ∧ m = s.length - i)
    ?_ N s.length ((0, 0, ()), (), (), ()) ⟨0, 0, rfl, by decide, Nat.zero_le _, rfl⟩ hN).trans rfl
  rintro m z rec ⟨n, i, rfl, hn, hi, rfl⟩ ih
  simp only [Int.toNat_natCast, at?_nat]
  by_cases hil : i < s.length
  · have e1 : decide ((i : Int) < (s.length : Int)) = true := by simpa using hil
    rw [e1, cond_true, List.getElem?_eq_getElem hil, Option.bind_some, List.drop_eq_getElem_cons hil]
    generalize hc : s[i] = c
    rw [nr_cons]
    have hb : 10 ^ i ≤ 10 ^ 14 := Nat.pow_le_pow_right (by decide) (by omega)
    by_cases hd : 48 ≤ c.toNat ∧ c.toNat ≤ 57
    · obtain ⟨d1, d2, d3, d4⟩ := digit2 c hd
      rw [if_pos hd]
      simp only [d1, d2, d3, cond_false, Option.bind_some]
      have hw := wd_eq c
      have f1 : IntKind.u64.wrap ((n : Int) * 10) = (n : Int) * 10 := u64w (by omega) (by omega)
      have f2 : IntKind.u64.wrap ((n : Int) * 10 + ((c.toNat - 48 : Nat) : Int)) = ((n * 10 + wd c : Nat) : Int) := by rw [u64w (by omega) (by omega), hw]; omega
      rw [f1, f2, i64_succ (by omega)]
      have := ih (s.length - (i + 1)) ((((n * 10 + wd c : Nat) : Int), ((i + 1 : Nat) : Int), ()), (), (), ()) (by omega) ⟨_, _, rfl, by rw [Nat.pow_succ]; omega, by omega, rfl⟩
      rw [this]
      simp only [Int.toNat_natCast]
    · rw [if_neg hd]
      rcases nodigit2 c hd with h | ⟨h, h'⟩
      · simp only [h, cond_true]
      · simp only [h, h', cond_true, cond_false, Option.bind_some]
  · have e1 : decide ((i : Int) < (s.length : Int)) = false := by simpa using hil
    have : i = s.length := by omega
    subst this
    rw [e1, cond_false, List.drop_length]
    simp only [nr]
def numOk (s : List UInt8) : Prop := 1 ≤ s.length ∧ s.length ≤ 15 ∧ (1 < s.length → s[0]? ≠ some 48) ∧ ∀ c ∈ s, isD c
theorem number_eq (N : Nat) (s : List UInt8) (hN : 15 < N) : (numOk s ∧ F_epitaphref07_Number N s = some ((vl 0 s : Int), true)) ∨ (¬ numOk s ∧ F_epitaphref07_Number N s = some (0, false)) := by
  unfold F_epitaphref07_Number
  by_cases h1 : 1 ≤ s.length
  case neg =>
    have e : decide ((s.length : Int) < 1) = true := by simp; omega
    rw [e, cond_true]
    exact .inr ⟨fun h => h1 h.1, rfl⟩
  have e1 : decide ((s.length : Int) < 1) = false := by simp; omega
  rw [e1, cond_false]
  by_cases h2 : s.length ≤ 15
  case neg =>
    have e : decide (15 < (s.length : Int)) = true := by simp; omega
    rw [e, cond_true]
    exact .inr ⟨fun h => h2 h.2.1, rfl⟩
  have e2 : decide (15 < (s.length : Int)) = false := by simp; omega
  rw [e2, cond_false]
  have fin : (1 < s.length → s[0]? ≠ some 48) → (numOk s ∧ some (nr 0 s) = some ((vl 0 s : Int), true)) ∨ (¬ numOk s ∧ some (nr 0 s) = some (0, false)) := by
    intro h3
    rcases nr_eq s 0 with ⟨h4, h5⟩ | ⟨h4, h5⟩
    · exact .inl ⟨⟨h1, h2, h3, h4⟩, by rw [h5]⟩
    · exact .inr ⟨fun h => h4 h.2.2.2, by rw [h5]⟩
  by_cases h3 : 1 < s.length
  · have e3 : decide (1 < (s.length : Int)) = true := by simp; omega
    rw [e3, cond_true, List.getElem?_eq_getElem (by omega), Option.bind_some]
    by_cases h4 : s[0] = 48
    · have : (s[0] == 48) = true := by simpa using h4
      rw [this, cond_true]
      exact .inr ⟨fun h => h.2.2.1 h3 (by rw [List.getElem?_eq_getElem (by omega), h4]), rfl⟩
    · have : (s[0] == 48) = false := by simpa using h4
      rw [this, cond_false, num_loop N s h2 (by omega)]
      exact fin fun _ => by rw [List.getElem?_eq_getElem (by omega)]; simpa using h4
  · have e3 : decide (1 < (s.length : Int)) = false := by simp; omega
    rw [e3, cond_false, num_loop N s h2 (by omega)]
    exact fin fun h => absurd h h3
end Go.Proofs.Xs
set_option linter.unusedVariables false
set_option linter.unusedSimpArgs false
set_option maxRecDepth 100000
namespace Go.Proofs.Xs
open Go Go.Xl Go.Ab Go.Proofs Go.Proofs.Xr
theorem refGood_eq (N : Nat) (a n : Nat) : F_epitaphref07_Good N ((a : Int), (n : Int)) = some (decide (1 ≤ a ∧ 1 ≤ n ∧ n < 281474976710656)) := by
  rw [good_some]
  congr 1
  rw [Bool.eq_iff_iff]
  simp
  omega
end Go.Proofs.Xs
set_option linter.unusedVariables false
set_option linter.unusedSimpArgs false
set_option maxRecDepth 100000
namespace Go.Proofs.Xs
open Go Go.Xl Go.Ab Go.Proofs Go.Proofs.Xr
theorem point_unique {c : UInt8} : ∀ {p h q t : List UInt8}, p ++ c :: q = h ++ c :: t → c ∉ p → c ∉ h → p = h ∧ q = t
  | [], [], q, t, e, _, _ => by simpa using e
  | [], d :: h, q, t, e, _, hh => by simp at e hh; exact absurd e.1 hh.1
  | d :: p, [], q, t, e, hp, _ => by simp at e hp; exact absurd e.1.symm hp.1
  | d :: p, d' :: h, q, t, e, hp, hh => by
    simp only [List.cons_append, List.cons.injEq] at e
    obtain ⟨rfl, e⟩ := e
    obtain ⟨h1, h2⟩ := point_unique e (fun x => hp (List.mem_cons_of_mem _ x)) (fun x => hh (List.mem_cons_of_mem _ x))
    exact ⟨by rw [h1], h2⟩
theorem dotGood_eq (N : Nat) (a n : Nat) : F_dot_Good N ((a : Int), (n : Int)) = some (decide (1 ≤ a ∧ 1 ≤ n ∧ n < 281474976710656)) := by
  rw [good_eq, refGood_eq]
end Go.Proofs.Xs
