import Derived.Test.YtncajhpecibcnaaGreatDoorZb
import Derived.Test.YtncajhpecibcnaaGreatDoorZa
import Derived.LaidEqlPtr
import Derived.Lib.BufferWrite
import Derived.Laws.MakeOwn
import Derived.Laws.AppendOwn
import Derived.Lib.ConvBytes
import Derived.MapKept
import Derived.WideKeyRuns
set_option linter.unusedVariables false
set_option linter.unusedSimpArgs false
set_option linter.unnecessarySimpa false
namespace Go.Xl
open Go.Ab
section
variable {P : Program} {R : Type}

-- fieldAddr
noncomputable def xFieldAddr (P : Program) (st : XSt) (s : TypeId) (x : Operand) (n : Nat) (K : Out → Option R) : Option R :=
  match xeval st x, fieldI P s n with
  | some (.nm k (.p off)), some (fo, _, _) => K (quietO st (.nm k (.p (off + fo))) [(x, .nm k (.p off))])
  | some (.el k t i o), some (fo, _, _) => K (quietO st (.el k t i (o + fo)) [(x, .el k t i o)])
  | some (.d (.ep cs)), some (fo, _, _) => cond (Nat.ble fo cs.length) (K (quietO st (.d (.ep (cs.drop fo))) [(x, .d (.ep cs))])) none
  | _, _ => none
theorem xFieldAddr_ok {o : Oper} {st : XSt} {s : TypeId} {x : Operand} {n : Nat} {K : Out → Option R} {r : R} (ho : o.op = .fieldAddr s x n) (h : xFieldAddr P st s x n K = some r) : ∃ out, K out = some r ∧ OpOk P o st out := by
  unfold xFieldAddr at h
  split at h
  · rename_i k off fo sz ag hx hf
    exact ⟨_, h, quietO_ok (sees1v hx) fun X => op_fieldAddr_obj ho (fieldI_I hf)⟩
  · rename_i k t i o' fo sz ag hx hf
    refine ⟨_, h, quietO_ok (sees1v hx) fun X => ?_⟩
    have := op_fieldAddr_obj (P := P) (X := X) (k := k) (off := i * t.size + o') ho (fieldI_I hf)
    rw [Nat.add_assoc] at this
    exact this
  · rename_i cs fo sz ag hx hf
    cases hb : Nat.ble fo cs.length with
    | false => simp [hb] at h
    | true =>
      simp only [hb, cond_true] at h
      refine ⟨_, h, quietO_ok (sees1v hx) fun X => ?_⟩
      have := op_fieldAddr_ep (P := P) (X := X) (cs := dsOf cs) ho (fieldI_I hf) (by rw [dsOf_length]; exact Nat.le_of_ble_eq_true hb)
      rw [← dsOf_drop] at this
      exact this
  · cases h

-- field
noncomputable def xField (P : Program) (st : XSt) (s : TypeId) (x : Operand) (n : Nat) (K : Out → Option R) : Option R :=
  match xeval st x, fieldI P s n with
  | some (.d (.agg cs)), some (fo, sz, true) => cond (Nat.ble (fo + sz) cs.length) (K (quietO st (.d (.agg ((cs.drop fo).take sz))) [(x, .d (.agg cs))])) none
  | some (.d (.agg cs)), some (fo, 1, false) => match cs[fo]? with
    | some c => K (quietO st (.d c) [(x, .d (.agg cs))])
    | none => none
  | _, _ => none
theorem xField_ok {o : Oper} {st : XSt} {s : TypeId} {x : Operand} {n : Nat} {K : Out → Option R} {r : R} (ho : o.op = .field s x n) (h : xField P st s x n K = some r) : ∃ out, K out = some r ∧ OpOk P o st out := by
  unfold xField at h
  split at h
  · rename_i cs fo sz hx hf
    cases hb : Nat.ble (fo + sz) cs.length with
    | false => simp [hb] at h
    | true =>
      simp only [hb, cond_true] at h
      refine ⟨_, h, quietO_ok (sees1v hx) fun X => ?_⟩
      have := op_field_agg (P := P) (X := X) (cs := dsOf cs) ho (fieldI_I hf) (by rw [dsOf_length]; exact Nat.le_of_ble_eq_true hb)
      rw [← dsOf_drop, ← dsOf_take] at this
      exact this
  · rename_i cs fo hx hf
    split at h
    · rename_i c hc
      exact ⟨_, h, quietO_ok (sees1v hx) fun X => op_field_one (cs := dsOf cs) ho (fieldI_I hf) (by rw [dsOf_map, List.getElem?_map, hc]; rfl)⟩
    · cases h
  · cases h
noncomputable def xnum (st : XSt) (x : Operand) : Option Int :=
  match xd st x with
  | some (.i _ n) => some n
  | some (.u8 b) => some (b.toNat : Int)
  | _ => none
theorem xnum_sees {st : XSt} {x : Operand} {n : Int} (h : xnum st x = some n) : ∃ a k, xd st x = some a ∧ a.d = .int k n := by
  unfold xnum at h
  split at h
  · rename_i k m ha
    cases h
    exact ⟨_, k, ha, rfl⟩
  · rename_i b ha
    cases h
    exact ⟨_, .u8, ha, rfl⟩
  · cases h
noncomputable def inB (n : Int) (len : Nat) : Bool := decide (0 ≤ n) && decide (n < (len : Int))
theorem inB_iff {n : Int} {len : Nat} (h : inB n len = true) : 0 ≤ n ∧ n < (len : Int) := by
  simpa [inB] using h

-- indexAddr
noncomputable def xIndexAddr (P : Program) (st : XSt) (t : TypeId) (x y : Operand) (K : Out → Option R) : Option R :=
  match xd st x, xd st y, xnum st y, sliceOfT P t with
  | some (.sl ty l), some b, some n, some (_, sz, _) => cond (Nat.beq ty.size sz) (Option.bind (at? l n) fun e => K (quietO st (.d (.ep (ty.enc e))) [(x, .d (.sl ty l)), (y, .d b)])) none
  | _, _, _, _ => none
theorem sees_os {st : XSt} {x y : Operand} {v : XV} {b : XD} (hx : xeval st x = some v) (hy : xd st y = some b) : ∀ p ∈ imRd [(x, v), (y, .d b)], Sees st.im p.1 p.2 := by
  intro p hp
  simp only [imRd, List.map_cons, List.map_nil, List.mem_cons, List.not_mem_nil, or_false] at hp
  rcases hp with rfl | rfl
  · exact xeval_sees hx
  · exact xd_at hy
noncomputable def xIndexOs (P : Program) (st : XSt) (t : TypeId) (x y : Operand) (k : Nat) (ty : Ty) (a len : Nat) (K : Out → Option R) : Option R :=
  match xd st y, xnum st y, sliceOfT P t with
  | some b, some n, some (_, sz, _) => cond (Nat.beq ty.size sz) (cond (inB n len) (K (quietO st (.el k ty (a + n.toNat) 0) [(x, .os k ty a len), (y, .d b)])) none) none
  | _, _, _ => none
theorem xIndexOs_ok {o : Oper} {st : XSt} {t : TypeId} {x y : Operand} {k : Nat} {ty : Ty} {a len : Nat} {K : Out → Option R} {r : R} (ho : o.op = .indexAddr t x y) (hx : xeval st x = some (.os k ty a len)) (h : xIndexOs P st t x y k ty a len K = some r) : ∃ out, K out = some r ∧ OpOk P o st out := by
  unfold xIndexOs at h
  split at h
  · rename_i b n e0 sz by0 hy hn hsl
    cases hb : Nat.beq ty.size sz with
    | false => simp [hb] at h
    | true =>
    cases hc : inB n len with
    | false => simp [hb, hc] at h
    | true =>
      simp only [hb, hc, cond_true] at h
      have e1 := Nat.eq_of_beq_eq_true hb
      subst e1
      obtain ⟨h0, h1⟩ := inB_iff hc
      obtain ⟨z, j, ha, had⟩ := xnum_sees hn
      rw [hy] at ha
      cases ha
      refine ⟨_, h, quietO_ok (sees_os hx hy) fun X => ?_⟩
      have := op_indexAddr_osl (P := P) (X := X) (x := x) (y := y) (j := j) (i := n) (k := k) (off := a * ty.size) (len := len) ho (sliceOfT_I hsl) h0 h1
      show OpT P o [(x, .nm k (.s (a * ty.size) len ty.size)), (y, .d b.d)] X X [] (.nm k (.p ((a + n.toNat) * ty.size + 0)))
      rw [had]
      rw [Nat.add_zero, Nat.add_mul]
      exact this
  · cases h
theorem xIndexAddr_ok {o : Oper} {st : XSt} {t : TypeId} {x y : Operand} {K : Out → Option R} {r : R} (ho : o.op = .indexAddr t x y) (h : xIndexAddr P st t x y K = some r) : ∃ out, K out = some r ∧ OpOk P o st out := by
  unfold xIndexAddr at h
  split at h
  · rename_i ty l b n e0 sz by0 hx hy hn hsl
    cases hb : Nat.beq ty.size sz with
    | false => simp [hb] at h
    | true =>
      simp only [hb, cond_true] at h
      have e1 := Nat.eq_of_beq_eq_true hb
      obtain ⟨e, he, hK⟩ := Option.bind_eq_some_iff.1 h
      obtain ⟨h0, h1⟩ := at?_some he
      obtain ⟨a, k, ha, had⟩ := xnum_sees hn
      rw [hy] at ha
      cases ha
      refine ⟨_, hK, quietO_ok (sees2 hx hy) fun X => ?_⟩
      have := o_indexAddr (P := P) (X := X) (x := x) (y := y) (k := k) (i := n) (es := l.map ty.ds) (cs := ty.ds e) ho (sliceOfT_I hsl) h0 (by rw [List.getElem?_map, h1]; rfl)
      show OpT P o [(x, .d (.sl ty.size (l.map ty.ds))), (y, .d b.d)] X X [] (.d (.ep (dsOf (ty.enc e))))
      rw [had, Ty.enc_ds, e1]
      exact this
  · cases h
noncomputable def arrOfT (P : Program) (t : TypeId) : Option (TypeId × Nat × Nat) :=
  match P.underlying t with
  | some (.array n e) => match P.info? e with
    | some i => some (e, n, i.size)
    | none => none
  | _ => none
theorem arrOfT_I {t e n sz : Nat} (h : arrOfT P t = some (e, n, sz)) : ArrI P t e n sz := by
  unfold arrOfT at h
  split at h
  · rename_i n' e' ht
    split at h
    · rename_i i hi
      cases h
      exact ⟨ht, i, hi, rfl⟩
    · cases h
  · cases h
noncomputable def xIndexTab (P : Program) (st : XSt) (t : TypeId) (x y : Operand) (ty : Ty) (l : List ty.T) (K : Out → Option R) : Option R :=
  match xd st y, xnum st y, arrOfT P t with
  | some b, some n, some (_, m, sz) => cond (Nat.beq ty.size sz) (cond (Nat.ble l.length m) (Option.bind (at? l n) fun e => K (quietO st (.d (.ep (ty.enc e))) [(x, .d (.pa ty l)), (y, .d b)])) none) none
  | _, _, _ => none
theorem xIndexTab_ok {o : Oper} {st : XSt} {t : TypeId} {x y : Operand} {ty : Ty} {l : List ty.T} {K : Out → Option R} {r : R} (ho : o.op = .indexAddr t x y) (hx : xeval st x = some (.d (.pa ty l))) (h : xIndexTab P st t x y ty l K = some r) : ∃ out, K out = some r ∧ OpOk P o st out := by
  unfold xIndexTab at h
  split at h
  · rename_i b n e0 m sz hy hn har
    cases hb : Nat.beq ty.size sz with
    | false => simp [hb] at h
    | true =>
    cases hc : Nat.ble l.length m with
    | false => simp [hb, hc] at h
    | true =>
      simp only [hb, hc, cond_true] at h
      have e1 := Nat.eq_of_beq_eq_true hb
      subst e1
      obtain ⟨e, he, hK⟩ := Option.bind_eq_some_iff.1 h
      obtain ⟨h0, h1⟩ := at?_some he
      obtain ⟨a, k, ha, had⟩ := xnum_sees hn
      rw [hy] at ha
      cases ha
      refine ⟨_, hK, quietO_ok (sees_os hx hy) fun X => ?_⟩
      have := op_indexAddr_arr (P := P) (X := X) (x := x) (y := y) (k := k) (i := n) (es := l.map ty.ds) (cs := ty.ds e) ho (arrOfT_I har) (by
        intro i cs hc
        rw [List.getElem?_map, Option.map_eq_some_iff] at hc
        obtain ⟨z, _, rfl⟩ := hc
        exact ty.ds_length z) (by simpa using Nat.le_of_ble_eq_true hc) h0 (by rw [List.getElem?_map, h1]; rfl)
      show OpT P o [(x, .d (.ep (l.map ty.ds).flatten)), (y, .d b.d)] X X [] (.d (.ep (dsOf (ty.enc e))))
      rw [had, Ty.enc_ds]
      exact this
  · cases h
noncomputable def xIndexArr (P : Program) (st : XSt) (t : TypeId) (x y : Operand) (k : Nat) (ty : Ty) (K : Out → Option R) : Option R :=
  match xd st y, xnum st y, arrOfT P t with
  | some b, some n, some (_, m, sz) => cond (Nat.beq ty.size sz) (cond (inB n m) (K (quietO st (.el k ty n.toNat 0) [(x, .nm k (.p 0)), (y, .d b)])) none) none
  | _, _, _ => none
theorem xIndexArr_ok {o : Oper} {st : XSt} {t : TypeId} {x y : Operand} {k : Nat} {ty : Ty} {K : Out → Option R} {r : R} (ho : o.op = .indexAddr t x y) (hx : xeval st x = some (.nm k (.p 0))) (h : xIndexArr P st t x y k ty K = some r) : ∃ out, K out = some r ∧ OpOk P o st out := by
  unfold xIndexArr at h
  split at h
  · rename_i b n e0 m sz hy hn har
    cases hb : Nat.beq ty.size sz with
    | false => simp [hb] at h
    | true =>
    cases hc : inB n m with
    | false => simp [hb, hc] at h
    | true =>
      simp only [hb, hc, cond_true] at h
      have e1 := Nat.eq_of_beq_eq_true hb
      subst e1
      obtain ⟨h0, h1⟩ := inB_iff hc
      obtain ⟨z, j, ha, had⟩ := xnum_sees hn
      rw [hy] at ha
      cases ha
      refine ⟨_, h, quietO_ok (sees_os hx hy) fun X => ?_⟩
      have := op_indexAddr_arrp (P := P) (X := X) (x := x) (y := y) (k := j) (i := n) (j := k) ho (arrOfT_I har) h0 h1
      show OpT P o [(x, .nm k (.p 0)), (y, .d b.d)] X X [] (.nm k (.p (n.toNat * ty.size + 0)))
      rw [had]
      rw [Nat.add_zero]
      exact this
  · cases h
noncomputable def xIndexAny (P : Program) (st : XSt) (t : TypeId) (x y : Operand) (K : Out → Option R) : Option R :=
  match xeval st x with
  | some (.os k ty a len) => xIndexOs P st t x y k ty a len K
  | some (.d (.pa ty l)) => xIndexTab P st t x y ty l K
  | some (.nm k (.p 0)) => match lk k st.objs with
    | some (.arr ty _) => xIndexArr P st t x y k ty K
    | _ => xIndexAddr P st t x y K
  | _ => xIndexAddr P st t x y K
theorem xIndexAny_ok {o : Oper} {st : XSt} {t : TypeId} {x y : Operand} {K : Out → Option R} {r : R} (ho : o.op = .indexAddr t x y) (h : xIndexAny P st t x y K = some r) : ∃ out, K out = some r ∧ OpOk P o st out := by
  unfold xIndexAny at h
  split at h
  · rename_i k ty a len hx; exact xIndexOs_ok ho hx h
  · rename_i ty l hx; exact xIndexTab_ok ho hx h
  · rename_i k hx
    split at h
    · exact xIndexArr_ok ho hx h
    · exact xIndexAddr_ok ho h
  · exact xIndexAddr_ok ho h
theorem op_index_ag {o : Oper} {X : Store} {t e : TypeId} {n : Nat} {x y : Operand} {k : IntKind} {i : Int} {ds : List D} {c : D} (ho : o.op = .index t x y) (ht : P.underlying t = some (.array n e)) (he : TyI P e false 1) (h0 : 0 ≤ i) (hn : i.toNat < n) (hc : ds[i.toNat]? = some c) :
    OpT P o [(x, .d (.agg ds)), (y, .d (.int k i))] X X [] (.d c) :=
  .quiet fun _ _ g w ac hr hrd => by
    have h1 := rd0 hrd
    have h2 := (rd1 hrd).sc_inv
    simp only at h1 h2
    generalize hv : ac.eval x = v at h1
    cases h1 with
    | d _ _ h1 =>
      cases h1 with
      | agg _ vs hl hcs =>
        obtain ⟨u, hu⟩ : ∃ u, vs[i.toNat]? = some u := ⟨_, Array.getElem?_eq_getElem (by have := (List.getElem?_eq_some_iff.1 hc).1; omega)⟩
        refine ⟨u, ?_, .d _ _ (hcs _ _ _ hc hu)⟩
        obtain ⟨⟨d, hd, hd2⟩, ii, hi, hsz⟩ := he
        have hi' : i < (n : Int) := by omega
        have hp : (part e vs i.toNat).run P w = .ok u w := by
          have := run_part (P := P) (t := e) (agg := false) (sz := 1) ⟨⟨d, hd, hd2⟩, ii, hi, hsz⟩ vs i.toNat w (fun _ => ⟨by have := (Array.getElem?_eq_some_iff.1 hu).1; exact this, by omega⟩)
          rw [this]
          obtain ⟨hlt, rfl⟩ := Array.getElem?_eq_some_iff.1 hu
          congr 1
          show (vs.extract i.toNat (i.toNat + 1)).getD 0 undef = _
          have h5 : 0 < (vs.extract i.toNat (i.toNat + 1)).size := by simp; omega
          rw [Array.getD, dif_pos h5]
          simp
        simp only [execOp, ho, hv, h2]
        simp only [Instr.index, asIntOf]
        simp [run_underlying ht, h0, hi', sizeOf, typeInfo, hi, hsz, hp]

-- index of a text
noncomputable def xIndex (P : Program) (st : XSt) (t : TypeId) (x y : Operand) (K : Out → Option R) : Option R :=
  match xd st x, xd st y, xnum st y, P.underlying t with
  | some (.s l), some b, some n, some .string => Option.bind (at? l n) fun c => K (quietO st (.d (.u8 c)) [(x, .d (.s l)), (y, .d b)])
  | _, _, _, _ => none
theorem xIndex_ok {o : Oper} {st : XSt} {t : TypeId} {x y : Operand} {K : Out → Option R} {r : R} (ho : o.op = .index t x y) (h : xIndex P st t x y K = some r) : ∃ out, K out = some r ∧ OpOk P o st out := by
  unfold xIndex at h
  split at h
  · rename_i l b n hx hy hn ht
    obtain ⟨c, hc, hK⟩ := Option.bind_eq_some_iff.1 h
    obtain ⟨h0, h1⟩ := at?_some hc
    obtain ⟨a, k, ha, had⟩ := xnum_sees hn
    rw [hy] at ha
    cases ha
    refine ⟨_, hK, quietO_ok (sees2 hx hy) fun X => ?_⟩
    have hlt : n.toNat < l.length := (List.getElem?_eq_some_iff.1 h1).1
    have := o_index_bs (P := P) (X := X) (x := x) (y := y) (k := k) (i := n) (l := l) ho ht h0 (by omega)
    show OpT P o [(x, .d (.bs l)), (y, .d b.d)] X X [] (.d (.sc (.int .u8 (c.toNat : Int))))
    rw [had]
    rw [List.getD_eq_getElem?_getD, h1] at this
    exact this
  · cases h

-- index of a text, or an array
noncomputable def xIndexS (P : Program) (st : XSt) (t : TypeId) (x y : Operand) (K : Out → Option R) : Option R :=
  match xeval st x with
  | some (.d (.ag ty l)) => match xd st y, xnum st y, P.underlying t with
    | some b, some n, some (.array m e) => match tyI P e with
      | some (agg, sz) => cond agg none (cond (Nat.beq sz 1) (cond ty.agg none (cond (Nat.beq l.length m) (Option.bind (at? l n) fun z => K (quietO st (.d (ty.xv z)) [(x, .d (.ag ty l)), (y, .d b)])) none)) none)
      | none => none
    | _, _, _ => none
  | _ => xIndex P st t x y K
theorem flat_one (ty : Ty) (h : ty.agg = false) : ∀ (l : List ty.T), (l.map ty.ds).flatten = l.map ty.dv
  | [] => rfl
  | x :: r => by rw [List.map_cons, List.flatten_cons, flat_one ty h r, ty.dv_one x h]; rfl
theorem xIndexS_ok {o : Oper} {st : XSt} {t : TypeId} {x y : Operand} {K : Out → Option R} {r : R} (ho : o.op = .index t x y) (h : xIndexS P st t x y K = some r) : ∃ out, K out = some r ∧ OpOk P o st out := by
  unfold xIndexS at h
  split at h
  · rename_i ty l hx
    split at h
    · rename_i b n m e hy hn ht
      split at h
      · rename_i agg sz he
        cases agg with
        | true => simp at h
        | false =>
        cases h1 : Nat.beq sz 1 with
        | false => simp [h1] at h
        | true =>
        cases h2 : ty.agg with
        | true => simp [h1, h2] at h
        | false =>
        cases h3 : Nat.beq l.length m with
        | false => simp [h1, h2, h3] at h
        | true =>
          simp only [h1, h2, h3, cond_true, cond_false] at h
          obtain ⟨z, hz, hK⟩ := Option.bind_eq_some_iff.1 h
          obtain ⟨h0, h4⟩ := at?_some hz
          obtain ⟨a, k, ha, had⟩ := xnum_sees hn
          rw [hy] at ha
          cases ha
          have e1 := Nat.eq_of_beq_eq_true h1
          have e3 := Nat.eq_of_beq_eq_true h3
          subst e1
          have hxd : xd st x = some (.ag ty l) := by unfold xd; rw [hx]; rfl
          refine ⟨_, hK, quietO_ok (sees2 hxd hy) fun X => ?_⟩
          have hlt : n.toNat < l.length := (List.getElem?_eq_some_iff.1 h4).1
          have := op_index_ag (P := P) (X := X) (x := x) (y := y) (k := k) (i := n) (ds := l.map ty.dv) (c := ty.dv z) ho ht (tyI_I he) h0 (by omega) (by rw [List.getElem?_map, h4]; rfl)
          rw [← flat_one ty h2, ← had] at this
          exact this
      · cases h
    · cases h
  · exact xIndex_ok ho h
noncomputable def cutOk (lo hi : Int) (len : Nat) : Bool := decide (0 ≤ lo) && decide (lo ≤ hi) && decide (hi ≤ (len : Int))
theorem cutOk_iff {lo hi : Int} {len : Nat} (h : cutOk lo hi len = true) : 0 ≤ lo ∧ lo ≤ hi ∧ hi ≤ (len : Int) := by
  simp only [cutOk, Bool.and_eq_true, decide_eq_true_eq] at h
  exact ⟨h.1.1, h.1.2, h.2⟩
noncomputable def cutL {α : Type} (lo hi : Int) (l : List α) : List α := (l.drop lo.toNat).take (hi.toNat - lo.toNat)
theorem op_slice_sl {o : Oper} {X : Store} {t e : TypeId} {sz : Nat} {x : Operand} {lo hi : Option Operand} {es : List (List D)} {l h : Int} {rd : List (Operand × AV)} {i : TypeInfo} (ho : o.op = .slice t x lo hi none) (ht : P.underlying t = some (.slice e))
    (hi' : P.info? e = some i) (hsz : i.size = sz) (h0 : 0 ≤ l) (h1 : l ≤ h) (h2 : h ≤ es.length)
    (hlo : match lo with | some y => ∃ k, (y, AV.d (.int k l)) ∈ rd | none => l = 0) (hhi : match hi with | some y => ∃ k, (y, AV.d (.int k h)) ∈ rd | none => h = es.length) :
    OpT P o ((x, .d (.sl sz es)) :: rd) X X [] (.d (.sl sz (cutL l h es))) :=
  .quiet fun _ _ g w ac _ hrd => by
    have h3 := hrd (x, .d (.sl sz es)) List.mem_cons_self
    simp only at h3
    generalize hx : ac.eval x = v at h3
    have key : ∃ a len cap, v = .slice a len cap ∧ len = es.length ∧ len ≤ cap ∧ RD g.γ w (.sl sz (cutL l h es)) (.slice (if cap = l.toNat then a else a.map (·.add (l.toNat * sz))) (h.toNat - l.toNat) (cap - l.toNat)) := by
      cases h3 with
      | d _ _ h3 =>
        cases h3 with
        | nil _ a cap hn =>
          have hl : l = 0 := by simp at h2; omega
          have hh : h = 0 := by simp at h2; omega
          subst hl; subst hh
          refine ⟨a, 0, cap, rfl, rfl, Nat.zero_le _, ?_⟩
          have : cutL 0 0 ([] : List (List D)) = [] := rfl
          rw [this]
          simp only [Int.toNat_zero, Nat.sub_zero, Nat.zero_mul]
          cases a with
          | none => simp only [Option.map_none, ite_self]; rw [hn rfl]; exact .nil sz none 0 fun _ => rfl
          | some a => simp only [Option.map_some]; split <;> exact .nil sz _ cap (by simp)
        | sl _ _ b off len cap hlen hγ hcap hszs hc =>
          refine ⟨_, len, cap, rfl, hlen, by omega, ?_⟩
          have hln : (cutL l h es).length = h.toNat - l.toNat := by simp [cutL]; omega
          by_cases hz : h.toNat - l.toNat = 0
          · have : cutL l h es = [] := List.length_eq_zero_iff.1 (hln.trans hz)
            rw [this, hz]
            split
            · exact .nil sz _ _ (by simp)
            · exact .nil sz _ _ (by simp)
          · have hne : ¬ cap = l.toNat := by omega
            rw [if_neg hne]
            simp only [Option.map_some, addr_add]
            refine .sl sz _ b (off + l.toNat * sz) _ _ (by rw [hln]) ?_ (by rw [hln]; omega) ?_ ?_
            · have : l.toNat + (cutL l h es).length ≤ es.length := by rw [hln]; omega
              have h6 := Nat.mul_le_mul_right sz this
              rw [Nat.add_mul] at h6
              omega
            · intro i cs hcs
              simp only [cutL, List.getElem?_take, List.getElem?_drop] at hcs
              split at hcs
              · exact hszs _ cs hcs
              · cases hcs
            · intro i cs j c u hcs hj hu
              simp only [cutL, List.getElem?_take, List.getElem?_drop] at hcs
              split at hcs
              · refine hc (l.toNat + i) cs j c u hcs hj ?_
                rw [show off + (l.toNat + i) * sz + j = off + l.toNat * sz + i * sz + j by rw [Nat.add_mul]; omega]
                exact hu
              · cases hcs
    obtain ⟨a, len, cap, rfl, hlen, hcap, hrd'⟩ := key
    refine ⟨_, ?_, .d _ _ hrd'⟩
    have hsa : ∀ lo hi, (Instr.sliceAt t (.slice a len cap) lo hi none).run P w = (Instr.slice t (.slice a len cap) lo hi none).run P w := by
      intro lo hi
      simp [Instr.sliceAt, run_underlying ht]
    simp only [execOp, ho, hx]
    have eh : ∀ y, hi = some y → ∃ k, ac.eval y = .int k h := by
      intro y hy
      subst hy
      obtain ⟨k, hk⟩ := hhi
      exact ⟨k, (hrd _ (List.mem_cons_of_mem _ hk)).sc_inv⟩
    have el : ∀ y, lo = some y → ∃ k, ac.eval y = .int k l := by
      intro y hy
      subst hy
      obtain ⟨k, hk⟩ := hlo
      exact ⟨k, (hrd _ (List.mem_cons_of_mem _ hk)).sc_inv⟩
    have bh : ∀ (y : Nat) (c : BoundsCode) (k : IntKind), h ≤ (y : Int) → (Instr.sliceBound (.int k h) y c).run P w = .ok h.toNat w := by
      intro y c k hy
      simp [Instr.sliceBound, asIntOf, show 0 ≤ h by omega, hy]
    have bl : ∀ (y : Nat) (c : BoundsCode) (k : IntKind), l ≤ (y : Int) → (Instr.sliceBound (.int k l) y c).run P w = .ok l.toNat w := by
      intro y c k hy
      simp [Instr.sliceBound, asIntOf, h0, hy]
    have hsize : (sizeOf e).run P w = .ok sz w := by rw [Ab.run_sizeOf hi', hsz]
    cases hi with
    | none =>
      simp only at hhi
      subst hhi
      have e5 : ((es.length : Nat) : Int).toNat = len := by omega
      cases lo with
      | none =>
        simp only at hlo
        subst hlo
        simp [hsa, Instr.slice, Instr.sliceBounds, run_underlying ht, hsize, ← hlen]
      | some y =>
        obtain ⟨k, hk⟩ := el y rfl
        have b1 := bl len .sliceB k (by omega)
        simp [hsa, Instr.slice, Instr.sliceBounds, run_underlying ht, hsize, hk, b1, ← hlen]
    | some y' =>
      obtain ⟨k', hk'⟩ := eh y' rfl
      have b2 := bh cap .sliceAcap k' (by omega)
      cases lo with
      | none =>
        simp only at hlo
        subst hlo
        simp [hsa, Instr.slice, Instr.sliceBounds, run_underlying ht, hsize, hk', b2]
      | some y =>
        obtain ⟨k, hk⟩ := el y rfl
        have b1 := bl h.toNat .sliceB k (by omega)
        simp [hsa, Instr.slice, Instr.sliceBounds, run_underlying ht, hsize, hk, hk', b1, b2]
end
end Go.Xl
set_option linter.unusedVariables false
set_option linter.unusedSimpArgs false
set_option linter.unnecessarySimpa false
namespace Go.Xl
open Go.Ab
section
variable {P : Program} {R : Type}
noncomputable def cutBound (st : XSt) (d : Int) : Option Operand → Option (Int × List (Operand × XV))
  | none => some (d, [])
  | some y => match xd st y, xnum st y with
    | some b, some n => some (n, [(y, .d b)])
    | _, _ => none
theorem cutBound_sees {st : XSt} {d n : Int} {y : Option Operand} {rd : List (Operand × XV)} (h : cutBound st d y = some (n, rd)) : (∀ p ∈ imRd rd, Sees st.im p.1 p.2) ∧
    (match y with | some y => ∃ k, (y, AV.d (.int k n)) ∈ imRd rd | none => n = d) ∧ (match y with | some y => ∃ k, imRd rd = [(y, AV.d (.int k n))] | none => rd = []) := by
  cases y with
  | none => cases h; exact ⟨by simp [imRd], rfl, rfl⟩
  | some y =>
    unfold cutBound at h
    simp only at h
    split at h
    · rename_i b m hb hm
      cases h
      obtain ⟨a, k, ha, had⟩ := xnum_sees hm
      rw [hb] at ha
      cases ha
      exact ⟨sees1 hb, ⟨k, by simp [imRd, XV.a, had]⟩, ⟨k, by simp [imRd, XV.a, had]⟩⟩
    · cases h
noncomputable def cutX {α : Type} (lo hi : Option Operand) (l h : Int) (xs : List α) : List α :=
  match lo, hi with
  | none, none => xs
  | some _, none => xs.drop l.toNat
  | none, some _ => xs.take h.toNat
  | some _, some _ => cutL l h xs
theorem cutX_eq {α : Type} {lo hi : Option Operand} {l h : Int} {xs : List α} (hlo : lo = none → l = 0) (hhi : hi = none → h = xs.length) (h0 : 0 ≤ l) (h2 : h ≤ xs.length) : cutX lo hi l h xs = cutL l h xs := by
  cases lo with
  | none =>
    have := hlo rfl
    subst this
    cases hi with
    | none => have := hhi rfl; subst this; simp [cutX, cutL]
    | some y => simp [cutX, cutL]
  | some x =>
    cases hi with
    | none => have := hhi rfl; subst this; simp only [cutX, cutL, Int.toNat_natCast]; rw [List.take_of_length_le]; simp
    | some y => rfl
noncomputable def xSlice (P : Program) (st : XSt) (t : TypeId) (x : Operand) (lo hi mx : Option Operand) (K : Out → Option R) : Option R :=
  match mx, xd st x with
  | none, some (.s s) =>
    match P.underlying t, cutBound st 0 lo, cutBound st s.length hi with
    | some .string, some (l, r1), some (h, r2) => cond (cutOk l h s.length) (K (quietO st (.d (.s (cutX lo hi l h s))) ((x, .d (.s s)) :: (r1 ++ r2)))) none
    | _, _, _ => none
  | none, some (.sl ty s) =>
    match sliceOfT P t, cutBound st 0 lo, cutBound st s.length hi with
    | some (_, sz, _), some (l, r1), some (h, r2) => cond (Nat.beq ty.size sz) (cond (cutOk l h s.length) (K (quietO st (.d (.sl ty (cutX lo hi l h s))) ((x, .d (.sl ty s)) :: (r1 ++ r2)))) none) none
    | _, _, _ => none
  | _, _ => none
theorem imRd_append (a b : List (Operand × XV)) : imRd (a ++ b) = imRd a ++ imRd b := by simp [imRd]
theorem sees_cut {st : XSt} {x : Operand} {a : XD} {r1 r2 : List (Operand × XV)} (hx : xd st x = some a) (h1 : ∀ p ∈ imRd r1, Sees st.im p.1 p.2) (h2 : ∀ p ∈ imRd r2, Sees st.im p.1 p.2) :
    ∀ p ∈ imRd ((x, .d a) :: (r1 ++ r2)), Sees st.im p.1 p.2 := by
  intro p hp
  simp only [imRd, List.map_cons, List.map_append, List.mem_cons, List.mem_append] at hp
  rcases hp with rfl | hp | hp
  · exact xd_at hx
  · exact h1 p hp
  · exact h2 p hp
theorem op_slice_bs_all {o : Oper} {X : Store} {t : TypeId} {x : Operand} {s : List UInt8} (ho : o.op = .slice t x none none none) (ht : P.underlying t = some .string) :
    OpT P o [(x, .d (.bs s))] X X [] (.d (.bs s)) :=
  .quiet fun _ _ g w ac _ hrd => by
    have e1 := (rd0 hrd).sc_inv
    simp only at e1
    refine ⟨_, ?_, .ofSc _ _ _⟩
    simp only [execOp, ho, Option.map_none, e1]
    simp [run_sliceAt_string w t _ _ _ _ ht, Instr.slice, run_underlying ht, Instr.sliceBounds]
theorem xSlice_ok {o : Oper} {st : XSt} {t : TypeId} {x : Operand} {lo hi mx : Option Operand} {K : Out → Option R} {r : R} (ho : o.op = .slice t x lo hi mx) (h : xSlice P st t x lo hi mx K = some r) : ∃ out, K out = some r ∧ OpOk P o st out := by
  unfold xSlice at h
  split at h
  · rename_i s hx
    split at h
    · rename_i l r1 hh r2 ht hlo hhi
      cases hc : cutOk l hh s.length with
      | false => simp [hc] at h
      | true =>
        simp only [hc, cond_true] at h
        obtain ⟨c0, c1, c2⟩ := cutOk_iff hc
        obtain ⟨s1, m1, f1⟩ := cutBound_sees hlo
        obtain ⟨s2, m2, f2⟩ := cutBound_sees hhi
        refine ⟨_, h, quietO_ok (sees_cut hx s1 s2) fun X => ?_⟩
        cases lo with
        | none =>
          simp only at m1 f1
          subst m1; subst f1
          cases hi with
          | none =>
            simp only at m2 f2
            subst m2; subst f2
            exact op_slice_bs_all ho ht
          | some y =>
            obtain ⟨k, hk⟩ := f2
            have := o_slice_bs_hi (P := P) (X := X) (k := k) ho ht c1 c2
            simp only [List.nil_append]
            show OpT P o ((x, .d (.bs s)) :: imRd r2) X X [] _
            rw [hk]
            exact this
        | some y0 =>
          obtain ⟨k0, hk0⟩ := f1
          cases hi with
          | none =>
            simp only at m2 f2
            subst m2; subst f2
            have := o_slice_bs_lo (P := P) (X := X) (k := k0) ho ht c0 c1
            simp only [List.append_nil]
            show OpT P o ((x, .d (.bs s)) :: imRd r1) X X [] _
            rw [hk0]
            exact this
          | some y =>
            obtain ⟨k, hk⟩ := f2
            have := o_slice_bs (P := P) (X := X) (k := k0) (k' := k) ho ht c0 c1 c2
            show OpT P o ((x, .d (.bs s)) :: imRd (r1 ++ r2)) X X [] _
            rw [imRd_append, hk0, hk]
            exact this
    · cases h
  · rename_i ty s hx
    split at h
    · rename_i e sz by0 l r1 hh r2 ht hlo hhi
      cases hb : Nat.beq ty.size sz with
      | false => simp [hb] at h
      | true =>
      cases hc : cutOk l hh s.length with
      | false => simp [hb, hc] at h
      | true =>
        simp only [hb, hc, cond_true] at h
        have e1 := Nat.eq_of_beq_eq_true hb
        obtain ⟨c0, c1, c2⟩ := cutOk_iff hc
        obtain ⟨s1, m1, f1⟩ := cutBound_sees hlo
        obtain ⟨s2, m2, f2⟩ := cutBound_sees hhi
        obtain ⟨hu, i, z, hi', hs', hb', hz', hzs'⟩ := sliceOfT_I ht
        refine ⟨_, h, quietO_ok (sees_cut hx s1 s2) fun X => ?_⟩
        have := op_slice_sl (P := P) (X := X) (es := s.map ty.ds) (rd := imRd (r1 ++ r2)) (l := l) (h := hh) ho hu hi' hs' c0 c1 (by simpa using c2) (by
          cases lo with
          | none => exact m1
          | some y => obtain ⟨k, hk⟩ := m1; exact ⟨k, by rw [imRd_append]; exact List.mem_append_left _ hk⟩) (by
          cases hi with
          | none => simpa using m2
          | some y => obtain ⟨k, hk⟩ := m2; exact ⟨k, by rw [imRd_append]; exact List.mem_append_right _ hk⟩)
        show OpT P o ((x, .d (.sl ty.size (s.map ty.ds))) :: imRd (r1 ++ r2)) X X [] (.d (.sl ty.size ((cutX lo hi l hh s).map ty.ds)))
        rw [cutX_eq (by intro hl; subst hl; exact m1) (by intro hl; subst hl; exact m2) c0 c2]
        rw [e1]
        have e2 : (cutL l hh s).map ty.ds = cutL l hh (s.map ty.ds) := by simp [cutL, List.map_take, List.map_drop]
        rw [e2]
        exact this
    · cases h
  · cases h

-- len
noncomputable def xLen (P : Program) (st : XSt) (ts : Array TypeId) (x : Operand) (K : Out → Option R) : Option R :=
  match ts[0]? with
  | some t =>
    match xd st x, P.underlying t with
    | some (.s l), some .string => K (quietO st (.d (.i .i64 (l.length : Int))) [(x, .d (.s l))])
    | some (.sl ty l), some (.slice _) => K (quietO st (.d (.i .i64 (l.length : Int))) [(x, .d (.sl ty l))])
    | some (.v (.slice none 0 0)), some (.slice _) => match sliceOfT P t with
      | some _ => K (quietO st (.d (.i .i64 0)) [(x, .d (.v (.slice none 0 0)))])
      | none => none
    | _, _ => none
  | none => none
theorem xLen_ok {o : Oper} {st : XSt} {ts : Array TypeId} {x : Operand} {K : Out → Option R} {r : R} (ho : o.op = .call { callee := .builtin .len, args := #[x], argTypes := ts }) (h : xLen P st ts x K = some r) : ∃ out, K out = some r ∧ OpOk P o st out := by
  unfold xLen at h
  split at h
  · rename_i t ht0
    split at h
    · rename_i l hx ht
      exact ⟨_, h, quietO_ok (sees1 hx) fun X => o_len_bs ho ht0 ht⟩
    · rename_i ty l e hx ht
      refine ⟨_, h, quietO_ok (sees1 hx) fun X => ?_⟩
      have := op_len_slice (P := P) (X := X) (x := x) (sz := ty.size) (es := l.map ty.ds) ho ht0 ht
      rw [List.length_map] at this
      exact this
    · rename_i e hx ht
      split at h
      · rename_i q hq
        obtain ⟨q1, q2, q3⟩ := q
        exact ⟨_, h, quietO_ok (sees1 hx) fun X => op_len_nil ho ht0 (sliceOfT_I hq)⟩
      · cases h
    · cases h
  · cases h

-- min, max
noncomputable def xMinMax (st : XSt) (isMin : Bool) (x y : Operand) (K : Out → Option R) : Option R :=
  match xd st x, xd st y with
  | some (.i k a), some (.i k' b) => cond (kindB k k') (K (quietO st (.d (.i k (cond isMin (if b < a then b else a) (if b > a then b else a)))) [(x, .d (.i k a)), (y, .d (.i k' b))])) none
  | _, _ => none
theorem xMin_ok {o : Oper} {st : XSt} {ts : Array TypeId} {x y : Operand} {K : Out → Option R} {r : R} (ho : o.op = .call { callee := .builtin .min, args := #[x, y], argTypes := ts }) (h : xMinMax st true x y K = some r) : ∃ out, K out = some r ∧ OpOk P o st out := by
  unfold xMinMax at h
  split at h
  · rename_i k a k' b hx hy
    cases hk : kindB k k' with
    | false => simp [hk] at h
    | true =>
      simp only [hk, cond_true] at h
      have := kindB_eq hk
      subst this
      exact ⟨_, h, quietO_ok (sees2 hx hy) fun X => op_min ho⟩
  · cases h
theorem xMax_ok {o : Oper} {st : XSt} {ts : Array TypeId} {x y : Operand} {K : Out → Option R} {r : R} (ho : o.op = .call { callee := .builtin .max, args := #[x, y], argTypes := ts }) (h : xMinMax st false x y K = some r) : ∃ out, K out = some r ∧ OpOk P o st out := by
  unfold xMinMax at h
  split at h
  · rename_i k a k' b hx hy
    cases hk : kindB k k' with
    | false => simp [hk] at h
    | true =>
      simp only [hk, cond_true, cond_false] at h
      have := kindB_eq hk
      subst this
      exact ⟨_, h, quietO_ok (sees2 hx hy) fun X => op_max ho⟩
  · cases h
noncomputable def newLab (o : Oper) : Option Nat :=
  match o.dst with
  | some d => some (100000 + d)
  | none => none
noncomputable def fitsB (n bytes : Nat) : Bool := decide (n * bytes ≤ 140737488355328) && decide (n ≤ 4611686018427387904)
theorem fitsB_iff {n bytes : Nat} (h : fitsB n bytes = true) : n * bytes ≤ 140737488355328 ∧ n ≤ 4611686018427387904 := by
  simpa [fitsB] using h
noncomputable def without (n : Nat) (l : List Nat) : List Nat := l.filter (· != n)
noncomputable def freshL (m : Nat) (live : List Nat) (st : XSt) : Bool := cond (inl m live) false (objsFreeB [m] st)
theorem freshL_ok {m : Nat} {live : List Nat} {st : XSt} (h : freshL m live st = true) : m ∉ live ∧ objsFree [m] st.X = true := by
  unfold freshL at h
  cases hm : inl m live with
  | true => simp [hm] at h
  | false =>
    simp only [hm, cond_false] at h
    refine ⟨fun hh => ?_, objsFreeB_ok h⟩
    rw [(inl_eq m live).2 hh] at hm
    cases hm
noncomputable def tyOpt (ty : Option TypeId) (e : TypeId) : Bool :=
  match ty with
  | none => true
  | some t => Nat.beq t e
theorem tyOpt_ok {ty : Option TypeId} {e : TypeId} (h : tyOpt ty e = true) : (ty == none || ty == some e) = true := by
  cases ty with
  | none => rfl
  | some t => simp only [tyOpt] at h; rw [Nat.eq_of_beq_eq_true h]; simp

-- append
noncomputable def xAppend (P : Program) (st : XSt) (o : Oper) (ts : Array TypeId) (s x : Operand) (K : Out → Option R) : Option R :=
  match ts[0]?, ts[1]?, newLab o with
  | some t, some u, some m =>
    match sliceOfT P t, sliceOfT P u, xeval st s, xd st x with
    | some (e, sz, bytes), some _, some (.tip n ty l oty), some (.sl ty' l') =>
      if h : ty'.eqb ty = true then
        cond (Nat.beq ty.size sz) (cond (inl n st.live) (cond (freshL m (without n st.live) st) (cond (tyOpt oty e)
          (cond (fitsB (l.length + l'.length) bytes) (K ⟨.lab, .tip m ty (l ++ (Ty.eqb_eq h ▸ l' : List ty.T)) oty, [(s, .tip n ty l oty), (x, .d (.sl ty' l'))], st.objs, m :: without n st.live, [m], []⟩) none) none) none) none) none
      else none
    | some (e, sz, bytes), some _, some (.d (.v (.slice none 0 0))), some (.sl ty l) =>
      cond (Nat.beq ty.size sz) (cond (freshL m st.live st)
          (cond (fitsB l.length bytes) (K ⟨.lab, .tip m ty l (some e), [(s, .d (.v (.slice none 0 0))), (x, .d (.sl ty l))], st.objs, m :: st.live, [m], []⟩) none) none) none
    | _, _, _, _ => none
  | _, _, _ => none
theorem xAppend_ok {o : Oper} {st : XSt} {ts : Array TypeId} {s x : Operand} {K : Out → Option R} {r : R} (ho : o.op = .call { callee := .builtin .append, args := #[s, x], argTypes := ts }) (h : xAppend P st o ts s x K = some r) : ∃ out, K out = some r ∧ OpOk P o st out := by
  unfold xAppend at h
  split at h
  · rename_i t u m ht hu hm
    split at h
    · rename_i e sz bytes q n ty l oty ty' l' hsl hsu hs hx
      split at h
      · rename_i he
        have e0 := Ty.eqb_eq he
        subst e0
        cases h1 : Nat.beq ty'.size sz with
        | false => simp [h1] at h
        | true =>
        cases h2 : inl n st.live with
        | false => simp [h1, h2] at h
        | true =>
        cases h3 : freshL m (without n st.live) st with
        | false => simp [h1, h2, h3] at h
        | true =>
        cases h4 : tyOpt oty e with
        | false => simp [h1, h2, h3, h4] at h
        | true =>
        cases h5 : fitsB (l.length + l'.length) bytes with
        | false => simp [h1, h2, h3, h4, h5] at h
        | true =>
          simp only [h1, h2, h3, h4, h5, cond_true] at h
          have e1 := Nat.eq_of_beq_eq_true h1
          subst e1
          obtain ⟨f1, f2⟩ := freshL_ok h3
          obtain ⟨b1, b2⟩ := fitsB_iff h5
          obtain ⟨q1, q2, q3⟩ := q
          refine ⟨_, h, ⟨?_, ?_, fun _ _ _ h => h⟩⟩
          · intro p hp
            simp only [imRd, List.map_cons, List.map_nil, List.mem_cons, List.not_mem_nil, or_false] at hp
            rcases hp with rfl | rfl
            · exact xeval_sees hs
            · exact xd_at hx
          · have := o_append (P := P) (X := st.X) (s := s) (x := x) (n := n) (es := l.map ty'.ds) (fs := l'.map ty'.ds) (ty := oty) m ho ht hu (sliceOfT_I hsu) (sliceOfT_I hsl) ((inl_eq _ _).1 h2) f1 f2
              (by intro cs hcs c hc; obtain ⟨y, _, rfl⟩ := List.mem_map.1 hcs; exact ty'.ds_one y c hc) (by simpa using b1) (by simpa using b2) (tyOpt_ok h4)
            rw [← List.map_append] at this
            exact ⟨rfl, this⟩
      · cases h
    · rename_i e sz bytes q ty l hsl hsu hs hx
      cases h1 : Nat.beq ty.size sz with
      | false => simp [h1] at h
      | true =>
      cases h3 : freshL m st.live st with
      | false => simp [h1, h3] at h
      | true =>
      cases h5 : fitsB l.length bytes with
      | false => simp [h1, h3, h5] at h
      | true =>
        simp only [h1, h3, h5, cond_true] at h
        have e1 := Nat.eq_of_beq_eq_true h1
        subst e1
        obtain ⟨f1, f2⟩ := freshL_ok h3
        obtain ⟨b1, b2⟩ := fitsB_iff h5
        obtain ⟨q1, q2, q3⟩ := q
        refine ⟨_, h, ⟨?_, ?_, fun _ _ _ h => h⟩⟩
        · intro p hp
          simp only [imRd, List.map_cons, List.map_nil, List.mem_cons, List.not_mem_nil, or_false] at hp
          rcases hp with rfl | rfl
          · exact xeval_sees hs
          · exact xd_at hx
        · have := o_append_nil (P := P) (X := st.X) (s := s) (x := x) (fs := l.map ty.ds) (ty := some e) m ho ht hu (sliceOfT_I hsu) (sliceOfT_I hsl) f1 f2
              (by intro cs hcs c hc; obtain ⟨y, _, rfl⟩ := List.mem_map.1 hcs; exact ty.ds_one y c hc) (by simpa using b1) (by simpa using b2) (by simp)
          exact ⟨rfl, this⟩
    · cases h
  · cases h
end
end Go.Xl
set_option linter.unusedVariables false
set_option linter.unusedSimpArgs false
namespace Go.Ab
section
variable {P : Program} {o : Oper} {X : Store}
theorem op_append_nil_osl {ts : Array TypeId} {s x : Operand} {sz : Nat} {fs : List (List D)} {t u e e' bytes bytes' sz' : Nat} (m : Nat)
    (ho : o.op = .call { callee := .builtin .append, args := #[s, x], argTypes := ts }) (h0 : ts[0]? = some t) (h1 : ts[1]? = some u) (hu : SliceI P u e' sz' bytes')
    (ht : SliceI P t e sz bytes) (h1m : 1000 ≤ m) (hX : objsFree [m] X = true) (hne : fs ≠ [])
    (hone : ∀ c ∈ fs, ∀ d ∈ c, oneD d = true) (hbig : fs.length * bytes ≤ 140737488355328) (hlen : fs.length ≤ 4611686018427387904) :
    OpT P o [(s, .d (.sc (.slice none 0 0))), (x, .d (.sl sz fs))] X ⟨(m, .cells (fs.flatten.map .d) none) :: (dropObj m X).objs, X.live⟩ [m] (.osl m 0 fs.length sz) := by
  obtain ⟨htt, i, z, hi, hsz, hbt, hz, hzs⟩ := ht
  intro nm hsm B g w a hr hrd next Q hnext
  have hmn : m ∉ nm := fun hh => by have := hsm m hh; omega
  have e1 := (rd0 hrd).sc_inv
  have e2 := rd1 hrd
  simp only at e1 e2
  unfold Oper.wp
  have hrun : ∀ r, (Builtin.append_ ts o.type #[a.eval s, a.eval x]).run P w = r → (execOp a.eval o).run P w = r.andThen fun v w' => .ok (.value v) w' := by
    intro r hr'
    simp only [execOp, ho, resolve]
    simp [invoke, builtin, hr']
  rw [e1] at hrun
  generalize a.eval x = vx at e2 hrun
  cases e2 with
  | d _ _ e2 =>
  obtain ⟨xb, xc, rfl, hxcap, _, hszF, news, hnl, hnrun, hnc⟩ := e2.slCells (P := P) hr.sane
  have hflat := flat_length fs hszF
  have hnew : ∀ (j : Nat) (y : AV) v, ((fs.flatten.map AV.d))[j]? = some y → news[j]? = some v → RA g w y v := by
    intro j y v hy hv
    rw [List.getElem?_map, Option.map_eq_some_iff] at hy
    obtain ⟨d, hd, rfl⟩ := hy
    obtain ⟨p, q, ds, rfl, hp, hq⟩ := flat_get fs hszF j d hd
    exact .d _ _ (hnc p q ds d v hp hq hv)
  have hneed : ¬ 0 + fs.length ≤ 0 := by
    have := List.length_pos_iff.2 hne; omega
  obtain ⟨hrd', htd⟩ := hr.drew
  have hrn := run_append_grows' (P := P) (w := w) (ty := o.type) (base := none) (len := 0) (cap := 0) (olds := []) h0 h1 hu.und htt hi hz (by rw [hsz]; exact hnrun w.drew fun _ _ _ => rfl) (by simp [Builtin.firstCells, loadCells, loadCellsFrom]) hneed (by omega) (by rw [hbt]; simpa using hbig)
  have hge := grownCap_ge w (0 + fs.length) 0 e
  generalize grownCap w (0 + fs.length) 0 e = nc at hrn hge
  generalize harrE : ([] : List Value).toArray ++ news.toArray ++ Builtin.zeroCells z.cells (nc - (0 + fs.length)) = arr2 at hrn
  have harr : arr2.size = nc * sz := by
    rw [← harrE]
    simp only [Array.size_append, List.size_toArray, size_zeroCells, List.length_nil, hnl, hzs]
    rw [Nat.zero_add, ← Nat.add_mul]
    congr 1; omega
  have hncm : fs.length * sz ≤ nc * sz := Nat.mul_le_mul_right _ (by omega)
  have hr1 := hrd'.dropObj (k := m) hmn
  obtain ⟨hr2, ht2⟩ := hr1.newObj (k := m) (by simp only [Ab.dropObj, lookup_filter, if_true]) (by
    unfold objsFree at hX ⊢
    simp only [List.isEmpty_cons, Bool.false_or] at hX ⊢
    rw [List.all_eq_true] at hX ⊢
    intro p hp
    simp only [Ab.dropObj, List.mem_filter] at hp
    exact hX p hp.1) (.cells arr2 e) (.cells (fs.flatten.map .d) none) (by
    intro g' w' ht' hw'
    refine .cells _ none arr2 e hw' (by simp only [List.length_map, hflat]; omega) ?_ (by simp)
    intro j y v hy hv
    have hjl : j < fs.flatten.length := by
      have := (List.getElem?_eq_some_iff.1 hy).1; rw [List.length_map] at this; exact this
    have hfree : Free [m] y := by
      rw [List.getElem?_map, Option.map_eq_some_iff] at hy
      obtain ⟨d, _, rfl⟩ := hy
      exact .d _
    rw [← harrE, Array.getElem?_append_left (by simp only [Array.size_append, List.size_toArray, List.length_nil, hnl]; omega), Array.getElem?_append_right (by simp)] at hv
    simp only [List.size_toArray, List.length_nil, Nat.sub_zero, List.getElem?_toArray] at hv
    exact ((hnew j y v hy hv).mono htd (.nil _)).mono ht' hfree)
  rw [hrun _ hrn]
  have hww : w.heap.size = w.drew.heap.size := rfl
  refine hnext _ _ _ hr2 (htd.trans ht2) ?_
  simp only [Nat.zero_add] at hge ⊢
  refine .nm _ _ _ ?_
  simp only [upd_same]
  rw [hww]
  refine ⟨nc, 0, hge, rfl, .inr rfl, e, arr2.size, ?_, by omega⟩
  have := heap_alloc_new w.drew (.cells arr2 e)
  simp only [World.shape?]
  rw [this]
end
end Go.Ab
set_option linter.unusedVariables false
set_option linter.unusedSimpArgs false
namespace Go.Ab
section
variable {P : Program} {o : Oper} {X : Store}
theorem mem_zeroCells {zs : Array Value} : ∀ {n : Nat} {v : Value}, v ∈ (Builtin.zeroCells zs n).toList → v ∈ zs.toList := by
  intro n v h
  unfold Builtin.zeroCells at h
  simp at h
  obtain ⟨a, ha, h⟩ := h
  have h0 : 0 < zs.size := by
    rcases Nat.eq_zero_or_pos zs.size with h0 | h0
    · rw [h0] at ha; simp at ha
    · exact h0
  have hlt := Nat.mod_lt a h0
  rw [getElem!_pos zs _ hlt] at h
  rw [← h]
  simp
theorem op_clear_osl {ts : Array TypeId} {x : Operand} {k off len sz : Nat} {cs : List AV} {ty : Option TypeId} {t e bytes : Nat}
    (ho : o.op = .call { callee := .builtin .clear, args := #[x], argTypes := ts }) (h0 : ts[0]? = some t) (ht : SliceI P t e sz bytes) (hk : X.objs.lookup k = some (.cells cs ty))
    (hone : ∀ z, (P.info? e).bind (·.zero) = some z → ∀ v ∈ z.cells.toList, v.oneCell' = true) :
    OpT P o [(x, .osl k off len sz)] X ⟨setObj k (.cells (cs.take off) ty) X.objs, X.live⟩ [] (.tup []) := by
  obtain ⟨htt, i, z, hi, hsz, hbt, hz, hzs⟩ := ht
  intro nm hsm B g w a hr hrd next Q hnext
  have e1 := rd0 hrd
  simp only at e1
  obtain ⟨cap, q, hcap, hv, hq, T, c, hsh, hc⟩ := e1.osl_inv
  unfold Oper.wp
  have hrun : ∀ w', (Builtin.clear_ ts o.type #[a.eval x]).run P w = .ok (.tuple #[]) w' → (execOp a.eval o).run P w = .ok (.value (.tuple #[])) w' := by
    intro w' hr'
    simp only [execOp, ho, resolve]
    simp [invoke, builtin, hr']
  rw [hv] at hrun
  have hone' := hone z (by rw [hi]; exact hz)
  cases hr.objs k _ hk with
  | cells _ _ arr T' hb hl hcc hty =>
  have hshape : w.shape? (g.ρ k) = some (T', arr.size) := by simp [World.shape?, hb]
  rw [hshape] at hsh
  simp only [Option.some.injEq, Prod.mk.injEq] at hsh
  obtain ⟨rfl, rfl⟩ := hsh
  have shrink : ∀ w', w' = w → HR nm B g w' ⟨setObj k (.cells (cs.take off) ty) X.objs, X.live⟩ ∧ Trans [] g w g w' := by
    rintro w' rfl
    refine hr.write hk rfl ⟨rfl, rfl, rfl, Nat.le_refl _⟩ (fun _ _ => rfl) (fun _ => ?_) (fun s h => h)
    refine .cells _ ty arr T' hb (by simp; omega) ?_ hty
    intro j y v hy hv
    rw [List.getElem?_take] at hy
    split at hy
    · exact hcc j y v hy hv
    · cases hy
  by_cases hlen : len = 0
  · subst hlen
    have : (Builtin.clear_ ts o.type #[.slice (some ⟨g.ρ k, q, none⟩) 0 cap]).run P w = .ok (.tuple #[]) w := by
      simp [Builtin.clear_, h0, run_underlying htt]
    rw [hrun _ this]
    obtain ⟨r1, r2⟩ := shrink w rfl
    exact hnext g w _ r1 r2 (.tup [] #[] rfl (by simp))
  · have hqo : q = off := by
      rcases hq with h | h
      · omega
      · exact h
    subst hqo
    have hle : len * sz ≤ cap * sz := Nat.mul_le_mul_right sz hcap
    obtain ⟨w', arr', hst, hb', hs', hp', hz', hoth, hi'⟩ := run_storeCells' (P := P) (off := q) (Builtin.zeroCells z.cells len).toList 0 w arr hb (fun v hv => hone' v (mem_zeroCells hv)) (by
      rw [Array.length_toList, size_zeroCells, hzs]; omega) (by intro j h3 h4; simp [World.frozen?, hb])
    have : (Builtin.clear_ ts o.type #[.slice (some ⟨g.ρ k, q, none⟩) len cap]).run P w = .ok (.tuple #[]) w' := by
      have hn : ∀ n, len = n → n ≠ 0 := fun n h => h ▸ hlen
      obtain ⟨n, rfl⟩ : ∃ n, len = n + 1 := ⟨len - 1, by omega⟩
      simp [Builtin.clear_, h0, run_underlying htt, zeroValue, typeInfo, hi, hz, hst]
    rw [hrun _ this]
    obtain ⟨r1, r2⟩ := hr.write hk (o' := .cells (cs.take q) ty) hz' hi' hoth (by
      intro ht'
      refine .cells _ ty arr' T' hb' (by simp; omega) ?_ hty
      intro j y v hy hv
      rw [List.getElem?_take] at hy
      split at hy
      · rw [hp' j, if_neg (by omega)] at hv
        exact (hcc j y v hy hv).mono ht' (.nil _)
      · cases hy) (by
      intro s hs0
      rw [hshape] at hs0
      simp only [World.shape?, hb', hs']
      exact hs0)
    exact hnext g w' _ r1 r2 (.tup [] #[] rfl (by simp))
end
end Go.Ab
set_option linter.unusedVariables false
set_option linter.unusedSimpArgs false
set_option linter.unnecessarySimpa false
namespace Go.Xl
open Go.Ab
section
variable {P : Program} {R : Type}
theorem sees_cutv {st : XSt} {x : Operand} {v : XV} {r1 r2 : List (Operand × XV)} (hx : xeval st x = some v) (h1 : ∀ p ∈ imRd r1, Sees st.im p.1 p.2) (h2 : ∀ p ∈ imRd r2, Sees st.im p.1 p.2) :
    ∀ p ∈ imRd ((x, v) :: (r1 ++ r2)), Sees st.im p.1 p.2 := by
  intro p hp
  simp only [imRd, List.map_cons, List.map_append, List.mem_cons, List.mem_append] at hp
  rcases hp with rfl | hp | hp
  · exact xeval_sees hx
  · exact h1 p hp
  · exact h2 p hp
noncomputable def xSliceOs (P : Program) (st : XSt) (t : TypeId) (x : Operand) (lo hi : Option Operand) (k : Nat) (ty : Ty) (a len : Nat) (K : Out → Option R) : Option R :=
  match sliceOfT P t, cutBound st 0 lo, cutBound st len hi with
  | some (_, sz, _), some (l, r1), some (h, r2) => cond (Nat.beq ty.size sz) (cond (cutOk l h len) (K (quietO st (.os k ty (a + l.toNat) (h.toNat - l.toNat)) ((x, .os k ty a len) :: (r1 ++ r2)))) none) none
  | _, _, _ => none
theorem xSliceOs_ok {o : Oper} {st : XSt} {t : TypeId} {x : Operand} {lo hi : Option Operand} {k : Nat} {ty : Ty} {a len : Nat} {K : Out → Option R} {r : R} (ho : o.op = .slice t x lo hi none) (hx : xeval st x = some (.os k ty a len))
    (h : xSliceOs P st t x lo hi k ty a len K = some r) : ∃ out, K out = some r ∧ OpOk P o st out := by
  unfold xSliceOs at h
  split at h
  · rename_i e sz by0 l r1 hh r2 ht hlo hhi
    cases hb : Nat.beq ty.size sz with
    | false => simp [hb] at h
    | true =>
    cases hc : cutOk l hh len with
    | false => simp [hb, hc] at h
    | true =>
      simp only [hb, hc, cond_true] at h
      have e1 := Nat.eq_of_beq_eq_true hb
      subst e1
      obtain ⟨c0, c1, c2⟩ := cutOk_iff hc
      obtain ⟨s1, m1, f1⟩ := cutBound_sees hlo
      obtain ⟨s2, m2, f2⟩ := cutBound_sees hhi
      obtain ⟨hu, i, z, hi', hs', hb', hz', hzs'⟩ := sliceOfT_I ht
      refine ⟨_, h, quietO_ok (sees_cutv hx s1 s2) fun X => ?_⟩
      have := op_slice_osl (P := P) (X := X) (k := k) (off := a * ty.size) (len := len) (rd := imRd (r1 ++ r2)) (l := l) (h := hh) ho hu hi' hs' c0 c1 c2 (by
        cases lo with
        | none => exact m1
        | some y => obtain ⟨j, hj⟩ := m1; exact ⟨j, by rw [imRd_append]; exact List.mem_append_left _ hj⟩) (by
        cases hi with
        | none => exact m2
        | some y => obtain ⟨j, hj⟩ := m2; exact ⟨j, by rw [imRd_append]; exact List.mem_append_right _ hj⟩)
      show OpT P o ((x, .nm k (.s (a * ty.size) len ty.size)) :: imRd (r1 ++ r2)) X X [] (.nm k (.s ((a + l.toNat) * ty.size) (hh.toNat - l.toNat) ty.size))
      rw [Nat.add_mul]
      exact this
  · cases h
noncomputable def xSliceAny (P : Program) (st : XSt) (t : TypeId) (x : Operand) (lo hi mx : Option Operand) (K : Out → Option R) : Option R :=
  match mx, xeval st x with
  | none, some (.os k ty a len) => xSliceOs P st t x lo hi k ty a len K
  | _, _ => xSlice P st t x lo hi mx K
theorem xSliceAny_ok {o : Oper} {st : XSt} {t : TypeId} {x : Operand} {lo hi mx : Option Operand} {K : Out → Option R} {r : R} (ho : o.op = .slice t x lo hi mx) (h : xSliceAny P st t x lo hi mx K = some r) : ∃ out, K out = some r ∧ OpOk P o st out := by
  unfold xSliceAny at h
  split at h
  · rename_i k ty a len hx; exact xSliceOs_ok ho hx h
  · exact xSlice_ok ho h
noncomputable def xLenAny (P : Program) (st : XSt) (ts : Array TypeId) (x : Operand) (K : Out → Option R) : Option R :=
  match xeval st x with
  | some (.os k ty a len) => match ts[0]? with
    | some t => match P.underlying t with
      | some (.slice _) => K (quietO st (.d (.i .i64 (len : Int))) [(x, .os k ty a len)])
      | _ => none
    | none => none
  | _ => xLen P st ts x K
theorem xLenAny_ok {o : Oper} {st : XSt} {ts : Array TypeId} {x : Operand} {K : Out → Option R} {r : R} (ho : o.op = .call { callee := .builtin .len, args := #[x], argTypes := ts }) (h : xLenAny P st ts x K = some r) : ∃ out, K out = some r ∧ OpOk P o st out := by
  unfold xLenAny at h
  split at h
  · rename_i k ty a len hx
    split at h
    · rename_i t ht0
      split at h
      · rename_i e ht
        exact ⟨_, h, quietO_ok (sees1v hx) fun X => op_len_osl ho ht0 ht⟩
      · cases h
    · cases h
  · exact xLen_ok ho h
noncomputable def dropX (k : Nat) : List (Nat × XOb) → List (Nat × XOb)
  | [] => []
  | p :: r => cond (Nat.beq p.1 k) (dropX k r) (p :: dropX k r)
theorem dropX_im (k : Nat) (l : List (Nat × XOb)) : imObjs (dropX k l) = (imObjs l).filter (fun p => p.1 != k) := by
  induction l with
  | nil => rfl
  | cons p r ih =>
    simp only [dropX]
    cases hb : Nat.beq p.1 k with
    | true =>
      have := Nat.eq_of_beq_eq_true hb
      simp only [cond_true, imObjs, List.map_cons, List.filter_cons, this, bne_self_eq_false, Bool.false_eq_true, if_false] at ih ⊢
      exact ih
    | false =>
      have h1 : (p.1 != k) = true := by simpa using Nat.ne_of_beq_eq_false hb
      simp only [cond_false, imObjs, List.map_cons, List.filter_cons, h1, if_true] at ih ⊢
      rw [ih]
theorem lk_dropX {k j : Nat} {l : List (Nat × XOb)} {x : XOb} (h : lk j (dropX k l) = some x) : lk j l = some x := by
  induction l with
  | nil => exact h
  | cons p r ih =>
    simp only [dropX] at h
    cases hb : Nat.beq p.1 k with
    | true =>
      simp only [hb, cond_true] at h
      have hj : j ≠ k := by
        rintro rfl
        have : ∀ (l : List (Nat × XOb)), lk j (dropX j l) = none := by
          intro l
          induction l with
          | nil => rfl
          | cons q s ih2 =>
            simp only [dropX]
            cases hq : Nat.beq q.1 j with
            | true => simpa using ih2
            | false => simp [lk_cons, lk_nil, hq]; exact ih2
        rw [this] at h; cases h
      have := Nat.eq_of_beq_eq_true hb
      simp only [lk_cons, lk_nil]
      rw [this, nbF (Ne.symm hj)]
      exact ih h
    | false =>
      simp only [hb, cond_false, lk_cons, lk_nil] at h ⊢
      cases hq : Nat.beq p.1 j with
      | true => simp only [hq, cond_true] at h ⊢; exact h
      | false => simp only [hq, cond_false] at h ⊢; exact ih h
noncomputable def osTy : Option XV → Ty
  | some (.os _ ty _ _) => ty
  | _ => .unit
noncomputable def xdS (st : XSt) (ty : Ty) (x : Operand) : Option XD :=
  match xd st x with
  | some (.v (.slice (some _) 0 _)) => some (.sl ty [])
  | r => r
theorem xdS_at {st : XSt} {ty : Ty} {x : Operand} {a : XD} (h : xdS st ty x = some a) : Sees st.im x (XV.d a).a := by
  unfold xdS at h
  split at h
  · rename_i p c hx
    cases h
    exact xd_sees hx (.nilp _ _ _)
  · exact xd_at h
noncomputable def xAppOwn (P : Program) (st : XSt) (o : Oper) (ts : Array TypeId) (s x : Operand) (K : Out → Option R) : Option R :=
  match ts[0]?, ts[1]?, newName o with
  | some t, some u, some m =>
    match sliceOfT P t, sliceOfT P u, xeval st s, xdS st (osTy (xeval st s)) x with
    | some (e, sz, bytes), some _, some (.os k ty a len), some (.sl ty' l') =>
      match lk k st.objs with
      | some (.arr tu l) =>
        if h : ty'.eqb ty = true then if h' : tu.eqb ty = true then
          cond (Nat.beq ty.size sz) (cond (Nat.beq a 0) (cond (Nat.ble 1000 k) (cond (Nat.beq m k) none (cond (objsFreeB [m] st) (cond (Nat.beq l.length len) (cond (fitsB (len + l'.length) bytes)
            (K ⟨.all, .os m ty 0 (len + l'.length), [(s, .os k ty a len), (x, .d (.sl ty' l'))], (m, .arr ty ((Ty.eqb_eq h' ▸ l : List ty.T) ++ (Ty.eqb_eq h ▸ l' : List ty.T))) :: dropX m (dropX k st.objs), st.live, [m], [m, k]⟩) none) none) none)) none) none) none
        else none else none
      | _ => none
    | some (e, sz, bytes), some _, some (.d (.v (.slice none 0 0))), some (.sl ty l) =>
      match l with
      | [] => none
      | y :: l => cond (Nat.beq ty.size sz) (cond (objsFreeB [m] st) (cond (Nat.ble 1000 m) (cond (fitsB (y :: l).length bytes)
            (K ⟨.all, .os m ty 0 (y :: l).length, [(s, .d (.v (.slice none 0 0))), (x, .d (.sl ty (y :: l)))], (m, .arr ty (y :: l)) :: dropX m st.objs, st.live, [m], [m]⟩) none) none) none) none
    | _, _, _, _ => none
  | _, _, _ => none
theorem newName_ge {o : Oper} {m : Nat} (h : newName o = some m) : 1000 ≤ m := by
  unfold newName at h
  split at h
  · cases h; omega
  · cases h
theorem xAppOwn_ok {o : Oper} {st : XSt} {ts : Array TypeId} {s x : Operand} {K : Out → Option R} {r : R} (ho : o.op = .call { callee := .builtin .append, args := #[s, x], argTypes := ts }) (h : xAppOwn P st o ts s x K = some r) : ∃ out, K out = some r ∧ OpOk P o st out := by
  unfold xAppOwn at h
  split at h
  · rename_i t u m ht hu hm
    split at h
    · rename_i e sz bytes q k ty a len ty' l' hsl hsu hs hx
      split at h
      · rename_i tu l hk
        split at h
        · rename_i he
          split at h
          · rename_i he'
            have e0 := Ty.eqb_eq he
            subst e0
            have e0' := Ty.eqb_eq he'
            subst e0'
            cases h1 : Nat.beq tu.size sz with
            | false => simp [h1] at h
            | true =>
            cases h2 : Nat.beq a 0 with
            | false => simp [h1, h2] at h
            | true =>
            cases h3 : Nat.ble 1000 k with
            | false => simp [h1, h2, h3] at h
            | true =>
            cases h4 : Nat.beq m k with
            | true => simp [h1, h2, h3, h4] at h
            | false =>
            cases h5 : objsFreeB [m] st with
            | false => simp [h1, h2, h3, h4, h5] at h
            | true =>
            cases h6 : Nat.beq l.length len with
            | false => simp [h1, h2, h3, h4, h5, h6] at h
            | true =>
            cases h7 : fitsB (len + l'.length) bytes with
            | false => simp [h1, h2, h3, h4, h5, h6, h7] at h
            | true =>
              simp only [h1, h2, h3, h4, h5, h6, h7, cond_true, cond_false] at h
              have e1 := Nat.eq_of_beq_eq_true h1
              have e2 := Nat.eq_of_beq_eq_true h2
              have e6 := Nat.eq_of_beq_eq_true h6
              subst e1; subst e2; subst e6
              obtain ⟨b1, b2⟩ := fitsB_iff h7
              obtain ⟨q1, q2, q3⟩ := q
              have hk' : st.X.objs.lookup k = some (.cells ((l.map tu.ds).flatten.map .d) none) := by
                show (imObjs st.objs).lookup k = _
                rw [im_objs, hk]; rfl
              refine ⟨_, h, ⟨?_, ?_, fun j z hj hz => ?_⟩⟩
              · intro p hp
                simp only [imRd, List.map_cons, List.map_nil, List.mem_cons, List.not_mem_nil, or_false] at hp
                rcases hp with rfl | rfl
                · exact xeval_sees hs
                · exact xdS_at hx
              · have := op_append_osl (P := P) (X := st.X) (s := s) (x := x) (k := k) (len := l.length) (cs := (l.map tu.ds).flatten.map .d) (cty := none) (fs := l'.map tu.ds) m ho ht hu (sliceOfT_I hsu) (sliceOfT_I hsl) hk'
                  (by rw [List.length_map, flat_length _ (ds_sizes tu l)]; simp) (Nat.le_of_ble_eq_true h3) (newName_ge hm) (Nat.ne_of_beq_eq_false h4) (objsFreeB_ok h5)
                  (by
                    rw [List.all_eq_true]
                    intro y hy
                    obtain ⟨d, hd, rfl⟩ := List.mem_map.1 hy
                    obtain ⟨c, hc, hdc⟩ := List.mem_flatten.1 hd
                    obtain ⟨v, _, rfl⟩ := List.mem_map.1 hc
                    have := tu.ds_one v d hdc
                    cases d <;> first | exact this | rfl)
                  (by intro c hc d hd; obtain ⟨v, _, rfl⟩ := List.mem_map.1 hc; exact tu.ds_one v d hd) (by simpa using b1) (by simpa using b2)
                show OpT P o _ st.X ⟨imObjs ((m, XOb.arr tu (l ++ l')) :: dropX m (dropX k st.objs)), st.live⟩ [m] _
                have e3 : imObjs ((m, XOb.arr tu (l ++ l')) :: dropX m (dropX k st.objs)) = (m, Ob.cells ((l.map tu.ds).flatten.map AV.d ++ (l'.map tu.ds).flatten.map AV.d) none) :: (Ab.dropObj m (Ab.dropObj k st.X)).objs := by
                  show (m, XOb.o (.arr tu (l ++ l'))) :: imObjs (dropX m (dropX k st.objs)) = _
                  rw [dropX_im, dropX_im]
                  simp only [XOb.o, List.map_append, List.flatten_append, Ab.dropObj]
                  rfl
                rw [e3]
                simp only [List.length_map] at this
                have e4 : imRd [(s, XV.os k tu 0 l.length), (x, XV.d (XD.sl tu l'))] = [(s, .osl k 0 l.length tu.size), (x, .d (.sl tu.size (l'.map tu.ds)))] := by
                  simp only [imRd, List.map_cons, List.map_nil, XV.a, Nat.zero_mul]; rfl
                rw [e4]
                have e5 : (XV.os m tu 0 (l.length + l'.length)).a = .osl m 0 (l.length + l'.length) tu.size := by simp only [XV.a, Nat.zero_mul]
                rw [e5]
                exact this
              · simp only [List.mem_cons, List.not_mem_nil, or_false, not_or] at hj
                rw [lk_cons_ne hj.1] at hz
                exact lk_dropX (lk_dropX hz)
          · cases h
        · cases h
      · cases h
    · rename_i e sz bytes q ty l hsl hsu hs hx
      split at h
      · cases h
      · rename_i y l
        cases h1 : Nat.beq ty.size sz with
        | false => simp [h1] at h
        | true =>
        cases h5 : objsFreeB [m] st with
        | false => simp [h1, h5] at h
        | true =>
        cases h3 : Nat.ble 1000 m with
        | false => simp [h1, h5, h3] at h
        | true =>
        cases h7 : fitsB (y :: l).length bytes with
        | false => simp only [h1, h5, h3, h7, cond_true, cond_false, reduceCtorEq] at h
        | true =>
          simp only [h1, h5, h3, h7, cond_true] at h
          have e1 := Nat.eq_of_beq_eq_true h1
          subst e1
          obtain ⟨b1, b2⟩ := fitsB_iff h7
          obtain ⟨q1, q2, q3⟩ := q
          refine ⟨_, h, ⟨?_, ?_, fun j z hj hz => ?_⟩⟩
          · intro p hp
            simp only [imRd, List.map_cons, List.map_nil, List.mem_cons, List.not_mem_nil, or_false] at hp
            rcases hp with rfl | rfl
            · exact xeval_sees hs
            · exact xdS_at hx
          · have := op_append_nil_osl (P := P) (X := st.X) (s := s) (x := x) (fs := (y :: l).map ty.ds) m ho ht hu (sliceOfT_I hsu) (sliceOfT_I hsl) (newName_ge hm) (objsFreeB_ok h5) (by simp)
              (by intro c hc d hd; obtain ⟨v, _, rfl⟩ := List.mem_map.1 hc; exact ty.ds_one v d hd) (by simpa using b1) (by simpa using b2)
            show OpT P o _ st.X ⟨imObjs ((m, XOb.arr ty (y :: l)) :: dropX m st.objs), st.live⟩ [m] _
            have e3 : imObjs ((m, XOb.arr ty (y :: l)) :: dropX m st.objs) = (m, Ob.cells (((y :: l).map ty.ds).flatten.map AV.d) none) :: (Ab.dropObj m st.X).objs := by
              show (m, XOb.o (.arr ty (y :: l))) :: imObjs (dropX m st.objs) = _
              rw [dropX_im]
              rfl
            rw [e3]
            have e4 : imRd [(s, XV.d (.v (.slice none 0 0))), (x, XV.d (XD.sl ty (y :: l)))] = [(s, .d (.sc (.slice none 0 0))), (x, .d (.sl ty.size ((y :: l).map ty.ds)))] := rfl
            rw [e4]
            have e5 : (XV.os m ty 0 (y :: l).length).a = .osl m 0 (y :: l).length ty.size := by simp only [XV.a, Nat.zero_mul]
            rw [e5]
            rw [List.length_map] at this
            exact this
          · simp only [List.mem_cons, List.not_mem_nil, or_false] at hj
            rw [lk_cons_ne hj] at hz
            exact lk_dropX hz
    · cases h
  · cases h
noncomputable def xClear (P : Program) (st : XSt) (ts : Array TypeId) (x : Operand) (K : Out → Option R) : Option R :=
  match ts[0]?, xeval st x with
  | some t, some (.os k ty a len) =>
    match sliceOfT P t, lk k st.objs with
    | some (e, sz, _), some (.arr tu l) =>
      if h : tu.eqb ty = true then
        match zeroOf P e with
        | some zs => cond (Nat.beq ty.size sz) (cond (xones zs)
            (K ⟨.put k (.arr ty ((Ty.eqb_eq h ▸ l : List ty.T).take a)), .tup [], [(x, .os k ty a len)], xset k (.arr ty ((Ty.eqb_eq h ▸ l : List ty.T).take a)) st.objs, st.live, [], [k]⟩) none) none
        | none => none
      else none
    | _, _ => none
  | some t, some (.d (.v (.slice none 0 0))) => none
  | _, _ => none
theorem flat_takeN {sz : Nat} : ∀ (fs : List (List D)), (∀ (i : Nat) cs, fs[i]? = some cs → cs.length = sz) → ∀ a, fs.flatten.take (a * sz) = (fs.take a).flatten
  | [], _, a => by simp
  | c :: r, h, 0 => by simp
  | c :: r, h, a + 1 => by
    have h0 := h 0 c rfl
    have ih := flat_takeN r (fun i cs hi => h (i + 1) cs (by simpa using hi)) a
    simp only [List.flatten_cons, List.take_succ_cons, Nat.succ_mul]
    rw [show a * sz + sz = c.length + a * sz by omega, List.take_length_add_append, ih]
theorem xClear_ok {o : Oper} {st : XSt} {ts : Array TypeId} {x : Operand} {K : Out → Option R} {r : R} (ho : o.op = .call { callee := .builtin .clear, args := #[x], argTypes := ts }) (h : xClear P st ts x K = some r) : ∃ out, K out = some r ∧ OpOk P o st out := by
  unfold xClear at h
  split at h
  · rename_i t k ty a len ht hx
    split at h
    · rename_i e sz bytes tu l hsl hk
      split at h
      · rename_i he
        have e0 := Ty.eqb_eq he
        subst e0
        split at h
        · rename_i zs hz
          cases h1 : Nat.beq tu.size sz with
          | false => simp [h1] at h
          | true =>
          cases h2 : xones zs with
          | false => simp [h1, h2] at h
          | true =>
            simp only [h1, h2, cond_true] at h
            have e1 := Nat.eq_of_beq_eq_true h1
            subst e1
            have hk' : st.X.objs.lookup k = some (.cells ((l.map tu.ds).flatten.map .d) none) := by
              show (imObjs st.objs).lookup k = _
              rw [im_objs, hk]; rfl
            have hone : ∀ z, (P.info? e).bind (·.zero) = some z → ∀ v ∈ z.cells.toList, v.oneCell' = true := by
              intro z hzz v hv
              unfold zeroOf at hz
              split at hz
              · rename_i i hi
                split at hz
                · rename_i z' hz'
                  cases hz
                  have : z = z' := by rw [hi] at hzz; simp only [Option.bind_some, hz', Option.some.injEq] at hzz; exact hzz.symm
                  subst this
                  have hall := xones_a h2
                  rw [List.all_eq_true] at hall
                  have := hall (.d (.sc v)) (by
                    rw [asOf_map, List.mem_map]
                    exact ⟨.d (constX v), List.mem_map.2 ⟨v, hv, rfl⟩, by simp only [XV.a, constX_d]⟩)
                  exact this
                · cases hz
              · cases hz
            refine ⟨_, h, ⟨sees1v hx, ⟨rfl, rfl, rfl, fun X hX => ?_⟩, fun j z hj hz => ?_⟩⟩
            · have := op_clear_osl (P := P) (X := X) (x := x) (k := k) (off := a * tu.size) (len := len) (cs := (l.map tu.ds).flatten.map .d) (ty := none) ho ht (sliceOfT_I hsl) (hX.trans hk') hone
              rw [← List.map_take, flat_takeN _ (ds_sizes tu l), ← List.map_take] at this
              exact this
            · rw [lk_xset _ _ _ _ (by simpa using hj)] at hz
              exact hz
        · cases h
      · cases h
    · cases h
  · cases h
  · cases h
end
end Go.Xl
set_option linter.unusedVariables false
set_option linter.unusedSimpArgs false
namespace Go.Ab
section
variable {P : Program} {o : Oper} {X : Store}
theorem op_buildSlice_osl (m : Nat) {t e : TypeId} {n sz : Nat} {parts : Array (Nat × Operand)} {xs : List D} {i : TypeInfo} {z : Value} (ho : o.op = .buildSlice t n parts) (ht : P.underlying t = some (.slice e))
    (hi : P.info? e = some i) (hz : i.zero = some z) (hsz : i.size = sz) (hx : xs.length = n) (hidx : parts.toList.map (·.1) = List.range n) (hok : (xs.all fun x => okSc (.d x) && x.cells.length == sz) = true)
    (hbig : n * sz ≤ 16777216) (h1m : 1000 ≤ m) (hX : objsFree [m] X = true) :
    OpT P o ((parts.toList.map (·.2)).zip (xs.map .d)) X ⟨(m, .cells ((xs.map D.cells).flatten.map .d) none) :: (dropObj m X).objs, X.live⟩ [m] (.osl m 0 n sz) := by
  subst hsz
  intro nm hsm B g w a hr hrd next Q hn
  have hpl : parts.toList.length = n := by rw [← List.length_map (f := (·.1)), hidx, List.length_range]
  unfold Oper.wp
  have hpart : ∀ (j : Nat) p x, parts.toList[j]? = some p → xs[j]? = some x → RA g w (.d x) (a.eval p.2) := by
    intro j p x hp hx'
    exact hrd (p.2, .d x) (List.mem_of_getElem? (i := j) (by
      rw [List.getElem?_zip_eq_some]
      exact ⟨by rw [List.getElem?_map, hp]; rfl, by rw [List.getElem?_map, hx']; rfl⟩))
  have hfacts : ∀ (j : Nat) x, xs[j]? = some x → okSc (.d x) = true ∧ x.cells.length = i.size := by
    intro j x hx'
    have := List.all_eq_true.1 hok x (List.mem_of_getElem? hx')
    simpa using this
  generalize harr0 : ((Array.range (n * i.size)).map fun x => (if n * i.size = 0 then #[] else z.cells)[x % (if n * i.size = 0 then #[] else z.cells).size]!) = arr0
  have harr0s : arr0.size = n * i.size := by subst harr0; simp
  obtain ⟨arr', hfill, hs', _, hc'⟩ := fill_slice (g := g) (w := w) (sz := i.size) (parts.toList.map fun p => (p.1, a.eval p.2)) (xs.map D.cells) 0 arr0 (by simp [hpl, hx]) (by
    intro j p hp
    rw [List.getElem?_map, Option.map_eq_some_iff] at hp
    obtain ⟨q, hq, rfl⟩ := hp
    have hj : j < n := by have := (List.getElem?_eq_some_iff.1 hq).1; omega
    have : (parts.toList.map (·.1))[j]? = some q.1 := by rw [List.getElem?_map, hq]; rfl
    rw [hidx, List.getElem?_range hj] at this
    simp at this; simp [this]) (by
    intro j p cs hp hcs
    rw [List.getElem?_map, Option.map_eq_some_iff] at hp hcs
    obtain ⟨q, hq, rfl⟩ := hp
    obtain ⟨x, hx', rfl⟩ := hcs
    obtain ⟨f1, f2⟩ := hfacts j x hx'
    obtain ⟨c1, c2⟩ := (hpart j q x hq hx').cells f1
    have hcl : (AV.d x).cells.length = x.cells.length := by simp [AV.cells]
    refine ⟨f2, by simp only; omega, ?_⟩
    intro k c u hk hu
    have := c2 k (.d c) u (by simp [AV.cells, hk]) hu
    cases this with
    | d _ _ h => exact h) (by simp [hpl, harr0s])
  have hrun : (execOp a.eval o).run P w = .ok (.value (.slice (some ⟨w.heap.size, 0, none⟩) n n)) (w.alloc (.cells arr' e)) := by
    simp only [execOp, ho, Instr.buildSlice]
    have h24 : ¬ (n * i.size > 2 ^ 24) := by omega
    by_cases h0 : n * i.size = 0
    · have e0 : arr0 = #[] := Array.eq_empty_of_size_eq_zero (by omega)
      subst e0
      have hfill' : Instr.fill (fun j => some (j * i.size, i.size)) #[] (parts.toList.map fun p => (p.1, a.eval p.2)) = some arr' := hfill
      have h24' : ¬ (0 > 2 ^ 24) := by omega
      simp only [Sem.run_bind, run_underlying ht, Result.andThen_ok, run_sizeOf hi, h0, if_true]
      simp [Array.range_zero', hfill', Go.newRow]
    · simp only [h0, if_false] at harr0
      have hfill' : Instr.fill (fun j => some (j * i.size, i.size)) arr0 (parts.toList.map fun p => (p.1, a.eval p.2)) = some arr' := hfill
      simp only [Sem.run_bind, run_underlying ht, Result.andThen_ok, run_sizeOf hi, h24, if_false, h0]
      simp [zeroValue, typeInfo, hi, hz, harr0, hfill', Go.newRow]
  have hmn : m ∉ nm := fun hh => by have := hsm m hh; omega
  have hszF : ∀ (i' : Nat) cs, (xs.map D.cells)[i']? = some cs → cs.length = i.size := by
    intro j cs hcs
    rw [List.getElem?_map, Option.map_eq_some_iff] at hcs
    obtain ⟨x, hx', rfl⟩ := hcs
    exact (hfacts j x hx').2
  have hflat := flat_length (xs.map D.cells) hszF
  rw [List.length_map, hx] at hflat
  have hr1 := hr.dropObj (k := m) hmn
  obtain ⟨hr2, ht2⟩ := hr1.newObj (k := m) (by simp only [Ab.dropObj, lookup_filter, if_true]) (by
    unfold objsFree at hX ⊢
    simp only [List.isEmpty_cons, Bool.false_or] at hX ⊢
    rw [List.all_eq_true] at hX ⊢
    intro p hp
    simp only [Ab.dropObj, List.mem_filter] at hp
    exact hX p hp.1) (.cells arr' e) (.cells ((xs.map D.cells).flatten.map .d) none) (by
    intro g' w' ht' hw'
    refine .cells _ none arr' e hw' (by simp only [List.length_map, hflat]; omega) ?_ (by simp)
    intro j y v hy hv
    rw [List.getElem?_map, Option.map_eq_some_iff] at hy
    obtain ⟨d, hd, rfl⟩ := hy
    obtain ⟨p, q, ds, rfl, hp, hq⟩ := flat_get _ hszF j d hd
    have := hc' p q ds d v hp hq (by rw [Nat.zero_add]; exact hv)
    exact (RA.d _ _ this).mono ht' (.d _))
  rw [hrun]
  refine hn _ _ _ hr2 ht2 (.nm _ _ _ ?_)
  simp only [upd_same]
  exact ⟨n, 0, Nat.le_refl _, rfl, .inr rfl, e, arr'.size, by unfold World.shape?; rw [heap_alloc_new], by omega⟩
end
end Go.Ab
set_option linter.unusedVariables false
set_option linter.unusedSimpArgs false
set_option linter.unnecessarySimpa false
namespace Go.Xl
open Go.Ab
section
variable {P : Program} {R : Type}
noncomputable def isNilX : XV → Option Bool
  | .d (.v (.slice none 0 0)) => some true
  | .d (.v (.slice (some _) _ _)) => some false
  | .d (.sl _ l) => match l with
    | [] => none
    | _ :: _ => some false
  | .os _ _ _ _ => some false
  | _ => none
theorem isNilX_ok {x : XV} {b : Bool} (h : isNilX x = some b) {g : Gh} {w : World} {v : Value} (hr : RA g w x.a v) : ∃ p n c, v = .slice p n c ∧ p.isNone = b := by
  unfold isNilX at h
  split at h
  · cases h
    cases hr with
    | d _ _ h => cases h; exact ⟨_, _, _, rfl, rfl⟩
  · cases h
    cases hr with
    | d _ _ h => cases h; exact ⟨_, _, _, rfl, rfl⟩
  · split at h
    · cases h
    · cases h
      cases hr with
      | d _ _ h => cases h; exact ⟨_, _, _, rfl, rfl⟩
  · cases h
    obtain ⟨cap, o, _, hv, _⟩ := RA.osl_inv hr
    exact ⟨_, _, _, hv, rfl⟩
  · cases h
theorem run_sl_nil {t e : TypeId} (ht : P.underlying t = some (.slice e)) (p : Option Addr) (n c : Nat) (w : World) : (Op.equal t (.slice p n c) (.slice none 0 0)).run P w = .ok p.isNone w := by
  have h : ∀ d : Nat, (Op.equalIn (d + 1) t (.slice p n c) (.slice none 0 0)).run P w = .ok p.isNone w := by
    intro d
    cases p <;> simp [Op.equalIn, run_underlying ht]
  exact h 9999
theorem op_sl_nil {o : Oper} {X : Store} {op : BinOp} {t t' e : TypeId} {x y : Operand} {v : XV} {b : Bool} (neg : Bool) (ho : o.op = .binOp (cond neg .neq .eql) t x y t') (ht : P.underlying t = some (.slice e)) (hb : isNilX v = some b) :
    OpT P o [(x, v.a), (y, .d (.sc (.slice none 0 0)))] X X [] (.d (.sc (.bool (cond neg (!b) b)))) :=
  .quiet fun _ _ g w ac _ hrd => by
    have h1 := rd0 hrd
    have h2 := (rd1 hrd).sc_inv
    simp only at h1 h2
    obtain ⟨p, n, c, hv, hp⟩ := isNilX_ok hb h1
    refine ⟨_, ?_, .ofSc _ _ _⟩
    simp only [execOp, ho, hv, h2]
    cases neg with
    | true =>
      have hg : ∀ p : Option Addr, eqGuard .neq t x y (.slice p n c) (.slice none 0 0) = pure () := fun _ => rfl
      simp [hg, binOp, run_sl_nil ht, hp]
    | false =>
      have hg : ∀ p : Option Addr, eqGuard .eql t x y (.slice p n c) (.slice none 0 0) = pure () := fun _ => rfl
      simp [hg, binOp, run_sl_nil ht, hp]
noncomputable def isNilC : Operand → Bool
  | .const (.slice none 0 0) => true
  | _ => false
theorem isNilC_eq {x : Operand} (h : isNilC x = true) : x = .const (.slice none 0 0) := by
  unfold isNilC at h
  split at h
  · rfl
  · cases h
noncomputable def xBinAny (P : Program) (st : XSt) (op : BinOp) (t : TypeId) (x y : Operand) (K : Out → Option R) : Option R :=
  cond (isNilC y) (match op with
    | .eql => match sliceOfT P t, xeval st x with
      | some _, some v => match isNilX v with
        | some b => K (quietO st (.d (.b b)) [(x, v), (y, .d (.v (.slice none 0 0)))])
        | none => none
      | _, _ => none
    | .neq => match sliceOfT P t, xeval st x with
      | some _, some v => match isNilX v with
        | some b => K (quietO st (.d (.b (!b))) [(x, v), (y, .d (.v (.slice none 0 0)))])
        | none => none
      | _, _ => none
    | _ => none) (xBin P st op t x y K)
theorem xBinAny_ok {o : Oper} {st : XSt} {op : BinOp} {t t' : TypeId} {x y : Operand} {K : Out → Option R} {r : R} (ho : o.op = .binOp op t x y t') (h : xBinAny P st op t x y K = some r) : ∃ out, K out = some r ∧ OpOk P o st out := by
  unfold xBinAny at h
  cases hy : isNilC y with
  | false => simp only [hy, cond_false] at h; exact xBin_ok ho h
  | true =>
    have := isNilC_eq hy
    subst this
    simp only [hy, cond_true] at h
    have sees : ∀ v, xeval st x = some v → ∀ p ∈ imRd [(x, v), (Operand.const (.slice none 0 0), XV.d (.v (.slice none 0 0)))], Sees st.im p.1 p.2 := by
      intro v hv p hp
      simp only [imRd, List.map_cons, List.map_nil, List.mem_cons, List.not_mem_nil, or_false] at hp
      rcases hp with rfl | rfl
      · exact xeval_sees hv
      · exact .const _ _ fun _ _ => .sc _
    split at h
    · split at h
      · rename_i e v hs hv
        split at h
        · rename_i b hb
          obtain ⟨e1, e2, e3⟩ := e
          refine ⟨_, h, quietO_ok (sees v hv) fun X => ?_⟩
          exact op_sl_nil (op := .eql) false ho (sliceOfT_I hs).und hb
        · cases h
      · cases h
    · split at h
      · rename_i e v hs hv
        split at h
        · rename_i b hb
          obtain ⟨e1, e2, e3⟩ := e
          refine ⟨_, h, quietO_ok (sees v hv) fun X => ?_⟩
          exact op_sl_nil (op := .neq) true ho (sliceOfT_I hs).und hb
        · cases h
      · cases h
    · cases h
noncomputable def xBuildOwn (P : Program) (st : XSt) (o : Oper) (t : TypeId) (n : Nat) (parts : Array (Nat × Operand)) (K : Out → Option R) : Option R :=
  match sliceOfT P t, newName o with
  | some (e, sz, bytes), some m =>
    match tyOf P 9 e, xevals st (parts.toList.map (·.2)) with
    | some ty, some vs =>
      match decAll ty vs with
      | some l => cond (Nat.beq ty.size sz) (cond (Nat.beq vs.length n) (cond (isRange 0 (parts.toList.map (·.1))) (cond (Nat.ble (n * sz) 16777216) (cond (objsFreeB [m] st)
          (K ⟨.all, .os m ty 0 n, zipXv ty (parts.toList.map (·.2)) l, (m, .arr ty l) :: dropX m st.objs, st.live, [m], [m]⟩) none) none) none) none) none
      | none => none
    | _, _ => none
  | _, _ => none
theorem xBuildOwn_ok {o : Oper} {st : XSt} {t : TypeId} {n : Nat} {parts : Array (Nat × Operand)} {K : Out → Option R} {r : R} (ho : o.op = .buildSlice t n parts) (h : xBuildOwn P st o t n parts K = some r) : ∃ out, K out = some r ∧ OpOk P o st out := by
  unfold xBuildOwn at h
  split at h
  · rename_i e sz bytes m hsl hm
    split at h
    · rename_i ty vs hty hvs
      split at h
      · rename_i l hl
        cases h1 : Nat.beq ty.size sz with
        | false => simp [h1] at h
        | true =>
        cases h2 : Nat.beq vs.length n with
        | false => simp [h1, h2] at h
        | true =>
        cases h3 : isRange 0 (parts.toList.map (·.1)) with
        | false => simp [h1, h2, h3] at h
        | true =>
        cases h4 : Nat.ble (n * sz) 16777216 with
        | false => simp [h1, h2, h3, h4] at h
        | true =>
        cases h5 : objsFreeB [m] st with
        | false => simp [h1, h2, h3, h4, h5] at h
        | true =>
          simp only [h1, h2, h3, h4, h5, cond_true] at h
          have e1 := Nat.eq_of_beq_eq_true h1
          have e2 := Nat.eq_of_beq_eq_true h2
          have hto := decAll_sees hvs hl
          have hlen := typedOps_len hto
          have hvl := xevals_len hvs
          refine ⟨_, h, ⟨by rw [zipXv_a]; exact typedOps_sees hto, ?_, fun j z hj hz => ?_⟩⟩
          · obtain ⟨hu', i', z, hi, hs, hb, hz, hzs⟩ := sliceOfT_I hsl
            have := op_buildSlice_osl (P := P) (X := st.X) (xs := l.map ty.dv) m ho hu' hi hz hs (by simp; omega) (by
              rw [isRange_eq h3, List.range_eq_range']; congr 1
              simp at hvl hlen ⊢; omega) (by
              rw [List.all_eq_true]
              intro x hx
              obtain ⟨y, _, rfl⟩ := List.mem_map.1 hx
              simp only [dv_okSc, dv_cells, Ty.ds_length, e1, Bool.true_and, beq_self_eq_true]) (Nat.le_of_ble_eq_true h4) (newName_ge hm) (objsFreeB_ok h5)
            simp only [List.map_map] at this
            have e3 : (List.map (D.cells ∘ ty.dv) l) = l.map ty.ds := by
              apply List.map_congr_left; intro y _; exact dv_cells ty y
            rw [e3] at this
            show OpT P o _ st.X ⟨imObjs ((m, XOb.arr ty l) :: dropX m st.objs), st.live⟩ [m] _
            have e4 : imObjs ((m, XOb.arr ty l) :: dropX m st.objs) = (m, Ob.cells ((l.map ty.ds).flatten.map AV.d) none) :: (Ab.dropObj m st.X).objs := by
              show (m, XOb.o (.arr ty l)) :: imObjs (dropX m st.objs) = _
              rw [dropX_im]
              rfl
            rw [e4, zipXv_a]
            have e5 : (XV.os m ty 0 n).a = .osl m 0 n sz := by simp only [XV.a, Nat.zero_mul, e1]
            rw [e5]
            exact this
          · simp only [List.mem_cons, List.not_mem_nil, or_false] at hj
            rw [lk_cons_ne hj] at hz
            exact lk_dropX hz
      · cases h
    · cases h
  · cases h
end
end Go.Xl
set_option linter.unusedVariables false
set_option linter.unusedSimpArgs false
namespace Go.Ab
theorem op_buildSlice_empty {P : Program} {o : Oper} {X : Store} {t e : TypeId} {i : TypeInfo} (m : Nat) (ho : o.op = .buildSlice t 0 #[]) (ht : P.underlying t = some (.slice e)) (hi : P.info? e = some i)
    (hm : m ∉ X.live) (hX : objsFree [m] X = true) : OpT P o [] X ⟨X.objs, m :: X.live⟩ [m] (.tip m i.size [] (some e)) := by
  intro nm hsm B g w a hr hrd next Q hn
  unfold Oper.wp
  have hrun : (execOp a.eval o).run P w = .ok (.value (.slice (some ⟨w.heap.size, 0, none⟩) 0 0)) (w.alloc (.cells #[] e)) := by
    simp only [execOp, ho, Instr.buildSlice]
    have h0 : 0 * i.size = 0 := by omega
    have h24' : ¬ (0 > 2 ^ 24) := by omega
    have hfill' : Instr.fill (fun j => some (j * i.size, i.size)) #[] [] = some #[] := rfl
    simp only [Sem.run_bind, run_underlying ht, Result.andThen_ok, run_sizeOf hi, h0, if_true]
    simp [Array.range_zero', hfill', Go.newRow]
  rw [hrun]
  obtain ⟨h1, h2⟩ := hr.newRow #[] e 0 (Nat.le_refl _)
  have hsz : (w.alloc (.cells #[] e)).heap.size = w.heap.size + 1 := by simp
  obtain ⟨h3, h4⟩ := h1.addTip hm (some w.heap.size) hX (by
    intro b hb
    cases hb
    refine ⟨by omega, .inl hr.base, fun k ob hk he => ?_, fun n hn => ?_, hr.eta.ltN (Nat.le_refl _)⟩
    · have hob := hr.objs k ob hk
      have : g.ρ k < w.heap.size := by
        cases hob with
        | cells _ _ _ _ hh => exact (Array.getElem?_eq_some_iff.1 hh).1
        | map _ _ _ hh => exact (Array.getElem?_eq_some_iff.1 hh).1
        | sit _ _ hh => exact (Array.getElem?_eq_some_iff.1 hh).1
        | mit _ _ _ _ hh => exact (Array.getElem?_eq_some_iff.1 hh).1
        | mitn hh => exact (Array.getElem?_eq_some_iff.1 hh).1
        | mapt _ _ _ _ _ hh => exact (Array.getElem?_eq_some_iff.1 hh).1
      simp only at he
      omega
    · have := hr.tiplt n _ hn
      omega)
  refine hn _ _ _ h3 (by simpa using h2.trans h4) (.tip m i.size [] (some e) _ (.nil _ _ _ (by simp)) ?_)
  intro ob hob
  simp only [upd_same, Option.some.injEq] at hob
  subst hob
  refine ⟨rfl, rfl, by show upd g.γ w.heap.size 0 w.heap.size = 0 + 0 * i.size; rw [upd_same, Nat.zero_mul], fun j h5 h6 => by simp at h5 h6, fun e' he' => ?_⟩
  cases he'
  exact ⟨rfl, _, by simp only [World.shape?, heap_alloc_new]; rfl⟩
end Go.Ab
set_option linter.unusedVariables false
set_option linter.unusedSimpArgs false
set_option linter.unnecessarySimpa false
namespace Go.Xl
open Go.Ab
section
variable (P : Program) {R : Type}
noncomputable def xBuildTip (st : XSt) (o : Oper) (t : TypeId) (K : Out → Option R) : Option R :=
  match sliceOfT P t, newLab o with
  | some (e, sz, bytes), some m =>
    match tyOf P 9 e with
    | some ty => cond (Nat.beq ty.size sz) (cond (freshL m st.live st) (K ⟨.lab, .tip m ty [] (some e), [], st.objs, m :: st.live, [m], []⟩) none) none
    | none => none
  | _, _ => none
noncomputable def isEmptyL {α : Type} (n : Nat) (l : List α) : Bool :=
  match n, l with
  | 0, [] => true
  | _, _ => false
variable {P}
theorem xBuildTip_ok {o : Oper} {st : XSt} {t : TypeId} {n : Nat} {parts : Array (Nat × Operand)} {K : Out → Option R} {r : R} (ho : o.op = .buildSlice t n parts) (he : isEmptyL n parts.toList = true) (h : xBuildTip P st o t K = some r) : ∃ out, K out = some r ∧ OpOk P o st out := by
  have hn : n = 0 ∧ parts = #[] := by
    unfold isEmptyL at he
    split at he
    · rename_i hp
      exact ⟨rfl, by apply Array.eq_empty_of_size_eq_zero; rw [← Array.length_toList, hp]; rfl⟩
    · cases he
  obtain ⟨rfl, rfl⟩ := hn
  unfold xBuildTip at h
  split at h
  · rename_i e sz bytes m hsl hm
    split at h
    · rename_i ty hty
      cases h1 : Nat.beq ty.size sz with
      | false => simp [h1] at h
      | true =>
      cases h3 : freshL m st.live st with
      | false => simp [h1, h3] at h
      | true =>
        simp only [h1, h3, cond_true] at h
        have e1 := Nat.eq_of_beq_eq_true h1
        subst e1
        obtain ⟨f1, f2⟩ := freshL_ok h3
        refine ⟨_, h, ⟨by simp [imRd], ⟨rfl, ?_⟩, fun _ _ _ h => h⟩⟩
        obtain ⟨hu, i, z, hi, hs, _⟩ := sliceOfT_I hsl
        have := op_buildSlice_empty (P := P) (X := st.X) m ho hu hi f1 f2
        rw [hs] at this
        exact this
    · cases h
  · cases h
end
end Go.Xl
set_option linter.unusedVariables false
set_option linter.unusedSimpArgs false
namespace Go.Ab
theorem HR.reob {nm : List Nat} {B : Base} {g : Gh} {w : World} {X Y : Store} (h : HR nm B g w X) (hl : Y.live = X.live) (ho : ∀ j o, Y.objs.lookup j = some o → ∃ o', X.objs.lookup j = some o' ∧ (ObRel g w (g.ρ j) o' → ObRel g w (g.ρ j) o))
    (hk : ∀ j ∈ nm, (Y.objs.lookup j).isSome) : HR nm B g w Y := by
  refine ⟨fun j hj => ⟨(h.keep j hj).1, hk j hj⟩, h.sane, h.base, h.io, h.le, h.frame, ?_, ?_, ?_, ?_, fun n => by rw [hl]; exact h.live n, h.tipinj, ?_, h.tipnew, h.tiplt, h.eta.same (Nat.le_refl _) fun j o hj => let ⟨o', h1, _⟩ := ho j o hj; ⟨o', h1⟩⟩
  · intro j o hj
    obtain ⟨o', h1, h2⟩ := ho j o hj
    exact h2 (h.objs j o' h1)
  · intro j o hj
    obtain ⟨o', h1, h2⟩ := ho j o hj
    exact h.objγ j o' h1
  · intro j j' o o' hj hj' he
    obtain ⟨p, h1, _⟩ := ho j o hj
    obtain ⟨p', h1', _⟩ := ho j' o' hj'
    exact h.objinj j j' p p' h1 h1' he
  · intro j o hj
    obtain ⟨o', h1, h2⟩ := ho j o hj
    exact h.objnew j o' h1
  · intro n b j o hn hj
    obtain ⟨o', h1, h2⟩ := ho j o hj
    exact h.tipobj n b j o' hn h1
section
variable {P : Program} {o : Oper} {X : Store}
theorem o_alloc_arr {t : TypeId} {cs : List AV} (k : Nat) (ho : o.op = .alloc t) (hz : ZeroI P t cs) (hk : X.objs.lookup k = none) (hX : objsFree [k] X = true) :
    OpT P o [] X ⟨(k, .cells cs none) :: X.objs, X.live⟩ [k] (.ptr k 0) := by
  intro nm hsm B g w a hr hrd next Q hn
  refine o_alloc k ho hz hk hX nm hsm B g w a hr hrd next Q ?_
  intro g' w' v h1 h2 h3
  refine hn g' w' v (h1.reob rfl ?_ ?_) h2 h3
  · intro j ob hj
    simp only [List.lookup_cons] at hj ⊢
    split at hj
    · cases hj
      refine ⟨_, rfl, fun h => ?_⟩
      cases h with
      | cells _ _ arr T a1 a2 a3 a4 => exact .cells _ _ arr T a1 a2 a3 (by simp)
    · exact ⟨ob, hj, id⟩
  · intro j hj
    have := (h1.keep j hj).2
    simp only [List.lookup_cons] at this ⊢
    split
    · rfl
    · rename_i he
      rw [he] at this
      exact this
theorem op_slice_arr {t e n sz : Nat} {x : Operand} {lo hi : Option Operand} {k : Nat} {l h : Int} {rd : List (Operand × AV)} {cs : List AV} {ty : Option TypeId} (ho : o.op = .slice t x lo hi none) (ht : ArrI P t e n sz)
    (hk : X.objs.lookup k = some (.cells cs ty)) (hn : n * sz ≤ cs.length) (h0 : 0 ≤ l) (h1 : l ≤ h) (h2 : h ≤ (n : Int))
    (hlo : match lo with | some y => ∃ j, (y, AV.d (.int j l)) ∈ rd | none => l = 0) (hhi : match hi with | some y => ∃ j, (y, AV.d (.int j h)) ∈ rd | none => h = (n : Int)) :
    OpT P o ((x, .ptr k 0) :: rd) X X [] (.osl k (l.toNat * sz) (h.toNat - l.toNat) sz) :=
  .quiet fun _ _ g w ac hr hrd => by
    have h3 := hrd (x, .ptr k 0) List.mem_cons_self
    simp only at h3
    have hx := h3.ptr_inv
    obtain ⟨hu, i, hi', hsz⟩ := ht
    obtain ⟨T, c, hsh, hc⟩ : ∃ T c, w.shape? (g.ρ k) = some (T, c) ∧ n * sz ≤ c := by
      cases hr.objs k _ hk with
      | cells _ _ arr T hb hl hc h4 => exact ⟨T, arr.size, by simp [World.shape?, hb], by omega⟩
    have key : RA g w (.osl k (l.toNat * sz) (h.toNat - l.toNat) sz) (.slice (some (if n = l.toNat then ⟨g.ρ k, 0, none⟩ else (⟨g.ρ k, 0, none⟩ : Addr).add (l.toNat * sz))) (h.toNat - l.toNat) (n - l.toNat)) := by
      refine .nm _ _ _ ?_
      by_cases hz : n = l.toNat
      · rw [if_pos hz]
        refine ⟨n - l.toNat, 0, by omega, rfl, .inl (by omega), T, c, hsh, ?_⟩
        rw [← hz, Nat.sub_self, Nat.zero_mul]; omega
      · rw [if_neg hz]
        refine ⟨n - l.toNat, l.toNat * sz, by omega, by simp [addr_add], .inr rfl, T, c, hsh, ?_⟩
        have : l.toNat * sz + (n - l.toNat) * sz = n * sz := by rw [← Nat.add_mul]; congr 1; omega
        omega
    refine ⟨_, ?_, key⟩
    simp only [execOp, ho, hx]
    have eh : ∀ y, hi = some y → ∃ j, ac.eval y = .int j h := by
      intro y hy
      subst hy
      obtain ⟨j, hj⟩ := hhi
      exact ⟨j, (hrd _ (List.mem_cons_of_mem _ hj)).sc_inv⟩
    have el : ∀ y, lo = some y → ∃ j, ac.eval y = .int j l := by
      intro y hy
      subst hy
      obtain ⟨j, hj⟩ := hlo
      exact ⟨j, (hrd _ (List.mem_cons_of_mem _ hj)).sc_inv⟩
    have bh : ∀ (y : Nat) (c : BoundsCode) (k : IntKind), h ≤ (y : Int) → (Instr.sliceBound (.int k h) y c).run P w = .ok h.toNat w := by
      intro y c k hy
      simp [Instr.sliceBound, asIntOf, show 0 ≤ h by omega, hy]
    have bl : ∀ (y : Nat) (c : BoundsCode) (k : IntKind), l ≤ (y : Int) → (Instr.sliceBound (.int k l) y c).run P w = .ok l.toNat w := by
      intro y c k hy
      simp [Instr.sliceBound, asIntOf, h0, hy]
    have hsize : (sizeOf e).run P w = .ok sz w := by rw [run_sizeOf hi', hsz]
    cases hi with
    | none =>
      simp only at hhi
      subst hhi
      have e5 : ((n : Nat) : Int).toNat = n := by omega
      cases lo with
      | none =>
        simp only at hlo
        subst hlo
        simp [Instr.sliceAt, Instr.sureAddr, Instr.sliceBounds, run_underlying hu, hsize]
      | some y =>
        obtain ⟨j, hj⟩ := el y rfl
        have b1 := bl n .sliceB j (by omega)
        simp [Instr.sliceAt, Instr.sureAddr, Instr.sliceBounds, run_underlying hu, hsize, hj, b1]
    | some y' =>
      obtain ⟨j', hj'⟩ := eh y' rfl
      have b2 := bh n .sliceAlen j' (by omega)
      have b3 := bh n .sliceAcap j' (by omega)
      cases lo with
      | none =>
        simp only at hlo
        subst hlo
        simp [Instr.sliceAt, Instr.sureAddr, Instr.sliceBounds, run_underlying hu, hsize, hj', b2, b3]
      | some y =>
        obtain ⟨j, hj⟩ := el y rfl
        have b1 := bl h.toNat .sliceB j (by omega)
        simp [Instr.sliceAt, Instr.sureAddr, Instr.sliceBounds, run_underlying hu, hsize, hj, hj', b1, b2, b3]
theorem bytes_string_run {γ : Nat → Nat} {w : World} {s d e : TypeId} {l : List UInt8} {v : Value} (hsane : ∀ b i, i < γ b → (w.cell? ⟨b, i, none⟩).isSome) (h1 : RD γ w (.sl 1 (byteEs l)) v)
    (hs : P.underlying s = some (.slice e)) (he : P.underlying e = some (.int .u8)) (hd : P.underlying d = some .string) : (convert s d v).run P w = .ok (.string ⟨l.toArray⟩) w := by
  obtain ⟨base, cap, rfl, hle, hb, _, cells, hcl, hrun, hc⟩ := h1.slCells (P := P) hsane
  have hcells : cells = (l.map fun b => (b.toNat : Int)).map (Value.int .u8) := by
    refine List.ext_getElem? fun i => ?_
    by_cases hi : i < l.length
    · have h2 : i < cells.length := by rw [hcl, byteEs_length]; omega
      have h3 := hc i 0 [.sc (.int .u8 l[i].toNat)] (.sc (.int .u8 l[i].toNat)) cells[i] (by simp [byteEs, hi]) rfl (by simp [h2])
      have h4 : cells[i] = Value.int .u8 l[i].toNat := RA.sc_inv (g := ⟨γ, fun _ => none, fun _ => 0, fun _ _ => none⟩) (w := w) (.d _ _ h3)
      simp [h2, h4, hi]
    · have h2 : ¬ i < cells.length := by rw [hcl, byteEs_length]; omega
      simp [Nat.le_of_not_lt hi, Nat.le_of_not_lt h2]
  rw [run_convert_bytes_string w s d e base (byteEs l).length cap hs he hd]
  cases base with
  | none =>
    have hl0 : l = [] := by
      have : cap = 0 := hb rfl
      have := byteEs_length l
      exact List.length_eq_zero_iff.1 (by omega)
    subst hl0
    rfl
  | some a =>
    have hl := hrun w fun _ _ _ => rfl
    have hfc : (Builtin.firstCells 1 (byteEs l).length (.slice (some a) (byteEs l).length cap)) = loadCells a ((byteEs l).length * 1) := rfl
    rw [hfc, Nat.mul_one] at hl
    rw [run_bytesToString w a _ cap (l.map fun b => (b.toNat : Int)) (by rw [hl, hcells]), foldl_push]
    simp
theorem op_bytes_string_osl {s d e : TypeId} {x : Operand} {k a len : Nat} {l : List UInt8} {ty : Option TypeId} (ho : o.op = .convert s d x) (hs : P.underlying s = some (.slice e)) (he : P.underlying e = some (.int .u8)) (hd : P.underlying d = some .string)
    (hk : X.objs.lookup k = some (.cells ((byteEs l).flatten.map .d) ty)) (hle : a + len ≤ l.length) :
    OpT P o [(x, .osl k (a * 1) len 1)] X X [] (.d (.bs ((l.drop a).take len))) :=
  .quiet fun _ _ g w ac hr hrd => by
    have h1 := rd0 hrd
    simp only at h1
    have h' : HR [] _ g w X := ⟨by simp, hr.sane, hr.base, hr.io, hr.le, hr.frame, hr.objs, hr.objγ, hr.objinj, hr.objnew, hr.live, hr.tipinj, hr.tipobj, hr.tipnew, hr.tiplt, hr.eta⟩
    obtain ⟨f1, f2, f3⟩ := h'.freeze (k := k) (sz := 1) (es := byteEs l) (by simp) hk (by
      intro i cs hc
      obtain ⟨b, _, rfl⟩ := byteEs_get hc
      rfl)
    have f4 := f3 a len _ (by simpa [byteEs_length] using hle) h1
    have e1 : ((byteEs l).drop a).take len = byteEs ((l.drop a).take len) := by simp [byteEs, List.map_take, List.map_drop]
    rw [e1] at f4
    cases f4 with
    | d _ _ f4 =>
      refine ⟨_, ?_, .ofSc _ _ _⟩
      simp only [execOp, ho]
      rw [Sem.run_bind, bytes_string_run f1.sane f4 hs he hd]
      rfl
end
end Go.Ab
set_option linter.unusedVariables false
set_option linter.unusedSimpArgs false
set_option linter.unnecessarySimpa false
namespace Go.Xl
open Go.Ab
section
variable {P : Program} {R : Type}
noncomputable def allZ8 : List Value → Bool
  | [] => true
  | .int .u8 (.ofNat 0) :: r => allZ8 r
  | _ :: _ => false
theorem allZ8_eq : ∀ {l : List Value}, allZ8 l = true → asOf (l.map fun v => XV.d (constX v)) = ((List.replicate l.length (0 : UInt8)).map Ty.u8.ds).flatten.map AV.d
  | [], _ => rfl
  | v :: r, h => by
    unfold allZ8 at h
    split at h
    · rename_i heq; cases heq
    · rename_i r' heq
      cases heq
      have := allZ8_eq (l := r) h
      simp only [List.map_cons, asOf, List.length_cons, List.replicate_succ, List.flatten_cons, List.map_append, this]
      rfl
    · cases h
noncomputable def zeroVs (P : Program) (t : TypeId) : Option (List Value) :=
  match P.info? t with
  | some i => match i.zero with
    | some z => some z.cells.toList
    | none => none
  | none => none
theorem zeroVs_I {t : TypeId} {l : List Value} (h : zeroVs P t = some l) : ZeroI P t (asOf (l.map fun v => XV.d (constX v))) := by
  unfold zeroVs at h
  split at h
  · rename_i i hi
    split at h
    · rename_i z hz
      cases h
      exact ⟨⟨i, z, hi, hz, zcells _⟩⟩
    · cases h
  · cases h
noncomputable def xAllocArr (P : Program) (st : XSt) (o : Oper) (t : TypeId) (K : Out → Option R) : Option R :=
  match newName o, zeroVs P t with
  | some k, some l => cond (fresh k st) (cond (allZ8 l) (K ⟨.all, .nm k (.p 0), [], (k, .arr .u8 (List.replicate l.length (0 : UInt8))) :: st.objs, st.live, [k], [k]⟩) none) none
  | _, _ => none
theorem xAllocArr_ok {o : Oper} {st : XSt} {t : TypeId} {K : Out → Option R} {r : R} (ho : o.op = .alloc t) (h : xAllocArr P st o t K = some r) : ∃ out, K out = some r ∧ OpOk P o st out := by
  unfold xAllocArr at h
  split at h
  · rename_i k l hk hz
    cases hf : fresh k st with
    | false => simp [hf] at h
    | true =>
    cases ha : allZ8 l with
    | false => simp [hf, ha] at h
    | true =>
      simp only [hf, ha, cond_true] at h
      obtain ⟨h1, h2⟩ := fresh_ok hf
      refine ⟨_, h, ⟨by simp [imRd], ?_, fun j z hj hz => ?_⟩⟩
      · have := o_alloc_arr (P := P) (X := st.X) k ho (zeroVs_I hz) (fresh_im h1) h2
        rw [allZ8_eq ha] at this
        exact this
      · rw [lk_cons_ne (by simpa using hj)] at hz; exact hz
  · cases h
noncomputable def xAllocAny (P : Program) (own : Bool) (st : XSt) (o : Oper) (t : TypeId) (K : Out → Option R) : Option R :=
  cond own (xAllocArr P st o t K) (xAlloc P st o t K)
theorem xAllocAny_ok {own : Bool} {o : Oper} {st : XSt} {t : TypeId} {K : Out → Option R} {r : R} (ho : o.op = .alloc t) (h : xAllocAny P own st o t K = some r) : ∃ out, K out = some r ∧ OpOk P o st out := by
  cases own with
  | true => exact xAllocArr_ok ho h
  | false => exact xAlloc_ok ho h
noncomputable def xSliceArr (P : Program) (st : XSt) (t : TypeId) (x : Operand) (lo hi : Option Operand) (k : Nat) (ty : Ty) (cs : List ty.T) (K : Out → Option R) : Option R :=
  match arrOfT P t with
  | some (_, n, sz) => match cutBound st 0 lo, cutBound st n hi with
    | some (l, r1), some (h, r2) => cond (Nat.beq ty.size sz) (cond (Nat.ble n cs.length) (cond (cutOk l h n)
        (K ⟨.look [k], .os k ty l.toNat (h.toNat - l.toNat), (x, .nm k (.p 0)) :: (r1 ++ r2), st.objs, st.live, [], []⟩) none) none) none
    | _, _ => none
  | none => none
theorem xSliceArr_ok {o : Oper} {st : XSt} {t : TypeId} {x : Operand} {lo hi : Option Operand} {k : Nat} {ty : Ty} {cs : List ty.T} {K : Out → Option R} {r : R} (ho : o.op = .slice t x lo hi none) (hx : xeval st x = some (.nm k (.p 0)))
    (hk : lk k st.objs = some (.arr ty cs)) (h : xSliceArr P st t x lo hi k ty cs K = some r) : ∃ out, K out = some r ∧ OpOk P o st out := by
  unfold xSliceArr at h
  split at h
  · rename_i e n sz hat
    split at h
    · rename_i l r1 hh r2 hlo hhi
      cases hb : Nat.beq ty.size sz with
      | false => simp [hb] at h
      | true =>
      cases hn : Nat.ble n cs.length with
      | false => simp [hb, hn] at h
      | true =>
      cases hc : cutOk l hh n with
      | false => simp [hb, hn, hc] at h
      | true =>
        simp only [hb, hn, hc, cond_true] at h
        have e1 := Nat.eq_of_beq_eq_true hb
        subst e1
        have hn' := Nat.le_of_ble_eq_true hn
        obtain ⟨c0, c1, c2⟩ := cutOk_iff hc
        obtain ⟨s1, m1, f1⟩ := cutBound_sees hlo
        obtain ⟨s2, m2, f2⟩ := cutBound_sees hhi
        refine ⟨_, h, ⟨sees_cutv hx s1 s2, ⟨rfl, rfl, rfl, fun X hX => ?_⟩, fun _ _ _ h => h⟩⟩
        have hkX : X.objs.lookup k = some (.cells ((cs.map ty.ds).flatten.map .d) none) := by
          rw [hX k (by simp)]; exact (by show (imObjs st.objs).lookup k = _; rw [im_objs, hk]; rfl)
        have hlen : ((cs.map ty.ds).flatten.map AV.d).length = cs.length * ty.size := by
          rw [List.length_map, flat_length (sz := ty.size) _ (by
            intro i c hc
            rw [List.getElem?_map, Option.map_eq_some_iff] at hc
            obtain ⟨z, _, rfl⟩ := hc
            exact ty.ds_length z), List.length_map]
        have := op_slice_arr (P := P) (X := X) (k := k) (rd := imRd (r1 ++ r2)) (l := l) (h := hh) ho (arrOfT_I hat) hkX (by rw [hlen]; exact Nat.mul_le_mul_right _ hn') c0 c1 c2 (by
          cases lo with
          | none => exact m1
          | some y => obtain ⟨j, hj⟩ := m1; exact ⟨j, by rw [imRd_append]; exact List.mem_append_left _ hj⟩) (by
          cases hi with
          | none => exact m2
          | some y => obtain ⟨j, hj⟩ := m2; exact ⟨j, by rw [imRd_append]; exact List.mem_append_right _ hj⟩)
        exact this
    · cases h
  · cases h
noncomputable def xSliceAll (P : Program) (st : XSt) (t : TypeId) (x : Operand) (lo hi mx : Option Operand) (K : Out → Option R) : Option R :=
  match mx, xeval st x with
  | none, some (.nm k (.p 0)) => match lk k st.objs with
    | some (.arr ty cs) => xSliceArr P st t x lo hi k ty cs K
    | _ => none
  | _, _ => xSliceAny P st t x lo hi mx K
theorem xSliceAll_ok {o : Oper} {st : XSt} {t : TypeId} {x : Operand} {lo hi mx : Option Operand} {K : Out → Option R} {r : R} (ho : o.op = .slice t x lo hi mx) (h : xSliceAll P st t x lo hi mx K = some r) : ∃ out, K out = some r ∧ OpOk P o st out := by
  unfold xSliceAll at h
  split at h
  · rename_i k hx
    split at h
    · rename_i ty cs hk; exact xSliceArr_ok ho hx hk h
    · cases h
  · exact xSliceAny_ok ho h
noncomputable def xConvAll (P : Program) (st : XSt) (s d : TypeId) (x : Operand) (K : Out → Option R) : Option R :=
  match xeval st x with
  | some (.os k .u8 a len) => match lk k st.objs with
    | some (.arr .u8 l) => match P.underlying s, P.underlying d with
      | some (.slice e), some .string => match P.underlying e with
        | some (.int .u8) => cond (Nat.ble (a + len) l.length) (K ⟨.look [k], .d (.s ((l.drop a).take len)), [(x, .os k .u8 a len)], st.objs, st.live, [], []⟩) none
        | _ => none
      | _, _ => none
    | _ => none
  | _ => xConv P st s d x K
theorem xConvAll_ok {o : Oper} {st : XSt} {s d : TypeId} {x : Operand} {K : Out → Option R} {r : R} (ho : o.op = .convert s d x) (h : xConvAll P st s d x K = some r) : ∃ out, K out = some r ∧ OpOk P o st out := by
  unfold xConvAll at h
  split at h
  · rename_i k a len hx
    split at h
    · rename_i l hk
      split at h
      · rename_i e hs hd
        split at h
        · rename_i he
          cases hb : Nat.ble (a + len) l.length with
          | false => simp [hb] at h
          | true =>
            simp only [hb, cond_true] at h
            refine ⟨_, h, ⟨sees1v hx, ⟨rfl, rfl, rfl, fun X hX => ?_⟩, fun _ _ _ h => h⟩⟩
            exact op_bytes_string_osl ho hs he hd (by rw [hX k (by simp)]; exact (by show (imObjs st.objs).lookup k = _; rw [im_objs, hk]; rfl)) (Nat.le_of_ble_eq_true hb)
        · cases h
      · cases h
    · cases h
  · exact xConv_ok ho h
end
end Go.Xl
set_option linter.unusedVariables false
set_option linter.unusedSimpArgs false
set_option linter.unnecessarySimpa false
namespace Go.Xl
open Go.Ab Go.Lib
noncomputable def listCase {α β : Type} (l : List α) (a : β) (f : α → List α → β) : β :=
  match l with
  | [] => a
  | y :: r => f y r
section
variable {P : Program} {R : Type}
noncomputable def ptrElem (P : Program) (t : TypeId) : Option TypeId :=
  match P.underlying t with
  | some (.pointer e) => match P.info? e with
    | some i => cond (Nat.beq i.size 0) none (some e)
    | none => none
  | _ => none
theorem ptrElem_ok {t e : TypeId} (h : ptrElem P t = some e) : P.underlying t = some (.pointer e) ∧ ∃ i, P.info? e = some i ∧ i.size ≠ 0 := by
  unfold ptrElem at h
  split at h
  · rename_i e' ht
    split at h
    · rename_i i hi
      cases hz : Nat.beq i.size 0 with
      | true => simp [hz] at h
      | false =>
        simp only [hz, cond_false, Option.some.injEq] at h
        subst h
        exact ⟨ht, i, hi, Nat.ne_of_beq_eq_false hz⟩
    · cases h
  · cases h
noncomputable def isNilP : XV → Option Bool
  | .nm _ (.p _) => some false
  | .nm _ (.z b _) => some b
  | .el _ _ _ _ => some false
  | .d (.v (.pointer none)) => some true
  | _ => none
theorem isNilP_ok {g : Gh} {w : World} {x : XV} {b : Bool} {v : Value} (h : isNilP x = some b) (hr : RA g w x.a v) : ∃ p, v = .pointer p ∧ p.isNone = b := by
  unfold isNilP at h
  split at h
  · cases h
    simp only [XV.a] at hr
    cases hr with
    | nm _ _ _ h => exact ⟨_, h, rfl⟩
  · rename_i k b' off
    cases h
    simp only [XV.a] at hr
    cases hr with
    | nm _ _ _ h =>
      cases b with
      | true => exact ⟨_, h, rfl⟩
      | false => exact ⟨_, h, rfl⟩
  · cases h
    simp only [XV.a] at hr
    cases hr with
    | nm _ _ _ h => exact ⟨_, h, rfl⟩
  · cases h
    simp only [XV.a, XD.d] at hr
    cases hr with
    | d _ _ h => cases h; exact ⟨_, rfl, rfl⟩
  · cases h
theorem run_ptr_nil {t e : TypeId} (ht : P.underlying t = some (.pointer e)) (p : Option Addr) (w : World) : (Op.equal t (.pointer p) (.pointer none)).run P w = .ok p.isNone w := by
  have h : ∀ d : Nat, (Op.equalIn (d + 1) t (.pointer p) (.pointer none)).run P w = .ok p.isNone w := by
    intro d
    cases p <;> simp [Op.equalIn, run_underlying ht]
  exact h 9999
theorem run_ptr_nil' {t e : TypeId} (ht : P.underlying t = some (.pointer e)) (p : Option Addr) (w : World) : (Op.equal t (.pointer none) (.pointer p)).run P w = .ok p.isNone w := by
  have h : ∀ d : Nat, (Op.equalIn (d + 1) t (.pointer none) (.pointer p)).run P w = .ok p.isNone w := by
    intro d
    cases p <;> simp [Op.equalIn, run_underlying ht]
  exact h 9999
noncomputable def negOp (neg : Bool) : BinOp := cond neg .neq .eql
theorem eqGuard_ptr (neg : Bool) (t : TypeId) (x y : Operand) (p q : Option Addr) : eqGuard (negOp neg) t x y (.pointer p) (.pointer q) = pure () := by
  cases neg <;> rfl
theorem op_ptr_nil {o : Oper} {X : Store} {t t' e : TypeId} {x y : Operand} {v : XV} {b : Bool} (neg : Bool) (ho : o.op = .binOp (negOp neg) t x y t') (ht : P.underlying t = some (.pointer e)) (hb : isNilP v = some b) :
    OpT P o [(x, v.a), (y, .d (.sc (.pointer none)))] X X [] (.d (.sc (.bool (cond neg (!b) b)))) :=
  .quiet fun _ _ g w ac _ hrd => by
    have h1 := rd0 hrd
    have h2 := (rd1 hrd).sc_inv
    simp only at h1 h2
    obtain ⟨p, hv, hp⟩ := isNilP_ok hb h1
    refine ⟨_, ?_, .ofSc _ _ _⟩
    simp only [execOp, ho, hv, h2]
    rw [eqGuard_ptr]
    cases neg <;> simp [negOp, binOp, run_ptr_nil ht, hp]
theorem op_ptr_same {o : Oper} {X : Store} {t t' e : TypeId} {x y : Operand} {k off : Nat} {b c : Bool} (neg : Bool) (ho : o.op = .binOp (negOp neg) t x y t') (ht : P.underlying t = some (.pointer e)) (hi : ∃ i, P.info? e = some i) (hbc : b = false ∨ c = false) :
    OpT P o [(x, .nm k (.z b off)), (y, .nm k (.z c off))] X X [] (.d (.sc (.bool (cond neg (b || c) (!(b || c)))))) :=
  .quiet fun _ _ g w ac _ hrd => by
    obtain ⟨i, hi⟩ := hi
    have h1 := rd0 hrd
    have h2 := rd1 hrd
    simp only at h1 h2
    have e1 : ac.eval x = cond b (.pointer none) (.pointer (some ⟨g.ρ k, off, none⟩)) := by cases h1 with | nm _ _ _ h => exact h
    have e2 : ac.eval y = cond c (.pointer none) (.pointer (some ⟨g.ρ k, off, none⟩)) := by cases h2 with | nm _ _ _ h => exact h
    refine ⟨_, ?_, .ofSc _ _ _⟩
    simp only [execOp, ho, e1, e2]
    have hs := fun a => run_eql_ptr_same (P := P) w (tp := t) a ht hi
    have hn := fun a => run_neq_ptr_same (P := P) w (tp := t) a ht hi
    cases b with
    | true =>
      rcases hbc with h | h
      · cases h
      · subst h
        simp only [cond_true, cond_false]
        rw [eqGuard_ptr]
        cases neg <;> simp [negOp, binOp, run_ptr_nil' ht]
    | false =>
      cases c with
      | true =>
        simp only [cond_true, cond_false]
        rw [eqGuard_ptr]
        cases neg <;> simp [negOp, binOp, run_ptr_nil ht]
      | false =>
        simp only [cond_false]
        rw [eqGuard_ptr]
        cases neg with
        | true => simp [negOp, hn]
        | false => simp [negOp, hs]
noncomputable def ptrV : XV → Option (Bool × Nat × Nat)
  | .nm k (.p off) => some (false, k, off)
  | .nm k (.z b off) => some (b, k, off)
  | _ => none
theorem ptrV_le {x : XV} {b : Bool} {k off : Nat} (h : ptrV x = some (b, k, off)) : ALe x.a (.nm k (.z b off)) := by
  unfold ptrV at h
  split at h
  · cases h
    intro g w v hr
    simp only [XV.a] at hr
    cases hr with
    | nm _ _ _ h => exact .nm _ _ _ h
  · cases h
    exact .refl _
  · cases h
noncomputable def isNilI : XV → Option Bool
  | .d (.er b) => some (!b)
  | .d (.v .nilIface) => some true
  | .d (.ic _ _ a) => some a.isNone
  | _ => none
theorem isNilI_ok {g : Gh} {w : World} {x : XV} {b : Bool} {v : Value} (h : isNilI x = some b) (hr : RA g w x.a v) : (b = true → v = .nilIface) ∧ (b = false → ∃ t u, v = .iface t u) := by
  unfold isNilI at h
  split at h
  · rename_i c
    simp only [Option.some.injEq] at h
    subst h
    simp only [XV.a, XD.d] at hr
    cases c with
    | true =>
      cases hr with
      | d _ _ h =>
        cases h with
        | any _ _ h1 h2 => exact ⟨by simp, fun _ => h1⟩
    | false =>
      cases hr with
      | d _ _ h =>
        cases h
        exact ⟨fun _ => rfl, by simp⟩
  · cases h
    simp only [XV.a, XD.d] at hr
    cases hr with
    | d _ _ h => cases h; exact ⟨fun _ => rfl, by simp⟩
  · rename_i u k a
    cases h
    simp only [XV.a, XD.d] at hr
    cases hr with
    | d _ _ h =>
      cases h
      cases a with
      | none => exact ⟨fun _ => rfl, by simp [Option.isNone]⟩
      | some n => exact ⟨by simp [Option.isNone], fun _ => ⟨u, _, rfl⟩⟩
  · cases h
theorem run_if_nil {t : TypeId} {ms : Array (String × TypeId)} (ht : P.underlying t = some (.interface ms)) {v : Value} {b : Bool} (hv : (b = true → v = .nilIface) ∧ (b = false → ∃ t u, v = .iface t u)) (w : World) : (Op.equal t v .nilIface).run P w = .ok b w := by
  have h : ∀ d : Nat, (Op.equalIn (d + 1) t v .nilIface).run P w = .ok b w := by
    intro d
    cases b with
    | true => rw [hv.1 rfl]; simp [Op.equalIn, run_underlying ht]
    | false =>
      obtain ⟨t', u, rfl⟩ := hv.2 rfl
      simp [Op.equalIn, run_underlying ht]
  exact h 9999
theorem eqGuard_if (neg : Bool) (t : TypeId) (x : Operand) (c : Value) (v : Value) {b : Bool} (hv : (b = true → v = .nilIface) ∧ (b = false → ∃ t u, v = .iface t u)) : eqGuard (negOp neg) t x (.const c) v .nilIface = pure () := by
  cases b with
  | true => rw [hv.1 rfl]; cases neg <;> cases x <;> rfl
  | false => obtain ⟨t', u, rfl⟩ := hv.2 rfl; cases neg <;> rfl
theorem op_if_nil {o : Oper} {X : Store} {t t' : TypeId} {ms : Array (String × TypeId)} {x : Operand} {c : Value} {v : XV} {b : Bool} (neg : Bool) (ho : o.op = .binOp (negOp neg) t x (.const c) t') (ht : P.underlying t = some (.interface ms)) (hb : isNilI v = some b) :
    OpT P o [(x, v.a), (.const c, .d (.sc .nilIface))] X X [] (.d (.sc (.bool (cond neg (!b) b)))) :=
  .quiet fun _ _ g w ac _ hrd => by
    have h1 := rd0 hrd
    have h2 := (rd1 hrd).sc_inv
    simp only at h1 h2
    have hv := isNilI_ok hb h1
    refine ⟨_, ?_, .ofSc _ _ _⟩
    simp only [execOp, ho, h2]
    rw [eqGuard_if neg t x c _ hv]
    cases neg <;> simp [negOp, binOp, run_if_nil ht hv]
noncomputable def negOf : BinOp → Option Bool
  | .eql => some false
  | .neq => some true
  | _ => none
theorem negOf_eq {op : BinOp} {neg : Bool} (h : negOf op = some neg) : op = negOp neg := by
  unfold negOf at h
  split at h
  · cases h; rfl
  · cases h; rfl
  · cases h
inductive NilK where
  | ptr
  | iface
  | none
noncomputable def nilK : Operand → NilK
  | .const (.pointer none) => .ptr
  | .const .nilIface => .iface
  | _ => .none
noncomputable def xBinP (P : Program) (st : XSt) (op : BinOp) (t : TypeId) (x y : Operand) (K : Out → Option R) : Option R :=
  match nilK y with
  | .ptr => match negOf op, ptrElem P t, xeval st x with
    | some neg, some _, some v => match isNilP v with
      | some b => K (quietO st (.d (.b (cond neg (!b) b))) [(x, v), (y, .d (.v (.pointer none)))])
      | none => none
    | _, _, _ => none
  | .iface => match negOf op, P.underlying t, xeval st x with
    | some neg, some (.interface _), some v => match isNilI v with
      | some b => K (quietO st (.d (.b (cond neg (!b) b))) [(x, v), (y, .d (.v .nilIface))])
      | none => none
    | _, _, _ => none
  | .none => match negOf op, ptrElem P t with
    | some neg, some _ => match xeval st x, xeval st y with
      | some v, some u => match ptrV v, ptrV u with
        | some (b, k, off), some (c, k', off') => cond (Nat.beq k k') (cond (Nat.beq off off') (cond b (cond c none
            (K (quietO st (.d (.b (cond neg true false))) [(x, .nm k (.z true off)), (y, .nm k (.z false off))])))
            (K (quietO st (.d (.b (cond neg c (!c)))) [(x, .nm k (.z false off)), (y, .nm k (.z c off))]))) none) none
        | _, _ => none
      | _, _ => none
    | _, _ => xBinAny P st op t x y K
theorem xeval_le {st : XSt} {x : Operand} {v y : XV} (h : xeval st x = some v) (hle : ALe v.a y.a) (hnc : ptrV v ≠ none) : Sees st.im x y.a := by
  cases x with
  | tmp t => exact .tmp t _ (xeval_tmp h).1 (lk_has (xeval_tmp h).2 hle)
  | const u =>
    simp only [xeval, Option.some.injEq] at h
    subst h
    simp [ptrV] at hnc
  | func f =>
    simp only [xeval, Option.some.injEq] at h
    subst h
    simp [ptrV] at hnc
  | global k => exact .glob k _ (lk_has h hle)
theorem xBinP_ok {o : Oper} {st : XSt} {op : BinOp} {t t' : TypeId} {x y : Operand} {K : Out → Option R} {r : R} (ho : o.op = .binOp op t x y t') (h : xBinP P st op t x y K = some r) : ∃ out, K out = some r ∧ OpOk P o st out := by
  unfold xBinP at h
  have seesN : ∀ (c : Value), y = .const c → ∀ v, xeval st x = some v → ∀ p ∈ imRd [(x, v), (y, XV.d (.v c))], Sees st.im p.1 p.2 := by
    intro c hy v hv p hp
    simp only [imRd, List.map_cons, List.map_nil, List.mem_cons, List.not_mem_nil, or_false] at hp
    rcases hp with rfl | rfl
    · exact xeval_sees hv
    · rw [hy]; exact .const _ _ fun _ _ => .sc _
  split at h
  · rename_i hy
    have hy : y = .const (.pointer none) := by
      unfold nilK at hy
      split at hy <;> first | rfl | cases hy
    split at h
    · rename_i neg e v hn he hv
      split at h
      · rename_i b hb
        have := negOf_eq hn
        subst this
        exact ⟨_, h, quietO_ok (seesN _ hy v hv) fun X => op_ptr_nil neg ho (ptrElem_ok he).1 hb⟩
      · cases h
    · cases h
  · rename_i hy
    have hy : y = .const .nilIface := by
      unfold nilK at hy
      split at hy <;> first | rfl | cases hy
    split at h
    · rename_i neg ms v hn he hv
      split at h
      · rename_i b hb
        have := negOf_eq hn
        subst this
        subst hy
        exact ⟨_, h, quietO_ok (seesN _ rfl v hv) fun X => op_if_nil neg ho he hb⟩
      · cases h
    · cases h
  · split at h
    · rename_i neg e hn he
      split at h
      · rename_i v u hv hu
        split at h
        · rename_i b k off c k' off' hpv hpu
          cases h1 : Nat.beq k k' with
          | false => simp [h1] at h
          | true =>
          cases h2 : Nat.beq off off' with
          | false => simp [h1, h2] at h
          | true =>
            have e1 := Nat.eq_of_beq_eq_true h1
            have e2 := Nat.eq_of_beq_eq_true h2
            subst e1; subst e2
            have := negOf_eq hn
            subst this
            obtain ⟨ht, i, hi, _⟩ := ptrElem_ok he
            have sees : ∀ p ∈ imRd [(x, XV.nm k (.z b off)), (y, XV.nm k (.z c off))], Sees st.im p.1 p.2 := by
              intro p hp
              simp only [imRd, List.map_cons, List.map_nil, List.mem_cons, List.not_mem_nil, or_false] at hp
              rcases hp with rfl | rfl
              · exact xeval_le hv (ptrV_le hpv) (by rw [hpv]; simp)
              · exact xeval_le hu (ptrV_le hpu) (by rw [hpu]; simp)
            cases b with
            | true =>
              cases c with
              | true => simp [h1, h2] at h
              | false =>
                simp only [h1, h2, cond_true, cond_false] at h
                refine ⟨_, h, quietO_ok sees fun X => ?_⟩
                have := op_ptr_same (X := X) neg ho ht ⟨i, hi⟩ (k := k) (off := off) (b := true) (c := false) (.inr rfl)
                simp only [Bool.true_or, Bool.not_true] at this
                exact this
            | false =>
              simp only [h1, h2, cond_true, cond_false] at h
              refine ⟨_, h, quietO_ok sees fun X => ?_⟩
              have := op_ptr_same (X := X) neg ho ht ⟨i, hi⟩ (k := k) (off := off) (b := false) (c := c) (.inl rfl)
              simp only [Bool.false_or] at this
              exact this
        · cases h
      · cases h
    · exact xBinAny_ok ho h
noncomputable def xConvP (P : Program) (st : XSt) (s d : TypeId) (x : Operand) (K : Out → Option R) : Option R :=
  match xeval st x with
  | some (.nm k (.p off)) => match lk k st.objs with
    | some (.cells cs (some T)) => match P.underlying d with
      | some .unsafePointer => match ptrElem P s with
        | some t => cond (Nat.ble (off + 1) cs.length) (K ⟨.look [k], .nm k (.p off), [(x, .nm k (.p off))], st.objs, st.live, [], []⟩) none
        | none => none
      | _ => match P.underlying s, ptrElem P d with
        | some .unsafePointer, some t => cond (Nat.beq t T) (cond (Nat.beq off 0) (cond (Nat.beq (P.cellsOf T) cs.length) (cond (Nat.beq cs.length 0) none (K ⟨.look [k], .nm k (.p 0), [(x, .nm k (.p 0))], st.objs, st.live, [], []⟩)) none) none) none
        | _, _ => none
    | _ => none
  | _ => xConvAll P st s d x K
theorem xConvP_ok {o : Oper} {st : XSt} {s d : TypeId} {x : Operand} {K : Out → Option R} {r : R} (ho : o.op = .convert s d x) (h : xConvP P st s d x K = some r) : ∃ out, K out = some r ∧ OpOk P o st out := by
  unfold xConvP at h
  split at h
  · rename_i k off hx
    split at h
    · rename_i cs T hk
      have hlk : st.X.objs.lookup k = some (.cells (asOf cs) (some T)) := by show (imObjs st.objs).lookup k = _; rw [im_objs, hk]; rfl
      split at h
      · rename_i hd
        split at h
        · rename_i t ht
          cases hb : Nat.ble (off + 1) cs.length with
          | false => simp [hb] at h
          | true =>
            simp only [hb, cond_true] at h
            obtain ⟨h1, h2⟩ := ptrElem_ok ht
            refine ⟨_, h, ⟨sees1v hx, ⟨rfl, rfl, rfl, fun X hX => ?_⟩, fun _ _ _ h => h⟩⟩
            exact op_to_unsafe' ho (by rw [hX k (by simp)]; exact hlk) (by rw [asOf_length]; exact Nat.le_of_ble_eq_true hb) h1 hd h2
        · cases h
      · split at h
        · rename_i t hs ht
          cases h1 : Nat.beq t T with
          | false => simp [h1] at h
          | true =>
          cases h2 : Nat.beq off 0 with
          | false => simp [h1, h2] at h
          | true =>
          cases h3 : Nat.beq (P.cellsOf T) cs.length with
          | false => simp [h1, h2, h3] at h
          | true =>
          cases h4 : Nat.beq cs.length 0 with
          | true => simp [h1, h2, h3, h4] at h
          | false =>
            simp only [h1, h2, h3, h4, cond_true, cond_false] at h
            have e1 := Nat.eq_of_beq_eq_true h1
            have e2 := Nat.eq_of_beq_eq_true h2
            subst e1; subst e2
            obtain ⟨g1, g2⟩ := ptrElem_ok ht
            refine ⟨_, h, ⟨sees1v hx, ⟨rfl, rfl, rfl, fun X hX => ?_⟩, fun _ _ _ h => h⟩⟩
            exact op_from_unsafe' ho (by rw [hX k (by simp)]; exact hlk) hs g1 g2 (by rw [asOf_length]; exact Nat.eq_of_beq_eq_true h3) (by rw [asOf_length]; exact Nat.ne_of_beq_eq_false h4)
        · cases h
    · cases h
  · exact xConvAll_ok ho h
theorem op_sliceData_empty {o : Oper} {X : Store} {ts : Array TypeId} {x : Operand} {n e e' : Nat} (ho : o.op = .call { callee := .builtin .unsafeSliceData, args := #[x], argTypes := ts }) (hn : n ∈ X.live) (ht : P.underlying o.type = some (.pointer e')) :
    OpT P o [(x, .tip n 1 [] (some e))] X X [] (.d (.any isPtrV)) := by
  intro nm hsm B g w a hr hrd next Q hnext
  have h1 := rd0 hrd
  simp only at h1
  obtain ⟨ob, hob⟩ := Option.isSome_iff_exists.1 ((hr.live n).1 hn)
  have done : ∀ p w', (execOp a.eval o).run P w = .ok (.value (.pointer p)) w' → HR nm B g w' X → Trans [] g w g w' → o.wp P a w next Q := by
    intro p w' hrun h2 h3
    unfold Oper.wp
    rw [hrun]
    exact hnext g w' _ h2 h3 (.d _ _ (.any _ _ ⟨p, rfl⟩ rfl))
  generalize hv : a.eval x = v at h1
  cases h1 with
  | tip _ _ _ _ _ h1 h2 =>
    have hsl : ∃ ad len cap, v = .slice ad len cap := by
      generalize hE : ([] : List (List D)) = E at h1
      cases h1 with
      | nil => exact ⟨_, _, _, rfl⟩
      | sl => exact ⟨_, _, _, rfl⟩
    obtain ⟨ad, len, cap, rfl⟩ := hsl
    cases ad with
    | none =>
      refine done none w ?_ hr (.refl _ _ _)
      simp [execOp, ho, resolve, hv, invoke, builtin, run_unsafeSliceData_nil]
    | some ad =>
      obtain ⟨_, _, _, _, h5⟩ := h2 ob hob
      obtain ⟨_, c, h6⟩ := h5 e rfl
      by_cases hc : cap = 0
      · subst hc
        have hg := hr.grow (w' := w.alloc (.view ad e')) (by simp) (fun b hb => heap_old w _ hb) ⟨rfl, rfl, rfl, Nat.le_refl _⟩
        refine done (some ⟨w.heap.size, 0, none⟩) _ ?_ hg.1 hg.2
        simp [execOp, ho, resolve, hv, invoke, builtin, run_unsafeSliceData_zero w ts o.type e' ht ad len _ h6]
      · refine done (some ad) w ?_ hr (.refl _ _ _)
        simp [execOp, ho, resolve, hv, invoke, builtin, run_unsafeSliceData_row w _ _ _ _ _ hc]
theorem run_unsafeString_any (w : World) {pt it ty e : TypeId} (hp : P.underlying pt = some (.pointer e)) (p : Option Addr) : (Builtin.unsafeString_ #[pt, it] ty #[.pointer p, .int .i64 0]).run P w = .ok (.string .empty) w := by
  cases p with
  | none => rfl
  | some a => rfl
theorem op_string_any {o : Oper} {X : Store} {x y : Operand} {pt it e : TypeId} (ho : o.op = .call { callee := .builtin .unsafeString, args := #[x, y], argTypes := #[pt, it] }) (hp : P.underlying pt = some (.pointer e)) :
    OpT P o [(x, .d (.any isPtrV)), (y, .d (.sc (.int .i64 0)))] X X [] (.d (.sc (.string .empty))) :=
  .quiet fun _ _ g w ac hr hrd => by
    have h1 := rd0 hrd
    have h2 := (rd1 hrd).sc_inv
    simp only at h1 h2
    have h3 : ∃ p, ac.eval x = .pointer p := by
      cases h1 with
      | d _ _ h => cases h with
        | any _ _ h _ => exact h
    obtain ⟨p, h3⟩ := h3
    refine ⟨.string .empty, ?_, .ofSc _ _ _⟩
    simp [execOp, ho, resolve, h3, h2, invoke, builtin, run_unsafeString_any w hp]
noncomputable def xSliceData (P : Program) (st : XSt) (o : Oper) (x : Operand) (K : Out → Option R) : Option R :=
  match xeval st x with
  | some (.tip n .u8 l (some e)) => listCase l
      (match P.underlying o.type with
      | some (.pointer _) => cond (inl n st.live) (K ⟨.lab, .d .pp, [(x, .tip n .u8 [] (some e))], st.objs, st.live, [], []⟩) none
      | _ => none)
      fun a r => K (quietO st (.tpt n e a r) [(x, .tip n .u8 (a :: r) (some e))])
  | some (.d (.v (.slice none 0 0))) => K (quietO st (.d (.v (.pointer none))) [(x, .d (.v (.slice none 0 0)))])
  | _ => none
theorem xSliceData_ok {o : Oper} {st : XSt} {ts : Array TypeId} {x : Operand} {K : Out → Option R} {r : R} (ho : o.op = .call { callee := .builtin .unsafeSliceData, args := #[x], argTypes := ts }) (h : xSliceData P st o x K = some r) : ∃ out, K out = some r ∧ OpOk P o st out := by
  unfold xSliceData at h
  split at h
  · rename_i n l e hx
    cases l with
    | nil =>
      simp only [listCase] at h
      split at h
      · rename_i e' he
        cases hb : inl n st.live with
        | false => simp [hb] at h
        | true =>
          simp only [hb, cond_true] at h
          refine ⟨_, h, ⟨sees1v hx, ⟨rfl, ?_⟩, fun _ _ _ h => h⟩⟩
          exact op_sliceData_empty ho ((inl_eq _ _).1 hb) he
      · cases h
    | cons a l =>
      simp only [listCase] at h
      exact ⟨_, h, quietO_ok (sees1v hx) fun X => op_sliceData (l := a :: l) ho (by simp)⟩
  · rename_i hx
    exact ⟨_, h, quietO_ok (sees1v hx) fun X => op_sliceData_nil ho⟩
  · cases h
noncomputable def xUnsafeString (P : Program) (st : XSt) (ts : Array TypeId) (x y : Operand) (K : Out → Option R) : Option R :=
  match ts.toList with
  | [pt, it] => match P.underlying pt with
    | some (.pointer e') => match xeval st x, xd st y with
      | some (.tpt n e a l), some (.i .i64 m) => cond (m == (((a :: l).length : Nat) : Int)) (cond (inl n st.live) (cond (Nat.beq e' e) (cond (Nat.beq (P.cellsOf e) 1) (cond (decide ((a :: l).length ≤ 9223372036854775807))
          (K ⟨.lab, .d (.s (a :: l)), [(x, .tpt n e a l), (y, .d (.i .i64 m))], st.objs, without n st.live, [], []⟩) none) none) none) none) none
      | some (.d .pp), some (.i .i64 m) => cond (m == 0) (K (quietO st (.d (.s [])) [(x, .d .pp), (y, .d (.i .i64 m))])) none
      | some (.d (.v (.pointer none))), some (.i .i64 m) => cond (m == 0) (K (quietO st (.d (.s [])) [(x, .d (.v (.pointer none))), (y, .d (.i .i64 m))])) none
      | _, _ => none
    | _ => none
  | _ => none
theorem sees2w {st : XSt} {x y : Operand} {v : XV} {b : XD} (h : xeval st x = some v) (h' : xd st y = some b) : ∀ p ∈ imRd [(x, v), (y, .d b)], Sees st.im p.1 p.2 := by
  intro p hp
  simp only [imRd, List.map_cons, List.map_nil, List.mem_cons, List.not_mem_nil, or_false] at hp
  rcases hp with rfl | rfl
  · exact xeval_sees h
  · exact xd_at h'
theorem xUnsafeString_ok {o : Oper} {st : XSt} {ts : Array TypeId} {x y : Operand} {K : Out → Option R} {r : R} (ho : o.op = .call { callee := .builtin .unsafeString, args := #[x, y], argTypes := ts }) (h : xUnsafeString P st ts x y K = some r) : ∃ out, K out = some r ∧ OpOk P o st out := by
  unfold xUnsafeString at h
  split at h
  · rename_i pt it hts
    have : ts = #[pt, it] := Array.toList_inj.1 hts
    subst this
    split at h
    · rename_i e' hp
      split at h
      · rename_i n e a l m hx hy
        cases h1 : (m == (((a :: l).length : Nat) : Int)) with
        | false => simp only [h1, cond_false] at h; cases h
        | true =>
        cases h2 : inl n st.live with
        | false => simp [h1, h2] at h
        | true =>
        cases h3 : Nat.beq e' e with
        | false => simp [h1, h2, h3] at h
        | true =>
        cases h4 : Nat.beq (P.cellsOf e) 1 with
        | false => simp [h1, h2, h3, h4] at h
        | true =>
        cases h5 : decide ((a :: l).length ≤ 9223372036854775807) with
        | false => simp only [h1, h2, h3, h4, h5, cond_true, cond_false] at h; cases h
        | true =>
          simp only [h1, h2, h3, h4, h5, cond_true] at h
          have e1 := Nat.eq_of_beq_eq_true h3
          subst e1
          have hm := eq_of_beq h1
          subst hm
          refine ⟨_, h, ⟨sees2w hx hy, ⟨rfl, ?_⟩, fun _ _ _ h => h⟩⟩
          exact op_string (l := a :: l) ho ((inl_eq _ _).1 h2) (by simp) hp (Nat.eq_of_beq_eq_true h4) (of_decide_eq_true h5)
      · rename_i m hx hy
        cases h1 : (m == 0) with
        | false => simp [h1] at h
        | true =>
          simp only [h1, cond_true] at h
          have hm := eq_of_beq h1
          subst hm
          exact ⟨_, h, quietO_ok (sees2w hx hy) fun X => op_string_any ho hp⟩
      · rename_i m hx hy
        cases h1 : (m == 0) with
        | false => simp [h1] at h
        | true =>
          simp only [h1, cond_true] at h
          have hm := eq_of_beq h1
          subst hm
          exact ⟨_, h, quietO_ok (sees2w hx hy) fun X => op_string_nil ho⟩
      · cases h
    · cases h
  · cases h
end
end Go.Xl
set_option linter.unusedVariables false
set_option linter.unusedSimpArgs false
set_option linter.unnecessarySimpa false
namespace Go.Xl
open Go.Ab
noncomputable def dec8 (s : List UInt8) (pos : Nat) : Int × Nat := ((Utf8.decode ⟨s.toArray⟩ pos).1, (Utf8.decode ⟨s.toArray⟩ pos).2)
section
variable {P : Program} {R : Type}
theorem run_setObj_it {w : World} {r : Nat} {s : ByteArray} {p : Nat} (hr : w.heap[r]? = some (.stringIter s p)) (o' : Obj) : (setObj r o').run P w = .ok () { w with heap := w.heap.setIfInBounds r o' } := by
  simp [setObj, Sem.run, hr]
theorem run_getObj_it {w : World} {r : Nat} {s : ByteArray} {p : Nat} (hr : w.heap[r]? = some (.stringIter s p)) : (getObj r).run P w = .ok (.stringIter s p) w := by
  simp [getObj, Sem.run, hr]
theorem op_range_str {o : Oper} {X : Store} {t : TypeId} {x : Operand} {s : List UInt8} (k : Nat) (ho : o.op = .range t x) (ht : P.underlying t = some .string) (hk : X.objs.lookup k = none) (hX : objsFree [k] X = true) :
    OpT P o [(x, .d (.bs s))] X ⟨(k, .sit ⟨s.toArray⟩ 0) :: X.objs, X.live⟩ [k] (.ptr k 0) := by
  intro nm hsm B g w a hr hrd next Q hn
  have e1 := (rd0 hrd).sc_inv
  simp only at e1
  obtain ⟨h1, h2⟩ := hr.newObj hk hX (.stringIter ⟨s.toArray⟩ 0) (.sit ⟨s.toArray⟩ 0) (by
    intro g' w' _ hw
    exact .sit _ _ hw)
  unfold Oper.wp
  have : (execOp a.eval o).run P w = .ok (.value (.pointer (some ⟨w.heap.size, 0, none⟩))) (w.alloc (.stringIter ⟨s.toArray⟩ 0)) := by
    simp only [execOp, ho, e1]
    simp [Instr.range, run_underlying ht]
  rw [this]
  refine hn _ _ _ h1 h2 ?_
  have := RA.ptr (g := { g with ρ := upd g.ρ k w.heap.size }) (w := w.alloc (.stringIter ⟨s.toArray⟩ 0)) k 0
  simpa [upd_same] using this
theorem op_next_str {o : Oper} {X : Store} {x : Operand} {k : Nat} {s : List UInt8} {pos : Nat} (ho : o.op = .next x true) (hk : X.objs.lookup k = some (.sit ⟨s.toArray⟩ pos)) (hp : pos < s.length) :
    OpT P o [(x, .ptr k 0)] X ⟨Ab.setObj k (.sit ⟨s.toArray⟩ (pos + (dec8 s pos).2)) X.objs, X.live⟩ [] (.tup [.d (.sc (.bool true)), .d (.sc (.int .i64 (pos : Int))), .d (.sc (.int .i32 (dec8 s pos).1))]) := by
  intro nm hsm B g w a hr hrd next Q hn
  have e1 := (rd0 hrd).ptr_inv
  simp only at e1
  have hb : w.heap[g.ρ k]? = some (.stringIter ⟨s.toArray⟩ pos) := by
    cases hr.objs k _ hk with
    | sit _ _ h => exact h
  have hlt : g.ρ k < w.heap.size := (Array.getElem?_eq_some_iff.1 hb).1
  obtain ⟨h1, h2⟩ := hr.write (w' := { w with heap := w.heap.setIfInBounds (g.ρ k) (.stringIter ⟨s.toArray⟩ (pos + (dec8 s pos).2)) }) (o' := .sit ⟨s.toArray⟩ (pos + (dec8 s pos).2)) hk (by simp) ⟨rfl, rfl, rfl, Nat.le_refl _⟩
    (by intro b hb'; simp [Array.getElem?_setIfInBounds, Ne.symm hb']) (fun _ => .sit _ _ (by simp [Array.getElem?_setIfInBounds, hlt])) (by
      intro sh hsh
      simp [World.shape?, hb] at hsh)
  unfold Oper.wp
  have : (execOp a.eval o).run P w = .ok (.value (.tuple #[.bool true, goInt pos, .int .i32 (dec8 s pos).1])) { w with heap := w.heap.setIfInBounds (g.ρ k) (.stringIter ⟨s.toArray⟩ (pos + (dec8 s pos).2)) } := by
    have hsz : pos < (⟨s.toArray⟩ : ByteArray).size := by show pos < s.toArray.size; simpa using hp
    simp only [execOp, ho, e1, Instr.next, Sem.run_bind, run_getObj_it hb, Result.andThen, hsz, if_true, run_setObj_it hb, dec8]
    simp
  rw [this]
  refine hn _ _ _ h1 h2 ?_
  refine .tup _ _ rfl fun i c u hc hu => ?_
  rcases i with _ | _ | _ | i
  · simp at hc hu; subst hc; subst hu; exact .ofSc _ _ _
  · simp at hc hu; subst hc; subst hu; exact .ofSc _ _ _
  · simp at hc hu; subst hc; subst hu; exact .ofSc _ _ _
  · simp at hc
theorem op_next_over {o : Oper} {X : Store} {x : Operand} {k : Nat} {s : List UInt8} {pos : Nat} (ho : o.op = .next x true) (hk : X.objs.lookup k = some (.sit ⟨s.toArray⟩ pos)) (hp : ¬ pos < s.length) :
    OpT P o [(x, .ptr k 0)] X X [] (.tup [.d (.sc (.bool false))]) :=
  .quiet fun _ _ g w ac hr hrd => by
    have e1 := (rd0 hrd).ptr_inv
    simp only at e1
    have hb : w.heap[g.ρ k]? = some (.stringIter ⟨s.toArray⟩ pos) := by
      cases hr.objs k _ hk with
      | sit _ _ h => exact h
    have hsz : ¬ pos < (⟨s.toArray⟩ : ByteArray).size := by show ¬ pos < s.toArray.size; simpa using hp
    refine ⟨.tuple #[.bool false], ?_, ?_⟩
    · simp only [execOp, ho, e1, Instr.next, Sem.run_bind, run_getObj_it hb, Result.andThen, hsz, if_false]
      simp
    · refine .tup _ _ rfl fun i c u hc hu => ?_
      rcases i with _ | i
      · simp at hc hu; subst hc; subst hu; exact .ofSc _ _ _
      · simp at hc
noncomputable def xRange (P : Program) (st : XSt) (o : Oper) (t : TypeId) (x : Operand) (K : Out → Option R) : Option R :=
  match P.underlying t with
  | some .string => match xd st x, newName o with
    | some (.s l), some m => cond (fresh m st) (K ⟨.all, .nm m (.p 0), [(x, .d (.s l))], (m, .sit l 0) :: st.objs, st.live, [m], [m]⟩) none
    | _, _ => none
  | _ => none
theorem xRange_ok {o : Oper} {st : XSt} {t : TypeId} {x : Operand} {K : Out → Option R} {r : R} (ho : o.op = .range t x) (h : xRange P st o t x K = some r) : ∃ out, K out = some r ∧ OpOk P o st out := by
  unfold xRange at h
  split at h
  · rename_i ht
    split at h
    · rename_i l m hx hm
      cases hf : fresh m st with
      | false => simp [hf] at h
      | true =>
        simp only [hf, cond_true] at h
        obtain ⟨h1, h2⟩ := fresh_ok hf
        refine ⟨_, h, ⟨sees1 hx, ?_, fun j z hj hz => ?_⟩⟩
        · exact op_range_str m ho ht (fresh_im h1) h2
        · rw [lk_cons_ne (by simpa using hj)] at hz; exact hz
    · cases h
  · cases h
noncomputable def xNext (st : XSt) (x : Operand) (str : Bool) (K : Out → Option R) : Option R :=
  cond str (match xeval st x with
    | some (.nm k (.p 0)) => match lk k st.objs with
      | some (.sit s pos) => cond (Nat.blt pos s.length)
          (K ⟨.put k (.sit s (pos + (dec8 s pos).2)), .tup [.d (.b true), .d (.i .i64 (pos : Int)), .d (.i .i32 (dec8 s pos).1)], [(x, .nm k (.p 0))], xset k (.sit s (pos + (dec8 s pos).2)) st.objs, st.live, [], [k]⟩)
          (K ⟨.look [k], .tup [.d (.b false)], [(x, .nm k (.p 0))], st.objs, st.live, [], []⟩)
      | _ => none
    | _ => none) none
theorem xNext_ok {o : Oper} {st : XSt} {x : Operand} {str : Bool} {K : Out → Option R} {r : R} (ho : o.op = .next x str) (h : xNext st x str K = some r) : ∃ out, K out = some r ∧ OpOk P o st out := by
  unfold xNext at h
  cases str with
  | false => cases h
  | true =>
    simp only [cond_true] at h
    split at h
    · rename_i k hx
      split at h
      · rename_i s pos hk
        have hlk : st.X.objs.lookup k = some (.sit ⟨s.toArray⟩ pos) := by show (imObjs st.objs).lookup k = _; rw [im_objs, hk]; rfl
        cases hb : Nat.blt pos s.length with
        | true =>
          simp only [hb, cond_true] at h
          refine ⟨_, h, ⟨sees1v hx, ⟨rfl, rfl, rfl, fun X hX => ?_⟩, fun j z hj hz => ?_⟩⟩
          · exact op_next_str ho (hX.trans hlk) (by simpa [Nat.blt_eq] using hb)
          · simp only [List.mem_cons, List.not_mem_nil, or_false] at hj
            rwa [lk_xset _ _ _ _ hj] at hz
        | false =>
          simp only [hb, cond_false] at h
          refine ⟨_, h, ⟨sees1v hx, ⟨rfl, rfl, rfl, fun X hX => ?_⟩, fun _ _ _ h => h⟩⟩
          exact op_next_over ho ((hX k (by simp)).trans hlk) (by
            intro hlt
            have : Nat.blt pos s.length = true := by simpa [Nat.blt_eq] using hlt
            rw [hb] at this; cases this)
      · cases h
    · cases h
end
end Go.Xl
set_option linter.unusedVariables false
set_option linter.unusedSimpArgs false
set_option linter.unnecessarySimpa false
namespace Go.Xl
open Go.Ab
section
variable {P : Program} {R : Type}
noncomputable def notIface (P : Program) (t : TypeId) : Bool :=
  match P.underlying t with
  | some (.interface _) => false
  | some _ => true
  | none => false
theorem run_makeInterface {t : TypeId} (h : notIface P t = true) (v : Value) (w : World) : (Instr.makeInterface t v).run P w = .ok (.iface t v) w := by
  unfold notIface at h
  split at h
  · cases h
  · rename_i d hd hne
    have : ∀ d', P.underlying t = some d' → (∀ ms, d' ≠ .interface ms) → (Instr.makeInterface t v).run P w = .ok (.iface t v) w := by
      intro d' h1 h2
      simp only [Instr.makeInterface, Sem.run_bind, run_underlying h1, Result.andThen]
      cases d' with
      | interface ms => exact absurd rfl (h2 _)
      | _ => rfl
    exact this _ hne (fun ms e => hd ms e)
  · cases h
noncomputable def xMakeInterface (P : Program) (st : XSt) (t : TypeId) (x : Operand) (K : Out → Option R) : Option R :=
  cond (notIface P t) (match xeval st x with
    | some (.d (.i k n)) => K (quietO st (.d (.ic t k (some n))) [(x, .d (.i k n))])
    | some v => K (quietO st (.d (.er true)) [(x, v)])
    | none => none) none
theorem xMakeInterface_ok {o : Oper} {st : XSt} {t : TypeId} {x : Operand} {K : Out → Option R} {r : R} (ho : o.op = .makeInterface t x) (h : xMakeInterface P st t x K = some r) : ∃ out, K out = some r ∧ OpOk P o st out := by
  unfold xMakeInterface at h
  cases hn : notIface P t with
  | false => simp [hn] at h
  | true =>
    simp only [hn, cond_true] at h
    split at h
    · rename_i k n hx
      refine ⟨_, h, quietO_ok (sees1v hx) fun X => ?_⟩
      refine .quiet fun _ _ g w a _ hrd => ⟨.iface t (.int k n), ?_, .ofSc _ _ _⟩
      have h1 := (rd0 hrd).sc_inv
      simp only at h1
      simp only [execOp, ho, h1]
      simp [run_makeInterface hn]
    · rename_i v _ hx
      refine ⟨_, h, quietO_ok (sees1v hx) fun X => ?_⟩
      refine .quiet fun _ _ g w a _ hrd => ⟨.iface t (a.eval x), ?_, ?_⟩
      · simp only [execOp, ho]
        simp [run_makeInterface hn]
      · exact .d _ _ (.any _ _ ⟨t, _, rfl⟩ rfl)
    · cases h
theorem run_ic_eq {t : TypeId} {ms : Array (String × TypeId)} (ht : P.underlying t = some (.interface ms)) {u : TypeId} {k : IntKind} {i : TypeInfo} (hi : P.info? u = some i) (hc : i.comparable = true) (hu : P.underlying u = some (.int k)) (a : Option Int) (n : Int) (w : World) :
    (Op.equal t (icV u k a) (.iface u (.int k n))).run P w = .ok (a == some n) w := by
  have h : ∀ d : Nat, (Op.equalIn (d + 2) t (icV u k a) (.iface u (.int k n))).run P w = .ok (a == some n) w := by
    intro d
    cases a with
    | none => simp [icV, Op.equalIn, run_underlying ht]
    | some m => simp [icV, Op.equalIn, run_underlying ht, typeInfo, hi, hc, run_underlying hu]
  exact h 9998
noncomputable def icT (P : Program) (u : TypeId) (k : IntKind) : Bool :=
  match P.underlying u, P.info? u with
  | some (.int k'), some i => cond (kindB k' k) i.comparable false
  | _, _ => false
noncomputable def xBinI2 (P : Program) (st : XSt) (op : BinOp) (t : TypeId) (x y : Operand) (K : Out → Option R) : Option R :=
  match negOf op, P.underlying t, xeval st x, xeval st y with
  | some neg, some (.interface _), some (.d (.ic u k a)), some (.d (.ic u' k' (some n))) => cond (Nat.beq u u') (cond (kindB k k') (cond (icT P u k)
      (K (quietO st (.d (.b (cond neg (!(a == some n)) (a == some n)))) [(x, .d (.ic u k a)), (y, .d (.ic u' k' (some n)))])) none) none) none
  | _, _, _, _ => xBinP P st op t x y K
theorem eqGuard_ic (neg : Bool) (t : TypeId) (x y : Operand) (v : Value) (u : TypeId) (z : Value) : eqGuard (negOp neg) t x y v (.iface u z) = pure () := by
  cases neg <;> cases v <;> rfl
theorem xBinI2_ok {o : Oper} {st : XSt} {op : BinOp} {t t' : TypeId} {x y : Operand} {K : Out → Option R} {r : R} (ho : o.op = .binOp op t x y t') (h : xBinI2 P st op t x y K = some r) : ∃ out, K out = some r ∧ OpOk P o st out := by
  unfold xBinI2 at h
  split at h
  · rename_i neg ms u k a u' k' n hn ht hx hy
    cases h1 : Nat.beq u u' with
    | false => simp [h1] at h
    | true =>
    cases h2 : kindB k k' with
    | false => simp [h1, h2] at h
    | true =>
    cases h3 : icT P u k with
    | false => simp [h1, h2, h3] at h
    | true =>
      simp only [h1, h2, h3, cond_true] at h
      have e1 := Nat.eq_of_beq_eq_true h1
      have e2 := kindB_eq h2
      subst e1; subst e2
      have := negOf_eq hn
      subst this
      obtain ⟨i, hu, hi, hc⟩ : ∃ i, P.underlying u = some (.int k) ∧ P.info? u = some i ∧ i.comparable = true := by
        unfold icT at h3
        split at h3
        · rename_i k'' i hu hi
          cases hk : kindB k'' k with
          | false => simp [hk] at h3
          | true =>
            simp only [hk, cond_true] at h3
            rw [kindB_eq hk] at hu
            exact ⟨i, hu, hi, h3⟩
        · cases h3
      refine ⟨_, h, quietO_ok ?_ fun X => ?_⟩
      · intro p hp
        simp only [imRd, List.map_cons, List.map_nil, List.mem_cons, List.not_mem_nil, or_false] at hp
        rcases hp with rfl | rfl
        · exact xeval_sees hx
        · exact xeval_sees hy
      · refine .quiet fun _ _ g w ac _ hrd => ?_
        have h4 := (rd0 hrd).sc_inv
        have h5 := (rd1 hrd).sc_inv
        simp only at h4 h5
        refine ⟨_, ?_, .ofSc _ _ _⟩
        simp only [execOp, ho, h4, h5]
        rw [show icV u k (some n) = .iface u (.int k n) from rfl, eqGuard_ic]
        cases neg <;> simp [negOp, binOp, run_ic_eq ht hi hc hu]
  · exact xBinP_ok ho h
noncomputable def aggT (P : Program) (t : TypeId) : Bool :=
  match P.underlying t with
  | some d => aggD d
  | none => true
noncomputable def xLoadV (P : Program) (st : XSt) (t : TypeId) (x : Operand) (ty : Ty) (l : List ty.T) (K : Out → Option R) : Option R :=
  match tyI P t with
  | some (agg, sz) => cond agg none (cond (Nat.beq sz 1) (cond ty.agg none (listCase l none fun z r => K (quietO st (.d (ty.xv z)) [(x, .d (.pa ty (z :: r)))]))) none)
  | none => none
noncomputable def xLoadG (P : Program) (st : XSt) (t : TypeId) (x : Operand) (K : Out → Option R) : Option R :=
  match xeval st x with
  | some (.d (.pa ty l)) => cond (aggT P t) (xLoad P st t x K) (xLoadV P st t x ty l K)
  | _ => xLoad P st t x K
theorem xLoadV_ok {o : Oper} {st : XSt} {t : TypeId} {x : Operand} {ty : Ty} {l : List ty.T} {K : Out → Option R} {r : R} (ho : o.op = .load t x) (hx : xeval st x = some (.d (.pa ty l))) (h : xLoadV P st t x ty l K = some r) : ∃ out, K out = some r ∧ OpOk P o st out := by
  unfold xLoadV at h
  split at h
  · rename_i agg sz ht
    cases ha0 : agg with
    | true => simp only [ha0, cond_true] at h; cases h
    | false =>
    cases hs : Nat.beq sz 1 with
    | false => simp only [ha0, hs, cond_false] at h; cases h
    | true =>
    cases ha : ty.agg with
    | true => simp only [ha0, hs, ha, cond_false, cond_true] at h; cases h
    | false =>
      simp only [ha0, hs, ha, cond_false, cond_true] at h
      have := Nat.eq_of_beq_eq_true hs
      subst this; subst ha0
      cases l with
      | nil => simp only [listCase] at h; cases h
      | cons z r' =>
        simp only [listCase] at h
        refine ⟨_, h, quietO_ok (sees1v hx) fun X => ?_⟩
        have := op_load_one (P := P) (X := X) (x := x) (c := ty.dv z) (cs := (r'.map ty.ds).flatten) ho (tyI_I ht)
        have e : (XV.d (.pa ty (z :: r'))).a = .d (.ep (ty.dv z :: (r'.map ty.ds).flatten)) := by
          show AV.d (.ep (((z :: r').map ty.ds).flatten)) = _
          rw [List.map_cons, List.flatten_cons, ty.dv_one z ha]; rfl
        show OpT P o [(x, (XV.d (.pa ty (z :: r'))).a)] X X [] _
        rw [e]
        exact this
  · cases h
theorem xLoadG_ok {o : Oper} {st : XSt} {t : TypeId} {x : Operand} {K : Out → Option R} {r : R} (ho : o.op = .load t x) (h : xLoadG P st t x K = some r) : ∃ out, K out = some r ∧ OpOk P o st out := by
  unfold xLoadG at h
  split at h
  · rename_i ty l hx
    cases ha : aggT P t with
    | true => simp only [ha, cond_true] at h; exact xLoad_ok ho h
    | false => simp only [ha, cond_false] at h; exact xLoadV_ok ho hx h
  · exact xLoad_ok ho h
end
end Go.Xl
set_option linter.unusedVariables false
set_option linter.unusedSimpArgs false
namespace Go.Ab
open Go Go.RowKit Go.Lib
theorem rep_get {α : Type} {n j : Nat} {x y : α} (h : (List.replicate n x)[j]? = some y) : y = x := List.eq_of_mem_replicate (List.mem_of_getElem? h)
section
variable {P : Program} {o : Oper} {X : Store}
theorem op_makeSlice (m : Nat) {t e : TypeId} {x y : Operand} {kl kc : IntKind} {n : Nat} {i : TypeInfo} {z : Value} {zds : List D} (ho : o.op = .makeSlice t x y) (ht : P.underlying t = some (.slice e))
    (hi : P.info? e = some i) (hz : i.zero = some z) (hsz : i.size = zds.length) (hzs : z.cells.size = zds.length) (hzc : ∀ (γ : Nat → Nat) (w : World) (j : Nat) c v, zds[j]? = some c → z.cells[j]? = some v → RD γ w c v)
    (hpos : 0 < zds.length) (hbig : i.bytes * n ≤ 281474976710656) (h63 : n ≤ 9223372036854775807) (hm : X.objs.lookup m = none) (hX : objsFree [m] X = true) (ty : Option TypeId) (hty : ∀ t', ty = some t' → t' = e) :
    OpT P o [(x, .d (.sc (.int kl n))), (y, .d (.sc (.int kc n)))] X ⟨(m, .cells ((List.replicate n zds).flatten.map .d) ty) :: X.objs, X.live⟩ [m] (.osl m 0 n zds.length) := by
  intro nm hsm B g w a hr hrd next Q hn
  have h1 := (rd0 hrd).sc_inv
  have h2 := (rd1 hrd).sc_inv
  simp only at h1 h2
  have hfl : (List.replicate n zds).flatten.length = n * zds.length := by
    rw [flat_length (sz := zds.length) _ (fun j cs hj => by rw [rep_get hj]), List.length_replicate]
  have hrun := run_make (P := P) w t e i z ht hi hz kl kc (n : Int) (n : Int) (by omega) (Int.le_refl _) (by rw [← Int.natCast_mul]; generalize i.bytes * n = q at hbig ⊢; omega) (by omega)
  rw [Int.toNat_natCast] at hrun
  obtain ⟨r1, r2⟩ := hr.newObj (k := m) hm hX (.cells (madeCells z.cells (n * i.size)) e) (.cells ((List.replicate n zds).flatten.map .d) ty) (by
    intro g' w' ht' hw'
    refine .cells _ ty _ e hw' (by rw [List.length_map, hfl, size_madeCells, hsz]; exact Nat.le_refl _) ?_ hty
    intro j c v hc hv
    rw [List.getElem?_map, Option.map_eq_some_iff] at hc
    obtain ⟨d, hd, rfl⟩ := hc
    obtain ⟨p, q, ds, rfl, hp, hq⟩ := flat_get (sz := zds.length) _ (fun j cs hj => by rw [rep_get hj]) j d hd
    have hds : ds = zds := rep_get hp
    subst hds
    have hql : q < ds.length := (List.getElem?_eq_some_iff.1 hq).1
    have hlt : p * ds.length + q < n * i.size := by
      have := (List.getElem?_eq_some_iff.1 hd).1
      rw [hfl] at this
      rw [hsz]; exact this
    unfold madeCells at hv
    simp only [Array.getElem?_map, Array.getElem?_range, hlt, if_true, Option.map_some, Option.some.injEq] at hv
    have hmod : (p * ds.length + q) % z.cells.size = q := by
      rw [hzs, Nat.mul_comm, Nat.mul_add_mod, Nat.mod_eq_of_lt hql]
    rw [hmod, getElem!_pos z.cells q (by omega)] at hv
    exact .d _ _ (hzc _ _ q d v hq (by rw [← hv]; exact Array.getElem?_eq_getElem (by omega))))
  unfold Oper.wp
  have : (execOp a.eval o).run P w = .ok (.value (.slice (some ⟨w.heap.size, 0, none⟩) n n)) (w.alloc (.cells (madeCells z.cells (n * i.size)) e)) := by
    simp [execOp, ho, h1, h2, hrun]
  rw [this]
  refine hn _ _ _ r1 r2 (.nm _ _ _ ?_)
  simp only [upd_same]
  exact ⟨n, 0, Nat.le_refl _, rfl, .inr rfl, e, n * zds.length, by unfold World.shape?; rw [heap_alloc_new]; simp [size_madeCells, hsz], by omega⟩
theorem shape_cells {w : World} {b : Nat} {arr : Array Value} {T : TypeId} {fr : Nat × Nat} (h : w.heap[b]? = some (.cells arr T fr)) : w.shape? b = some (T, arr.size) := by
  simp [World.shape?, h]
theorem op_copy_all {ts : Array TypeId} {x y : Operand} {dT sT e : TypeId} {i : TypeInfo} {k : Nat} {l s : List UInt8} {ty : Option TypeId} (ho : o.op = .call { callee := .builtin .copy, args := #[x, y], argTypes := ts }) (hts : ts = #[dT, sT])
    (hu : P.underlying dT = some (.slice e)) (hi : P.info? e = some i) (hsz : i.size = 1) (hk : X.objs.lookup k = some (.cells ((byteEs l).flatten.map .d) ty)) (hl : l.length = s.length) :
    OpT P o [(x, .osl k 0 l.length 1), (y, .d (.sc (.string ⟨s.toArray⟩)))] X ⟨setObj k (.cells ((byteEs s).flatten.map .d) ty) X.objs, X.live⟩ [] (.d (.sc (.int .i64 s.length))) := by
  subst hts
  intro nm hsm B g w a hr hrd next Q hn
  have h1 := (rd0 hrd).osl_inv
  have h2 := (rd1 hrd).sc_inv
  simp only at h1 h2
  obtain ⟨cap, q, hcap, hv, hq, T, c, hsh, hc⟩ := h1
  cases hr.objs k _ hk with
  | cells _ _ arr T' hb hlen hcc hty =>
  have hbl : (byteEs l).flatten.length = l.length := by rw [flat_length (sz := 1) _ (fun j cs hj => by obtain ⟨b, _, rfl⟩ := byteEs_get hj; rfl), byteEs_length, Nat.mul_one]
  have hbs : (byteEs s).flatten.length = s.length := by rw [flat_length (sz := 1) _ (fun j cs hj => by obtain ⟨b, _, rfl⟩ := byteEs_get hj; rfl), byteEs_length, Nat.mul_one]
  rw [List.length_map, hbl] at hlen
  rw [shape_cells hb] at hsh
  simp only [Option.some.injEq, Prod.mk.injEq] at hsh
  obtain ⟨rfl, rfl⟩ := hsh
  have hss : (⟨s.toArray⟩ : ByteArray).size = s.length := by show s.toArray.size = _; simp
  have hdl : (⟨s.toArray⟩ : ByteArray).data.toList = s := by simp
  have hrun := Lib.run_copy_row_string (P := P) w dT sT o.type e (g.ρ k) q l.length cap ⟨s.toArray⟩ arr T' hu (by rw [hi]; simp [hsz]) hb (by rw [hss, hl]; exact Nat.le_refl _) (by rw [hss]; omega)
  rw [hss, hdl] at hrun
  have hq0 : s.length = 0 ∨ q = 0 := by
    rcases hq with h | h
    · left; omega
    · exact .inr h
  generalize hY : (arr.toList.take q ++ Lib.byteCells s ++ arr.toList.drop (q + s.length)).toArray = Y at hrun
  have hb' : (w.setRow (g.ρ k) Y).heap[g.ρ k]? = some (.cells Y T' (0, 0)) := setRow_heap _ _ arr _ T' (0, 0) hb
  have hYs : Y.size = arr.size := by
    rw [← hY]
    simp [Lib.byteCells_length]
    omega
  obtain ⟨r1, r2⟩ := hr.write (w' := w.setRow (g.ρ k) Y) hk (o' := .cells ((byteEs s).flatten.map .d) ty) (by simp) ⟨rfl, rfl, rfl, Nat.le_refl _⟩ (fun b hb2 => setRow_other _ _ _ _ hb2) (by
    intro ht'
    refine .cells _ ty Y T' hb' (by rw [List.length_map, hbs, hYs]; omega) ?_ hty
    intro j z u hz hu
    rw [List.getElem?_map, Option.map_eq_some_iff] at hz
    obtain ⟨d, hd, rfl⟩ := hz
    have hjl : j < s.length := by have := (List.getElem?_eq_some_iff.1 hd).1; rw [hbs] at this; exact this
    have hq' : q = 0 := by
      rcases hq0 with h | h
      · omega
      · exact h
    subst hq'
    obtain ⟨p, r, ds, rfl, hp, hr'⟩ := flat_get (sz := 1) _ (fun j cs hj => by obtain ⟨b, _, rfl⟩ := byteEs_get hj; rfl) j d hd
    obtain ⟨b, hb0, rfl⟩ := byteEs_get hp
    have hr0 : r = 0 := by have := (List.getElem?_eq_some_iff.1 hr').1; simp at this; exact this
    subst hr0
    simp only [List.getElem?_cons_zero, Option.some.injEq] at hr'
    subst hr'
    rw [← hY] at hu
    simp only [List.take_zero, List.nil_append, List.getElem?_toArray, Nat.mul_one, Nat.add_zero] at hu hjl
    rw [List.getElem?_append_left (by rw [Lib.byteCells_length]; exact hjl)] at hu
    unfold Lib.byteCells at hu
    rw [List.getElem?_map, hb0] at hu
    simp only [Option.map_some, Option.some.injEq] at hu
    subst hu
    exact .ofSc _ _ _) (by
      intro sh hs0
      rw [shape_cells hb] at hs0
      rw [shape_cells hb', hYs]
      exact hs0)
  unfold Oper.wp
  have : (execOp a.eval o).run P w = .ok (.value (goInt s.length)) (w.setRow (g.ρ k) Y) := by
    simp [execOp, ho, resolve, hv, h2, invoke, builtin, hrun]
  rw [this]
  exact hn _ _ _ r1 r2 (.ofSc _ _ _)
theorem op_string_obj {x y : Operand} {pt it e k : Nat} {l : List UInt8} (ho : o.op = .call { callee := .builtin .unsafeString, args := #[x, y], argTypes := #[pt, it] }) (hk : X.objs.lookup k = some (.cells ((byteEs l).flatten.map .d) (some e))) (hk1 : 1000 ≤ k) (hl : l ≠ [])
    (hp : P.underlying pt = some (.pointer e)) (hc : P.cellsOf e = 1) (hlen : l.length ≤ 9223372036854775807) :
    OpT P o [(x, .ptr k 0), (y, .d (.sc (.int .i64 l.length)))] X (dropObj k X) [] (.d (.sc (.string ⟨l.toArray⟩))) := by
  intro nm hsm B g w a hr hrd next Q hnext
  have h1 := (rd0 hrd).ptr_inv
  have h2 := (rd1 hrd).sc_inv
  simp only at h1 h2
  have hkn : k ∉ nm := fun hh => by have := hsm k hh; omega
  have hbl : (byteEs l).flatten.length = l.length := by rw [flat_length (sz := 1) _ (fun j cs hj => by obtain ⟨b, _, rfl⟩ := byteEs_get hj; rfl), byteEs_length, Nat.mul_one]
  cases hr.objs k _ hk with
  | cells _ _ arr T hb hle hcc hty =>
  have := hty e rfl
  subst this
  rw [List.length_map, hbl] at hle
  have hcell : ∀ j u, l[j]? = some u → w.cell? ((⟨g.ρ k, 0, none⟩ : Addr).add j) = some (.int .u8 u.toNat) := by
    intro j u hu
    rw [addr_add, Nat.zero_add]
    have hjl : j < l.length := (List.getElem?_eq_some_iff.1 hu).1
    rw [cell?_cells hb]
    have hja : j < arr.size := by omega
    have hd : (byteEs l).flatten[j]? = some (.sc (.int .u8 u.toNat)) := by
      have := flat_at (sz := 1) (byteEs l) (fun j cs hj => by obtain ⟨b, _, rfl⟩ := byteEs_get hj; rfl) j 0 [.sc (.int .u8 u.toNat)] (.sc (.int .u8 u.toNat)) (by simp [byteEs, hu]) rfl
      simpa using this
    have := hcc j (.d (.sc (.int .u8 u.toNat))) arr[j] (by rw [List.getElem?_map, hd]; rfl) (Array.getElem?_eq_getElem hja)
    have := this.sc_inv
    simp [hja, this]
  have hrun := run_unsafeString_row (P := P) w pt it o.type e hp hc (g.ρ k) arr.size (shape_cells hb) l hl hle hlen hcell
  have hr1 := hr.dropObj hkn
  have hfz : ∀ b', b' ≠ g.ρ k → (w.freeze ⟨g.ρ k, 0, none⟩ l.length).heap[b']? = w.heap[b']? := by
    intro b' hb'
    unfold World.freeze
    split
    · rfl
    · simp only [Array.getElem?_modify]
      rw [if_neg (by simpa using hb'.symm)]
  have hlk : ∀ j ob, (Ab.dropObj k X).objs.lookup j = some ob → j ≠ k ∧ X.objs.lookup j = some ob := by
    intro j ob hj
    simp only [Ab.dropObj, lookup_filter] at hj
    split at hj
    · cases hj
    · exact ⟨‹_›, hj⟩
  have hγ : g.γ (g.ρ k) = 0 := hr.objγ k _ hk
  obtain ⟨hr2, ht2⟩ := hr1.raise (w' := w.freeze ⟨g.ρ k, 0, none⟩ l.length) (b := g.ρ k) (n := g.γ (g.ρ k)) (Array.getElem?_eq_some_iff.1 hb).1 (hr.objnew k _ hk) (fun j ob hj he => by
      obtain ⟨e1, e2⟩ := hlk j ob hj
      exact e1 (hr.objinj j k _ _ e2 hk he.symm)) (fun m hm => hr.tipobj m _ k _ hm hk rfl)
    (hr.eta.objN hk) (by unfold World.freeze; split <;> simp) (by unfold World.freeze; split <;> exact ⟨rfl, rfl, rfl, Nat.le_refl _⟩) hfz (fun i hi => by omega) (Nat.le_refl _) (fun i hi => by omega) (by
      intro s hs0
      unfold World.freeze
      split
      · exact hs0
      · simp only [World.shape?, Array.getElem?_modify, if_true] at hs0 ⊢
        cases hh : w.heap[g.ρ k]? with
        | none => rw [hh] at hs0; exact hs0
        | some o => rw [hh] at hs0; cases o <;> exact hs0)
  unfold Oper.wp
  have : (execOp a.eval o).run P w = .ok (.value (.string ⟨l.toArray⟩)) (w.freeze ⟨g.ρ k, 0, none⟩ l.length) := by
    simp [execOp, ho, resolve, h1, h2, invoke, builtin, hrun]
  rw [this]
  exact hnext _ _ _ hr2 ht2 (.ofSc _ _ _)
theorem op_string_bytes {x : Operand} {sT dT e : TypeId} {s : List UInt8} (ho : o.op = .convert sT dT x) (hs : P.underlying sT = some .string) (hd : P.underlying dT = some (.slice e)) (he : P.underlying e = some (.int .u8)) :
    OpT P o [(x, .d (.sc (.string ⟨s.toArray⟩)))] X X [] (.d (.sl 1 (byteEs s))) := by
  intro nm hsm B g w a hr hrd next Q hn
  have h1 := (rd0 hrd).sc_inv
  simp only at h1
  have hrun := Lib.run_convert_string_bytes (P := P) w sT dT e ⟨s.toArray⟩ hs hd he
  have hss : (⟨s.toArray⟩ : ByteArray).size = s.length := by show s.toArray.size = _; simp
  rw [hss] at hrun
  generalize hW : Lib.bytesWorld w e ⟨s.toArray⟩ = w' at hrun
  have hsz : w'.heap.size = w.heap.size + 1 := by rw [← hW]; exact Lib.bytesWorld_size _ _ _
  have hold : ∀ b, b < w.heap.size → w'.heap[b]? = w.heap[b]? := fun b hb => by rw [← hW]; exact Lib.bytesWorld_at_old _ _ _ _ hb
  have hnew := Lib.bytesWorld_at_new w e ⟨s.toArray⟩
  rw [hW] at hnew
  have hio : w'.os = w.os ∧ w'.output = w.output ∧ w'.tape = w.tape ∧ w.drawn ≤ w'.drawn := by
    rw [← hW]
    unfold Lib.bytesWorld World.freeze
    split
    · exact ⟨rfl, rfl, rfl, Nat.le_succ _⟩
    · exact ⟨rfl, rfl, rfl, Nat.le_succ _⟩
  have hcap : s.length ≤ grownCap w s.length 0 e := grownCap_ge _ _ _ _
  have hcs : s.length ≤ (Lib.bytesCells w e ⟨s.toArray⟩).size := by
    unfold Lib.bytesCells
    simp
  obtain ⟨r1, t1⟩ := hr.grow (w' := w') (by omega) hold hio
  have hcell : ∀ j u, s[j]? = some u → w'.cell? ⟨w.heap.size, j, none⟩ = some (.int .u8 u.toNat) := by
    intro j u hu
    have hj := (List.getElem?_eq_some_iff.1 hu).1
    have := Lib.bytesWorld_cell w e ⟨s.toArray⟩ j (by rw [hss]; exact hj)
    rw [hW] at this
    rw [this]
    simp [List.getD, hu]
  obtain ⟨r2, t2⟩ := r1.raise (w' := w') (b := w.heap.size) (n := s.length) (by omega) (.inl hr.base) (fun k ob hk he' => by
    have := obRel_lt (hr.objs k ob hk)
    omega) (fun m hm => by have := hr.tiplt m _ hm; omega) (hr.eta.ltN (Nat.le_refl _)) rfl ⟨rfl, rfl, rfl, Nat.le_refl _⟩ (fun _ _ => rfl) (fun _ _ => rfl) (by rw [γ_top hr (Nat.le_refl _)]; omega) (fun i hi => by
    rw [hcell i s[i] (by simp [hi])]; rfl) (fun _ h => h)
  unfold Oper.wp
  have : (execOp a.eval o).run P w = .ok (.value (.slice (some ⟨w.heap.size, 0, none⟩) s.length (grownCap w s.length 0 e))) w' := by
    simp [execOp, ho, h1, hrun]
  rw [this]
  refine hn _ _ _ r2 (t1.trans t2) (.d _ _ (.ofCells' (byteEs_length s).symm (by simp only [upd_same]; omega) hcap ?_ ?_))
  · intro j cs hj
    obtain ⟨b, _, rfl⟩ := byteEs_get hj
    rfl
  · intro p q cs c u hp hq hu
    obtain ⟨b, hb, rfl⟩ := byteEs_get hp
    have hq0 : q = 0 := by have := (List.getElem?_eq_some_iff.1 hq).1; simp at this; exact this
    subst hq0
    simp only [List.getElem?_cons_zero, Option.some.injEq] at hq
    subst hq
    rw [show 0 + (p * 1 + 0) = p by omega, hcell p b hb] at hu
    cases hu
    exact .sc _
end
end Go.Ab
set_option linter.unusedVariables false
set_option linter.unusedSimpArgs false
set_option linter.unnecessarySimpa false
namespace Go.Xl
open Go.Ab
section
variable {P : Program} {R : Type}
noncomputable def zeroT (P : Program) (e : TypeId) (ty : Ty) : Option (List Value × ty.T) :=
  match zeroVs P e with
  | some l => match ty.dec (l.map constX) with
    | some (x, []) => some (l, x)
    | _ => none
  | none => none
theorem dsOf_const : ∀ (l : List Value), dsOf (l.map constX) = l.map D.sc
  | [] => rfl
  | v :: r => by simp only [List.map_cons, dsOf, constX_d, dsOf_const r]
theorem zeroT_ok {e : TypeId} {ty : Ty} {l : List Value} {x : ty.T} (h : zeroT P e ty = some (l, x)) : zeroVs P e = some l ∧ DsLe (l.map D.sc) (ty.ds x) := by
  unfold zeroT at h
  split at h
  · rename_i l' hl
    split at h
    · rename_i y hd
      cases h
      obtain ⟨ds, h1, h2⟩ := Ty.dec_spec ty hd
      simp only [dsOf, List.append_nil] at h1
      rw [dsOf_const] at h1
      exact ⟨hl, h1 ▸ h2⟩
    · cases h
  · cases h
theorem zeroVs_parts {e : TypeId} {l : List Value} (h : zeroVs P e = some l) : ∃ i z, P.info? e = some i ∧ i.zero = some z ∧ z.cells.toList = l := by
  unfold zeroVs at h
  split at h
  · rename_i i hi
    split at h
    · rename_i z hz
      cases h
      exact ⟨i, z, hi, hz, rfl⟩
    · cases h
  · cases h
noncomputable def sizeB (P : Program) (e : TypeId) (n : Nat) : Option Nat :=
  match P.info? e with
  | some i => cond (Nat.beq i.size n) (some i.bytes) none
  | none => none
theorem sizeB_ok {e n b : Nat} (h : sizeB P e n = some b) : ∃ i, P.info? e = some i ∧ i.size = n ∧ i.bytes = b := by
  unfold sizeB at h
  split at h
  · rename_i i hi
    cases hb : Nat.beq i.size n with
    | false => simp [hb] at h
    | true => simp only [hb, cond_true, Option.some.injEq] at h; exact ⟨i, hi, Nat.eq_of_beq_eq_true hb, h⟩
  · cases h
noncomputable def repB (z : UInt8) (n : Nat) : List UInt8 := List.replicate n z
noncomputable def sameOp : Operand → Operand → Bool
  | .tmp a, .tmp b => Nat.beq a b
  | _, _ => false
theorem sameOp_eq {x y : Operand} (h : sameOp x y = true) : x = y := by
  unfold sameOp at h
  split at h
  · rw [Nat.eq_of_beq_eq_true h]
  · cases h
noncomputable def roomFor (b : Nat) (n : Int) : Bool := decide (0 ≤ n) && (decide (b * n.toNat ≤ 281474976710656) && decide (n ≤ 9223372036854775807))
noncomputable def ownB (own : List Nat) (o : Oper) : Bool :=
  match o.dst with
  | some d => inl (1000000 + d) own
  | none => false
theorem makeSlice_op {o : Oper} {X : Store} {m : Nat} {t e : TypeId} {x y : Operand} {kl kc : IntKind} {n : Int} {ty : Ty} {l : List Value} {z : ty.T} {b : Nat} (ho : o.op = .makeSlice t x y) (ht : P.underlying t = some (.slice e))
    (hz : zeroT P e ty = some (l, z)) (hb : sizeB P e ty.size = some b) (h0 : Nat.beq ty.size 0 = false) (hr : roomFor b n = true) (hm : X.objs.lookup m = none) (hX : objsFree [m] X = true) (tt : Option TypeId) (htt : ∀ t', tt = some t' → t' = e) :
    OpT P o [(x, .d (.sc (.int kl n))), (y, .d (.sc (.int kc n)))] X ⟨(m, .cells (((List.replicate n.toNat z).map ty.ds).flatten.map .d) tt) :: X.objs, X.live⟩ [m] (.osl m (0 * ty.size) n.toNat ty.size) := by
  rw [Nat.zero_mul]
  obtain ⟨h1, h2⟩ := zeroT_ok hz
  obtain ⟨i, v, h3, h4, h5⟩ := zeroVs_parts h1
  obtain ⟨i', h6, h7, h8⟩ := sizeB_ok hb
  rw [h3] at h6
  cases h6
  unfold roomFor at hr
  simp only [Bool.and_eq_true, decide_eq_true_eq] at hr
  obtain ⟨r1, r2, r3⟩ := hr
  obtain ⟨k, rfl⟩ := Int.eq_ofNat_of_zero_le r1
  rw [Int.toNat_natCast] at r2 ⊢
  have hl := Ty.ds_length ty z
  have hvs : v.cells.size = (ty.ds z).length := by
    have := h2.length
    rw [List.length_map, ← h5] at this
    simpa using this
  have := op_makeSlice (P := P) (o := o) (X := X) m (x := x) (y := y) (kl := kl) (kc := kc) (n := k) (zds := ty.ds z) ho ht h3 h4 (h7.trans hl.symm) hvs (by
    intro γ w j c u hc hu
    obtain ⟨c', hc', hle⟩ := h2.get hc
    rw [List.getElem?_map, ← h5, Array.getElem?_toList, hu] at hc'
    simp only [Option.map_some, Option.some.injEq] at hc'
    subst hc'
    exact hle _ _ _ (.sc u)) (by rw [hl]; exact Nat.pos_of_ne_zero (Nat.ne_of_beq_eq_false h0)) (by rw [h8]; exact r2) (by omega) hm hX tt htt
  rw [hl] at this
  rw [List.map_replicate]
  exact this
noncomputable def xMakeArr (P : Program) (st : XSt) (o : Oper) (t : TypeId) (x y : Operand) (K : Out → Option R) : Option R :=
  match P.underlying t with
  | some (.slice e) => match tyOf P 9 e, newName o with
    | some ty, some m => match zeroT P e ty, sizeB P e ty.size, xd st x with
      | some (l, z), some b, some (.i kl n) => cond (sameOp x y) (cond (Nat.beq (ty).size 0) none (cond (roomFor b n) (cond (fresh m st)
            (K ⟨.all, .os m ty 0 n.toNat, [(x, .d (.i kl n)), (y, .d (.i kl n))], (m, .arr ty (List.replicate n.toNat z)) :: st.objs, st.live, [m], [m]⟩) none) none)) none
      | _, _, _ => none
    | _, _ => none
  | _ => none
theorem xMakeArr_ok {o : Oper} {st : XSt} {t : TypeId} {x y : Operand} {K : Out → Option R} {r : R} (ho : o.op = .makeSlice t x y) (h : xMakeArr P st o t x y K = some r) : ∃ out, K out = some r ∧ OpOk P o st out := by
  unfold xMakeArr at h
  split at h
  · rename_i e ht
    split at h
    · rename_i ty m hty hm
      split at h
      · rename_i l z b kl n hz hb hx
        cases h1 : sameOp x y with
        | false => simp only [h1, cond_false] at h; cases h
        | true =>
        cases h2 : Nat.beq (ty).size 0 with
        | true => simp only [h1, h2, cond_true] at h; cases h
        | false =>
        cases h3 : roomFor b n with
        | false => simp only [h1, h2, h3, cond_true, cond_false] at h; cases h
        | true =>
        cases h4 : fresh m st with
        | false => simp only [h1, h2, h3, h4, cond_true, cond_false] at h; cases h
        | true =>
        simp only [h1, h2, h3, h4, cond_true, cond_false] at h
        obtain ⟨f1, f2⟩ := fresh_ok h4
        have hxy := sameOp_eq h1
        subst hxy
        refine ⟨_, h, ⟨?_, ?_, fun j w hj hw => ?_⟩⟩
        · intro p hp
          simp only [imRd, List.map_cons, List.map_nil, List.mem_cons, List.not_mem_nil, or_false, or_self] at hp
          subst hp
          exact xd_at hx
        · exact makeSlice_op (X := st.X) (x := x) (y := x) (kl := kl) (kc := kl) (n := n) (ty := ty) ho ht hz hb h2 h3 (fresh_im f1) f2 none (by simp)
        · rw [lk_cons_ne (by simpa using hj)] at hw; exact hw
      · cases h
    · cases h
  · cases h
noncomputable def xMakeB (P : Program) (st : XSt) (o : Oper) (t : TypeId) (x y : Operand) (K : Out → Option R) : Option R :=
  match P.underlying t with
  | some (.slice e) => match newName o with
    | some m => match zeroT P e .u8, sizeB P e Ty.u8.size, xd st x with
      | some (l, z), some b, some (.i kl n) => cond (sameOp x y) (cond (Nat.beq (Ty.u8).size 0) none (cond (roomFor b n) (cond (fresh m st)
            (K ⟨.all, .os m .u8 0 n.toNat, [(x, .d (.i kl n)), (y, .d (.i kl n))], (m, .bts e (repB z n.toNat)) :: st.objs, st.live, [m], [m]⟩) none) none)) none
      | _, _, _ => none
    | _ => none
  | _ => none
theorem xMakeB_ok {o : Oper} {st : XSt} {t : TypeId} {x y : Operand} {K : Out → Option R} {r : R} (ho : o.op = .makeSlice t x y) (h : xMakeB P st o t x y K = some r) : ∃ out, K out = some r ∧ OpOk P o st out := by
  unfold xMakeB at h
  split at h
  · rename_i e ht
    split at h
    · rename_i m hm
      split at h
      · rename_i l z b kl n hz hb hx
        cases h1 : sameOp x y with
        | false => simp only [h1, cond_false] at h; cases h
        | true =>
        cases h2 : Nat.beq (Ty.u8).size 0 with
        | true => simp only [h1, h2, cond_true] at h; cases h
        | false =>
        cases h3 : roomFor b n with
        | false => simp only [h1, h2, h3, cond_true, cond_false] at h; cases h
        | true =>
        cases h4 : fresh m st with
        | false => simp only [h1, h2, h3, h4, cond_true, cond_false] at h; cases h
        | true =>
        simp only [h1, h2, h3, h4, cond_true, cond_false] at h
        obtain ⟨f1, f2⟩ := fresh_ok h4
        have hxy := sameOp_eq h1
        subst hxy
        refine ⟨_, h, ⟨?_, ?_, fun j w hj hw => ?_⟩⟩
        · intro p hp
          simp only [imRd, List.map_cons, List.map_nil, List.mem_cons, List.not_mem_nil, or_false, or_self] at hp
          subst hp
          exact xd_at hx
        · exact makeSlice_op (X := st.X) (x := x) (y := x) (kl := kl) (kc := kl) (n := n) (ty := Ty.u8) ho ht hz hb h2 h3 (fresh_im f1) f2 (some e) (by simp)
        · rw [lk_cons_ne (by simpa using hj)] at hw; exact hw
      · cases h
    · cases h
  · cases h
noncomputable def xMakeSlice (P : Program) (own : List Nat) (st : XSt) (o : Oper) (t : TypeId) (x y : Operand) (K : Out → Option R) : Option R :=
  cond (ownB own o) (xMakeB P st o t x y K) (xMakeArr P st o t x y K)
theorem xMakeSlice_ok {own : List Nat} {o : Oper} {st : XSt} {t : TypeId} {x y : Operand} {K : Out → Option R} {r : R} (ho : o.op = .makeSlice t x y) (h : xMakeSlice P own st o t x y K = some r) : ∃ out, K out = some r ∧ OpOk P o st out := by
  unfold xMakeSlice at h
  cases hb : ownB own o with
  | true => simp only [hb, cond_true] at h; exact xMakeB_ok ho h
  | false => simp only [hb, cond_false] at h; exact xMakeArr_ok ho h
noncomputable def xCopy (P : Program) (st : XSt) (ts : Array TypeId) (x y : Operand) (K : Out → Option R) : Option R :=
  match ts.toList with
  | [dT, sT] => match P.underlying dT with
    | some (.slice e) => match sizeB P e 1, xeval st x, xd st y with
      | some _, some (.os k .u8 0 len), some (.s s) => match lk k st.objs with
        | some (.bts e' l) => cond (Nat.beq len l.length) (cond (Nat.beq l.length s.length)
            (K ⟨.put k (.bts e' s), .d (.i .i64 ((s.length : Nat) : Int)), [(x, .os k .u8 0 len), (y, .d (.s s))], xset k (.bts e' s) st.objs, st.live, [], [k]⟩) none) none
        | _ => none
      | _, _, _ => none
    | _ => none
  | _ => none
theorem xCopy_ok {o : Oper} {st : XSt} {ts : Array TypeId} {x y : Operand} {K : Out → Option R} {r : R} (ho : o.op = .call { callee := .builtin .copy, args := #[x, y], argTypes := ts }) (h : xCopy P st ts x y K = some r) : ∃ out, K out = some r ∧ OpOk P o st out := by
  unfold xCopy at h
  split at h
  · rename_i dT sT hts
    have : ts = #[dT, sT] := Array.toList_inj.1 hts
    subst this
    split at h
    · rename_i e hu
      split at h
      · rename_i b k len s hb hx hy
        split at h
        · rename_i e' l hk
          cases h1 : Nat.beq len l.length with
          | false => simp only [h1, cond_false] at h; cases h
          | true =>
          cases h2 : Nat.beq l.length s.length with
          | false => simp only [h1, h2, cond_true, cond_false] at h; cases h
          | true =>
          simp only [h1, h2, cond_true] at h
          have e1 := Nat.eq_of_beq_eq_true h1
          subst e1
          obtain ⟨i, i1, i2, _⟩ := sizeB_ok hb
          have hlk : st.X.objs.lookup k = some (XOb.bts e' l).o := by show (imObjs st.objs).lookup k = _; rw [im_objs, hk]; rfl
          refine ⟨_, h, ⟨sees2w hx hy, ⟨rfl, rfl, rfl, fun X hX => ?_⟩, fun j z hj hz => ?_⟩⟩
          · exact op_copy_all ho rfl hu i1 i2 (hX.trans hlk) (Nat.eq_of_beq_eq_true h2)
          · simp only [List.mem_cons, List.not_mem_nil, or_false] at hj
            rwa [lk_xset _ _ _ _ hj] at hz
        · cases h
      · cases h
    · cases h
  · cases h
noncomputable def xStringObj (P : Program) (st : XSt) (ts : Array TypeId) (x y : Operand) (k : Nat) (e : TypeId) (l : List UInt8) (v : XV) (K : Out → Option R) : Option R :=
  match ts.toList with
  | [pt, it] => match P.underlying pt with
    | some (.pointer e') => match xd st y with
      | some (.i .i64 m) => cond (Nat.beq l.length 0) none (cond (m == ((l.length : Nat) : Int)) (cond (Nat.ble 1000 k) (cond (Nat.beq e' e) (cond (Nat.beq (P.cellsOf e) 1) (cond (decide (l.length ≤ 9223372036854775807))
          (K ⟨.all, .d (.s l), [(x, v), (y, .d (.i .i64 m))], dropX k st.objs, st.live, [], []⟩) none) none) none) none) none)
      | _ => none
    | _ => none
  | _ => none
theorem xStringObj_ok {o : Oper} {st : XSt} {ts : Array TypeId} {x y : Operand} {k : Nat} {e : TypeId} {l : List UInt8} {v : XV} {K : Out → Option R} {r : R} (ho : o.op = .call { callee := .builtin .unsafeString, args := #[x, y], argTypes := ts }) (hx : xeval st x = some v) (hv : v.a = .ptr k 0)
    (hk : lk k st.objs = some (.bts e l)) (h : xStringObj P st ts x y k e l v K = some r) : ∃ out, K out = some r ∧ OpOk P o st out := by
  unfold xStringObj at h
  split at h
  · rename_i pt it hts
    have : ts = #[pt, it] := Array.toList_inj.1 hts
    subst this
    split at h
    · rename_i e' hp
      split at h
      · rename_i m hy
        cases h0 : Nat.beq l.length 0 with
        | true => simp only [h0, cond_true] at h; cases h
        | false =>
        cases h1 : (m == ((l.length : Nat) : Int)) with
        | false => simp only [h0, h1, cond_false] at h; cases h
        | true =>
        cases h2 : Nat.ble 1000 k with
        | false => simp only [h0, h1, h2, cond_true, cond_false] at h; cases h
        | true =>
        cases h3 : Nat.beq e' e with
        | false => simp only [h0, h1, h2, h3, cond_true, cond_false] at h; cases h
        | true =>
        cases h4 : Nat.beq (P.cellsOf e) 1 with
        | false => simp only [h0, h1, h2, h3, h4, cond_true, cond_false] at h; cases h
        | true =>
        cases h5 : decide (l.length ≤ 9223372036854775807) with
        | false => simp only [h0, h1, h2, h3, h4, h5, cond_true, cond_false] at h; cases h
        | true =>
        simp only [h0, h1, h2, h3, h4, h5, cond_true, cond_false] at h
        have e1 := Nat.eq_of_beq_eq_true h3
        subst e1
        have hm := eq_of_beq h1
        subst hm
        have hlk : st.X.objs.lookup k = some (XOb.bts e' l).o := by show (imObjs st.objs).lookup k = _; rw [im_objs, hk]; rfl
        refine ⟨_, h, ⟨sees2w hx hy, ?_, fun j z _ hz => lk_dropX hz⟩⟩
        have hop := op_string_obj (X := st.X) ho hlk (Nat.le_of_ble_eq_true h2) (by rintro rfl; simp at h0) hp (Nat.eq_of_beq_eq_true h4) (of_decide_eq_true h5)
        have e2 : Ab.dropObj k st.X = ⟨imObjs (dropX k st.objs), st.live⟩ := by rw [dropX_im]; rfl
        rw [e2] at hop
        simp only [imRd, List.map_cons, List.map_nil, hv]
        exact hop
      · cases h
    · cases h
  · cases h
noncomputable def xUnsafeStr2 (P : Program) (st : XSt) (ts : Array TypeId) (x y : Operand) (K : Out → Option R) : Option R :=
  match xeval st x with
  | some (.el k .u8 0 0) => match lk k st.objs with
    | some (.bts e l) => xStringObj P st ts x y k e l (.el k .u8 0 0) K
    | _ => none
  | _ => xUnsafeString P st ts x y K
theorem xUnsafeStr2_ok {o : Oper} {st : XSt} {ts : Array TypeId} {x y : Operand} {K : Out → Option R} {r : R} (ho : o.op = .call { callee := .builtin .unsafeString, args := #[x, y], argTypes := ts }) (h : xUnsafeStr2 P st ts x y K = some r) : ∃ out, K out = some r ∧ OpOk P o st out := by
  unfold xUnsafeStr2 at h
  split at h
  · rename_i k hx
    split at h
    · rename_i e l hk
      exact xStringObj_ok ho hx rfl hk h
    · cases h
  · exact xUnsafeString_ok ho h
noncomputable def isByteT (P : Program) (e : TypeId) : Bool :=
  match P.underlying e with
  | some (.int .u8) => true
  | _ => false
theorem isByteT_eq {e : TypeId} (h : isByteT P e = true) : P.underlying e = some (.int .u8) := by
  unfold isByteT at h
  split at h
  · assumption
  · cases h
noncomputable def xConvS (P : Program) (st : XSt) (s d : TypeId) (x : Operand) (K : Out → Option R) : Option R :=
  match P.underlying s, P.underlying d with
  | some .string, some (.slice e) => match xd st x with
    | some (.s l) => cond (isByteT P e) (K (quietO st (.d (.sl .u8 l)) [(x, .d (.s l))])) none
    | _ => none
  | _, _ => xConvP P st s d x K
theorem xConvS_ok {o : Oper} {st : XSt} {s d : TypeId} {x : Operand} {K : Out → Option R} {r : R} (ho : o.op = .convert s d x) (h : xConvS P st s d x K = some r) : ∃ out, K out = some r ∧ OpOk P o st out := by
  unfold xConvS at h
  split at h
  · rename_i e hs hd
    split at h
    · rename_i l hx
      cases hb : isByteT P e with
      | false => simp only [hb, cond_false] at h; cases h
      | true =>
      simp only [hb, cond_true] at h
      refine ⟨_, h, quietO_ok ?_ fun X => op_string_bytes ho hs hd (isByteT_eq hb)⟩
      intro p hp
      simp only [imRd, List.map_cons, List.map_nil, List.mem_cons, List.not_mem_nil, or_false] at hp
      subst hp
      exact xd_at hx
    · cases h
  · exact xConvP_ok ho h
end
end Go.Xl
set_option linter.unusedVariables false
set_option linter.unusedSimpArgs false
namespace Go.Xl
open Go.Ab
noncomputable def tidyXs : List XV → Option (List XD)
  | [] => some []
  | x :: r => match x.asD, tidyXs r with
    | some y, some l => some (y :: l)
    | _, _ => none
theorem asD_le {x : XV} {y : XD} (h : x.asD = some y) : ALe x.a (.d y.d) := by
  cases x with
  | d u => simp only [XV.asD, Option.some.injEq] at h; subst h; exact .refl _
  | tip n t l ty => simp only [XV.asD, Option.some.injEq] at h; subst h; exact ALe.tip _ _ _ _
  | _ => simp [XV.asD] at h
theorem tidyXs_get : ∀ {cs : List XV} {ds : List XD}, tidyXs cs = some ds → cs.length = ds.length ∧ ∀ (i : Nat) x y, cs[i]? = some x → ds[i]? = some y → ALe x.a (.d y.d)
  | [], ds, h => by simp [tidyXs] at h; subst h; exact ⟨rfl, by simp⟩
  | x :: r, ds, h => by
    simp only [tidyXs] at h
    split at h
    · rename_i y l hy hl
      cases h
      obtain ⟨h1, h2⟩ := tidyXs_get hl
      refine ⟨by simp [h1], fun i a b ha hb => ?_⟩
      cases i with
      | zero => simp at ha hb; subst ha; subst hb; exact asD_le hy
      | succ i => exact h2 i a b (by simpa using ha) (by simpa using hb)
    · cases h
noncomputable def tidyV : XV → XV
  | .agg cs => match tidyXs cs with
    | some ds => .d (.agg ds)
    | none => .agg cs
  | x => x
theorem tidyV_le (x : XV) : ALe x.a (tidyV x).a := by
  cases x with
  | agg cs =>
    simp only [tidyV]
    split
    · rename_i ds hd
      obtain ⟨hl, hc⟩ := tidyXs_get hd
      intro g w v hr
      simp only [XV.a, XD.d] at hr ⊢
      cases hr with
      | agg _ vs hl2 hx =>
        refine .d _ _ (.agg _ vs (by rw [dsOf_length, ← hl, ← asOf_length]; exact hl2) fun i c u hi hu => ?_)
        rw [dsOf_map, List.getElem?_map, Option.map_eq_some_iff] at hi
        obtain ⟨y, hy, rfl⟩ := hi
        have hlt : i < cs.length := by rw [hl]; exact (List.getElem?_eq_some_iff.1 hy).1
        have h1 := hc i cs[i] y (List.getElem?_eq_getElem hlt) hy g w u (hx i cs[i].a u (by rw [asOf_get, List.getElem?_eq_getElem hlt]; rfl) hu)
        cases h1 with
        | d _ _ h => exact h
    · exact .refl _
  | _ => exact .refl _
noncomputable def Out.tidy (out : Out) : Out := { out with res := tidyV out.res }
theorem opT_res {P : Program} {o : Oper} {rd : List (Operand × AV)} {X X' : Store} {F : List Nat} {res res' : AV} (h : OpT P o rd X X' F res) (hle : ALe res res') : OpT P o rd X X' F res' :=
  fun nm hsm B g w a hr hrd next Q hn => h nm hsm B g w a hr hrd next Q fun g' w' v h1 h2 h3 => hn g' w' v h1 h2 (hle g' w' v h3)
theorem OpOk.tidy {P : Program} {o : Oper} {st : XSt} {out : Out} (h : OpOk P o st out) : OpOk P o st out.tidy := by
  refine ⟨h.sees, ?_, h.ol⟩
  have := h.op
  have hle := tidyV_le out.res
  show match out.eff with | .none => _ | .look ks => _ | .put k c => _ | .all => _ | .lab => _ | .putl k c => _ | .new os => _
  cases he : out.eff with
  | none => rw [he] at this; exact ⟨this.1, this.2.1, this.2.2.1, fun X => opT_res (this.2.2.2 X) hle⟩
  | look ks => rw [he] at this; exact ⟨this.1, this.2.1, this.2.2.1, fun X hX => opT_res (this.2.2.2 X hX) hle⟩
  | put k c => rw [he] at this; exact ⟨this.1, this.2.1, this.2.2.1, fun X hX => opT_res (this.2.2.2 X hX) hle⟩
  | all => rw [he] at this; exact opT_res this hle
  | lab => rw [he] at this; exact ⟨this.1, opT_res this.2 hle⟩
  | putl k c => rw [he] at this; exact ⟨this.1, opT_res this.2 hle⟩
  | new os => rw [he] at this; exact ⟨this.1, opT_res this.2 hle⟩
section
variable {P : Program} {R : Type}
noncomputable def xLoadH (P : Program) (st : XSt) (t : TypeId) (x : Operand) (K : Out → Option R) : Option R := xLoadG P st t x fun out => K out.tidy
theorem xLoadH_ok {o : Oper} {st : XSt} {t : TypeId} {x : Operand} {K : Out → Option R} {r : R} (ho : o.op = .load t x) (h : xLoadH P st t x K = some r) : ∃ out, K out = some r ∧ OpOk P o st out := by
  obtain ⟨out, h1, h2⟩ := xLoadG_ok ho h
  exact ⟨_, h1, h2.tidy⟩
end
end Go.Xl
set_option linter.unusedVariables false
set_option linter.unusedSimpArgs false
namespace Go.Ab
def strDs (l : List UInt8) : List (List D) := l.map fun c => [.sc (.int .u8 ((c.toNat : Nat) : Int))]
theorem run_firstCells_str {P : Program} (l : List UInt8) (w : World) : (Builtin.firstCells 1 l.length (.string ⟨l.toArray⟩)).run P w = .ok (l.map fun c => Value.int .u8 ((c.toNat : Nat) : Int)).toArray w := by
  have h : ((⟨l.toArray⟩ : ByteArray).extract 0 l.length).data = l.toArray := by
    rw [ByteArray.data_extract]
    simp
  simp [Builtin.firstCells, h]
theorem bsCells {P : Program} {g : Gh} {w : World} {l : List UInt8} {fs : List (List D)} {sz : Nat} {vx : Value} (hs1 : sz = 1) (hfs : fs = strDs l) (h : RD g.γ w (.bs l) vx) :
    vx = .string ⟨l.toArray⟩ ∧ (∀ (i : Nat) cs, fs[i]? = some cs → cs.length = sz) ∧ ∃ news : List Value, news.length = fs.length * sz ∧
      (∀ w' : World, (∀ b k, k < g.γ b → w'.cell? ⟨b, k, none⟩ = w.cell? ⟨b, k, none⟩) → (Builtin.firstCells sz fs.length (.string ⟨l.toArray⟩)).run P w' = .ok news.toArray w') ∧
      ∀ (p q : Nat) cs c v, fs[p]? = some cs → cs[q]? = some c → news[p * sz + q]? = some v → RD g.γ w c v := by
  subst hs1; subst hfs
  have hlen : (strDs l).length = l.length := by rw [strDs, List.length_map]
  refine ⟨by cases h; rfl, ?_, l.map fun c => Value.int .u8 ((c.toNat : Nat) : Int), by rw [List.length_map, hlen, Nat.mul_one], ?_, ?_⟩
  · intro i cs hcs
    rw [strDs, List.getElem?_map, Option.map_eq_some_iff] at hcs
    obtain ⟨c, _, rfl⟩ := hcs
    rfl
  · intro w' _
    rw [hlen]
    exact run_firstCells_str l w'
  · intro p q cs c v hp hq hv
    rw [strDs, List.getElem?_map, Option.map_eq_some_iff] at hp
    obtain ⟨d, hd, rfl⟩ := hp
    cases q with
    | succ q => simp at hq
    | zero =>
      simp at hq
      subst hq
      rw [Nat.mul_one, Nat.add_zero, List.getElem?_map, hd] at hv
      simp at hv
      subst hv
      exact .sc _
theorem run_append_fitsS {P : Program} {w w' : World} {ts : Array TypeId} {ty t e u : TypeId} {i : TypeInfo} (h0 : ts[0]? = some t) (h1 : ts[1]? = some u) (hu : P.underlying u = some .string)
    (ht : P.underlying t = some (.slice e)) (hi : P.info? e = some i)
    {base : Option Addr} {len cap n : Nat} {l : List UInt8} {news : List Value} (hl : n = l.length) (hx : (Builtin.firstCells i.size n (.string ⟨l.toArray⟩)).run P w = .ok news.toArray w) (hneed : len + n ≤ cap)
    (hst : (base = none ∧ w' = w) ∨ ∃ a, base = some a ∧ (storeCells (a.add (len * i.size)) news).run P w = .ok () w') :
    (Builtin.append_ ts ty #[.slice base len cap, .string ⟨l.toArray⟩]).run P w = .ok (.slice base (len + n) cap) w' := by
  have hz : (⟨l.toArray⟩ : ByteArray).size = n := by rw [hl]; show l.toArray.size = _; simp
  rcases hst with ⟨rfl, rfl⟩ | ⟨a, rfl, hst⟩
  · simp [Builtin.append_, h0, h1, run_underlying ht, run_underlying hu, sizeOf, typeInfo, hi, Builtin.lenOf, hz, hneed, hx]
  · simp [Builtin.append_, h0, h1, run_underlying ht, run_underlying hu, sizeOf, typeInfo, hi, Builtin.lenOf, hz, hneed, hx, hst]
theorem run_append_growsS {P : Program} {w : World} {ts : Array TypeId} {ty t e u : TypeId} {i : TypeInfo} {z : Value} (h0 : ts[0]? = some t) (h1 : ts[1]? = some u) (hu : P.underlying u = some .string)
    (ht : P.underlying t = some (.slice e)) (hi : P.info? e = some i) (hz : i.zero = some z)
    {base : Option Addr} {len cap n : Nat} {l : List UInt8} {news olds : List Value} (hl : n = l.length) (hx : (Builtin.firstCells i.size n (.string ⟨l.toArray⟩)).run P w.drew = .ok news.toArray w.drew)
    (ho : (Builtin.firstCells i.size len (.slice base len cap)).run P w.drew = .ok olds.toArray w.drew) (hneed : ¬ len + n ≤ cap)
    (h63 : ((len + n : Nat) : Int) ≤ 9223372036854775807) (h48 : (len + n) * i.bytes ≤ 140737488355328) :
    (Builtin.append_ ts ty #[.slice base len cap, .string ⟨l.toArray⟩]).run P w =
      .ok (.slice (some ⟨w.heap.size, 0, none⟩) (len + n) (grownCap w (len + n) cap e))
        (w.drew.alloc (.cells (olds.toArray ++ news.toArray ++ Builtin.zeroCells z.cells (grownCap w (len + n) cap e - (len + n))) e)) := by
  have hzz : (⟨l.toArray⟩ : ByteArray).size = n := by rw [hl]; show l.toArray.size = _; simp
  have h63' : ¬ (9223372036854775807 < ((len : Int) + (n : Int))) := by omega
  have hfit := growslice_fits (need := len + n) (old := cap) (by omega) h48
  have h48' : ¬ (281474976710656 < Builtin.nextslicecap (len + n) cap * i.bytes) := by omega
  simp [Builtin.append_, h0, h1, run_underlying ht, run_underlying hu, sizeOf, typeInfo, zeroValue, hi, hz, Builtin.lenOf, hzz, hneed, h63', h48', Question.forced, hx, ho, Go.newRow, grownCap]
  congr 2
  apply Array.ext'
  simp [List.append_assoc]
section
variable {P : Program} {o : Oper} {X : Store}
theorem op_append_str {ty : Option TypeId} {ts : Array TypeId} {s x : Operand} {n sz : Nat} {es fs : List (List D)} {l : List UInt8} {t u e : TypeId} {i : TypeInfo} {z : Value} (m : Nat)
    (ho : o.op = .call { callee := .builtin .append, args := #[s, x], argTypes := ts }) (h0 : ts[0]? = some t) (h1 : ts[1]? = some u) (hu : P.underlying u = some .string)
    (ht : P.underlying t = some (.slice e)) (hi : P.info? e = some i) (hz : i.zero = some z) (hzs : z.cells.size = sz) (hsz : i.size = sz) (hs1 : i.size = 1) (hfs : fs = strDs l) (hn : n ∈ X.live) (hm : m ∉ X.live.filter (· != n)) (hX : objsFree [m] X = true)
    (hone : ∀ cs ∈ fs, ∀ c ∈ cs, oneD c = true) (hbig : (es.length + fs.length) * i.bytes ≤ 140737488355328) (hlen : es.length + fs.length ≤ 4611686018427387904)
    (hty : ∀ e', ty = some e' → e' = e) :
    OpT P o [(s, .tip n sz es ty), (x, .d (.bs l))] X ⟨X.objs, m :: X.live.filter (· != n)⟩ [m] (.tip m sz (es ++ fs) ty) := by
  subst hsz
  intro nm hsm B g w a hr hrd next Q hnext
  have e1 := rd0 hrd
  have e2 := rd1 hrd
  simp only at e1 e2
  unfold Oper.wp
  have hrun : ∀ r, (Builtin.append_ ts o.type #[a.eval s, a.eval x]).run P w = r → (execOp a.eval o).run P w = r.andThen fun v w' => .ok (.value v) w' := by
    intro r hr'
    simp only [execOp, ho, resolve]
    simp [invoke, builtin, hr']
  generalize a.eval s = vs at e1 hrun
  generalize a.eval x = vx at e2 hrun
  cases e1 with
  | tip _ _ _ _ _ e1 htip =>
  cases e2 with
  | d _ _ e2 =>
  obtain ⟨base, cap, rfl, hcap, hbn, hszE, olds, hol, horun, hoc⟩ := e1.slCells (P := P) hr.sane
  obtain ⟨rfl, hszF, news, hnl, hnrun, hnc⟩ := bsCells (P := P) (g := g) hs1 hfs e2
  have hfl : fs.length = l.length := by rw [hfs, strDs, List.length_map]
  have hszEF := getElem?_append_cells hszE hszF
  have hob : ∃ ob, g.β n = some ob := Option.isSome_iff_exists.1 ((hr.live n).1 hn)
  obtain ⟨ob, hob⟩ := hob
  obtain ⟨hr1, ht1⟩ := hr.dropTip n
  have hone' : ∀ v ∈ news, v.oneCell' = true := by
    intro v hv
    obtain ⟨k, hk⟩ := List.mem_iff_getElem?.1 hv
    have hklt : k < fs.length * i.size := by have := (List.getElem?_eq_some_iff.1 hk).1; omega
    obtain ⟨p, q, cs, c, rfl, hp, hq⟩ := mem_of_slot hszF hklt
    exact oneD_val (hnc p q cs c v hp hq hk) (hone cs (List.mem_of_getElem? hp) c (List.mem_of_getElem? hq))
  by_cases hneed : es.length + fs.length ≤ cap
  · -- the result lies where s lay
    have same : fs = [] → (Builtin.append_ ts o.type #[.slice base es.length cap, .string ⟨l.toArray⟩]).run P w = .ok (.slice base es.length cap) w →
        base = none →
        Oper.upon P o a next Q ((execOp a.eval o).run P w) := by
      intro hf hrn hfull
      obtain ⟨hr2, ht2⟩ := hr1.addTip (m := m) hm none hX (by simp)
      rw [hrun _ hrn]
      subst hf
      simp only [List.append_nil] at *
      refine hnext _ w _ hr2 (ht1.trans ht2) (.tip m i.size es ty _ (e1.mono (ht1.trans ht2).le) ?_)
      subst hfull; trivial
    cases hb : base with
    | none =>
      have h0' : cap = 0 := hbn hb
      have hf : fs = [] := by cases fs with
        | nil => rfl
        | cons _ _ => simp at hneed; omega
      have hrn := run_append_fitsS (hl := hfl) (P := P) (w := w) (w' := w) (ty := o.type) h0 h1 hu ht hi (base := base) (hnrun w fun _ _ _ => rfl) hneed (.inl ⟨hb, rfl⟩)
      subst hb
      refine same hf ?_ rfl
      rw [hrn]; subst hf; rfl
    | some b0 =>
      subst hb
      obtain ⟨b, off, sp⟩ := b0
      obtain ⟨hsp, htp⟩ := htip ob hob
      simp only at hsp; subst hsp
      by_cases hfe : fs = []
      · subst hfe
        have hn0 : news = [] := by simpa using hnl
        subst hn0
        have hrn := run_append_fitsS (hl := hfl) (P := P) (w := w) (w' := w) (ty := o.type) h0 h1 hu ht hi (base := some ⟨b, off, none⟩) (hnrun w fun _ _ _ => rfl) hneed (.inr ⟨_, rfl, rfl⟩)
        obtain ⟨hob', hγ, hroom, htyp⟩ := htp
        · -- nothing is written; the label keeps its block
          subst hob'
          obtain ⟨hr2, ht2⟩ := hr1.addTip (m := m) hm (some b) hX (by
            intro b' hb'; cases hb'
            refine ⟨hr.tiplt n b hob, hr.tipnew n b hob, fun k p hk => hr.tipobj n b k p hob hk, fun n' hn' => ?_, hr.eta.dropN hob⟩
            by_cases he : n' = n
            · subst he; simp [upd_same] at hn'
            · simp only [upd_other _ _ he] at hn'; exact he (hr.tipinj n' n b hn' hob))
          rw [hrun _ hrn]
          simp only [List.append_nil] at hnext
          refine hnext _ w _ hr2 (ht1.trans ht2) (.tip m i.size es ty _ (e1.mono (ht1.trans ht2).le) ?_)
          · intro ob' hob'
            simp only [upd_same, Option.some.injEq] at hob'
            exact ⟨rfl, hob'.symm, hγ, hroom, htyp⟩
      · have hpos : 0 < fs.length := List.length_pos_iff.2 hfe
        obtain ⟨hob', hγ, hroom, htyp⟩ := htp
        subst hob'
        simp only at hγ hroom
        have hblt := hr.tiplt n b hob
        have hmul : (es.length + fs.length) * i.size = es.length * i.size + fs.length * i.size := Nat.add_mul _ _ _
        have hmulc : (es.length + fs.length) * i.size ≤ cap * i.size := Nat.mul_le_mul_right _ hneed
        -- the block
        have hblk : fs.length * i.size = 0 ∨ ∃ arr T fr, w.heap[b]? = some (.cells arr T fr) ∧ off + cap * i.size ≤ arr.size := by
          rcases Nat.eq_zero_or_pos (fs.length * i.size) with h | h
          · exact .inl h
          · right
            have hlast := hroom (off + cap * i.size - 1) (by omega) (by omega)
            obtain ⟨v, hv⟩ := Option.isSome_iff_exists.1 hlast.1
            unfold World.cell? at hv
            simp only at hv
            split at hv
            · rename_i arr T fr hh
              refine ⟨arr, T, fr, hh, ?_⟩
              simp at hv
              have := (Array.getElem?_eq_some_iff.1 hv).1
              omega
            · cases hv
        rcases hblk with hzero | ⟨arr, T, fr, hblk, hsize⟩
        · -- elements without cells
          have hn0 : news = [] := List.length_eq_zero_iff.1 (by omega)
          subst hn0
          have hrn := run_append_fitsS (hl := hfl) (P := P) (w := w) (w' := w) (ty := o.type) h0 h1 hu ht hi (base := some ⟨b, off, none⟩) (hnrun w fun _ _ _ => rfl) hneed (.inr ⟨_, rfl, rfl⟩)
          obtain ⟨hr2, ht2⟩ := hr1.addTip (m := m) hm (some b) hX (by
            intro b' hb'; cases hb'
            refine ⟨hr.tiplt n b hob, hr.tipnew n b hob, fun k p hk => hr.tipobj n b k p hob hk, fun n' hn' => ?_, hr.eta.dropN hob⟩
            by_cases he : n' = n
            · subst he; simp [upd_same] at hn'
            · simp only [upd_other _ _ he] at hn'; exact he (hr.tipinj n' n b hn' hob))
          rw [hrun _ hrn]
          refine hnext _ w _ hr2 (ht1.trans ht2) (.tip m i.size _ ty _ ?_ ?_)
          · refine .ofCells' List.length_append.symm (by simp only; omega) hneed hszEF ?_
            intro p q cs c v hp hq hv
            have h2 : q < cs.length := (List.getElem?_eq_some_iff.1 hq).1
            rw [hszEF p cs hp] at h2
            have : i.size = 0 := by
              rcases Nat.mul_eq_zero.1 hzero with h | h
              · omega
              · exact h
            omega
          · intro ob' hob'
            simp only [upd_same, Option.some.injEq] at hob'
            refine ⟨rfl, hob'.symm, ?_, ?_, htyp⟩
            · simp only; omega
            · intro p h3 h4; exact hroom p (by simp only at h3; omega) h4
        · obtain ⟨w', arr', hst, hb', hs', hp', hz', hoth, hi'⟩ := run_storeCells' (P := P) (off := off + es.length * i.size) news 0 w arr hblk hone' (by omega) (by
            intro j h3 h4; exact (hroom j (by omega) (by omega)).2)
          have hrn := run_append_fitsS (hl := hfl) (P := P) (w := w) (w' := w') (ty := o.type) h0 h1 hu ht hi (base := some ⟨b, off, none⟩) (hnrun w fun _ _ _ => rfl) hneed (.inr ⟨_, rfl, by rw [addr_add]; exact hst⟩)
          simp only [Nat.add_zero] at hp'
          have holdc : ∀ k, k < off + es.length * i.size → w'.cell? ⟨b, k, none⟩ = w.cell? ⟨b, k, none⟩ := by
            intro k hk
            rw [cell?_cells hb', cell?_cells hblk, hp' k, if_neg (by omega)]
          have hsane' : ∀ k, k < off + (es.length + fs.length) * i.size → (w'.cell? ⟨b, k, none⟩).isSome := by
            intro k hk
            rw [cell?_cells hb']
            have : k < arr'.size := by omega
            simp [this]
          obtain ⟨hr2, ht2⟩ := hr1.raise (w' := w') (b := b) (n := off + (es.length + fs.length) * i.size) hblt (hr.tipnew n b hob) (fun k p hk => hr.tipobj n b k p hob hk) (by
            intro n' hn'
            by_cases he : n' = n
            · subst he; simp [upd_same] at hn'
            · simp only [upd_other _ _ he] at hn'; exact he (hr.tipinj n' n b hn' hob)) (hr.eta.dropN hob) hz' hi' hoth (by intro k hk; exact holdc k (by simp only at hk; omega)) (by simp only; omega) hsane' (by
            intro s hs0
            simp only [World.shape?, hblk] at hs0
            simp only [World.shape?, hb', hs']
            exact hs0)
          obtain ⟨hr3, ht3⟩ := hr2.addTip (m := m) hm (some b) hX (by
            intro b' hb'; cases hb'
            refine ⟨by rw [hz']; exact hblt, hr.tipnew n b hob, fun k p hk => hr.tipobj n b k p hob hk, fun n' hn' => ?_, hr.eta.dropN hob⟩
            by_cases he : n' = n
            · subst he; simp [upd_same] at hn'
            · simp only [upd_other _ _ he] at hn'; exact he (hr.tipinj n' n b hn' hob))
          have hT := (ht1.trans ht2).trans ht3
          rw [hrun _ hrn]
          refine hnext _ w' _ hr3 hT (.tip m i.size _ ty _ ?_ ?_)
          · refine .ofCells' List.length_append.symm (by simp only [upd_same]; omega) hneed hszEF ?_
            intro p q cs c v hp hq hv
            have h2 : q < cs.length := (List.getElem?_eq_some_iff.1 hq).1
            rw [hszEF p cs hp] at h2
            rw [List.getElem?_append] at hp
            split at hp
            · rename_i hplt
              have hlt := lt_slot hplt h2
              rw [holdc _ (by omega)] at hv
              have hold := horun w fun _ _ _ => rfl
              cases e1 with
              | nil => simp at hp
              | sl _ _ _ _ _ _ _ _ _ _ hc =>
                exact (hc p cs q c v hp hq (by rw [Nat.add_assoc]; exact hv)).mono hT.le
            · rename_i hpge
              have hplt : p - es.length < fs.length := by have := (List.getElem?_eq_some_iff.1 hp).1; omega
              have hlt := lt_slot hplt h2
              have hpq : p * i.size + q = es.length * i.size + ((p - es.length) * i.size + q) := by
                have : p = es.length + (p - es.length) := by omega
                conv => lhs; rw [this, Nat.add_mul]
                omega
              rw [cell?_cells hb', hp', if_pos (by omega)] at hv
              refine (hnc (p - es.length) q cs c v hp hq ?_).mono hT.le
              rw [← hv]; congr 1; omega
          · intro ob' hob'
            simp only [upd_same, Option.some.injEq] at hob'
            refine ⟨rfl, hob'.symm, by simp only [upd_same], ?_, ?_⟩
            rotate_left
            · intro e1 he1
              obtain ⟨h1, c, h2⟩ := htyp e1 he1
              refine ⟨h1, arr'.size, ?_⟩
              simp only [World.shape?, hblk] at h2
              simp only [World.shape?, hb']
              simp only [Option.some.injEq, Prod.mk.injEq] at h2
              rw [h2.1]
            intro p h3 h4
            simp only at h3 h4
            have h5 := hroom p (by omega) h4
            refine ⟨?_, ?_⟩
            · rw [cell?_cells hb']
              have : p < arr'.size := by omega
              simp [this]
            · have := h5.2
              simp only [World.frozen?, hblk] at this
              simp only [World.frozen?, hb']
              exact this
  · -- a new row
    obtain ⟨hrd', htd⟩ := hr1.drew
    have hdc : ∀ b k, k < g.γ b → (w.drew).cell? ⟨b, k, none⟩ = w.cell? ⟨b, k, none⟩ := fun _ _ _ => rfl
    have hrn := run_append_growsS (hl := hfl) (P := P) (w := w) (ty := o.type) h0 h1 hu ht hi hz (hnrun w.drew hdc) (horun w.drew hdc) hneed (by omega) hbig
    have hge := grownCap_ge w (es.length + fs.length) cap e
    generalize grownCap w (es.length + fs.length) cap e = nc at hrn hge
    have hmul : (es.length + fs.length) * i.size = es.length * i.size + fs.length * i.size := Nat.add_mul _ _ _
    have harr : (olds.toArray ++ news.toArray ++ Builtin.zeroCells z.cells (nc - (es.length + fs.length))).size = nc * i.size := by
      simp only [Array.size_append, List.size_toArray, size_zeroCells, hol, hnl, hzs]
      rw [← hmul, ← Nat.add_mul]
      congr 1; omega
    have hncm : (es.length + fs.length) * i.size ≤ nc * i.size := Nat.mul_le_mul_right _ hge
    generalize harrE : olds.toArray ++ news.toArray ++ Builtin.zeroCells z.cells (nc - (es.length + fs.length)) = arr at hrn harr
    obtain ⟨hr2, ht2⟩ := hrd'.newRow arr e ((es.length + fs.length) * i.size) (by omega)
    obtain ⟨hr3, ht3⟩ := hr2.addTip (m := m) hm (some w.drew.heap.size) hX (by
      intro b' hb'; cases hb'
      refine ⟨by simp, .inl hrd'.base, fun k p hk => ?_, fun n' hn' => ?_, hrd'.eta.ltN (Nat.le_refl _)⟩
      · have := obRel_lt (hrd'.objs k p hk); simp only at this ⊢; omega
      · have := hrd'.tiplt n' _ hn'; omega)
    have hT := ((ht1.trans htd).trans ht2).trans ht3
    rw [hrun _ hrn]
    have hnewc : ∀ k, (w.drew.alloc (.cells arr e)).cell? ⟨w.drew.heap.size, k, none⟩ = arr[k]? := fun k => cell?_cells (heap_alloc_new w.drew (.cells arr e)) k
    refine hnext _ _ _ hr3 hT (.tip m i.size _ ty _ ?_ ?_)
    · have hww : w.heap.size = w.drew.heap.size := rfl
      rw [hww]
      refine .ofCells' List.length_append.symm (by simp only [upd_same]; omega) hge hszEF ?_
      intro p q cs c v hp hq hv
      have h2 : q < cs.length := (List.getElem?_eq_some_iff.1 hq).1
      rw [hszEF p cs hp] at h2
      rw [Nat.zero_add, hnewc, ← harrE] at hv
      rw [List.getElem?_append] at hp
      split at hp
      · rename_i hplt
        have hlt := lt_slot hplt h2
        rw [Array.append_assoc, Array.getElem?_append_left (by simp; omega)] at hv
        exact (hoc p q cs c v hp hq (by simpa using hv)).mono hT.le
      · rename_i hpge
        have hplt : p - es.length < fs.length := by have := (List.getElem?_eq_some_iff.1 hp).1; omega
        have hlt := lt_slot hplt h2
        have hpq : p * i.size + q = es.length * i.size + ((p - es.length) * i.size + q) := by
          have : p = es.length + (p - es.length) := by omega
          conv => lhs; rw [this, Nat.add_mul]
          omega
        rw [Array.getElem?_append_left (by simp; omega), Array.getElem?_append_right (by simp; omega)] at hv
        refine (hnc (p - es.length) q cs c v hp hq ?_).mono hT.le
        rw [← hv]
        simp only [List.size_toArray, List.getElem?_toArray]
        congr 1; omega
    · intro ob' hob'
      simp only [upd_same, Option.some.injEq] at hob'
      subst hob'
      have hww : w.heap.size = w.drew.heap.size := rfl
      refine ⟨rfl, by rw [hww], by rw [hww]; simp only [upd_same, Nat.zero_add], ?_, ?_⟩
      rotate_left
      · intro e1 he1
        rw [hty e1 he1]
        refine ⟨rfl, arr.size, ?_⟩
        have := heap_alloc_new w.drew (.cells arr e)
        simp only [World.shape?]
        rw [hww, this]
      intro p h3 h4
      simp only [Nat.zero_add] at h3 h4
      rw [hww]
      refine ⟨by rw [hnewc]; simp; omega, ?_⟩
      exact frozen_of_row _ _ _ arr e (heap_alloc_new w.drew (.cells arr e))
end
end Go.Ab
set_option linter.unusedVariables false
set_option linter.unusedSimpArgs false
namespace Go.Xl
open Go.Ab
section
variable {P : Program} {R : Type}
noncomputable def appStrB (P : Program) (ts : Array TypeId) : Bool :=
  match ts[1]? with
  | some u => match P.underlying u with
    | some .string => true
    | _ => false
  | none => false
noncomputable def xAppStr (P : Program) (st : XSt) (o : Oper) (ts : Array TypeId) (s x : Operand) (K : Out → Option R) : Option R :=
  match ts[0]?, newLab o with
  | some t, some m =>
    match sliceOfT P t, xeval st s, xd st x with
    | some (e, sz, bytes), some (.tip n .u8 l oty), some (.s l') =>
        cond (Nat.beq sz 1) (cond (inl n st.live) (cond (freshL m (without n st.live) st) (cond (tyOpt oty e)
          (cond (fitsB (l.length + l'.length) bytes) (K ⟨.lab, .tip m .u8 (l ++ l') oty, [(s, .tip n .u8 l oty), (x, .d (.s l'))], st.objs, m :: without n st.live, [m], []⟩) none) none) none) none) none
    | _, _, _ => none
  | _, _ => none
theorem xAppStr_ok {o : Oper} {st : XSt} {ts : Array TypeId} {s x : Operand} {K : Out → Option R} {r : R} (ho : o.op = .call { callee := .builtin .append, args := #[s, x], argTypes := ts }) (hb : appStrB P ts = true) (h : xAppStr P st o ts s x K = some r) : ∃ out, K out = some r ∧ OpOk P o st out := by
  have hu : ∃ u, ts[1]? = some u ∧ P.underlying u = some .string := by
    unfold appStrB at hb
    split at hb
    · rename_i u h1
      split at hb
      · rename_i h2; exact ⟨u, h1, h2⟩
      · cases hb
    · cases hb
  obtain ⟨u, hu1, hu2⟩ := hu
  unfold xAppStr at h
  split at h
  · rename_i t m ht hm
    split at h
    · rename_i e sz bytes n l oty l' hsl hs hx
      cases h1 : Nat.beq sz 1 with
      | false => simp [h1] at h
      | true =>
      cases h2 : inl n st.live with
      | false => simp [h1, h2] at h
      | true =>
      cases h3 : freshL m (without n st.live) st with
      | false => simp [h1, h2, h3] at h
      | true =>
      cases h4 : tyOpt oty e with
      | false => simp [h1, h2, h3, h4] at h
      | true =>
      cases h5 : fitsB (l.length + l'.length) bytes with
      | false => simp [h1, h2, h3, h4, h5] at h
      | true =>
        simp only [h1, h2, h3, h4, h5, cond_true] at h
        have e1 := Nat.eq_of_beq_eq_true h1
        subst e1
        obtain ⟨f1, f2⟩ := freshL_ok h3
        obtain ⟨b1, b2⟩ := fitsB_iff h5
        obtain ⟨hte, i, z, hi, hsz, hby, hz, hzs⟩ := sliceOfT_I hsl
        have hty : ∀ e', oty = some e' → e' = e := by
          intro e' he
          subst he
          simp only [tyOpt] at h4
          exact Nat.eq_of_beq_eq_true h4
        refine ⟨_, h, ⟨?_, ?_, fun _ _ _ h => h⟩⟩
        · intro p hp
          simp only [imRd, List.map_cons, List.map_nil, List.mem_cons, List.not_mem_nil, or_false] at hp
          rcases hp with rfl | rfl
          · exact xeval_sees hs
          · exact xd_at hx
        · have := op_append_str (P := P) (X := st.X) (s := s) (x := x) (n := n) (sz := 1) (es := l.map Ty.u8.ds) (fs := strDs l') (l := l') (ty := oty) m ho ht hu1 hu2 hte hi hz hzs hsz hsz rfl ((inl_eq _ _).1 h2) f1 f2
              (by intro cs hcs c hc; rw [strDs] at hcs; obtain ⟨y, _, rfl⟩ := List.mem_map.1 hcs; exact Ty.u8.ds_one y c hc) (by rw [strDs, List.length_map, List.length_map, hby]; exact b1) (by rw [strDs, List.length_map, List.length_map]; exact b2) hty
          have e : l.map Ty.u8.ds ++ strDs l' = (l ++ l').map Ty.u8.ds := by rw [List.map_append]; rfl
          rw [e] at this
          exact ⟨rfl, this⟩
    · cases h
  · cases h
end
end Go.Xl
set_option linter.unusedVariables false
set_option linter.unusedSimpArgs false
set_option linter.unnecessarySimpa false
namespace Go.Xl
open Go.Ab
noncomputable def Ty.eqv : (t : Ty) → t.T → t.T → Bool
  | .int _, a, b => decide ((a : Int) = b)
  | .u8, a, b => decide ((a : UInt8) = b)
  | .str, a, b => decide ((a : List UInt8) = b)
  | .pair s t, a, b => s.eqv a.1 b.1 && t.eqv a.2 b.2
  | .st1 t, a, b => t.eqv a b
  | _, _, _ => false
noncomputable def Ty.key : Ty → Bool
  | .int _ => true
  | .u8 => true
  | .str => true
  | .pair s t => cond s.key t.key false
  | .st1 t => t.key
  | _ => false
theorem Ty.eqv_iff : ∀ (t : Ty) (a b : t.T), t.key = true → (t.eqv a b = true ↔ a = b)
  | .int _, a, b, _ => by simp [Ty.eqv]
  | .u8, a, b, _ => by simp [Ty.eqv]
  | .str, a, b, _ => by simp [Ty.eqv]
  | .pair s t, a, b, h => by
    simp only [Ty.key] at h
    cases hs : s.key with
    | false => simp [hs] at h
    | true =>
      simp only [hs, cond_true] at h
      simp only [Ty.eqv, Bool.and_eq_true, s.eqv_iff _ _ hs, t.eqv_iff _ _ h, Prod.ext_iff]
  | .st1 t, a, b, h => t.eqv_iff a b h
  | .bool, _, _, h => by simp [Ty.key] at h
  | .sl _, _, _, h => by simp [Ty.key] at h
  | .unit, _, _, h => by simp [Ty.key] at h
  | .tab _, _, _, h => by simp [Ty.key] at h
  | .err, _, _, h => by simp [Ty.key] at h
  | .ic _ _, _, _, h => by simp [Ty.key] at h
  | .ptr, _, _, h => by simp [Ty.key] at h
noncomputable def Ty.kvs : (t : Ty) → t.T → List Value
  | .int k, a => [.int k a]
  | .u8, a => [.int .u8 (a.toNat : Int)]
  | .str, a => [.string ⟨a.toArray⟩]
  | .pair s t, a => s.kvs a.1 ++ t.kvs a.2
  | .st1 t, a => t.kvs a
  | _, _ => []
theorem Ty.kvs_ds : ∀ (t : Ty) (a : t.T), t.key = true → t.ds a = (t.kvs a).map .sc
  | .int _, a, _ => rfl
  | .u8, a, _ => rfl
  | .str, a, _ => rfl
  | .pair s t, a, h => by
    simp only [Ty.key] at h
    cases hs : s.key with
    | false => simp [hs] at h
    | true =>
      simp only [hs, cond_true] at h
      simp only [Ty.ds, Ty.kvs, s.kvs_ds _ hs, t.kvs_ds _ h, List.map_append]
  | .st1 t, a, h => by simp only [Ty.ds, Ty.kvs]; exact t.kvs_ds a h
  | .bool, _, h => by simp [Ty.key] at h
  | .sl _, _, h => by simp [Ty.key] at h
  | .unit, _, h => by simp [Ty.key] at h
  | .tab _, _, h => by simp [Ty.key] at h
  | .err, _, h => by simp [Ty.key] at h
  | .ic _ _, _, h => by simp [Ty.key] at h
  | .ptr, _, h => by simp [Ty.key] at h
theorem Ty.kvs_one : ∀ (t : Ty) (a : t.T), ∀ v ∈ t.kvs a, v.oneCell' = true
  | .int _, a => by simp [Ty.kvs, Value.oneCell']
  | .u8, a => by simp [Ty.kvs, Value.oneCell']
  | .str, a => by simp [Ty.kvs, Value.oneCell']
  | .pair s t, a => by
    intro v hv
    simp only [Ty.kvs, List.mem_append] at hv
    rcases hv with h | h
    · exact s.kvs_one _ v h
    · exact t.kvs_one _ v h
  | .st1 t, a => by simp only [Ty.kvs]; exact t.kvs_one a
  | .bool, _ => by simp [Ty.kvs]
  | .sl _, _ => by simp [Ty.kvs]
  | .unit, _ => by simp [Ty.kvs]
  | .tab _, _ => by simp [Ty.kvs]
  | .err, _ => by simp [Ty.kvs]
  | .ic _ _, _ => by simp [Ty.kvs]
  | .ptr, _ => by simp [Ty.kvs]
noncomputable def Ty.kval (t : Ty) (a : t.T) : Value := if t.agg then .agg (t.kvs a).toArray else (t.kvs a).headD undef
theorem dvals_sc : ∀ l : List Value, dval.dvals (l.map .sc) = l
  | [] => rfl
  | v :: r => by simp [dval.dvals, dval, dvals_sc r]
theorem Ty.kval_dv (t : Ty) (a : t.T) (h : t.key = true) : dval (t.dv a) = t.kval a := by
  unfold Ty.kval
  cases hg : t.agg with
  | true =>
    rw [t.dv_agg a hg, t.kvs_ds a h]
    simp [dval, dvals_sc]
  | false =>
    have h1 := t.dv_one a hg
    rw [t.kvs_ds a h] at h1
    cases hk : t.kvs a with
    | nil => rw [hk] at h1; simp at h1
    | cons v r =>
      rw [hk] at h1
      simp only [List.map_cons, List.cons.injEq] at h1
      rw [← h1.1]; rfl
theorem Ty.kval_rd {γ : Nat → Nat} {w : World} (t : Ty) (a : t.T) (h : t.key = true) : RD γ w (t.dv a) (t.kval a) := by
  unfold Ty.kval
  cases hg : t.agg with
  | true =>
    rw [t.dv_agg a hg, t.kvs_ds a h]
    simp only [if_true]
    refine .agg _ _ (by simp) fun i c v hc hv => ?_
    rw [List.getElem?_map] at hc
    rw [List.getElem?_toArray] at hv
    rw [hv] at hc
    simp at hc; subst hc
    exact .sc _
  | false =>
    have h1 := t.dv_one a hg
    rw [t.kvs_ds a h] at h1
    cases hk : t.kvs a with
    | nil => rw [hk] at h1; simp at h1
    | cons v r =>
      rw [hk] at h1
      simp only [List.map_cons, List.cons.injEq] at h1
      rw [← h1.1]
      exact .sc _
theorem rd_sc {γ : Nat → Nat} {w : World} {u v : Value} (h : RD γ w (.sc u) v) : v = u := by cases h; rfl
theorem Ty.kval_inv {γ : Nat → Nat} {w : World} {t : Ty} {a : t.T} {v : Value} (h : t.key = true) (hr : RD γ w (t.dv a) v) : v = t.kval a := by
  unfold Ty.kval
  cases hg : t.agg with
  | true =>
    rw [t.dv_agg a hg, t.kvs_ds a h] at hr
    simp only [if_true]
    cases hr with
    | agg _ vs hl hc =>
      congr 1
      apply Array.ext
      · simpa using hl.symm
      · intro i h1 h2
        have h3 : i < (t.kvs a).length := by simpa using h2
        have := rd_sc (hc i (.sc (t.kvs a)[i]) vs[i] (by simp [h3]) (by simp [h1]))
        simpa using this
  | false =>
    have h1 := t.dv_one a hg
    rw [t.kvs_ds a h] at h1
    cases hk : t.kvs a with
    | nil => rw [hk] at h1; simp at h1
    | cons u r =>
      rw [hk] at h1
      simp only [List.map_cons, List.cons.injEq] at h1
      rw [← h1.1] at hr
      cases hr
      rfl
section
variable {P : Program}
noncomputable def keySc (P : Program) (t : TypeId) (kt : Ty) : Bool :=
  match P.underlying t with
  | some (.int k) => match kt with
    | .int k' => kindB k' k
    | .u8 => kindB .u8 k
    | _ => false
  | some .string => match kt with
    | .str => true
    | _ => false
  | _ => false
noncomputable def keyFs (P : Program) : Nat → Ty → List Field → Bool
  | off, kt, [f] => cond (Nat.beq f.offset off) (cond (decide (f.name = "_")) false (cond (keySc P f.type kt) (match tyI P f.type with | some (ag, sz) => cond (Nat.beq sz 1) (!ag) false | none => false) false)) false
  | off, kt, f :: g :: r => match kt with
    | .pair a b => cond (Nat.beq f.offset off) (cond (decide (f.name = "_")) false (cond (keySc P f.type a) (match tyI P f.type with | some (ag, sz) => cond (Nat.beq sz 1) (cond ag false (keyFs P (off + 1) b (g :: r))) false | none => false) false)) false
    | _ => false
  | _, _, [] => false
noncomputable def keyChk (P : Program) (t : TypeId) (kt : Ty) : Bool :=
  cond (keySc P t kt) true (match P.underlying t with
    | some (.struct fs) => cond (P.stoodInHeld t) false (cond (P.eqGuardType P.depth t) false (match fs.toList with
      | [f] => match kt with
        | .st1 a => keyFs P 0 a [f]
        | _ => false
      | l => keyFs P 0 kt l))
    | some (.array 2 e) => match P.underlying e, tyI P e, kt with
      | some (.int k), some (false, 1), .pair (.int k1) (.int k2) => cond (kindB k1 k) (kindB k2 k) false
      | _, _, _ => false
    | _ => false)
theorem keySc_key {t : TypeId} {kt : Ty} (h : keySc P t kt = true) : kt.key = true ∧ kt.agg = false := by
  unfold keySc at h
  split at h
  · split at h <;> first | exact ⟨rfl, rfl⟩ | cases h
  · split at h <;> first | exact ⟨rfl, rfl⟩ | cases h
  · cases h
theorem keySc_size {t : TypeId} {kt : Ty} (h : keySc P t kt = true) : kt.size = 1 := by
  unfold keySc at h
  split at h
  · split at h <;> first | rfl | cases h
  · split at h <;> first | rfl | cases h
  · cases h
theorem keySc_eqS {t : TypeId} {kt : Ty} (h : keySc P t kt = true) (d : Nat) (a b : kt.T) : eqS P (d + 1) t (kt.enc a) (kt.enc b) = some (kt.eqv a b) := by
  unfold keySc at h
  split at h
  · rename_i k hu
    split at h
    · rename_i k'
      have := kindB_eq h
      subst this
      simp only [eqS, hu, Ty.enc]
      rw [show kindB k' k' = true by cases k' <;> rfl, cond_true]
      simp [Ty.eqv, BEq.beq]
    · simp only [eqS, hu, Ty.enc]
      simp [Ty.eqv, BEq.beq]
    · cases h
  · rename_i hu
    split at h
    · simp only [eqS, hu, Ty.enc, Ty.eqv]
      congr 1
      rw [Bool.eq_iff_iff]; simp
    · cases h
  · cases h
theorem enc_len1 {kt : Ty} (h : kt.size = 1) (a : kt.T) : (kt.enc a).length = 1 := by rw [Ty.enc_length, h]
theorem keyFs_eqS (d : Nat) : ∀ (fl : List Field) (off : Nat) (kt : Ty) (a b : kt.T) (xs ys : List XD), keyFs P off kt fl = true → xs.drop off = kt.enc a → ys.drop off = kt.enc b →
    eqS.eqFs P (eqS P (d + 1)) xs ys fl = some (kt.eqv a b)
  | [], _, _, _, _, _, _, h, _, _ => by simp [keyFs] at h
  | [f], off, kt, a, b, xs, ys, h, hx, hy => by
    simp only [keyFs] at h
    cases h1 : Nat.beq f.offset off with
    | false => simp [h1] at h
    | true =>
    have e1 := Nat.eq_of_beq_eq_true h1
    simp only [h1, cond_true] at h
    cases h2 : decide (f.name = "_") with
    | true => simp [h2] at h
    | false =>
    simp only [h2, cond_false] at h
    cases h3 : keySc P f.type kt with
    | false => simp [h3] at h
    | true =>
    simp only [h3, cond_true] at h
    split at h
    · rename_i ag sz ht
      cases h4 : Nat.beq sz 1 with
      | false => simp [h4] at h
      | true =>
      have e4 := Nat.eq_of_beq_eq_true h4
      subst e4
      unfold eqS.eqFs
      have e5 : (xs.drop off).take 1 = kt.enc a := by rw [hx, List.take_of_length_le (by rw [enc_len1 (keySc_size h3)]; exact Nat.le_refl _)]
      have e6 : (ys.drop off).take 1 = kt.enc b := by rw [hy, List.take_of_length_le (by rw [enc_len1 (keySc_size h3)]; exact Nat.le_refl _)]
      simp only [ht, h2, cond_false, e1, e5, e6, keySc_eqS h3]
    · cases h
  | f :: g :: r, off, kt, a, b, xs, ys, h, hx, hy => by
    cases kt with
    | pair s t =>
      simp only [keyFs] at h
      cases h1 : Nat.beq f.offset off with
      | false => simp [h1] at h
      | true =>
      have e1 := Nat.eq_of_beq_eq_true h1
      simp only [h1, cond_true] at h
      cases h2 : decide (f.name = "_") with
      | true => simp [h2] at h
      | false =>
      simp only [h2, cond_false] at h
      cases h3 : keySc P f.type s with
      | false => simp [h3] at h
      | true =>
      simp only [h3, cond_true] at h
      split at h
      · rename_i ag sz ht
        cases h4 : Nat.beq sz 1 with
        | false => simp [h4] at h
        | true =>
        have e4 := Nat.eq_of_beq_eq_true h4
        subst e4
        simp only [h4, cond_true] at h
        cases ag with
        | true => simp at h
        | false =>
        simp only [cond_false] at h
        have hs1 := enc_len1 (keySc_size h3)
        have e5 : (xs.drop off).take 1 = s.enc a.1 := by rw [hx, Ty.enc, List.take_append_of_le_length (by rw [hs1]; exact Nat.le_refl _), List.take_of_length_le (by rw [hs1]; exact Nat.le_refl _)]
        have e6 : (ys.drop off).take 1 = s.enc b.1 := by rw [hy, Ty.enc, List.take_append_of_le_length (by rw [hs1]; exact Nat.le_refl _), List.take_of_length_le (by rw [hs1]; exact Nat.le_refl _)]
        have d1 : xs.drop (off + 1) = t.enc a.2 := by rw [← List.drop_drop, hx, Ty.enc, List.drop_append_of_le_length (by rw [hs1]; exact Nat.le_refl _), List.drop_of_length_le (by rw [hs1]; exact Nat.le_refl _)]; rfl
        have d2 : ys.drop (off + 1) = t.enc b.2 := by rw [← List.drop_drop, hy, Ty.enc, List.drop_append_of_le_length (by rw [hs1]; exact Nat.le_refl _), List.drop_of_length_le (by rw [hs1]; exact Nat.le_refl _)]; rfl
        have ih := keyFs_eqS d (g :: r) (off + 1) t a.2 b.2 xs ys h d1 d2
        unfold eqS.eqFs
        simp only [ht, h2, cond_false, e1, e5, e6, keySc_eqS h3, ih, Ty.eqv]
      · cases h
    | _ => simp [keyFs] at h
theorem keyFs_key : ∀ (fl : List Field) (off : Nat) (kt : Ty), keyFs P off kt fl = true → kt.key = true
  | [], _, _, h => by simp [keyFs] at h
  | [f], off, kt, h => by
    simp only [keyFs] at h
    cases h1 : Nat.beq f.offset off with
    | false => simp [h1] at h
    | true =>
    simp only [h1, cond_true] at h
    cases h2 : decide (f.name = "_") with
    | true => simp [h2] at h
    | false =>
    simp only [h2, cond_false] at h
    cases h3 : keySc P f.type kt with
    | false => simp [h3] at h
    | true => exact (keySc_key h3).1
  | f :: g :: r, off, kt, h => by
    cases kt with
    | pair s t =>
      simp only [keyFs] at h
      cases h1 : Nat.beq f.offset off with
      | false => simp [h1] at h
      | true =>
      simp only [h1, cond_true] at h
      cases h2 : decide (f.name = "_") with
      | true => simp [h2] at h
      | false =>
      simp only [h2, cond_false] at h
      cases h3 : keySc P f.type s with
      | false => simp [h3] at h
      | true =>
      simp only [h3, cond_true] at h
      split at h
      · rename_i ag sz ht
        cases h4 : Nat.beq sz 1 with
        | false => simp [h4] at h
        | true =>
        simp only [h4, cond_true] at h
        cases ag with
        | true => simp at h
        | false =>
        simp only [cond_false] at h
        simp only [Ty.key, (keySc_key h3).1, cond_true]
        exact keyFs_key (g :: r) (off + 1) t h
      · cases h
    | _ => simp [keyFs] at h
end
end Go.Xl
set_option linter.unusedVariables false
set_option linter.unusedSimpArgs false
set_option linter.unnecessarySimpa false
namespace Go.Xl
open Go.Ab
section
variable {P : Program}
theorem keySc_is {t : TypeId} {kt : Ty} (h : keySc P t kt = true) (a : kt.T) : ∃ kd v, P.underlying t = some kd ∧ kt.kvs a = [v] ∧ MapKept.IsKey kd v ∧ (∀ b : kt.T, ∃ u, kt.kvs b = [u] ∧ Instr.sameNow kd v u = some (kt.eqv a b)) := by
  unfold keySc at h
  split at h
  · rename_i k hu
    split at h
    · rename_i k'
      have := kindB_eq h
      subst this
      refine ⟨_, _, hu, rfl, ?_, fun b => ⟨_, rfl, ?_⟩⟩
      · simp [MapKept.IsKey]
      · simp [Instr.sameNow, Ty.eqv, BEq.beq]
    · have := kindB_eq h
      subst this
      refine ⟨_, _, hu, rfl, ?_, fun b => ⟨_, rfl, ?_⟩⟩
      · simp [MapKept.IsKey]
      · simp only [Instr.sameNow, Ty.eqv, if_true]
        congr 1
        rw [Bool.eq_iff_iff]; simp only [beq_iff_eq, decide_eq_true_eq]; exact u8_inj
    · cases h
  · rename_i hu
    split at h
    · refine ⟨_, _, hu, rfl, ?_, fun b => ⟨_, rfl, ?_⟩⟩
      · simp [MapKept.IsKey]
      · simp only [Instr.sameNow, Ty.eqv]
        congr 1
        rw [Bool.eq_iff_iff, MapKept.bytes_beq]; simp
    · cases h
  · cases h
theorem keyFs_each (w : World) : ∀ (fl : List Field) (off : Nat) (kt : Ty) (a : kt.T) (cs : Array Value), keyFs P off kt fl = true → cs.toList.drop off = kt.kvs a →
    ∀ f ∈ fl, f.name ≠ "_" ∧ ∃ v kd, (part f.type cs f.offset).run P w = .ok v w ∧ P.underlying f.type = some kd ∧ MapKept.IsKey kd v
  | [], _, _, _, _, h, _ => by simp [keyFs] at h
  | [f], off, kt, a, cs, h, hx => by
    simp only [keyFs] at h
    cases h1 : Nat.beq f.offset off with
    | false => simp [h1] at h
    | true =>
    have e1 := Nat.eq_of_beq_eq_true h1
    simp only [h1, cond_true] at h
    cases h2 : decide (f.name = "_") with
    | true => simp [h2] at h
    | false =>
    simp only [h2, cond_false] at h
    cases h3 : keySc P f.type kt with
    | false => simp [h3] at h
    | true =>
    simp only [h3, cond_true] at h
    split at h
    · rename_i ag sz ht
      cases h4 : Nat.beq sz 1 with
      | false => simp [h4] at h
      | true =>
      have e4 := Nat.eq_of_beq_eq_true h4
      subst e4
      simp only [h4, cond_true, Bool.not_eq_true'] at h
      subst h
      obtain ⟨kd, v, k1, k2, k3, _⟩ := keySc_is h3 a
      intro g hg
      simp only [List.mem_singleton] at hg
      subst hg
      rw [k2] at hx
      have hlt : off < cs.size := by
        have := congrArg List.length hx
        simp at this; omega
      have hv : cs[off] = v := by
        have := List.drop_eq_getElem_cons (l := cs.toList) (i := off) (by simpa using hlt)
        rw [hx] at this
        simpa using (List.cons.inj this).1.symm
      refine ⟨of_decide_eq_false h2, v, kd, ?_, k1, k3⟩
      have := run_part (tyI_I ht) cs off w (fun _ => ⟨hlt, by omega⟩)
      rw [e1, this]
      congr 1
      simp [ofCells, Array.getD, hlt, hv, show 0 < min (off + 1) cs.size - off by omega]
    · cases h
  | f :: g :: r, off, kt, a, cs, h, hx => by
    cases kt with
    | pair s t =>
      simp only [keyFs] at h
      cases h1 : Nat.beq f.offset off with
      | false => simp [h1] at h
      | true =>
      have e1 := Nat.eq_of_beq_eq_true h1
      simp only [h1, cond_true] at h
      cases h2 : decide (f.name = "_") with
      | true => simp [h2] at h
      | false =>
      simp only [h2, cond_false] at h
      cases h3 : keySc P f.type s with
      | false => simp [h3] at h
      | true =>
      simp only [h3, cond_true] at h
      split at h
      · rename_i ag sz ht
        cases h4 : Nat.beq sz 1 with
        | false => simp [h4] at h
        | true =>
        have e4 := Nat.eq_of_beq_eq_true h4
        subst e4
        simp only [h4, cond_true] at h
        cases ag with
        | true => simp at h
        | false =>
        simp only [cond_false] at h
        obtain ⟨kd, v, k1, k2, k3, _⟩ := keySc_is h3 a.1
        rw [Ty.kvs, k2] at hx
        have hlt : off < cs.size := by
          have := congrArg List.length hx
          simp at this; omega
        have hc := List.drop_eq_getElem_cons (l := cs.toList) (i := off) (by simpa using hlt)
        rw [hx, List.singleton_append] at hc
        have hv : cs[off] = v := by simpa using (List.cons.inj hc).1.symm
        intro q hq
        rcases List.mem_cons.1 hq with rfl | hq
        · refine ⟨of_decide_eq_false h2, v, kd, ?_, k1, k3⟩
          have := run_part (tyI_I ht) cs off w (fun _ => ⟨hlt, by omega⟩)
          rw [e1, this]
          congr 1
          simp [ofCells, Array.getD, hlt, hv, show 0 < min (off + 1) cs.size - off by omega]
        · exact keyFs_each w (g :: r) (off + 1) t a.2 cs h (List.cons.inj hc).2.symm q hq
      · cases h
    | _ => simp [keyFs] at h
inductive KeyI (P : Program) (t : TypeId) (kt : Ty) : Prop where
  | sc : keySc P t kt = true → KeyI P t kt
  | st (fs : Array Field) (k : Ty) (e : kt.T = k.T) : P.underlying t = some (.struct fs) → P.stoodInHeld t = false → P.eqGuardType P.depth t = false → keyFs P 0 k fs.toList = true → kt.agg = true →
      (∀ a : kt.T, kt.kvs a = k.kvs (cast e a)) → (∀ a : kt.T, kt.enc a = k.enc (cast e a)) → (∀ a b : kt.T, kt.eqv a b = k.eqv (cast e a) (cast e b)) → kt.key = true → KeyI P t kt
  | ar (e : TypeId) (k : IntKind) : P.underlying t = some (.array 2 e) → P.underlying e = some (.int k) → TyI P e false 1 → kt = .pair (.int k) (.int k) → KeyI P t kt
theorem keyChk_I {t : TypeId} {kt : Ty} (h : keyChk P t kt = true) : KeyI P t kt := by
  unfold keyChk at h
  cases hs : keySc P t kt with
  | true => exact .sc hs
  | false =>
    simp only [hs, cond_false] at h
    split at h
    · rename_i fs hu
      cases h1 : P.stoodInHeld t with
      | true => simp [h1] at h
      | false =>
      cases h2 : P.eqGuardType P.depth t with
      | true => simp [h1, h2] at h
      | false =>
      simp only [h1, h2, cond_false] at h
      split at h
      · rename_i f hf
        split at h
        · rename_i a
          exact .st fs a rfl hu h1 h2 (by rw [hf]; exact h) rfl (fun _ => rfl) (fun _ => rfl) (fun _ _ => rfl) (by simp only [Ty.key]; exact keyFs_key _ _ _ h)
        · cases h
      · rename_i l hl
        have hg : kt.agg = true := by
          cases hfl : fs.toList with
          | nil => rw [hfl] at h; simp [keyFs] at h
          | cons f r =>
            cases r with
            | nil => exact absurd hfl (hl f)
            | cons g r =>
              rw [hfl] at h
              cases kt <;> simp [keyFs] at h
              rfl
        exact .st fs kt rfl hu h1 h2 h hg (fun _ => rfl) (fun _ => rfl) (fun _ _ => rfl) (keyFs_key _ _ _ h)
    · rename_i e hu
      split at h
      · rename_i k k1 k2 hk ht
        cases h1 : kindB k1 k with
        | false => simp [h1] at h
        | true =>
          simp only [h1, cond_true] at h
          have e1 := kindB_eq h1
          have e2 := kindB_eq h
          subst e1; subst e2
          exact .ar e _ hu hk (tyI_I ht) rfl
      · cases h
    · cases h
theorem KeyI.key {t : TypeId} {kt : Ty} (h : KeyI P t kt) : kt.key = true := by
  cases h with
  | sc h => exact (keySc_key h).1
  | st fs k e hu h1 h2 h3 hg hk he hq hkey => exact hkey
  | ar e k hu hk ht h => subst h; rfl
theorem run_part2 {e : TypeId} (ht : TyI P e false 1) (a b : Value) (w : World) : (part e #[a, b] 0).run P w = .ok a w ∧ (part e #[a, b] 1).run P w = .ok b w := by
  refine ⟨?_, ?_⟩
  · have := run_part ht #[a, b] 0 w (fun _ => ⟨by simp, by simp⟩)
    rw [this]; rfl
  · have := run_part ht #[a, b] 1 w (fun _ => ⟨by simp, by simp⟩)
    rw [this]; rfl
theorem KeyI.check {t : TypeId} {kt : Ty} (h : KeyI P t kt) (em : Bool) (n : Nat) (a : kt.T) (w : World) : (Instr.checkKey em (n + 2) t (kt.kval a)).run P w = .ok () w := by
  cases h with
  | sc h =>
    obtain ⟨kd, v, k1, k2, k3, _⟩ := keySc_is h a
    have : kt.kval a = v := by unfold Ty.kval; rw [(keySc_key h).2, k2]; rfl
    rw [this]
    exact MapKept.run_checkKey k1 k3 em (n + 1)
  | st fs k e hu h1 h2 h3 hg hk he hq hkey =>
    have : kt.kval a = .agg (k.kvs (cast e a)).toArray := by unfold Ty.kval; rw [hg, hk]; rfl
    rw [this, show n + 2 = (n + 1) + 1 from rfl, Instr.checkKey]
    simp only [Sem.run_bind, run_underlying hu, Result.andThen_ok]
    rw [← Array.forIn_toList]
    have each := keyFs_each (P := P) w fs.toList 0 k (cast e a) (k.kvs (cast e a)).toArray h3 (by simp)
    generalize fs.toList = L at each
    induction L with
    | nil => simp
    | cons f L ih =>
      obtain ⟨hn, v, kd, p1, k1, k3⟩ := each f (by simp)
      have p2 := MapKept.run_checkKey (w := w) k1 k3 em n
      simp only [List.forIn_cons, Sem.run_bind, hn, ne_eq, not_false_eq_true, if_true, Result.andThen_ok, p1, p2, Sem.run_pure]
      exact ih (fun y hy => each y (by simp [hy]))
  | ar e k hu hk ht h =>
    subst h
    obtain ⟨a1, a2⟩ := a
    have e1 : (Ty.pair (.int k) (.int k)).kval (a1, a2) = .agg #[.int k a1, .int k a2] := rfl
    obtain ⟨p1, p2⟩ := run_part2 ht (.int k a1) (.int k a2) w
    have c1 : ∀ x, (Instr.checkKey em (n + 1) e (.int k x)).run P w = .ok () w := fun x => MapKept.run_checkKey (d := .int k) hk (by simp [MapKept.IsKey]) em n
    have hs : (sizeOf e).run P w = .ok 1 w := ht.run_size w
    rw [e1, show n + 2 = (n + 1) + 1 from rfl, Instr.checkKey]
    simp only [Sem.run_bind, run_underlying hu, Result.andThen_ok]
    simp only [Std.Legacy.Range.forIn_eq_forIn_range', Std.Legacy.Range.size, Nat.sub_zero, Nat.add_sub_cancel, Nat.div_one, List.range'_succ, List.range'_zero, List.forIn_cons, List.forIn_nil]
    simp [hs, p1, p2, c1]
noncomputable def kidx (kt : Ty) (a : kt.T) : List kt.T → Option Nat
  | [] => none
  | b :: r => if kt.eqv a b then some 0 else (kidx kt a r).map (· + 1)
theorem kidx_lt {kt : Ty} {a : kt.T} : ∀ {l : List kt.T} {i : Nat}, kidx kt a l = some i → i < l.length
  | [], i, h => by simp [kidx] at h
  | b :: r, i, h => by
    simp only [kidx] at h
    split at h
    · cases h; simp
    · obtain ⟨j, hj, rfl⟩ := Option.map_eq_some_iff.1 h
      have := kidx_lt hj
      simp; omega
theorem kidx_at {kt : Ty} {a : kt.T} (hk : kt.key = true) : ∀ {l : List kt.T} {i : Nat}, kidx kt a l = some i → l[i]? = some a
  | [], i, h => by simp [kidx] at h
  | b :: r, i, h => by
    simp only [kidx] at h
    split at h
    · rename_i hb
      cases h
      rw [(kt.eqv_iff a b hk).1 hb]; rfl
    · obtain ⟨j, hj, rfl⟩ := Option.map_eq_some_iff.1 h
      simpa using kidx_at hk hj
theorem KeyI.equal {t : TypeId} {kt : Ty} (h : KeyI P t kt) (a b : kt.T) (w : World) (γ : Nat → Nat) : kt.agg = true → (Op.equal t (kt.kval a) (kt.kval b)).run P w = .ok (kt.eqv a b) w := by
  intro hagg
  cases h with
  | sc h => rw [(keySc_key h).2] at hagg; cases hagg
  | st fs k e hu h1 h2 h3 hg hk he hq hkey =>
    have hs : eqS P 2 t (kt.enc a) (kt.enc b) = some (kt.eqv a b) := by
      unfold eqS
      rw [hu]
      simp only [h1, cond_false]
      rw [he, he, hq]
      exact keyFs_eqS 0 fs.toList 0 k _ _ _ _ h3 rfl rfl
    have vr : ∀ c : kt.T, VR γ w (kt.enc c) (kt.kvs c).toArray := fun c => by
      have e1 := kt.enc_ds c
      rw [kt.kvs_ds c hkey, dsOf_map] at e1
      have hl := congrArg List.length e1
      simp only [List.length_map] at hl
      refine ⟨by simpa using hl, fun i x v hx hv => ?_⟩
      have e2 := congrArg (·[i]?) e1
      simp only [List.getElem?_map, hx, Option.map_some] at e2
      rw [List.getElem?_toArray] at hv
      rw [hv] at e2
      simp only [Option.map_some, Option.some.injEq] at e2
      rw [e2]
      exact .sc _
    have := eqS_run (P := P) (γ := γ) (w := w) 2 t (kt.enc a) (kt.enc b) _ _ _ 9998 _ hs hu (vr a) (vr b)
    simp only [aggD, ofCells, if_true] at this
    have kv : ∀ c : kt.T, kt.kval c = .agg (kt.kvs c).toArray := fun c => by unfold Ty.kval; rw [hg]; rfl
    rw [kv, kv]
    exact this
  | ar e k hu hk ht h =>
    subst h
    obtain ⟨a1, a2⟩ := a
    obtain ⟨b1, b2⟩ := b
    have e1 : ∀ x y, (Ty.pair (.int k) (.int k)).kval (x, y) = .agg #[.int k x, .int k y] := fun _ _ => rfl
    have hs : (sizeOf e).run P w = .ok 1 w := ht.run_size w
    obtain ⟨p1, p2⟩ := run_part2 ht (.int k a1) (.int k a2) w
    obtain ⟨q1, q2⟩ := run_part2 ht (.int k b1) (.int k b2) w
    have c : ∀ x y, (Op.equalIn 9999 e (.int k x) (.int k y)).run P w = .ok (x == y) w := fun x y => run_equalIn_int w 9998 e k k x y hk
    rw [e1, e1]
    show (Op.equalIn (9999 + 1) t _ _).run P w = _
    rw [Op.equalIn]
    simp only [Sem.run_bind, run_underlying hu, Result.andThen_ok]
    simp only [Std.Legacy.Range.forIn_eq_forIn_range', Std.Legacy.Range.size, Nat.sub_zero, Nat.add_sub_cancel, Nat.div_one, List.range'_succ, List.range'_zero, List.forIn_cons, List.forIn_nil]
    simp [hs, p1, p2, q1, q2, c, Ty.eqv]
    cases h1 : decide (a1 = b1) <;> cases h2 : decide (a2 = b2) <;> simp_all
theorem run_findNow_t {t : TypeId} {kt : Ty} (h : keySc P t kt = true) (a : kt.T) {kd : TypeDesc} (hu : P.underlying t = some kd) : ∀ (ks : List kt.T) (es : List MapEntry) (i : Nat), es.map (·.key) = ks.map kt.kval →
    Instr.findNow kd (kt.kval a) es i = some ((kidx kt a ks).bind fun j => es[j]?.map fun e => (i + j, e.val))
  | [], [], i, _ => rfl
  | [], _ :: _, _, he => by simp at he
  | _ :: _, [], _, he => by simp at he
  | b :: ks, e :: es, i, he => by
    simp only [List.map_cons, List.cons.injEq] at he
    obtain ⟨kd', v, k1, k2, k3, k4⟩ := keySc_is h a
    have := Option.some.inj (hu.symm.trans k1)
    subst this
    obtain ⟨u, k5, k6⟩ := k4 b
    have e1 : kt.kval a = v := by unfold Ty.kval; rw [(keySc_key h).2, k2]; rfl
    have e2 : e.key = u := by rw [he.1]; unfold Ty.kval; rw [(keySc_key h).2, k5]; rfl
    unfold Instr.findNow kidx
    rw [e1, e2, k6]
    cases hq : kt.eqv a b with
    | true => simp
    | false =>
      have ih := run_findNow_t h a hu ks es (i + 1) he.2
      rw [e1] at ih
      simp only [ih]
      cases kidx kt a ks with
      | none => rfl
      | some j => simp [Nat.add_assoc, Nat.add_comm 1 j]
theorem run_findAsking_t {t : TypeId} {kt : Ty} (h : KeyI P t kt) (hg : kt.agg = true) (a : kt.T) (w : World) : ∀ (ks : List kt.T) (es : List MapEntry) (i : Nat), es.map (·.key) = ks.map kt.kval →
    (Instr.findAsking t (kt.kval a) es i).run P w = .ok ((kidx kt a ks).bind fun j => es[j]?.map fun e => (i + j, e.val)) w
  | [], [], i, _ => by simp [Instr.findAsking, kidx]
  | [], _ :: _, _, he => by simp at he
  | _ :: _, [], _, he => by simp at he
  | b :: ks, e :: es, i, he => by
    simp only [List.map_cons, List.cons.injEq] at he
    have hq := h.equal a b w (fun _ => 0) hg
    unfold Instr.findAsking kidx
    rw [he.1, Sem.run_bind, hq, Result.andThen_ok]
    cases hb : kt.eqv a b with
    | true => simp
    | false =>
      have ih := run_findAsking_t h hg a w ks es (i + 1) he.2
      simp only [Bool.false_eq_true, if_false, ih]
      cases kidx kt a ks with
      | none => rfl
      | some j => simp [Nat.add_assoc, Nat.add_comm 1 j]
theorem KeyI.find {t : TypeId} {kt : Ty} (h : KeyI P t kt) (a : kt.T) (w : World) (ks : List kt.T) (es : List MapEntry) (he : es.map (·.key) = ks.map kt.kval) :
    (Instr.findKey t (kt.kval a) es).run P w = .ok ((kidx kt a ks).bind fun j => es[j]?.map fun e => (j, e.val)) w := by
  cases hg : kt.agg with
  | true =>
    have hw : (match P.underlying t with | some (.array _ _) | some (.struct _) => true | _ => false) = true := by
      cases h with
      | sc h => rw [(keySc_key h).2] at hg; cases hg
      | st fs k e hu _ _ _ _ _ _ _ _ => rw [hu]
      | ar e k hu _ _ _ => rw [hu]
    rw [run_findKey_eq w hw]
    have := run_findAsking_t h hg a w ks es 0 he
    simpa using this
  | false =>
    cases h with
    | sc h =>
      obtain ⟨kd, v, k1, k2, k3, k4⟩ := keySc_is h a
      have := run_findNow_t h a k1 ks es 0 he
      have := MapKept.run_findKey (w := w) k1 this
      simpa using this
    | st fs k e hu h1 h2 h3 hg' hk he' hq hkey => rw [hg'] at hg; cases hg
    | ar e k hu hk ht h => subst h; cases hg
theorem sameBits_kvs : ∀ (n : Nat) (v : Value), v.oneCell' = true → (∃ k x, v = .int k x) ∨ (∃ s, v = .string s) → Instr.sameBits n v v = true
  | n, v, _, h => by
    rcases h with ⟨k, x, rfl⟩ | ⟨s, rfl⟩
    · cases n <;> simp [Instr.sameBits, MapKept.bytes_beq]
    · cases n <;> simp [Instr.sameBits, MapKept.bytes_beq]
theorem Ty.kvs_sc : ∀ (t : Ty) (a : t.T), ∀ v ∈ t.kvs a, (∃ k x, v = .int k x) ∨ (∃ s, v = .string s)
  | .int k, a => by simp [Ty.kvs]
  | .u8, a => by simp [Ty.kvs]
  | .str, a => by simp [Ty.kvs]
  | .pair s t, a => by
    intro v hv
    simp only [Ty.kvs, List.mem_append] at hv
    rcases hv with h | h
    · exact s.kvs_sc _ v h
    · exact t.kvs_sc _ v h
  | .st1 t, a => by simp only [Ty.kvs]; exact t.kvs_sc a
  | .bool, _ => by simp [Ty.kvs]
  | .sl _, _ => by simp [Ty.kvs]
  | .unit, _ => by simp [Ty.kvs]
  | .tab _, _ => by simp [Ty.kvs]
  | .err, _ => by simp [Ty.kvs]
  | .ic _ _, _ => by simp [Ty.kvs]
  | .ptr, _ => by simp [Ty.kvs]
theorem KeyI.stays {t : TypeId} {kt : Ty} (h : KeyI P t kt) (a : kt.T) (w : World) : (Instr.keyThatStays (kt.kval a) (kt.kval a)).run P w = .ok (kt.kval a) w := by
  have hb : Instr.sameBits 10000 (kt.kval a) (kt.kval a) = true := by
    cases hg : kt.agg with
    | true =>
      have : kt.kval a = .agg (kt.kvs a).toArray := by unfold Ty.kval; rw [hg]; rfl
      rw [this]
      show Instr.sameBits (9999 + 1) _ _ = true
      simp only [Instr.sameBits, beq_self_eq_true, Bool.true_and, List.all_eq_true]
      intro p hp
      obtain ⟨i, hi, e⟩ := List.getElem_of_mem hp
      rw [List.getElem_zip] at e
      rw [← e]
      simp only []
      have hm : (kt.kvs a).toArray.toList[i]'(by simpa using hi) ∈ kt.kvs a := by simp
      exact sameBits_kvs 9999 _ (kt.kvs_one a _ hm) (kt.kvs_sc a _ hm)
    | false =>
      cases h with
      | sc h =>
        obtain ⟨kd, v, k1, k2, k3, _⟩ := keySc_is h a
        have : kt.kval a = v := by unfold Ty.kval; rw [(keySc_key h).2, k2]; rfl
        rw [this]
        exact sameBits_kvs _ _ (kt.kvs_one a v (by rw [k2]; simp)) (kt.kvs_sc a v (by rw [k2]; simp))
      | st fs k e hu h1 h2 h3 hg' hk he' hq hkey => rw [hg'] at hg; cases hg
      | ar e k hu hk ht h => subst h; cases hg
  simp [Instr.keyThatStays, hb]
end
end Go.Xl
