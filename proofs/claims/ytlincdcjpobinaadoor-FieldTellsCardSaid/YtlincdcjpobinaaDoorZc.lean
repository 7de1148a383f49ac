import Derived.Test.YtlincdcjpobinaaDoorZb
import Derived.Test.YtlincdcjpobinaaDoorZa
import Derived.LaidEqlPtr
/-
  Addresses of fields and elements, elements, cuts, lengths.
-/
set_option linter.unusedVariables false
set_option linter.unusedSimpArgs false
set_option linter.unnecessarySimpa false
namespace Go.Xl
open Go.Ab

section
variable {P : Program} {R : Type}

-- fieldAddr
def xFieldAddr (P : Program) (st : XSt) (s : TypeId) (x : Operand) (n : Nat) (K : Out → Option R) : Option R :=
  match xeval st x, fieldI P s n with
  | some (.nm k (.p off)), some (fo, _, _) => K (quietO st (.nm k (.p (off + fo))) [(x, .nm k (.p off))])
  | some (.el k t i o), some (fo, _, _) => K (quietO st (.el k t i (o + fo)) [(x, .el k t i o)])
  | some (.d (.ep cs)), some (fo, _, _) => cond (Nat.ble fo cs.length) (K (quietO st (.d (.ep (cs.drop fo))) [(x, .d (.ep cs))])) none
  | _, _ => none

theorem xFieldAddr_ok {o : Oper} {st : XSt} {s : TypeId} {x : Operand} {n : Nat} {K : Out → Option R} {r : R} (ho : o.op = .fieldAddr s x n) (h : xFieldAddr P st s x n K = some r) : ∃ out, K out = some r ∧ OpOk P o st out := by
  unfold xFieldAddr at h
  split at h
  · rename_i k off fo sz ag hx hf
    exact ⟨_, h, quietO_ok (sees1v hx) fun X => op_fieldAddr_obj ho (fieldI_I hf)⟩
  · rename_i k t i o' fo sz ag hx hf
    refine ⟨_, h, quietO_ok (sees1v hx) fun X => ?_⟩
    have := op_fieldAddr_obj (P := P) (X := X) (k := k) (off := i * t.size + o') ho (fieldI_I hf)
    rw [Nat.add_assoc] at this
    exact this
  · rename_i cs fo sz ag hx hf
    cases hb : Nat.ble fo cs.length with
    | false => simp [hb] at h
    | true =>
      simp only [hb, cond_true] at h
      refine ⟨_, h, quietO_ok (sees1v hx) fun X => ?_⟩
      have := op_fieldAddr_ep (P := P) (X := X) (cs := dsOf cs) ho (fieldI_I hf) (by rw [dsOf_length]; exact Nat.le_of_ble_eq_true hb)
      rw [← dsOf_drop] at this
      exact this
  · cases h

-- field
def xField (P : Program) (st : XSt) (s : TypeId) (x : Operand) (n : Nat) (K : Out → Option R) : Option R :=
  match xeval st x, fieldI P s n with
  | some (.d (.agg cs)), some (fo, sz, true) => cond (Nat.ble (fo + sz) cs.length) (K (quietO st (.d (.agg ((cs.drop fo).take sz))) [(x, .d (.agg cs))])) none
  | some (.d (.agg cs)), some (fo, 1, false) => match cs[fo]? with
    | some c => K (quietO st (.d c) [(x, .d (.agg cs))])
    | none => none
  | _, _ => none

theorem xField_ok {o : Oper} {st : XSt} {s : TypeId} {x : Operand} {n : Nat} {K : Out → Option R} {r : R} (ho : o.op = .field s x n) (h : xField P st s x n K = some r) : ∃ out, K out = some r ∧ OpOk P o st out := by
  unfold xField at h
  split at h
  · rename_i cs fo sz hx hf
    cases hb : Nat.ble (fo + sz) cs.length with
    | false => simp [hb] at h
    | true =>
      simp only [hb, cond_true] at h
      refine ⟨_, h, quietO_ok (sees1v hx) fun X => ?_⟩
      have := op_field_agg (P := P) (X := X) (cs := dsOf cs) ho (fieldI_I hf) (by rw [dsOf_length]; exact Nat.le_of_ble_eq_true hb)
      rw [← dsOf_drop, ← dsOf_take] at this
      exact this
  · rename_i cs fo hx hf
    split at h
    · rename_i c hc
      exact ⟨_, h, quietO_ok (sees1v hx) fun X => op_field_one (cs := dsOf cs) ho (fieldI_I hf) (by rw [dsOf_map, List.getElem?_map, hc]; rfl)⟩
    · cases h
  · cases h

/-- a number out of an operand -/
def xnum (st : XSt) (x : Operand) : Option Int :=
  match xd st x with
  | some (.i _ n) => some n
  | some (.u8 b) => some (b.toNat : Int)
  | _ => none

theorem xnum_sees {st : XSt} {x : Operand} {n : Int} (h : xnum st x = some n) : ∃ a k, xd st x = some a ∧ a.d = .int k n := by
  unfold xnum at h
  split at h
  · rename_i k m ha
    cases h
    exact ⟨_, k, ha, rfl⟩
  · rename_i b ha
    cases h
    exact ⟨_, .u8, ha, rfl⟩
  · cases h

/-- is a number below a length -/
def inB (n : Int) (len : Nat) : Bool := decide (0 ≤ n) && decide (n < (len : Int))
theorem inB_iff {n : Int} {len : Nat} (h : inB n len = true) : 0 ≤ n ∧ n < (len : Int) := by
  simpa [inB] using h

-- indexAddr
def xIndexAddr (P : Program) (st : XSt) (t : TypeId) (x y : Operand) (K : Out → Option R) : Option R :=
  match xd st x, xd st y, xnum st y, sliceOfT P t with
  | some (.sl ty l), some b, some n, some (_, sz, _) => cond (Nat.beq ty.size sz) (Option.bind (at? l n) fun e => K (quietO st (.d (.ep (ty.enc e))) [(x, .d (.sl ty l)), (y, .d b)])) none
  | _, _, _, _ => none

theorem sees_os {st : XSt} {x y : Operand} {v : XV} {b : XD} (hx : xeval st x = some v) (hy : xd st y = some b) : ∀ p ∈ imRd [(x, v), (y, .d b)], Sees st.im p.1 p.2 := by
  intro p hp
  simp only [imRd, List.map_cons, List.map_nil, List.mem_cons, List.not_mem_nil, or_false] at hp
  rcases hp with rfl | rfl
  · exact xeval_sees hx
  · exact xd_at hy

def xIndexOs (P : Program) (st : XSt) (t : TypeId) (x y : Operand) (k : Nat) (ty : Ty) (a len : Nat) (K : Out → Option R) : Option R :=
  match xd st y, xnum st y, sliceOfT P t with
  | some b, some n, some (_, sz, _) => cond (Nat.beq ty.size sz) (cond (inB n len) (K (quietO st (.el k ty (a + n.toNat) 0) [(x, .os k ty a len), (y, .d b)])) none) none
  | _, _, _ => none

theorem xIndexOs_ok {o : Oper} {st : XSt} {t : TypeId} {x y : Operand} {k : Nat} {ty : Ty} {a len : Nat} {K : Out → Option R} {r : R} (ho : o.op = .indexAddr t x y) (hx : xeval st x = some (.os k ty a len)) (h : xIndexOs P st t x y k ty a len K = some r) : ∃ out, K out = some r ∧ OpOk P o st out := by
  unfold xIndexOs at h
  split at h
  · rename_i b n e0 sz by0 hy hn hsl
    cases hb : Nat.beq ty.size sz with
    | false => simp [hb] at h
    | true =>
    cases hc : inB n len with
    | false => simp [hb, hc] at h
    | true =>
      simp only [hb, hc, cond_true] at h
      have e1 := Nat.eq_of_beq_eq_true hb
      subst e1
      obtain ⟨h0, h1⟩ := inB_iff hc
      obtain ⟨z, j, ha, had⟩ := xnum_sees hn
      rw [hy] at ha
      cases ha
      refine ⟨_, h, quietO_ok (sees_os hx hy) fun X => ?_⟩
      have := op_indexAddr_osl (P := P) (X := X) (x := x) (y := y) (j := j) (i := n) (k := k) (off := a * ty.size) (len := len) ho (sliceOfT_I hsl) h0 h1
      show OpT P o [(x, .nm k (.s (a * ty.size) len ty.size)), (y, .d b.d)] X X [] (.nm k (.p ((a + n.toNat) * ty.size + 0)))
      rw [had]
      rw [Nat.add_zero, Nat.add_mul]
      exact this
  · cases h

theorem xIndexAddr_ok {o : Oper} {st : XSt} {t : TypeId} {x y : Operand} {K : Out → Option R} {r : R} (ho : o.op = .indexAddr t x y) (h : xIndexAddr P st t x y K = some r) : ∃ out, K out = some r ∧ OpOk P o st out := by
  unfold xIndexAddr at h
  split at h
  · rename_i ty l b n e0 sz by0 hx hy hn hsl
    cases hb : Nat.beq ty.size sz with
    | false => simp [hb] at h
    | true =>
      simp only [hb, cond_true] at h
      have e1 := Nat.eq_of_beq_eq_true hb
      obtain ⟨e, he, hK⟩ := Option.bind_eq_some_iff.1 h
      obtain ⟨h0, h1⟩ := at?_some he
      obtain ⟨a, k, ha, had⟩ := xnum_sees hn
      rw [hy] at ha
      cases ha
      refine ⟨_, hK, quietO_ok (sees2 hx hy) fun X => ?_⟩
      have := o_indexAddr (P := P) (X := X) (x := x) (y := y) (k := k) (i := n) (es := l.map ty.ds) (cs := ty.ds e) ho (sliceOfT_I hsl) h0 (by rw [List.getElem?_map, h1]; rfl)
      show OpT P o [(x, .d (.sl ty.size (l.map ty.ds))), (y, .d b.d)] X X [] (.d (.ep (dsOf (ty.enc e))))
      rw [had, Ty.enc_ds, e1]
      exact this
  · cases h

/-- an array's type: its elements' type, how many, their cells -/
def arrOfT (P : Program) (t : TypeId) : Option (TypeId × Nat × Nat) :=
  match P.underlying t with
  | some (.array n e) => match P.info? e with
    | some i => some (e, n, i.size)
    | none => none
  | _ => none

theorem arrOfT_I {t e n sz : Nat} (h : arrOfT P t = some (e, n, sz)) : ArrI P t e n sz := by
  unfold arrOfT at h
  split at h
  · rename_i n' e' ht
    split at h
    · rename_i i hi
      cases h
      exact ⟨ht, i, hi, rfl⟩
    · cases h
  · cases h

def xIndexTab (P : Program) (st : XSt) (t : TypeId) (x y : Operand) (ty : Ty) (l : List ty.T) (K : Out → Option R) : Option R :=
  match xd st y, xnum st y, arrOfT P t with
  | some b, some n, some (_, m, sz) => cond (Nat.beq ty.size sz) (cond (Nat.ble l.length m) (Option.bind (at? l n) fun e => K (quietO st (.d (.ep (ty.enc e))) [(x, .d (.pa ty l)), (y, .d b)])) none) none
  | _, _, _ => none

theorem xIndexTab_ok {o : Oper} {st : XSt} {t : TypeId} {x y : Operand} {ty : Ty} {l : List ty.T} {K : Out → Option R} {r : R} (ho : o.op = .indexAddr t x y) (hx : xeval st x = some (.d (.pa ty l))) (h : xIndexTab P st t x y ty l K = some r) : ∃ out, K out = some r ∧ OpOk P o st out := by
  unfold xIndexTab at h
  split at h
  · rename_i b n e0 m sz hy hn har
    cases hb : Nat.beq ty.size sz with
    | false => simp [hb] at h
    | true =>
    cases hc : Nat.ble l.length m with
    | false => simp [hb, hc] at h
    | true =>
      simp only [hb, hc, cond_true] at h
      have e1 := Nat.eq_of_beq_eq_true hb
      subst e1
      obtain ⟨e, he, hK⟩ := Option.bind_eq_some_iff.1 h
      obtain ⟨h0, h1⟩ := at?_some he
      obtain ⟨a, k, ha, had⟩ := xnum_sees hn
      rw [hy] at ha
      cases ha
      refine ⟨_, hK, quietO_ok (sees_os hx hy) fun X => ?_⟩
      have := op_indexAddr_arr (P := P) (X := X) (x := x) (y := y) (k := k) (i := n) (es := l.map ty.ds) (cs := ty.ds e) ho (arrOfT_I har) (by
        intro i cs hc
        rw [List.getElem?_map, Option.map_eq_some_iff] at hc
        obtain ⟨z, _, rfl⟩ := hc
        exact ty.ds_length z) (by simpa using Nat.le_of_ble_eq_true hc) h0 (by rw [List.getElem?_map, h1]; rfl)
      show OpT P o [(x, .d (.ep (l.map ty.ds).flatten)), (y, .d b.d)] X X [] (.d (.ep (dsOf (ty.enc e))))
      rw [had, Ty.enc_ds]
      exact this
  · cases h

def xIndexAny (P : Program) (st : XSt) (t : TypeId) (x y : Operand) (K : Out → Option R) : Option R :=
  match xeval st x with
  | some (.os k ty a len) => xIndexOs P st t x y k ty a len K
  | some (.d (.pa ty l)) => xIndexTab P st t x y ty l K
  | _ => xIndexAddr P st t x y K

theorem xIndexAny_ok {o : Oper} {st : XSt} {t : TypeId} {x y : Operand} {K : Out → Option R} {r : R} (ho : o.op = .indexAddr t x y) (h : xIndexAny P st t x y K = some r) : ∃ out, K out = some r ∧ OpOk P o st out := by
  unfold xIndexAny at h
  split at h
  · rename_i k ty a len hx; exact xIndexOs_ok ho hx h
  · rename_i ty l hx; exact xIndexTab_ok ho hx h
  · exact xIndexAddr_ok ho h

/-- an element of an array that is a value -/
theorem op_index_ag {o : Oper} {X : Store} {t e : TypeId} {n : Nat} {x y : Operand} {k : IntKind} {i : Int} {ds : List D} {c : D} (ho : o.op = .index t x y) (ht : P.underlying t = some (.array n e)) (he : TyI P e false 1) (h0 : 0 ≤ i) (hn : i.toNat < n) (hc : ds[i.toNat]? = some c) :
    OpT P o [(x, .d (.agg ds)), (y, .d (.int k i))] X X [] (.d c) :=
  .quiet fun _ _ g w ac hr hrd => by
    have h1 := rd0 hrd
    have h2 := (rd1 hrd).sc_inv
    simp only at h1 h2
    generalize hv : ac.eval x = v at h1
    cases h1 with
    | d _ _ h1 =>
      cases h1 with
      | agg _ vs hl hcs =>
        obtain ⟨u, hu⟩ : ∃ u, vs[i.toNat]? = some u := ⟨_, Array.getElem?_eq_getElem (by have := (List.getElem?_eq_some_iff.1 hc).1; omega)⟩
        refine ⟨u, ?_, .d _ _ (hcs _ _ _ hc hu)⟩
        obtain ⟨⟨d, hd, hd2⟩, ii, hi, hsz⟩ := he
        have hi' : i < (n : Int) := by omega
        have hp : (part e vs i.toNat).run P w = .ok u w := by
          have := run_part (P := P) (t := e) (agg := false) (sz := 1) ⟨⟨d, hd, hd2⟩, ii, hi, hsz⟩ vs i.toNat w (fun _ => ⟨by have := (Array.getElem?_eq_some_iff.1 hu).1; exact this, by omega⟩)
          rw [this]
          obtain ⟨hlt, rfl⟩ := Array.getElem?_eq_some_iff.1 hu
          congr 1
          show (vs.extract i.toNat (i.toNat + 1)).getD 0 undef = _
          have h5 : 0 < (vs.extract i.toNat (i.toNat + 1)).size := by simp; omega
          rw [Array.getD, dif_pos h5]
          simp
        simp only [execOp, ho, hv, h2]
        simp only [Instr.index, asIntOf]
        simp [run_underlying ht, h0, hi', sizeOf, typeInfo, hi, hsz, hp]

-- index of a text
def xIndex (P : Program) (st : XSt) (t : TypeId) (x y : Operand) (K : Out → Option R) : Option R :=
  match xd st x, xd st y, xnum st y, P.underlying t with
  | some (.s l), some b, some n, some .string => Option.bind (at? l n) fun c => K (quietO st (.d (.u8 c)) [(x, .d (.s l)), (y, .d b)])
  | _, _, _, _ => none

theorem xIndex_ok {o : Oper} {st : XSt} {t : TypeId} {x y : Operand} {K : Out → Option R} {r : R} (ho : o.op = .index t x y) (h : xIndex P st t x y K = some r) : ∃ out, K out = some r ∧ OpOk P o st out := by
  unfold xIndex at h
  split at h
  · rename_i l b n hx hy hn ht
    obtain ⟨c, hc, hK⟩ := Option.bind_eq_some_iff.1 h
    obtain ⟨h0, h1⟩ := at?_some hc
    obtain ⟨a, k, ha, had⟩ := xnum_sees hn
    rw [hy] at ha
    cases ha
    refine ⟨_, hK, quietO_ok (sees2 hx hy) fun X => ?_⟩
    have hlt : n.toNat < l.length := (List.getElem?_eq_some_iff.1 h1).1
    have := o_index_bs (P := P) (X := X) (x := x) (y := y) (k := k) (i := n) (l := l) ho ht h0 (by omega)
    show OpT P o [(x, .d (.bs l)), (y, .d b.d)] X X [] (.d (.sc (.int .u8 (c.toNat : Int))))
    rw [had]
    rw [List.getD_eq_getElem?_getD, h1] at this
    exact this
  · cases h

-- index of a text, or an array
def xIndexS (P : Program) (st : XSt) (t : TypeId) (x y : Operand) (K : Out → Option R) : Option R :=
  match xeval st x with
  | some (.d (.ag ty l)) => match xd st y, xnum st y, P.underlying t with
    | some b, some n, some (.array m e) => match tyI P e with
      | some (agg, sz) => cond agg none (cond (Nat.beq sz 1) (cond ty.agg none (cond (Nat.beq l.length m) (Option.bind (at? l n) fun z => K (quietO st (.d (ty.xv z)) [(x, .d (.ag ty l)), (y, .d b)])) none)) none)
      | none => none
    | _, _, _ => none
  | _ => xIndex P st t x y K

theorem flat_one (ty : Ty) (h : ty.agg = false) : ∀ (l : List ty.T), (l.map ty.ds).flatten = l.map ty.dv
  | [] => rfl
  | x :: r => by rw [List.map_cons, List.flatten_cons, flat_one ty h r, ty.dv_one x h]; rfl

theorem xIndexS_ok {o : Oper} {st : XSt} {t : TypeId} {x y : Operand} {K : Out → Option R} {r : R} (ho : o.op = .index t x y) (h : xIndexS P st t x y K = some r) : ∃ out, K out = some r ∧ OpOk P o st out := by
  unfold xIndexS at h
  split at h
  · rename_i ty l hx
    split at h
    · rename_i b n m e hy hn ht
      split at h
      · rename_i agg sz he
        cases agg with
        | true => simp at h
        | false =>
        cases h1 : Nat.beq sz 1 with
        | false => simp [h1] at h
        | true =>
        cases h2 : ty.agg with
        | true => simp [h1, h2] at h
        | false =>
        cases h3 : Nat.beq l.length m with
        | false => simp [h1, h2, h3] at h
        | true =>
          simp only [h1, h2, h3, cond_true, cond_false] at h
          obtain ⟨z, hz, hK⟩ := Option.bind_eq_some_iff.1 h
          obtain ⟨h0, h4⟩ := at?_some hz
          obtain ⟨a, k, ha, had⟩ := xnum_sees hn
          rw [hy] at ha
          cases ha
          have e1 := Nat.eq_of_beq_eq_true h1
          have e3 := Nat.eq_of_beq_eq_true h3
          subst e1
          have hxd : xd st x = some (.ag ty l) := by unfold xd; rw [hx]; rfl
          refine ⟨_, hK, quietO_ok (sees2 hxd hy) fun X => ?_⟩
          have hlt : n.toNat < l.length := (List.getElem?_eq_some_iff.1 h4).1
          have := op_index_ag (P := P) (X := X) (x := x) (y := y) (k := k) (i := n) (ds := l.map ty.dv) (c := ty.dv z) ho ht (tyI_I he) h0 (by omega) (by rw [List.getElem?_map, h4]; rfl)
          rw [← flat_one ty h2, ← had] at this
          exact this
      · cases h
    · cases h
  · exact xIndex_ok ho h

/-- may a text or slice of this length be cut so -/
def cutOk (lo hi : Int) (len : Nat) : Bool := decide (0 ≤ lo) && decide (lo ≤ hi) && decide (hi ≤ (len : Int))

theorem cutOk_iff {lo hi : Int} {len : Nat} (h : cutOk lo hi len = true) : 0 ≤ lo ∧ lo ≤ hi ∧ hi ≤ (len : Int) := by
  simp only [cutOk, Bool.and_eq_true, decide_eq_true_eq] at h
  exact ⟨h.1.1, h.1.2, h.2⟩

/-- a cut -/
def cutL {α : Type} (lo hi : Int) (l : List α) : List α := (l.drop lo.toNat).take (hi.toNat - lo.toNat)

theorem op_slice_sl {o : Oper} {X : Store} {t e : TypeId} {sz : Nat} {x : Operand} {lo hi : Option Operand} {es : List (List D)} {l h : Int} {rd : List (Operand × AV)} {i : TypeInfo} (ho : o.op = .slice t x lo hi none) (ht : P.underlying t = some (.slice e))
    (hi' : P.info? e = some i) (hsz : i.size = sz) (h0 : 0 ≤ l) (h1 : l ≤ h) (h2 : h ≤ es.length)
    (hlo : match lo with | some y => ∃ k, (y, AV.d (.int k l)) ∈ rd | none => l = 0) (hhi : match hi with | some y => ∃ k, (y, AV.d (.int k h)) ∈ rd | none => h = es.length) :
    OpT P o ((x, .d (.sl sz es)) :: rd) X X [] (.d (.sl sz (cutL l h es))) :=
  .quiet fun _ _ g w ac _ hrd => by
    have h3 := hrd (x, .d (.sl sz es)) List.mem_cons_self
    simp only at h3
    generalize hx : ac.eval x = v at h3
    have key : ∃ a len cap, v = .slice a len cap ∧ len = es.length ∧ len ≤ cap ∧ RD g.γ w (.sl sz (cutL l h es)) (.slice (if cap = l.toNat then a else a.map (·.add (l.toNat * sz))) (h.toNat - l.toNat) (cap - l.toNat)) := by
      cases h3 with
      | d _ _ h3 =>
        cases h3 with
        | nil _ a cap hn =>
          have hl : l = 0 := by simp at h2; omega
          have hh : h = 0 := by simp at h2; omega
          subst hl; subst hh
          refine ⟨a, 0, cap, rfl, rfl, Nat.zero_le _, ?_⟩
          have : cutL 0 0 ([] : List (List D)) = [] := rfl
          rw [this]
          simp only [Int.toNat_zero, Nat.sub_zero, Nat.zero_mul]
          cases a with
          | none => simp only [Option.map_none, ite_self]; rw [hn rfl]; exact .nil sz none 0 fun _ => rfl
          | some a => simp only [Option.map_some]; split <;> exact .nil sz _ cap (by simp)
        | sl _ _ b off len cap hlen hγ hcap hszs hc =>
          refine ⟨_, len, cap, rfl, hlen, by omega, ?_⟩
          have hln : (cutL l h es).length = h.toNat - l.toNat := by simp [cutL]; omega
          by_cases hz : h.toNat - l.toNat = 0
          · have : cutL l h es = [] := List.length_eq_zero_iff.1 (hln.trans hz)
            rw [this, hz]
            split
            · exact .nil sz _ _ (by simp)
            · exact .nil sz _ _ (by simp)
          · have hne : ¬ cap = l.toNat := by omega
            rw [if_neg hne]
            simp only [Option.map_some, addr_add]
            refine .sl sz _ b (off + l.toNat * sz) _ _ (by rw [hln]) ?_ (by rw [hln]; omega) ?_ ?_
            · have : l.toNat + (cutL l h es).length ≤ es.length := by rw [hln]; omega
              have h6 := Nat.mul_le_mul_right sz this
              rw [Nat.add_mul] at h6
              omega
            · intro i cs hcs
              simp only [cutL, List.getElem?_take, List.getElem?_drop] at hcs
              split at hcs
              · exact hszs _ cs hcs
              · cases hcs
            · intro i cs j c u hcs hj hu
              simp only [cutL, List.getElem?_take, List.getElem?_drop] at hcs
              split at hcs
              · refine hc (l.toNat + i) cs j c u hcs hj ?_
                rw [show off + (l.toNat + i) * sz + j = off + l.toNat * sz + i * sz + j by rw [Nat.add_mul]; omega]
                exact hu
              · cases hcs
    obtain ⟨a, len, cap, rfl, hlen, hcap, hrd'⟩ := key
    refine ⟨_, ?_, .d _ _ hrd'⟩
    have hsa : ∀ lo hi, (Instr.sliceAt t (.slice a len cap) lo hi none).run P w = (Instr.slice t (.slice a len cap) lo hi none).run P w := by
      intro lo hi
      simp [Instr.sliceAt, run_underlying ht]
    simp only [execOp, ho, hx]
    have eh : ∀ y, hi = some y → ∃ k, ac.eval y = .int k h := by
      intro y hy
      subst hy
      obtain ⟨k, hk⟩ := hhi
      exact ⟨k, (hrd _ (List.mem_cons_of_mem _ hk)).sc_inv⟩
    have el : ∀ y, lo = some y → ∃ k, ac.eval y = .int k l := by
      intro y hy
      subst hy
      obtain ⟨k, hk⟩ := hlo
      exact ⟨k, (hrd _ (List.mem_cons_of_mem _ hk)).sc_inv⟩
    have bh : ∀ (y : Nat) (c : BoundsCode) (k : IntKind), h ≤ (y : Int) → (Instr.sliceBound (.int k h) y c).run P w = .ok h.toNat w := by
      intro y c k hy
      simp [Instr.sliceBound, asIntOf, show 0 ≤ h by omega, hy]
    have bl : ∀ (y : Nat) (c : BoundsCode) (k : IntKind), l ≤ (y : Int) → (Instr.sliceBound (.int k l) y c).run P w = .ok l.toNat w := by
      intro y c k hy
      simp [Instr.sliceBound, asIntOf, h0, hy]
    have hsize : (sizeOf e).run P w = .ok sz w := by rw [Ab.run_sizeOf hi', hsz]
    cases hi with
    | none =>
      simp only at hhi
      subst hhi
      have e5 : ((es.length : Nat) : Int).toNat = len := by omega
      cases lo with
      | none =>
        simp only at hlo
        subst hlo
        simp [hsa, Instr.slice, Instr.sliceBounds, run_underlying ht, hsize, ← hlen]
      | some y =>
        obtain ⟨k, hk⟩ := el y rfl
        have b1 := bl len .sliceB k (by omega)
        simp [hsa, Instr.slice, Instr.sliceBounds, run_underlying ht, hsize, hk, b1, ← hlen]
    | some y' =>
      obtain ⟨k', hk'⟩ := eh y' rfl
      have b2 := bh cap .sliceAcap k' (by omega)
      cases lo with
      | none =>
        simp only at hlo
        subst hlo
        simp [hsa, Instr.slice, Instr.sliceBounds, run_underlying ht, hsize, hk', b2]
      | some y =>
        obtain ⟨k, hk⟩ := el y rfl
        have b1 := bl h.toNat .sliceB k (by omega)
        simp [hsa, Instr.slice, Instr.sliceBounds, run_underlying ht, hsize, hk, hk', b1, b2]

end
end Go.Xl
/-
  Cuts, lengths, append, function values, calls.
-/
set_option linter.unusedVariables false
set_option linter.unusedSimpArgs false
set_option linter.unnecessarySimpa false
namespace Go.Xl
open Go.Ab

section
variable {P : Program} {R : Type}

/-- a bound of a cut: what it is, and what is read -/
def cutBound (st : XSt) (d : Int) : Option Operand → Option (Int × List (Operand × XV))
  | none => some (d, [])
  | some y => match xd st y, xnum st y with
    | some b, some n => some (n, [(y, .d b)])
    | _, _ => none

theorem cutBound_sees {st : XSt} {d n : Int} {y : Option Operand} {rd : List (Operand × XV)} (h : cutBound st d y = some (n, rd)) : (∀ p ∈ imRd rd, Sees st.im p.1 p.2) ∧
    (match y with | some y => ∃ k, (y, AV.d (.int k n)) ∈ imRd rd | none => n = d) ∧ (match y with | some y => ∃ k, imRd rd = [(y, AV.d (.int k n))] | none => rd = []) := by
  cases y with
  | none => cases h; exact ⟨by simp [imRd], rfl, rfl⟩
  | some y =>
    unfold cutBound at h
    simp only at h
    split at h
    · rename_i b m hb hm
      cases h
      obtain ⟨a, k, ha, had⟩ := xnum_sees hm
      rw [hb] at ha
      cases ha
      exact ⟨sees1 hb, ⟨k, by simp [imRd, XV.a, had]⟩, ⟨k, by simp [imRd, XV.a, had]⟩⟩
    · cases h

/-- a cut, spelled short where a bound is not given -/
def cutX {α : Type} (lo hi : Option Operand) (l h : Int) (xs : List α) : List α :=
  match lo, hi with
  | none, none => xs
  | some _, none => xs.drop l.toNat
  | none, some _ => xs.take h.toNat
  | some _, some _ => cutL l h xs

theorem cutX_eq {α : Type} {lo hi : Option Operand} {l h : Int} {xs : List α} (hlo : lo = none → l = 0) (hhi : hi = none → h = xs.length) (h0 : 0 ≤ l) (h2 : h ≤ xs.length) : cutX lo hi l h xs = cutL l h xs := by
  cases lo with
  | none =>
    have := hlo rfl
    subst this
    cases hi with
    | none => have := hhi rfl; subst this; simp [cutX, cutL]
    | some y => simp [cutX, cutL]
  | some x =>
    cases hi with
    | none => have := hhi rfl; subst this; simp only [cutX, cutL, Int.toNat_natCast]; rw [List.take_of_length_le]; simp
    | some y => rfl

def xSlice (P : Program) (st : XSt) (t : TypeId) (x : Operand) (lo hi mx : Option Operand) (K : Out → Option R) : Option R :=
  match mx, xd st x with
  | none, some (.s s) =>
    match P.underlying t, cutBound st 0 lo, cutBound st s.length hi with
    | some .string, some (l, r1), some (h, r2) => cond (cutOk l h s.length) (K (quietO st (.d (.s (cutX lo hi l h s))) ((x, .d (.s s)) :: (r1 ++ r2)))) none
    | _, _, _ => none
  | none, some (.sl ty s) =>
    match sliceOfT P t, cutBound st 0 lo, cutBound st s.length hi with
    | some (_, sz, _), some (l, r1), some (h, r2) => cond (Nat.beq ty.size sz) (cond (cutOk l h s.length) (K (quietO st (.d (.sl ty (cutX lo hi l h s))) ((x, .d (.sl ty s)) :: (r1 ++ r2)))) none) none
    | _, _, _ => none
  | _, _ => none

theorem imRd_append (a b : List (Operand × XV)) : imRd (a ++ b) = imRd a ++ imRd b := by simp [imRd]

theorem sees_cut {st : XSt} {x : Operand} {a : XD} {r1 r2 : List (Operand × XV)} (hx : xd st x = some a) (h1 : ∀ p ∈ imRd r1, Sees st.im p.1 p.2) (h2 : ∀ p ∈ imRd r2, Sees st.im p.1 p.2) :
    ∀ p ∈ imRd ((x, .d a) :: (r1 ++ r2)), Sees st.im p.1 p.2 := by
  intro p hp
  simp only [imRd, List.map_cons, List.map_append, List.mem_cons, List.mem_append] at hp
  rcases hp with rfl | hp | hp
  · exact xd_at hx
  · exact h1 p hp
  · exact h2 p hp

theorem op_slice_bs_all {o : Oper} {X : Store} {t : TypeId} {x : Operand} {s : List UInt8} (ho : o.op = .slice t x none none none) (ht : P.underlying t = some .string) :
    OpT P o [(x, .d (.bs s))] X X [] (.d (.bs s)) :=
  .quiet fun _ _ g w ac _ hrd => by
    have e1 := (rd0 hrd).sc_inv
    simp only at e1
    refine ⟨_, ?_, .ofSc _ _ _⟩
    simp only [execOp, ho, Option.map_none, e1]
    simp [run_sliceAt_string w t _ _ _ _ ht, Instr.slice, run_underlying ht, Instr.sliceBounds]

theorem xSlice_ok {o : Oper} {st : XSt} {t : TypeId} {x : Operand} {lo hi mx : Option Operand} {K : Out → Option R} {r : R} (ho : o.op = .slice t x lo hi mx) (h : xSlice P st t x lo hi mx K = some r) : ∃ out, K out = some r ∧ OpOk P o st out := by
  unfold xSlice at h
  split at h
  · rename_i s hx
    split at h
    · rename_i l r1 hh r2 ht hlo hhi
      cases hc : cutOk l hh s.length with
      | false => simp [hc] at h
      | true =>
        simp only [hc, cond_true] at h
        obtain ⟨c0, c1, c2⟩ := cutOk_iff hc
        obtain ⟨s1, m1, f1⟩ := cutBound_sees hlo
        obtain ⟨s2, m2, f2⟩ := cutBound_sees hhi
        refine ⟨_, h, quietO_ok (sees_cut hx s1 s2) fun X => ?_⟩
        cases lo with
        | none =>
          simp only at m1 f1
          subst m1; subst f1
          cases hi with
          | none =>
            simp only at m2 f2
            subst m2; subst f2
            exact op_slice_bs_all ho ht
          | some y =>
            obtain ⟨k, hk⟩ := f2
            have := o_slice_bs_hi (P := P) (X := X) (k := k) ho ht c1 c2
            simp only [List.nil_append]
            show OpT P o ((x, .d (.bs s)) :: imRd r2) X X [] _
            rw [hk]
            exact this
        | some y0 =>
          obtain ⟨k0, hk0⟩ := f1
          cases hi with
          | none =>
            simp only at m2 f2
            subst m2; subst f2
            have := o_slice_bs_lo (P := P) (X := X) (k := k0) ho ht c0 c1
            simp only [List.append_nil]
            show OpT P o ((x, .d (.bs s)) :: imRd r1) X X [] _
            rw [hk0]
            exact this
          | some y =>
            obtain ⟨k, hk⟩ := f2
            have := o_slice_bs (P := P) (X := X) (k := k0) (k' := k) ho ht c0 c1 c2
            show OpT P o ((x, .d (.bs s)) :: imRd (r1 ++ r2)) X X [] _
            rw [imRd_append, hk0, hk]
            exact this
    · cases h
  · rename_i ty s hx
    split at h
    · rename_i e sz by0 l r1 hh r2 ht hlo hhi
      cases hb : Nat.beq ty.size sz with
      | false => simp [hb] at h
      | true =>
      cases hc : cutOk l hh s.length with
      | false => simp [hb, hc] at h
      | true =>
        simp only [hb, hc, cond_true] at h
        have e1 := Nat.eq_of_beq_eq_true hb
        obtain ⟨c0, c1, c2⟩ := cutOk_iff hc
        obtain ⟨s1, m1, f1⟩ := cutBound_sees hlo
        obtain ⟨s2, m2, f2⟩ := cutBound_sees hhi
        obtain ⟨hu, i, z, hi', hs', hb', hz', hzs'⟩ := sliceOfT_I ht
        refine ⟨_, h, quietO_ok (sees_cut hx s1 s2) fun X => ?_⟩
        have := op_slice_sl (P := P) (X := X) (es := s.map ty.ds) (rd := imRd (r1 ++ r2)) (l := l) (h := hh) ho hu hi' hs' c0 c1 (by simpa using c2) (by
          cases lo with
          | none => exact m1
          | some y => obtain ⟨k, hk⟩ := m1; exact ⟨k, by rw [imRd_append]; exact List.mem_append_left _ hk⟩) (by
          cases hi with
          | none => simpa using m2
          | some y => obtain ⟨k, hk⟩ := m2; exact ⟨k, by rw [imRd_append]; exact List.mem_append_right _ hk⟩)
        show OpT P o ((x, .d (.sl ty.size (s.map ty.ds))) :: imRd (r1 ++ r2)) X X [] (.d (.sl ty.size ((cutX lo hi l hh s).map ty.ds)))
        rw [cutX_eq (by intro hl; subst hl; exact m1) (by intro hl; subst hl; exact m2) c0 c2]
        rw [e1]
        have e2 : (cutL l hh s).map ty.ds = cutL l hh (s.map ty.ds) := by simp [cutL, List.map_take, List.map_drop]
        rw [e2]
        exact this
    · cases h
  · cases h

-- len
def xLen (P : Program) (st : XSt) (ts : Array TypeId) (x : Operand) (K : Out → Option R) : Option R :=
  match ts[0]? with
  | some t =>
    match xd st x, P.underlying t with
    | some (.s l), some .string => K (quietO st (.d (.i .i64 (l.length : Int))) [(x, .d (.s l))])
    | some (.sl ty l), some (.slice _) => K (quietO st (.d (.i .i64 (l.length : Int))) [(x, .d (.sl ty l))])
    | some (.v (.slice none 0 0)), some (.slice _) => match sliceOfT P t with
      | some _ => K (quietO st (.d (.i .i64 0)) [(x, .d (.v (.slice none 0 0)))])
      | none => none
    | _, _ => none
  | none => none

theorem xLen_ok {o : Oper} {st : XSt} {ts : Array TypeId} {x : Operand} {K : Out → Option R} {r : R} (ho : o.op = .call { callee := .builtin .len, args := #[x], argTypes := ts }) (h : xLen P st ts x K = some r) : ∃ out, K out = some r ∧ OpOk P o st out := by
  unfold xLen at h
  split at h
  · rename_i t ht0
    split at h
    · rename_i l hx ht
      exact ⟨_, h, quietO_ok (sees1 hx) fun X => o_len_bs ho ht0 ht⟩
    · rename_i ty l e hx ht
      refine ⟨_, h, quietO_ok (sees1 hx) fun X => ?_⟩
      have := op_len_slice (P := P) (X := X) (x := x) (sz := ty.size) (es := l.map ty.ds) ho ht0 ht
      rw [List.length_map] at this
      exact this
    · rename_i e hx ht
      split at h
      · rename_i q hq
        obtain ⟨q1, q2, q3⟩ := q
        exact ⟨_, h, quietO_ok (sees1 hx) fun X => op_len_nil ho ht0 (sliceOfT_I hq)⟩
      · cases h
    · cases h
  · cases h

-- min, max
def xMinMax (st : XSt) (isMin : Bool) (x y : Operand) (K : Out → Option R) : Option R :=
  match xd st x, xd st y with
  | some (.i k a), some (.i k' b) => cond (kindB k k') (K (quietO st (.d (.i k (cond isMin (if b < a then b else a) (if b > a then b else a)))) [(x, .d (.i k a)), (y, .d (.i k' b))])) none
  | _, _ => none

theorem xMin_ok {o : Oper} {st : XSt} {ts : Array TypeId} {x y : Operand} {K : Out → Option R} {r : R} (ho : o.op = .call { callee := .builtin .min, args := #[x, y], argTypes := ts }) (h : xMinMax st true x y K = some r) : ∃ out, K out = some r ∧ OpOk P o st out := by
  unfold xMinMax at h
  split at h
  · rename_i k a k' b hx hy
    cases hk : kindB k k' with
    | false => simp [hk] at h
    | true =>
      simp only [hk, cond_true] at h
      have := kindB_eq hk
      subst this
      exact ⟨_, h, quietO_ok (sees2 hx hy) fun X => op_min ho⟩
  · cases h

theorem xMax_ok {o : Oper} {st : XSt} {ts : Array TypeId} {x y : Operand} {K : Out → Option R} {r : R} (ho : o.op = .call { callee := .builtin .max, args := #[x, y], argTypes := ts }) (h : xMinMax st false x y K = some r) : ∃ out, K out = some r ∧ OpOk P o st out := by
  unfold xMinMax at h
  split at h
  · rename_i k a k' b hx hy
    cases hk : kindB k k' with
    | false => simp [hk] at h
    | true =>
      simp only [hk, cond_true, cond_false] at h
      have := kindB_eq hk
      subst this
      exact ⟨_, h, quietO_ok (sees2 hx hy) fun X => op_max ho⟩
  · cases h

/-- the label of what an append makes -/
def newLab (o : Oper) : Option Nat :=
  match o.dst with
  | some d => some (100000 + d)
  | none => none

/-- does a slice of so many elements fit -/
def fitsB (n bytes : Nat) : Bool := decide (n * bytes ≤ 140737488355328) && decide (n ≤ 4611686018427387904)

theorem fitsB_iff {n bytes : Nat} (h : fitsB n bytes = true) : n * bytes ≤ 140737488355328 ∧ n ≤ 4611686018427387904 := by
  simpa [fitsB] using h

def without (n : Nat) (l : List Nat) : List Nat := l.filter (· != n)

/-- may this label be made -/
def freshL (m : Nat) (live : List Nat) (st : XSt) : Bool := cond (inl m live) false (objsFreeB [m] st)

theorem freshL_ok {m : Nat} {live : List Nat} {st : XSt} (h : freshL m live st = true) : m ∉ live ∧ objsFree [m] st.X = true := by
  unfold freshL at h
  cases hm : inl m live with
  | true => simp [hm] at h
  | false =>
    simp only [hm, cond_false] at h
    refine ⟨fun hh => ?_, objsFreeB_ok h⟩
    rw [(inl_eq m live).2 hh] at hm
    cases hm

def tyOpt (ty : Option TypeId) (e : TypeId) : Bool :=
  match ty with
  | none => true
  | some t => Nat.beq t e

theorem tyOpt_ok {ty : Option TypeId} {e : TypeId} (h : tyOpt ty e = true) : (ty == none || ty == some e) = true := by
  cases ty with
  | none => rfl
  | some t => simp only [tyOpt] at h; rw [Nat.eq_of_beq_eq_true h]; simp

-- append
def xAppend (P : Program) (st : XSt) (o : Oper) (ts : Array TypeId) (s x : Operand) (K : Out → Option R) : Option R :=
  match ts[0]?, ts[1]?, newLab o with
  | some t, some u, some m =>
    match sliceOfT P t, sliceOfT P u, xeval st s, xd st x with
    | some (e, sz, bytes), some _, some (.tip n ty l oty), some (.sl ty' l') =>
      if h : ty'.eqb ty = true then
        cond (Nat.beq ty.size sz) (cond (inl n st.live) (cond (freshL m (without n st.live) st) (cond (tyOpt oty e)
          (cond (fitsB (l.length + l'.length) bytes) (K ⟨.lab, .tip m ty (l ++ (Ty.eqb_eq h ▸ l' : List ty.T)) oty, [(s, .tip n ty l oty), (x, .d (.sl ty' l'))], st.objs, m :: without n st.live, [m], []⟩) none) none) none) none) none
      else none
    | some (e, sz, bytes), some _, some (.d (.v (.slice none 0 0))), some (.sl ty l) =>
      cond (Nat.beq ty.size sz) (cond (freshL m st.live st)
          (cond (fitsB l.length bytes) (K ⟨.lab, .tip m ty l (some e), [(s, .d (.v (.slice none 0 0))), (x, .d (.sl ty l))], st.objs, m :: st.live, [m], []⟩) none) none) none
    | _, _, _, _ => none
  | _, _, _ => none

theorem xAppend_ok {o : Oper} {st : XSt} {ts : Array TypeId} {s x : Operand} {K : Out → Option R} {r : R} (ho : o.op = .call { callee := .builtin .append, args := #[s, x], argTypes := ts }) (h : xAppend P st o ts s x K = some r) : ∃ out, K out = some r ∧ OpOk P o st out := by
  unfold xAppend at h
  split at h
  · rename_i t u m ht hu hm
    split at h
    · rename_i e sz bytes q n ty l oty ty' l' hsl hsu hs hx
      split at h
      · rename_i he
        have e0 := Ty.eqb_eq he
        subst e0
        cases h1 : Nat.beq ty'.size sz with
        | false => simp [h1] at h
        | true =>
        cases h2 : inl n st.live with
        | false => simp [h1, h2] at h
        | true =>
        cases h3 : freshL m (without n st.live) st with
        | false => simp [h1, h2, h3] at h
        | true =>
        cases h4 : tyOpt oty e with
        | false => simp [h1, h2, h3, h4] at h
        | true =>
        cases h5 : fitsB (l.length + l'.length) bytes with
        | false => simp [h1, h2, h3, h4, h5] at h
        | true =>
          simp only [h1, h2, h3, h4, h5, cond_true] at h
          have e1 := Nat.eq_of_beq_eq_true h1
          subst e1
          obtain ⟨f1, f2⟩ := freshL_ok h3
          obtain ⟨b1, b2⟩ := fitsB_iff h5
          obtain ⟨q1, q2, q3⟩ := q
          refine ⟨_, h, ⟨?_, ?_, fun _ _ _ h => h⟩⟩
          · intro p hp
            simp only [imRd, List.map_cons, List.map_nil, List.mem_cons, List.not_mem_nil, or_false] at hp
            rcases hp with rfl | rfl
            · exact xeval_sees hs
            · exact xd_at hx
          · have := o_append (P := P) (X := st.X) (s := s) (x := x) (n := n) (es := l.map ty'.ds) (fs := l'.map ty'.ds) (ty := oty) m ho ht hu (sliceOfT_I hsu) (sliceOfT_I hsl) ((inl_eq _ _).1 h2) f1 f2
              (by intro cs hcs c hc; obtain ⟨y, _, rfl⟩ := List.mem_map.1 hcs; exact ty'.ds_one y c hc) (by simpa using b1) (by simpa using b2) (tyOpt_ok h4)
            rw [← List.map_append] at this
            exact ⟨rfl, this⟩
      · cases h
    · rename_i e sz bytes q ty l hsl hsu hs hx
      cases h1 : Nat.beq ty.size sz with
      | false => simp [h1] at h
      | true =>
      cases h3 : freshL m st.live st with
      | false => simp [h1, h3] at h
      | true =>
      cases h5 : fitsB l.length bytes with
      | false => simp [h1, h3, h5] at h
      | true =>
        simp only [h1, h3, h5, cond_true] at h
        have e1 := Nat.eq_of_beq_eq_true h1
        subst e1
        obtain ⟨f1, f2⟩ := freshL_ok h3
        obtain ⟨b1, b2⟩ := fitsB_iff h5
        obtain ⟨q1, q2, q3⟩ := q
        refine ⟨_, h, ⟨?_, ?_, fun _ _ _ h => h⟩⟩
        · intro p hp
          simp only [imRd, List.map_cons, List.map_nil, List.mem_cons, List.not_mem_nil, or_false] at hp
          rcases hp with rfl | rfl
          · exact xeval_sees hs
          · exact xd_at hx
        · have := o_append_nil (P := P) (X := st.X) (s := s) (x := x) (fs := l.map ty.ds) (ty := some e) m ho ht hu (sliceOfT_I hsu) (sliceOfT_I hsl) f1 f2
              (by intro cs hcs c hc; obtain ⟨y, _, rfl⟩ := List.mem_map.1 hcs; exact ty.ds_one y c hc) (by simpa using b1) (by simpa using b2) (by simp)
          exact ⟨rfl, this⟩
    · cases h
  · cases h

end
end Go.Xl
/-
  The first append of a slice that owns its block.
-/
set_option linter.unusedVariables false
set_option linter.unusedSimpArgs false
namespace Go.Ab
section
variable {P : Program} {o : Oper} {X : Store}

/-- append(nil, x...), x not empty. -/
theorem op_append_nil_osl {ts : Array TypeId} {s x : Operand} {sz : Nat} {fs : List (List D)} {t u e e' bytes bytes' sz' : Nat} (m : Nat)
    (ho : o.op = .call { callee := .builtin .append, args := #[s, x], argTypes := ts }) (h0 : ts[0]? = some t) (h1 : ts[1]? = some u) (hu : SliceI P u e' sz' bytes')
    (ht : SliceI P t e sz bytes) (h1m : 1000 ≤ m) (hX : objsFree [m] X = true) (hne : fs ≠ [])
    (hone : ∀ c ∈ fs, ∀ d ∈ c, oneD d = true) (hbig : fs.length * bytes ≤ 140737488355328) (hlen : fs.length ≤ 4611686018427387904) :
    OpT P o [(s, .d (.sc (.slice none 0 0))), (x, .d (.sl sz fs))] X ⟨(m, .cells (fs.flatten.map .d) none) :: (dropObj m X).objs, X.live⟩ [m] (.osl m 0 fs.length sz) := by
  obtain ⟨htt, i, z, hi, hsz, hbt, hz, hzs⟩ := ht
  intro nm hsm B g w a hr hrd next Q hnext
  have hmn : m ∉ nm := fun hh => by have := hsm m hh; omega
  have e1 := (rd0 hrd).sc_inv
  have e2 := rd1 hrd
  simp only at e1 e2
  unfold Oper.wp
  have hrun : ∀ r, (Builtin.append_ ts o.type #[a.eval s, a.eval x]).run P w = r → (execOp a.eval o).run P w = r.andThen fun v w' => .ok (.value v) w' := by
    intro r hr'
    simp only [execOp, ho, resolve]
    simp [invoke, builtin, hr']
  rw [e1] at hrun
  generalize a.eval x = vx at e2 hrun
  cases e2 with
  | d _ _ e2 =>
  obtain ⟨xb, xc, rfl, hxcap, _, hszF, news, hnl, hnrun, hnc⟩ := e2.slCells (P := P) hr.sane
  have hflat := flat_length fs hszF
  have hnew : ∀ (j : Nat) (y : AV) v, ((fs.flatten.map AV.d))[j]? = some y → news[j]? = some v → RA g w y v := by
    intro j y v hy hv
    rw [List.getElem?_map, Option.map_eq_some_iff] at hy
    obtain ⟨d, hd, rfl⟩ := hy
    obtain ⟨p, q, ds, rfl, hp, hq⟩ := flat_get fs hszF j d hd
    exact .d _ _ (hnc p q ds d v hp hq hv)
  have hneed : ¬ 0 + fs.length ≤ 0 := by
    have := List.length_pos_iff.2 hne; omega
  obtain ⟨hrd', htd⟩ := hr.drew
  have hrn := run_append_grows' (P := P) (w := w) (ty := o.type) (base := none) (len := 0) (cap := 0) (olds := []) h0 h1 hu.und htt hi hz (by rw [hsz]; exact hnrun w.drew fun _ _ _ => rfl) (by simp [Builtin.firstCells, loadCells, loadCellsFrom]) hneed (by omega) (by rw [hbt]; simpa using hbig)
  have hge := grownCap_ge w (0 + fs.length) 0 e
  generalize grownCap w (0 + fs.length) 0 e = nc at hrn hge
  generalize harrE : ([] : List Value).toArray ++ news.toArray ++ Builtin.zeroCells z.cells (nc - (0 + fs.length)) = arr2 at hrn
  have harr : arr2.size = nc * sz := by
    rw [← harrE]
    simp only [Array.size_append, List.size_toArray, size_zeroCells, List.length_nil, hnl, hzs]
    rw [Nat.zero_add, ← Nat.add_mul]
    congr 1; omega
  have hncm : fs.length * sz ≤ nc * sz := Nat.mul_le_mul_right _ (by omega)
  have hr1 := hrd'.dropObj (k := m) hmn
  obtain ⟨hr2, ht2⟩ := hr1.newObj (k := m) (by simp only [Ab.dropObj, lookup_filter, if_true]) (by
    unfold objsFree at hX ⊢
    simp only [List.isEmpty_cons, Bool.false_or] at hX ⊢
    rw [List.all_eq_true] at hX ⊢
    intro p hp
    simp only [Ab.dropObj, List.mem_filter] at hp
    exact hX p hp.1) (.cells arr2 e) (.cells (fs.flatten.map .d) none) (by
    intro g' w' ht' hw'
    refine .cells _ none arr2 e hw' (by simp only [List.length_map, hflat]; omega) ?_ (by simp)
    intro j y v hy hv
    have hjl : j < fs.flatten.length := by
      have := (List.getElem?_eq_some_iff.1 hy).1; rw [List.length_map] at this; exact this
    have hfree : Free [m] y := by
      rw [List.getElem?_map, Option.map_eq_some_iff] at hy
      obtain ⟨d, _, rfl⟩ := hy
      exact .d _
    rw [← harrE, Array.getElem?_append_left (by simp only [Array.size_append, List.size_toArray, List.length_nil, hnl]; omega), Array.getElem?_append_right (by simp)] at hv
    simp only [List.size_toArray, List.length_nil, Nat.sub_zero, List.getElem?_toArray] at hv
    exact ((hnew j y v hy hv).mono htd (.nil _)).mono ht' hfree)
  rw [hrun _ hrn]
  have hww : w.heap.size = w.drew.heap.size := rfl
  refine hnext _ _ _ hr2 (htd.trans ht2) ?_
  simp only [Nat.zero_add] at hge ⊢
  refine .nm _ _ _ ?_
  simp only [upd_same]
  rw [hww]
  refine ⟨nc, 0, hge, rfl, .inr rfl, e, arr2.size, ?_, by omega⟩
  have := heap_alloc_new w.drew (.cells arr2 e)
  simp only [World.shape?]
  rw [this]
end
end Go.Ab
/-
  clear on a slice over an object's cells: what stands ahead stays; the rest is forgotten.
-/
set_option linter.unusedVariables false
set_option linter.unusedSimpArgs false
namespace Go.Ab
section
variable {P : Program} {o : Oper} {X : Store}

theorem mem_zeroCells {zs : Array Value} : ∀ {n : Nat} {v : Value}, v ∈ (Builtin.zeroCells zs n).toList → v ∈ zs.toList := by
  intro n v h
  unfold Builtin.zeroCells at h
  simp at h
  obtain ⟨a, ha, h⟩ := h
  have h0 : 0 < zs.size := by
    rcases Nat.eq_zero_or_pos zs.size with h0 | h0
    · rw [h0] at ha; simp at ha
    · exact h0
  have hlt := Nat.mod_lt a h0
  rw [getElem!_pos zs _ hlt] at h
  rw [← h]
  simp

theorem op_clear_osl {ts : Array TypeId} {x : Operand} {k off len sz : Nat} {cs : List AV} {ty : Option TypeId} {t e bytes : Nat}
    (ho : o.op = .call { callee := .builtin .clear, args := #[x], argTypes := ts }) (h0 : ts[0]? = some t) (ht : SliceI P t e sz bytes) (hk : X.objs.lookup k = some (.cells cs ty))
    (hone : ∀ z, (P.info? e).bind (·.zero) = some z → ∀ v ∈ z.cells.toList, v.oneCell' = true) :
    OpT P o [(x, .osl k off len sz)] X ⟨setObj k (.cells (cs.take off) ty) X.objs, X.live⟩ [] (.tup []) := by
  obtain ⟨htt, i, z, hi, hsz, hbt, hz, hzs⟩ := ht
  intro nm hsm B g w a hr hrd next Q hnext
  have e1 := rd0 hrd
  simp only at e1
  obtain ⟨cap, q, hcap, hv, hq, T, c, hsh, hc⟩ := e1.osl_inv
  unfold Oper.wp
  have hrun : ∀ w', (Builtin.clear_ ts o.type #[a.eval x]).run P w = .ok (.tuple #[]) w' → (execOp a.eval o).run P w = .ok (.value (.tuple #[])) w' := by
    intro w' hr'
    simp only [execOp, ho, resolve]
    simp [invoke, builtin, hr']
  rw [hv] at hrun
  have hone' := hone z (by rw [hi]; exact hz)
  cases hr.objs k _ hk with
  | cells _ _ arr T' hb hl hcc hty =>
  have hshape : w.shape? (g.ρ k) = some (T', arr.size) := by simp [World.shape?, hb]
  rw [hshape] at hsh
  simp only [Option.some.injEq, Prod.mk.injEq] at hsh
  obtain ⟨rfl, rfl⟩ := hsh
  have shrink : ∀ w', w' = w → HR nm B g w' ⟨setObj k (.cells (cs.take off) ty) X.objs, X.live⟩ ∧ Trans [] g w g w' := by
    rintro w' rfl
    refine hr.write hk rfl ⟨rfl, rfl, rfl, Nat.le_refl _⟩ (fun _ _ => rfl) (fun _ => ?_) (fun s h => h)
    refine .cells _ ty arr T' hb (by simp; omega) ?_ hty
    intro j y v hy hv
    rw [List.getElem?_take] at hy
    split at hy
    · exact hcc j y v hy hv
    · cases hy
  by_cases hlen : len = 0
  · subst hlen
    have : (Builtin.clear_ ts o.type #[.slice (some ⟨g.ρ k, q, none⟩) 0 cap]).run P w = .ok (.tuple #[]) w := by
      simp [Builtin.clear_, h0, run_underlying htt]
    rw [hrun _ this]
    obtain ⟨r1, r2⟩ := shrink w rfl
    exact hnext g w _ r1 r2 (.tup [] #[] rfl (by simp))
  · have hqo : q = off := by
      rcases hq with h | h
      · omega
      · exact h
    subst hqo
    have hle : len * sz ≤ cap * sz := Nat.mul_le_mul_right sz hcap
    obtain ⟨w', arr', hst, hb', hs', hp', hz', hoth, hi'⟩ := run_storeCells' (P := P) (off := q) (Builtin.zeroCells z.cells len).toList 0 w arr hb (fun v hv => hone' v (mem_zeroCells hv)) (by
      rw [Array.length_toList, size_zeroCells, hzs]; omega) (by intro j h3 h4; simp [World.frozen?, hb])
    have : (Builtin.clear_ ts o.type #[.slice (some ⟨g.ρ k, q, none⟩) len cap]).run P w = .ok (.tuple #[]) w' := by
      have hn : ∀ n, len = n → n ≠ 0 := fun n h => h ▸ hlen
      obtain ⟨n, rfl⟩ : ∃ n, len = n + 1 := ⟨len - 1, by omega⟩
      simp [Builtin.clear_, h0, run_underlying htt, zeroValue, typeInfo, hi, hz, hst]
    rw [hrun _ this]
    obtain ⟨r1, r2⟩ := hr.write hk (o' := .cells (cs.take q) ty) hz' hi' hoth (by
      intro ht'
      refine .cells _ ty arr' T' hb' (by simp; omega) ?_ hty
      intro j y v hy hv
      rw [List.getElem?_take] at hy
      split at hy
      · rw [hp' j, if_neg (by omega)] at hv
        exact (hcc j y v hy hv).mono ht' (.nil _)
      · cases hy) (by
      intro s hs0
      rw [hshape] at hs0
      simp only [World.shape?, hb', hs']
      exact hs0)
    exact hnext g w' _ r1 r2 (.tup [] #[] rfl (by simp))

end
end Go.Ab
/-
  Slices that own their block: cuts, lengths, append.
-/
set_option linter.unusedVariables false
set_option linter.unusedSimpArgs false
set_option linter.unnecessarySimpa false
namespace Go.Xl
open Go.Ab
section
variable {P : Program} {R : Type}

theorem sees_cutv {st : XSt} {x : Operand} {v : XV} {r1 r2 : List (Operand × XV)} (hx : xeval st x = some v) (h1 : ∀ p ∈ imRd r1, Sees st.im p.1 p.2) (h2 : ∀ p ∈ imRd r2, Sees st.im p.1 p.2) :
    ∀ p ∈ imRd ((x, v) :: (r1 ++ r2)), Sees st.im p.1 p.2 := by
  intro p hp
  simp only [imRd, List.map_cons, List.map_append, List.mem_cons, List.mem_append] at hp
  rcases hp with rfl | hp | hp
  · exact xeval_sees hx
  · exact h1 p hp
  · exact h2 p hp

def xSliceOs (P : Program) (st : XSt) (t : TypeId) (x : Operand) (lo hi : Option Operand) (k : Nat) (ty : Ty) (a len : Nat) (K : Out → Option R) : Option R :=
  match sliceOfT P t, cutBound st 0 lo, cutBound st len hi with
  | some (_, sz, _), some (l, r1), some (h, r2) => cond (Nat.beq ty.size sz) (cond (cutOk l h len) (K (quietO st (.os k ty (a + l.toNat) (h.toNat - l.toNat)) ((x, .os k ty a len) :: (r1 ++ r2)))) none) none
  | _, _, _ => none

theorem xSliceOs_ok {o : Oper} {st : XSt} {t : TypeId} {x : Operand} {lo hi : Option Operand} {k : Nat} {ty : Ty} {a len : Nat} {K : Out → Option R} {r : R} (ho : o.op = .slice t x lo hi none) (hx : xeval st x = some (.os k ty a len))
    (h : xSliceOs P st t x lo hi k ty a len K = some r) : ∃ out, K out = some r ∧ OpOk P o st out := by
  unfold xSliceOs at h
  split at h
  · rename_i e sz by0 l r1 hh r2 ht hlo hhi
    cases hb : Nat.beq ty.size sz with
    | false => simp [hb] at h
    | true =>
    cases hc : cutOk l hh len with
    | false => simp [hb, hc] at h
    | true =>
      simp only [hb, hc, cond_true] at h
      have e1 := Nat.eq_of_beq_eq_true hb
      subst e1
      obtain ⟨c0, c1, c2⟩ := cutOk_iff hc
      obtain ⟨s1, m1, f1⟩ := cutBound_sees hlo
      obtain ⟨s2, m2, f2⟩ := cutBound_sees hhi
      obtain ⟨hu, i, z, hi', hs', hb', hz', hzs'⟩ := sliceOfT_I ht
      refine ⟨_, h, quietO_ok (sees_cutv hx s1 s2) fun X => ?_⟩
      have := op_slice_osl (P := P) (X := X) (k := k) (off := a * ty.size) (len := len) (rd := imRd (r1 ++ r2)) (l := l) (h := hh) ho hu hi' hs' c0 c1 c2 (by
        cases lo with
        | none => exact m1
        | some y => obtain ⟨j, hj⟩ := m1; exact ⟨j, by rw [imRd_append]; exact List.mem_append_left _ hj⟩) (by
        cases hi with
        | none => exact m2
        | some y => obtain ⟨j, hj⟩ := m2; exact ⟨j, by rw [imRd_append]; exact List.mem_append_right _ hj⟩)
      show OpT P o ((x, .nm k (.s (a * ty.size) len ty.size)) :: imRd (r1 ++ r2)) X X [] (.nm k (.s ((a + l.toNat) * ty.size) (hh.toNat - l.toNat) ty.size))
      rw [Nat.add_mul]
      exact this
  · cases h

def xSliceAny (P : Program) (st : XSt) (t : TypeId) (x : Operand) (lo hi mx : Option Operand) (K : Out → Option R) : Option R :=
  match mx, xeval st x with
  | none, some (.os k ty a len) => xSliceOs P st t x lo hi k ty a len K
  | _, _ => xSlice P st t x lo hi mx K

theorem xSliceAny_ok {o : Oper} {st : XSt} {t : TypeId} {x : Operand} {lo hi mx : Option Operand} {K : Out → Option R} {r : R} (ho : o.op = .slice t x lo hi mx) (h : xSliceAny P st t x lo hi mx K = some r) : ∃ out, K out = some r ∧ OpOk P o st out := by
  unfold xSliceAny at h
  split at h
  · rename_i k ty a len hx; exact xSliceOs_ok ho hx h
  · exact xSlice_ok ho h

def xLenAny (P : Program) (st : XSt) (ts : Array TypeId) (x : Operand) (K : Out → Option R) : Option R :=
  match xeval st x with
  | some (.os k ty a len) => match ts[0]? with
    | some t => match P.underlying t with
      | some (.slice _) => K (quietO st (.d (.i .i64 (len : Int))) [(x, .os k ty a len)])
      | _ => none
    | none => none
  | _ => xLen P st ts x K

theorem xLenAny_ok {o : Oper} {st : XSt} {ts : Array TypeId} {x : Operand} {K : Out → Option R} {r : R} (ho : o.op = .call { callee := .builtin .len, args := #[x], argTypes := ts }) (h : xLenAny P st ts x K = some r) : ∃ out, K out = some r ∧ OpOk P o st out := by
  unfold xLenAny at h
  split at h
  · rename_i k ty a len hx
    split at h
    · rename_i t ht0
      split at h
      · rename_i e ht
        exact ⟨_, h, quietO_ok (sees1v hx) fun X => op_len_osl ho ht0 ht⟩
      · cases h
    · cases h
  · exact xLen_ok ho h

def dropX (k : Nat) : List (Nat × XOb) → List (Nat × XOb)
  | [] => []
  | p :: r => cond (Nat.beq p.1 k) (dropX k r) (p :: dropX k r)

theorem dropX_im (k : Nat) (l : List (Nat × XOb)) : imObjs (dropX k l) = (imObjs l).filter (fun p => p.1 != k) := by
  induction l with
  | nil => rfl
  | cons p r ih =>
    simp only [dropX]
    cases hb : Nat.beq p.1 k with
    | true =>
      have := Nat.eq_of_beq_eq_true hb
      simp only [cond_true, imObjs, List.map_cons, List.filter_cons, this, bne_self_eq_false, Bool.false_eq_true, if_false] at ih ⊢
      exact ih
    | false =>
      have h1 : (p.1 != k) = true := by simpa using Nat.ne_of_beq_eq_false hb
      simp only [cond_false, imObjs, List.map_cons, List.filter_cons, h1, if_true] at ih ⊢
      rw [ih]

theorem lk_dropX {k j : Nat} {l : List (Nat × XOb)} {x : XOb} (h : lk j (dropX k l) = some x) : lk j l = some x := by
  induction l with
  | nil => exact h
  | cons p r ih =>
    simp only [dropX] at h
    cases hb : Nat.beq p.1 k with
    | true =>
      simp only [hb, cond_true] at h
      have hj : j ≠ k := by
        rintro rfl
        have : ∀ (l : List (Nat × XOb)), lk j (dropX j l) = none := by
          intro l
          induction l with
          | nil => rfl
          | cons q s ih2 =>
            simp only [dropX]
            cases hq : Nat.beq q.1 j with
            | true => simpa using ih2
            | false => simp [lk, hq]; exact ih2
        rw [this] at h; cases h
      have := Nat.eq_of_beq_eq_true hb
      simp only [lk]
      rw [this, nbF (Ne.symm hj)]
      exact ih h
    | false =>
      simp only [hb, cond_false, lk] at h ⊢
      cases hq : Nat.beq p.1 j with
      | true => simp only [hq, cond_true] at h ⊢; exact h
      | false => simp only [hq, cond_false] at h ⊢; exact ih h

def osTy : Option XV → Ty
  | some (.os _ ty _ _) => ty
  | _ => .unit

/-- data; a slice without elements is one of any type -/
def xdS (st : XSt) (ty : Ty) (x : Operand) : Option XD :=
  match xd st x with
  | some (.v (.slice (some _) 0 _)) => some (.sl ty [])
  | r => r

theorem xdS_at {st : XSt} {ty : Ty} {x : Operand} {a : XD} (h : xdS st ty x = some a) : Sees st.im x (XV.d a).a := by
  unfold xdS at h
  split at h
  · rename_i p c hx
    cases h
    exact xd_sees hx (.nilp _ _ _)
  · exact xd_at h

/-- append on a slice that owns its block -/
def xAppOwn (P : Program) (st : XSt) (o : Oper) (ts : Array TypeId) (s x : Operand) (K : Out → Option R) : Option R :=
  match ts[0]?, ts[1]?, newName o with
  | some t, some u, some m =>
    match sliceOfT P t, sliceOfT P u, xeval st s, xdS st (osTy (xeval st s)) x with
    | some (e, sz, bytes), some _, some (.os k ty a len), some (.sl ty' l') =>
      match lk k st.objs with
      | some (.arr tu l) =>
        if h : ty'.eqb ty = true then if h' : tu.eqb ty = true then
          cond (Nat.beq ty.size sz) (cond (Nat.beq a 0) (cond (Nat.ble 1000 k) (cond (Nat.beq m k) none (cond (objsFreeB [m] st) (cond (Nat.beq l.length len) (cond (fitsB (len + l'.length) bytes)
            (K ⟨.all, .os m ty 0 (len + l'.length), [(s, .os k ty a len), (x, .d (.sl ty' l'))], (m, .arr ty ((Ty.eqb_eq h' ▸ l : List ty.T) ++ (Ty.eqb_eq h ▸ l' : List ty.T))) :: dropX m (dropX k st.objs), st.live, [m], [m, k]⟩) none) none) none)) none) none) none
        else none else none
      | _ => none
    | some (e, sz, bytes), some _, some (.d (.v (.slice none 0 0))), some (.sl ty l) =>
      match l with
      | [] => none
      | y :: l => cond (Nat.beq ty.size sz) (cond (objsFreeB [m] st) (cond (Nat.ble 1000 m) (cond (fitsB (y :: l).length bytes)
            (K ⟨.all, .os m ty 0 (y :: l).length, [(s, .d (.v (.slice none 0 0))), (x, .d (.sl ty (y :: l)))], (m, .arr ty (y :: l)) :: dropX m st.objs, st.live, [m], [m]⟩) none) none) none) none
    | _, _, _, _ => none
  | _, _, _ => none

theorem newName_ge {o : Oper} {m : Nat} (h : newName o = some m) : 1000 ≤ m := by
  unfold newName at h
  split at h
  · cases h; omega
  · cases h

theorem xAppOwn_ok {o : Oper} {st : XSt} {ts : Array TypeId} {s x : Operand} {K : Out → Option R} {r : R} (ho : o.op = .call { callee := .builtin .append, args := #[s, x], argTypes := ts }) (h : xAppOwn P st o ts s x K = some r) : ∃ out, K out = some r ∧ OpOk P o st out := by
  unfold xAppOwn at h
  split at h
  · rename_i t u m ht hu hm
    split at h
    · rename_i e sz bytes q k ty a len ty' l' hsl hsu hs hx
      split at h
      · rename_i tu l hk
        split at h
        · rename_i he
          split at h
          · rename_i he'
            have e0 := Ty.eqb_eq he
            subst e0
            have e0' := Ty.eqb_eq he'
            subst e0'
            cases h1 : Nat.beq tu.size sz with
            | false => simp [h1] at h
            | true =>
            cases h2 : Nat.beq a 0 with
            | false => simp [h1, h2] at h
            | true =>
            cases h3 : Nat.ble 1000 k with
            | false => simp [h1, h2, h3] at h
            | true =>
            cases h4 : Nat.beq m k with
            | true => simp [h1, h2, h3, h4] at h
            | false =>
            cases h5 : objsFreeB [m] st with
            | false => simp [h1, h2, h3, h4, h5] at h
            | true =>
            cases h6 : Nat.beq l.length len with
            | false => simp [h1, h2, h3, h4, h5, h6] at h
            | true =>
            cases h7 : fitsB (len + l'.length) bytes with
            | false => simp [h1, h2, h3, h4, h5, h6, h7] at h
            | true =>
              simp only [h1, h2, h3, h4, h5, h6, h7, cond_true, cond_false] at h
              have e1 := Nat.eq_of_beq_eq_true h1
              have e2 := Nat.eq_of_beq_eq_true h2
              have e6 := Nat.eq_of_beq_eq_true h6
              subst e1; subst e2; subst e6
              obtain ⟨b1, b2⟩ := fitsB_iff h7
              obtain ⟨q1, q2, q3⟩ := q
              have hk' : st.X.objs.lookup k = some (.cells ((l.map tu.ds).flatten.map .d) none) := by
                show (imObjs st.objs).lookup k = _
                rw [im_objs, hk]; rfl
              refine ⟨_, h, ⟨?_, ?_, fun j z hj hz => ?_⟩⟩
              · intro p hp
                simp only [imRd, List.map_cons, List.map_nil, List.mem_cons, List.not_mem_nil, or_false] at hp
                rcases hp with rfl | rfl
                · exact xeval_sees hs
                · exact xdS_at hx
              · have := op_append_osl (P := P) (X := st.X) (s := s) (x := x) (k := k) (len := l.length) (cs := (l.map tu.ds).flatten.map .d) (cty := none) (fs := l'.map tu.ds) m ho ht hu (sliceOfT_I hsu) (sliceOfT_I hsl) hk'
                  (by rw [List.length_map, flat_length _ (ds_sizes tu l)]; simp) (Nat.le_of_ble_eq_true h3) (newName_ge hm) (Nat.ne_of_beq_eq_false h4) (objsFreeB_ok h5)
                  (by
                    rw [List.all_eq_true]
                    intro y hy
                    obtain ⟨d, hd, rfl⟩ := List.mem_map.1 hy
                    obtain ⟨c, hc, hdc⟩ := List.mem_flatten.1 hd
                    obtain ⟨v, _, rfl⟩ := List.mem_map.1 hc
                    have := tu.ds_one v d hdc
                    cases d <;> first | exact this | rfl)
                  (by intro c hc d hd; obtain ⟨v, _, rfl⟩ := List.mem_map.1 hc; exact tu.ds_one v d hd) (by simpa using b1) (by simpa using b2)
                show OpT P o _ st.X ⟨imObjs ((m, XOb.arr tu (l ++ l')) :: dropX m (dropX k st.objs)), st.live⟩ [m] _
                have e3 : imObjs ((m, XOb.arr tu (l ++ l')) :: dropX m (dropX k st.objs)) = (m, Ob.cells ((l.map tu.ds).flatten.map AV.d ++ (l'.map tu.ds).flatten.map AV.d) none) :: (Ab.dropObj m (Ab.dropObj k st.X)).objs := by
                  show (m, XOb.o (.arr tu (l ++ l'))) :: imObjs (dropX m (dropX k st.objs)) = _
                  rw [dropX_im, dropX_im]
                  simp only [XOb.o, List.map_append, List.flatten_append, Ab.dropObj]
                  rfl
                rw [e3]
                simp only [List.length_map] at this
                have e4 : imRd [(s, XV.os k tu 0 l.length), (x, XV.d (XD.sl tu l'))] = [(s, .osl k 0 l.length tu.size), (x, .d (.sl tu.size (l'.map tu.ds)))] := by
                  simp only [imRd, List.map_cons, List.map_nil, XV.a, Nat.zero_mul]; rfl
                rw [e4]
                have e5 : (XV.os m tu 0 (l.length + l'.length)).a = .osl m 0 (l.length + l'.length) tu.size := by simp only [XV.a, Nat.zero_mul]
                rw [e5]
                exact this
              · simp only [List.mem_cons, List.not_mem_nil, or_false, not_or] at hj
                rw [lk_cons_ne hj.1] at hz
                exact lk_dropX (lk_dropX hz)
          · cases h
        · cases h
      · cases h
    · rename_i e sz bytes q ty l hsl hsu hs hx
      split at h
      · cases h
      · rename_i y l
        cases h1 : Nat.beq ty.size sz with
        | false => simp [h1] at h
        | true =>
        cases h5 : objsFreeB [m] st with
        | false => simp [h1, h5] at h
        | true =>
        cases h3 : Nat.ble 1000 m with
        | false => simp [h1, h5, h3] at h
        | true =>
        cases h7 : fitsB (y :: l).length bytes with
        | false => simp only [h1, h5, h3, h7, cond_true, cond_false, reduceCtorEq] at h
        | true =>
          simp only [h1, h5, h3, h7, cond_true] at h
          have e1 := Nat.eq_of_beq_eq_true h1
          subst e1
          obtain ⟨b1, b2⟩ := fitsB_iff h7
          obtain ⟨q1, q2, q3⟩ := q
          refine ⟨_, h, ⟨?_, ?_, fun j z hj hz => ?_⟩⟩
          · intro p hp
            simp only [imRd, List.map_cons, List.map_nil, List.mem_cons, List.not_mem_nil, or_false] at hp
            rcases hp with rfl | rfl
            · exact xeval_sees hs
            · exact xdS_at hx
          · have := op_append_nil_osl (P := P) (X := st.X) (s := s) (x := x) (fs := (y :: l).map ty.ds) m ho ht hu (sliceOfT_I hsu) (sliceOfT_I hsl) (newName_ge hm) (objsFreeB_ok h5) (by simp)
              (by intro c hc d hd; obtain ⟨v, _, rfl⟩ := List.mem_map.1 hc; exact ty.ds_one v d hd) (by simpa using b1) (by simpa using b2)
            show OpT P o _ st.X ⟨imObjs ((m, XOb.arr ty (y :: l)) :: dropX m st.objs), st.live⟩ [m] _
            have e3 : imObjs ((m, XOb.arr ty (y :: l)) :: dropX m st.objs) = (m, Ob.cells (((y :: l).map ty.ds).flatten.map AV.d) none) :: (Ab.dropObj m st.X).objs := by
              show (m, XOb.o (.arr ty (y :: l))) :: imObjs (dropX m st.objs) = _
              rw [dropX_im]
              rfl
            rw [e3]
            have e4 : imRd [(s, XV.d (.v (.slice none 0 0))), (x, XV.d (XD.sl ty (y :: l)))] = [(s, .d (.sc (.slice none 0 0))), (x, .d (.sl ty.size ((y :: l).map ty.ds)))] := rfl
            rw [e4]
            have e5 : (XV.os m ty 0 (y :: l).length).a = .osl m 0 (y :: l).length ty.size := by simp only [XV.a, Nat.zero_mul]
            rw [e5]
            rw [List.length_map] at this
            exact this
          · simp only [List.mem_cons, List.not_mem_nil, or_false] at hj
            rw [lk_cons_ne hj] at hz
            exact lk_dropX hz
    · cases h
  · cases h


/-- clear on a slice that owns its block, or on a part of it: what stands ahead stays -/
def xClear (P : Program) (st : XSt) (ts : Array TypeId) (x : Operand) (K : Out → Option R) : Option R :=
  match ts[0]?, xeval st x with
  | some t, some (.os k ty a len) =>
    match sliceOfT P t, lk k st.objs with
    | some (e, sz, _), some (.arr tu l) =>
      if h : tu.eqb ty = true then
        match zeroOf P e with
        | some zs => cond (Nat.beq ty.size sz) (cond (xones zs)
            (K ⟨.put k (.arr ty ((Ty.eqb_eq h ▸ l : List ty.T).take a)), .tup [], [(x, .os k ty a len)], xset k (.arr ty ((Ty.eqb_eq h ▸ l : List ty.T).take a)) st.objs, st.live, [], [k]⟩) none) none
        | none => none
      else none
    | _, _ => none
  | some t, some (.d (.v (.slice none 0 0))) => none
  | _, _ => none

theorem flat_takeN {sz : Nat} : ∀ (fs : List (List D)), (∀ (i : Nat) cs, fs[i]? = some cs → cs.length = sz) → ∀ a, fs.flatten.take (a * sz) = (fs.take a).flatten
  | [], _, a => by simp
  | c :: r, h, 0 => by simp
  | c :: r, h, a + 1 => by
    have h0 := h 0 c rfl
    have ih := flat_takeN r (fun i cs hi => h (i + 1) cs (by simpa using hi)) a
    simp only [List.flatten_cons, List.take_succ_cons, Nat.succ_mul]
    rw [show a * sz + sz = c.length + a * sz by omega, List.take_length_add_append, ih]

theorem xClear_ok {o : Oper} {st : XSt} {ts : Array TypeId} {x : Operand} {K : Out → Option R} {r : R} (ho : o.op = .call { callee := .builtin .clear, args := #[x], argTypes := ts }) (h : xClear P st ts x K = some r) : ∃ out, K out = some r ∧ OpOk P o st out := by
  unfold xClear at h
  split at h
  · rename_i t k ty a len ht hx
    split at h
    · rename_i e sz bytes tu l hsl hk
      split at h
      · rename_i he
        have e0 := Ty.eqb_eq he
        subst e0
        split at h
        · rename_i zs hz
          cases h1 : Nat.beq tu.size sz with
          | false => simp [h1] at h
          | true =>
          cases h2 : xones zs with
          | false => simp [h1, h2] at h
          | true =>
            simp only [h1, h2, cond_true] at h
            have e1 := Nat.eq_of_beq_eq_true h1
            subst e1
            have hk' : st.X.objs.lookup k = some (.cells ((l.map tu.ds).flatten.map .d) none) := by
              show (imObjs st.objs).lookup k = _
              rw [im_objs, hk]; rfl
            have hone : ∀ z, (P.info? e).bind (·.zero) = some z → ∀ v ∈ z.cells.toList, v.oneCell' = true := by
              intro z hzz v hv
              unfold zeroOf at hz
              split at hz
              · rename_i i hi
                split at hz
                · rename_i z' hz'
                  cases hz
                  have : z = z' := by rw [hi] at hzz; simp only [Option.bind_some, hz', Option.some.injEq] at hzz; exact hzz.symm
                  subst this
                  have hall := xones_a h2
                  rw [List.all_eq_true] at hall
                  have := hall (.d (.sc v)) (by
                    rw [asOf_map, List.mem_map]
                    exact ⟨.d (constX v), List.mem_map.2 ⟨v, hv, rfl⟩, by simp only [XV.a, constX_d]⟩)
                  exact this
                · cases hz
              · cases hz
            refine ⟨_, h, ⟨sees1v hx, ⟨rfl, rfl, rfl, fun X hX => ?_⟩, fun j z hj hz => ?_⟩⟩
            · have := op_clear_osl (P := P) (X := X) (x := x) (k := k) (off := a * tu.size) (len := len) (cs := (l.map tu.ds).flatten.map .d) (ty := none) ho ht (sliceOfT_I hsl) (hX.trans hk') hone
              rw [← List.map_take, flat_takeN _ (ds_sizes tu l), ← List.map_take] at this
              exact this
            · rw [lk_xset _ _ _ _ (by simpa using hj)] at hz
              exact hz
        · cases h
      · cases h
    · cases h
  · cases h
  · cases h

end
end Go.Xl
/-
  A slice that is built and owns its block.
-/
set_option linter.unusedVariables false
set_option linter.unusedSimpArgs false
namespace Go.Ab
section
variable {P : Program} {o : Oper} {X : Store}

/-- []T{x, y, ..}, to be written in place -/
theorem op_buildSlice_osl (m : Nat) {t e : TypeId} {n sz : Nat} {parts : Array (Nat × Operand)} {xs : List D} {i : TypeInfo} {z : Value} (ho : o.op = .buildSlice t n parts) (ht : P.underlying t = some (.slice e))
    (hi : P.info? e = some i) (hz : i.zero = some z) (hsz : i.size = sz) (hx : xs.length = n) (hidx : parts.toList.map (·.1) = List.range n) (hok : (xs.all fun x => okSc (.d x) && x.cells.length == sz) = true)
    (hbig : n * sz ≤ 16777216) (h1m : 1000 ≤ m) (hX : objsFree [m] X = true) :
    OpT P o ((parts.toList.map (·.2)).zip (xs.map .d)) X ⟨(m, .cells ((xs.map D.cells).flatten.map .d) none) :: (dropObj m X).objs, X.live⟩ [m] (.osl m 0 n sz) := by
  subst hsz
  intro nm hsm B g w a hr hrd next Q hn
  have hpl : parts.toList.length = n := by rw [← List.length_map (f := (·.1)), hidx, List.length_range]
  unfold Oper.wp
  have hpart : ∀ (j : Nat) p x, parts.toList[j]? = some p → xs[j]? = some x → RA g w (.d x) (a.eval p.2) := by
    intro j p x hp hx'
    exact hrd (p.2, .d x) (List.mem_of_getElem? (i := j) (by
      rw [List.getElem?_zip_eq_some]
      exact ⟨by rw [List.getElem?_map, hp]; rfl, by rw [List.getElem?_map, hx']; rfl⟩))
  have hfacts : ∀ (j : Nat) x, xs[j]? = some x → okSc (.d x) = true ∧ x.cells.length = i.size := by
    intro j x hx'
    have := List.all_eq_true.1 hok x (List.mem_of_getElem? hx')
    simpa using this
  generalize harr0 : ((Array.range (n * i.size)).map fun x => (if n * i.size = 0 then #[] else z.cells)[x % (if n * i.size = 0 then #[] else z.cells).size]!) = arr0
  have harr0s : arr0.size = n * i.size := by subst harr0; simp
  obtain ⟨arr', hfill, hs', _, hc'⟩ := fill_slice (g := g) (w := w) (sz := i.size) (parts.toList.map fun p => (p.1, a.eval p.2)) (xs.map D.cells) 0 arr0 (by simp [hpl, hx]) (by
    intro j p hp
    rw [List.getElem?_map, Option.map_eq_some_iff] at hp
    obtain ⟨q, hq, rfl⟩ := hp
    have hj : j < n := by have := (List.getElem?_eq_some_iff.1 hq).1; omega
    have : (parts.toList.map (·.1))[j]? = some q.1 := by rw [List.getElem?_map, hq]; rfl
    rw [hidx, List.getElem?_range hj] at this
    simp at this; simp [this]) (by
    intro j p cs hp hcs
    rw [List.getElem?_map, Option.map_eq_some_iff] at hp hcs
    obtain ⟨q, hq, rfl⟩ := hp
    obtain ⟨x, hx', rfl⟩ := hcs
    obtain ⟨f1, f2⟩ := hfacts j x hx'
    obtain ⟨c1, c2⟩ := (hpart j q x hq hx').cells f1
    have hcl : (AV.d x).cells.length = x.cells.length := by simp [AV.cells]
    refine ⟨f2, by simp only; omega, ?_⟩
    intro k c u hk hu
    have := c2 k (.d c) u (by simp [AV.cells, hk]) hu
    cases this with
    | d _ _ h => exact h) (by simp [hpl, harr0s])
  have hrun : (execOp a.eval o).run P w = .ok (.value (.slice (some ⟨w.heap.size, 0, none⟩) n n)) (w.alloc (.cells arr' e)) := by
    simp only [execOp, ho, Instr.buildSlice]
    have h24 : ¬ (n * i.size > 2 ^ 24) := by omega
    by_cases h0 : n * i.size = 0
    · have e0 : arr0 = #[] := Array.eq_empty_of_size_eq_zero (by omega)
      subst e0
      have hfill' : Instr.fill (fun j => some (j * i.size, i.size)) #[] (parts.toList.map fun p => (p.1, a.eval p.2)) = some arr' := hfill
      have h24' : ¬ (0 > 2 ^ 24) := by omega
      simp only [Sem.run_bind, run_underlying ht, Result.andThen_ok, run_sizeOf hi, h0, if_true]
      simp [Array.range_zero', hfill', Go.newRow]
    · simp only [h0, if_false] at harr0
      have hfill' : Instr.fill (fun j => some (j * i.size, i.size)) arr0 (parts.toList.map fun p => (p.1, a.eval p.2)) = some arr' := hfill
      simp only [Sem.run_bind, run_underlying ht, Result.andThen_ok, run_sizeOf hi, h24, if_false, h0]
      simp [zeroValue, typeInfo, hi, hz, harr0, hfill', Go.newRow]
  have hmn : m ∉ nm := fun hh => by have := hsm m hh; omega
  have hszF : ∀ (i' : Nat) cs, (xs.map D.cells)[i']? = some cs → cs.length = i.size := by
    intro j cs hcs
    rw [List.getElem?_map, Option.map_eq_some_iff] at hcs
    obtain ⟨x, hx', rfl⟩ := hcs
    exact (hfacts j x hx').2
  have hflat := flat_length (xs.map D.cells) hszF
  rw [List.length_map, hx] at hflat
  have hr1 := hr.dropObj (k := m) hmn
  obtain ⟨hr2, ht2⟩ := hr1.newObj (k := m) (by simp only [Ab.dropObj, lookup_filter, if_true]) (by
    unfold objsFree at hX ⊢
    simp only [List.isEmpty_cons, Bool.false_or] at hX ⊢
    rw [List.all_eq_true] at hX ⊢
    intro p hp
    simp only [Ab.dropObj, List.mem_filter] at hp
    exact hX p hp.1) (.cells arr' e) (.cells ((xs.map D.cells).flatten.map .d) none) (by
    intro g' w' ht' hw'
    refine .cells _ none arr' e hw' (by simp only [List.length_map, hflat]; omega) ?_ (by simp)
    intro j y v hy hv
    rw [List.getElem?_map, Option.map_eq_some_iff] at hy
    obtain ⟨d, hd, rfl⟩ := hy
    obtain ⟨p, q, ds, rfl, hp, hq⟩ := flat_get _ hszF j d hd
    have := hc' p q ds d v hp hq (by rw [Nat.zero_add]; exact hv)
    exact (RA.d _ _ this).mono ht' (.d _))
  rw [hrun]
  refine hn _ _ _ hr2 ht2 (.nm _ _ _ ?_)
  simp only [upd_same]
  exact ⟨n, 0, Nat.le_refl _, rfl, .inr rfl, e, arr'.size, by unfold World.shape?; rw [heap_alloc_new], by omega⟩

end
end Go.Ab
/-
  A slice and nil; a slice that is built and owns its block.
-/
set_option linter.unusedVariables false
set_option linter.unusedSimpArgs false
set_option linter.unnecessarySimpa false
namespace Go.Xl
open Go.Ab
section
variable {P : Program} {R : Type}

/-- whether a slice is nil, where that is known -/
def isNilX : XV → Option Bool
  | .d (.v (.slice none 0 0)) => some true
  | .d (.v (.slice (some _) _ _)) => some false
  | .d (.sl _ l) => match l with
    | [] => none
    | _ :: _ => some false
  | .os _ _ _ _ => some false
  | _ => none

theorem isNilX_ok {x : XV} {b : Bool} (h : isNilX x = some b) {g : Gh} {w : World} {v : Value} (hr : RA g w x.a v) : ∃ p n c, v = .slice p n c ∧ p.isNone = b := by
  unfold isNilX at h
  split at h
  · cases h
    cases hr with
    | d _ _ h => cases h; exact ⟨_, _, _, rfl, rfl⟩
  · cases h
    cases hr with
    | d _ _ h => cases h; exact ⟨_, _, _, rfl, rfl⟩
  · split at h
    · cases h
    · cases h
      cases hr with
      | d _ _ h => cases h; exact ⟨_, _, _, rfl, rfl⟩
  · cases h
    obtain ⟨cap, o, _, hv, _⟩ := RA.osl_inv hr
    exact ⟨_, _, _, hv, rfl⟩
  · cases h

theorem run_sl_nil {t e : TypeId} (ht : P.underlying t = some (.slice e)) (p : Option Addr) (n c : Nat) (w : World) : (Op.equal t (.slice p n c) (.slice none 0 0)).run P w = .ok p.isNone w := by
  have h : ∀ d : Nat, (Op.equalIn (d + 1) t (.slice p n c) (.slice none 0 0)).run P w = .ok p.isNone w := by
    intro d
    cases p <;> simp [Op.equalIn, run_underlying ht]
  exact h 9999

theorem op_sl_nil {o : Oper} {X : Store} {op : BinOp} {t t' e : TypeId} {x y : Operand} {v : XV} {b : Bool} (neg : Bool) (ho : o.op = .binOp (cond neg .neq .eql) t x y t') (ht : P.underlying t = some (.slice e)) (hb : isNilX v = some b) :
    OpT P o [(x, v.a), (y, .d (.sc (.slice none 0 0)))] X X [] (.d (.sc (.bool (cond neg (!b) b)))) :=
  .quiet fun _ _ g w ac _ hrd => by
    have h1 := rd0 hrd
    have h2 := (rd1 hrd).sc_inv
    simp only at h1 h2
    obtain ⟨p, n, c, hv, hp⟩ := isNilX_ok hb h1
    refine ⟨_, ?_, .ofSc _ _ _⟩
    simp only [execOp, ho, hv, h2]
    cases neg with
    | true =>
      have hg : ∀ p : Option Addr, eqGuard .neq t x y (.slice p n c) (.slice none 0 0) = pure () := fun _ => rfl
      simp [hg, binOp, run_sl_nil ht, hp]
    | false =>
      have hg : ∀ p : Option Addr, eqGuard .eql t x y (.slice p n c) (.slice none 0 0) = pure () := fun _ => rfl
      simp [hg, binOp, run_sl_nil ht, hp]

def isNilC : Operand → Bool
  | .const (.slice none 0 0) => true
  | _ => false

theorem isNilC_eq {x : Operand} (h : isNilC x = true) : x = .const (.slice none 0 0) := by
  unfold isNilC at h
  split at h
  · rfl
  · cases h

/-- binary operations, a slice and nil too -/
def xBinAny (P : Program) (st : XSt) (op : BinOp) (t : TypeId) (x y : Operand) (K : Out → Option R) : Option R :=
  cond (isNilC y) (match op with
    | .eql => match sliceOfT P t, xeval st x with
      | some _, some v => match isNilX v with
        | some b => K (quietO st (.d (.b b)) [(x, v), (y, .d (.v (.slice none 0 0)))])
        | none => none
      | _, _ => none
    | .neq => match sliceOfT P t, xeval st x with
      | some _, some v => match isNilX v with
        | some b => K (quietO st (.d (.b (!b))) [(x, v), (y, .d (.v (.slice none 0 0)))])
        | none => none
      | _, _ => none
    | _ => none) (xBin P st op t x y K)

theorem xBinAny_ok {o : Oper} {st : XSt} {op : BinOp} {t t' : TypeId} {x y : Operand} {K : Out → Option R} {r : R} (ho : o.op = .binOp op t x y t') (h : xBinAny P st op t x y K = some r) : ∃ out, K out = some r ∧ OpOk P o st out := by
  unfold xBinAny at h
  cases hy : isNilC y with
  | false => simp only [hy, cond_false] at h; exact xBin_ok ho h
  | true =>
    have := isNilC_eq hy
    subst this
    simp only [hy, cond_true] at h
    have sees : ∀ v, xeval st x = some v → ∀ p ∈ imRd [(x, v), (Operand.const (.slice none 0 0), XV.d (.v (.slice none 0 0)))], Sees st.im p.1 p.2 := by
      intro v hv p hp
      simp only [imRd, List.map_cons, List.map_nil, List.mem_cons, List.not_mem_nil, or_false] at hp
      rcases hp with rfl | rfl
      · exact xeval_sees hv
      · exact .const _ _ fun _ _ => .sc _
    split at h
    · split at h
      · rename_i e v hs hv
        split at h
        · rename_i b hb
          obtain ⟨e1, e2, e3⟩ := e
          refine ⟨_, h, quietO_ok (sees v hv) fun X => ?_⟩
          exact op_sl_nil (op := .eql) false ho (sliceOfT_I hs).und hb
        · cases h
      · cases h
    · split at h
      · rename_i e v hs hv
        split at h
        · rename_i b hb
          obtain ⟨e1, e2, e3⟩ := e
          refine ⟨_, h, quietO_ok (sees v hv) fun X => ?_⟩
          exact op_sl_nil (op := .neq) true ho (sliceOfT_I hs).und hb
        · cases h
      · cases h
    · cases h

/-- []T{x, y, ..} that owns its block -/
def xBuildOwn (P : Program) (st : XSt) (o : Oper) (t : TypeId) (n : Nat) (parts : Array (Nat × Operand)) (K : Out → Option R) : Option R :=
  match sliceOfT P t, newName o with
  | some (e, sz, bytes), some m =>
    match tyOf P 9 e, xevals st (parts.toList.map (·.2)) with
    | some ty, some vs =>
      match decAll ty vs with
      | some l => cond (Nat.beq ty.size sz) (cond (Nat.beq vs.length n) (cond (isRange 0 (parts.toList.map (·.1))) (cond (Nat.ble (n * sz) 16777216) (cond (objsFreeB [m] st)
          (K ⟨.all, .os m ty 0 n, zipXv ty (parts.toList.map (·.2)) l, (m, .arr ty l) :: dropX m st.objs, st.live, [m], [m]⟩) none) none) none) none) none
      | none => none
    | _, _ => none
  | _, _ => none

theorem xBuildOwn_ok {o : Oper} {st : XSt} {t : TypeId} {n : Nat} {parts : Array (Nat × Operand)} {K : Out → Option R} {r : R} (ho : o.op = .buildSlice t n parts) (h : xBuildOwn P st o t n parts K = some r) : ∃ out, K out = some r ∧ OpOk P o st out := by
  unfold xBuildOwn at h
  split at h
  · rename_i e sz bytes m hsl hm
    split at h
    · rename_i ty vs hty hvs
      split at h
      · rename_i l hl
        cases h1 : Nat.beq ty.size sz with
        | false => simp [h1] at h
        | true =>
        cases h2 : Nat.beq vs.length n with
        | false => simp [h1, h2] at h
        | true =>
        cases h3 : isRange 0 (parts.toList.map (·.1)) with
        | false => simp [h1, h2, h3] at h
        | true =>
        cases h4 : Nat.ble (n * sz) 16777216 with
        | false => simp [h1, h2, h3, h4] at h
        | true =>
        cases h5 : objsFreeB [m] st with
        | false => simp [h1, h2, h3, h4, h5] at h
        | true =>
          simp only [h1, h2, h3, h4, h5, cond_true] at h
          have e1 := Nat.eq_of_beq_eq_true h1
          have e2 := Nat.eq_of_beq_eq_true h2
          have hto := decAll_sees hvs hl
          have hlen := typedOps_len hto
          have hvl := xevals_len hvs
          refine ⟨_, h, ⟨by rw [zipXv_a]; exact typedOps_sees hto, ?_, fun j z hj hz => ?_⟩⟩
          · obtain ⟨hu', i', z, hi, hs, hb, hz, hzs⟩ := sliceOfT_I hsl
            have := op_buildSlice_osl (P := P) (X := st.X) (xs := l.map ty.dv) m ho hu' hi hz hs (by simp; omega) (by
              rw [isRange_eq h3, List.range_eq_range']; congr 1
              simp at hvl hlen ⊢; omega) (by
              rw [List.all_eq_true]
              intro x hx
              obtain ⟨y, _, rfl⟩ := List.mem_map.1 hx
              simp only [dv_okSc, dv_cells, Ty.ds_length, e1, Bool.true_and, beq_self_eq_true]) (Nat.le_of_ble_eq_true h4) (newName_ge hm) (objsFreeB_ok h5)
            simp only [List.map_map] at this
            have e3 : (List.map (D.cells ∘ ty.dv) l) = l.map ty.ds := by
              apply List.map_congr_left; intro y _; exact dv_cells ty y
            rw [e3] at this
            show OpT P o _ st.X ⟨imObjs ((m, XOb.arr ty l) :: dropX m st.objs), st.live⟩ [m] _
            have e4 : imObjs ((m, XOb.arr ty l) :: dropX m st.objs) = (m, Ob.cells ((l.map ty.ds).flatten.map AV.d) none) :: (Ab.dropObj m st.X).objs := by
              show (m, XOb.o (.arr ty l)) :: imObjs (dropX m st.objs) = _
              rw [dropX_im]
              rfl
            rw [e4, zipXv_a]
            have e5 : (XV.os m ty 0 n).a = .osl m 0 n sz := by simp only [XV.a, Nat.zero_mul, e1]
            rw [e5]
            exact this
          · simp only [List.mem_cons, List.not_mem_nil, or_false] at hj
            rw [lk_cons_ne hj] at hz
            exact lk_dropX hz
      · cases h
    · cases h
  · cases h

end
end Go.Xl
/-
  []T{}: a new slice that may be appended to.
-/
set_option linter.unusedVariables false
set_option linter.unusedSimpArgs false
namespace Go.Ab

theorem op_buildSlice_empty {P : Program} {o : Oper} {X : Store} {t e : TypeId} {i : TypeInfo} (m : Nat) (ho : o.op = .buildSlice t 0 #[]) (ht : P.underlying t = some (.slice e)) (hi : P.info? e = some i)
    (hm : m ∉ X.live) (hX : objsFree [m] X = true) : OpT P o [] X ⟨X.objs, m :: X.live⟩ [m] (.tip m i.size [] (some e)) := by
  intro nm hsm B g w a hr hrd next Q hn
  unfold Oper.wp
  have hrun : (execOp a.eval o).run P w = .ok (.value (.slice (some ⟨w.heap.size, 0, none⟩) 0 0)) (w.alloc (.cells #[] e)) := by
    simp only [execOp, ho, Instr.buildSlice]
    have h0 : 0 * i.size = 0 := by omega
    have h24' : ¬ (0 > 2 ^ 24) := by omega
    have hfill' : Instr.fill (fun j => some (j * i.size, i.size)) #[] [] = some #[] := rfl
    simp only [Sem.run_bind, run_underlying ht, Result.andThen_ok, run_sizeOf hi, h0, if_true]
    simp [Array.range_zero', hfill', Go.newRow]
  rw [hrun]
  obtain ⟨h1, h2⟩ := hr.newRow #[] e 0 (Nat.le_refl _)
  have hsz : (w.alloc (.cells #[] e)).heap.size = w.heap.size + 1 := by simp
  obtain ⟨h3, h4⟩ := h1.addTip hm (some w.heap.size) hX (by
    intro b hb
    cases hb
    refine ⟨by omega, .inl hr.base, fun k ob hk he => ?_, fun n hn => ?_⟩
    · have hob := hr.objs k ob hk
      have : g.ρ k < w.heap.size := by
        cases hob with
        | cells _ _ _ _ hh => exact (Array.getElem?_eq_some_iff.1 hh).1
        | map _ _ _ hh => exact (Array.getElem?_eq_some_iff.1 hh).1
      simp only at he
      omega
    · have := hr.tiplt n _ hn
      omega)
  refine hn _ _ _ h3 (by simpa using h2.trans h4) (.tip m i.size [] (some e) _ (.nil _ _ _ (by simp)) ?_)
  intro ob hob
  simp only [upd_same, Option.some.injEq] at hob
  subst hob
  refine ⟨rfl, rfl, by show upd g.γ w.heap.size 0 w.heap.size = 0 + 0 * i.size; rw [upd_same, Nat.zero_mul], fun j h5 h6 => by simp at h5 h6, fun e' he' => ?_⟩
  cases he'
  exact ⟨rfl, _, by simp only [World.shape?, heap_alloc_new]; rfl⟩

end Go.Ab
/-
  []T{}, which may be appended to.
-/
set_option linter.unusedVariables false
set_option linter.unusedSimpArgs false
set_option linter.unnecessarySimpa false
namespace Go.Xl
open Go.Ab

section
variable (P : Program) {R : Type}

def xBuildTip (st : XSt) (o : Oper) (t : TypeId) (K : Out → Option R) : Option R :=
  match sliceOfT P t, newLab o with
  | some (e, sz, bytes), some m =>
    match tyOf P 9 e with
    | some ty => cond (Nat.beq ty.size sz) (cond (freshL m st.live st) (K ⟨.lab, .tip m ty [] (some e), [], st.objs, m :: st.live, [m], []⟩) none) none
    | none => none
  | _, _ => none

def isEmptyL {α : Type} (n : Nat) (l : List α) : Bool :=
  match n, l with
  | 0, [] => true
  | _, _ => false

variable {P}
theorem xBuildTip_ok {o : Oper} {st : XSt} {t : TypeId} {n : Nat} {parts : Array (Nat × Operand)} {K : Out → Option R} {r : R} (ho : o.op = .buildSlice t n parts) (he : isEmptyL n parts.toList = true) (h : xBuildTip P st o t K = some r) : ∃ out, K out = some r ∧ OpOk P o st out := by
  have hn : n = 0 ∧ parts = #[] := by
    unfold isEmptyL at he
    split at he
    · rename_i hp
      exact ⟨rfl, by apply Array.eq_empty_of_size_eq_zero; rw [← Array.length_toList, hp]; rfl⟩
    · cases he
  obtain ⟨rfl, rfl⟩ := hn
  unfold xBuildTip at h
  split at h
  · rename_i e sz bytes m hsl hm
    split at h
    · rename_i ty hty
      cases h1 : Nat.beq ty.size sz with
      | false => simp [h1] at h
      | true =>
      cases h3 : freshL m st.live st with
      | false => simp [h1, h3] at h
      | true =>
        simp only [h1, h3, cond_true] at h
        have e1 := Nat.eq_of_beq_eq_true h1
        subst e1
        obtain ⟨f1, f2⟩ := freshL_ok h3
        refine ⟨_, h, ⟨by simp [imRd], ⟨rfl, ?_⟩, fun _ _ _ h => h⟩⟩
        obtain ⟨hu, i, z, hi, hs, _⟩ := sliceOfT_I hsl
        have := op_buildSlice_empty (P := P) (X := st.X) m ho hu hi f1 f2
        rw [hs] at this
        exact this
    · cases h
  · cases h
end
end Go.Xl
/-
  Arrays that are written: made whole, cut to slices that own them; bytes of such slices as text.
-/
set_option linter.unusedVariables false
set_option linter.unusedSimpArgs false
namespace Go.Ab

theorem HR.reob {nm : List Nat} {B : Base} {g : Gh} {w : World} {X Y : Store} (h : HR nm B g w X) (hl : Y.live = X.live) (ho : ∀ j o, Y.objs.lookup j = some o → ∃ o', X.objs.lookup j = some o' ∧ (ObRel g w (g.ρ j) o' → ObRel g w (g.ρ j) o))
    (hk : ∀ j ∈ nm, (Y.objs.lookup j).isSome) : HR nm B g w Y := by
  refine ⟨fun j hj => ⟨(h.keep j hj).1, hk j hj⟩, h.sane, h.base, h.io, h.le, h.frame, ?_, ?_, ?_, ?_, fun n => by rw [hl]; exact h.live n, h.tipinj, ?_, h.tipnew, h.tiplt⟩
  · intro j o hj
    obtain ⟨o', h1, h2⟩ := ho j o hj
    exact h2 (h.objs j o' h1)
  · intro j o hj
    obtain ⟨o', h1, h2⟩ := ho j o hj
    exact h.objγ j o' h1
  · intro j j' o o' hj hj' he
    obtain ⟨p, h1, _⟩ := ho j o hj
    obtain ⟨p', h1', _⟩ := ho j' o' hj'
    exact h.objinj j j' p p' h1 h1' he
  · intro j o hj
    obtain ⟨o', h1, h2⟩ := ho j o hj
    exact h.objnew j o' h1
  · intro n b j o hn hj
    obtain ⟨o', h1, h2⟩ := ho j o hj
    exact h.tipobj n b j o' hn h1

section
variable {P : Program} {o : Oper} {X : Store}

/-- an array, made: its type is forgotten -/
theorem o_alloc_arr {t : TypeId} {cs : List AV} (k : Nat) (ho : o.op = .alloc t) (hz : ZeroI P t cs) (hk : X.objs.lookup k = none) (hX : objsFree [k] X = true) :
    OpT P o [] X ⟨(k, .cells cs none) :: X.objs, X.live⟩ [k] (.ptr k 0) := by
  intro nm hsm B g w a hr hrd next Q hn
  refine o_alloc k ho hz hk hX nm hsm B g w a hr hrd next Q ?_
  intro g' w' v h1 h2 h3
  refine hn g' w' v (h1.reob rfl ?_ ?_) h2 h3
  · intro j ob hj
    simp only [List.lookup_cons] at hj ⊢
    split at hj
    · cases hj
      refine ⟨_, rfl, fun h => ?_⟩
      cases h with
      | cells _ _ arr T a1 a2 a3 a4 => exact .cells _ _ arr T a1 a2 a3 (by simp)
    · exact ⟨ob, hj, id⟩
  · intro j hj
    have := (h1.keep j hj).2
    simp only [List.lookup_cons] at this ⊢
    split
    · rfl
    · rename_i he
      rw [he] at this
      exact this

/-- a[l:h], a: an array's address -/
theorem op_slice_arr {t e n sz : Nat} {x : Operand} {lo hi : Option Operand} {k : Nat} {l h : Int} {rd : List (Operand × AV)} {cs : List AV} {ty : Option TypeId} (ho : o.op = .slice t x lo hi none) (ht : ArrI P t e n sz)
    (hk : X.objs.lookup k = some (.cells cs ty)) (hn : n * sz ≤ cs.length) (h0 : 0 ≤ l) (h1 : l ≤ h) (h2 : h ≤ (n : Int))
    (hlo : match lo with | some y => ∃ j, (y, AV.d (.int j l)) ∈ rd | none => l = 0) (hhi : match hi with | some y => ∃ j, (y, AV.d (.int j h)) ∈ rd | none => h = (n : Int)) :
    OpT P o ((x, .ptr k 0) :: rd) X X [] (.osl k (l.toNat * sz) (h.toNat - l.toNat) sz) :=
  .quiet fun _ _ g w ac hr hrd => by
    have h3 := hrd (x, .ptr k 0) List.mem_cons_self
    simp only at h3
    have hx := h3.ptr_inv
    obtain ⟨hu, i, hi', hsz⟩ := ht
    obtain ⟨T, c, hsh, hc⟩ : ∃ T c, w.shape? (g.ρ k) = some (T, c) ∧ n * sz ≤ c := by
      cases hr.objs k _ hk with
      | cells _ _ arr T hb hl hc h4 => exact ⟨T, arr.size, by simp [World.shape?, hb], by omega⟩
    have key : RA g w (.osl k (l.toNat * sz) (h.toNat - l.toNat) sz) (.slice (some (if n = l.toNat then ⟨g.ρ k, 0, none⟩ else (⟨g.ρ k, 0, none⟩ : Addr).add (l.toNat * sz))) (h.toNat - l.toNat) (n - l.toNat)) := by
      refine .nm _ _ _ ?_
      by_cases hz : n = l.toNat
      · rw [if_pos hz]
        refine ⟨n - l.toNat, 0, by omega, rfl, .inl (by omega), T, c, hsh, ?_⟩
        rw [← hz, Nat.sub_self, Nat.zero_mul]; omega
      · rw [if_neg hz]
        refine ⟨n - l.toNat, l.toNat * sz, by omega, by simp [addr_add], .inr rfl, T, c, hsh, ?_⟩
        have : l.toNat * sz + (n - l.toNat) * sz = n * sz := by rw [← Nat.add_mul]; congr 1; omega
        omega
    refine ⟨_, ?_, key⟩
    simp only [execOp, ho, hx]
    have eh : ∀ y, hi = some y → ∃ j, ac.eval y = .int j h := by
      intro y hy
      subst hy
      obtain ⟨j, hj⟩ := hhi
      exact ⟨j, (hrd _ (List.mem_cons_of_mem _ hj)).sc_inv⟩
    have el : ∀ y, lo = some y → ∃ j, ac.eval y = .int j l := by
      intro y hy
      subst hy
      obtain ⟨j, hj⟩ := hlo
      exact ⟨j, (hrd _ (List.mem_cons_of_mem _ hj)).sc_inv⟩
    have bh : ∀ (y : Nat) (c : BoundsCode) (k : IntKind), h ≤ (y : Int) → (Instr.sliceBound (.int k h) y c).run P w = .ok h.toNat w := by
      intro y c k hy
      simp [Instr.sliceBound, asIntOf, show 0 ≤ h by omega, hy]
    have bl : ∀ (y : Nat) (c : BoundsCode) (k : IntKind), l ≤ (y : Int) → (Instr.sliceBound (.int k l) y c).run P w = .ok l.toNat w := by
      intro y c k hy
      simp [Instr.sliceBound, asIntOf, h0, hy]
    have hsize : (sizeOf e).run P w = .ok sz w := by rw [run_sizeOf hi', hsz]
    cases hi with
    | none =>
      simp only at hhi
      subst hhi
      have e5 : ((n : Nat) : Int).toNat = n := by omega
      cases lo with
      | none =>
        simp only at hlo
        subst hlo
        simp [Instr.sliceAt, Instr.sureAddr, Instr.sliceBounds, run_underlying hu, hsize]
      | some y =>
        obtain ⟨j, hj⟩ := el y rfl
        have b1 := bl n .sliceB j (by omega)
        simp [Instr.sliceAt, Instr.sureAddr, Instr.sliceBounds, run_underlying hu, hsize, hj, b1]
    | some y' =>
      obtain ⟨j', hj'⟩ := eh y' rfl
      have b2 := bh n .sliceAlen j' (by omega)
      have b3 := bh n .sliceAcap j' (by omega)
      cases lo with
      | none =>
        simp only at hlo
        subst hlo
        simp [Instr.sliceAt, Instr.sureAddr, Instr.sliceBounds, run_underlying hu, hsize, hj', b2, b3]
      | some y =>
        obtain ⟨j, hj⟩ := el y rfl
        have b1 := bl h.toNat .sliceB j (by omega)
        simp [Instr.sliceAt, Instr.sureAddr, Instr.sliceBounds, run_underlying hu, hsize, hj, hj', b1, b2, b3]

/-- bytes to text, run -/
theorem bytes_string_run {γ : Nat → Nat} {w : World} {s d e : TypeId} {l : List UInt8} {v : Value} (hsane : ∀ b i, i < γ b → (w.cell? ⟨b, i, none⟩).isSome) (h1 : RD γ w (.sl 1 (byteEs l)) v)
    (hs : P.underlying s = some (.slice e)) (he : P.underlying e = some (.int .u8)) (hd : P.underlying d = some .string) : (convert s d v).run P w = .ok (.string ⟨l.toArray⟩) w := by
  obtain ⟨base, cap, rfl, hle, hb, _, cells, hcl, hrun, hc⟩ := h1.slCells (P := P) hsane
  have hcells : cells = (l.map fun b => (b.toNat : Int)).map (Value.int .u8) := by
    refine List.ext_getElem? fun i => ?_
    by_cases hi : i < l.length
    · have h2 : i < cells.length := by rw [hcl, byteEs_length]; omega
      have h3 := hc i 0 [.sc (.int .u8 l[i].toNat)] (.sc (.int .u8 l[i].toNat)) cells[i] (by simp [byteEs, hi]) rfl (by simp [h2])
      have h4 : cells[i] = Value.int .u8 l[i].toNat := RA.sc_inv (g := ⟨γ, fun _ => none, fun _ => 0⟩) (w := w) (.d _ _ h3)
      simp [h2, h4, hi]
    · have h2 : ¬ i < cells.length := by rw [hcl, byteEs_length]; omega
      simp [Nat.le_of_not_lt hi, Nat.le_of_not_lt h2]
  rw [run_convert_bytes_string w s d e base (byteEs l).length cap hs he hd]
  cases base with
  | none =>
    have hl0 : l = [] := by
      have : cap = 0 := hb rfl
      have := byteEs_length l
      exact List.length_eq_zero_iff.1 (by omega)
    subst hl0
    rfl
  | some a =>
    have hl := hrun w fun _ _ _ => rfl
    have hfc : (Builtin.firstCells 1 (byteEs l).length (.slice (some a) (byteEs l).length cap)) = loadCells a ((byteEs l).length * 1) := rfl
    rw [hfc, Nat.mul_one] at hl
    rw [run_bytesToString w a _ cap (l.map fun b => (b.toNat : Int)) (by rw [hl, hcells]), foldl_push]
    simp

/-- the bytes of a slice that owns its block, as text -/
theorem op_bytes_string_osl {s d e : TypeId} {x : Operand} {k a len : Nat} {l : List UInt8} {ty : Option TypeId} (ho : o.op = .convert s d x) (hs : P.underlying s = some (.slice e)) (he : P.underlying e = some (.int .u8)) (hd : P.underlying d = some .string)
    (hk : X.objs.lookup k = some (.cells ((byteEs l).flatten.map .d) ty)) (hle : a + len ≤ l.length) :
    OpT P o [(x, .osl k (a * 1) len 1)] X X [] (.d (.bs ((l.drop a).take len))) :=
  .quiet fun _ _ g w ac hr hrd => by
    have h1 := rd0 hrd
    simp only at h1
    have h' : HR [] _ g w X := ⟨by simp, hr.sane, hr.base, hr.io, hr.le, hr.frame, hr.objs, hr.objγ, hr.objinj, hr.objnew, hr.live, hr.tipinj, hr.tipobj, hr.tipnew, hr.tiplt⟩
    obtain ⟨f1, f2, f3⟩ := h'.freeze (k := k) (sz := 1) (es := byteEs l) (by simp) hk (by
      intro i cs hc
      obtain ⟨b, _, rfl⟩ := byteEs_get hc
      rfl)
    have f4 := f3 a len _ (by simpa [byteEs_length] using hle) h1
    have e1 : ((byteEs l).drop a).take len = byteEs ((l.drop a).take len) := by simp [byteEs, List.map_take, List.map_drop]
    rw [e1] at f4
    cases f4 with
    | d _ _ f4 =>
      refine ⟨_, ?_, .ofSc _ _ _⟩
      simp only [execOp, ho]
      rw [Sem.run_bind, bytes_string_run f1.sane f4 hs he hd]
      rfl
end
end Go.Ab
/-
  Arrays that are written: made whole, cut to slices that own them; bytes of such slices as text.
-/
set_option linter.unusedVariables false
set_option linter.unusedSimpArgs false
set_option linter.unnecessarySimpa false
namespace Go.Xl
open Go.Ab
section
variable {P : Program} {R : Type}

/-- bytes, all of them 0 -/
def allZ8 : List Value → Bool
  | [] => true
  | .int .u8 (.ofNat 0) :: r => allZ8 r
  | _ :: _ => false

theorem allZ8_eq : ∀ {l : List Value}, allZ8 l = true → asOf (l.map fun v => XV.d (constX v)) = ((List.replicate l.length (0 : UInt8)).map Ty.u8.ds).flatten.map AV.d
  | [], _ => rfl
  | v :: r, h => by
    unfold allZ8 at h
    split at h
    · rename_i heq; cases heq
    · rename_i r' heq
      cases heq
      have := allZ8_eq (l := r) h
      simp only [List.map_cons, asOf, List.length_cons, List.replicate_succ, List.flatten_cons, List.map_append, this]
      rfl
    · cases h

/-- the zero value's cells -/
def zeroVs (P : Program) (t : TypeId) : Option (List Value) :=
  match P.info? t with
  | some i => match i.zero with
    | some z => some z.cells.toList
    | none => none
  | none => none

theorem zeroVs_I {t : TypeId} {l : List Value} (h : zeroVs P t = some l) : ZeroI P t (asOf (l.map fun v => XV.d (constX v))) := by
  unfold zeroVs at h
  split at h
  · rename_i i hi
    split at h
    · rename_i z hz
      cases h
      exact ⟨⟨i, z, hi, hz, zcells _⟩⟩
    · cases h
  · cases h

/-- an array of bytes that slices will own -/
def xAllocArr (P : Program) (st : XSt) (o : Oper) (t : TypeId) (K : Out → Option R) : Option R :=
  match newName o, zeroVs P t with
  | some k, some l => cond (fresh k st) (cond (allZ8 l) (K ⟨.all, .nm k (.p 0), [], (k, .arr .u8 (List.replicate l.length (0 : UInt8))) :: st.objs, st.live, [k], [k]⟩) none) none
  | _, _ => none

theorem xAllocArr_ok {o : Oper} {st : XSt} {t : TypeId} {K : Out → Option R} {r : R} (ho : o.op = .alloc t) (h : xAllocArr P st o t K = some r) : ∃ out, K out = some r ∧ OpOk P o st out := by
  unfold xAllocArr at h
  split at h
  · rename_i k l hk hz
    cases hf : fresh k st with
    | false => simp [hf] at h
    | true =>
    cases ha : allZ8 l with
    | false => simp [hf, ha] at h
    | true =>
      simp only [hf, ha, cond_true] at h
      obtain ⟨h1, h2⟩ := fresh_ok hf
      refine ⟨_, h, ⟨by simp [imRd], ?_, fun j z hj hz => ?_⟩⟩
      · have := o_alloc_arr (P := P) (X := st.X) k ho (zeroVs_I hz) (fresh_im h1) h2
        rw [allZ8_eq ha] at this
        exact this
      · rw [lk_cons_ne (by simpa using hj)] at hz; exact hz
  · cases h

def xAllocAny (P : Program) (own : Bool) (st : XSt) (o : Oper) (t : TypeId) (K : Out → Option R) : Option R :=
  cond own (xAllocArr P st o t K) (xAlloc P st o t K)

theorem xAllocAny_ok {own : Bool} {o : Oper} {st : XSt} {t : TypeId} {K : Out → Option R} {r : R} (ho : o.op = .alloc t) (h : xAllocAny P own st o t K = some r) : ∃ out, K out = some r ∧ OpOk P o st out := by
  cases own with
  | true => exact xAllocArr_ok ho h
  | false => exact xAlloc_ok ho h

/-- an array cut, by its address -/
def xSliceArr (P : Program) (st : XSt) (t : TypeId) (x : Operand) (lo hi : Option Operand) (k : Nat) (ty : Ty) (cs : List ty.T) (K : Out → Option R) : Option R :=
  match arrOfT P t with
  | some (_, n, sz) => match cutBound st 0 lo, cutBound st n hi with
    | some (l, r1), some (h, r2) => cond (Nat.beq ty.size sz) (cond (Nat.ble n cs.length) (cond (cutOk l h n)
        (K ⟨.look [k], .os k ty l.toNat (h.toNat - l.toNat), (x, .nm k (.p 0)) :: (r1 ++ r2), st.objs, st.live, [], []⟩) none) none) none
    | _, _ => none
  | none => none

theorem xSliceArr_ok {o : Oper} {st : XSt} {t : TypeId} {x : Operand} {lo hi : Option Operand} {k : Nat} {ty : Ty} {cs : List ty.T} {K : Out → Option R} {r : R} (ho : o.op = .slice t x lo hi none) (hx : xeval st x = some (.nm k (.p 0)))
    (hk : lk k st.objs = some (.arr ty cs)) (h : xSliceArr P st t x lo hi k ty cs K = some r) : ∃ out, K out = some r ∧ OpOk P o st out := by
  unfold xSliceArr at h
  split at h
  · rename_i e n sz hat
    split at h
    · rename_i l r1 hh r2 hlo hhi
      cases hb : Nat.beq ty.size sz with
      | false => simp [hb] at h
      | true =>
      cases hn : Nat.ble n cs.length with
      | false => simp [hb, hn] at h
      | true =>
      cases hc : cutOk l hh n with
      | false => simp [hb, hn, hc] at h
      | true =>
        simp only [hb, hn, hc, cond_true] at h
        have e1 := Nat.eq_of_beq_eq_true hb
        subst e1
        have hn' := Nat.le_of_ble_eq_true hn
        obtain ⟨c0, c1, c2⟩ := cutOk_iff hc
        obtain ⟨s1, m1, f1⟩ := cutBound_sees hlo
        obtain ⟨s2, m2, f2⟩ := cutBound_sees hhi
        refine ⟨_, h, ⟨sees_cutv hx s1 s2, ⟨rfl, rfl, rfl, fun X hX => ?_⟩, fun _ _ _ h => h⟩⟩
        have hkX : X.objs.lookup k = some (.cells ((cs.map ty.ds).flatten.map .d) none) := by
          rw [hX k (by simp)]; exact (by show (imObjs st.objs).lookup k = _; rw [im_objs, hk]; rfl)
        have hlen : ((cs.map ty.ds).flatten.map AV.d).length = cs.length * ty.size := by
          rw [List.length_map, flat_length (sz := ty.size) _ (by
            intro i c hc
            rw [List.getElem?_map, Option.map_eq_some_iff] at hc
            obtain ⟨z, _, rfl⟩ := hc
            exact ty.ds_length z), List.length_map]
        have := op_slice_arr (P := P) (X := X) (k := k) (rd := imRd (r1 ++ r2)) (l := l) (h := hh) ho (arrOfT_I hat) hkX (by rw [hlen]; exact Nat.mul_le_mul_right _ hn') c0 c1 c2 (by
          cases lo with
          | none => exact m1
          | some y => obtain ⟨j, hj⟩ := m1; exact ⟨j, by rw [imRd_append]; exact List.mem_append_left _ hj⟩) (by
          cases hi with
          | none => exact m2
          | some y => obtain ⟨j, hj⟩ := m2; exact ⟨j, by rw [imRd_append]; exact List.mem_append_right _ hj⟩)
        exact this
    · cases h
  · cases h

def xSliceAll (P : Program) (st : XSt) (t : TypeId) (x : Operand) (lo hi mx : Option Operand) (K : Out → Option R) : Option R :=
  match mx, xeval st x with
  | none, some (.nm k (.p 0)) => match lk k st.objs with
    | some (.arr ty cs) => xSliceArr P st t x lo hi k ty cs K
    | _ => none
  | _, _ => xSliceAny P st t x lo hi mx K

theorem xSliceAll_ok {o : Oper} {st : XSt} {t : TypeId} {x : Operand} {lo hi mx : Option Operand} {K : Out → Option R} {r : R} (ho : o.op = .slice t x lo hi mx) (h : xSliceAll P st t x lo hi mx K = some r) : ∃ out, K out = some r ∧ OpOk P o st out := by
  unfold xSliceAll at h
  split at h
  · rename_i k hx
    split at h
    · rename_i ty cs hk; exact xSliceArr_ok ho hx hk h
    · cases h
  · exact xSliceAny_ok ho h

/-- bytes to text -/
def xConvAll (P : Program) (st : XSt) (s d : TypeId) (x : Operand) (K : Out → Option R) : Option R :=
  match xeval st x with
  | some (.os k .u8 a len) => match lk k st.objs with
    | some (.arr .u8 l) => match P.underlying s, P.underlying d with
      | some (.slice e), some .string => match P.underlying e with
        | some (.int .u8) => cond (Nat.ble (a + len) l.length) (K ⟨.look [k], .d (.s ((l.drop a).take len)), [(x, .os k .u8 a len)], st.objs, st.live, [], []⟩) none
        | _ => none
      | _, _ => none
    | _ => none
  | _ => xConv P st s d x K

theorem xConvAll_ok {o : Oper} {st : XSt} {s d : TypeId} {x : Operand} {K : Out → Option R} {r : R} (ho : o.op = .convert s d x) (h : xConvAll P st s d x K = some r) : ∃ out, K out = some r ∧ OpOk P o st out := by
  unfold xConvAll at h
  split at h
  · rename_i k a len hx
    split at h
    · rename_i l hk
      split at h
      · rename_i e hs hd
        split at h
        · rename_i he
          cases hb : Nat.ble (a + len) l.length with
          | false => simp [hb] at h
          | true =>
            simp only [hb, cond_true] at h
            refine ⟨_, h, ⟨sees1v hx, ⟨rfl, rfl, rfl, fun X hX => ?_⟩, fun _ _ _ h => h⟩⟩
            exact op_bytes_string_osl ho hs he hd (by rw [hX k (by simp)]; exact (by show (imObjs st.objs).lookup k = _; rw [im_objs, hk]; rfl)) (Nat.le_of_ble_eq_true hb)
        · cases h
      · cases h
    · cases h
  · exact xConv_ok ho h
end
end Go.Xl
/-
  Pointers that may be nil, errors, unsafe pointers: what strings.Builder asks for.
-/
set_option linter.unusedVariables false
set_option linter.unusedSimpArgs false
set_option linter.unnecessarySimpa false
namespace Go.Xl
open Go.Ab Go.Lib

/-- a slice, taken apart -/
def listCase {α β : Type} (l : List α) (a : β) (f : α → List α → β) : β :=
  match l with
  | [] => a
  | y :: r => f y r

section
variable {P : Program} {R : Type}

/-- of what type a pointer is -/
def ptrElem (P : Program) (t : TypeId) : Option TypeId :=
  match P.underlying t with
  | some (.pointer e) => match P.info? e with
    | some i => cond (Nat.beq i.size 0) none (some e)
    | none => none
  | _ => none

theorem ptrElem_ok {t e : TypeId} (h : ptrElem P t = some e) : P.underlying t = some (.pointer e) ∧ ∃ i, P.info? e = some i ∧ i.size ≠ 0 := by
  unfold ptrElem at h
  split at h
  · rename_i e' ht
    split at h
    · rename_i i hi
      cases hz : Nat.beq i.size 0 with
      | true => simp [hz] at h
      | false =>
        simp only [hz, cond_false, Option.some.injEq] at h
        subst h
        exact ⟨ht, i, hi, Nat.ne_of_beq_eq_false hz⟩
    · cases h
  · cases h

/-- is a pointer nil -/
def isNilP : XV → Option Bool
  | .nm _ (.p _) => some false
  | .nm _ (.z b _) => some b
  | .el _ _ _ _ => some false
  | .d (.v (.pointer none)) => some true
  | _ => none

theorem isNilP_ok {g : Gh} {w : World} {x : XV} {b : Bool} {v : Value} (h : isNilP x = some b) (hr : RA g w x.a v) : ∃ p, v = .pointer p ∧ p.isNone = b := by
  unfold isNilP at h
  split at h
  · cases h
    simp only [XV.a] at hr
    cases hr with
    | nm _ _ _ h => exact ⟨_, h, rfl⟩
  · rename_i k b' off
    cases h
    simp only [XV.a] at hr
    cases hr with
    | nm _ _ _ h =>
      cases b with
      | true => exact ⟨_, h, rfl⟩
      | false => exact ⟨_, h, rfl⟩
  · cases h
    simp only [XV.a] at hr
    cases hr with
    | nm _ _ _ h => exact ⟨_, h, rfl⟩
  · cases h
    simp only [XV.a, XD.d] at hr
    cases hr with
    | d _ _ h => cases h; exact ⟨_, rfl, rfl⟩
  · cases h

theorem run_ptr_nil {t e : TypeId} (ht : P.underlying t = some (.pointer e)) (p : Option Addr) (w : World) : (Op.equal t (.pointer p) (.pointer none)).run P w = .ok p.isNone w := by
  have h : ∀ d : Nat, (Op.equalIn (d + 1) t (.pointer p) (.pointer none)).run P w = .ok p.isNone w := by
    intro d
    cases p <;> simp [Op.equalIn, run_underlying ht]
  exact h 9999

theorem run_ptr_nil' {t e : TypeId} (ht : P.underlying t = some (.pointer e)) (p : Option Addr) (w : World) : (Op.equal t (.pointer none) (.pointer p)).run P w = .ok p.isNone w := by
  have h : ∀ d : Nat, (Op.equalIn (d + 1) t (.pointer none) (.pointer p)).run P w = .ok p.isNone w := by
    intro d
    cases p <;> simp [Op.equalIn, run_underlying ht]
  exact h 9999

def negOp (neg : Bool) : BinOp := cond neg .neq .eql

theorem eqGuard_ptr (neg : Bool) (t : TypeId) (x y : Operand) (p q : Option Addr) : eqGuard (negOp neg) t x y (.pointer p) (.pointer q) = pure () := by
  cases neg <;> rfl

theorem op_ptr_nil {o : Oper} {X : Store} {t t' e : TypeId} {x y : Operand} {v : XV} {b : Bool} (neg : Bool) (ho : o.op = .binOp (negOp neg) t x y t') (ht : P.underlying t = some (.pointer e)) (hb : isNilP v = some b) :
    OpT P o [(x, v.a), (y, .d (.sc (.pointer none)))] X X [] (.d (.sc (.bool (cond neg (!b) b)))) :=
  .quiet fun _ _ g w ac _ hrd => by
    have h1 := rd0 hrd
    have h2 := (rd1 hrd).sc_inv
    simp only at h1 h2
    obtain ⟨p, hv, hp⟩ := isNilP_ok hb h1
    refine ⟨_, ?_, .ofSc _ _ _⟩
    simp only [execOp, ho, hv, h2]
    rw [eqGuard_ptr]
    cases neg <;> simp [negOp, binOp, run_ptr_nil ht, hp]

/-- pointers to one place -/
theorem op_ptr_same {o : Oper} {X : Store} {t t' e : TypeId} {x y : Operand} {k off : Nat} {b c : Bool} (neg : Bool) (ho : o.op = .binOp (negOp neg) t x y t') (ht : P.underlying t = some (.pointer e)) (hi : ∃ i, P.info? e = some i) (hbc : b = false ∨ c = false) :
    OpT P o [(x, .nm k (.z b off)), (y, .nm k (.z c off))] X X [] (.d (.sc (.bool (cond neg (b || c) (!(b || c)))))) :=
  .quiet fun _ _ g w ac _ hrd => by
    obtain ⟨i, hi⟩ := hi
    have h1 := rd0 hrd
    have h2 := rd1 hrd
    simp only at h1 h2
    have e1 : ac.eval x = cond b (.pointer none) (.pointer (some ⟨g.ρ k, off, none⟩)) := by cases h1 with | nm _ _ _ h => exact h
    have e2 : ac.eval y = cond c (.pointer none) (.pointer (some ⟨g.ρ k, off, none⟩)) := by cases h2 with | nm _ _ _ h => exact h
    refine ⟨_, ?_, .ofSc _ _ _⟩
    simp only [execOp, ho, e1, e2]
    have hs := fun a => run_eql_ptr_same (P := P) w (tp := t) a ht hi
    have hn := fun a => run_neq_ptr_same (P := P) w (tp := t) a ht hi
    cases b with
    | true =>
      rcases hbc with h | h
      · cases h
      · subst h
        simp only [cond_true, cond_false]
        rw [eqGuard_ptr]
        cases neg <;> simp [negOp, binOp, run_ptr_nil' ht]
    | false =>
      cases c with
      | true =>
        simp only [cond_true, cond_false]
        rw [eqGuard_ptr]
        cases neg <;> simp [negOp, binOp, run_ptr_nil ht]
      | false =>
        simp only [cond_false]
        rw [eqGuard_ptr]
        cases neg with
        | true => simp [negOp, hn]
        | false => simp [negOp, hs]

/-- a pointer to an object: is it nil, the object, the place -/
def ptrV : XV → Option (Bool × Nat × Nat)
  | .nm k (.p off) => some (false, k, off)
  | .nm k (.z b off) => some (b, k, off)
  | _ => none

theorem ptrV_le {x : XV} {b : Bool} {k off : Nat} (h : ptrV x = some (b, k, off)) : ALe x.a (.nm k (.z b off)) := by
  unfold ptrV at h
  split at h
  · cases h
    intro g w v hr
    simp only [XV.a] at hr
    cases hr with
    | nm _ _ _ h => exact .nm _ _ _ h
  · cases h
    exact .refl _
  · cases h

/-- an interface against nil -/
def isNilI : XV → Option Bool
  | .d (.er b) => some (!b)
  | .d (.v .nilIface) => some true
  | _ => none

theorem isNilI_ok {g : Gh} {w : World} {x : XV} {b : Bool} {v : Value} (h : isNilI x = some b) (hr : RA g w x.a v) : (b = true → v = .nilIface) ∧ (b = false → ∃ t u, v = .iface t u) := by
  unfold isNilI at h
  split at h
  · rename_i c
    simp only [Option.some.injEq] at h
    subst h
    simp only [XV.a, XD.d] at hr
    cases c with
    | true =>
      cases hr with
      | d _ _ h =>
        cases h with
        | any _ _ h1 h2 => exact ⟨by simp, fun _ => h1⟩
    | false =>
      cases hr with
      | d _ _ h =>
        cases h
        exact ⟨fun _ => rfl, by simp⟩
  · cases h
    simp only [XV.a, XD.d] at hr
    cases hr with
    | d _ _ h => cases h; exact ⟨fun _ => rfl, by simp⟩
  · cases h

theorem run_if_nil {t : TypeId} {ms : Array (String × TypeId)} (ht : P.underlying t = some (.interface ms)) {v : Value} {b : Bool} (hv : (b = true → v = .nilIface) ∧ (b = false → ∃ t u, v = .iface t u)) (w : World) : (Op.equal t v .nilIface).run P w = .ok b w := by
  have h : ∀ d : Nat, (Op.equalIn (d + 1) t v .nilIface).run P w = .ok b w := by
    intro d
    cases b with
    | true => rw [hv.1 rfl]; simp [Op.equalIn, run_underlying ht]
    | false =>
      obtain ⟨t', u, rfl⟩ := hv.2 rfl
      simp [Op.equalIn, run_underlying ht]
  exact h 9999

theorem eqGuard_if (neg : Bool) (t : TypeId) (x : Operand) (c : Value) (v : Value) {b : Bool} (hv : (b = true → v = .nilIface) ∧ (b = false → ∃ t u, v = .iface t u)) : eqGuard (negOp neg) t x (.const c) v .nilIface = pure () := by
  cases b with
  | true => rw [hv.1 rfl]; cases neg <;> cases x <;> rfl
  | false => obtain ⟨t', u, rfl⟩ := hv.2 rfl; cases neg <;> rfl

theorem op_if_nil {o : Oper} {X : Store} {t t' : TypeId} {ms : Array (String × TypeId)} {x : Operand} {c : Value} {v : XV} {b : Bool} (neg : Bool) (ho : o.op = .binOp (negOp neg) t x (.const c) t') (ht : P.underlying t = some (.interface ms)) (hb : isNilI v = some b) :
    OpT P o [(x, v.a), (.const c, .d (.sc .nilIface))] X X [] (.d (.sc (.bool (cond neg (!b) b)))) :=
  .quiet fun _ _ g w ac _ hrd => by
    have h1 := rd0 hrd
    have h2 := (rd1 hrd).sc_inv
    simp only at h1 h2
    have hv := isNilI_ok hb h1
    refine ⟨_, ?_, .ofSc _ _ _⟩
    simp only [execOp, ho, h2]
    rw [eqGuard_if neg t x c _ hv]
    cases neg <;> simp [negOp, binOp, run_if_nil ht hv]

def negOf : BinOp → Option Bool
  | .eql => some false
  | .neq => some true
  | _ => none

theorem negOf_eq {op : BinOp} {neg : Bool} (h : negOf op = some neg) : op = negOp neg := by
  unfold negOf at h
  split at h
  · cases h; rfl
  · cases h; rfl
  · cases h

inductive NilK where
  | ptr
  | iface
  | none

def nilK : Operand → NilK
  | .const (.pointer none) => .ptr
  | .const .nilIface => .iface
  | _ => .none

def orF (b c : Bool) : Bool := cond b true c

/-- binary operations, pointers and errors too -/
def xBinP (P : Program) (st : XSt) (op : BinOp) (t : TypeId) (x y : Operand) (K : Out → Option R) : Option R :=
  match nilK y with
  | .ptr => match negOf op, ptrElem P t, xeval st x with
    | some neg, some _, some v => match isNilP v with
      | some b => K (quietO st (.d (.b (cond neg (!b) b))) [(x, v), (y, .d (.v (.pointer none)))])
      | none => none
    | _, _, _ => none
  | .iface => match negOf op, P.underlying t, xeval st x with
    | some neg, some (.interface _), some v => match isNilI v with
      | some b => K (quietO st (.d (.b (cond neg (!b) b))) [(x, v), (y, .d (.v .nilIface))])
      | none => none
    | _, _, _ => none
  | .none => match negOf op, ptrElem P t with
    | some neg, some _ => match xeval st x, xeval st y with
      | some v, some u => match ptrV v, ptrV u with
        | some (b, k, off), some (c, k', off') => cond (Nat.beq k k') (cond (Nat.beq off off') (cond b (cond c none
            (K (quietO st (.d (.b (cond neg true false))) [(x, .nm k (.z true off)), (y, .nm k (.z false off))])))
            (K (quietO st (.d (.b (cond neg c (!c)))) [(x, .nm k (.z false off)), (y, .nm k (.z c off))]))) none) none
        | _, _ => none
      | _, _ => none
    | _, _ => xBinAny P st op t x y K

theorem xeval_le {st : XSt} {x : Operand} {v y : XV} (h : xeval st x = some v) (hle : ALe v.a y.a) (hnc : ptrV v ≠ none) : Sees st.im x y.a := by
  cases x with
  | tmp t => exact .tmp t _ (xeval_tmp h).1 (lk_has (xeval_tmp h).2 hle)
  | const u =>
    simp only [xeval, Option.some.injEq] at h
    subst h
    simp [ptrV] at hnc
  | func f =>
    simp only [xeval, Option.some.injEq] at h
    subst h
    simp [ptrV] at hnc
  | global k => exact .glob k _ (lk_has h hle)

theorem xBinP_ok {o : Oper} {st : XSt} {op : BinOp} {t t' : TypeId} {x y : Operand} {K : Out → Option R} {r : R} (ho : o.op = .binOp op t x y t') (h : xBinP P st op t x y K = some r) : ∃ out, K out = some r ∧ OpOk P o st out := by
  unfold xBinP at h
  have seesN : ∀ (c : Value), y = .const c → ∀ v, xeval st x = some v → ∀ p ∈ imRd [(x, v), (y, XV.d (.v c))], Sees st.im p.1 p.2 := by
    intro c hy v hv p hp
    simp only [imRd, List.map_cons, List.map_nil, List.mem_cons, List.not_mem_nil, or_false] at hp
    rcases hp with rfl | rfl
    · exact xeval_sees hv
    · rw [hy]; exact .const _ _ fun _ _ => .sc _
  split at h
  · rename_i hy
    have hy : y = .const (.pointer none) := by
      unfold nilK at hy
      split at hy <;> first | rfl | cases hy
    split at h
    · rename_i neg e v hn he hv
      split at h
      · rename_i b hb
        have := negOf_eq hn
        subst this
        exact ⟨_, h, quietO_ok (seesN _ hy v hv) fun X => op_ptr_nil neg ho (ptrElem_ok he).1 hb⟩
      · cases h
    · cases h
  · rename_i hy
    have hy : y = .const .nilIface := by
      unfold nilK at hy
      split at hy <;> first | rfl | cases hy
    split at h
    · rename_i neg ms v hn he hv
      split at h
      · rename_i b hb
        have := negOf_eq hn
        subst this
        subst hy
        exact ⟨_, h, quietO_ok (seesN _ rfl v hv) fun X => op_if_nil neg ho he hb⟩
      · cases h
    · cases h
  · split at h
    · rename_i neg e hn he
      split at h
      · rename_i v u hv hu
        split at h
        · rename_i b k off c k' off' hpv hpu
          cases h1 : Nat.beq k k' with
          | false => simp [h1] at h
          | true =>
          cases h2 : Nat.beq off off' with
          | false => simp [h1, h2] at h
          | true =>
            have e1 := Nat.eq_of_beq_eq_true h1
            have e2 := Nat.eq_of_beq_eq_true h2
            subst e1; subst e2
            have := negOf_eq hn
            subst this
            obtain ⟨ht, i, hi, _⟩ := ptrElem_ok he
            have sees : ∀ p ∈ imRd [(x, XV.nm k (.z b off)), (y, XV.nm k (.z c off))], Sees st.im p.1 p.2 := by
              intro p hp
              simp only [imRd, List.map_cons, List.map_nil, List.mem_cons, List.not_mem_nil, or_false] at hp
              rcases hp with rfl | rfl
              · exact xeval_le hv (ptrV_le hpv) (by rw [hpv]; simp)
              · exact xeval_le hu (ptrV_le hpu) (by rw [hpu]; simp)
            cases b with
            | true =>
              cases c with
              | true => simp [h1, h2] at h
              | false =>
                simp only [h1, h2, cond_true, cond_false] at h
                refine ⟨_, h, quietO_ok sees fun X => ?_⟩
                have := op_ptr_same (X := X) neg ho ht ⟨i, hi⟩ (k := k) (off := off) (b := true) (c := false) (.inr rfl)
                simp only [Bool.true_or, Bool.not_true] at this
                exact this
            | false =>
              simp only [h1, h2, cond_true, cond_false] at h
              refine ⟨_, h, quietO_ok sees fun X => ?_⟩
              have := op_ptr_same (X := X) neg ho ht ⟨i, hi⟩ (k := k) (off := off) (b := false) (c := c) (.inl rfl)
              simp only [Bool.false_or] at this
              exact this
        · cases h
      · cases h
    · exact xBinAny_ok ho h

/-- conversions, unsafe pointers too -/
def xConvP (P : Program) (st : XSt) (s d : TypeId) (x : Operand) (K : Out → Option R) : Option R :=
  match xeval st x with
  | some (.nm k (.p off)) => match lk k st.objs with
    | some (.cells cs (some T)) => match P.underlying d with
      | some .unsafePointer => match ptrElem P s with
        | some t => cond (Nat.ble (off + 1) cs.length) (K ⟨.look [k], .nm k (.p off), [(x, .nm k (.p off))], st.objs, st.live, [], []⟩) none
        | none => none
      | _ => match P.underlying s, ptrElem P d with
        | some .unsafePointer, some t => cond (Nat.beq t T) (cond (Nat.beq off 0) (cond (Nat.beq (P.cellsOf T) cs.length) (cond (Nat.beq cs.length 0) none (K ⟨.look [k], .nm k (.p 0), [(x, .nm k (.p 0))], st.objs, st.live, [], []⟩)) none) none) none
        | _, _ => none
    | _ => none
  | _ => xConvAll P st s d x K

theorem xConvP_ok {o : Oper} {st : XSt} {s d : TypeId} {x : Operand} {K : Out → Option R} {r : R} (ho : o.op = .convert s d x) (h : xConvP P st s d x K = some r) : ∃ out, K out = some r ∧ OpOk P o st out := by
  unfold xConvP at h
  split at h
  · rename_i k off hx
    split at h
    · rename_i cs T hk
      have hlk : st.X.objs.lookup k = some (.cells (asOf cs) (some T)) := by show (imObjs st.objs).lookup k = _; rw [im_objs, hk]; rfl
      split at h
      · rename_i hd
        split at h
        · rename_i t ht
          cases hb : Nat.ble (off + 1) cs.length with
          | false => simp [hb] at h
          | true =>
            simp only [hb, cond_true] at h
            obtain ⟨h1, h2⟩ := ptrElem_ok ht
            refine ⟨_, h, ⟨sees1v hx, ⟨rfl, rfl, rfl, fun X hX => ?_⟩, fun _ _ _ h => h⟩⟩
            exact op_to_unsafe' ho (by rw [hX k (by simp)]; exact hlk) (by rw [asOf_length]; exact Nat.le_of_ble_eq_true hb) h1 hd h2
        · cases h
      · split at h
        · rename_i t hs ht
          cases h1 : Nat.beq t T with
          | false => simp [h1] at h
          | true =>
          cases h2 : Nat.beq off 0 with
          | false => simp [h1, h2] at h
          | true =>
          cases h3 : Nat.beq (P.cellsOf T) cs.length with
          | false => simp [h1, h2, h3] at h
          | true =>
          cases h4 : Nat.beq cs.length 0 with
          | true => simp [h1, h2, h3, h4] at h
          | false =>
            simp only [h1, h2, h3, h4, cond_true, cond_false] at h
            have e1 := Nat.eq_of_beq_eq_true h1
            have e2 := Nat.eq_of_beq_eq_true h2
            subst e1; subst e2
            obtain ⟨g1, g2⟩ := ptrElem_ok ht
            refine ⟨_, h, ⟨sees1v hx, ⟨rfl, rfl, rfl, fun X hX => ?_⟩, fun _ _ _ h => h⟩⟩
            exact op_from_unsafe' ho (by rw [hX k (by simp)]; exact hlk) hs g1 g2 (by rw [asOf_length]; exact Nat.eq_of_beq_eq_true h3) (by rw [asOf_length]; exact Nat.ne_of_beq_eq_false h4)
        · cases h
    · cases h
  · exact xConvAll_ok ho h

/-! unsafe.SliceData, unsafe.String -/

/-- a slice that is appended to, empty: some pointer -/
theorem op_sliceData_empty {o : Oper} {X : Store} {ts : Array TypeId} {x : Operand} {n e e' : Nat} (ho : o.op = .call { callee := .builtin .unsafeSliceData, args := #[x], argTypes := ts }) (hn : n ∈ X.live) (ht : P.underlying o.type = some (.pointer e')) :
    OpT P o [(x, .tip n 1 [] (some e))] X X [] (.d (.any isPtrV)) := by
  intro nm hsm B g w a hr hrd next Q hnext
  have h1 := rd0 hrd
  simp only at h1
  obtain ⟨ob, hob⟩ := Option.isSome_iff_exists.1 ((hr.live n).1 hn)
  have done : ∀ p w', (execOp a.eval o).run P w = .ok (.value (.pointer p)) w' → HR nm B g w' X → Trans [] g w g w' → o.wp P a w next Q := by
    intro p w' hrun h2 h3
    unfold Oper.wp
    rw [hrun]
    exact hnext g w' _ h2 h3 (.d _ _ (.any _ _ ⟨p, rfl⟩ rfl))
  generalize hv : a.eval x = v at h1
  cases h1 with
  | tip _ _ _ _ _ h1 h2 =>
    have hsl : ∃ ad len cap, v = .slice ad len cap := by
      generalize hE : ([] : List (List D)) = E at h1
      cases h1 with
      | nil => exact ⟨_, _, _, rfl⟩
      | sl => exact ⟨_, _, _, rfl⟩
    obtain ⟨ad, len, cap, rfl⟩ := hsl
    cases ad with
    | none =>
      refine done none w ?_ hr (.refl _ _ _)
      simp [execOp, ho, resolve, hv, invoke, builtin, run_unsafeSliceData_nil]
    | some ad =>
      obtain ⟨_, _, _, _, h5⟩ := h2 ob hob
      obtain ⟨_, c, h6⟩ := h5 e rfl
      by_cases hc : cap = 0
      · subst hc
        have hg := hr.grow (w' := w.alloc (.view ad e')) (by simp) (fun b hb => heap_old w _ hb) ⟨rfl, rfl, rfl, Nat.le_refl _⟩
        refine done (some ⟨w.heap.size, 0, none⟩) _ ?_ hg.1 hg.2
        simp [execOp, ho, resolve, hv, invoke, builtin, run_unsafeSliceData_zero w ts o.type e' ht ad len _ h6]
      · refine done (some ad) w ?_ hr (.refl _ _ _)
        simp [execOp, ho, resolve, hv, invoke, builtin, run_unsafeSliceData_row w _ _ _ _ _ hc]

theorem run_unsafeString_any (w : World) {pt it ty e : TypeId} (hp : P.underlying pt = some (.pointer e)) (p : Option Addr) : (Builtin.unsafeString_ #[pt, it] ty #[.pointer p, .int .i64 0]).run P w = .ok (.string .empty) w := by
  cases p with
  | none => rfl
  | some a => rfl

theorem op_string_any {o : Oper} {X : Store} {x y : Operand} {pt it e : TypeId} (ho : o.op = .call { callee := .builtin .unsafeString, args := #[x, y], argTypes := #[pt, it] }) (hp : P.underlying pt = some (.pointer e)) :
    OpT P o [(x, .d (.any isPtrV)), (y, .d (.sc (.int .i64 0)))] X X [] (.d (.sc (.string .empty))) :=
  .quiet fun _ _ g w ac hr hrd => by
    have h1 := rd0 hrd
    have h2 := (rd1 hrd).sc_inv
    simp only at h1 h2
    have h3 : ∃ p, ac.eval x = .pointer p := by
      cases h1 with
      | d _ _ h => cases h with
        | any _ _ h _ => exact h
    obtain ⟨p, h3⟩ := h3
    refine ⟨.string .empty, ?_, .ofSc _ _ _⟩
    simp [execOp, ho, resolve, h3, h2, invoke, builtin, run_unsafeString_any w hp]

def xSliceData (P : Program) (st : XSt) (o : Oper) (x : Operand) (K : Out → Option R) : Option R :=
  match xeval st x with
  | some (.tip n .u8 l (some e)) => listCase l
      (match P.underlying o.type with
      | some (.pointer _) => cond (inl n st.live) (K ⟨.lab, .d .pp, [(x, .tip n .u8 [] (some e))], st.objs, st.live, [], []⟩) none
      | _ => none)
      fun a r => K (quietO st (.tpt n e a r) [(x, .tip n .u8 (a :: r) (some e))])
  | some (.d (.v (.slice none 0 0))) => K (quietO st (.d (.v (.pointer none))) [(x, .d (.v (.slice none 0 0)))])
  | _ => none

theorem xSliceData_ok {o : Oper} {st : XSt} {ts : Array TypeId} {x : Operand} {K : Out → Option R} {r : R} (ho : o.op = .call { callee := .builtin .unsafeSliceData, args := #[x], argTypes := ts }) (h : xSliceData P st o x K = some r) : ∃ out, K out = some r ∧ OpOk P o st out := by
  unfold xSliceData at h
  split at h
  · rename_i n l e hx
    cases l with
    | nil =>
      simp only [listCase] at h
      split at h
      · rename_i e' he
        cases hb : inl n st.live with
        | false => simp [hb] at h
        | true =>
          simp only [hb, cond_true] at h
          refine ⟨_, h, ⟨sees1v hx, ⟨rfl, ?_⟩, fun _ _ _ h => h⟩⟩
          exact op_sliceData_empty ho ((inl_eq _ _).1 hb) he
      · cases h
    | cons a l =>
      simp only [listCase] at h
      exact ⟨_, h, quietO_ok (sees1v hx) fun X => op_sliceData (l := a :: l) ho (by simp)⟩
  · rename_i hx
    exact ⟨_, h, quietO_ok (sees1v hx) fun X => op_sliceData_nil ho⟩
  · cases h

def xUnsafeString (P : Program) (st : XSt) (ts : Array TypeId) (x y : Operand) (K : Out → Option R) : Option R :=
  match ts.toList with
  | [pt, it] => match P.underlying pt with
    | some (.pointer e') => match xeval st x, xd st y with
      | some (.tpt n e a l), some (.i .i64 m) => cond (m == (((a :: l).length : Nat) : Int)) (cond (inl n st.live) (cond (Nat.beq e' e) (cond (Nat.beq (P.cellsOf e) 1) (cond (decide ((a :: l).length ≤ 9223372036854775807))
          (K ⟨.lab, .d (.s (a :: l)), [(x, .tpt n e a l), (y, .d (.i .i64 m))], st.objs, without n st.live, [], []⟩) none) none) none) none) none
      | some (.d .pp), some (.i .i64 m) => cond (m == 0) (K (quietO st (.d (.s [])) [(x, .d .pp), (y, .d (.i .i64 m))])) none
      | some (.d (.v (.pointer none))), some (.i .i64 m) => cond (m == 0) (K (quietO st (.d (.s [])) [(x, .d (.v (.pointer none))), (y, .d (.i .i64 m))])) none
      | _, _ => none
    | _ => none
  | _ => none

theorem sees2w {st : XSt} {x y : Operand} {v : XV} {b : XD} (h : xeval st x = some v) (h' : xd st y = some b) : ∀ p ∈ imRd [(x, v), (y, .d b)], Sees st.im p.1 p.2 := by
  intro p hp
  simp only [imRd, List.map_cons, List.map_nil, List.mem_cons, List.not_mem_nil, or_false] at hp
  rcases hp with rfl | rfl
  · exact xeval_sees h
  · exact xd_at h'

theorem xUnsafeString_ok {o : Oper} {st : XSt} {ts : Array TypeId} {x y : Operand} {K : Out → Option R} {r : R} (ho : o.op = .call { callee := .builtin .unsafeString, args := #[x, y], argTypes := ts }) (h : xUnsafeString P st ts x y K = some r) : ∃ out, K out = some r ∧ OpOk P o st out := by
  unfold xUnsafeString at h
  split at h
  · rename_i pt it hts
    have : ts = #[pt, it] := Array.toList_inj.1 hts
    subst this
    split at h
    · rename_i e' hp
      split at h
      · rename_i n e a l m hx hy
        cases h1 : (m == (((a :: l).length : Nat) : Int)) with
        | false => simp only [h1, cond_false] at h; cases h
        | true =>
        cases h2 : inl n st.live with
        | false => simp [h1, h2] at h
        | true =>
        cases h3 : Nat.beq e' e with
        | false => simp [h1, h2, h3] at h
        | true =>
        cases h4 : Nat.beq (P.cellsOf e) 1 with
        | false => simp [h1, h2, h3, h4] at h
        | true =>
        cases h5 : decide ((a :: l).length ≤ 9223372036854775807) with
        | false => simp only [h1, h2, h3, h4, h5, cond_true, cond_false] at h; cases h
        | true =>
          simp only [h1, h2, h3, h4, h5, cond_true] at h
          have e1 := Nat.eq_of_beq_eq_true h3
          subst e1
          have hm := eq_of_beq h1
          subst hm
          refine ⟨_, h, ⟨sees2w hx hy, ⟨rfl, ?_⟩, fun _ _ _ h => h⟩⟩
          exact op_string (l := a :: l) ho ((inl_eq _ _).1 h2) (by simp) hp (Nat.eq_of_beq_eq_true h4) (of_decide_eq_true h5)
      · rename_i m hx hy
        cases h1 : (m == 0) with
        | false => simp [h1] at h
        | true =>
          simp only [h1, cond_true] at h
          have hm := eq_of_beq h1
          subst hm
          exact ⟨_, h, quietO_ok (sees2w hx hy) fun X => op_string_any ho hp⟩
      · rename_i m hx hy
        cases h1 : (m == 0) with
        | false => simp [h1] at h
        | true =>
          simp only [h1, cond_true] at h
          have hm := eq_of_beq h1
          subst hm
          exact ⟨_, h, quietO_ok (sees2w hx hy) fun X => op_string_nil ho⟩
      · cases h
    · cases h
  · cases h

end
end Go.Xl
/-
  The interpreter: regions, code, loops; what it says holds of the program.
-/
set_option linter.unusedVariables false
set_option linter.unusedSimpArgs false
set_option linter.unnecessarySimpa false
namespace Go.Xl
open Go.Ab

/-- what is known of a function that is called -/
structure Ent (P : Program) where
  id : FuncId
  run : {R : Type} → Oper → XSt → List XV → (Out → Option R) → Option R
  ok : ∀ {R : Type} (o : Oper) (st : XSt) (args : Array Operand) (ts : Array TypeId) (vs : List XV) (K : Out → Option R) (r : R),
    o.op = .call { callee := .value (.func id), args := args, argTypes := ts } → xevals st args.toList = some vs → run o st vs K = some r → ∃ out, K out = some r ∧ OpOk P o st out
  /-- called by way of a value, with what was captured -/
  crun : {R : Type} → Oper → XSt → List XV → List XV → (Out → Option R) → Option R := fun _ _ _ _ _ => none
  cok : ∀ {R : Type} (o : Oper) (st : XSt) (t : Tmp) (caps : List XV) (args : Array Operand) (ts : Array TypeId) (vs : List XV) (K : Out → Option R) (r : R),
    o.op = .call { callee := .value (.tmp t), args := args, argTypes := ts } → xeval st (.tmp t) = some (.clo id caps) → xevals st args.toList = some vs → crun o st caps vs K = some r → ∃ out, K out = some r ∧ OpOk P o st out := by
    intros; contradiction

def entOf {P : Program} (f : FuncId) : List (Ent P) → Option (Ent P)
  | [] => none
  | e :: r => cond (Nat.beq e.id f) (some e) (entOf f r)

theorem entOf_id {P : Program} {f : FuncId} : ∀ {l : List (Ent P)} {e : Ent P}, entOf f l = some e → e.id = f
  | [], e, h => by cases h
  | a :: r, e, h => by
    simp only [entOf] at h
    cases hb : Nat.beq a.id f with
    | true => simp only [hb, cond_true, Option.some.injEq] at h; subst h; exact Nat.eq_of_beq_eq_true hb
    | false => simp only [hb, cond_false] at h; exact entOf_id h

/-- the same call, by the function's name -/
def calleeTo (f : FuncId) (o : Oper) : Oper :=
  match o.op with
  | .call c => { o with op := .call { c with callee := .value (.func f) } }
  | _ => o

def Out.addRd (out : Out) (p : Operand × XV) : Out := { out with rd := p :: out.rd }

theorem opT_callee {P : Program} {o : Oper} {c : Operand} {f : FuncId} {args : Array Operand} {ts : Array TypeId} {rd : List (Operand × AV)} {X X' : Store} {F : List Nat} {res : AV}
    (ho : o.op = .call { callee := .value c, args := args, argTypes := ts }) (h : OpT P (calleeTo f o) rd X X' F res) : OpT P o ((c, .clo f []) :: rd) X X' F res := by
  intro nm hsm B g w a hr hrd next Q hn
  have e1 := hrd _ (List.mem_cons_self ..)
  simp only at e1
  have hc : a.eval c = .func (.func f) #[] #[] := by
    generalize a.eval c = vc at e1
    cases e1 with
    | clo _ _ vs hlen hvs =>
      have : vs = #[] := by
        apply Array.eq_empty_of_size_eq_zero
        simpa using hlen.symm
      rw [this]
  have hd : (calleeTo f o).dst = o.dst := by unfold calleeTo; rw [ho]
  have h1 := h nm hsm B g w a hr (fun p hp => hrd p (List.mem_cons_of_mem _ hp)) next Q (by rw [hd]; exact hn)
  unfold Oper.wp at h1 ⊢
  have e : execOp a.eval (calleeTo f o) = execOp a.eval o := by
    unfold calleeTo
    simp only [ho, execOp, resolve]
    simp only [hc]
    rfl
  rw [e] at h1
  unfold Oper.upon at h1 ⊢
  rw [hd] at h1
  exact h1

theorem OpOk.callee {P : Program} {o : Oper} {st : XSt} {out : Out} {t : Tmp} {f : FuncId} {args : Array Operand} {ts : Array TypeId} (ho : o.op = .call { callee := .value (.tmp t), args := args, argTypes := ts })
    (hs : xeval st (.tmp t) = some (.clo f [])) (h : OpOk P (calleeTo f o) st out) : OpOk P o st (out.addRd (.tmp t, .clo f [])) := by
  refine ⟨?_, ?_, h.ol⟩
  · intro p hp
    simp only [Out.addRd, imRd, List.map_cons, List.mem_cons] at hp
    rcases hp with rfl | hp
    · exact xeval_sees (x := .tmp t) hs
    · exact h.sees p hp
  · have := h.op
    have e : imRd (out.addRd (.tmp t, .clo f [])).rd = (.tmp t, .clo f []) :: imRd out.rd := rfl
    show match out.eff with | .none => _ | .look ks => _ | .put k c => _ | .all => _ | .lab => _
    cases he : out.eff with
    | none => rw [he] at this; exact ⟨this.1, this.2.1, this.2.2.1, fun X => opT_callee ho (this.2.2.2 X)⟩
    | look ks => rw [he] at this; exact ⟨this.1, this.2.1, this.2.2.1, fun X hX => opT_callee ho (this.2.2.2 X hX)⟩
    | put k c => rw [he] at this; exact ⟨this.1, this.2.1, this.2.2.1, fun X hX => opT_callee ho (this.2.2.2 X hX)⟩
    | all => rw [he] at this; exact opT_callee ho this
    | lab => rw [he] at this; exact ⟨this.1, opT_callee ho this.2⟩

section
variable (P : Program) (Γ : List (Ent P)) (own : List Nat) {R : Type}

/-- is an append one on a slice that owns its block -/
def ownOp (own : List Nat) (o : Oper) : Bool :=
  match o.dst with
  | some d => inl d own
  | none => false

def xCall (o : Oper) (st : XSt) (c : Call) (K : Out → Option R) : Option R :=
  match c.callee with
  | .builtin .len => match c.args.toList with
    | [x] => xLenAny P st c.argTypes x K
    | _ => none
  | .builtin .min => match c.args.toList with
    | [x, y] => xMinMax st true x y K
    | _ => none
  | .builtin .max => match c.args.toList with
    | [x, y] => xMinMax st false x y K
    | _ => none
  | .builtin .append => match c.args.toList with
    | [x, y] => cond (ownOp own o) (xAppOwn P st o c.argTypes x y K) (xAppend P st o c.argTypes x y K)
    | _ => none
  | .builtin .clear => match c.args.toList with
    | [x] => xClear P st c.argTypes x K
    | _ => none
  | .builtin .unsafeSliceData => match c.args.toList with
    | [x] => xSliceData P st o x K
    | _ => none
  | .builtin .unsafeString => match c.args.toList with
    | [x, y] => xUnsafeString P st c.argTypes x y K
    | _ => none
  | .value (.func f) => match entOf f Γ, xevals st c.args.toList with
    | some e, some vs => e.run o st vs K
    | _, _ => none
  | .value (.tmp t) => match xeval st (.tmp t) with
    | some (.clo f caps) => match entOf f Γ, xevals st c.args.toList with
      | some e, some vs => match caps with
        | [] => e.run (calleeTo f o) st vs fun out => K (out.addRd (.tmp t, .clo f []))
        | x :: r => e.crun o st (x :: r) vs K
      | _, _ => none
    | _ => none
  | _ => none

theorem args_eq {c : Call} {l : List Operand} (h : c.args.toList = l) : c.args = l.toArray := by
  rw [← h]

theorem xCall_ok {o : Oper} {st : XSt} {c : Call} {K : Out → Option R} {r : R} (ho : o.op = .call c) (h : xCall P Γ own o st c K = some r) : ∃ out, K out = some r ∧ OpOk P o st out := by
  obtain ⟨cal, args, ts⟩ := c
  unfold xCall at h
  simp only at h
  split at h
  · split at h
    · rename_i x hl
      have := args_eq (c := ⟨.builtin .len, args, ts⟩) hl
      simp only at this
      subst this
      exact xLenAny_ok ho h
    · cases h
  · split at h
    · rename_i x y hl
      have := args_eq (c := ⟨.builtin .len, args, ts⟩) hl
      simp only at this
      subst this
      exact xMin_ok ho h
    · cases h
  · split at h
    · rename_i x y hl
      have := args_eq (c := ⟨.builtin .len, args, ts⟩) hl
      simp only at this
      subst this
      exact xMax_ok ho h
    · cases h
  · split at h
    · rename_i x y hl
      have := args_eq (c := ⟨.builtin .len, args, ts⟩) hl
      simp only at this
      subst this
      cases hw : ownOp own o with
      | true => simp only [hw, cond_true] at h; exact xAppOwn_ok ho h
      | false => simp only [hw, cond_false] at h; exact xAppend_ok ho h
    · cases h
  · split at h
    · rename_i x hl
      have := args_eq (c := ⟨.builtin .len, args, ts⟩) hl
      simp only at this
      subst this
      exact xClear_ok ho h
    · cases h
  · split at h
    · rename_i x hl
      have := args_eq (c := ⟨.builtin .len, args, ts⟩) hl
      simp only at this
      subst this
      exact xSliceData_ok ho h
    · cases h
  · split at h
    · rename_i x y hl
      have := args_eq (c := ⟨.builtin .len, args, ts⟩) hl
      simp only at this
      subst this
      exact xUnsafeString_ok ho h
    · cases h
  · rename_i f
    split at h
    · rename_i e vs he hvs
      have := entOf_id he
      subst this
      exact e.ok o st args ts vs K r ho hvs h
    · cases h
  · rename_i t
    split at h
    · rename_i f caps hclo
      split at h
      · rename_i e vs he hvs
        have := entOf_id he
        subst this
        split at h
        · obtain ⟨out, h1, h2⟩ := e.ok (calleeTo e.id o) st args ts vs _ r (by unfold calleeTo; rw [ho]) hvs h
          exact ⟨_, h1, h2.callee ho hclo⟩
        · exact e.cok o st t _ args ts vs K r ho hclo hvs h
      · cases h
    · cases h
  · cases h

/-- a function value, with what it captures -/
def xMakeFunc (o : Oper) (st : XSt) (f : FuncId) (first caps : Array Operand) (K : Out → Option R) : Option R :=
  match first.toList with
  | [] => match xevals st caps.toList with
    | some vs => K (quietO st (.clo f vs) (caps.toList.zip vs))
    | none => none
  | _ => none

theorem xMakeFunc_ok {o : Oper} {st : XSt} {f : FuncId} {first caps : Array Operand} {K : Out → Option R} {r : R} (ho : o.op = .makeFunc (.func f) first caps) (h : xMakeFunc o st f first caps K = some r) : ∃ out, K out = some r ∧ OpOk P o st out := by
  unfold xMakeFunc at h
  split at h
  · rename_i hf
    have hf : first = #[] := by
      apply Array.eq_empty_of_size_eq_zero
      rw [← Array.length_toList, hf]; rfl
    subst hf
    split at h
    · rename_i vs hv
      refine ⟨_, h, quietO_ok (xevals_sees hv) fun X => ?_⟩
      refine .quiet fun _ _ g w a _ hrd => ⟨.func (.func f) #[] (caps.map a.eval), ?_, ?_⟩
      · simp only [execOp, ho, Instr.makeFunc]
        simp
      · refine .clo f _ _ (by rw [asOf_length, xevals_len hv]; simp) ?_
        rw [imRd_zip] at hrd
        exact rds_args hrd
    · cases h
  · cases h

/-- one operation -/
def xop (o : Oper) (st : XSt) (K : Out → Option R) : Option R :=
  match o.op with
  | .move x => xMove st x K
  | .assign x => xMove st x K
  | .pick c x y => xPick st c x y K
  | .alloc t => xAllocAny P (ownOp own o) st o t K
  | .box t x => xBox st o t x K
  | .build t ps => xBuild P st t ps K
  | .buildSlice t n ps => cond (ownOp own o) (xBuildOwn P st o t n ps K) (cond (isEmptyL n ps.toList) (xBuildTip P st o t K) (xBuildSlice P st t n ps K))
  | .load t x => xLoad P st t x K
  | .store t x y => xStore P st t x y K
  | .nilCheck x => xNil st x K
  | .binOp op t x y _ => xBinP P st op t x y K
  | .unOp op _ x => xUn st op x K
  | .convert s d x => xConvP P st s d x K
  | .slice t x lo hi mx => xSliceAll P st t x lo hi mx K
  | .fieldAddr t x n => xFieldAddr P st t x n K
  | .field t x n => xField P st t x n K
  | .indexAddr t x y => xIndexAny P st t x y K
  | .index t x y => xIndexS P st t x y K
  | .extract x i => xExtract st x i K
  | .call c => xCall P Γ own o st c K
  | .makeFunc (.func f) first caps => xMakeFunc o st f first caps K
  | _ => none

theorem xop_ok {o : Oper} {st : XSt} {K : Out → Option R} {r : R} (h : xop P Γ own o st K = some r) : ∃ out, K out = some r ∧ OpOk P o st out := by
  unfold xop at h
  split at h <;> rename_i ho
  · exact xMove_ok (.inl ho) h
  · exact xMove_ok (.inr ho) h
  · exact xPick_ok ho h
  · exact xAllocAny_ok ho h
  · exact xBox_ok ho h
  · exact xBuild_ok ho h
  · rename_i t n ps
    cases hw : ownOp own o with
    | true => simp only [hw, cond_true] at h; exact xBuildOwn_ok ho h
    | false =>
      simp only [hw, cond_false] at h
      cases he : isEmptyL n ps.toList with
      | true => simp only [he, cond_true] at h; exact xBuildTip_ok ho he h
      | false => simp only [he, cond_false] at h; exact xBuildSlice_ok ho h
  · exact xLoad_ok ho h
  · exact xStore_ok ho h
  · exact xNil_ok ho h
  · exact xBinP_ok ho h
  · exact xUn_ok ho h
  · exact xConvP_ok ho h
  · exact xSliceAll_ok ho h
  · exact xFieldAddr_ok ho h
  · exact xField_ok ho h
  · exact xIndexAny_ok ho h
  · exact xIndexS_ok ho h
  · exact xExtract_ok ho h
  · exact xCall_ok P Γ own ho h
  · exact xMakeFunc_ok P ho h
  · cases h

/-- what has not been written is as it was -/
structure Inv (s0 s : XSt) : Prop where
  env : ∀ t x, t ∉ s.wl → lk t s.env = some x → lk t s0.env = some x
  objs : ∀ k x, k ∉ s.ol → lk k s.objs = some x → lk k s0.objs = some x

theorem Inv.refl (s : XSt) : Inv s s := ⟨fun _ _ _ h => h, fun _ _ _ h => h⟩

def XEff.e : XEff → Store → Eff
  | .none, _ => .none
  | .look ks, _ => .look ks
  | .put k c, _ => .put k c.o
  | .all, X => .all X
  | .lab, X => .lab X.live

/-- behind an operation -/
def Out.st (out : Out) (o : Oper) (st : XSt) : XSt := ⟨putX o.dst out.res st.env, out.objs, out.live, logW o.dst st.wl, out.ol ++ st.ol⟩

def Out.it (out : Out) (o : Oper) : It := ⟨o, true, imRd out.rd, out.eff.e out.X, out.F, out.res.a⟩

/-- behind one that is left out -/
def skipSt (o : Oper) (st : XSt) : XSt := ⟨putX o.dst (.d (.v undef)) st.env, st.objs, st.live, logW o.dst st.wl, st.ol⟩

def skipIt (o : Oper) : It := ⟨o, false, [], .none, [], .d (.sc undef)⟩

def knowSt (d : Nat) (b : Bool) (st : XSt) : XSt := ⟨(d, .d (.b b)) :: st.env, st.objs, st.live, st.wl, st.ol⟩

def isUndef : XV → Bool
  | .d (.v (.tuple vs)) => Nat.beq vs.size 0
  | _ => false

def guardSlot (ops : Array Oper) (j : Nat) : Option Nat :=
  match ops[j]? with
  | some o => o.dst
  | none => none

variable (nt : Nat)

def xops (ops : Array Oper) (draw : Bool) (env0 : List (Nat × XV)) (K : XSt → Option R) : List Oper → List It → XSt → Option R
  | [], its, st => cond draw (cond (drawOk ops (imEnv env0) its) (K st) none) (K st)
  | o :: rest, its, st =>
    cond (dstOk nt o.dst)
      (match o.guard with
      | none => xop P Γ own o st fun out => cond (cond draw true (envFree out.F (imEnv st.env))) (xops ops draw env0 K rest (its ++ [out.it o]) (out.st o st)) none
      | some (j, want) =>
        match guardSlot ops j with
        | none => none
        | some d =>
          match lk d st.env with
          | some (.d (.b b)) =>
            cond b
              (cond want (xop P Γ own o (knowSt d true st) fun out => cond (cond draw true (envFree out.F (imEnv (knowSt d true st).env))) (xops ops draw env0 K rest (its ++ [out.it o]) (out.st o (knowSt d true st))) none)
                (xops ops draw env0 K rest (its ++ [skipIt o]) (skipSt o (knowSt d true st))))
              (cond want (xops ops draw env0 K rest (its ++ [skipIt o]) (skipSt o (knowSt d false st)))
                (xop P Γ own o (knowSt d false st) fun out => cond (cond draw true (envFree out.F (imEnv (knowSt d false st).env))) (xops ops draw env0 K rest (its ++ [out.it o]) (out.st o (knowSt d false st))) none))
          | some v => cond (isUndef v) (xops ops draw env0 K rest (its ++ [skipIt o]) (skipSt o st)) none
          | none => none) none

end
end Go.Xl
/-
  What the interpreter says of regions holds.
-/
set_option linter.unusedVariables false
set_option linter.unusedSimpArgs false
set_option linter.unnecessarySimpa false
namespace Go.Xl
open Go.Ab

section
variable {P : Program} {Γ : List (Ent P)} {own : List Nat} {R : Type}

theorem OpOk.opT {o : Oper} {st : XSt} {out : Out} (h : OpOk P o st out) : OpT P o (imRd out.rd) st.X out.X out.F out.res.a := by
  have hop := h.op
  unfold Out.X
  split at hop
  · obtain ⟨h1, h2, h3, h4⟩ := hop
    rw [h1, h2, h3]; exact h4 st.X
  · obtain ⟨h1, h2, h3, h4⟩ := hop
    rw [h1, h2, h3]; exact h4 st.X fun _ _ => rfl
  · obtain ⟨h1, h2, h3, h4⟩ := hop
    rw [h1, h2, h3, im_xset]; exact h4 st.X rfl
  · exact hop
  · exact hop.2

theorem Out.st_im (out : Out) (o : Oper) (st : XSt) : (out.st o st).im = ⟨putEnv o.dst out.res.a st.im.env, out.X⟩ := by
  simp only [Out.st, XSt.im, XSt.X, im_put, Out.X]

theorem skipSt_im (o : Oper) (st : XSt) : (skipSt o st).im = ⟨putEnv o.dst (.d (.sc undef)) st.im.env, st.X⟩ := by
  simp only [skipSt, XSt.im, XSt.X, im_put]
  rfl

theorem knowSt_im (d : Nat) (b : Bool) (st : XSt) : (knowSt d b st).im = ⟨(d, .d (.sc (.bool b))) :: st.im.env, st.X⟩ := rfl

theorem sees_all {st : St} : ∀ {l : List (Operand × AV)}, (∀ p ∈ l, Sees st p.1 p.2) → SeesAll st l
  | [], _ => .nil
  | (x, v) :: r, h => .cons (h (x, v) List.mem_cons_self) (sees_all fun p hp => h p (List.mem_cons_of_mem _ hp))

theorem lk_put {o : Oper} {x : XV} {st : XSt} {t : Nat} {y : XV} {wl : List Nat} (ht : t ∉ logW o.dst wl) (h : lk t (putX o.dst x st.env) = some y) : t ∉ wl ∧ lk t st.env = some y := by
  cases hd : o.dst with
  | none => rw [hd] at ht h; exact ⟨ht, h⟩
  | some d =>
    rw [hd] at ht h
    simp only [logW, List.mem_cons, not_or] at ht
    simp only [putX] at h
    rw [lk_cons_ne ht.1] at h
    exact ⟨ht.2, h⟩

theorem Inv.op {s0 st : XSt} {o : Oper} {out : Out} (h : Inv s0 st) (hok : OpOk P o st out) : Inv s0 (out.st o st) := by
  refine ⟨fun t x ht hx => ?_, fun k x hk hx => ?_⟩
  · obtain ⟨h1, h2⟩ := lk_put (st := st) ht hx
    exact h.env t x h1 h2
  · simp only [Out.st, List.mem_append, not_or] at hk hx
    exact h.objs k x hk.2 (hok.ol k x hk.1 hx)

theorem Inv.skip {s0 st : XSt} {o : Oper} (h : Inv s0 st) : Inv s0 (skipSt o st) := by
  refine ⟨fun t x ht hx => ?_, fun k x hk hx => h.objs k x hk hx⟩
  obtain ⟨h1, h2⟩ := lk_put (st := st) ht hx
  exact h.env t x h1 h2

theorem Inv.know {s0 st : XSt} {d : Nat} {b : Bool} (h : Inv s0 st) (hd : lk d st.env = some (.d (.b b))) : Inv s0 (knowSt d b st) := by
  refine ⟨fun t x ht hx => ?_, fun k x hk hx => h.objs k x hk hx⟩
  simp only [knowSt] at ht hx
  by_cases he : t = d
  · subst he
    simp [lk] at hx
    subst hx
    exact h.env t _ ht hd
  · rw [lk_cons_ne he] at hx
    exact h.env t x ht hx

theorem lk_sees {st : XSt} {d : Nat} {x : XV} (h : lk d st.env = some x) : st.im.env.lookup d = some x.a := by
  show (imEnv st.env).lookup d = _
  rw [im_env, h]; rfl

theorem undef_eq : undef = Value.tuple #[] := rfl

theorem isUndef_eq {x : XV} (h : isUndef x = true) : x.a = .d (.sc undef) := by
  unfold isUndef at h
  split at h
  · rename_i vs
    have := Nat.eq_of_beq_eq_true h
    have : vs = #[] := Array.eq_empty_of_size_eq_zero this
    subst this
    rfl
  · cases h

/-- what holds behind a region -/
def Post (s0 : XSt) (K : XSt → Option R) (r : R) (s : St) : Prop := ∃ st', s = st'.im ∧ Inv s0 st' ∧ K st' = some r

theorem xops_rw {S : Sig} {ops : Array Oper} {env0 : List (Nat × XV)} {K : XSt → Option R} {r : R} {s0 : XSt} : ∀ (l : List Oper) (i : Nat) (its : List It) (st : XSt), (∀ (j : Nat) o, l[j]? = some o → ops[i + j]? = some o) →
    Inv s0 st → xops P Γ own S.N ops false env0 K l its st = some r → Rw P S ops (List.range' i l.length) st.im (Post s0 K r)
  | [], i, its, st, hl, hi, h => by
    simp only [xops, cond_false] at h
    exact Rw.done ⟨st, rfl, hi, h⟩
  | o :: rest, i, its, st, hl, hi, h => by
    have ho : ops[i]? = some o := hl 0 o rfl
    have hrest : ∀ (j : Nat) o, rest[j]? = some o → ops[i + 1 + j]? = some o := by
      intro j o' hj
      have := hl (j + 1) o' (by simpa using hj)
      rw [show i + 1 + j = i + (j + 1) by omega]; exact this
    simp only [xops] at h
    cases hd : dstOk S.N o.dst with
    | false => simp [hd] at h
    | true =>
      simp only [hd, cond_true] at h
      have run : ∀ (st : XSt), Inv s0 st → Guard ops st.im o.guard true → (xop P Γ own o st fun out => cond (cond false true (envFree out.F (imEnv st.env))) (xops P Γ own S.N ops false env0 K rest (its ++ [out.it o]) (out.st o st)) none) = some r →
          Rw P S ops (List.range' i (o :: rest).length) st.im (Post s0 K r) := by
        intro st hi hg h
        obtain ⟨out, h1, hok⟩ := xop_ok P Γ own h
        cases hf : envFree out.F (imEnv st.env) with
        | false => simp [hf] at h1
        | true =>
          simp only [hf, cond_false, cond_true] at h1
          simp only [List.length_cons, List.range'_succ]
          refine Rw.opg ho hg hok.opT (sees_all hok.sees) hf hd ?_
          rw [← Out.st_im]
          exact xops_rw rest (i + 1) _ _ hrest (hi.op hok) h1
      have skip : ∀ (st : XSt), Inv s0 st → Guard ops st.im o.guard false → xops P Γ own S.N ops false env0 K rest (its ++ [skipIt o]) (skipSt o st) = some r →
          Rw P S ops (List.range' i (o :: rest).length) st.im (Post s0 K r) := by
        intro st hi hg h
        simp only [List.length_cons, List.range'_succ]
        refine Rw.skip ho hg hd ?_
        have := xops_rw rest (i + 1) _ _ hrest hi.skip h
        rw [skipSt_im] at this
        exact this
      split at h
      · rename_i hg
        exact run st hi (guard_yes hg) h
      · rename_i j want hg
        unfold guardSlot at h
        split at h
        · cases h
        · rename_i d hgs
          split at hgs
          · rename_i oj hoj
            split at h
            · rename_i b hb
              have hlk := lk_sees hb
              refine Rw.cases (d := d) hlk (fun hbt => ?_) (fun hbt => ?_)
              · subst hbt
                change Rw P S ops _ (knowSt d true st).im _
                have hlk' : (knowSt d true st).im.env.lookup d = some (.d (.sc (.bool true))) := by rw [knowSt_im]; simp
                cases want with
                | true =>
                  simp only [cond_true] at h
                  exact run _ (hi.know hb) (guard_run hg hoj hgs hlk') h
                | false =>
                  simp only [cond_true, cond_false] at h
                  exact skip _ (hi.know hb) (guard_not hg hoj hgs hlk' rfl) h
              · subst hbt
                change Rw P S ops _ (knowSt d false st).im _
                have hlk' : (knowSt d false st).im.env.lookup d = some (.d (.sc (.bool false))) := by rw [knowSt_im]; simp
                cases want with
                | true =>
                  simp only [cond_true, cond_false] at h
                  exact skip _ (hi.know hb) (guard_not hg hoj hgs hlk' rfl) h
                | false =>
                  simp only [cond_false] at h
                  exact run _ (hi.know hb) (guard_run hg hoj hgs hlk') h
            · rename_i v hv hlkv
              cases hu : isUndef v with
              | false => simp [hu] at h
              | true =>
                simp only [hu, cond_true] at h
                have hlk := lk_sees hlkv
                rw [isUndef_eq hu] at hlk
                exact skip st hi (guard_undef hg hoj hgs hlk) h
            · cases h
          · cases hgs

theorem xops_dw {S : Sig} {ops : Array Oper} {env0 : List (Nat × XV)} {K : XSt → Option R} {r : R} {s0 : XSt} : ∀ (l : List Oper) (i : Nat) (its : List It) (st : XSt), (∀ (j : Nat) o, l[j]? = some o → ops[i + j]? = some o) →
    Inv s0 st → xops P Γ own S.N ops true env0 K l its st = some r → Dw P S ops i l.length st.im its (imEnv env0) (Post s0 K r)
  | [], i, its, st, hl, hi, h => by
    simp only [xops, cond_true] at h
    cases hd : drawOk ops (imEnv env0) its with
    | false => simp [hd] at h
    | true =>
      simp only [hd, cond_true] at h
      exact Dw.fin hd ⟨st, rfl, hi, h⟩
  | o :: rest, i, its, st, hl, hi, h => by
    have ho : ops[i]? = some o := hl 0 o rfl
    have hrest : ∀ (j : Nat) o, rest[j]? = some o → ops[i + 1 + j]? = some o := by
      intro j o' hj
      have := hl (j + 1) o' (by simpa using hj)
      rw [show i + 1 + j = i + (j + 1) by omega]; exact this
    simp only [xops] at h
    cases hd : dstOk S.N o.dst with
    | false => simp [hd] at h
    | true =>
      simp only [hd, cond_true] at h
      have run : ∀ (st : XSt), Inv s0 st → Guard ops st.im o.guard true → (xop P Γ own o st fun out => cond (cond true true (envFree out.F (imEnv st.env))) (xops P Γ own S.N ops true env0 K rest (its ++ [out.it o]) (out.st o st)) none) = some r →
          Dw P S ops i (o :: rest).length st.im its (imEnv env0) (Post s0 K r) := by
        intro st hi hg h
        obtain ⟨out, h1, hok⟩ := xop_ok P Γ own h
        simp only [cond_true] at h1
        have ih := xops_dw rest (i + 1) _ _ hrest (hi.op hok) h1
        rw [Out.st_im] at ih
        have hop := hok.op
        simp only [List.length_cons]
        split at hop
        · rename_i he
          obtain ⟨a1, a2, a3, a4⟩ := hop
          refine Dw.op ho hg a4 (sees_all hok.sees) hd ?_
          have e : out.it o = ⟨o, true, imRd out.rd, .none, [], out.res.a⟩ := by simp only [Out.it, he, XEff.e, a3]
          rw [e] at ih
          have e2 : out.X = st.im.X := by simp only [Out.X, XSt.im, XSt.X, a1, a2]
          rw [e2] at ih
          exact ih
        · rename_i ks he
          obtain ⟨a1, a2, a3, a4⟩ := hop
          refine Dw.look (ks := ks) ho hg a4 (sees_all hok.sees) hd ?_
          have e : out.it o = ⟨o, true, imRd out.rd, .look ks, [], out.res.a⟩ := by simp only [Out.it, he, XEff.e, a3]
          rw [e] at ih
          have e2 : out.X = st.im.X := by simp only [Out.X, XSt.im, XSt.X, a1, a2]
          rw [e2] at ih
          exact ih
        · rename_i k c he
          obtain ⟨a1, a2, a3, a4⟩ := hop
          refine Dw.put (k := k) (c := c.o) ho hg a4 (sees_all hok.sees) hd ?_
          have e : out.it o = ⟨o, true, imRd out.rd, .put k c.o, [], out.res.a⟩ := by simp only [Out.it, he, XEff.e, a3]
          rw [e] at ih
          have e2 : out.X = ⟨Ab.setObj k c.o st.im.X.objs, st.im.X.live⟩ := by simp only [Out.X, XSt.im, XSt.X, a1, a2, im_xset]
          rw [e2] at ih
          exact ih
        · rename_i he
          refine Dw.eff ho hg hop (sees_all hok.sees) hd ?_
          have e : out.it o = ⟨o, true, imRd out.rd, .all out.X, out.F, out.res.a⟩ := by simp only [Out.it, he, XEff.e]
          rw [e] at ih
          exact ih
        · rename_i he
          obtain ⟨a1, a4⟩ := hop
          have e2 : out.X = ⟨st.im.X.objs, out.live⟩ := by simp only [Out.X, XSt.im, XSt.X, a1]
          rw [e2] at a4 ih
          refine Dw.lab (L := out.live) ho hg a4 (sees_all hok.sees) hd ?_
          have e : out.it o = ⟨o, true, imRd out.rd, .lab out.live, out.F, out.res.a⟩ := by simp only [Out.it, he, XEff.e, Out.X]
          rw [e] at ih
          exact ih
      have skip : ∀ (st : XSt), Inv s0 st → Guard ops st.im o.guard false → xops P Γ own S.N ops true env0 K rest (its ++ [skipIt o]) (skipSt o st) = some r →
          Dw P S ops i (o :: rest).length st.im its (imEnv env0) (Post s0 K r) := by
        intro st hi hg h
        simp only [List.length_cons]
        refine Dw.skip ho hg hd ?_
        have := xops_dw rest (i + 1) _ _ hrest hi.skip h
        rw [skipSt_im] at this
        exact this
      split at h
      · rename_i hg
        exact run st hi (guard_yes hg) h
      · rename_i j want hg
        unfold guardSlot at h
        split at h
        · cases h
        · rename_i d hgs
          split at hgs
          · rename_i oj hoj
            split at h
            · rename_i b hb
              have hlk := lk_sees hb
              refine Dw.cases (d := d) hlk (fun hbt => ?_) (fun hbt => ?_)
              · subst hbt
                change Dw P S ops i _ (knowSt d true st).im its (imEnv env0) _
                have hlk' : (knowSt d true st).im.env.lookup d = some (.d (.sc (.bool true))) := by rw [knowSt_im]; simp
                cases want with
                | true =>
                  simp only [cond_true] at h
                  exact run _ (hi.know hb) (guard_run hg hoj hgs hlk') h
                | false =>
                  simp only [cond_true, cond_false] at h
                  exact skip _ (hi.know hb) (guard_not hg hoj hgs hlk' rfl) h
              · subst hbt
                change Dw P S ops i _ (knowSt d false st).im its (imEnv env0) _
                have hlk' : (knowSt d false st).im.env.lookup d = some (.d (.sc (.bool false))) := by rw [knowSt_im]; simp
                cases want with
                | true =>
                  simp only [cond_true, cond_false] at h
                  exact skip _ (hi.know hb) (guard_not hg hoj hgs hlk' rfl) h
                | false =>
                  simp only [cond_false] at h
                  exact run _ (hi.know hb) (guard_run hg hoj hgs hlk') h
            · rename_i v hv hlkv
              cases hu : isUndef v with
              | false => simp [hu] at h
              | true =>
                simp only [hu, cond_true] at h
                have hlk := lk_sees hlkv
                rw [isUndef_eq hu] at hlk
                exact skip st hi (guard_undef hg hoj hgs hlk) h
            · cases h
          · cases hgs

end
end Go.Xl
/-
  Cuts: at a loop's head, or where ways meet: what is kept, what is a typed variable.
-/
set_option linter.unusedVariables false
set_option linter.unusedSimpArgs false
set_option linter.unnecessarySimpa false
namespace Go.Xl
open Go.Ab

/-- a typed variable of a cut -/
inductive VK where
  | d (t : Ty)
  | tip (n : Nat) (t : Ty) (ty : Option TypeId)
  | p (k off : Nat)
  | z (k off : Nat)

@[reducible] def VK.T : VK → Type
  | .d t => t.T
  | .tip _ t _ => List t.T
  | .p _ _ => Unit
  | .z _ _ => Bool

def VK.val : (v : VK) → v.T → XV
  | .d t, x => .d (t.xv x)
  | .tip n t ty, l => .tip n t l ty
  | .p k off, _ => .nm k (.p off)
  | .z k off, b => .nm k (.z b off)

/-- the cells that a variable takes in an object -/
def VK.cells : (v : VK) → v.T → List XV
  | .d t, x => (t.enc x).map .d
  | .tip n t ty, l => [.tip n t l ty]
  | .p k off, _ => [.nm k (.p off)]
  | .z k off, b => [.nm k (.z b off)]

def decXV (t : Ty) : XV → Option t.T
  | .d x => t.decv x
  | .tip _ u l _ => t.decv (.sl u l)
  | _ => none

def tyLe (have_ want : Option TypeId) : Bool :=
  match want with
  | none => true
  | some e => match have_ with
    | some e' => Nat.beq e' e
    | none => false

abbrev Lab := List (Nat × Option Nat)

def projTip (n : Nat) (t : Ty) (ty : Option TypeId) : XV → Option (List t.T × Lab)
  | .tip m u l ty' => if h : u.eqb t = true then cond (tyLe ty' ty) (some (Ty.eqb_eq h ▸ l, [(n, some m)])) none else none
  | .d (.v (.slice none 0 0)) => some ([], [(n, none)])
  | _ => none

def projPtr (k off : Nat) : XV → Option (Unit × Lab)
  | .nm k' (.p off') => cond (Nat.beq k' k) (cond (Nat.beq off' off) (some ((), [])) none) none
  | _ => none

def projZ (k off : Nat) : XV → Option (Bool × Lab)
  | .nm k' (.p off') => cond (Nat.beq k' k) (cond (Nat.beq off' off) (some (false, [])) none) none
  | .nm k' (.z b off') => cond (Nat.beq k' k) (cond (Nat.beq off' off) (some (b, [])) none) none
  | .d (.v (.pointer none)) => some (true, [])
  | _ => none

/-- read a variable; the labels: new, old (none: a nil slice) -/
def VK.proj : (v : VK) → XV → Option (v.T × Lab)
  | .d t => fun x => match decXV t x with
    | some y => some (y, [])
    | none => none
  | .tip n t ty => projTip n t ty
  | .p k off => projPtr k off
  | .z k off => projZ k off

structure Cut where
  vars : List (Tmp × VK)
  objs : List (Nat × List VK × Option TypeId)
  keepS : List Tmp
  keepO : List Nat
  own : List (Tmp × Nat × Ty) := []
  arrs : List (Nat × Ty) := []

@[reducible] def VarsT : List (Tmp × VK) → Type
  | [] => Unit
  | p :: r => p.2.T × VarsT r

@[reducible] def CellsT : List VK → Type
  | [] => Unit
  | v :: r => v.T × CellsT r

@[reducible] def ObjsT : List (Nat × List VK × Option TypeId) → Type
  | [] => Unit
  | p :: r => CellsT p.2.1 × ObjsT r

@[reducible] def OwnT : List (Tmp × Nat × Ty) → Type
  | [] => Unit
  | p :: r => Option (List p.2.2.T × Nat) × OwnT r

@[reducible] def ArrsT : List (Nat × Ty) → Type
  | [] => Unit
  | p :: r => List p.2.T × ArrsT r

@[reducible] def Cut.T (c : Cut) : Type := VarsT c.vars × ObjsT c.objs × OwnT c.own × ArrsT c.arrs

def genOwnE : (l : List (Tmp × Nat × Ty)) → OwnT l → List (Nat × XV)
  | [], _ => []
  | p :: r, x => (p.1, match x.1 with
    | none => .d (.v (.slice none 0 0))
    | some y => .os p.2.1 p.2.2 0 y.2) :: genOwnE r x.2

def genOwnO : (l : List (Tmp × Nat × Ty)) → OwnT l → List (Nat × XOb)
  | [], _ => []
  | p :: r, x => match x.1 with
    | none => genOwnO r x.2
    | some y => (p.2.1, .arr p.2.2 y.1) :: genOwnO r x.2

def genArrs : (l : List (Nat × Ty)) → ArrsT l → List (Nat × XOb)
  | [], _ => []
  | p :: r, x => (p.1, .arr p.2 x.1) :: genArrs r x.2

def ownNames : List (Tmp × Nat × Ty) → List Nat
  | [] => []
  | p :: r => p.2.1 :: ownNames r

def arrNames : List (Nat × Ty) → List Nat
  | [] => []
  | p :: r => p.1 :: arrNames r

/-- names of the objects that a cut has under their own names -/
def Cut.others (c : Cut) : List Nat := (c.objs.map (·.1) ++ arrNames c.arrs) ++ c.keepO

def genVars : (l : List (Tmp × VK)) → VarsT l → List (Nat × XV)
  | [], _ => []
  | p :: r, x => (p.1, p.2.val x.1) :: genVars r x.2

def genCells : (l : List VK) → CellsT l → List XV
  | [], _ => []
  | v :: r, x => v.cells x.1 ++ genCells r x.2

def genObjs : (l : List (Nat × List VK × Option TypeId)) → ObjsT l → List (Nat × XOb)
  | [], _ => []
  | p :: r, x => (p.1, .cells (genCells p.2.1 x.1) p.2.2) :: genObjs r x.2

/-- what is kept -/
def keepEnv (env : List (Nat × XV)) : List Tmp → List (Nat × XV)
  | [] => []
  | t :: r => match lk t env with
    | some x => (t, x) :: keepEnv env r
    | none => keepEnv env r

def keepObjs (objs : List (Nat × XOb)) : List Nat → List (Nat × XOb)
  | [] => []
  | t :: r => match lk t objs with
    | some x => (t, x) :: keepObjs objs r
    | none => keepObjs objs r

def labsOfVars : List (Tmp × VK) → List Nat
  | [] => []
  | (_, .tip n _ _) :: r => n :: labsOfVars r
  | (_, .d _) :: r => labsOfVars r
  | (_, .p _ _) :: r => labsOfVars r
  | (_, .z _ _) :: r => labsOfVars r
def labsOfCells : List VK → List Nat
  | [] => []
  | .tip n _ _ :: r => n :: labsOfCells r
  | .d _ :: r => labsOfCells r
  | .p _ _ :: r => labsOfCells r
  | .z _ _ :: r => labsOfCells r
def labsOfObjs : List (Nat × List VK × Option TypeId) → List Nat
  | [] => []
  | p :: r => labsOfCells p.2.1 ++ labsOfObjs r

def Cut.labs (c : Cut) : List Nat := labsOfVars c.vars ++ labsOfObjs c.objs

def addL (n : Nat) (live acc : List Nat) : List Nat := cond (inl n live) (cond (inl n acc) acc (n :: acc)) acc
def tipsCells (live : List Nat) : List XV → List Nat → List Nat
  | [], acc => acc
  | .tip n _ _ _ :: r, acc => tipsCells live r (addL n live acc)
  | _ :: r, acc => tipsCells live r acc
def tipsEnv (live : List Nat) : List (Nat × XV) → List Nat → List Nat
  | [], acc => acc
  | (_, .tip n _ _ _) :: r, acc => tipsEnv live r (addL n live acc)
  | _ :: r, acc => tipsEnv live r acc
def tipsObjs (live : List Nat) : List (Nat × XOb) → List Nat → List Nat
  | [], acc => acc
  | (_, .cells cs _) :: r, acc => tipsObjs live r (tipsCells live cs acc)
  | (_, .arr _ _) :: r, acc => tipsObjs live r acc
/-- labels of what is kept -/
def keepL (s0 : XSt) (c : Cut) : List Nat := tipsObjs s0.live (keepObjs s0.objs c.keepO) (tipsEnv s0.live (keepEnv s0.env c.keepS) [])

/-- the state at a cut -/
def gen (s0 : XSt) (c : Cut) (x : c.T) : XSt :=
  ⟨genVars c.vars x.1 ++ (genOwnE c.own x.2.2.1 ++ keepEnv s0.env c.keepS), genObjs c.objs x.2.1 ++ (genOwnO c.own x.2.2.1 ++ (genArrs c.arrs x.2.2.2 ++ keepObjs s0.objs c.keepO)), c.labs ++ keepL s0 c, [], []⟩

def projVars (env : List (Nat × XV)) : (l : List (Tmp × VK)) → Option (VarsT l × Lab)
  | [] => some ((), [])
  | p :: r => match lk p.1 env with
    | some v => match p.2.proj v with
      | some (x, σ) => match projVars env r with
        | some (xs, τ) => some ((x, xs), σ ++ τ)
        | none => none
      | none => none
    | none => none

/-- cells as data, slices that were appended to among them -/
def allXt : List XV → Option (List XD)
  | [] => some []
  | x :: r => match x.asD, allXt r with
    | some y, some l => some (y :: l)
    | _, _ => none

theorem asD_le {x : XV} {y : XD} (h : x.asD = some y) : ALe x.a (.d y.d) := by
  cases x with
  | d u => simp only [XV.asD, Option.some.injEq] at h; subst h; exact .refl _
  | tip n t l ty => simp only [XV.asD, Option.some.injEq] at h; subst h; exact ALe.tip _ _ _ _
  | _ => simp [XV.asD] at h

theorem allXt_get : ∀ {cs : List XV} {ds : List XD}, allXt cs = some ds → cs.length = ds.length ∧ ∀ (i : Nat) x y, cs[i]? = some x → ds[i]? = some y → ALe x.a (.d y.d)
  | [], ds, h => by simp [allXt] at h; subst h; exact ⟨rfl, by simp⟩
  | x :: r, ds, h => by
    simp only [allXt] at h
    split at h
    · rename_i y l hy hl
      cases h
      obtain ⟨h1, h2⟩ := allXt_get hl
      refine ⟨by simp [h1], fun i a b ha hb => ?_⟩
      cases i with
      | zero => simp at ha hb; subst ha; subst hb; exact asD_le hy
      | succ i => exact h2 i a b (by simpa using ha) (by simpa using hb)
    · cases h

/-- read the cells of an object -/
def projCells : (l : List VK) → List XV → Option (CellsT l × Lab)
  | [], cs => match cs with
    | [] => some ((), [])
    | _ => none
  | .d t :: r, cs => match allXt (cs.take t.size) with
    | some ds => match t.dec ds with
      | some (x, []) => match projCells r (cs.drop t.size) with
        | some (xs, τ) => some ((x, xs), τ)
        | none => none
      | _ => none
    | none => none
  | .p k off :: r, cs => match cs with
    | c :: cs' => match (VK.p k off).proj c with
      | some (x, σ) => match projCells r cs' with
        | some (xs, τ) => some ((x, xs), σ ++ τ)
        | none => none
      | none => none
    | [] => none
  | .z k off :: r, cs => match cs with
    | c :: cs' => match (VK.z k off).proj c with
      | some (x, σ) => match projCells r cs' with
        | some (xs, τ) => some ((x, xs), σ ++ τ)
        | none => none
      | none => none
    | [] => none
  | .tip n t ty :: r, cs => match cs with
    | c :: cs' => match (VK.tip n t ty).proj c with
      | some (x, σ) => match projCells r cs' with
        | some (xs, τ) => some ((x, xs), σ ++ τ)
        | none => none
      | none => none
    | [] => none

def tyEqO (a b : Option TypeId) : Bool :=
  match a, b with
  | none, none => true
  | some x, some y => Nat.beq x y
  | _, _ => false

theorem tyEqO_eq {a b : Option TypeId} (h : tyEqO a b = true) : a = b := by
  unfold tyEqO at h
  split at h
  · rfl
  · rw [Nat.eq_of_beq_eq_true h]
  · cases h

def projObjs (objs : List (Nat × XOb)) : (l : List (Nat × List VK × Option TypeId)) → Option (ObjsT l × Lab)
  | [] => some ((), [])
  | p :: r => match lk p.1 objs with
    | some (.cells cs ty) => cond (tyEqO ty p.2.2) (match projCells p.2.1 cs with
      | some (x, σ) => match projObjs objs r with
        | some (xs, τ) => some ((x, xs), σ ++ τ)
        | none => none
      | none => none) none
    | _ => none

/-- slices that own their blocks; the names: new, old -/
def projOwn (env : List (Nat × XV)) (objs : List (Nat × XOb)) : (l : List (Tmp × Nat × Ty)) → Option (OwnT l × List (Nat × Nat))
  | [] => some ((), [])
  | p :: r => match lk p.1 env, projOwn env objs r with
    | some (.os k ty a len), some (xs, τ) => match lk k objs with
      | some (.arr tu l) => if h : tu.eqb p.2.2 = true then cond (ty.eqb p.2.2) (cond (Nat.beq a 0) (some ((some (Ty.eqb_eq h ▸ l, len), xs), (p.2.1, k) :: τ)) none) none else none
      | _ => none
    | some (.d (.v (.slice none 0 0))), some (xs, τ) => some ((none, xs), τ)
    | _, _ => none

def projArrs (objs : List (Nat × XOb)) : (l : List (Nat × Ty)) → Option (ArrsT l)
  | [] => some ()
  | p :: r => match lk p.1 objs, projArrs objs r with
    | some (.arr tu l), some xs => if h : tu.eqb p.2 = true then some (Ty.eqb_eq h ▸ l, xs) else none
    | _, _ => none

def keptEnv (s : XSt) (ns : List Nat) : List Tmp → Bool
  | [] => true
  | t :: r => cond (inl t s.wl) false (match lk t s.env with
    | some x => cond (isFree ns x.a) (keptEnv s ns r) false
    | none => false)

def keptObjs (s : XSt) (ns : List Nat) : List Nat → Bool
  | [] => true
  | t :: r => cond (inl t s.ol) false (match lk t s.objs with
    | some x => cond (obFree ns x.o) (keptObjs s ns r) false
    | none => false)

def oldLabs : Lab → List Nat
  | [] => []
  | (_, some m) :: r => m :: oldLabs r
  | (_, none) :: r => oldLabs r

def subL (a b : List Nat) : Bool :=
  match a with
  | [] => true
  | x :: r => cond (inl x b) (subL r b) false

def nodupL : List Nat → Bool
  | [] => true
  | x :: r => cond (inl x r) false (nodupL r)

def hasAll (l : List Nat) : List (Nat × XOb) → Bool
  | objs => match l with
    | [] => true
    | k :: r => match lk k objs with
      | some _ => hasAll r objs
      | none => false

def slotsOf : List (Tmp × VK) → List Nat
  | [] => []
  | p :: r => p.1 :: slotsOf r
def namesOf : List (Nat × List VK × Option TypeId) → List Nat
  | [] => []
  | p :: r => p.1 :: namesOf r

/-- nothing of a is in b -/
def apart (a b : List Nat) : Bool :=
  match a with
  | [] => true
  | x :: r => cond (inl x b) false (apart r b)

theorem apart_spec : ∀ {a b : List Nat}, apart a b = true → ∀ x ∈ a, x ∉ b
  | [], b, _ => by simp
  | y :: r, b, h => by
    simp only [apart] at h
    cases hy : inl y b with
    | true => simp [hy] at h
    | false =>
      simp only [hy, cond_false] at h
      intro x hx
      rcases List.mem_cons.1 hx with rfl | hx
      · intro hm; rw [(inl_eq _ _).2 hm] at hy; cases hy
      · exact apart_spec h x hx

def ownSlots : List (Tmp × Nat × Ty) → List Nat
  | [] => []
  | p :: r => p.1 :: ownSlots r

/-- no pointer to one of these -/
def VK.okp (ns : List Nat) : VK → Bool
  | .p k _ => cond (inl k ns) false true
  | .z k _ => cond (inl k ns) false true
  | _ => true
def okVars (ns : List Nat) : List (Tmp × VK) → Bool
  | [] => true
  | p :: r => cond (p.2.okp ns) (okVars ns r) false
def okCells (ns : List Nat) : List VK → Bool
  | [] => true
  | p :: r => cond (p.okp ns) (okCells ns r) false
def okObjs (ns : List Nat) : List (Nat × List VK × Option TypeId) → Bool
  | [] => true
  | p :: r => cond (okCells ns p.2.1) (okObjs ns r) false

/-- what the names of slices that own their blocks must be -/
def ownOk {α : Type} (c : Cut) (ν : List (Nat × Nat)) (x : Option α) : Option α :=
  cond (nodupL (ownNames c.own)) (cond (apart (ownNames c.own) c.others) (cond (nodupL (ν.map (·.2))) (cond (apart (ν.map (·.2)) c.others) (cond ((ownNames c.own).all (Nat.ble 1000)) (cond (apart c.labs (ownNames c.own)) (cond (okVars (ownNames c.own) c.vars) (cond (okObjs (ownNames c.own) c.objs) x none) none) none) none) none) none) none) none

/-- the variables of a cut, read off a state that comes to it. s0: the state at which it began -/
def proj (nm : List Nat) (kl : List Nat) (c : Cut) (s : XSt) : Option c.T :=
  match projVars s.env c.vars, projObjs s.objs c.objs, projOwn s.env s.objs c.own, projArrs s.objs c.arrs with
  | some (x, σ), some (y, τ), some (u, ν), some v =>
    cond (keptEnv s (c.labs ++ ownNames c.own) c.keepS) (cond (keptObjs s (c.labs ++ ownNames c.own) c.keepO) (cond (subL (oldLabs (σ ++ τ) ++ kl) s.live)
      (cond (nodupL (oldLabs (σ ++ τ) ++ kl)) (cond (nodupL (c.labs ++ kl)) (cond (subL nm c.others) (cond (apart c.keepS (slotsOf c.vars ++ ownSlots c.own)) (cond (apart c.keepO (namesOf c.objs ++ (ownNames c.own ++ arrNames c.arrs))) (ownOk c ν (some (x, y, u, v))) none) none) none) none) none) none) none) none
  | _, _, _, _ => none

/-! what it means -/

def labOf (τ : Lab) (n : Nat) : Option (Option Nat) := lk n τ

/-- the ghost behind a cut -/
def cutGh (g : Gh) (τ : Lab) (keepL : List Nat) (ν : List (Nat × Nat)) : Gh :=
  { g with ρ := fun j => match lk j ν with | some k => g.ρ k | none => g.ρ j, β := fun n => cond (inl n keepL) (g.β n) (match lk n τ with
    | some (some m) => g.β m
    | some none => some none
    | none => none) }

theorem inl_app {k : Nat} {a b : List Nat} : inl k (a ++ b) = (inl k a || inl k b) := by
  rw [Bool.eq_iff_iff, inl_eq, Bool.or_eq_true, inl_eq, inl_eq, List.mem_append]

theorem subL_spec : ∀ {a b : List Nat}, subL a b = true → ∀ x ∈ a, x ∈ b
  | [], b, _ => by simp
  | y :: r, b, h => by
    simp only [subL] at h
    cases hy : inl y b with
    | false => simp [hy] at h
    | true =>
      simp only [hy, cond_true] at h
      intro x hx
      rcases List.mem_cons.1 hx with rfl | hx
      · exact (inl_eq _ _).1 hy
      · exact subL_spec h x hx

theorem nodupL_spec : ∀ {a : List Nat}, nodupL a = true → a.Nodup
  | [], _ => .nil
  | y :: r, h => by
    simp only [nodupL] at h
    cases hy : inl y r with
    | true => simp [hy] at h
    | false =>
      simp only [hy, cond_false] at h
      refine List.nodup_cons.2 ⟨fun hm => ?_, nodupL_spec h⟩
      rw [(inl_eq _ _).2 hm] at hy
      cases hy

/-- what a variable holds at the cut, in the new ghost -/
theorem VK.proj_ra {v : VK} {x : XV} {y : v.T} {σ : Lab} (h : v.proj x = some (y, σ)) {g g' : Gh} {w : World} {u : Value} {ns : List Nat} (hγ : g'.γ = g.γ) (hρ : ∀ k, k ∉ ns → g'.ρ k = g.ρ k) (hok : v.okp ns = true)
    (hσ : ∀ n m, (n, some m) ∈ σ → ∀ ob, g'.β n = some ob → g.β m = some ob) (hr : RA g w x.a u) : RA g' w (v.val y).a u := by
  cases v with
  | d t =>
    simp only [VK.proj] at h
    split at h
    · rename_i y' hy
      cases h
      have hle : ALe x.a (.d (t.dv y)) := by
        unfold decXV at hy
        split at hy
        · exact ALe.d (t.decv_spec hy)
        · rename_i n u l ty
          have := t.decv_spec hy
          intro g w v hr
          exact ALe.d this g w v (ALe.tip _ _ _ _ g w v hr)
        · cases hy
      have := hle g w u hr
      cases this with
      | d _ _ h1 => exact .d _ _ (hγ ▸ h1)
    · cases h
  | tip n t ty =>
    change projTip n t ty x = some (y, σ) at h
    unfold projTip at h
    split at h
    · rename_i m u' l' ty''
      split at h
      · rename_i he
        have e0 := Ty.eqb_eq he
        subst e0
        cases ht : tyLe ty'' ty with
        | false => simp [ht] at h
        | true =>
          simp only [ht, cond_true, Option.some.injEq, Prod.mk.injEq] at h
          obtain ⟨rfl, rfl⟩ := h
          simp only [XV.a] at hr
          cases hr with
          | tip _ _ _ _ _ h1 h2 =>
            refine .tip _ _ _ _ _ (hγ ▸ h1) ?_
            unfold TipOk at h2 ⊢
            split at h2
            · rename_i a len cap
              intro ob hob
              obtain ⟨a1, a2, a3, a4, a5⟩ := h2 ob (hσ n m (by simp) ob hob)
              refine ⟨a1, a2, by rw [hγ]; exact a3, a4, fun e hte => ?_⟩
              refine a5 e ?_
              subst hte
              simp only [tyLe] at ht
              split at ht
              · rw [Nat.eq_of_beq_eq_true ht]
              · cases ht
            · trivial
      · cases h
    · simp only [Option.some.injEq, Prod.mk.injEq] at h
      obtain ⟨rfl, rfl⟩ := h
      simp only [XV.a, XD.d] at hr
      cases hr with
      | d _ _ h1 =>
        cases h1
        exact .tip _ _ _ _ _ (.nil _ none 0 fun _ => rfl) trivial
    · cases h
  | p k off =>
    change projPtr k off x = some (y, σ) at h
    unfold projPtr at h
    split at h
    · rename_i k' off'
      cases h1 : Nat.beq k' k with
      | false => simp [h1] at h
      | true =>
        cases h2 : Nat.beq off' off with
        | false => simp [h1, h2] at h
        | true =>
          have e1 := Nat.eq_of_beq_eq_true h1
          have e2 := Nat.eq_of_beq_eq_true h2
          subst e1; subst e2
          simp only [XV.a] at hr
          cases hr with
          | nm _ _ _ h => exact .nm _ _ _ (by
              rw [hρ]
              · exact h
              · intro hm
                simp [VK.okp, (inl_eq _ _).2 hm] at hok)
    · cases h
  | z k off =>
    change projZ k off x = some (y, σ) at h
    have hk : k ∉ ns := by
      intro hm
      simp [VK.okp, (inl_eq _ _).2 hm] at hok
    unfold projZ at h
    split at h
    · rename_i k' off'
      cases h1 : Nat.beq k' k with
      | false => simp [h1] at h
      | true =>
        cases h2 : Nat.beq off' off with
        | false => simp [h1, h2] at h
        | true =>
          have e1 := Nat.eq_of_beq_eq_true h1
          have e2 := Nat.eq_of_beq_eq_true h2
          subst e1; subst e2
          simp only [h1, h2, cond_true, Option.some.injEq, Prod.mk.injEq] at h
          obtain ⟨rfl, rfl⟩ := h
          simp only [XV.a] at hr
          cases hr with
          | nm _ _ _ h => exact .nm _ _ _ (by rw [hρ _ hk]; exact h)
    · rename_i k' b off'
      cases h1 : Nat.beq k' k with
      | false => simp [h1] at h
      | true =>
        cases h2 : Nat.beq off' off with
        | false => simp [h1, h2] at h
        | true =>
          have e1 := Nat.eq_of_beq_eq_true h1
          have e2 := Nat.eq_of_beq_eq_true h2
          subst e1; subst e2
          simp only [h1, h2, cond_true, Option.some.injEq, Prod.mk.injEq] at h
          obtain ⟨rfl, rfl⟩ := h
          simp only [XV.a] at hr
          cases hr with
          | nm _ _ _ h => exact .nm _ _ _ (by rw [hρ _ hk]; exact h)
    · cases h
      simp only [XV.a, XD.d] at hr
      cases hr with
      | d _ _ h1 =>
        cases h1
        exact .nm _ _ _ rfl
    · cases h

end Go.Xl
/-
  A state that comes to a cut is one of the cut's states.
-/
set_option linter.unusedVariables false
set_option linter.unusedSimpArgs false
set_option linter.unnecessarySimpa false
namespace Go.Xl
open Go.Ab

theorem projTip_labs {n : Nat} {t : Ty} {ty : Option TypeId} {x : XV} {y : List t.T} {σ : Lab} (h : projTip n t ty x = some (y, σ)) : σ.map (·.1) = [n] := by
  unfold projTip at h
  split at h
  · split at h
    · rename_i m u' l' ty'' he
      cases ht : tyLe ty'' ty with
      | false => simp [ht] at h
      | true => simp only [ht, cond_true, Option.some.injEq, Prod.mk.injEq] at h; rw [← h.2]; rfl
    · cases h
  · simp only [Option.some.injEq, Prod.mk.injEq] at h; rw [← h.2]; rfl
  · cases h

theorem projD_labs {t : Ty} {x : XV} {y : t.T} {σ : Lab} (h : (VK.d t).proj x = some (y, σ)) : σ = [] := by
  simp only [VK.proj] at h
  split at h
  · cases h; rfl
  · cases h

theorem projP_labs {k off : Nat} {x : XV} {y : Unit} {σ : Lab} (h : (VK.p k off).proj x = some (y, σ)) : σ = [] := by
  change projPtr k off x = some (y, σ) at h
  unfold projPtr at h
  split at h
  · rename_i k' off'
    cases h1 : Nat.beq k' k with
    | false => simp [h1] at h
    | true =>
      cases h2 : Nat.beq off' off with
      | false => simp [h1, h2] at h
      | true => simp only [h1, h2, cond_true, Option.some.injEq, Prod.mk.injEq] at h; exact h.2.symm
  · cases h

theorem projZ_labs {k off : Nat} {x : XV} {y : Bool} {σ : Lab} (h : (VK.z k off).proj x = some (y, σ)) : σ = [] := by
  change projZ k off x = some (y, σ) at h
  unfold projZ at h
  split at h
  · rename_i k' off'
    cases h1 : Nat.beq k' k with
    | false => simp [h1] at h
    | true =>
      cases h2 : Nat.beq off' off with
      | false => simp [h1, h2] at h
      | true => simp only [h1, h2, cond_true, Option.some.injEq, Prod.mk.injEq] at h; exact h.2.symm
  · rename_i k' b off'
    cases h1 : Nat.beq k' k with
    | false => simp [h1] at h
    | true =>
      cases h2 : Nat.beq off' off with
      | false => simp [h1, h2] at h
      | true => simp only [h1, h2, cond_true, Option.some.injEq, Prod.mk.injEq] at h; exact h.2.symm
  · cases h; rfl
  · cases h

theorem projVars_labs {env : List (Nat × XV)} : ∀ {l : List (Tmp × VK)} {x : VarsT l} {σ : Lab}, projVars env l = some (x, σ) → σ.map (·.1) = labsOfVars l
  | [], x, σ, h => by simp [projVars] at h; rw [h]; rfl
  | (t, v) :: r, x, σ, h => by
    unfold projVars at h
    split at h
    · rename_i z hz
      split at h
      · rename_i y σ1 hy
        split at h
        · rename_i ys τ hys
          simp only [Option.some.injEq, Prod.mk.injEq] at h
          rw [← h.2, List.map_append, projVars_labs hys]
          cases v with
          | d t => rw [projD_labs hy]; rfl
          | tip n t ty => rw [projTip_labs hy]; rfl
          | p k off => rw [projP_labs hy]; rfl
          | z k off => rw [projZ_labs hy]; rfl
        · cases h
      · cases h
    · cases h

theorem projCells_labs : ∀ {l : List VK} {cs : List XV} {x : CellsT l} {σ : Lab}, projCells l cs = some (x, σ) → σ.map (·.1) = labsOfCells l
  | [], cs, x, σ, h => by
    unfold projCells at h
    split at h
    · cases h; rfl
    · cases h
  | .d t :: r, cs, x, σ, h => by
    unfold projCells at h
    split at h
    · split at h
      · split at h
        · rename_i ys τ hys
          cases h
          exact projCells_labs (l := r) hys
        · cases h
      · cases h
    · cases h
  | .p k off :: r, cs, x, σ, h => by
    unfold projCells at h
    split at h
    · split at h
      · rename_i y σ1 hy
        split at h
        · rename_i ys τ hys
          cases h
          rw [List.map_append, projP_labs hy, projCells_labs hys]; rfl
        · cases h
      · cases h
    · cases h
  | .z k off :: r, cs, x, σ, h => by
    unfold projCells at h
    split at h
    · split at h
      · rename_i y σ1 hy
        split at h
        · rename_i ys τ hys
          cases h
          rw [List.map_append, projZ_labs hy, projCells_labs hys]; rfl
        · cases h
      · cases h
    · cases h
  | .tip n t ty :: r, cs, x, σ, h => by
    unfold projCells at h
    split at h
    · split at h
      · rename_i y σ1 hy
        split at h
        · rename_i ys τ hys
          cases h
          rw [List.map_append, projTip_labs hy, projCells_labs hys]; rfl
        · cases h
      · cases h
    · cases h

theorem projObjs_labs {objs : List (Nat × XOb)} : ∀ {l : List (Nat × List VK × Option TypeId)} {x : ObjsT l} {σ : Lab}, projObjs objs l = some (x, σ) → σ.map (·.1) = labsOfObjs l
  | [], x, σ, h => by simp [projObjs] at h; rw [h]; rfl
  | p :: r, x, σ, h => by
    unfold projObjs at h
    split at h
    · rename_i cs ty hk
      cases ht : tyEqO ty p.2.2 with
      | false => simp [ht] at h
      | true =>
        simp only [ht, cond_true] at h
        split at h
        · rename_i y σ1 hy
          split at h
          · rename_i ys τ hys
            cases h
            rw [List.map_append, projCells_labs hy, projObjs_labs hys]; rfl
          · cases h
        · cases h
    · cases h

/-- cells of an array -/
def CellsOk (g : Gh) (w : World) (cs : List XV) (vs : List Value) : Prop := ∀ (i : Nat) x v, cs[i]? = some x → vs[i]? = some v → RA g w x.a v

theorem CellsOk.split {g : Gh} {w : World} {a b : List XV} {vs : List Value} (h : CellsOk g w a (vs.take a.length)) (h' : CellsOk g w b (vs.drop a.length)) : CellsOk g w (a ++ b) vs := by
  intro i x v hx hv
  rw [List.getElem?_append] at hx
  split at hx
  · rename_i hlt
    refine h i x v hx ?_
    rw [List.getElem?_take, if_pos hlt]; exact hv
  · refine h' (i - a.length) x v hx ?_
    rw [List.getElem?_drop, show a.length + (i - a.length) = i by omega]; exact hv

theorem allX_map : ∀ {cs : List XV} {ds : List XD}, allX cs = some ds → cs = ds.map .d
  | [], ds, h => by simp [allX] at h; subst h; rfl
  | x :: r, ds, h => by
    cases x with
    | d x =>
      simp only [allX] at h
      split at h
      · rename_i l hl
        cases h
        rw [allX_map hl]; rfl
      · cases h
    | _ => simp [allX] at h

theorem okCells_cons {ns : List Nat} {v : VK} {r : List VK} (h : okCells ns (v :: r) = true) : v.okp ns = true ∧ okCells ns r = true := by
  simp only [okCells] at h
  cases hv : v.okp ns with
  | false => simp [hv] at h
  | true => simp only [hv, cond_true] at h; exact ⟨rfl, h⟩

theorem projCells_ra {g g' : Gh} {w : World} {ns : List Nat} (hγ : g'.γ = g.γ) (hρ : ∀ k, k ∉ ns → g'.ρ k = g.ρ k) : ∀ {l : List VK} {cs : List XV} {x : CellsT l} {σ : Lab} {vs : List Value}, okCells ns l = true → projCells l cs = some (x, σ) →
    (∀ n m, (n, some m) ∈ σ → ∀ ob, g'.β n = some ob → g.β m = some ob) → CellsOk g w cs vs → CellsOk g' w (genCells l x) vs ∧ (genCells l x).length = cs.length
  | [], cs, x, σ, vs, hok, h, hσ, hc => by
    unfold projCells at h
    split at h
    · exact ⟨fun i x v hx => by simp [genCells] at hx, rfl⟩
    · cases h
  | .d t :: r, cs, x, σ, vs, hok, h, hσ, hc => by
    unfold projCells at h
    split at h
    · rename_i ds hds
      split at h
      · rename_i y hy
        split at h
        · rename_i ys τ hys
          cases h
          obtain ⟨zs, hz, hle⟩ := t.dec_spec hy
          simp only [dsOf, List.append_nil] at hz
          subst hz
          have hm := allXt_get hds
          have hlen : ds.length = t.size := by rw [← dsOf_length, hle.length, Ty.ds_length]
          have hle1 : t.size ≤ cs.length := by
            have : (cs.take t.size).length = ds.length := hm.1
            rw [List.length_take, hlen] at this; omega
          have ih := projCells_ra hγ hρ (vs := vs.drop t.size) (okCells_cons hok).2 hys hσ (by
            intro i x v hx hv
            rw [List.getElem?_drop] at hx hv
            exact hc _ x v hx hv)
          simp only [genCells, VK.cells]
          refine ⟨CellsOk.split ?_ (by simpa [Ty.enc_length] using ih.1), by simp [Ty.enc_length, ih.2]; omega⟩
          intro i x v hx hv
          rw [List.getElem?_map, Option.map_eq_some_iff] at hx
          obtain ⟨z, hz, rfl⟩ := hx
          simp only [List.length_map] at hv
          rw [List.getElem?_take] at hv
          split at hv
          · have hd : (t.ds y)[i]? = some z.d := by rw [← Ty.enc_ds, dsOf_map, List.getElem?_map, hz]; rfl
            obtain ⟨u, hu, hule⟩ := hle.get hd
            rw [dsOf_map, List.getElem?_map, Option.map_eq_some_iff] at hu
            obtain ⟨u', hu', rfl⟩ := hu
            have hi : i < t.size := by
              have := (List.getElem?_eq_some_iff.1 hu').1; omega
            obtain ⟨c0, hcs⟩ : ∃ c0, cs[i]? = some c0 := ⟨_, List.getElem?_eq_getElem (by omega)⟩
            have hct : (cs.take t.size)[i]? = some c0 := by rw [List.getElem?_take, if_pos hi]; exact hcs
            have := hm.2 i c0 u' hct hu' g w v (hc i _ v hcs hv)
            have := ALe.d hule g w v this
            simp only [XV.a]
            cases this with
            | d _ _ h1 => exact .d _ _ (hγ ▸ h1)
          · cases hv
        · cases h
      · cases h
    · cases h
  | .tip n t ty :: r, cs, x, σ, vs, hok, h, hσ, hc => by
    unfold projCells at h
    split at h
    · rename_i c cs'
      split at h
      · rename_i y σ1 hy
        split at h
        · rename_i ys τ hys
          cases h
          have ih := projCells_ra hγ hρ (vs := vs.drop 1) (okCells_cons hok).2 hys (fun n m hm => hσ n m (List.mem_append_right _ hm)) (by
            intro i x v hx hv
            rw [List.getElem?_drop] at hv
            exact hc (i + 1) x v (by simpa using hx) (by rw [Nat.add_comm]; exact hv))
          simp only [genCells, VK.cells]
          refine ⟨CellsOk.split (a := [_]) ?_ (by simpa using ih.1), by simp [ih.2]⟩
          intro i x v hx hv
          cases i with
          | succ i => simp at hx
          | zero =>
            simp at hx
            subst hx
            have hv' : vs[0]? = some v := by
              rw [List.getElem?_take] at hv; simpa using hv
            exact VK.proj_ra (v := .tip n t ty) hy hγ hρ (okCells_cons hok).1 (fun n m hm => hσ n m (List.mem_append_left _ hm)) (hc 0 c v rfl hv')
        · cases h
      · cases h
    · cases h
  | .p k off :: r, cs, x, σ, vs, hok, h, hσ, hc => by
    unfold projCells at h
    split at h
    · rename_i c cs'
      split at h
      · rename_i y σ1 hy
        split at h
        · rename_i ys τ hys
          cases h
          have ih := projCells_ra hγ hρ (vs := vs.drop 1) (okCells_cons hok).2 hys (fun n m hm => hσ n m (List.mem_append_right _ hm)) (by
            intro i x v hx hv
            rw [List.getElem?_drop] at hv
            exact hc (i + 1) x v (by simpa using hx) (by rw [Nat.add_comm]; exact hv))
          simp only [genCells, VK.cells]
          refine ⟨CellsOk.split (a := [_]) ?_ (by simpa using ih.1), by simp [ih.2]⟩
          intro i x v hx hv
          cases i with
          | succ i => simp at hx
          | zero =>
            simp at hx
            subst hx
            have hv' : vs[0]? = some v := by
              rw [List.getElem?_take] at hv; simpa using hv
            exact VK.proj_ra (v := .p k off) hy hγ hρ (okCells_cons hok).1 (fun n m hm => hσ n m (List.mem_append_left _ hm)) (hc 0 c v rfl hv')
        · cases h
      · cases h
    · cases h
  | .z k off :: r, cs, x, σ, vs, hok, h, hσ, hc => by
    unfold projCells at h
    split at h
    · rename_i c cs'
      split at h
      · rename_i y σ1 hy
        split at h
        · rename_i ys τ hys
          cases h
          have ih := projCells_ra hγ hρ (vs := vs.drop 1) (okCells_cons hok).2 hys (fun n m hm => hσ n m (List.mem_append_right _ hm)) (by
            intro i x v hx hv
            rw [List.getElem?_drop] at hv
            exact hc (i + 1) x v (by simpa using hx) (by rw [Nat.add_comm]; exact hv))
          simp only [genCells, VK.cells]
          refine ⟨CellsOk.split (a := [_]) ?_ (by simpa using ih.1), by simp [ih.2]⟩
          intro i x v hx hv
          cases i with
          | succ i => simp at hx
          | zero =>
            simp at hx
            subst hx
            have hv' : vs[0]? = some v := by
              rw [List.getElem?_take] at hv; simpa using hv
            exact VK.proj_ra (v := .z k off) hy hγ hρ (okCells_cons hok).1 (fun n m hm => hσ n m (List.mem_append_left _ hm)) (hc 0 c v rfl hv')
        · cases h
      · cases h
    · cases h

theorem lk_mem {α : Type} {k : Nat} {x : α} : ∀ {l : List (Nat × α)}, lk k l = some x → (k, x) ∈ l
  | [], h => by cases h
  | p :: r, h => by
    simp only [lk] at h
    cases hb : Nat.beq p.1 k with
    | true =>
      simp only [hb, cond_true, Option.some.injEq] at h
      have := Nat.eq_of_beq_eq_true hb
      subst h; subst this
      exact List.mem_cons_self
    | false =>
      simp only [hb, cond_false] at h
      exact List.mem_cons_of_mem _ (lk_mem h)

theorem lk_none {α : Type} {k : Nat} : ∀ {l : List (Nat × α)}, lk k l = none → k ∉ l.map (·.1)
  | [], _ => by simp
  | p :: r, h => by
    simp only [lk] at h
    cases hb : Nat.beq p.1 k with
    | true => simp [hb] at h
    | false =>
      simp only [hb, cond_false] at h
      have : p.1 ≠ k := Nat.ne_of_beq_eq_false hb
      simp only [List.map_cons, List.mem_cons, not_or]
      exact ⟨Ne.symm this, lk_none h⟩

theorem lk_isSome {α : Type} {k : Nat} {l : List (Nat × α)} (h : k ∈ l.map (·.1)) : ∃ x, lk k l = some x := by
  cases hl : lk k l with
  | some x => exact ⟨x, rfl⟩
  | none => exact absurd h (lk_none hl)

theorem lk_append {α : Type} {k : Nat} {a b : List (Nat × α)} : lk k (a ++ b) = match lk k a with | some x => some x | none => lk k b := by
  induction a with
  | nil => rfl
  | cons p r ih =>
    simp only [List.cons_append, lk, ih]
    cases Nat.beq p.1 k <;> rfl

theorem lk_of_mem {α : Type} {k : Nat} {x : α} : ∀ {l : List (Nat × α)}, (l.map (·.1)).Nodup → (k, x) ∈ l → lk k l = some x
  | [], _, h => by simp at h
  | p :: r, hnd, h => by
    simp only [List.map_cons, List.nodup_cons] at hnd
    simp only [lk]
    rcases List.mem_cons.1 h with h' | h'
    · subst h'; simp
    · have hne : p.1 ≠ k := fun he => hnd.1 (he ▸ List.mem_map_of_mem (f := (·.1)) h')
      rw [nbF hne]
      exact lk_of_mem hnd.2 h'

theorem okVars_cons {ns : List Nat} {v : Tmp × VK} {r : List (Tmp × VK)} (h : okVars ns (v :: r) = true) : v.2.okp ns = true ∧ okVars ns r = true := by
  simp only [okVars] at h
  cases hv : v.2.okp ns with
  | false => simp [hv] at h
  | true => simp only [hv, cond_true] at h; exact ⟨rfl, h⟩

theorem okObjs_cons {ns : List Nat} {v : Nat × List VK × Option TypeId} {r : List (Nat × List VK × Option TypeId)} (h : okObjs ns (v :: r) = true) : okCells ns v.2.1 = true ∧ okObjs ns r = true := by
  simp only [okObjs] at h
  cases hv : okCells ns v.2.1 with
  | false => simp [hv] at h
  | true => simp only [hv, cond_true] at h; exact ⟨rfl, h⟩

theorem projVars_mem {env : List (Nat × XV)} : ∀ {l : List (Tmp × VK)} {x : VarsT l} {σ : Lab} {t : Nat} {y : XV}, projVars env l = some (x, σ) → (t, y) ∈ genVars l x →
    ∃ (v : VK) (z : XV) (u : v.T) (σ' : Lab), lk t env = some z ∧ v.proj z = some (u, σ') ∧ y = v.val u ∧ (∀ p ∈ σ', p ∈ σ) ∧ ∀ ns, okVars ns l = true → v.okp ns = true
  | [], x, σ, t, y, h, hm => by simp [genVars] at hm
  | p :: r, x, σ, t, y, h, hm => by
    unfold projVars at h
    split at h
    · rename_i z hz
      split at h
      · rename_i u σ1 hu
        split at h
        · rename_i ys τ hys
          cases h
          simp only [genVars, List.mem_cons] at hm
          rcases hm with hm | hm
          · cases hm
            exact ⟨p.2, z, u, σ1, hz, hu, rfl, fun q hq => List.mem_append_left _ hq, fun ns hn => (okVars_cons hn).1⟩
          · obtain ⟨v, z, u, σ', h1, h2, h3, h4, h5⟩ := projVars_mem hys hm
            exact ⟨v, z, u, σ', h1, h2, h3, fun q hq => List.mem_append_right _ (h4 q hq), fun ns hn => h5 ns (okVars_cons hn).2⟩
        · cases h
      · cases h
    · cases h

theorem projObjs_mem {objs : List (Nat × XOb)} : ∀ {l : List (Nat × List VK × Option TypeId)} {x : ObjsT l} {σ : Lab} {k : Nat} {y : XOb}, projObjs objs l = some (x, σ) → (k, y) ∈ genObjs l x →
    ∃ (vs : List VK) (cs : List XV) (ty : Option TypeId) (u : CellsT vs) (σ' : Lab), lk k objs = some (.cells cs ty) ∧ projCells vs cs = some (u, σ') ∧ y = .cells (genCells vs u) ty ∧ (∀ p ∈ σ', p ∈ σ) ∧ k ∈ l.map (·.1) ∧ ∀ ns, okObjs ns l = true → okCells ns vs = true
  | [], x, σ, k, y, h, hm => by simp [genObjs] at hm
  | p :: r, x, σ, k, y, h, hm => by
    unfold projObjs at h
    split at h
    · rename_i cs ty hk
      cases ht : tyEqO ty p.2.2 with
      | false => simp [ht] at h
      | true =>
        simp only [ht, cond_true] at h
        have := tyEqO_eq ht
        split at h
        · rename_i u σ1 hu
          split at h
          · rename_i ys τ hys
            cases h
            simp only [genObjs, List.mem_cons] at hm
            rcases hm with hm | hm
            · cases hm
              exact ⟨p.2.1, cs, ty, u, σ1, hk, hu, by rw [this], fun q hq => List.mem_append_left _ hq, List.mem_cons_self, fun ns hn => (okObjs_cons hn).1⟩
            · obtain ⟨vs, cs, ty, u, σ', h1, h2, h3, h4, h6, h5⟩ := projObjs_mem hys hm
              exact ⟨vs, cs, ty, u, σ', h1, h2, h3, fun q hq => List.mem_append_right _ (h4 q hq), List.mem_cons_of_mem _ h6, fun ns hn => h5 ns (okObjs_cons hn).2⟩
          · cases h
        · cases h
    · cases h

theorem keepEnv_mem {env : List (Nat × XV)} : ∀ {l : List Tmp} {t : Nat} {y : XV}, (t, y) ∈ keepEnv env l → t ∈ l ∧ lk t env = some y
  | [], t, y, h => by simp [keepEnv] at h
  | a :: r, t, y, h => by
    unfold keepEnv at h
    split at h
    · rename_i x hx
      rcases List.mem_cons.1 h with h | h
      · cases h; exact ⟨List.mem_cons_self, hx⟩
      · have := keepEnv_mem h; exact ⟨List.mem_cons_of_mem _ this.1, this.2⟩
    · have := keepEnv_mem h; exact ⟨List.mem_cons_of_mem _ this.1, this.2⟩

theorem keepObjs_mem {objs : List (Nat × XOb)} : ∀ {l : List Nat} {t : Nat} {y : XOb}, (t, y) ∈ keepObjs objs l → t ∈ l ∧ lk t objs = some y
  | [], t, y, h => by simp [keepObjs] at h
  | a :: r, t, y, h => by
    unfold keepObjs at h
    split at h
    · rename_i x hx
      rcases List.mem_cons.1 h with h | h
      · cases h; exact ⟨List.mem_cons_self, hx⟩
      · have := keepObjs_mem h; exact ⟨List.mem_cons_of_mem _ this.1, this.2⟩
    · have := keepObjs_mem h; exact ⟨List.mem_cons_of_mem _ this.1, this.2⟩

theorem notIn {a : Nat} {l : List Nat} (hw : inl a l = false) : a ∉ l := by
  intro hm
  rw [(inl_eq _ _).2 hm] at hw
  cases hw

theorem keptEnv_spec {s : XSt} {ns : List Nat} : ∀ {l : List Tmp}, keptEnv s ns l = true → ∀ t ∈ l, t ∉ s.wl ∧ ∃ x, lk t s.env = some x ∧ isFree ns x.a = true
  | [], _ => by simp
  | a :: r, h => by
    unfold keptEnv at h
    cases hw : inl a s.wl with
    | true => simp [hw] at h
    | false =>
      simp only [hw, cond_false] at h
      split at h
      · rename_i x hx
        cases hf : isFree ns x.a with
        | false => simp [hf] at h
        | true =>
          simp only [hf, cond_true] at h
          intro t ht
          rcases List.mem_cons.1 ht with rfl | ht
          · exact ⟨notIn hw, x, hx, hf⟩
          · exact keptEnv_spec h t ht
      · cases h

theorem keptObjs_spec {s : XSt} {ns : List Nat} : ∀ {l : List Nat}, keptObjs s ns l = true → ∀ t ∈ l, t ∉ s.ol ∧ ∃ x, lk t s.objs = some x ∧ obFree ns x.o = true
  | [], _ => by simp
  | a :: r, h => by
    unfold keptObjs at h
    cases hw : inl a s.ol with
    | true => simp [hw] at h
    | false =>
      simp only [hw, cond_false] at h
      split at h
      · rename_i x hx
        cases hf : obFree ns x.o with
        | false => simp [hf] at h
        | true =>
          simp only [hf, cond_true] at h
          intro t ht
          rcases List.mem_cons.1 ht with rfl | ht
          · exact ⟨notIn hw, x, hx, hf⟩
          · exact keptObjs_spec h t ht
      · cases h

theorem oldLabs_mem : ∀ {τ : Lab} {m : Nat}, m ∈ oldLabs τ ↔ ∃ n, (n, some m) ∈ τ
  | [], m => by simp [oldLabs]
  | (n, some k) :: r, m => by
    simp only [oldLabs, List.mem_cons, oldLabs_mem (τ := r), Prod.mk.injEq, Option.some.injEq]
    constructor
    · rintro (rfl | ⟨n', h⟩)
      · exact ⟨n, .inl ⟨rfl, rfl⟩⟩
      · exact ⟨n', .inr h⟩
    · rintro ⟨n', ⟨rfl, rfl⟩ | h⟩
      · exact .inl rfl
      · exact .inr ⟨n', h⟩
  | (n, none) :: r, m => by
    simp only [oldLabs, List.mem_cons, oldLabs_mem (τ := r), Prod.mk.injEq, reduceCtorEq, and_false, false_or]

theorem oldLabs_inj : ∀ {τ : Lab} {n n' m : Nat}, (oldLabs τ).Nodup → (n, some m) ∈ τ → (n', some m) ∈ τ → n = n'
  | [], n, n', m, _, h, _ => by simp at h
  | (a, some k) :: r, n, n', m, hnd, h, h' => by
    simp only [oldLabs, List.nodup_cons] at hnd
    rcases List.mem_cons.1 h with h1 | h1 <;> rcases List.mem_cons.1 h' with h2 | h2
    · cases h1; cases h2; rfl
    · cases h1; exact absurd (oldLabs_mem.2 ⟨n', h2⟩) hnd.1
    · cases h2; exact absurd (oldLabs_mem.2 ⟨n, h1⟩) hnd.1
    · exact oldLabs_inj hnd.2 h1 h2
  | (a, none) :: r, n, n', m, hnd, h, h' => by
    simp only [oldLabs] at hnd
    simp only [List.mem_cons, Prod.mk.injEq, reduceCtorEq, and_false, false_or] at h h'
    exact oldLabs_inj hnd h h'

theorem imEnv_mem {l : List (Nat × XV)} {t : Nat} {x : AV} (h : (imEnv l).lookup t = some x) : ∃ y, lk t l = some y ∧ x = y.a := by
  rw [im_env] at h
  obtain ⟨y, hy, rfl⟩ := Option.map_eq_some_iff.1 h
  exact ⟨y, hy, rfl⟩

theorem imObjs_mem {l : List (Nat × XOb)} {t : Nat} {x : Ob} (h : (imObjs l).lookup t = some x) : ∃ y, lk t l = some y ∧ x = y.o := by
  rw [im_objs] at h
  obtain ⟨y, hy, rfl⟩ := Option.map_eq_some_iff.1 h
  exact ⟨y, hy, rfl⟩

theorem projOwn_memE {env : List (Nat × XV)} {objs : List (Nat × XOb)} : ∀ {l : List (Tmp × Nat × Ty)} {x : OwnT l} {ν : List (Nat × Nat)} {t : Nat} {y : XV}, projOwn env objs l = some (x, ν) → (t, y) ∈ genOwnE l x →
    (y = .d (.v (.slice none 0 0)) ∧ lk t env = some y) ∨ ∃ (n k : Nat) (ty : Ty) (len : Nat), (n, k) ∈ ν ∧ lk t env = some (.os k ty 0 len) ∧ y = .os n ty 0 len
  | [], x, ν, t, y, h, hm => by simp [genOwnE] at hm
  | p :: r, x, ν, t, y, h, hm => by
    unfold projOwn at h
    split at h
    · rename_i k ty a len xs τ hv hr
      split at h
      · rename_i tu l hk
        split at h
        · rename_i he
          cases h1 : ty.eqb p.2.2 with
          | false => simp [h1] at h
          | true =>
          cases h2 : Nat.beq a 0 with
          | false => simp [h1, h2] at h
          | true =>
            simp only [h1, h2, cond_true, Option.some.injEq, Prod.mk.injEq] at h
            obtain ⟨rfl, rfl⟩ := h
            have e1 := Ty.eqb_eq h1
            have e2 := Nat.eq_of_beq_eq_true h2
            subst e2
            simp only [genOwnE, List.mem_cons] at hm
            rcases hm with hm | hm
            · cases hm
              exact .inr ⟨p.2.1, k, ty, len, List.mem_cons_self, hv, by rw [e1]⟩
            · rcases projOwn_memE hr hm with h | ⟨n, k', ty', len', h1, h2, h3⟩
              · exact .inl h
              · exact .inr ⟨n, k', ty', len', List.mem_cons_of_mem _ h1, h2, h3⟩
        · cases h
      · cases h
    · rename_i xs τ hv hr
      simp only [Option.some.injEq, Prod.mk.injEq] at h
      obtain ⟨rfl, rfl⟩ := h
      simp only [genOwnE, List.mem_cons] at hm
      rcases hm with hm | hm
      · cases hm; exact .inl ⟨rfl, hv⟩
      · exact projOwn_memE hr hm
    · cases h

theorem projOwn_memO {env : List (Nat × XV)} {objs : List (Nat × XOb)} : ∀ {l : List (Tmp × Nat × Ty)} {x : OwnT l} {ν : List (Nat × Nat)} {n : Nat} {y : XOb}, projOwn env objs l = some (x, ν) → (n, y) ∈ genOwnO l x →
    ∃ k, (n, k) ∈ ν ∧ lk k objs = some y
  | [], x, ν, t, y, h, hm => by simp [genOwnO] at hm
  | p :: r, x, ν, t, y, h, hm => by
    unfold projOwn at h
    split at h
    · rename_i k ty a len xs τ hv hr
      split at h
      · rename_i tu l hk
        split at h
        · rename_i he
          cases h1 : ty.eqb p.2.2 with
          | false => simp [h1] at h
          | true =>
          cases h2 : Nat.beq a 0 with
          | false => simp [h1, h2] at h
          | true =>
            simp only [h1, h2, cond_true, Option.some.injEq, Prod.mk.injEq] at h
            obtain ⟨rfl, rfl⟩ := h
            simp only [genOwnO, List.mem_cons] at hm
            rcases hm with hm | hm
            · cases hm
              refine ⟨k, List.mem_cons_self, ?_⟩
              rw [hk]
              have e0 := Ty.eqb_eq he
              obtain ⟨a1, a2, a3⟩ := p
              simp only at he e0 ⊢
              subst e0
              rfl
            · obtain ⟨k', h1, h2⟩ := projOwn_memO hr hm
              exact ⟨k', List.mem_cons_of_mem _ h1, h2⟩
        · cases h
      · cases h
    · rename_i xs τ hv hr
      simp only [Option.some.injEq, Prod.mk.injEq] at h
      obtain ⟨rfl, rfl⟩ := h
      exact projOwn_memO hr hm
    · cases h

theorem projOwn_names {env : List (Nat × XV)} {objs : List (Nat × XOb)} : ∀ {l : List (Tmp × Nat × Ty)} {x : OwnT l} {ν : List (Nat × Nat)}, projOwn env objs l = some (x, ν) → ∀ p ∈ ν, p.1 ∈ ownNames l
  | [], x, ν, h => by simp [projOwn] at h; simp [h]
  | p :: r, x, ν, h => by
    unfold projOwn at h
    split at h
    · rename_i k ty a len xs τ hv hr
      split at h
      · split at h
        · cases h1 : ty.eqb p.2.2 with
          | false => simp [h1] at h
          | true =>
          cases h2 : Nat.beq a 0 with
          | false => simp [h1, h2] at h
          | true =>
            simp only [h1, h2, cond_true, Option.some.injEq, Prod.mk.injEq] at h
            obtain ⟨rfl, rfl⟩ := h
            intro q hq
            rcases List.mem_cons.1 hq with rfl | hq
            · exact List.mem_cons_self
            · exact List.mem_cons_of_mem _ (projOwn_names hr q hq)
        · cases h
      · cases h
    · rename_i xs τ hv hr
      simp only [Option.some.injEq, Prod.mk.injEq] at h
      obtain ⟨rfl, rfl⟩ := h
      intro q hq
      exact List.mem_cons_of_mem _ (projOwn_names hr q hq)
    · cases h

/-- names come in the order of the list -/
theorem projOwn_nodup {env : List (Nat × XV)} {objs : List (Nat × XOb)} : ∀ {l : List (Tmp × Nat × Ty)} {x : OwnT l} {ν : List (Nat × Nat)}, projOwn env objs l = some (x, ν) → (ownNames l).Nodup → (ν.map (·.1)).Nodup
  | [], x, ν, h, _ => by simp [projOwn] at h; simp [h]
  | p :: r, x, ν, h, hnd => by
    simp only [ownNames, List.nodup_cons] at hnd
    unfold projOwn at h
    split at h
    · rename_i k ty a len xs τ hv hr
      split at h
      · split at h
        · cases h1 : ty.eqb p.2.2 with
          | false => simp [h1] at h
          | true =>
          cases h2 : Nat.beq a 0 with
          | false => simp [h1, h2] at h
          | true =>
            simp only [h1, h2, cond_true, Option.some.injEq, Prod.mk.injEq] at h
            obtain ⟨rfl, rfl⟩ := h
            simp only [List.map_cons, List.nodup_cons]
            refine ⟨fun hm => ?_, projOwn_nodup hr hnd.2⟩
            obtain ⟨q, hq, he⟩ := List.mem_map.1 hm
            exact hnd.1 (he ▸ projOwn_names hr q hq)
        · cases h
      · cases h
    · rename_i xs τ hv hr
      simp only [Option.some.injEq, Prod.mk.injEq] at h
      obtain ⟨rfl, rfl⟩ := h
      exact projOwn_nodup hr hnd.2
    · cases h

theorem projArrs_mem {objs : List (Nat × XOb)} : ∀ {l : List (Nat × Ty)} {x : ArrsT l} {k : Nat} {y : XOb}, projArrs objs l = some x → (k, y) ∈ genArrs l x → lk k objs = some y ∧ k ∈ arrNames l
  | [], x, k, y, h, hm => by simp [genArrs] at hm
  | p :: r, x, k, y, h, hm => by
    unfold projArrs at h
    split at h
    · rename_i tu l xs hk hr
      split at h
      · rename_i he
        cases h
        simp only [genArrs, List.mem_cons] at hm
        rcases hm with hm | hm
        · cases hm
          refine ⟨?_, List.mem_cons_self⟩
          rw [hk]
          have e0 := Ty.eqb_eq he
          obtain ⟨a1, a2⟩ := p
          simp only at he e0 ⊢
          subst e0
          rfl
        · obtain ⟨h1, h2⟩ := projArrs_mem hr hm
          exact ⟨h1, List.mem_cons_of_mem _ h2⟩
      · cases h
    · cases h

end Go.Xl
/-
  A state that comes to a cut is one of the cut's states: the ghost.
-/
set_option linter.unusedVariables false
set_option linter.unusedSimpArgs false
set_option linter.unnecessarySimpa false
namespace Go.Xl
open Go.Ab

theorem nodup_app {a b : List Nat} (h : (a ++ b).Nodup) : a.Nodup ∧ b.Nodup ∧ ∀ x ∈ a, x ∉ b := by
  rw [List.nodup_append] at h
  exact ⟨h.1, h.2.1, fun x hx hb => h.2.2 x hx x hb rfl⟩

theorem genOwnO_arr : ∀ {l : List (Tmp × Nat × Ty)} {x : OwnT l} {n : Nat} {y : XOb}, (n, y) ∈ genOwnO l x → n ∈ ownNames l ∧ ∃ t u, y = .arr t u
  | [], x, n, y, h => by simp [genOwnO] at h
  | p :: r, x, n, y, h => by
    unfold genOwnO at h
    split at h
    · exact ⟨List.mem_cons_of_mem _ (genOwnO_arr h).1, (genOwnO_arr h).2⟩
    · rcases List.mem_cons.1 h with h | h
      · cases h; exact ⟨List.mem_cons_self, _, _, rfl⟩
      · exact ⟨List.mem_cons_of_mem _ (genOwnO_arr h).1, (genOwnO_arr h).2⟩

theorem lk_imA {objs : List (Nat × XOb)} {k : Nat} {y : XOb} (h : lk k objs = some y) : (imObjs objs).lookup k = some y.o := by rw [im_objs, h]; rfl

theorem genArrs_arr : ∀ {l : List (Nat × Ty)} {x : ArrsT l} {n : Nat} {y : XOb}, (n, y) ∈ genArrs l x → ∃ t u, y = .arr t u
  | [], x, n, y, h => by simp [genArrs] at h
  | p :: r, x, n, y, h => by
    unfold genArrs at h
    rcases List.mem_cons.1 h with h | h
    · cases h; exact ⟨_, _, rfl⟩
    · exact genArrs_arr h

theorem genArrs_names : ∀ (l : List (Nat × Ty)) (x : ArrsT l), (genArrs l x).map (·.1) = arrNames l
  | [], x => rfl
  | p :: r, x => by simp only [genArrs, List.map_cons, arrNames, genArrs_names r]

theorem genObjs_names : ∀ (l : List (Nat × List VK × Option TypeId)) (y : ObjsT l), (genObjs l y).map (·.1) = l.map (·.1)
  | [], y => rfl
  | p :: r, y => by simp only [genObjs, List.map_cons, genObjs_names r]

theorem ownOk_spec {α : Type} {c : Cut} {ν : List (Nat × Nat)} {x : Option α} {y : α} (h : ownOk c ν x = some y) : (ownNames c.own).Nodup ∧ (∀ k ∈ ownNames c.own, k ∉ c.others) ∧ (ν.map (·.2)).Nodup ∧ (∀ k ∈ ν.map (·.2), k ∉ c.others) ∧
    (∀ k ∈ ownNames c.own, 1000 ≤ k) ∧ (∀ k ∈ c.labs, k ∉ ownNames c.own) ∧ okVars (ownNames c.own) c.vars = true ∧ okObjs (ownNames c.own) c.objs = true ∧ x = some y := by
  unfold ownOk at h
  cases h1 : nodupL (ownNames c.own) with
  | false => simp [h1] at h
  | true =>
  cases h2 : apart (ownNames c.own) c.others with
  | false => simp [h1, h2] at h
  | true =>
  cases h3 : nodupL (ν.map (·.2)) with
  | false => simp [h1, h2, h3] at h
  | true =>
  cases h4 : apart (ν.map (·.2)) c.others with
  | false => simp [h1, h2, h3, h4] at h
  | true =>
  cases h5 : (ownNames c.own).all (Nat.ble 1000) with
  | false => simp only [h1, h2, h3, h4, h5, cond_true, cond_false] at h; cases h
  | true =>
  cases h6 : apart c.labs (ownNames c.own) with
  | false => simp only [h1, h2, h3, h4, h5, h6, cond_true, cond_false] at h; cases h
  | true =>
  cases h7 : okVars (ownNames c.own) c.vars with
  | false => simp only [h1, h2, h3, h4, h5, h6, h7, cond_true, cond_false] at h; cases h
  | true =>
  cases h8 : okObjs (ownNames c.own) c.objs with
  | false => simp only [h1, h2, h3, h4, h5, h6, h7, h8, cond_true, cond_false] at h; cases h
  | true =>
    simp only [h1, h2, h3, h4, h5, h6, h7, h8, cond_true] at h
    exact ⟨nodupL_spec h1, apart_spec h2, nodupL_spec h3, apart_spec h4, fun k hk => Nat.le_of_ble_eq_true (List.all_eq_true.1 h5 k hk), apart_spec h6, rfl, rfl, h⟩

/-- what a projection says -/
theorem proj_spec {nm kl : List Nat} {c : Cut} {s : XSt} {x : c.T} (h : proj nm kl c s = some x) : ∃ (σ τ0 : Lab) (ν : List (Nat × Nat)), projVars s.env c.vars = some (x.1, σ) ∧ projObjs s.objs c.objs = some (x.2.1, τ0) ∧
    projOwn s.env s.objs c.own = some (x.2.2.1, ν) ∧ projArrs s.objs c.arrs = some x.2.2.2 ∧ keptEnv s (c.labs ++ ownNames c.own) c.keepS = true ∧ keptObjs s (c.labs ++ ownNames c.own) c.keepO = true ∧
    (∀ n ∈ oldLabs (σ ++ τ0) ++ kl, n ∈ s.live) ∧ (oldLabs (σ ++ τ0) ++ kl).Nodup ∧ (c.labs ++ kl).Nodup ∧ (∀ k ∈ nm, k ∈ c.others) ∧ (∀ t ∈ c.keepS, t ∉ slotsOf c.vars ++ ownSlots c.own) ∧
    (∀ k ∈ c.keepO, k ∉ namesOf c.objs ++ (ownNames c.own ++ arrNames c.arrs)) ∧ ownOk c ν (some x) = some x := by
  unfold proj at h
  split at h
  · rename_i x1 σ y1 τ0 u1 ν v1 hx hy hu hv
    cases h1 : keptEnv s (c.labs ++ ownNames c.own) c.keepS with
    | false => simp [h1] at h
    | true =>
    cases h2 : keptObjs s (c.labs ++ ownNames c.own) c.keepO with
    | false => simp [h1, h2] at h
    | true =>
    cases h3 : subL (oldLabs (σ ++ τ0) ++ kl) s.live with
    | false => simp only [h1, h2, h3, cond_true, cond_false] at h; cases h
    | true =>
    cases h4 : nodupL (oldLabs (σ ++ τ0) ++ kl) with
    | false => simp only [h1, h2, h3, h4, cond_true, cond_false] at h; cases h
    | true =>
    cases h5 : nodupL (c.labs ++ kl) with
    | false => simp only [h1, h2, h3, h4, h5, cond_true, cond_false] at h; cases h
    | true =>
    cases h6 : subL nm c.others with
    | false => simp only [h1, h2, h3, h4, h5, h6, cond_true, cond_false] at h; cases h
    | true =>
    cases h7 : apart c.keepS (slotsOf c.vars ++ ownSlots c.own) with
    | false => simp only [h1, h2, h3, h4, h5, h6, h7, cond_true, cond_false] at h; cases h
    | true =>
    cases h8 : apart c.keepO (namesOf c.objs ++ (ownNames c.own ++ arrNames c.arrs)) with
    | false => simp only [h1, h2, h3, h4, h5, h6, h7, h8, cond_true, cond_false] at h; cases h
    | true =>
      simp only [h1, h2, h3, h4, h5, h6, h7, h8, cond_true] at h
      have h9 := (ownOk_spec h).2.2.2.2.2.2.2.2
      cases h9
      exact ⟨σ, τ0, ν, hx, hy, hu, hv, rfl, rfl, subL_spec h3, nodupL_spec h4, nodupL_spec h5, subL_spec h6, apart_spec h7, apart_spec h8, h⟩
  · cases h

theorem RA.osl_name {g g' : Gh} {w : World} {k k' off len sz : Nat} {v : Value} (h : RA g w (.osl k off len sz) v) (hk : g'.ρ k' = g.ρ k) : RA g' w (.osl k' off len sz) v := by
  cases h with
  | nm _ _ _ h => exact .nm _ _ _ (by rw [hk]; exact h)

theorem cut_sound {nm : List Nat} {c : Cut} {s s0 : XSt} {x : c.T} (h : proj nm (keepL s0 c) c s = some x) (hi1 : ∀ t ∈ c.keepS, ∀ x, t ∉ s.wl → lk t s.env = some x → lk t s0.env = some x)
    (hi2 : ∀ k ∈ c.keepO, ∀ x, k ∉ s.ol → lk k s.objs = some x → lk k s0.objs = some x) {S : Sig} {B : Base} {g : Gh} {w : World} {a : Act} (hs : SR S B g w s.im a)
    (hnm : S.names = nm) : ∃ g', SR S B g' w (gen s0 c x).im a := by
  generalize hkl : keepL s0 c = kl at h
  obtain ⟨σ, τ0, ν, hx, hy, hu, hv, h1, h2, l3, l4, l5, l6, l7, l8, hown⟩ := proj_spec h
  obtain ⟨w1, w2, w3, w4, w5, w6, w7, w8, -⟩ := ownOk_spec hown
  generalize hτ : σ ++ τ0 = τ at l3 l4
  have k1 := keptEnv_spec h1
  have k2 := keptObjs_spec h2
  obtain ⟨n4a, n4b, n4c⟩ := nodup_app l4
  obtain ⟨n5a, n5b, n5c⟩ := nodup_app l5
  have hmap : τ.map (·.1) = c.labs := by
    rw [← hτ, List.map_append, projVars_labs hx, projObjs_labs hy]; rfl
  have hνn := projOwn_nodup hu w1
  have hνm := projOwn_names hu
  have hr := hs.hr
  let g' := cutGh g τ kl ν
  have hβ : ∀ n, g'.β n = cond (inl n kl) (g.β n) (match lk n τ with | some (some m) => g.β m | some none => some none | none => none) := fun n => rfl
  have hρ : ∀ k, k ∉ ownNames c.own → g'.ρ k = g.ρ k := by
    intro k hk
    show (match lk k ν with | some k => g.ρ k | none => g.ρ k) = g.ρ k
    cases hl : lk k ν with
    | none => rfl
    | some z => exact absurd (hνm _ (lk_mem hl)) hk
  have hρν : ∀ n k, (n, k) ∈ ν → g'.ρ n = g.ρ k := by
    intro n k hm
    show (match lk n ν with | some k => g.ρ k | none => g.ρ n) = g.ρ k
    rw [lk_of_mem hνn hm]
  have βkeep : ∀ n, n ∈ kl → g'.β n = g.β n := by
    intro n hn
    rw [hβ, (inl_eq _ _).2 hn]; rfl
  have βnew : ∀ n m, (n, some m) ∈ τ → g'.β n = g.β m := by
    intro n m hm
    have hn : n ∈ c.labs := by rw [← hmap]; exact List.mem_map_of_mem (f := (·.1)) hm
    have hk : inl n kl = false := by
      cases hh : inl n kl with
      | false => rfl
      | true => exact absurd ((inl_eq _ _).1 hh) (n5c n hn)
    rw [hβ, hk, lk_of_mem (by rw [hmap]; exact n5a) hm]; rfl
  have βother : ∀ n, n ∉ c.labs → n ∉ kl → g'.β n = none := by
    intro n hn hk
    have hk' : inl n kl = false := by
      cases hh : inl n kl with
      | false => rfl
      | true => exact absurd ((inl_eq _ _).1 hh) hk
    rw [hβ, hk']
    cases hl : lk n τ with
    | none => rfl
    | some z => exact absurd (by rw [← hmap]; exact List.mem_map_of_mem (f := (·.1)) (lk_mem hl)) hn
  -- where a live label comes from
  have βsrc : ∀ n b, g'.β n = some (some b) → (n ∈ kl ∧ g.β n = some (some b)) ∨ ∃ m, (n, some m) ∈ τ ∧ g.β m = some (some b) := by
    intro n b hb
    by_cases hk : n ∈ kl
    · exact .inl ⟨hk, by rw [← βkeep n hk]; exact hb⟩
    · by_cases hn : n ∈ c.labs
      · rw [← hmap] at hn
        obtain ⟨z, hz⟩ := lk_isSome hn
        cases z with
        | some m => exact .inr ⟨m, lk_mem hz, by rw [← βnew n m (lk_mem hz)]; exact hb⟩
        | none =>
          have hk' : inl n kl = false := by
            cases hh : inl n kl with
            | false => rfl
            | true => exact absurd ((inl_eq _ _).1 hh) hk
          rw [hβ, hk', hz] at hb
          simp at hb
      · rw [βother n hn hk] at hb; cases hb
  have ht : Trans (c.labs ++ ownNames c.own) g w g' w := ⟨.refl _ _, fun k hk => hρ k fun hm => hk (List.mem_append_right _ hm), fun n ob hn he => by
    by_cases hk : n ∈ kl
    · exact ⟨by rw [← βkeep n hk]; exact he, fun _ _ => ⟨rfl, rfl⟩⟩
    · rw [βother n (fun hm => hn (List.mem_append_left _ hm)) hk] at he; cases he⟩
  have hσ : ∀ n m, (n, some m) ∈ τ → ∀ ob, g'.β n = some ob → g.β m = some ob := fun n m hm ob he => by rw [← βnew n m hm]; exact he
  have notOwn : ∀ k, k ∈ c.others → k ∉ ownNames c.own := fun k hk hm => w2 k hm hk
  -- the objects
  have hobj : ∀ k o, (imObjs (gen s0 c x).objs).lookup k = some o → ∃ k0 p, s.im.X.objs.lookup k0 = some p ∧ g'.ρ k = g.ρ k0 ∧ ObRel g' w (g.ρ k0) o ∧ ((k, k0) ∈ ν ∨ (k0 = k ∧ k ∈ c.others)) := by
    intro k o hk
    obtain ⟨y, hyl, rfl⟩ := imObjs_mem hk
    have hm := lk_mem hyl
    rcases List.mem_append.1 hm with hm | hm
    · obtain ⟨vs, cs, ty, u, σ', e1, e2, rfl, e4, e5, e6⟩ := projObjs_mem hy hm
      have hoth : k ∈ c.others := List.mem_append_left _ (List.mem_append_left _ e5)
      refine ⟨k, _, lk_im e1, hρ k (notOwn k hoth), ?_, .inr ⟨rfl, hoth⟩⟩
      have := hr.objs k _ (lk_im e1)
      cases this with
      | cells _ _ arr T r1 r2 r3 r4 =>
        have pc := projCells_ra (g := g) (g' := g') (w := w) (ns := ownNames c.own) (vs := arr.toList) rfl hρ (e6 _ w8) e2 (fun n m hm => hσ n m (by rw [← hτ]; exact List.mem_append_right _ (e4 _ hm))) (by
          intro i x v hx hv
          exact r3 i x.a v (by rw [asOf_get, hx]; rfl) (by simpa using hv))
        refine .cells _ _ arr T r1 (by rw [asOf_length, pc.2, ← asOf_length]; exact r2) ?_ r4
        intro i x v hx hv
        rw [asOf_get, Option.map_eq_some_iff] at hx
        obtain ⟨z, hz, rfl⟩ := hx
        exact pc.1 i z v hz (by simpa using hv)
    · rcases List.mem_append.1 hm with hm | hm
      · obtain ⟨k0, q1, q2⟩ := projOwn_memO hu hm
        obtain ⟨_, t, u, rfl⟩ := genOwnO_arr hm
        exact ⟨k0, _, lk_imA q2, hρν _ _ q1, (hr.objs k0 _ (lk_imA q2)).keep ht rfl (.inr (arr_free _ _ _)), .inl q1⟩
      · rcases List.mem_append.1 hm with hm | hm
        · obtain ⟨q1, q2⟩ := projArrs_mem hv hm
          obtain ⟨t, u, rfl⟩ := genArrs_arr hm
          have hoth : k ∈ c.others := List.mem_append_left _ (List.mem_append_right _ q2)
          exact ⟨k, _, lk_imA q1, hρ k (notOwn k hoth), (hr.objs k _ (lk_imA q1)).keep ht rfl (.inr (arr_free _ _ _)), .inr ⟨rfl, hoth⟩⟩
        · obtain ⟨hk1, hk2⟩ := keepObjs_mem hm
          obtain ⟨q1, z, q2, q3⟩ := k2 k hk1
          have := hi2 k hk1 z q1 q2
          rw [hk2] at this
          cases this
          have hl : s.im.X.objs.lookup k = some y.o := by
            show (imObjs s.objs).lookup k = _
            rw [im_objs, q2]; rfl
          have hoth : k ∈ c.others := List.mem_append_right _ hk1
          exact ⟨k, _, hl, hρ k (notOwn k hoth), (hr.objs k _ hl).keep ht rfl (.inr q3), .inr ⟨rfl, hoth⟩⟩
  refine ⟨g', hs.defers, hs.size, ?_, ?_⟩
  · refine ⟨?_, hr.sane, hr.base, hr.io, hr.le, hr.frame, ?_, ?_, ?_, ?_, ?_, ?_, ?_, ?_, ?_⟩
    · intro k hk
      have hk' := l6 k (hnm ▸ hk)
      refine ⟨(hρ k (notOwn k hk')).trans (hr.keep k hk).1, ?_⟩
      show ((imObjs (gen s0 c x).objs).lookup k).isSome = true
      rw [im_objs, Option.isSome_map]
      have key : k ∈ (gen s0 c x).objs.map (·.1) := by
        unfold gen
        simp only [List.map_append, genObjs_names, genArrs_names, List.mem_append]
        unfold Cut.others at hk'
        simp only [List.mem_append] at hk'
        rcases hk' with (hm | hm) | hm
        · exact .inl hm
        · exact .inr (.inr (.inl hm))
        · refine .inr (.inr (.inr ?_))
          obtain ⟨q1, z, q2, q3⟩ := k2 k hm
          have hz := hi2 k hm z q1 q2
          have : ∀ (l : List Nat), k ∈ l → k ∈ (keepObjs s0.objs l).map (·.1) := by
            intro l
            induction l with
            | nil => simp
            | cons j r ih =>
              intro hj
              unfold keepObjs
              rcases List.mem_cons.1 hj with rfl | hj
              · rw [hz]; exact List.mem_cons_self
              · split
                · exact List.mem_cons_of_mem _ (ih hj)
                · exact ih hj
          exact this _ hm
      obtain ⟨z, hz⟩ := lk_isSome key
      rw [hz]; rfl
    · intro k o hk
      obtain ⟨k0, p, hp, he, ho, _⟩ := hobj k o hk
      rw [he]; exact ho
    · intro k o hk; obtain ⟨k0, p, hp, he, _⟩ := hobj k o hk; show g.γ (g'.ρ k) = 0; rw [he]; exact hr.objγ k0 p hp
    · intro k k' o o' hk hk' he
      obtain ⟨k0, p, hp, e1, _, d1⟩ := hobj k o hk
      obtain ⟨k0', q, hq, e2, _, d2⟩ := hobj k' o' hk'
      have he' : g.ρ k0 = g.ρ k0' := by rw [← e1, ← e2]; exact he
      have := hr.objinj k0 k0' p q hp hq he'
      subst this
      rcases d1 with d1 | ⟨d1, d1'⟩ <;> rcases d2 with d2 | ⟨d2, d2'⟩
      · have inj : ∀ (ν : List (Nat × Nat)), (ν.map (·.2)).Nodup → (k, k0) ∈ ν → (k', k0) ∈ ν → k = k' := by
          intro ν
          induction ν with
          | nil => intro _ h; simp at h
          | cons p r ih =>
            intro hnd h h'
            simp only [List.map_cons, List.nodup_cons] at hnd
            rcases List.mem_cons.1 h with z | z <;> rcases List.mem_cons.1 h' with z' | z'
            · subst z; cases z'; rfl
            · subst z; exact absurd (List.mem_map.2 ⟨_, z', rfl⟩) hnd.1
            · subst z'; exact absurd (List.mem_map.2 ⟨_, z, rfl⟩) hnd.1
            · exact ih hnd.2 z z'
        exact inj ν w3 d1 d2
      · subst d2; exact absurd d2' (w4 _ (List.mem_map_of_mem (f := (·.2)) d1))
      · subst d1; exact absurd d1' (w4 _ (List.mem_map_of_mem (f := (·.2)) d2))
      · exact d1.symm.trans d2
    · intro k o hk; obtain ⟨k0, p, hp, he, _⟩ := hobj k o hk; show B.n0 ≤ g'.ρ k ∨ B.allowed (g'.ρ k); rw [he]; exact hr.objnew k0 p hp
    · intro n
      show n ∈ c.labs ++ keepL s0 c ↔ _
      rw [hkl]
      rw [List.mem_append]
      constructor
      · rintro (hn | hn)
        · have hn' := hn
          rw [← hmap] at hn'
          obtain ⟨z, hz⟩ := lk_isSome hn'
          cases z with
          | some m =>
            rw [βnew n m (lk_mem hz)]
            exact (hr.live m).1 (l3 m (List.mem_append_left _ (oldLabs_mem.2 ⟨n, lk_mem hz⟩)))
          | none =>
            have hk' : inl n kl = false := by
              cases hh : inl n kl with
              | false => rfl
              | true => exact absurd ((inl_eq _ _).1 hh) (n5c n hn)
            rw [hβ, hk', hz]; rfl
        · rw [βkeep n hn]
          exact (hr.live n).1 (l3 n (List.mem_append_right _ hn))
      · intro hn
        by_cases hk : n ∈ kl
        · exact .inr hk
        · by_cases hl : n ∈ c.labs
          · exact .inl hl
          · rw [βother n hl hk] at hn; cases hn
    · intro n m b hn hm
      rcases βsrc n b hn with ⟨a1, a2⟩ | ⟨p, a1, a2⟩ <;> rcases βsrc m b hm with ⟨b1, b2⟩ | ⟨q, b1, b2⟩
      · exact hr.tipinj n m b a2 b2
      · have := hr.tipinj n q b a2 b2
        subst this
        exact absurd a1 (n4c n (oldLabs_mem.2 ⟨m, b1⟩))
      · have := hr.tipinj p m b a2 b2
        subst this
        exact absurd b1 (n4c p (oldLabs_mem.2 ⟨n, a1⟩))
      · have := hr.tipinj p q b a2 b2
        subst this
        exact oldLabs_inj n4a a1 b1
    · intro n b k o hn hk
      obtain ⟨k0, p, hp, he, _⟩ := hobj k o hk
      rw [he]
      rcases βsrc n b hn with ⟨a1, a2⟩ | ⟨m, a1, a2⟩
      · exact hr.tipobj n b k0 p a2 hp
      · exact hr.tipobj m b k0 p a2 hp
    · intro n b hn
      rcases βsrc n b hn with ⟨a1, a2⟩ | ⟨m, a1, a2⟩
      · exact hr.tipnew n b a2
      · exact hr.tipnew m b a2
    · intro n b hn
      rcases βsrc n b hn with ⟨a1, a2⟩ | ⟨m, a1, a2⟩
      · exact hr.tiplt n b a2
      · exact hr.tiplt m b a2
  · intro t y hty
    obtain ⟨z, hz, rfl⟩ := imEnv_mem hty
    rcases List.mem_append.1 (lk_mem hz) with hm | hm
    · obtain ⟨v, z0, u, σ', e1, e2, rfl, e4, e5⟩ := projVars_mem hx hm
      obtain ⟨val, hv, hra⟩ := hs.env t z0.a (lk_sees e1)
      exact ⟨val, hv, VK.proj_ra (g := g) (g' := g') (w := w) (ns := ownNames c.own) e2 rfl hρ (e5 _ w7) (fun n m hm => hσ n m (by rw [← hτ]; exact List.mem_append_left _ (e4 _ hm))) hra⟩
    · rcases List.mem_append.1 hm with hm | hm
      · rcases projOwn_memE hu hm with ⟨rfl, e1⟩ | ⟨n, k, ty, len, e1, e2, rfl⟩
        · obtain ⟨val, hv, hra⟩ := hs.env t _ (lk_sees e1)
          exact ⟨val, hv, hra.mono ht (.d _)⟩
        · obtain ⟨val, hv, hra⟩ := hs.env t _ (lk_sees e2)
          exact ⟨val, hv, RA.osl_name hra (hρν _ _ e1)⟩
      · obtain ⟨hk1, hk2⟩ := keepEnv_mem hm
        obtain ⟨q1, z1, q2, q3⟩ := k1 t hk1
        have := hi1 t hk1 z1 q1 q2
        rw [hk2] at this
        cases this
        obtain ⟨val, hv, hra⟩ := hs.env t z.a (lk_sees q2)
        exact ⟨val, hv, hra.mono ht (free_of q3)⟩

theorem proj_apart {nm kl : List Nat} {c : Cut} {s : XSt} {x : c.T} (h : proj nm kl c s = some x) : (∀ t ∈ c.keepS, t ∉ slotsOf c.vars ++ ownSlots c.own) ∧ ∀ k ∈ c.keepO, k ∉ namesOf c.objs ++ (ownNames c.own ++ arrNames c.arrs) := by
  obtain ⟨σ, τ0, ν, hx, hy, hu, hv, h1, h2, l3, l4, l5, l6, l7, l8, hown⟩ := proj_spec h
  exact ⟨l7, l8⟩

end Go.Xl
/-
  Code, loops, functions: the interpreter, and that what it says holds.
-/
set_option linter.unusedVariables false
set_option linter.unusedSimpArgs false
set_option linter.unnecessarySimpa false
namespace Go.Xl
open Go.Ab

/-- notes beside the code: where ways meet, loops -/
inductive An where
  | lf
  | seq (a b : An)
  | join (c : Cut) (a b : An)
  | cond (a b : An)
  | blk (a : An)
  | loop (c : Cut) (a : An)

def An.l : An → An
  | .seq a _ => a
  | .cond a _ => a
  | .blk a => a
  | .join _ a _ => a
  | .loop _ a => a
  | .lf => .lf
def An.r : An → An
  | .seq _ b => b
  | .cond _ b => b
  | .join _ _ b => b
  | _ => .lf

/-- rounds: at most so many -/
def iter {σ : Type} {R : Type} (f : (σ → Option R) → σ → Option R) : Nat → σ → Option R
  | 0, _ => none
  | n + 1, x => f (iter f n) x

/-- where ways meet -/
def joinAt {σ : Type} {R : Type} (k : σ → Option R) (f : (σ → Option R) → Option R) : Option R := f k

/-- a slice that owns its block may be nil -/
def optCase {α β : Type} (x : Option α) (a : β) (f : α → β) : β :=
  match x with
  | none => a
  | some y => f y

def caseOwn {R : Type} : (l : List (Tmp × Nat × Ty)) → OwnT l → (OwnT l → Option R) → Option R
  | [], u, K => K u
  | _ :: r, u, K => optCase u.1 (caseOwn r u.2 fun v => K (none, v)) (fun y => caseOwn r u.2 fun v => K (some y, v))

theorem caseOwn_eq {R : Type} : ∀ (l : List (Tmp × Nat × Ty)) (u : OwnT l) (K : OwnT l → Option R), caseOwn l u K = K u
  | [], u, K => rfl
  | p :: r, u, K => by
    obtain ⟨a, v⟩ := u
    unfold caseOwn
    cases a with
    | none => exact caseOwn_eq r v _
    | some y => exact caseOwn_eq r v _

def exitIs (i j : Nat) : Bool := Nat.beq i j

/-- as the cut begins -/
def base (st : XSt) : XSt := ⟨st.env, st.objs, st.live, [], []⟩
/-- behind a cut: what has been written since -/
def relog (c : Cut) (st s : XSt) : XSt := ⟨s.env, s.objs, s.live, s.wl ++ ((slotsOf c.vars ++ ownSlots c.own) ++ st.wl), s.ol ++ ((namesOf c.objs ++ (ownNames c.own ++ arrNames c.arrs)) ++ st.ol)⟩
def relog0 (st s : XSt) : XSt := ⟨s.env, s.objs, s.live, s.wl ++ st.wl, s.ol ++ st.ol⟩

section
variable (P : Program) (Γ : List (Ent P)) (own nm : List Nat) (nt N : Nat) {R : Type}

def onNormal (f : XSt → Option R) (K : Exit → XSt → Option R) : Exit → XSt → Option R
  | .normal, s => f s
  | e, s => K e s

def onBlock (id : Nat) (K : Exit → XSt → Option R) : Exit → XSt → Option R
  | .exit j, s => cond (exitIs j id) (K .normal s) (K (.exit j) s)
  | e, s => K e s

def knowOp (x : Operand) (b : Bool) (st : XSt) : XSt :=
  match x with
  | .tmp t => knowSt t b st
  | _ => st

def exec : Code → An → XSt → (Exit → XSt → Option R) → Option R
  | .skip, _, st, K => K .normal st
  | .label _, _, st, K => K .normal st
  | .exit id, _, st, K => K (.exit id) st
  | .ret, _, st, K => K .ret st
  | .region _ ops draw, _, st, K => xops P Γ own nt ops draw st.env (K .normal) ops.toList [] st
  | .seq a b, an, st, K =>
    match an with
    | .join c x y =>
      joinAt (fun z => caseOwn c.own z.2.2.1 fun u => exec b y (relog c st (gen (base st) c (z.1, z.2.1, u, z.2.2.2))) K)
        (fun k => exec a x (base st) (onNormal (fun s => Option.bind (proj nm (keepL (base st) c) c s) k) (fun e s => K e (relog0 st s))))
    | _ => exec a an.l st (onNormal (fun s => exec b an.r s K) K)
  | .cond c a b, an, st, K =>
    match xeval st c with
    | some (.d (.b v)) => cond v (exec a an.l (knowOp c true st) K) (exec b an.r (knowOp c false st) K)
    | _ => none
  | .block id c, an, st, K => exec c an.l st (onBlock id K)
  | .loop b, an, st, K =>
    match an with
    | .loop c x => Option.bind (proj nm (keepL (base st) c) c (base st)) (iter (fun rec z => caseOwn c.own z.2.2.1 fun u => exec b x (gen (base st) c (z.1, z.2.1, u, z.2.2.2)) (onNormal (fun s => Option.bind (proj nm (keepL (base st) c) c s) rec) (fun e s => K e (relog c st s)))) N)
    | _ => none
  | _, _, _, _ => none

end

section
variable {P : Program} {Γ : List (Ent P)} {own nm : List Nat} {N : Nat} {R : Type}

/-- what holds where a walk arrives -/
def PostE (s0 : XSt) (K : Exit → XSt → Option R) (r : R) : Exit → St → Prop := fun e s => ∃ st', s = st'.im ∧ Inv s0 st' ∧ K e st' = some r

theorem genVars_slot {t : Nat} {y : XV} : ∀ (l : List (Tmp × VK)) (x : VarsT l), (t, y) ∈ genVars l x → t ∈ slotsOf l
  | [], x, h => by simp [genVars] at h
  | p :: r, x, h => by
    simp only [genVars, List.mem_cons] at h
    simp only [slotsOf, List.mem_cons]
    rcases h with h | h
    · cases h; exact .inl rfl
    · exact .inr (genVars_slot r _ h)

theorem genOwnE_slot {t : Nat} {y : XV} : ∀ (l : List (Tmp × Nat × Ty)) (x : OwnT l), (t, y) ∈ genOwnE l x → t ∈ ownSlots l
  | [], x, h => by simp [genOwnE] at h
  | p :: r, x, h => by
    simp only [genOwnE, List.mem_cons] at h
    simp only [ownSlots, List.mem_cons]
    rcases h with h | h
    · cases h; exact .inl rfl
    · exact .inr (genOwnE_slot r _ h)

theorem genObjs_name {k : Nat} {y : XOb} : ∀ (l : List (Nat × List VK × Option TypeId)) (x : ObjsT l), (k, y) ∈ genObjs l x → k ∈ namesOf l
  | [], x, h => by simp [genObjs] at h
  | p :: r, x, h => by
    simp only [genObjs, List.mem_cons] at h
    simp only [namesOf, List.mem_cons]
    rcases h with h | h
    · cases h; exact .inl rfl
    · exact .inr (genObjs_name r _ h)

theorem lk_gen {s0 : XSt} {c : Cut} {x : c.T} {t : Nat} {y : XV} (h : lk t (gen s0 c x).env = some y) : t ∈ slotsOf c.vars ++ ownSlots c.own ∨ lk t s0.env = some y := by
  rcases List.mem_append.1 (lk_mem h) with hm | hm
  · exact .inl (List.mem_append_left _ (genVars_slot _ _ hm))
  · rcases List.mem_append.1 hm with hm | hm
    · exact .inl (List.mem_append_right _ (genOwnE_slot _ _ hm))
    · exact .inr (keepEnv_mem hm).2

theorem lk_genO {s0 : XSt} {c : Cut} {x : c.T} {t : Nat} {y : XOb} (h : lk t (gen s0 c x).objs = some y) : t ∈ namesOf c.objs ++ (ownNames c.own ++ arrNames c.arrs) ∨ lk t s0.objs = some y := by
  rcases List.mem_append.1 (lk_mem h) with hm | hm
  · exact .inl (List.mem_append_left _ (genObjs_name _ _ hm))
  · rcases List.mem_append.1 hm with hm | hm
    · exact .inl (List.mem_append_right _ (List.mem_append_left _ (genOwnO_arr hm).1))
    · rcases List.mem_append.1 hm with hm | hm
      · exact .inl (List.mem_append_right _ (List.mem_append_right _ (by rw [← genArrs_names]; exact List.mem_map_of_mem (f := (·.1)) hm)))
      · exact .inr (keepObjs_mem hm).2

/-- behind a cut, seen from its beginning's beginning -/
theorem Inv.relog {s0 st s : XSt} {c : Cut} {x : c.T} (h : Inv s0 st) (h' : Inv (gen (base st) c x) s) : Inv s0 (relog c st s) := by
  refine ⟨fun t y ht hy => ?_, fun k y hk hy => ?_⟩
  · unfold Xl.relog at ht hy
    simp only at ht hy
    rw [List.mem_append, List.mem_append (s := slotsOf c.vars ++ ownSlots c.own), not_or, not_or] at ht
    have h1 := h'.env t y ht.1 hy
    rcases lk_gen h1 with h2 | h2
    · exact absurd h2 ht.2.1
    · exact h.env t y ht.2.2 h2
  · unfold Xl.relog at hk hy
    simp only at hk hy
    rw [List.mem_append, List.mem_append (s := namesOf c.objs ++ (ownNames c.own ++ arrNames c.arrs)), not_or, not_or] at hk
    have h1 := h'.objs k y hk.1 hy
    rcases lk_genO h1 with h2 | h2
    · exact absurd h2 hk.2.1
    · exact h.objs k y hk.2.2 h2

theorem Inv.relog0 {s0 st s : XSt} (h : Inv s0 st) (h' : Inv (base st) s) : Inv s0 (relog0 st s) := by
  refine ⟨fun t y ht hy => ?_, fun k y hk hy => ?_⟩
  · simp only [Xl.relog0, List.mem_append, not_or] at ht hy
    exact h.env t y ht.2 (h'.env t y ht.1 hy)
  · simp only [Xl.relog0, List.mem_append, not_or] at hk hy
    exact h.objs k y hk.2 (h'.objs k y hk.1 hy)

/-- seen from the state at the cut's beginning -/
theorem Inv.from_gen {st s : XSt} {c : Cut} {x : c.T} (h' : Inv (gen (base st) c x) s) (t : Nat) : True := trivial

theorem relog_im (c : Cut) (st s : XSt) : (relog c st s).im = s.im := rfl
theorem relog0_im (st s : XSt) : (relog0 st s).im = s.im := rfl
theorem base_im (st : XSt) : (base st).im = st.im := rfl
theorem Inv.base (st : XSt) : Inv (base st) (Xl.base st) := .refl _

theorem knowOp_ok {S : Sig} {st : XSt} {x : Operand} {b : Bool} {s0 : XSt} (hx : xeval st x = some (.d (.b b))) (hi : Inv s0 st) :
    Inv s0 (knowOp x b st) ∧ ∀ (B : Base) (g : Gh) (w : World) (a : Act), SR S B g w st.im a → SR S B g w (knowOp x b st).im a := by
  cases x with
  | tmp t =>
    replace hx := (xeval_tmp hx).2
    exact ⟨hi.know hx, fun B g w a h => h.known (lk_sees hx)⟩
  | const v => exact ⟨hi, fun _ _ _ _ h => h⟩
  | func f => exact ⟨hi, fun _ _ _ _ h => h⟩
  | global g => exact ⟨hi, fun _ _ _ _ h => h⟩

theorem range_spec (ops : Array Oper) : ∀ (j : Nat) o, ops.toList[j]? = some o → ops[0 + j]? = some o := by
  intro j o h
  rw [Nat.zero_add]
  simpa using h

theorem awp_conseq {S : Sig} {c : Code} {Q Q' : Exit → St → Prop} {st : St} (h : AWp P S c Q st) (hq : ∀ e s, Q e s → ∀ (B : Base) (g : Gh) (w : World) (a : Act), SR S B g w s a → ∃ s' g', Q' e s' ∧ SR S B g' w s' a) : AWp P S c Q' st := by
  intro B g w a hs
  refine wp_mono (h B g w a hs) ?_
  rintro e a' w' ⟨s, g', q, hs'⟩
  exact hq e s q B g' w' a' hs'

theorem exec_sound (hm : P.follows .mixedOrders = true) {S : Sig} (hnm : S.names = nm) : ∀ (c : Code) (an : An) (st s0 : XSt) (K : Exit → XSt → Option R) (r : R), Inv s0 st →
    exec P Γ own nm S.N N c an st K = some r → AWp P S c (PostE s0 K r) st.im := by
  intro c
  induction c with
  | skip => intro an st s0 K r hi h; exact awp_skip ⟨st, rfl, hi, h⟩
  | label l => intro an st s0 K r hi h; exact awp_label ⟨st, rfl, hi, h⟩
  | exit id => intro an st s0 K r hi h; exact awp_exit ⟨st, rfl, hi, h⟩
  | ret => intro an st s0 K r hi h; exact awp_ret ⟨st, rfl, hi, h⟩
  | region id ops draw =>
    intro an st s0 K r hi h
    simp only [exec] at h
    cases draw with
    | false =>
      have := xops_rw (S := S) ops.toList 0 [] st (range_spec ops) hi h
      refine awp_rw (n := ops.toList.length) (by simp) ?_
      rw [List.range_eq_range']
      exact this
    | true =>
      have := xops_dw (S := S) ops.toList 0 [] st (range_spec ops) hi h
      exact awp_dw ops.toList.length hm this
  | seq a b iha ihb =>
    intro an st s0 K r hi h
    have plain : exec P Γ own nm S.N N a an.l st (onNormal (fun s => exec P Γ own nm S.N N b an.r s K) K) = some r → AWp P S (.seq a b) (PostE s0 K r) st.im := by
      intro h
      refine awp_seq (awp_mono (iha _ st s0 _ r hi h) ?_)
      rintro e s ⟨st', rfl, hi', hk⟩
      cases e with
      | normal => exact ihb _ st' s0 K r hi' hk
      | _ => exact ⟨st', rfl, hi', hk⟩
    unfold exec at h
    split at h
    · rename_i cut x y
      unfold joinAt at h
      refine awp_seq (awp_mono (iha x (base st) (base st) _ r (.refl _) h) ?_)
      rintro e s ⟨st', rfl, hi', hk⟩
      cases e with
      | normal =>
        simp only [onNormal, Option.bind_eq_some_iff] at hk
        obtain ⟨z, hz, hk⟩ := hk
        rw [caseOwn_eq] at hk
        intro B g w act hs
        obtain ⟨g', hs'⟩ := cut_sound (s0 := base st) hz (fun t _ => hi'.env t) (fun k _ => hi'.objs k) hs hnm
        refine ihb y (relog cut st (gen (base st) cut z)) s0 K r (hi.relog (.refl _)) hk B g' w act hs'
      | _ => exact ⟨relog0 st st', rfl, hi.relog0 hi', hk⟩
    · exact plain h
  | cond c a b iha ihb =>
    intro an st s0 K r hi h
    unfold exec at h
    split at h
    · rename_i v hv
      have hsees := xeval_sees hv
      refine awp_cond (b := v) hsees (fun hb => ?_) (fun hb => ?_)
      · subst hb
        simp only [cond_true] at h
        obtain ⟨k1, k2⟩ := knowOp_ok (S := S) hv hi
        intro B g w act hs
        exact iha _ _ s0 K r k1 h B g w act (k2 B g w act hs)
      · subst hb
        simp only [cond_false] at h
        obtain ⟨k1, k2⟩ := knowOp_ok (S := S) hv hi
        intro B g w act hs
        exact ihb _ _ s0 K r k1 h B g w act (k2 B g w act hs)
    · cases h
  | block id c ih =>
    intro an st s0 K r hi h
    simp only [exec] at h
    refine awp_block (awp_mono (ih _ st s0 _ r hi h) ?_)
    rintro e s ⟨st', rfl, hi', hk⟩
    cases e with
    | exit j =>
      simp only [onBlock, exitIs] at hk
      simp only [blockQ]
      cases hb : Nat.beq j id with
      | true =>
        simp only [hb, cond_true] at hk
        rw [if_pos (Nat.eq_of_beq_eq_true hb)]
        exact ⟨st', rfl, hi', hk⟩
      | false =>
        simp only [hb, cond_false] at hk
        rw [if_neg (Nat.ne_of_beq_eq_false hb)]
        exact ⟨st', rfl, hi', hk⟩
    | _ => exact ⟨st', rfl, hi', hk⟩
  | loop b ih =>
    intro an st s0 K r hi h
    unfold exec at h
    split at h
    · rename_i cut x
      obtain ⟨z0, hz0, h⟩ := Option.bind_eq_some_iff.1 h
      intro B g w act hs
      obtain ⟨g', hs'⟩ := cut_sound (s0 := base st) hz0 (fun _ _ _ _ h => h) (fun _ _ _ _ h => h) hs hnm
      generalize hf : (fun (rec : cut.T → Option R) (z : cut.T) => caseOwn cut.own z.2.2.1 fun u => exec P Γ own nm S.N N b x (gen (base st) cut (z.1, z.2.1, u, z.2.2.2)) (onNormal (fun s => Option.bind (proj nm (keepL (base st) cut) cut s) rec) (fun e s => K e (relog cut st s)))) = f at h
      have key : ∀ (n : Nat) (z : cut.T), iter f n z = some r → AWp P S (.loop b) (PostE s0 K r) (gen (base st) cut z).im := by
        intro n z hn
        refine awp_loop (fun n s => ∃ z, iter f n z = some r ∧ s = (gen (base st) cut z).im) n ⟨z, hn, rfl⟩ ?_
        rintro n s ⟨z, hn, rfl⟩
        cases n with
        | zero => simp [iter] at hn
        | succ n =>
          simp only [iter] at hn
          rw [← hf] at hn
          replace hn := (caseOwn_eq _ _ _).symm.trans hn
          refine awp_conseq (ih x _ (gen (base st) cut z) _ r (.refl _) hn) ?_
          rintro e s ⟨st', rfl, hi', hk⟩ B g w act hs
          cases e with
          | normal =>
            simp only [onNormal, Option.bind_eq_some_iff] at hk
            obtain ⟨z', hz', hk⟩ := hk
            obtain ⟨ap1, ap2⟩ := proj_apart hz'
            obtain ⟨g', hs'⟩ := cut_sound (s := st') (s0 := base st) hz' (fun t ht y hw hy => (lk_gen (hi'.env t y hw hy)).resolve_left (ap1 t ht)) (fun k hk y hw hy => (lk_genO (hi'.objs k y hw hy)).resolve_left (ap2 k hk)) hs hnm
            exact ⟨_, g', ⟨n, Nat.lt_succ_self n, z', by rw [hf] at hk; exact hk, rfl⟩, hs'⟩
          | _ => exact ⟨_, g, ⟨relog cut st st', rfl, hi.relog hi', hk⟩, hs⟩
      exact key N z0 h B g' w act hs'
    · cases h
  | _ =>
    intros
    simp_all [exec]

end
end Go.Xl
