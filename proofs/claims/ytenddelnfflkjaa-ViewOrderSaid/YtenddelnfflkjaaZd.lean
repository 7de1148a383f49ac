import Derived.Test.YtenddelnfflkjaaZc
set_option linter.unusedVariables false
set_option linter.unusedSimpArgs false
set_option linter.unnecessarySimpa false
namespace Go.Xl
open Go.Ab
section
variable {P : Program} {R : Type}
def Qcy (P : Program) (t : TypeId) : Option (Ty × Ty) :=
 match P.underlying t with
 | some (.map k e) => match tyOf P 9 k, tyOf P 9 e with
  | some kt, some vt => cond (Qka P k kt) (some (kt, vt)) none
  | _, _ => none
 | _ => none
def Q98 (P : Program) (t : TypeId) (kt : Ty) : Option TypeId :=
 match P.underlying t with
 | some (.map k e) => cond (Qka P k kt) (some e) none
 | _ => none
theorem Q7n {t e : TypeId} {kt vt : Ty} (h : Q98 P t kt = some e) : MapI P t kt vt e := by
 unfold Q98 at h
 split at h
 ·rename_i k e' hu
  cases hk : Qka P k kt with
  | false => simp [hk] at h
  | true =>
   simp only [hk, cond_true, Option.some.injEq] at h
   subst h
   exact ⟨_, hu, Q110 hk⟩
 ·cases h
theorem Q6f {objs : List (Nat × XOb)} {k : Nat} {y : XOb} (h : lk k objs = some y) : (Q0 objs).lookup k = some y.o := by rw [Q1l, h]; rfl
def zeroV (P : Program) (e : TypeId) (vt : Ty) : Option vt.T :=
 match P.info? e with
 | some i => match i.zero with
  | some zv => match zeroT P e vt with
   | some lz => cond (Qb5 zv) (cond vt.agg (some lz.2) none) (cond vt.agg none (some lz.2))
   | none => none
  | none => none
 | none => none
theorem Qsy {e : TypeId} {vt : Ty} {z : vt.T} (h : zeroV P e vt = some z) : ∃ l i zv, zeroT P e vt = some (l, z) ∧ P.info? e = some i ∧ i.zero = some zv ∧ Qb5 zv = vt.agg := by
 unfold zeroV at h
 split at h
 ·rename_i i hi
  split at h
  ·rename_i zv hz
   split at h
   ·rename_i lz hl
    refine ⟨lz.1, i, zv, ?_, hi, hz, ?_⟩
    ·cases ha : Qb5 zv <;> cases hg : vt.agg <;> simp [ha, hg] at h <;> (subst h; exact hl)
    ·cases ha : Qb5 zv <;> cases hg : vt.agg <;> simp [ha, hg] at h <;> rfl
   ·cases h
  ·cases h
 ·cases h
def Qn0 (P : Program) (st : XSt) (o : Oper) (t : TypeId) (r : Option Operand) (K : Out → Option R) : Option R :=
 match r with
 | none => match Qcy P t, newName o with
  | some ts, some m => cond (fresh m st) (K ⟨.all, .nm m .m, [], (m, .map ts.1 ts.2 [] 0) :: st.objs, st.live, [m], [m]⟩) none
  | _, _ => none
 | some _ => none
theorem Qut {o : Oper} {st : XSt} {t : TypeId} {rs : Option Operand} {K : Out → Option R} {r : R} (ho : o.op = .makeMap t rs) (h : Qn0 P st o t rs K = some r) : ∃ out, K out = some r ∧ OpOk P o st out := by
 unfold Qn0 at h
 split at h
 ·split at h
  ·rename_i ts m hm hn
   cases hf : fresh m st with
   | false => simp [hf] at h
   | true =>
    simp only [hf, cond_true] at h
    obtain ⟨h1, h2⟩ := Q5n hf
    refine ⟨_, h, ⟨by simp [imRd], ?_, fun j z hj hz => ?_⟩⟩
    ·exact Qxm (kt := ts.1) (vt := ts.2) m ho (Q5o h1) h2
    ·rw [Q10 (by simpa using hj)] at hz; exact hz
  ·cases h
 ·cases h
def lookX {vt : Ty} (ok : Bool) (x : Option vt.T) (z : vt.T) : XV := cond ok (.tup [.d (vt.xv (x.getD z)), .d (.b x.isSome)]) (.d (vt.xv (x.getD z)))
theorem Qw9 {vt : Ty} (ok : Bool) (x : Option vt.T) (z : vt.T) : (lookX ok x z).a = Qou ok x z := by
 cases ok <;> cases x <;> rfl
theorem Qrj {o : Oper} {X : Store} {t e : TypeId} {kt vt : Ty} {x y : Operand} {ok : Bool} {a : kt.T} {l : List Value} {z : vt.T} {i : TypeInfo} {zv : Value} (ho : o.op = .lookup t x y ok) (hm : MapI P t kt vt e)
  (hz : zeroT P e vt = some (l, z)) (hi : P.info? e = some i) (hzv : i.zero = some zv) (hg : Qb5 zv = vt.agg) :
  OpT P o [(x, .d (.sc (.map none))), (y, .d (kt.dv a))] X X [] (Qou ok (none : Option vt.T) z) :=
 .quiet fun _ _ g w ac hr hrd => by
  obtain ⟨kty, hu, hK⟩ := hm.und
  have h1 := (rd0 hrd).sc_inv
  have h2 : ac.eval y = kt.kval a := by
   have := rd1 hrd
   cases this with
   | d _ _ h => exact kt.kval_inv hK.key h
  simp only at h1
  have hf := hK.find a w [] [] rfl
  have hc := hK.check true 9998 a w
  simp only [kidx, Option.bind_none] at hf
  refine ⟨if ok then .tuple #[zv, .bool false] else zv, ?_, Qhd (Qwk hz hi hzv hg)⟩
  simp [execOp, ho, h1, h2, Instr.lookup, Sem.run_bind, run_underlying hu, Result.andThen_ok, Sem.run_pure, hc, hf, zeroValue, typeInfo, hi, hzv]
def Qpj (P : Program) (st : XSt) (t : TypeId) (x y : Operand) (ok : Bool) (K : Out → Option R) : Option R :=
 match xeval st x with
 | some (.nm k .m) => match lk k st.objs with
  | some (.map kt vt es c) => match Q98 P t kt, xd st y with
   | some e, some a => match kt.decv a, zeroV P e vt with
    | some a, some z => K ⟨.look [k], lookX ok (mget a es) z, [(x, .nm k .m), (y, .d (kt.xv a))], st.objs, st.live, [], []⟩
    | _, _ => none
   | _, _ => none
  | _ => none
 | some (.d (.v (.map none))) => match Qcy P t, xd st y with
  | some ts, some a => match Q98 P t ts.1 with
   | some e => match ts.1.decv a, zeroV P e ts.2 with
    | some a, some z => K (Q7 st (lookX ok none z) [(x, .d (.v (.map none))), (y, .d (ts.1.xv a))])
    | _, _ => none
   | none => none
  | _, _ => none
 | _ => none
theorem Q8u {st : XSt} {y : Operand} {x : XD} {kt : Ty} {a : kt.T} (h : xd st y = some x) (hd : kt.decv x = some a) : Sees st.im y (.d (kt.dv a)) := Qgq h (kt.decv_spec hd)
theorem Qwu {o : Oper} {st : XSt} {t : TypeId} {x y : Operand} {ok : Bool} {K : Out → Option R} {r : R} (ho : o.op = .lookup t x y ok) (h : Qpj P st t x y ok K = some r) : ∃ out, K out = some r ∧ OpOk P o st out := by
 unfold Qpj at h
 split at h
 ·rename_i k hx
  split at h
  ·rename_i kt vt es c hk
   split at h
   ·rename_i e a0 hm hy
    split at h
    ·rename_i a z ha hz
     obtain ⟨l, i, zv, z1, z2, z3, z4⟩ := Qsy hz
     refine ⟨_, h, ⟨?_, ⟨rfl, rfl, rfl, fun X hX => ?_⟩, fun _ _ _ h => h⟩⟩
     ·intro p hp
      simp only [imRd, List.map_cons, List.map_nil, List.mem_cons, List.not_mem_nil, or_false] at hp
      rcases hp with rfl | rfl
      ·exact Q9 hx
      ·exact Q8u hy ha
     ·have := Qzf (P := P) (X := X) (k := k) (es := es) (clock := c) (a := a) ho (Q7n hm) z1 z2 z3 z4 ((hX k (by simp)).trans (Q6f hk))
      rw [Qw9]
      exact this
    ·cases h
   ·cases h
  ·cases h
 ·rename_i hx
  split at h
  ·rename_i ts a0 hm hy
   split at h
   ·rename_i e he
    split at h
    ·rename_i a z ha hz
     obtain ⟨l, i, zv, z1, z2, z3, z4⟩ := Qsy hz
     refine ⟨_, h, Q3 ?_ fun X => ?_⟩
     ·intro p hp
      simp only [imRd, List.map_cons, List.map_nil, List.mem_cons, List.not_mem_nil, or_false] at hp
      rcases hp with rfl | rfl
      ·exact Q9 hx
      ·exact Q8u hy ha
     ·rw [Qw9]
      exact Qrj (a := a) ho (Q7n he) z1 z2 z3 z4
    ·cases h
   ·cases h
  ·cases h
 ·cases h
def Qdk (P : Program) (st : XSt) (t : TypeId) (x y u : Operand) (K : Out → Option R) : Option R :=
 match xeval st x with
 | some (.nm k .m) => match lk k st.objs with
  | some (.map kt vt es c) => match Q98 P t kt, xd st y, xd st u with
   | some e, some a, some v => match kt.decv a, vt.decv v with
    | some a, some v => K ⟨.put k (.map kt vt (mput a v c es) (mclk a es c)), .d (.v undef), [(x, .nm k .m), (y, .d (kt.xv a)), (u, .d (vt.xv v))], xset k (.map kt vt (mput a v c es) (mclk a es c)) st.objs, st.live, [], [k]⟩
    | _, _ => none
   | _, _, _ => none
  | _ => none
 | _ => none
theorem Qi5 {o : Oper} {st : XSt} {t : TypeId} {x y u : Operand} {K : Out → Option R} {r : R} (ho : o.op = .mapUpdate t x y u ∨ o.op = .insert t x y u) (h : Qdk P st t x y u K = some r) : ∃ out, K out = some r ∧ OpOk P o st out := by
 unfold Qdk at h
 split at h
 ·rename_i k hx
  split at h
  ·rename_i kt vt es c hk
   split at h
   ·rename_i e a0 v0 hm hy hu
    split at h
    ·rename_i a v ha hv
     refine ⟨_, h, ⟨?_, ⟨rfl, rfl, rfl, fun X hX => ?_⟩, fun j z hj hz => ?_⟩⟩
     ·intro p hp
      simp only [imRd, List.map_cons, List.map_nil, List.mem_cons, List.not_mem_nil, or_false] at hp
      rcases hp with rfl | rfl | rfl
      ·exact Q9 hx
      ·exact Q8u hy ha
      ·exact Q8u hu hv
     ·exact Qty (P := P) (X := X) (k := k) (es := es) (clock := c) (a := a) (v := v) ho (Q7n (vt := vt) hm) (hX.trans (Q6f hk))
     ·simp only [List.mem_cons, List.not_mem_nil, or_false] at hj
      rwa [Q66 _ _ _ _ hj] at hz
    ·cases h
   ·cases h
  ·cases h
 ·cases h
def Qpl (P : Program) (st : XSt) (ts : Array TypeId) (x y : Operand) (K : Out → Option R) : Option R :=
 match ts[0]? with
 | some t => match xeval st x with
  | some (.nm k .m) => match lk k st.objs with
   | some (.map kt vt es c) => match Q98 P t kt, xd st y with
    | some e, some a => match kt.decv a with
     | some a => K ⟨.put k (.map kt vt (mdel a es) c), .tup [], [(x, .nm k .m), (y, .d (kt.xv a))], xset k (.map kt vt (mdel a es) c) st.objs, st.live, [], [k]⟩
     | none => none
    | _, _ => none
   | _ => none
  | some (.d (.v (.map none))) => match Qcy P t, xd st y with
   | some ks, some a => match Q98 P t ks.1, ks.1.decv a with
    | some e, some a => K (Q7 st (.tup []) [(x, .d (.v (.map none))), (y, .d (ks.1.xv a))])
    | _, _ => none
   | _, _ => none
  | _ => none
 | none => none
theorem Qre {o : Oper} {X : Store} {ts : Array TypeId} {t e : TypeId} {kt vt : Ty} {x y : Operand} {a : kt.T} (ho : o.op = .call { callee := .builtin .delete, args := #[x, y], argTypes := ts }) (h0 : ts[0]? = some t) (hm : MapI P t kt vt e) :
  OpT P o [(x, .d (.sc (.map none))), (y, .d (kt.dv a))] X X [] (.tup []) :=
 .quiet fun _ _ g w ac hr hrd => by
  obtain ⟨kty, hu, hK⟩ := hm.und
  have h1 := (rd0 hrd).sc_inv
  have h2 : ac.eval y = kt.kval a := by
   have := rd1 hrd
   cases this with
   | d _ _ h => exact kt.kval_inv hK.key h
  simp only at h1
  have hc := hK.check true 9998 a w
  refine ⟨.tuple #[], ?_, .tup [] #[] rfl (by simp)⟩
  simp [execOp, ho, resolve, invoke, builtin, Builtin.delete_, h0, h1, h2, run_underlying hu, hc]
theorem Qx7 {o : Oper} {st : XSt} {ts : Array TypeId} {x y : Operand} {K : Out → Option R} {r : R} (ho : o.op = .call { callee := .builtin .delete, args := #[x, y], argTypes := ts }) (h : Qpl P st ts x y K = some r) : ∃ out, K out = some r ∧ OpOk P o st out := by
 unfold Qpl at h
 split at h
 ·rename_i t h0
  split at h
  ·rename_i k hx
   split at h
   ·rename_i kt vt es c hk
    split at h
    ·rename_i e a0 hm hy
     split at h
     ·rename_i a ha
      refine ⟨_, h, ⟨?_, ⟨rfl, rfl, rfl, fun X hX => ?_⟩, fun j z hj hz => ?_⟩⟩
      ·intro p hp
       simp only [imRd, List.map_cons, List.map_nil, List.mem_cons, List.not_mem_nil, or_false] at hp
       rcases hp with rfl | rfl
       ·exact Q9 hx
       ·exact Q8u hy ha
      ·exact Qyz (P := P) (X := X) (k := k) (es := es) (clock := c) (a := a) ho h0 (Q7n (vt := vt) hm) (hX.trans (Q6f hk))
      ·simp only [List.mem_cons, List.not_mem_nil, or_false] at hj
       rwa [Q66 _ _ _ _ hj] at hz
     ·cases h
    ·cases h
   ·cases h
  ·rename_i hx
   split at h
   ·rename_i ks a0 hm hy
    split at h
    ·rename_i e a he ha
     refine ⟨_, h, Q3 ?_ fun X => ?_⟩
     ·intro p hp
      simp only [imRd, List.map_cons, List.map_nil, List.mem_cons, List.not_mem_nil, or_false] at hp
      rcases hp with rfl | rfl
      ·exact Q9 hx
      ·exact Q8u hy ha
     ·exact Qre (a := a) ho h0 (Q7n (vt := ks.2) he)
    ·cases h
   ·cases h
  ·cases h
 ·cases h
def Q137 : XV → Bool
 | .nm _ .m => true
 | .d (.v (.map none)) => true
 | _ => false
def Qor (P : Program) (st : XSt) (ts : Array TypeId) (x : Operand) (K : Out → Option R) : Option R :=
 match ts[0]? with
 | some t => match xeval st x with
  | some (.nm k .m) => match lk k st.objs with
   | some (.map kt vt es c) => match Q98 P t kt with
    | some e => K ⟨.look [k], .d (.i .i64 es.length), [(x, .nm k .m)], st.objs, st.live, [], []⟩
    | none => none
   | _ => none
  | some (.d (.v (.map none))) => match Qcy P t with
   | some ks => K (Q7 st (.d (.i .i64 0)) [(x, .d (.v (.map none)))])
   | none => none
  | _ => none
 | none => none
theorem Qnm {t : TypeId} {ks : Ty × Ty} (h : Qcy P t = some ks) : ∃ k e, P.underlying t = some (.map k e) := by
 unfold Qcy at h
 split at h
 ·rename_i k e hu; exact ⟨k, e, hu⟩
 ·cases h
theorem Qxr {o : Oper} {st : XSt} {ts : Array TypeId} {x : Operand} {K : Out → Option R} {r : R} (ho : o.op = .call { callee := .builtin .len, args := #[x], argTypes := ts }) (h : Qor P st ts x K = some r) : ∃ out, K out = some r ∧ OpOk P o st out := by
 unfold Qor at h
 split at h
 ·rename_i t h0
  split at h
  ·rename_i k hx
   split at h
   ·rename_i kt vt es c hk
    split at h
    ·rename_i e hm
     refine ⟨_, h, ⟨Qk hx, ⟨rfl, rfl, rfl, fun X hX => ?_⟩, fun _ _ _ h => h⟩⟩
     exact Qxt (P := P) (X := X) (k := k) (es := es) (clock := c) ho h0 (Q7n (vt := vt) hm) ((hX k (by simp)).trans (Q6f hk))
    ·cases h
   ·cases h
  ·rename_i hx
   split at h
   ·rename_i ks hm
    obtain ⟨kk, e, hu⟩ := Qnm hm
    refine ⟨_, h, Q3 (Qk hx) fun X => ?_⟩
    refine .quiet fun _ _ g w ac hr hrd => ?_
    have h1 := (rd0 hrd).sc_inv
    simp only at h1
    refine ⟨.int .i64 0, ?_, .ofSc _ _ _⟩
    simp [execOp, ho, resolve, invoke, builtin, Builtin.len_, h0, h1, run_underlying hu, goInt]
   ·cases h
  ·cases h
 ·cases h
def Qk3 (P : Program) (st : XSt) (o : Oper) (t : TypeId) (x : Operand) (K : Out → Option R) : Option R :=
 match xeval st x, newName o with
 | some (.nm k .m), some m => match lk k st.objs with
  | some (.map kt vt es c) => match Q98 P t kt with
   | some e => cond (Nat.beq k m) none (cond (fresh m st) (K ⟨.all, .nm m (.p 0), [(x, .nm k .m)], (m, .mit k c [] c) :: st.objs, st.live, [m], [m]⟩) none)
   | none => none
  | _ => none
 | some (.d (.v (.map none))), some m => match Qcy P t with
  | some ks => cond (fresh m st) (K ⟨.all, .nm m (.p 0), [(x, .d (.v (.map none)))], (m, .mitn) :: st.objs, st.live, [m], [m]⟩) none
  | none => none
 | _, _ => none
theorem Qs1 {o : Oper} {st : XSt} {t : TypeId} {x : Operand} {K : Out → Option R} {r : R} (ho : o.op = .range t x) (h : Qk3 P st o t x K = some r) : ∃ out, K out = some r ∧ OpOk P o st out := by
 unfold Qk3 at h
 split at h
 ·rename_i k m hx hm
  split at h
  ·rename_i kt vt es c hk
   split at h
   ·rename_i e he
    cases hne : Nat.beq k m with
    | true => simp [hne] at h
    | false =>
    cases hf : fresh m st with
    | false => simp [hne, hf] at h
    | true =>
     simp only [hne, hf, cond_true, cond_false] at h
     obtain ⟨h1, h2⟩ := Q5n hf
     refine ⟨_, h, ⟨Qk hx, ?_, fun j z hj hz => ?_⟩⟩
     ·exact Qu3 (P := P) (X := st.X) (k := k) (m := m) (es := es) (clock := c) ho (Q7n (vt := vt) he) (Q6f hk) (Q5o h1) h2 (Nat.ne_of_beq_eq_false hne)
     ·rw [Q10 (by simpa using hj)] at hz; exact hz
   ·cases h
  ·cases h
 ·rename_i m hx hm
  split at h
  ·rename_i ks hks
   cases hf : fresh m st with
   | false => simp [hf] at h
   | true =>
    simp only [hf, cond_true] at h
    obtain ⟨h1, h2⟩ := Q5n hf
    obtain ⟨kk, e, hu⟩ := Qnm hks
    refine ⟨_, h, ⟨Qk hx, ?_, fun j z hj hz => ?_⟩⟩
    ·intro nm hsm B g w ac hr hrd next Q hn
     have e1 := (rd0 hrd).sc_inv
     simp only at e1
     obtain ⟨r1, r2⟩ := hr.newObj (Q5o h1) h2 (.mapIter none 0 #[] 0) .mitn (by
      intro g' w' _ hw
      exact .mitn hw)
     unfold Oper.wp
     have : (execOp ac.eval o).run P w = .ok (.value (.pointer (some ⟨w.heap.size, 0, none⟩))) (w.alloc (.mapIter none 0 #[] 0)) := by
      simp only [execOp, ho, e1]
      simp [Instr.range, run_underlying hu]
     rw [this]
     refine hn _ _ _ r1 r2 ?_
     show RA _ _ (.ptr m 0) _
     have := RA.ptr (g := { g with ρ := upd g.ρ m w.heap.size }) (w := w.alloc (.mapIter none 0 #[] 0)) m 0
     simpa [upd_same] using this
    ·rw [Q10 (by simpa using hj)] at hz; exact hz
  ·cases h
 ·cases h
noncomputable def demon {α R : Type} (l : List α) (z : Option R) (f : α → Option R) : Option R :=
 open Classical in if l = [] then z else if h : ∃ r, ∀ x ∈ l, f x = some r then some h.choose else none
theorem Qx4 {α R : Type} {l : List α} {z : Option R} {f : α → Option R} {r : R} (h : demon l z f = some r) : (l = [] ∧ z = some r) ∨ (l ≠ [] ∧ ∀ x ∈ l, f x = some r) := by
 unfold demon at h
 split at h
 ·rename_i hl; exact .inl ⟨hl, h⟩
 ·rename_i hl
  split at h
  ·rename_i hx
   right
   refine ⟨hl, ?_⟩
   have := hx.choose_spec
   cases h
   exact this
  ·cases h
def OpD (P : Program) (o : Oper) (rd : List (Operand × AV)) (X : Store) (outs : List (AV × Store)) : Prop :=
 ∀ (nm : List Nat), (∀ j ∈ nm, j < 1000) → ∀ (B : Base) (g : Gh) (w : World) (a : Act), HR nm B g w X → (∀ p ∈ rd, RA g w p.2 (a.eval p.1)) →
  ∀ (next : Act → World → Prop) (Q : Exit → Act → World → Prop),
   (∀ p ∈ outs, ∀ g' w' v, HR nm B g' w' p.2 → Trans [] g w g' w' → RA g' w' p.1 v → next (a.put o.dst v) w') → o.wp P a w next Q
theorem Rw.demon {S : Sig} {ops : Array Oper} {i : Nat} {rest : List Nat} {st : St} {K : St → Prop} {o : Oper} {rd : List (Operand × AV)} {outs : List (AV × Store)} (ho : ops[i]? = some o) (hg : Guard ops st o.guard true) (ht : OpD P o rd st.X outs) (hs : SeesAll st rd) (hd : dstOk S.N o.dst = true)
  (h : ∀ p ∈ outs, Rw P S ops rest ⟨Qz o.dst p.1 st.env, p.2⟩ K) : Rw P S ops (i :: rest) st K := by
 intro B g w a Q hsr hq
 unfold wpOps
 simp only [ho, hg.wanted hsr, if_true]
 refine .inl (ht S.names S.small B g w a hsr.hr (fun p hp => (hs.all p hp).ra hsr) _ Q ?_)
 intro p hp g' w' v hX htr hv
 exact h p hp B g' w' _ Q (hsr.put htr rfl hX hd hv) hq
def unseen {α : Type} (seen : List Nat) (es : List (Nat × α)) : List (Nat × α) := es.filter fun e => !seen.contains e.1
def oldB {α : Type} (since last : Nat) (es : List (Nat × α)) : Bool := es.all fun e => decide (e.1 < since) && decide (e.1 < last)
section
variable {o : Oper} {X : Store} {kt vt : Ty}
theorem Qc7 {w : World} {r : Nat} {x : Option Nat} {a c : Nat} {s : Array Nat} (hr : w.heap[r]? = some (.mapIter x a s c)) : (getObj r).run P w = .ok (.mapIter x a s c) w := by
 simp [getObj, Sem.run, hr]
theorem Qgc {w : World} {r : Nat} {x : Option Nat} {a c : Nat} {s : Array Nat} (hr : w.heap[r]? = some (.mapIter x a s c)) (o' : Obj) : (setObj r o').run P w = .ok () { w with heap := w.heap.setIfInBounds r o' } := by
 simp [setObj, Sem.run, hr]
theorem Qqd {g : Gh} {w : World} {b k since last : Nat} {seen : Array Nat} (h : ObRel g w b (.mit k since seen last)) : w.heap[b]? = some (.mapIter (some (g.ρ k)) since seen last) := by
 cases h with
 | mit _ _ _ _ h => exact h
theorem Qpw {g : Gh} {w : World} {b : Nat} {es : Ents kt vt} {clock : Nat} {asq : Array MapEntry} {since last : Nat} {seen : List Nat} (hw : MapW kt vt g w b es clock asq) (hold : oldB since last es = true) :
  (asq.filter fun e => !(seen.toArray.contains e.born)).size = (unseen seen es).length ∧
  (∀ (i : Nat) x e, (unseen seen es)[i]? = some x → (asq.filter fun e => !(seen.toArray.contains e.born))[i]? = some e → e.born = x.1 ∧ e.key = kt.kval x.2.1 ∧ RD g.γ w (vt.dv x.2.2) e.val) ∧
  (∀ e ∈ asq, e.born < since ∧ e.born < last) := by
 have hb : ∀ e ∈ asq.toList, ∃ x ∈ es, e.born = x.1 ∧ e.key = kt.kval x.2.1 ∧ RD g.γ w (vt.dv x.2.2) e.val := by
  intro e he
  obtain ⟨i, hi⟩ := List.mem_iff_getElem?.1 he
  have hlt : i < es.length := by
   have := (List.getElem?_eq_some_iff.1 hi).1
   rw [hw.len]; simpa using this
  exact ⟨es[i], List.getElem_mem hlt, hw.at' i es[i] e (by simp [hlt]) (by simpa using hi)⟩
 have hall : ∀ e ∈ asq, e.born < since ∧ e.born < last := by
  intro e he
  obtain ⟨x, hx, h1, _⟩ := hb e (by simpa using he)
  have := List.all_eq_true.1 hold x hx
  simp only [Bool.and_eq_true, decide_eq_true_eq] at this
  rw [h1]; exact this
 have pairs : ∀ (l : List MapEntry) (m : List (Nat × kt.T × vt.T)), l.length = m.length → (∀ (i : Nat) x e, m[i]? = some x → l[i]? = some e → e.born = x.1 ∧ e.key = kt.kval x.2.1 ∧ RD g.γ w (vt.dv x.2.2) e.val) →
   (l.filter fun e => !(seen.toArray.contains e.born)).length = (unseen seen m).length ∧
   ∀ (i : Nat) x e, (unseen seen m)[i]? = some x → (l.filter fun e => !(seen.toArray.contains e.born))[i]? = some e → e.born = x.1 ∧ e.key = kt.kval x.2.1 ∧ RD g.γ w (vt.dv x.2.2) e.val := by
  intro l
  induction l with
  | nil =>
   intro m hm _
   cases m with
   | nil => exact ⟨rfl, by simp [unseen]⟩
   | cons _ _ => simp at hm
  | cons e l ih =>
   intro m hm hr
   cases m with
   | nil => simp at hm
   | cons x m =>
    obtain ⟨i1, i2⟩ := ih m (by simpa using hm) (fun i y q h1 h2 => hr (i + 1) y q (by simpa using h1) (by simpa using h2))
    have h0 := hr 0 x e rfl rfl
    have hc : seen.toArray.contains e.born = seen.contains x.1 := by rw [h0.1]; simp
    unfold unseen
    rw [List.filter_cons, List.filter_cons, hc]
    cases seen.contains x.1 with
    | true => simpa [unseen] using And.intro i1 i2
    | false =>
     simp only [Bool.not_false, if_true, List.length_cons]
     refine ⟨by simpa [unseen] using i1, ?_⟩
     intro i y q h1 h2
     cases i with
     | zero => simp at h1 h2; subst h1; subst h2; exact h0
     | succ i => exact i2 i y q (by simpa [unseen] using h1) (by simpa using h2)
 obtain ⟨p1, p2⟩ := pairs asq.toList es (by simpa using hw.len.symm) (fun i x e hx he => hw.at' i x e hx (by simpa using he))
 refine ⟨?_, ?_, hall⟩
 ·rw [← p1, ← Array.length_toList, Array.toList_filter]
 ·intro i x e hx he
  refine p2 i x e hx ?_
  rw [← Array.getElem?_toList, Array.toList_filter] at he
  exact he
theorem Qvh {x : Operand} {m k since last clock : Nat} {seen : List Nat} {es : Ents kt vt} (ho : o.op = .next x false) (hkey : kt.key = true) (hm : X.objs.lookup m = some (.mit k since seen.toArray last)) (hk : X.objs.lookup k = some (mapO kt vt es clock))
  (hold : oldB since last es = true) (hne : unseen seen es ≠ []) :
  OpD P o [(x, .ptr m 0)] X ((unseen seen es).map fun e => (.tup [.d (.sc (.bool true)), .d (kt.dv e.2.1), .d (vt.dv e.2.2)], ⟨Ab.setObj m (.mit k since (seen ++ [e.1]).toArray clock) X.objs, X.live⟩)) := by
 intro nm hsm B g w ac hr hrd next Q hn
 have e1 := (rd0 hrd).ptr_inv
 simp only at e1
 have hb := Qqd (hr.objs m _ hm)
 obtain ⟨asq, hw⟩ := Qan hkey (hr.objs k _ hk)
 obtain ⟨f1, f2, f3⟩ := Qpw (seen := seen) hw hold
 have hget := Qc7 (P := P) hb
 have hgetm := MapKept.run_getObj_map (P := P) hw.heap
 have hset := Qgc (P := P) hb
 have hlt : g.ρ m < w.heap.size := (Array.getElem?_eq_some_iff.1 hb).1
 obtain ⟨L, hL⟩ : ∃ L, L = asq.filter fun e => !(seen.toArray.contains e.born) := ⟨_, rfl⟩
 rw [← hL] at f1 f2
 have hLpos : 0 < L.size := by rw [f1]; exact List.length_pos_iff.2 hne
 have hLold : L.filter (fun e => decide (e.born < since)) = L := by
  rw [Array.filter_eq_self]
  intro e he
  rw [hL] at he
  exact decide_eq_true (f3 e (Array.mem_filter.1 he).1).1
 have hLnew : L.filter (fun e => decide (e.born ≥ since)) = #[] := by
  rw [Array.filter_eq_empty_iff]
  intro e he
  rw [hL] at he
  have := (f3 e (Array.mem_filter.1 he).1).1
  simp; omega
 have hspo : (!seen.toArray.isEmpty && !asq.isEmpty && asq.all fun e => decide (e.born ≥ last)) = false := by
  cases hae : asq.isEmpty with
  | true => simp
  | false =>
   have hpos : 0 < asq.size := by
    cases hs : asq.size with
    | zero =>
     have : asq = #[] := Array.eq_empty_of_size_eq_zero hs
     subst this; simp at hae
    | succ n => omega
   have : (asq.all fun e => decide (e.born ≥ last)) = false := by
    rw [Bool.eq_false_iff]
    intro h
    have h2 := Array.all_eq_true.1 h 0 hpos
    have h3 := (f3 asq[0] (Array.getElem_mem hpos)).2
    simp at h2; omega
   rw [this]; simp
 -- whichever is chosen
 have pick : ∀ (j : Nat) (hj : j < L.size) (w1 : World), (HR nm B g w1 X ∧ Trans [] g w g w1 ∧ w1.heap = w.heap) → 
   ∀ (hrun : (execOp ac.eval o).run P w = .ok (.value (.tuple #[.bool true, L[j].key, L[j].val])) { w1 with heap := w1.heap.setIfInBounds (g.ρ m) (.mapIter (some (g.ρ k)) since (seen.toArray.push L[j].born) clock) }), Oper.upon P o ac next Q ((execOp ac.eval o).run P w) := by
  intro j hj w1 ⟨hr1, ht1, hh⟩ hrun
  have hju : j < (unseen seen es).length := by rw [← f1]; exact hj
  obtain ⟨q1, q2, q3⟩ := f2 j (unseen seen es)[j] L[j] (by simp [hju]) (by simp [hj])
  have hb1 : w1.heap[g.ρ m]? = some (.mapIter (some (g.ρ k)) since seen.toArray last) := by rw [hh]; exact hb
  obtain ⟨r1, r2⟩ := hr1.write (w' := { w1 with heap := w1.heap.setIfInBounds (g.ρ m) (.mapIter (some (g.ρ k)) since (seen.toArray.push L[j].born) clock) }) (o' := .mit k since (seen ++ [(unseen seen es)[j].1]).toArray clock) hm (by simp) ⟨rfl, rfl, rfl, Nat.le_refl _⟩
   (by intro b hb'; simp [Array.getElem?_setIfInBounds, Ne.symm hb']) (fun _ => .mit _ _ _ _ (by simp [Array.getElem?_setIfInBounds, hh, hlt, q1])) (by
    intro sh hsh
    simp [World.shape?, hb1] at hsh)
  rw [hrun]
  refine hn _ (List.mem_map_of_mem (f := fun e : Nat × kt.T × vt.T => ((.tup [.d (.sc (.bool true)), .d (kt.dv e.2.1), .d (vt.dv e.2.2)], ⟨Ab.setObj m (.mit k since (seen ++ [e.1]).toArray clock) X.objs, X.live⟩) : AV × Store)) (List.getElem_mem hju)) g _ _ r1 (ht1.trans r2) ?_
  have hle := (ht1.trans r2).le
  refine .tup _ _ rfl fun i c u hc hu => ?_
  rcases i with _ | _ | _ | i
  ·simp at hc hu; subst hc; subst hu; exact .ofSc _ _ _
  ·simp at hc hu; subst hc; subst hu
   refine .d _ _ ?_
   rw [q2]; exact kt.kval_rd _ hkey
  ·simp at hc hu; subst hc; subst hu; exact .d _ _ (q3.mono hle)
  ·simp at hc
 have hsome : ∀ (j : Nat) (hj : j < L.size), ((#[] : Array (Option MapEntry)) ++ (L ++ #[]).map some)[j]? = some (some L[j]) := by
  intro j hj
  simp [hj]
 have hne0 : L.isEmpty = false := by
  cases h : L.isEmpty with
  | false => rfl
  | true =>
   have : L = #[] := by simpa using h
   rw [this] at hLpos; simp at hLpos
 unfold Oper.wp
 have hbase : ∀ (w1 : World) (j : Nat) (hj : j < L.size), w1.heap = w.heap → (choose (.mapNext L.size)).run P w = .ok j w1 →
   (execOp ac.eval o).run P w = .ok (.value (.tuple #[.bool true, L[j].key, L[j].val])) { w1 with heap := w1.heap.setIfInBounds (g.ρ m) (.mapIter (some (g.ρ k)) since (seen.toArray.push L[j].born) clock) } := by
  intro w1 j hj hh hch
  have hset1 := Qgc (P := P) (w := w1) (r := g.ρ m) (by rw [hh]; exact hb)
  simp only [execOp, ho, e1, Instr.next, Sem.run_bind, hget, hgetm, Result.andThen_ok, hspo, ← hL, hLold, hLnew, hne0, Bool.false_eq_true, if_false, Sem.run_pure]
  have hsz : ((#[] : Array (Option MapEntry)) ++ (L ++ #[]).map some).size = L.size := by simp
  rw [hsz, hch]
  simp only [Result.andThen_ok, hsome j hj, Sem.run_bind, hset1, Sem.run_pure]
 have hch := run_choose_drew P w (.mapNext L.size)
 by_cases hf : (Question.mapNext L.size).forced = true
 ·rw [if_pos hf] at hch
  exact pick 0 hLpos w ⟨hr, .refl _ _ _, rfl⟩ (hbase w 0 hLpos rfl hch)
 ·rw [if_neg hf] at hch
  have hj : (Question.mapNext L.size).cut (w.tape w.drawn (.mapNext L.size)) < L.size := Nat.mod_lt _ hLpos
  obtain ⟨d1, d2⟩ := hr.drew
  exact pick _ hj w.drew ⟨d1, d2, rfl⟩ (hbase w.drew _ hj rfl hch)
theorem Qrw {x : Operand} {m k since last clock : Nat} {seen : List Nat} {es : Ents kt vt} (ho : o.op = .next x false) (hkey : kt.key = true) (hm : X.objs.lookup m = some (.mit k since seen.toArray last)) (hk : X.objs.lookup k = some (mapO kt vt es clock))
  (hold : oldB since last es = true) (hne : unseen seen es = []) : OpT P o [(x, .ptr m 0)] X X [] (.tup [.d (.sc (.bool false))]) :=
 .quiet fun _ _ g w ac hr hrd => by
  have e1 := (rd0 hrd).ptr_inv
  simp only at e1
  have hb := Qqd (hr.objs m _ hm)
  obtain ⟨asq, hw⟩ := Qan hkey (hr.objs k _ hk)
  obtain ⟨f1, f2, f3⟩ := Qpw (seen := seen) hw hold
  have hget := Qc7 (P := P) hb
  have hgetm := MapKept.run_getObj_map (P := P) hw.heap
  have hL : (asq.filter fun e => !(seen.toArray.contains e.born)) = #[] := Array.eq_empty_of_size_eq_zero (by rw [f1, hne]; rfl)
  have hspo : (!seen.toArray.isEmpty && !asq.isEmpty && asq.all fun e => decide (e.born ≥ last)) = false := by
   cases hae : asq.isEmpty with
   | true => simp
   | false =>
    have hpos : 0 < asq.size := by
     cases hs : asq.size with
     | zero =>
      have : asq = #[] := Array.eq_empty_of_size_eq_zero hs
      subst this; simp at hae
     | succ n => omega
    have : (asq.all fun e => decide (e.born ≥ last)) = false := by
     rw [Bool.eq_false_iff]
     intro h
     have h2 := Array.all_eq_true.1 h 0 hpos
     have h3 := (f3 asq[0] (Array.getElem_mem hpos)).2
     simp at h2; omega
    rw [this]; simp
  refine ⟨.tuple #[.bool false], ?_, ?_⟩
  ·simp only [execOp, ho, e1, Instr.next, Sem.run_bind, hget, hgetm, Result.andThen_ok, hspo, hL, Bool.false_eq_true, if_false, Sem.run_pure]
   have hch := run_choose_drew P w (.mapNext 1)
   rw [if_pos (by rfl)] at hch
   simp [hch, Question.forced]
  ·refine .tup _ _ rfl fun i c u hc hu => ?_
   rcases i with _ | i
   ·simp at hc hu; subst hc; subst hu; exact .ofSc _ _ _
   ·simp at hc
theorem Qv5 {x : Operand} {m : Nat} (ho : o.op = .next x false) (hm : X.objs.lookup m = some .mitn) : OpT P o [(x, .ptr m 0)] X X [] (.tup [.d (.sc (.bool false))]) :=
 .quiet fun _ _ g w ac hr hrd => by
  have e1 := (rd0 hrd).ptr_inv
  simp only at e1
  have hb : w.heap[g.ρ m]? = some (.mapIter none 0 #[] 0) := by
   cases hr.objs m _ hm with
   | mitn h => exact h
  have hget := Qc7 (P := P) hb
  refine ⟨.tuple #[.bool false], ?_, ?_⟩
  ·simp only [execOp, ho, e1, Instr.next, Sem.run_bind, hget, Result.andThen_ok, Sem.run_pure]
  ·refine .tup _ _ rfl fun i c u hc hu => ?_
   rcases i with _ | i
   ·simp at hc hu; subst hc; subst hu; exact .ofSc _ _ _
   ·simp at hc
end
def nextO (st : XSt) (x : Operand) (m k since clock : Nat) (seen : List Nat) (kt vt : Ty) (e : Nat × kt.T × vt.T) : Out :=
 ⟨.all, .tup [.d (.b true), .d (kt.xv e.2.1), .d (vt.xv e.2.2)], [(x, .nm m (.p 0))], xset m (.mit k since (seen ++ [e.1]) clock) st.objs, st.live, [], [m]⟩
noncomputable def Qu1 (st : XSt) (x : Operand) (K : Out → Option R) : Option R :=
 match xeval st x with
 | some (.nm m (.p 0)) => match lk m st.objs with
  | some (.mit k since seen last) => match lk k st.objs with
   | some (.map kt vt es clock) => cond kt.key (cond (oldB since last es)
     (demon (unseen seen es) (K ⟨.look [m, k], .tup [.d (.b false)], [(x, .nm m (.p 0))], st.objs, st.live, [], []⟩) fun e => K (nextO st x m k since clock seen kt vt e)) none) none
   | _ => none
  | some .mitn => K ⟨.look [m], .tup [.d (.b false)], [(x, .nm m (.p 0))], st.objs, st.live, [], []⟩
  | _ => none
 | _ => none
structure DemOk (P : Program) (o : Oper) (st : XSt) (rd : List (Operand × XV)) (outs : List Out) : Prop where
 sees : ∀ p ∈ imRd rd, Sees st.im p.1 p.2
 F : ∀ out ∈ outs, out.F = []
 op : OpD P o (imRd rd) st.X (outs.map fun out => (out.res.a, out.X))
 ol : ∀ out ∈ outs, ∀ k x, k ∉ out.ol → lk k out.objs = some x → lk k st.objs = some x
theorem Q10l {o : Oper} {st : XSt} {x : Operand} {K : Out → Option R} {r : R} (ho : o.op = .next x false) (h : Qu1 st x K = some r) : (∃ out, K out = some r ∧ OpOk P o st out) ∨ ∃ rd outs, (∀ out ∈ outs, K out = some r) ∧ DemOk P o st rd outs := by
 unfold Qu1 at h
 split at h
 ·rename_i m hx
  split at h
  ·rename_i k since seen last hm
   split at h
   ·rename_i kt vt es clock hk
    cases hkey : kt.key with
    | false => simp [hkey] at h
    | true =>
    cases hold : oldB since last es with
    | false => simp [hkey, hold] at h
    | true =>
     simp only [hkey, hold, cond_true] at h
     have hm' : st.X.objs.lookup m = some (.mit k since seen.toArray last) := Q6f hm
     have hk' : st.X.objs.lookup k = some (mapO kt vt es clock) := Q6f hk
     rcases Qx4 h with ⟨hl, hz⟩ | ⟨hl, hf⟩
     ·left
      refine ⟨_, hz, ⟨Qk hx, ⟨rfl, rfl, rfl, fun X hX => ?_⟩, fun _ _ _ h => h⟩⟩
      exact Qrw ho hkey ((hX m (by simp)).trans hm') ((hX k (by simp)).trans hk') hold hl
     ·right
      refine ⟨[(x, .nm m (.p 0))], (unseen seen es).map (nextO st x m k since clock seen kt vt), ?_, ⟨Qk hx, ?_, ?_, ?_⟩⟩
      ·intro out hout
       obtain ⟨e, he, rfl⟩ := List.mem_map.1 hout
       exact hf e he
      ·intro out hout
       obtain ⟨e, he, rfl⟩ := List.mem_map.1 hout
       rfl
      ·have := Qvh (P := P) ho hkey hm' hk' hold hl
       rw [List.map_map]
       have e2 : (fun e : Nat × kt.T × vt.T => (((nextO st x m k since clock seen kt vt e).res.a, (nextO st x m k since clock seen kt vt e).X) : AV × Store)) = fun e => (.tup [.d (.sc (.bool true)), .d (kt.dv e.2.1), .d (vt.dv e.2.2)], ⟨Ab.setObj m (.mit k since (seen ++ [e.1]).toArray clock) st.X.objs, st.X.live⟩) := by
        funext e
        simp only [nextO, Out.X, Q9e]
        rfl
       show OpD P o _ st.X ((unseen seen es).map fun e => ((nextO st x m k since clock seen kt vt e).res.a, (nextO st x m k since clock seen kt vt e).X))
       rw [e2]
       exact this
      ·intro out hout j z hj hz
       obtain ⟨e, he, rfl⟩ := List.mem_map.1 hout
       simp only [nextO, List.mem_cons, List.not_mem_nil, or_false] at hj hz
       rwa [Q66 _ _ _ _ hj] at hz
   ·cases h
  ·rename_i hm
   left
   refine ⟨_, h, ⟨Qk hx, ⟨rfl, rfl, rfl, fun X hX => ?_⟩, fun _ _ _ h => h⟩⟩
   exact Qv5 ho ((hX m (by simp)).trans (Q6f hm))
  ·cases h
 ·cases h
end
end Go.Xl
set_option linter.unusedVariables false
set_option linter.unusedSimpArgs false
namespace Go.Ab
theorem EtaOk.sub {B : Base} {g g' : Gh} {w w' : World} {X X' : Store} (h : EtaOk B g w X)
  (hη : ∀ L i b, (g'.β L).isSome → g'.η L i = some b → (g.β L).isSome ∧ g.η L i = some b) (hs : w.heap.size ≤ w'.heap.size)
  (htip : ∀ n b, g'.β n = some (some b) → g.β n = some (some b))
  (hobj : ∀ k o, X'.objs.lookup k = some o → ∃ o', X.objs.lookup k = some o' ∧ g'.ρ k = g.ρ k) : EtaOk B g' w' X' := by
 refine ⟨?_, ?_, ?_, ?_, ?_⟩
 ·intro L L' i i' b hL hL' hb hb'
  obtain ⟨a1, a2⟩ := hη L i b hL hb
  obtain ⟨a3, a4⟩ := hη L' i' b hL' hb'
  exact h.inj L L' i i' b a1 a3 a2 a4
 ·intro L i b n hL hb hn
  obtain ⟨a1, a2⟩ := hη L i b hL hb
  exact h.tip L i b n a1 a2 (htip n b hn)
 ·intro L i b k o hL hb hk he
  obtain ⟨a1, a2⟩ := hη L i b hL hb
  obtain ⟨o', h1, h2⟩ := hobj k o hk
  exact h.obj L i b k o' a1 a2 h1 (he.trans h2)
 ·intro L i b hL hb
  obtain ⟨a1, a2⟩ := hη L i b hL hb
  exact h.new L i b a1 a2
 ·intro L i b hL hb
  obtain ⟨a1, a2⟩ := hη L i b hL hb
  exact Nat.lt_of_lt_of_le (h.lt L i b a1 a2) hs
def Qc4 (k L : Nat) (X : Store) : Prop := ∀ j o, j ≠ k → X.objs.lookup j = some o → Q3h [L] o = true
theorem Qcp {k : Nat} {o o' : Ob} {l : List (Nat × Ob)} (hk : l.lookup k = some o) {j : Nat} {p : Ob} (hj : (setObj k o' l).lookup j = some p) : ∃ q, l.lookup j = some q := by
 rw [Qb] at hj
 split at hj
 ·rename_i he; subst he; exact ⟨o, hk⟩
 ·exact ⟨p, hj⟩
theorem HR.etaSet {nm : List Nat} {B : Base} {g : Gh} {w : World} {X : Store} (h : HR nm B g w X) {k L : Nat} {o o' : Ob} (hk : X.objs.lookup k = some o) (hfree : Qc4 k L X) (e : Nat → Option Nat)
  (hE : EtaOk B { g with η := upd g.η L e } w ⟨setObj k o' X.objs, X.live⟩)
  (hnew : Trans [L] g w { g with η := upd g.η L e } w → ObRel { g with η := upd g.η L e } w (g.ρ k) o') :
  HR nm B { g with η := upd g.η L e } w ⟨setObj k o' X.objs, X.live⟩ ∧ Trans [L] g w { g with η := upd g.η L e } w := by
 have ht : Trans [L] g w { g with η := upd g.η L e } w := ⟨.refl _ _, fun _ _ => rfl, fun n ob _ he => ⟨he, fun _ _ => ⟨rfl, rfl⟩⟩, fun L' hL' _ => ⟨Q4 _ _ (by simpa using hL'), fun _ _ _ => ⟨rfl, rfl⟩⟩⟩
 have hsome : ∀ j p, (setObj k o' X.objs).lookup j = some p → ∃ q, X.objs.lookup j = some q := fun j p hj => Qcp hk hj
 refine ⟨⟨?_, h.sane, h.base, h.io, h.le, h.frame, ?_, ?_, ?_, ?_, h.live, h.tipinj, ?_, h.tipnew, h.tiplt, hE⟩, ht⟩
 ·intro j hj
  obtain ⟨h1, h2⟩ := h.keep j hj
  refine ⟨h1, ?_⟩
  simp only [Qb]
  split
  ·rfl
  ·exact h2
 ·intro j p hj
  simp only [Qb] at hj
  split at hj
  ·rename_i he
   cases hj
   subst he
   exact hnew ht
  ·rename_i he
   exact (h.objs j p hj).keep ht rfl (.inr (hfree j p he hj))
 ·intro j p hj; obtain ⟨q, hq⟩ := hsome j p hj; exact h.objγ j q hq
 ·intro j j' p p' hj hj' he
  obtain ⟨q, hq⟩ := hsome j p hj
  obtain ⟨q', hq'⟩ := hsome j' p' hj'
  exact h.objinj j j' q q' hq hq' he
 ·intro j p hj; obtain ⟨q, hq⟩ := hsome j p hj; exact h.objnew j q hq
 ·intro n b j p hn hj; obtain ⟨q, hq⟩ := hsome j p hj; exact h.tipobj n b j q hn hq
theorem TipE.eta {g : Gh} {w : World} {L i sz : Nat} {v : Value} {e : Nat → Option Nat} (h : TipE g w L i sz v) (he : e i = g.η L i) : TipE { g with η := upd g.η L e } w L i sz v := by
 unfold TipE at h ⊢
 split at h
 ·exact ⟨h.1, by simp only [upd_same, he]; exact h.2.1, h.2.2⟩
 ·trivial
abbrev MapE : Type := Nat × Value × Bool × List (List D)
abbrev MapL : Type := List MapE
def SameL (l l' : MapL) : Prop := l'.length = l.length ∧ ∀ (j : Nat) (x' : MapE), l'[j]? = some x' → ∃ x : MapE, l[j]? = some x ∧ x'.1 = x.1 ∧ x'.2.1 = x.2.1 ∧ x'.2.2.2 = x.2.2.2
theorem SameL.births {l l' : MapL} (h : SameL l l') : l'.map (·.1) = l.map (·.1) := by
 apply List.ext_getElem?
 intro i
 rw [List.getElem?_map, List.getElem?_map]
 by_cases hi : i < l'.length
 ·obtain ⟨x, h1, h2, _⟩ := h.2 i l'[i] (by simp [hi])
  rw [h1, List.getElem?_eq_getElem hi]
  simp [h2]
 ·rw [List.getElem?_eq_none (by omega), List.getElem?_eq_none (by have := h.1; omega)]
theorem HR.takeE {nm : List Nat} {B : Base} {g : Gh} {w : World} {X : Store} (h : HR nm B g w X) {k L sz i c : Nat} {l l' : MapL} (hk : X.objs.lookup k = some (.mapt L sz l c)) (hfree : Qc4 k L X)
  (hs : SameL l l') (hl' : ∀ (j : Nat) (x' x : MapE), l'[j]? = some x' → l[j]? = some x → x'.2.2.1 = true → x.2.2.1 = true ∧ x.1 ≠ i) :
  HR nm B { g with η := upd g.η L (upd (g.η L) i none) } w ⟨setObj k (.mapt L sz l' c) X.objs, X.live⟩ ∧ Trans [L] g w { g with η := upd g.η L (upd (g.η L) i none) } w := by
 refine h.etaSet hk hfree _ (h.eta.sub ?_ (Nat.le_refl _) (fun n b hn => hn) ?_) ?_
 ·intro L' i' b hL hb
  refine ⟨hL, ?_⟩
  simp only at hb
  by_cases he : L' = L
  ·subst he
   rw [upd_same] at hb
   by_cases hi : i' = i
   ·subst hi; rw [upd_same] at hb; cases hb
   ·rwa [Q4 _ _ hi] at hb
  ·rwa [Q4 _ _ he] at hb
 ·intro j o hj
  obtain ⟨q, hq⟩ := Qcp hk hj
  exact ⟨q, hq, rfl⟩
 ·intro ht
  have h0 := h.objs k _ hk
  cases h0 with
  | mapt _ _ _ _ es h1 h2 h3 h4 h5 =>
   refine .mapt L sz l' c es h1 (hs.1.trans h2) ?_ ?_ (by rw [hs.births]; exact h5)
   ·intro j x' e hx he
    obtain ⟨x, hx0, a1, a2, a3⟩ := hs.2 j x' hx
    obtain ⟨b1, b2, b3, b4⟩ := h3 j x e hx0 he
    refine ⟨b1.trans a1.symm, b2.trans a2.symm, by rw [a3]; exact b3, fun hf hL => ?_⟩
    obtain ⟨c1, c2⟩ := hl' j x' x hx hx0 hf
    rw [a1]
    exact (b4 c1 hL).eta (Q4 _ _ c2)
   ·intro p hp
    have : p.1 ∈ l.map (·.1) := by rw [← hs.births]; exact List.mem_map_of_mem (f := (·.1)) hp
    obtain ⟨q, hq, he⟩ := List.mem_map.1 this
    rw [← he]; exact h4 q hq
def FreeB (B : Base) (g : Gh) (w : World) (X : Store) (b : Nat) : Prop :=
 b < w.heap.size ∧ (B.n0 ≤ b ∨ B.allowed b) ∧ (∀ k o, X.objs.lookup k = some o → b ≠ g.ρ k) ∧ (∀ n, g.β n ≠ some (some b)) ∧ ∀ L i, (g.β L).isSome → g.η L i ≠ some b
theorem HR.giveE {nm : List Nat} {B : Base} {g : Gh} {w : World} {X : Store} (h : HR nm B g w X) {k L sz i c : Nat} {ob : Option Nat} {l l' : MapL} (hk : X.objs.lookup k = some (.mapt L sz l c)) (hfree : Qc4 k L X)
  (hb : ∀ b, ob = some b → FreeB B g w X b)
  (hs : SameL l l') (hl' : ∀ (j : Nat) (x' x : MapE), l'[j]? = some x' → l[j]? = some x → x'.2.2.1 = true → (x.2.2.1 = true ∧ x.1 ≠ i) ∨ (x.1 = i ∧ ∀ asq e, w.heap[g.ρ k]? = some (.map asq c) → asq[j]? = some e → TipE { g with η := upd g.η L (upd (g.η L) i ob) } w L i sz e.val)) :
  HR nm B { g with η := upd g.η L (upd (g.η L) i ob) } w ⟨setObj k (.mapt L sz l' c) X.objs, X.live⟩ ∧ Trans [L] g w { g with η := upd g.η L (upd (g.η L) i ob) } w := by
 have old : ∀ L' i' b, upd g.η L (upd (g.η L) i ob) L' i' = some b → (L' = L ∧ i' = i ∧ ob = some b) ∨ (¬ (L' = L ∧ i' = i) ∧ g.η L' i' = some b) := by
  intro L' i' b he
  by_cases hL : L' = L
  ·subst hL
   rw [upd_same] at he
   by_cases hi : i' = i
   ·subst hi; rw [upd_same] at he; exact .inl ⟨rfl, rfl, he⟩
   ·rw [Q4 _ _ hi] at he; exact .inr ⟨fun hh => hi hh.2, he⟩
  ·rw [Q4 _ _ hL] at he; exact .inr ⟨fun hh => hL hh.1, he⟩
 refine h.etaSet hk hfree _ ⟨?_, ?_, ?_, ?_, ?_⟩ ?_
 ·intro L1 L2 i1 i2 b h1 h2 e1 e2
  rcases old L1 i1 b e1 with ⟨a1, a2, a3⟩ | ⟨a1, a2⟩ <;> rcases old L2 i2 b e2 with ⟨c1, c2, c3⟩ | ⟨c1, c2⟩
  ·exact ⟨a1.trans c1.symm, a2.trans c2.symm⟩
  ·exact ((hb b a3).2.2.2.2 L2 i2 h2 c2).elim
  ·exact ((hb b c3).2.2.2.2 L1 i1 h1 a2).elim
  ·exact h.eta.inj L1 L2 i1 i2 b h1 h2 a2 c2
 ·intro L1 i1 b n h1 e1 hn
  rcases old L1 i1 b e1 with ⟨a1, a2, a3⟩ | ⟨a1, a2⟩
  ·exact (hb b a3).2.2.2.1 n hn
  ·exact h.eta.tip L1 i1 b n h1 a2 hn
 ·intro L1 i1 b j o h1 e1 hj
  obtain ⟨q, hq⟩ := Qcp hk hj
  rcases old L1 i1 b e1 with ⟨a1, a2, a3⟩ | ⟨a1, a2⟩
  ·exact (hb b a3).2.2.1 j q hq
  ·exact h.eta.obj L1 i1 b j q h1 a2 hq
 ·intro L1 i1 b h1 e1
  rcases old L1 i1 b e1 with ⟨a1, a2, a3⟩ | ⟨a1, a2⟩
  ·exact (hb b a3).2.1
  ·exact h.eta.new L1 i1 b h1 a2
 ·intro L1 i1 b h1 e1
  rcases old L1 i1 b e1 with ⟨a1, a2, a3⟩ | ⟨a1, a2⟩
  ·exact (hb b a3).1
  ·exact h.eta.lt L1 i1 b h1 a2
 ·intro ht
  have h0 := h.objs k _ hk
  cases h0 with
  | mapt _ _ _ _ es h1 h2 h3 h4 h5 =>
   refine .mapt L sz l' c es h1 (hs.1.trans h2) ?_ ?_ (by rw [hs.births]; exact h5)
   ·intro j x' e hx he
    obtain ⟨x, hx0, a1, a2, a3⟩ := hs.2 j x' hx
    obtain ⟨b1, b2, b3, b4⟩ := h3 j x e hx0 he
    refine ⟨b1.trans a1.symm, b2.trans a2.symm, by rw [a3]; exact b3, fun hf hL => ?_⟩
    rw [a1]
    rcases hl' j x' x hx hx0 hf with ⟨c1, c2⟩ | ⟨c1, c2⟩
    ·exact (b4 c1 hL).eta (Q4 _ _ c2)
    ·rw [c1]; exact c2 es e h1 he
   ·intro p hp
    have : p.1 ∈ l.map (·.1) := by rw [← hs.births]; exact List.mem_map_of_mem (f := (·.1)) hp
    obtain ⟨q, hq, he⟩ := List.mem_map.1 this
    rw [← he]; exact h4 q hq
def Qew (sz : Nat) (l : MapL) : List (Nat × Value × D) := l.map fun e => (e.1, e.2.1, .sl sz e.2.2.2)
theorem HR.plain {nm : List Nat} {B : Base} {g : Gh} {w : World} {X X' : Store} (h : HR nm B g w X) (hlive : X'.live = X.live) (hin : ∀ k, (X.objs.lookup k).isSome → (X'.objs.lookup k).isSome)
  (hob : ∀ k o', X'.objs.lookup k = some o' → X.objs.lookup k = some o' ∨ ∃ L sz l c, X.objs.lookup k = some (.mapt L sz l c) ∧ o' = .map (Qew sz l) c) : HR nm B g w X' := by
 have hsome : ∀ j p, X'.objs.lookup j = some p → ∃ q, X.objs.lookup j = some q := by
  intro j p hj
  rcases hob j p hj with h1 | ⟨L, sz, l, c, h1, _⟩ <;> exact ⟨_, h1⟩
 refine ⟨?_, h.sane, h.base, h.io, h.le, h.frame, ?_, ?_, ?_, ?_, by rw [hlive]; exact h.live, h.tipinj, ?_, h.tipnew, h.tiplt, h.eta.same (Nat.le_refl _) fun j p hj => hsome j p hj⟩
 ·intro j hj
  obtain ⟨h1, h2⟩ := h.keep j hj
  exact ⟨h1, hin j h2⟩
 ·intro j p hj
  rcases hob j p hj with h1 | ⟨L, sz, l, c, h1, rfl⟩
  ·exact h.objs j p h1
  ·have h0 := h.objs j _ h1
   cases h0 with
   | mapt _ _ _ _ es a1 a2 a3 a4 a5 =>
    refine .map _ c es a1 (by simpa [Qew] using a2) ?_ ?_ ?_
    ·intro i x e hx he
     simp only [Qew, List.getElem?_map, Option.map_eq_some_iff] at hx
     obtain ⟨y, hy, rfl⟩ := hx
     obtain ⟨b1, b2, b3, _⟩ := a3 i y e hy he
     exact ⟨b1, b2, b3⟩
    ·intro q hq
     simp only [Qew, List.mem_map] at hq
     obtain ⟨y, hy, rfl⟩ := hq
     exact a4 y hy
    ·simpa [Qew, List.map_map, Function.comp_def] using a5
 ·intro j p hj; obtain ⟨q, hq⟩ := hsome j p hj; exact h.objγ j q hq
 ·intro j j' p p' hj hj' he
  obtain ⟨q, hq⟩ := hsome j p hj
  obtain ⟨q', hq'⟩ := hsome j' p' hj'
  exact h.objinj j j' q q' hq hq' he
 ·intro j p hj; obtain ⟨q, hq⟩ := hsome j p hj; exact h.objnew j q hq
 ·intro n b j p hn hj; obtain ⟨q, hq⟩ := hsome j p hj; exact h.tipobj n b j q hn hq
end Go.Ab
set_option linter.unusedVariables false
set_option linter.unusedSimpArgs false
set_option linter.unnecessarySimpa false
namespace Go.Xl
open Go.Ab
abbrev EntE (kt vt : Ty) : Type := Nat × kt.T × Bool × List vt.T
abbrev EntT (kt vt : Ty) : Type := List (EntE kt vt)
def fgT {kt vt : Ty} (es : EntT kt vt) : Ents kt (.sl vt) := es.map fun e => (e.1, e.2.1, e.2.2.2)
def tget {kt vt : Ty} (a : kt.T) : EntT kt vt → Option (Nat × Bool × List vt.T)
 | [] => none
 | e :: r => bif kt.eqv a e.2.1 then some (e.1, e.2.2) else tget a r
def tput {kt vt : Ty} (a : kt.T) (v : List vt.T) (f : Bool) (clock : Nat) : EntT kt vt → EntT kt vt
 | [] => [(clock, a, f, v)]
 | e :: r => bif kt.eqv a e.2.1 then (e.1, a, f, v) :: r else e :: tput a v f clock r
def toff {kt vt : Ty} (a : kt.T) : EntT kt vt → EntT kt vt
 | [] => []
 | e :: r => bif kt.eqv a e.2.1 then (e.1, e.2.1, false, e.2.2.2) :: r else e :: toff a r
def tval {kt vt : Ty} (a : kt.T) (es : EntT kt vt) : List vt.T := match tget a es with | some e => e.2.2 | none => []
def tflag {kt vt : Ty} (a : kt.T) (es : EntT kt vt) : Bool := match tget a es with | some e => e.2.1 | none => true
def thas {kt vt : Ty} (a : kt.T) (es : EntT kt vt) : Bool := match tget a es with | some _ => true | none => false
def tborn {kt vt : Ty} (a : kt.T) (es : EntT kt vt) (clock : Nat) : Nat := match tget a es with | some e => e.1 | none => clock
section
variable {kt vt : Ty}
theorem Qh0 (es : EntT kt vt) : (fgT es).map (·.2.1) = es.map (·.2.1) := by simp [fgT, List.map_map, Function.comp_def]
theorem Qwp (a : kt.T) (v : List vt.T) (f : Bool) (c : Nat) : ∀ es : EntT kt vt, fgT (tput a v f c es) = mput a (vt := .sl vt) v c (fgT es)
 | [] => rfl
 | e :: r => by
  have ih := Qwp a v f c r
  simp only [tput, fgT, List.map_cons, mput] at ih ⊢
  cases kt.eqv a e.2.1 with
  | true => rfl
  | false => simp only [cond_false, List.map_cons, ih]
theorem Qiz (a : kt.T) : ∀ es : EntT kt vt, tget a es = (kidx kt a (es.map (·.2.1))).bind fun j => es[j]?.map fun e => (e.1, e.2.2)
 | [] => rfl
 | e :: r => by
  simp only [tget, List.map_cons, kidx]
  cases kt.eqv a e.2.1 with
  | true => rfl
  | false =>
   simp only [cond_false, Bool.false_eq_true, if_false, Qiz a r]
   cases kidx kt a (r.map (·.2.1)) <;> simp
def tidx (a : kt.T) (es : EntT kt vt) : Nat := (kidx kt a (es.map (·.2.1))).getD es.length
theorem Qq2 (a : kt.T) (e : Nat × kt.T × Bool × List vt.T) (r : EntT kt vt) : tidx a (e :: r) = bif kt.eqv a e.2.1 then 0 else tidx a r + 1 := by
 simp only [tidx, List.map_cons, kidx]
 cases kt.eqv a e.2.1 with
 | true => rfl
 | false =>
  simp only [Bool.false_eq_true, if_false, cond_false, List.length_cons]
  cases kidx kt a (r.map (·.2.1)) <;> simp
theorem Qwh (a : kt.T) : ∀ es : EntT kt vt, (toff a es).length = es.length ∧ ∀ (j : Nat) (x' : EntE kt vt), (toff a es)[j]? = some x' → ∃ x : EntE kt vt, es[j]? = some x ∧ x'.1 = x.1 ∧ x'.2.1 = x.2.1 ∧ x'.2.2.2 = x.2.2.2 ∧ (x'.2.2.1 = true → x.2.2.1 = true ∧ j ≠ tidx a es)
 | [] => ⟨rfl, by simp [toff]⟩
 | e :: r => by
  obtain ⟨i1, i2⟩ := Qwh a r
  rw [Qq2]
  simp only [toff]
  cases kt.eqv a e.2.1 with
  | true =>
   simp only [cond_true, List.length_cons, true_and]
   intro j x' hx
   cases j with
   | zero => simp at hx; subst hx; exact ⟨e, rfl, rfl, rfl, rfl, by simp⟩
   | succ j => simp at hx; exact ⟨x', by simpa using hx, rfl, rfl, rfl, fun h => ⟨h, by omega⟩⟩
  | false =>
   simp only [cond_false, List.length_cons, i1, true_and]
   intro j x' hx
   cases j with
   | zero => simp at hx; subst hx; exact ⟨e, rfl, rfl, rfl, rfl, fun h => ⟨h, by omega⟩⟩
   | succ j =>
    obtain ⟨x, a1, a2, a3, a4, a5⟩ := i2 j x' (by simpa using hx)
    exact ⟨x, by simpa using a1, a2, a3, a4, fun h => ⟨(a5 h).1, by have := (a5 h).2; omega⟩⟩
theorem Qge (a : kt.T) (v : List vt.T) (f : Bool) (c : Nat) : ∀ (es : EntT kt vt) (j : Nat) (x : EntE kt vt), (tput a v f c es)[j]? = some x → (j = tidx a es ∧ x.2.2.1 = f ∧ x.1 = tborn a es c) ∨ (j ≠ tidx a es ∧ es[j]? = some x)
 | [], j, x, h => by
  cases j with
  | zero => simp [tput] at h; subst h; exact .inl ⟨rfl, rfl, rfl⟩
  | succ j => simp [tput] at h
 | e :: r, j, x, h => by
  rw [Qq2]
  simp only [tput] at h
  cases he : kt.eqv a e.2.1 with
  | true =>
   rw [he] at h
   simp only [cond_true] at h ⊢
   cases j with
   | zero => simp at h; subst h; exact .inl ⟨rfl, rfl, by simp [tborn, tget, he]⟩
   | succ j => exact .inr ⟨by omega, by simpa using h⟩
  | false =>
   rw [he] at h
   simp only [cond_false] at h ⊢
   have hb : tborn a (e :: r) c = tborn a r c := by simp [tborn, tget, he]
   rw [hb]
   cases j with
   | zero => exact .inr ⟨by omega, by simpa using h⟩
   | succ j =>
    rcases Qge a v f c r j x (by simpa using h) with ⟨h1, h2, h3⟩ | ⟨h1, h2⟩
    ·exact .inl ⟨by omega, h2, h3⟩
    ·exact .inr ⟨by omega, by simpa using h2⟩
theorem Qq8 (a : kt.T) (v : List vt.T) (f f' : Bool) (c : Nat) : ∀ es : EntT kt vt, (tput a v f' c es).length = (tput a v f c es).length ∧ ∀ (j : Nat) (x' : EntE kt vt), (tput a v f' c es)[j]? = some x' → ∃ x : EntE kt vt, (tput a v f c es)[j]? = some x ∧ x'.1 = x.1 ∧ x'.2.1 = x.2.1 ∧ x'.2.2.2 = x.2.2.2
 | [] => by
  refine ⟨rfl, fun j x' h => ?_⟩
  cases j with
  | zero => simp [tput] at h; subst h; exact ⟨_, rfl, rfl, rfl, rfl⟩
  | succ j => simp [tput] at h
 | e :: r => by
  obtain ⟨i1, i2⟩ := Qq8 a v f f' c r
  simp only [tput]
  cases kt.eqv a e.2.1 with
  | true =>
   simp only [cond_true, List.length_cons, true_and]
   intro j x' h
   cases j with
   | zero => simp at h; subst h; exact ⟨_, rfl, rfl, rfl, rfl⟩
   | succ j => simp at h; exact ⟨x', by simpa using h, rfl, rfl, rfl⟩
  | false =>
   simp only [cond_false, List.length_cons, i1, true_and]
   intro j x' h
   cases j with
   | zero => simp at h; subst h; exact ⟨_, rfl, rfl, rfl, rfl⟩
   | succ j =>
    obtain ⟨x, a1, a2⟩ := i2 j x' (by simpa using h)
    exact ⟨x, by simpa using a1, a2⟩
theorem Qw4 {a : kt.T} {es : EntT kt vt} {clock j : Nat} {x : Nat × kt.T × Bool × List vt.T} (hx : es[j]? = some x) (hj : j ≠ tidx a es) (hlt : ∀ p ∈ es, p.1 < clock) (hnd : (es.map (·.1)).Nodup) : x.1 ≠ tborn a es clock := by
 unfold tborn
 rw [Qiz]
 unfold tidx at hj
 cases hk : kidx kt a (es.map (·.2.1)) with
 | none =>
  have := hlt x (List.mem_of_getElem? hx)
  simp only [Option.bind_none]
  omega
 | some i =>
  rw [hk] at hj
  simp only [Option.getD_some] at hj
  have hi := Qad hk
  rw [List.length_map] at hi
  simp only [Option.bind_some, List.getElem?_eq_getElem hi, Option.map_some]
  intro he
  obtain ⟨hjl, hje⟩ := List.getElem?_eq_some_iff.1 hx
  have hp := List.pairwise_iff_getElem.1 hnd
  rcases Nat.lt_trichotomy j i with h1 | h1 | h1
  ·have := hp j i (by simpa using hjl) (by simpa using hi) h1
   simp [hje, he] at this
  ·exact hj h1
  ·have := hp i j (by simpa using hi) (by simpa using hjl) h1
   simp [hje, he] at this
abbrev maptO (L : Nat) (kt vt : Ty) (es : EntT kt vt) (clock : Nat) : Ob := (XOb.mapt L kt vt es clock).o
def lT (es : EntT kt vt) : MapL := es.map fun e => (e.1, dval (kt.dv e.2.1), e.2.2.1, e.2.2.2.map vt.ds)
structure MapT (kt vt : Ty) (L : Nat) (g : Gh) (w : World) (b : Nat) (es : EntT kt vt) (clock : Nat) (asq : Array MapEntry) : Prop where
 m : MapW kt (.sl vt) g w b (fgT es) clock asq
 t : ∀ (j : Nat) x e, es[j]? = some x → asq[j]? = some e → x.2.2.1 = true → (g.β L).isSome → TipE g w L x.1 vt.size e.val
theorem Qpd {L : Nat} {g : Gh} {w : World} {b : Nat} {es : EntT kt vt} {clock : Nat} (hk : kt.key = true) (h : ObRel g w b (maptO L kt vt es clock)) : ∃ asq, MapT kt vt L g w b es clock asq := by
 cases h with
 | mapt _ _ l c asq h1 h2 h3 h4 h5 =>
  have hget : ∀ (i : Nat) x, es[i]? = some x → (es.map fun e => (e.1, dval (kt.dv e.2.1), e.2.2.1, e.2.2.2.map vt.ds))[i]? = some (x.1, dval (kt.dv x.2.1), x.2.2.1, x.2.2.2.map vt.ds) := fun i x hx => by rw [List.getElem?_map, hx]; rfl
  have hat : ∀ (i : Nat) x e, es[i]? = some x → asq[i]? = some e → e.born = x.1 ∧ e.key = kt.kval x.2.1 ∧ RD g.γ w (.sl vt.size (x.2.2.2.map vt.ds)) e.val := by
   intro i x e hx he
   obtain ⟨a1, a2, a3, _⟩ := h3 i _ e (hget i x hx) he
   rw [kt.kval_dv _ hk] at a2
   exact ⟨a1, a2, a3⟩
  have hlen : es.length = asq.size := by simpa using h2
  refine ⟨asq, ⟨h1, by simpa [fgT] using hlen, ?_, ?_, ?_, ?_⟩, ?_⟩
  ·rw [Qh0]
   apply List.ext_getElem?
   intro i
   rw [List.getElem?_map, List.getElem?_map, List.getElem?_map, Array.getElem?_toList]
   by_cases hi : i < asq.size
   ·have hi' : i < es.length := by omega
    rw [Array.getElem?_eq_getElem hi, List.getElem?_eq_getElem hi']
    have := (hat i es[i] asq[i] (by simp [hi']) (by simp [hi])).2.1
    simp [this]
   ·rw [Array.getElem?_eq_none (by omega), List.getElem?_eq_none (by omega)]; rfl
  ·intro i x e hx he
   simp only [fgT, List.getElem?_map, Option.map_eq_some_iff] at hx
   obtain ⟨y, hy, rfl⟩ := hx
   exact hat i y e hy he
  ·intro p hp
   simp only [fgT, List.mem_map] at hp
   obtain ⟨y, hy, rfl⟩ := hp
   exact h4 _ (List.mem_map_of_mem (f := fun e : Nat × kt.T × Bool × List vt.T => (e.1, dval (kt.dv e.2.1), e.2.2.1, e.2.2.2.map vt.ds)) hy)
  ·simpa [fgT, List.map_map, Function.comp_def] using h5
  ·intro j x e hx he hf hL
   exact (h3 j _ e (hget j x hx) he).2.2.2 hf hL
theorem MapT.rel {L : Nat} {g : Gh} {w : World} {b : Nat} {es : EntT kt vt} {clock : Nat} {asq : Array MapEntry} (hk : kt.key = true) (h : MapT kt vt L g w b es clock asq) : ObRel g w b (maptO L kt vt es clock) := by
 have hf : ∀ (i : Nat) x, es[i]? = some x → (fgT es)[i]? = some (x.1, x.2.1, x.2.2.2) := fun i x hx => by simp [fgT, hx]
 refine .mapt L vt.size _ clock asq h.m.heap (by have := h.m.len; simpa [fgT] using this) ?_ ?_ ?_
 ·intro i x e hx he
  rw [List.getElem?_map, Option.map_eq_some_iff] at hx
  obtain ⟨y, hy, rfl⟩ := hx
  obtain ⟨a1, a2, a3⟩ := h.m.at' i _ e (hf i y hy) he
  simp only [kt.kval_dv _ hk]
  exact ⟨a1, a2, a3, fun h1 h2 => h.t i y e hy he h1 h2⟩
 ·intro p hp
  rw [List.mem_map] at hp
  obtain ⟨y, hy, rfl⟩ := hp
  exact h.m.lt _ (List.mem_map_of_mem (f := fun e : Nat × kt.T × Bool × List vt.T => (e.1, e.2.1, e.2.2.2)) hy)
 ·have := h.m.nodup
  simpa [fgT, List.map_map, Function.comp_def] using this
theorem MapT.lt {L : Nat} {g : Gh} {w : World} {b : Nat} {es : EntT kt vt} {clock : Nat} {asq : Array MapEntry} (h : MapT kt vt L g w b es clock asq) : ∀ p ∈ es, p.1 < clock := fun y hy => h.m.lt _ (List.mem_map_of_mem (f := fun e : Nat × kt.T × Bool × List vt.T => (e.1, e.2.1, e.2.2.2)) hy)
theorem MapT.nodup {L : Nat} {g : Gh} {w : World} {b : Nat} {es : EntT kt vt} {clock : Nat} {asq : Array MapEntry} (h : MapT kt vt L g w b es clock asq) : (es.map (·.1)).Nodup := by
 have := h.m.nodup
 simpa [fgT, List.map_map, Function.comp_def] using this
theorem Qti {es es' : EntT kt vt} (hl : es'.length = es.length) (h : ∀ (j : Nat) (x' : EntE kt vt), es'[j]? = some x' → ∃ x : EntE kt vt, es[j]? = some x ∧ x'.1 = x.1 ∧ x'.2.1 = x.2.1 ∧ x'.2.2.2 = x.2.2.2) : SameL (lT es) (lT es') := by
 refine ⟨by simp [lT, hl], fun j x' hx => ?_⟩
 simp only [lT, List.getElem?_map, Option.map_eq_some_iff] at hx
 obtain ⟨y, hy, rfl⟩ := hx
 obtain ⟨x, a1, a2, a3, a4⟩ := h j y hy
 refine ⟨(x.1, dval (kt.dv x.2.1), x.2.2.1, x.2.2.2.map vt.ds), by simp [lT, a1], a2, ?_, ?_⟩
 ·simp only [a3]
 ·simp only [a4]
end
section
variable {P : Program} {o : Oper} {X : Store} {kt vt : Ty}
theorem Qun {t : TypeId} (k L : Nat) (ho : o.op = .makeMap t none) (hk : X.objs.lookup k = none) (hX : Qa [k] X = true) (hL : L ∉ X.live) (hXL : Qa [L] X = true) :
  OpT P o [] X ⟨(k, maptO L kt vt [] 0) :: X.objs, L :: X.live⟩ [L, k] (.mp k) := by
 intro nm hsm B g w a hr hrd next Q hn
 obtain ⟨hr1, ht1⟩ := hr.addTip hL none hXL (by simp)
 obtain ⟨h1, h2⟩ := hr1.newObj (k := k) hk hX (.map #[] 0) (maptO L kt vt [] 0) (by
  intro g' w' _ hw
  exact .mapt L vt.size [] 0 #[] hw rfl (by simp) (by simp) (by simp))
 unfold Oper.wp
 have : (execOp a.eval o).run P w = .ok (.value (.map (some w.heap.size))) (w.alloc (.map #[] 0)) := by
  simp [execOp, ho, Instr.makeMap]
 rw [this]
 refine hn _ _ _ h1 (ht1.trans h2) (.nm _ _ _ ?_)
 show Value.map (some w.heap.size) = .map (some (upd g.ρ k w.heap.size k))
 rw [upd_same]
def Qs8 {vt : Ty} (ok : Bool) (n : Nat) (l : List vt.T) (b : Bool) : AV := if ok then .tup [.tip n vt.size (l.map vt.ds), .d (.bool b)] else .tip n vt.size (l.map vt.ds)
theorem Q10q {g : Gh} {w : World} {ok : Bool} {n : Nat} {l : List vt.T} {u : Value} {b : Bool} (h : RA g w (.tip n vt.size (l.map vt.ds)) u) : RA g w (Qs8 ok n l b) (if ok then .tuple #[u, .bool b] else u) := by
 cases ok with
 | false => exact h
 | true =>
  refine .tup _ _ rfl fun i c x hc hx => ?_
  rcases i with _ | _ | i
  ·simp at hc hx; subst hc; subst hx; exact h
  ·simp at hc hx; subst hc; subst hx; exact .ofSc _ _ _
  ·simp at hc
def blkOf : Value → Option Nat
 | .slice (some a) _ _ => some a.block
 | _ => none
theorem Qxl {t e : TypeId} {x y : Operand} {ok : Bool} {k L n : Nat} {es : EntT kt vt} {clock : Nat} {a : kt.T} {i : TypeInfo} (ho : o.op = .lookup t x y ok) (hm : MapI P t kt (.sl vt) e) (hi : P.info? e = some i) (hz : i.zero = some (.slice none 0 0))
  (hk : X.objs.lookup k = some (maptO L kt vt es clock)) (hfree : Qc4 k L X) (hf : tflag a es = true) (hn : n ∉ X.live) (hnX : Qa [n] ⟨Ab.setObj k (maptO L kt vt (toff a es) clock) X.objs, X.live⟩ = true) (hL : L ∈ X.live) :
  OpT P o [(x, .mp k), (y, .d (kt.dv a))] X ⟨Ab.setObj k (maptO L kt vt (toff a es) clock) X.objs, n :: X.live⟩ [L, n] (Qs8 ok n (tval a es) (thas a es)) := by
 intro nm hsm B g w ac hr hrd next Q hnext
 obtain ⟨kty, hu, hK⟩ := hm.und
 have h1 := (rd0 hrd).mp_inv
 have h2 : ac.eval y = kt.kval a := by
  have := rd1 hrd
  cases this with
  | d _ _ h => exact kt.kval_inv hK.key h
 simp only at h1
 obtain ⟨asq, hw⟩ := Qpd hK.key (hr.objs k _ hk)
 have hLs : (g.β L).isSome := (hr.live L).1 hL
 have hfd := hw.m.find hK a
 have hc := hK.check asq.isEmpty 9998 a w
 have hget := MapKept.run_getObj_map (P := P) hw.m.heap
 have hlen : es.length = asq.size := by have := hw.m.len; simpa [fgT] using this
 -- what is found
 obtain ⟨val, hrun, hval, htip⟩ : ∃ val, (execOp ac.eval o).run P w = .ok (.value (if ok then .tuple #[val, .bool (thas a es)] else val)) w ∧ RD g.γ w (.sl vt.size ((tval a es).map vt.ds)) val ∧ TipE g w L (tborn a es clock) vt.size val := by
  rw [Qh0] at hfd
  have hth := Qiz a es
  cases hj : kidx kt a (es.map (·.2.1)) with
  | none =>
   rw [hj] at hfd hth
   simp only [Option.bind_none] at hfd hth
   refine ⟨.slice none 0 0, ?_, ?_, trivial⟩
   ·simp only [execOp, ho, h1, h2, Instr.lookup, Sem.run_bind, run_underlying hu, Result.andThen_ok, Sem.run_pure, hget, hc, hfd]
    simp [zeroValue, typeInfo, hi, hz, thas, hth]
   ·simp only [tval, hth, List.map_nil]
    exact .nil _ _ _ fun _ => rfl
  | some j =>
   have hj' := Qad hj
   rw [List.length_map] at hj'
   have hja : j < asq.size := by omega
   rw [hj] at hfd hth
   simp only [Option.bind_some, Array.getElem?_eq_getElem hja, Option.map_some] at hfd
   simp only [Option.bind_some, List.getElem?_eq_getElem hj', Option.map_some] at hth
   refine ⟨asq[j].val, ?_, ?_, ?_⟩
   ·simp only [execOp, ho, h1, h2, Instr.lookup, Sem.run_bind, run_underlying hu, Result.andThen_ok, Sem.run_pure, hget, hc, hfd]
    simp [thas, hth]
   ·have := (hw.m.at' j (es[j].1, es[j].2.1, es[j].2.2.2) asq[j] (by simp [fgT, hj']) (by simp [hja])).2.2
    simp only [tval, hth]
    exact this
   ·have hfl : es[j].2.2.1 = true := by simpa [tflag, hth] using hf
    have := hw.t j es[j] asq[j] (by simp [hj']) (by simp [hja]) hfl hLs
    simp only [tborn, hth]
    exact this
 -- taken out
 have hoff := Qwh a es
 obtain ⟨hr1, ht1⟩ := hr.takeE (i := tborn a es clock) (l := lT es) (l' := lT (toff a es)) hk hfree (Qti hoff.1 fun j x' hx => by
   obtain ⟨x, a1, a2, a3, a4, _⟩ := hoff.2 j x' hx
   exact ⟨x, a1, a2, a3, a4⟩) (by
  intro j x' x hx' hx hflag
  simp only [lT, List.getElem?_map, Option.map_eq_some_iff] at hx hx'
  obtain ⟨y', hy', rfl⟩ := hx'
  obtain ⟨y0, hy, rfl⟩ := hx
  obtain ⟨x, a1, a2, a3, a4, a5⟩ := hoff.2 j y' hy'
  rw [hy] at a1
  cases a1
  obtain ⟨b1, b2⟩ := a5 hflag
  exact ⟨b1, Qw4 hy b2 hw.lt hw.nodup⟩)
 obtain ⟨hr2, ht2⟩ := hr1.addTip (m := n) hn (blkOf val) hnX (by
  intro b hb
  cases val with
  | slice ad len cap =>
   cases ad with
   | none => simp [blkOf] at hb
   | some ad =>
    simp only [blkOf, Option.some.injEq] at hb
    subst hb
    obtain ⟨q1, q2, q3, q4⟩ := htip
    refine ⟨hr.eta.lt L _ _ hLs q2, hr.eta.new L _ _ hLs q2, fun j p hj => ?_, fun m hm => hr.eta.tip L _ _ m hLs q2 hm, fun L' i' hL' he => ?_⟩
    ·obtain ⟨q, hq⟩ := Qcp hk hj
     exact hr.eta.obj L _ _ j q hLs q2 hq
    ·simp only at he hL'
     by_cases hl : L' = L
     ·subst hl
      rw [upd_same] at he
      by_cases hi' : i' = tborn a es clock
      ·subst hi'; rw [upd_same] at he; cases he
      ·rw [Q4 _ _ hi'] at he
       exact hi' (hr.eta.inj _ _ _ _ _ hLs hLs he q2).2
     ·rw [Q4 _ _ hl] at he
      exact hl (hr.eta.inj _ _ _ _ _ hL' hLs he q2).1
  | _ => simp [blkOf] at hb)
 unfold Oper.wp
 rw [hrun]
 refine hnext _ w _ hr2 (ht1.trans ht2) (Q10q (.tip n vt.size _ none _ hval ?_))
 cases val with
 | slice ad len cap =>
  cases ad with
  | none => trivial
  | some ad =>
   obtain ⟨q1, q2, q3, q4⟩ := htip
   intro ob' hob'
   simp only [upd_same, Option.some.injEq] at hob'
   exact ⟨q1, hob'.symm, q3, q4, by simp⟩
 | _ => trivial
theorem Qi4 (k : Nat) (o o' : Ob) : ∀ l : List (Nat × Ob), Ab.setObj k o (Ab.setObj k o' l) = Ab.setObj k o l
 | [] => by simp [Ab.setObj]
 | (j, p) :: r => by
  simp only [Ab.setObj]
  by_cases h : j = k
  ·simp [h, Ab.setObj]
  ·simp only [if_neg h, Ab.setObj, Qi4 k o o' r]
theorem MapW.update {g : Gh} {w : World} {b : Nat} {es : Ents kt vt} {clock : Nat} {asq : Array MapEntry} {t e kty : TypeId} (hw : MapW kt vt g w b es clock asq) (hu : P.underlying t = some (.map kty e)) (hK : KeyI P kty kt) (a : kt.T) (v : vt.T) (val : Value) (h3 : RD g.γ w (vt.dv v) val) :
  ∃ as', (Instr.mapUpdate t (.map (some b)) (kt.kval a) val).run P w = .ok () { w with heap := w.heap.setIfInBounds b (.map as' (mclk a es clock)) } ∧
   (∀ w', w'.heap[b]? = some (.map as' (mclk a es clock)) → LeD g.γ w g.γ w' → MapW kt vt g w' b (mput a v clock es) (mclk a es clock) as') ∧
   ∀ (j : Nat) e', as'[j]? = some e' → (j = (kidx kt a (es.map (·.2.1))).getD es.length ∧ e'.val = val) ∨ (j ≠ (kidx kt a (es.map (·.2.1))).getD es.length ∧ asq[j]? = some e') := by
 have hf := hw.find hK a
 have hc := hK.check false 9998 a w
 have hst := hK.stays a w
 have hget := MapKept.run_getObj_map (P := P) hw.heap
 have hset := Qeb (P := P) hw.heap
 have ec := Qqj a es clock
 cases hj : kidx kt a (es.map (·.2.1)) with
 | none =>
  rw [hj] at hf
  simp only [Option.bind_none] at hf
  rw [hj] at ec
  simp only at ec
  rw [ec, Qjt hj]
  refine ⟨asq.push { key := kt.kval a, val := val, born := clock }, ?_, ?_, ?_⟩
  ·simp only [Instr.mapUpdate, Sem.run_bind, run_underlying hu, Result.andThen_ok, hget, hc, hf, hset]
  ·intro w' hb' hle
   refine ⟨hb', by simp [hw.len], by simp [hw.keys], ?_, ?_, ?_⟩
   ·intro i q m hq hm'
    by_cases hi : i < es.length
    ·rw [List.getElem?_append_left hi] at hq
     rw [Array.getElem?_push, if_neg (by rw [← hw.len]; omega)] at hm'
     have := hw.at' i q m hq hm'
     exact ⟨this.1, this.2.1, this.2.2.mono hle⟩
    ·rw [List.getElem?_append_right (by omega)] at hq
     have hi0 : i = es.length := by
      by_cases h0 : i - es.length = 0
      ·omega
      ·rw [List.getElem?_eq_none (by simp; omega)] at hq; cases hq
     subst hi0
     simp at hq
     rw [hw.len] at hm'
     simp at hm'
     subst hq; subst hm'
     exact ⟨rfl, rfl, h3.mono hle⟩
   ·intro p hp
    rcases List.mem_append.1 hp with hp | hp
    ·have := hw.lt p hp; omega
    ·simp at hp; subst hp; exact Nat.lt_succ_self _
   ·rw [List.map_append, List.nodup_append]
    refine ⟨hw.nodup, by simp, ?_⟩
    intro p hp q hq
    simp at hq
    subst hq
    obtain ⟨y', hy', rfl⟩ := List.mem_map.1 hp
    have := hw.lt y' hy'
    omega
  ·intro j e' he
   simp only [Option.getD_none]
   rw [Array.getElem?_push, ← hw.len] at he
   split at he
   ·rename_i hjj
    cases he
    exact .inl ⟨hjj, rfl⟩
   ·rename_i hjj
    exact .inr ⟨hjj, he⟩
 | some j =>
  have hj' := Qad hj
  rw [List.length_map] at hj'
  have hja : j < asq.size := by rw [← hw.len]; exact hj'
  have hat := Qp7 hK.key hj
  rw [List.getElem?_map, List.getElem?_eq_getElem hj'] at hat
  simp only [Option.map_some, Option.some.injEq] at hat
  have hkj : asq[j].key = kt.kval a := by rw [(hw.at' j es[j] asq[j] (by simp [hj']) (by simp [hja])).2.1, hat]
  rw [hj] at hf
  simp only [Option.bind_some, Array.getElem?_eq_getElem hja, Option.map_some] at hf
  rw [hj] at ec
  simp only at ec
  rw [ec, Qjh hj]
  refine ⟨asq.modify j fun q => { q with key := kt.kval a, val := val }, ?_, ?_, ?_⟩
  ·simp only [Instr.mapUpdate, Sem.run_bind, run_underlying hu, Result.andThen_ok, hget, hc, hf, Array.getElem?_eq_getElem hja, Option.map_some, Option.getD_some, hkj, hst, hset]
  ·intro w' hb' hle
   have hent : ∀ (i : Nat) q m, (es.modify j fun q => (q.1, a, v))[i]? = some q → (asq.modify j fun q => { q with key := kt.kval a, val := val })[i]? = some m → m.born = q.1 ∧ m.key = kt.kval q.2.1 ∧ RD g.γ w' (vt.dv q.2.2) m.val := by
    intro i q m hq hm'
    rw [List.getElem?_modify] at hq
    rw [Array.getElem?_modify] at hm'
    by_cases hij : j = i
    ·subst hij
     rw [List.getElem?_eq_getElem hj'] at hq
     rw [Array.getElem?_eq_getElem hja] at hm'
     simp at hq hm'
     subst hq; subst hm'
     exact ⟨(hw.at' j es[j] asq[j] (by simp [hj']) (by simp [hja])).1, rfl, h3.mono hle⟩
    ·rw [if_neg hij] at hm'
     simp only [hij, if_false] at hq
     have := hw.at' i q m (by simpa using hq) hm'
     exact ⟨this.1, this.2.1, this.2.2.mono hle⟩
   refine ⟨hb', by simp [hw.len], ?_, hent, ?_, ?_⟩
   ·apply List.ext_getElem?
    intro i
    rw [List.getElem?_map, List.getElem?_map, List.getElem?_map, Array.getElem?_toList]
    by_cases hi : i < asq.size
    ·have hi' : i < es.length := by rw [hw.len]; exact hi
     have hA : i < (asq.modify j fun q => { q with key := kt.kval a, val := val }).size := by simpa using hi
     have hE : i < (es.modify j fun q => (q.1, a, v)).length := by simpa using hi'
     rw [Array.getElem?_eq_getElem hA, List.getElem?_eq_getElem hE]
     have := (hent i _ _ (List.getElem?_eq_getElem hE) (Array.getElem?_eq_getElem hA)).2.1
     simp only [Option.map_some, this]
    ·rw [Array.getElem?_eq_none (by simpa using hi), List.getElem?_eq_none (by simp [hw.len]; omega)]; rfl
   ·intro p hp
    have h5 : p.1 ∈ ((es.modify j fun q => (q.1, a, v)).map (·.1)) := List.mem_map_of_mem (f := (·.1)) hp
    rw [Q8p (fun q : Nat × kt.T × vt.T => q.1) (fun q : Nat × kt.T × vt.T => (q.1, a, v)) (fun _ => rfl) es j] at h5
    obtain ⟨q, hq, he⟩ := List.mem_map.1 h5
    rw [← he]; exact hw.lt q hq
   ·rw [Q8p (fun q : Nat × kt.T × vt.T => q.1) (fun q : Nat × kt.T × vt.T => (q.1, a, v)) (fun _ => rfl) es j]; exact hw.nodup
  ·intro i e' he
   simp only [Option.getD_some]
   rw [Array.getElem?_modify] at he
   by_cases hij : j = i
   ·subst hij
    rw [if_pos rfl, Array.getElem?_eq_getElem hja] at he
    simp at he
    subst he
    exact .inl ⟨rfl, rfl⟩
   ·rw [if_neg hij] at he
    exact .inr ⟨Ne.symm hij, he⟩
theorem Qra {t e : TypeId} {x y u : Operand} {k L n : Nat} {es : EntT kt vt} {clock : Nat} {a : kt.T} {v : List vt.T} {ty : Option TypeId} (ho : o.op = .mapUpdate t x y u ∨ o.op = .insert t x y u) (hm : MapI P t kt (.sl vt) e)
  (hk : X.objs.lookup k = some (maptO L kt vt es clock)) (hfree : Qc4 k L X) (hnl : n ∈ X.live) :
  OpT P o [(x, .mp k), (y, .d (kt.dv a)), (u, .tip n vt.size (v.map vt.ds) ty)] X ⟨Ab.setObj k (maptO L kt vt (tput a v true clock es) (mclk a (fgT es) clock)) X.objs, X.live.filter (· != n)⟩ [L] (.d (.sc undef)) := by
 intro nm hsm B g w ac hr hrd next Q hn
 obtain ⟨kty, hu, hK⟩ := hm.und
 have h1 := (rd0 hrd).mp_inv
 have h2 : ac.eval y = kt.kval a := by
  have := rd1 hrd
  cases this with
  | d _ _ h => exact kt.kval_inv hK.key h
 obtain ⟨h3, h4⟩ : RD g.γ w ((Ty.sl vt).dv v) (ac.eval u) ∧ TipOk g w n vt.size ty (ac.eval u) := by
  have := rd2 hrd
  cases this with
  | tip _ _ _ _ _ h h' => exact ⟨h, h'⟩
 simp only at h1
 obtain ⟨asq, hw⟩ := Qpd hK.key (hr.objs k _ hk)
 obtain ⟨as', e1, e2, e3⟩ := hw.m.update hu hK a v (ac.eval u) h3
 rw [Qh0] at e3
 have hJ : (kidx kt a (es.map (·.2.1))).getD (fgT es).length = tidx a es := by simp [tidx, fgT]
 rw [hJ] at e3
 have hlt : g.ρ k < w.heap.size := (Array.getElem?_eq_some_iff.1 hw.m.heap).1
 obtain ⟨w1, hw1⟩ : ∃ w1 : World, w1 = { w with heap := w.heap.setIfInBounds (g.ρ k) (.map as' (mclk a (fgT es) clock)) } := ⟨_, rfl⟩
 have hb1 : w1.heap[g.ρ k]? = some (.map as' (mclk a (fgT es) clock)) := by rw [hw1]; simp [Array.getElem?_setIfInBounds, hlt]
 -- written, asq data
 obtain ⟨hr1, ht1⟩ := hr.write (w' := w1) (o' := maptO L kt vt (tput a v false clock es) (mclk a (fgT es) clock)) hk (by rw [hw1]; simp) (by rw [hw1]; exact ⟨rfl, rfl, rfl, Nat.le_refl _⟩)
  (by intro b hb'; rw [hw1]; simp [Array.getElem?_setIfInBounds, Ne.symm hb']) (fun ht => MapT.rel hK.key (asq := as') ⟨by rw [Qwp]; exact e2 w1 hb1 ht.le, by
   intro j q m hq hm' hfl hL
   rcases Qge a v false clock es j q hq with ⟨p1, p2, p3⟩ | ⟨p1, p2⟩
   ·rw [p2] at hfl; cases hfl
   ·rcases e3 j m hm' with ⟨r1, r2⟩ | ⟨r1, r2⟩
    ·exact (p1 r1).elim
    ·exact (hw.t j q m p2 r2 hfl hL).keep ht (by simp) hL⟩) (by
   intro sh hsh
   simp [World.shape?, hw.m.heap] at hsh)
 obtain ⟨ob, hob⟩ : ∃ ob, g.β n = some ob := Option.isSome_iff_exists.1 ((hr.live n).1 hnl)
 have h4' : TipOk g w1 n vt.size ty (ac.eval u) := h4.keep ht1 (by simp)
 -- the label goes
 obtain ⟨hr2, ht2⟩ := hr1.dropTip n
 have hk2 : (Ab.setObj k (maptO L kt vt (tput a v false clock es) (mclk a (fgT es) clock)) X.objs).lookup k = some (maptO L kt vt (tput a v false clock es) (mclk a (fgT es) clock)) := by rw [Qb, if_pos rfl]
 have hsame := Qq8 a v false true clock es
 obtain ⟨hr3, ht3⟩ := hr2.giveE (i := tborn a es clock) (ob := blkOf (ac.eval u)) (l := lT (tput a v false clock es)) (l' := lT (tput a v true clock es)) (L := L) hk2 (by
   intro j p hj hp
   simp only at hp
   rw [Qb, if_neg hj] at hp
   exact hfree j p hj hp) (by
   intro b hb
   have hob1 : g.β n = some (some b) := by
    generalize ac.eval u = val at hb h4
    cases val with
    | slice ad len cap =>
     cases ad with
     | none => simp [blkOf] at hb
     | some ad =>
      simp only [blkOf, Option.some.injEq] at hb
      subst hb
      rw [hob, (h4 ob hob).2.1]
    | _ => simp [blkOf] at hb
   refine ⟨hr1.tiplt n b hob1, hr1.tipnew n b hob1, fun j p hj => hr1.tipobj n b j p hob1 hj, fun m hm => ?_, hr1.eta.dropN hob1⟩
   by_cases he : m = n
   ·subst he; simp [upd_same] at hm
   ·simp only [Q4 _ _ he] at hm
    exact he (hr1.tipinj m n b hm hob1)) (Qti hsame.1 hsame.2) (by
   intro j x' x0 hx' hx hflag
   simp only [lT, List.getElem?_map, Option.map_eq_some_iff] at hx hx'
   obtain ⟨y', hy', rfl⟩ := hx'
   obtain ⟨y0, hy0, rfl⟩ := hx
   rcases Qge a v true clock es j y' hy' with ⟨p1, p2, p3⟩ | ⟨p1, p2⟩
   ·right
    rcases Qge a v false clock es j y0 hy0 with ⟨r1, r2, r3⟩ | ⟨r1, r2⟩
    ·refine ⟨r3, ?_⟩
     intro bs m hbs hm'
     simp only at hbs
     rw [hb1] at hbs
     cases hbs
     rcases e3 j m hm' with ⟨s1, s2⟩ | ⟨s1, s2⟩
     ·rw [s2]
      generalize ac.eval u = val at h4'
      cases val with
      | slice ad len cap =>
       cases ad with
       | none => trivial
       | some ad =>
        obtain ⟨q1, q2, q3, q4, _⟩ := h4' ob hob
        refine ⟨q1, ?_, q3, q4⟩
        simp only [upd_same, blkOf]
      | _ => trivial
     ·exact (s1 p1).elim
    ·exact (r1 p1).elim
   ·left
    rcases Qge a v false clock es j y0 hy0 with ⟨r1, r2, r3⟩ | ⟨r1, r2⟩
    ·exact (p1 r1).elim
    ·rw [p2] at r2
     cases r2
     exact ⟨hflag, Qw4 p2 p1 hw.lt hw.nodup⟩)
 have hrun : (execOp ac.eval o).run P w = .ok .skip w1 := by
  rw [hw1]
  rcases ho with ho | ho <;> simp [execOp, ho, h1, h2, e1]
 unfold Oper.wp
 rw [hrun]
 have hX : Ab.setObj k (maptO L kt vt (tput a v true clock es) (mclk a (fgT es) clock)) (Ab.setObj k (maptO L kt vt (tput a v false clock es) (mclk a (fgT es) clock)) X.objs) = Ab.setObj k (maptO L kt vt (tput a v true clock es) (mclk a (fgT es) clock)) X.objs := Qi4 _ _ _ _
 have hr3' : HR nm B _ w1 ⟨Ab.setObj k (maptO L kt vt (tput a v true clock es) (mclk a (fgT es) clock)) (Ab.setObj k (maptO L kt vt (tput a v false clock es) (mclk a (fgT es) clock)) X.objs), X.live.filter (· != n)⟩ := hr3
 rw [hX] at hr3'
 exact hn _ _ undef hr3' ((ht1.trans ht2).trans ht3) (.ofSc _ _ _)
end
section
variable {P : Program} {R : Type}
def Qgm (m : Nat) : Nat := 500000 + m
def Q12h (P : Program) (t : TypeId) : Option (Ty × Ty) :=
 match Qcy P t with
 | some (kt, .sl vt) => some (kt, vt)
 | _ => none
def Qjq (P : Program) (st : XSt) (o : Oper) (t : TypeId) (r : Option Operand) (K : Out → Option R) : Option R :=
 match r with
 | none => match Q12h P t, newName o with
  | some ts, some m => cond (fresh m st) (cond (Q7w (Qgm m) st.live st) (K ⟨.all, .nm m .m, [], (m, .mapt (Qgm m) ts.1 ts.2 [] 0) :: st.objs, Qgm m :: st.live, [Qgm m, m], [m]⟩) none) none
  | _, _ => none
 | some _ => none
theorem Qua {o : Oper} {st : XSt} {t : TypeId} {rs : Option Operand} {K : Out → Option R} {r : R} (ho : o.op = .makeMap t rs) (h : Qjq P st o t rs K = some r) : ∃ out, K out = some r ∧ OpOk P o st out := by
 unfold Qjq at h
 split at h
 ·split at h
  ·rename_i ts m hm hn
   cases hf : fresh m st with
   | false => simp [hf] at h
   | true =>
   cases hl : Q7w (Qgm m) st.live st with
   | false => simp [hf, hl] at h
   | true =>
    simp only [hf, hl, cond_true] at h
    obtain ⟨h1, h2⟩ := Q5n hf
    obtain ⟨h3, h4⟩ := Qd6 hl
    refine ⟨_, h, ⟨by simp [imRd], ?_, fun j z hj hz => ?_⟩⟩
    ·exact Qun (kt := ts.1) (vt := ts.2) m (Qgm m) ho (Q5o h1) h2 h3 h4
    ·rw [Q10 (by simpa using hj)] at hz; exact hz
  ·cases h
 ·cases h
def Qcz (k L : Nat) (st : XSt) : Bool := Q5g [L] (xset k (.sit [] 0) st.objs)
theorem Qjm {k L : Nat} {st : XSt} (h : Qcz k L st = true) : Qc4 k L st.X := by
 have h1 := Q7i (live := st.live) h
 intro j o hj ho
 have h2 : (Q0 (xset k (.sit [] 0) st.objs)).lookup j = some o := by
  rw [Q9e, Qb, if_neg hj]; exact ho
 rcases Q4l h1 h2 with h3 | h3
 ·cases h3
 ·exact h3
def Qng (P : Program) (e : TypeId) : Bool :=
 match P.info? e with
 | some i => match i.zero with
  | some (.slice none 0 0) => true
  | _ => false
 | none => false
theorem Qzd {e : TypeId} (h : Qng P e = true) : ∃ i, P.info? e = some i ∧ i.zero = some (.slice none 0 0) := by
 unfold Qng at h
 split at h
 ·rename_i i hi
  split at h
  ·rename_i hz; exact ⟨i, hi, hz⟩
  ·cases h
 ·cases h
def tipX {vt : Ty} (ok : Bool) (n : Nat) (l : List vt.T) (b : Bool) : XV := cond ok (.tup [.tip n vt l none, .d (.b b)]) (.tip n vt l none)
theorem Q13a {vt : Ty} (ok : Bool) (n : Nat) (l : List vt.T) (b : Bool) : (tipX ok n l b).a = Qs8 ok n l b := by cases ok <;> rfl
def Qn8 (P : Program) (st : XSt) (o : Oper) (t : TypeId) (x y : Operand) (ok : Bool) (K : Out → Option R) : Option R :=
 match xeval st x with
 | some (.nm k .m) => match lk k st.objs with
  | some (.mapt L kt vt es c) => match Q98 P t kt, xd st y, Qnw o with
   | some e, some a, some n => match kt.decv a with
    | some a => cond (Qng P e) (cond (inl L st.live) (cond (inl n st.live) none (cond (Qcz k L st) (cond (Q5g [n] (xset k (.mapt L kt vt (toff a es) c) st.objs)) (cond (tflag a es)
      (K ⟨.putl k (.mapt L kt vt (toff a es) c), tipX ok n (tval a es) (thas a es), [(x, .nm k .m), (y, .d (kt.xv a))], xset k (.mapt L kt vt (toff a es) c) st.objs, n :: st.live, [L, n], [k]⟩) none) none) none)) none) none
    | _ => none
   | _, _, _ => none
  | _ => none
 | _ => none
theorem Quw {o : Oper} {st : XSt} {t : TypeId} {x y : Operand} {ok : Bool} {K : Out → Option R} {r : R} (ho : o.op = .lookup t x y ok) (h : Qn8 P st o t x y ok K = some r) : ∃ out, K out = some r ∧ OpOk P o st out := by
 unfold Qn8 at h
 split at h
 ·rename_i k hx
  split at h
  ·rename_i L kt vt es c hk
   split at h
   ·rename_i e a0 n hm hy hn
    split at h
    ·rename_i a ha
     cases h1 : Qng P e with
     | false => simp [h1] at h
     | true =>
     cases h2 : inl L st.live with
     | false => simp [h1, h2] at h
     | true =>
     cases h3 : inl n st.live with
     | true => simp [h1, h2, h3] at h
     | false =>
     cases h4 : Qcz k L st with
     | false => simp [h1, h2, h3, h4] at h
     | true =>
     cases h5 : Q5g [n] (xset k (.mapt L kt vt (toff a es) c) st.objs) with
     | false => simp [h1, h2, h3, h4, h5] at h
     | true =>
     cases h6 : tflag a es with
     | false => simp [h1, h2, h3, h4, h5, h6] at h
     | true =>
      simp only [h1, h2, h3, h4, h5, h6, cond_true, cond_false] at h
      obtain ⟨i, z1, z2⟩ := Qzd h1
      refine ⟨_, h, ⟨?_, ?_, fun j z hj hz => ?_⟩⟩
      ·intro p hp
       simp only [imRd, List.map_cons, List.map_nil, List.mem_cons, List.not_mem_nil, or_false] at hp
       rcases hp with rfl | rfl
       ·exact Q9 hx
       ·exact Q8u hy ha
      ·have hfr := Q7i (live := st.live) h5
       rw [Q9e] at hfr
       have := Qxl (P := P) (X := st.X) (k := k) (L := L) (n := n) (es := es) (clock := c) (a := a) ho (Q7n (vt := .sl vt) hm) z1 z2 (Q6f hk) (Qjm h4) h6 (fun hh => by rw [(Qx n st.live).2 hh] at h3; cases h3) hfr ((Qx L st.live).1 h2)
       refine ⟨rfl, ?_⟩
       show OpT P o _ st.X ⟨Q0 (xset k (.mapt L kt vt (toff a es) c) st.objs), n :: st.live⟩ [L, n] (tipX ok n (tval a es) (thas a es)).a
       rw [Q9e, Q13a]
       exact this
      ·simp only [List.mem_cons, List.not_mem_nil, or_false] at hj
       rwa [Q66 _ _ _ _ hj] at hz
    ·cases h
   ·cases h
  ·cases h
 ·cases h
def Qcm (P : Program) (st : XSt) (t : TypeId) (x y u : Operand) (K : Out → Option R) : Option R :=
 match xeval st x with
 | some (.nm k .m) => match lk k st.objs with
  | some (.mapt L kt vt es c) => match Q98 P t kt, xd st y, xeval st u with
   | some e, some a, some (.tip n vt' l ty) => match kt.decv a with
    | some a => if h : vt'.eqb vt = true then
      cond (inl n st.live) (cond (Qcz k L st)
       (K ⟨.putl k (.mapt L kt vt (tput a (Ty.eqb_eq h ▸ l : List vt.T) true c es) (mclk a (fgT es) c)), .d (.v undef), [(x, .nm k .m), (y, .d (kt.xv a)), (u, .tip n vt' l ty)], xset k (.mapt L kt vt (tput a (Ty.eqb_eq h ▸ l : List vt.T) true c es) (mclk a (fgT es) c)) st.objs, without n st.live, [L], [k]⟩) none) none
      else none
    | _ => none
   | _, _, _ => none
  | _ => none
 | _ => none
theorem Qgo {o : Oper} {st : XSt} {t : TypeId} {x y u : Operand} {K : Out → Option R} {r : R} (ho : o.op = .mapUpdate t x y u ∨ o.op = .insert t x y u) (h : Qcm P st t x y u K = some r) : ∃ out, K out = some r ∧ OpOk P o st out := by
 unfold Qcm at h
 split at h
 ·rename_i k hx
  split at h
  ·rename_i L kt vt es c hk
   split at h
   ·rename_i e a0 n vt' l ty hm hy hu
    split at h
    ·rename_i a ha
     split at h
     ·rename_i he
      have e0 := Ty.eqb_eq he
      subst e0
      cases h1 : inl n st.live with
      | false => simp [h1] at h
      | true =>
      cases h2 : Qcz k L st with
      | false => simp [h1, h2] at h
      | true =>
       simp only [h1, h2, cond_true] at h
       refine ⟨_, h, ⟨?_, ?_, fun j z hj hz => ?_⟩⟩
       ·intro p hp
        simp only [imRd, List.map_cons, List.map_nil, List.mem_cons, List.not_mem_nil, or_false] at hp
        rcases hp with rfl | rfl | rfl
        ·exact Q9 hx
        ·exact Q8u hy ha
        ·exact Q9 hu
       ·have := Qra (P := P) (X := st.X) (k := k) (L := L) (n := n) (es := es) (clock := c) (a := a) (v := l) (ty := ty) ho (Q7n (vt := .sl vt') hm) (Q6f hk) (Qjm h2) ((Qx n st.live).1 h1)
        refine ⟨rfl, ?_⟩
        show OpT P o _ st.X ⟨Q0 (xset k _ st.objs), _⟩ [L] _
        rw [Q9e]
        exact this
       ·simp only [List.mem_cons, List.not_mem_nil, or_false] at hj
        rwa [Q66 _ _ _ _ hj] at hz
     ·cases h
    ·cases h
   ·cases h
  ·cases h
 ·cases h
def Qe2 (st : XSt) (x : Operand) : Bool :=
 match xeval st x with
 | some (.nm k .m) => match lk k st.objs with
  | some (.mapt _ _ _ _ _) => true
  | _ => false
 | _ => false
def fgOb : XOb → XOb
 | .mapt _ kt vt es c => .map kt (.sl vt) (fgT es) c
 | o => o
def Qgg : XOb → Bool
 | .mapt _ _ _ _ _ => true
 | _ => false
def Qg1 : List (Nat × XOb) → List (Nat × XOb)
 | [] => []
 | p :: r => (p.1, fgOb p.2) :: Qg1 r
def Qgu : List (Nat × XOb) → List Nat
 | [] => []
 | p :: r => cond (Qgg p.2) (p.1 :: Qgu r) (Qgu r)
def fgSt (st : XSt) : XSt := ⟨st.env, Qg1 st.objs, st.live, st.wl, Qgu st.objs ++ st.ol⟩
theorem lk_fg (k : Nat) : ∀ l : List (Nat × XOb), lk k (Qg1 l) = (lk k l).map fgOb
 | [] => rfl
 | p :: r => by
  simp only [Qg1, lk]
  cases Nat.beq p.1 k with
  | true => rfl
  | false => exact lk_fg k r
theorem Qlp {k : Nat} {o : XOb} : ∀ {l : List (Nat × XOb)}, lk k l = some o → Qgg o = true → k ∈ Qgu l
 | [], h, _ => by cases h
 | p :: r, h, hm => by
  simp only [lk] at h
  simp only [Qgu]
  cases hb : Nat.beq p.1 k with
  | true =>
   rw [hb] at h
   simp only [cond_true, Option.some.injEq] at h
   rw [h, hm, cond_true, Nat.eq_of_beq_eq_true hb]
   exact List.mem_cons_self
  | false =>
   rw [hb] at h
   simp only [cond_false] at h
   have := Qlp h hm
   cases Qgg p.2 with
   | true => exact List.mem_cons_of_mem _ this
   | false => exact this
theorem Qnc {o : XOb} (h : Qgg o = false) : fgOb o = o := by cases o <;> first | rfl | cases h
theorem Q10c {kt vt : Ty} (es : EntT kt vt) : Qew vt.size (lT es) = (fgT es).map fun e => (e.1, dval (kt.dv e.2.1), (Ty.sl vt).dv e.2.2) := by
 simp only [Qew, lT, fgT, List.map_map]
 rfl
theorem SR.fg {S : Sig} {B : Base} {g : Gh} {w : World} {st : XSt} {a : Act} (h : SR S B g w st.im a) : SR S B g w (fgSt st).im a := by
 refine ⟨h.defers, h.size, ?_, h.env⟩
 refine h.hr.plain rfl ?_ ?_
 ·intro k hk
  show ((Q0 (Qg1 st.objs)).lookup k).isSome
  rw [Q1l, lk_fg]
  have hk : ((Q0 st.objs).lookup k).isSome := hk
  rw [Q1l] at hk
  cases hl : lk k st.objs with
  | none => rw [hl] at hk; cases hk
  | some o => rfl
 ·intro k o' hk
  have hk : (Q0 (Qg1 st.objs)).lookup k = some o' := hk
  rw [Q1l, lk_fg] at hk
  show (Q0 st.objs).lookup k = some o' ∨ ∃ L sz l c, (Q0 st.objs).lookup k = _ ∧ _
  rw [Q1l]
  cases hl : lk k st.objs with
  | none => rw [hl] at hk; cases hk
  | some o =>
   rw [hl] at hk
   simp only [Option.map_some, Option.some.injEq] at hk ⊢
   subst hk
   cases hm : Qgg o with
   | false => left; rw [Qnc hm]
   | true =>
    right
    cases o with
    | mapt L kt vt es c =>
     refine ⟨L, vt.size, lT es, c, rfl, ?_⟩
     rw [Q10c]
     rfl
    | _ => cases hm
end
section
variable (kt vt : Ty)
@[reducible] def fgTX (es : EntT kt vt) : Ents kt (.sl vt) := fgT es
@[reducible] def tputX (a : kt.T) (v : List vt.T) (f : Bool) (clock : Nat) (es : EntT kt vt) : EntT kt vt := tput a v f clock es
@[reducible] def toffX (a : kt.T) (es : EntT kt vt) : EntT kt vt := toff a es
@[reducible] def tvalX (a : kt.T) (es : EntT kt vt) : List vt.T := tval a es
@[reducible] def Qyd (a : kt.T) (es : EntT kt vt) : Bool := tflag a es
@[reducible] def mgetX (a : kt.T) (es : Ents kt vt) : Option vt.T := mget a es
@[reducible] def mclkX (a : kt.T) (es : Ents kt vt) (clock : Nat) : Nat := mclk a es clock
end
end Go.Xl
set_option linter.unusedVariables false
set_option linter.unusedSimpArgs false
set_option linter.unnecessarySimpa false
namespace Go.Xl
open Go.Ab
structure Ent (P : Program) where
 id : FuncId
 run : {R : Type} → Oper → XSt → List XV → (Out → Option R) → Option R
 ok : ∀ {R : Type} (o : Oper) (st : XSt) (args : Array Operand) (ts : Array TypeId) (vs : List XV) (K : Out → Option R) (r : R),
  o.op = .call { callee := .value (.func id), args := args, argTypes := ts } → Qm st args.toList = some vs → run o st vs K = some r → ∃ out, K out = some r ∧ OpOk P o st out
 /-- called by way of a value, with what was captured -/
 crun : {R : Type} → Oper → XSt → List XV → List XV → (Out → Option R) → Option R := fun _ _ _ _ _ => none
 cok : ∀ {R : Type} (o : Oper) (st : XSt) (t : Tmp) (caps : List XV) (args : Array Operand) (ts : Array TypeId) (vs : List XV) (K : Out → Option R) (r : R),
  o.op = .call { callee := .value (.tmp t), args := args, argTypes := ts } → xeval st (.tmp t) = some (.clo id caps) → Qm st args.toList = some vs → crun o st caps vs K = some r → ∃ out, K out = some r ∧ OpOk P o st out := by
  intros; contradiction
def entOf {P : Program} (f : FuncId) : List (Ent P) → Option (Ent P)
 | [] => none
 | e :: r => cond (Nat.beq e.id f) (some e) (entOf f r)
theorem Qmy {P : Program} {f : FuncId} : ∀ {l : List (Ent P)} {e : Ent P}, entOf f l = some e → e.id = f
 | [], e, h => by cases h
 | a :: r, e, h => by
  simp only [entOf] at h
  cases hb : Nat.beq a.id f with
  | true => simp only [hb, cond_true, Option.some.injEq] at h; subst h; exact Nat.eq_of_beq_eq_true hb
  | false => simp only [hb, cond_false] at h; exact Qmy h
def Q7t (f : FuncId) (o : Oper) : Oper :=
 match o.op with
 | .call c => { o with op := .call { c with callee := .value (.func f) } }
 | _ => o
def Out.addRd (out : Out) (p : Operand × XV) : Out := { out with rd := p :: out.rd }
theorem Q9g {P : Program} {o : Oper} {c : Operand} {f : FuncId} {args : Array Operand} {ts : Array TypeId} {rd : List (Operand × AV)} {X X' : Store} {F : List Nat} {res : AV}
  (ho : o.op = .call { callee := .value c, args := args, argTypes := ts }) (h : OpT P (Q7t f o) rd X X' F res) : OpT P o ((c, .clo f []) :: rd) X X' F res := by
 intro nm hsm B g w a hr hrd next Q hn
 have e1 := hrd _ (List.mem_cons_self ..)
 simp only at e1
 have hc : a.eval c = .func (.func f) #[] #[] := by
  generalize a.eval c = vc at e1
  cases e1 with
  | clo _ _ vs hlen hvs =>
   have : vs = #[] := by
    apply Array.eq_empty_of_size_eq_zero
    simpa using hlen.symm
   rw [this]
 have hd : (Q7t f o).dst = o.dst := by unfold Q7t; rw [ho]
 have h1 := h nm hsm B g w a hr (fun p hp => hrd p (List.mem_cons_of_mem _ hp)) next Q (by rw [hd]; exact hn)
 unfold Oper.wp at h1 ⊢
 have e : execOp a.eval (Q7t f o) = execOp a.eval o := by
  unfold Q7t
  simp only [ho, execOp, resolve]
  simp only [hc]
  rfl
 rw [e] at h1
 unfold Oper.upon at h1 ⊢
 rw [hd] at h1
 exact h1
theorem OpOk.callee {P : Program} {o : Oper} {st : XSt} {out : Out} {t : Tmp} {f : FuncId} {args : Array Operand} {ts : Array TypeId} (ho : o.op = .call { callee := .value (.tmp t), args := args, argTypes := ts })
  (hs : xeval st (.tmp t) = some (.clo f [])) (h : OpOk P (Q7t f o) st out) : OpOk P o st (out.addRd (.tmp t, .clo f [])) := by
 refine ⟨?_, ?_, h.ol⟩
 ·intro p hp
  simp only [Out.addRd, imRd, List.map_cons, List.mem_cons] at hp
  rcases hp with rfl | hp
  ·exact Q9 (x := .tmp t) hs
  ·exact h.sees p hp
 ·have := h.op
  have e : imRd (out.addRd (.tmp t, .clo f [])).rd = (.tmp t, .clo f []) :: imRd out.rd := rfl
  show match out.eff with | .none => _ | .look ks => _ | .put k c => _ | .all => _ | .lab => _ | .putl k c => _
  cases he : out.eff with
  | none => rw [he] at this; exact ⟨this.1, this.2.1, this.2.2.1, fun X => Q9g ho (this.2.2.2 X)⟩
  | look ks => rw [he] at this; exact ⟨this.1, this.2.1, this.2.2.1, fun X hX => Q9g ho (this.2.2.2 X hX)⟩
  | put k c => rw [he] at this; exact ⟨this.1, this.2.1, this.2.2.1, fun X hX => Q9g ho (this.2.2.2 X hX)⟩
  | all => rw [he] at this; exact Q9g ho this
  | lab => rw [he] at this; exact ⟨this.1, Q9g ho this.2⟩
  | putl k c => rw [he] at this; exact ⟨this.1, Q9g ho this.2⟩
section
variable (P : Program) (Γ : List (Ent P)) (own : List Nat) {R : Type}
def ownOp (own : List Nat) (o : Oper) : Bool :=
 match o.dst with
 | some d => inl d own
 | none => false
def Qnx (st : XSt) (x : Operand) : Bool :=
 match xeval st x with
 | some v => Q137 v
 | none => false
def xCall (o : Oper) (st : XSt) (c : Call) (K : Out → Option R) : Option R :=
 match c.callee with
 | .builtin .len => match c.args.toList with
  | [x] => cond (Qnx st x) (Qor P st c.argTypes x K) (Qph P st c.argTypes x K)
  | _ => none
 | .builtin .delete => match c.args.toList with
  | [x, y] => Qpl P st c.argTypes x y K
  | _ => none
 | .builtin .min => match c.args.toList with
  | [x, y] => Qdz st true x y K
  | _ => none
 | .builtin .max => match c.args.toList with
  | [x, y] => Qdz st false x y K
  | _ => none
 | .builtin .append => match c.args.toList with
  | [x, y] => cond (ownOp own o) (Qpc P st o c.argTypes x y K) (cond (Ql7 P c.argTypes) (Qp0 P st o c.argTypes x y K) (Qp3 P st o c.argTypes x y K))
  | _ => none
 | .builtin .clear => match c.args.toList with
  | [x] => Qsg P st c.argTypes x K
  | _ => none
 | .builtin .unsafeSliceData => match c.args.toList with
  | [x] => Qhs P st o x K
  | _ => none
 | .builtin .unsafeString => match c.args.toList with
  | [x, y] => Qfr P st c.argTypes x y K
  | _ => none
 | .builtin .copy => match c.args.toList with
  | [x, y] => xCopy P st c.argTypes x y K
  | _ => none
 | .value (.func f) => match entOf f Γ, Qm st c.args.toList with
  | some e, some vs => e.run o st vs K
  | _, _ => none
 | .value (.tmp t) => match xeval st (.tmp t) with
  | some (.clo f caps) => match entOf f Γ, Qm st c.args.toList with
   | some e, some vs => match caps with
    | [] => e.run (Q7t f o) st vs fun out => K (out.addRd (.tmp t, .clo f []))
    | x :: r => e.crun o st (x :: r) vs K
   | _, _ => none
  | _ => none
 | _ => none
theorem Q9d {c : Call} {l : List Operand} (h : c.args.toList = l) : c.args = l.toArray := by
 rw [← h]
theorem Q123 {o : Oper} {st : XSt} {c : Call} {K : Out → Option R} {r : R} (ho : o.op = .call c) (h : xCall P Γ own o st c K = some r) : ∃ out, K out = some r ∧ OpOk P o st out := by
 obtain ⟨cal, args, ts⟩ := c
 unfold xCall at h
 simp only at h
 split at h
 ·split at h
  ·rename_i x hl
   have := Q9d (c := ⟨.builtin .len, args, ts⟩) hl
   simp only at this
   subst this
   cases hm : Qnx st x with
   | true => rw [hm] at h; exact Qxr ho h
   | false => rw [hm] at h; exact Qxa ho h
  ·cases h
 ·split at h
  ·rename_i x y hl
   have := Q9d (c := ⟨.builtin .len, args, ts⟩) hl
   simp only at this
   subst this
   exact Qx7 ho h
  ·cases h
 ·split at h
  ·rename_i x y hl
   have := Q9d (c := ⟨.builtin .len, args, ts⟩) hl
   simp only at this
   subst this
   exact Q126 ho h
  ·cases h
 ·split at h
  ·rename_i x y hl
   have := Q9d (c := ⟨.builtin .len, args, ts⟩) hl
   simp only at this
   subst this
   exact Q132 ho h
  ·cases h
 ·split at h
  ·rename_i x y hl
   have := Q9d (c := ⟨.builtin .len, args, ts⟩) hl
   simp only at this
   subst this
   cases hw : ownOp own o with
   | true => simp only [hw, cond_true] at h; exact Qx6 ho h
   | false =>
    simp only [hw, cond_false] at h
    cases hb : Ql7 P ts with
    | true => rw [hb] at h; exact Qxu ho hb h
    | false => rw [hb] at h; exact Qxi ho h
  ·cases h
 ·split at h
  ·rename_i x hl
   have := Q9d (c := ⟨.builtin .len, args, ts⟩) hl
   simp only at this
   subst this
   exact Qzx ho h
  ·cases h
 ·split at h
  ·rename_i x hl
   have := Q9d (c := ⟨.builtin .len, args, ts⟩) hl
   simp only at this
   subst this
   exact Qr9 ho h
  ·cases h
 ·split at h
  ·rename_i x y hl
   have := Q9d (c := ⟨.builtin .len, args, ts⟩) hl
   simp only at this
   subst this
   exact Qp5 ho h
  ·cases h
 ·split at h
  ·rename_i x y hl
   have := Q9d (c := ⟨.builtin .len, args, ts⟩) hl
   simp only at this
   subst this
   exact Q11k ho h
  ·cases h
 ·rename_i f
  split at h
  ·rename_i e vs he hvs
   have := Qmy he
   subst this
   exact e.ok o st args ts vs K r ho hvs h
  ·cases h
 ·rename_i t
  split at h
  ·rename_i f caps hclo
   split at h
   ·rename_i e vs he hvs
    have := Qmy he
    subst this
    split at h
    ·obtain ⟨out, h1, h2⟩ := e.ok (Q7t e.id o) st args ts vs _ r (by unfold Q7t; rw [ho]) hvs h
     exact ⟨_, h1, h2.callee ho hclo⟩
    ·exact e.cok o st t _ args ts vs K r ho hclo hvs h
   ·cases h
  ·cases h
 ·cases h
def Qky (o : Oper) (st : XSt) (f : FuncId) (first caps : Array Operand) (K : Out → Option R) : Option R :=
 match first.toList with
 | [] => match Qm st caps.toList with
  | some vs => K (Q7 st (.clo f vs) (caps.toList.zip vs))
  | none => none
 | _ => none
theorem Qtq {o : Oper} {st : XSt} {f : FuncId} {first caps : Array Operand} {K : Out → Option R} {r : R} (ho : o.op = .makeFunc (.func f) first caps) (h : Qky o st f first caps K = some r) : ∃ out, K out = some r ∧ OpOk P o st out := by
 unfold Qky at h
 split at h
 ·rename_i hf
  have hf : first = #[] := by
   apply Array.eq_empty_of_size_eq_zero
   rw [← Array.length_toList, hf]; rfl
  subst hf
  split at h
  ·rename_i vs hv
   refine ⟨_, h, Q3 (Qfm hv) fun X => ?_⟩
   refine .quiet fun _ _ g w a _ hrd => ⟨.func (.func f) #[] (caps.map a.eval), ?_, ?_⟩
   ·simp only [execOp, ho, Instr.makeFunc]
    simp
   ·refine .clo f _ _ (by rw [Q8, Q5a hv]; simp) ?_
    rw [Q6q] at hrd
    exact Qed hrd
  ·cases h
 ·cases h
def xop (o : Oper) (st : XSt) (K : Out → Option R) : Option R :=
 match o.op with
 | .move x => xMove st x K
 | .assign x => xMove st x K
 | .pick c x y => xPick st c x y K
 | .alloc t => Qq9 P (ownOp own o) st o t K
 | .box t x => xBox st o t x K
 | .build t ps => Qui P st t ps K
 | .buildSlice t n ps => cond (ownOp own o) (Qkh P st o t n ps K) (cond (Qhx n ps.toList) (Qk4 P st o t K) (Qfn P st t n ps K))
 | .load t x => Qyo P st t x K
 | .store t x y => Qsh P st t x y K
 | .nilCheck x => xNil st x K
 | .binOp op t x y _ => Qsl P st op t x y K
 | .unOp op _ x => xUn st op x K
 | .convert s d x => Qt7 P st s d x K
 | .slice t x lo hi mx => Qkq P st t x lo hi mx K
 | .fieldAddr t x n => Qhi P st t x n K
 | .field t x n => Qs6 P st t x n K
 | .indexAddr t x y => Qjl P st t x y K
 | .index t x y => Qos P st t x y K
 | .extract x i => Qml st x i K
 | .call c => xCall P Γ own o st c K
 | .makeFunc (.func f) first caps => Qky o st f first caps K
 | .range t x => cond (Qnx st x) (Qk3 P st o t x K) (Qtz P st o t x K)
 | .makeMap t rs => cond (ownOp own o) (Qjq P st o t rs K) (Qn0 P st o t rs K)
 | .lookup t x y ok => cond (Qe2 st x) (Qn8 P st o t x y ok K) (Qpj P st t x y ok K)
 | .mapUpdate t x y u => cond (Qe2 st x) (Qcm P st t x y u K) (Qdk P st t x y u K)
 | .insert t x y u => cond (Qe2 st x) (Qcm P st t x y u K) (Qdk P st t x y u K)
 | .makeInterface t x => Qcf P st t x K
 | .next x str => xNext st x str K
 | .makeSlice t x y => Qgz P own st o t x y K
 | _ => none
theorem Qog {o : Oper} {st : XSt} {K : Out → Option R} {r : R} (h : xop P Γ own o st K = some r) : ∃ out, K out = some r ∧ OpOk P o st out := by
 unfold xop at h
 split at h <;> rename_i ho
 ·exact Qu9 (.inl ho) h
 ·exact Qu9 (.inr ho) h
 ·exact Q11h ho h
 ·exact Qsd ho h
 ·exact Q12t ho h
 ·exact Qz2 ho h
 ·rename_i t n ps
  cases hw : ownOp own o with
  | true => simp only [hw, cond_true] at h; exact Qrt ho h
  | false =>
   simp only [hw, cond_false] at h
   cases he : Qhx n ps.toList with
   | true => simp only [he, cond_true] at h; exact Qs7 ho he h
   | false => simp only [he, cond_false] at h; exact Qpq ho h
 ·exact Q10b ho h
 ·exact Q10n ho h
 ·exact Q12a ho h
 ·exact Qym ho h
 ·exact Q13g ho h
 ·exact Qzl ho h
 ·exact Qu6 ho h
 ·exact Qr2 ho h
 ·exact Qyx ho h
 ·exact Qu0 ho h
 ·exact Qx2 ho h
 ·exact Qum ho h
 ·exact Q123 P Γ own ho h
 ·exact Qtq P ho h
 ·rename_i t x
  cases hm : Qnx st x with
  | true => rw [hm] at h; exact Qs1 ho h
  | false => rw [hm] at h; exact Q10v ho h
 ·cases hw : ownOp own o with
  | true => rw [hw] at h; exact Qua ho h
  | false => rw [hw] at h; exact Qut ho h
 ·rename_i t x y ok
  cases hm : Qe2 st x with
  | true => rw [hm] at h; exact Quw ho h
  | false => rw [hm] at h; exact Qwu ho h
 ·rename_i t x y u
  cases hm : Qe2 st x with
  | true => rw [hm] at h; exact Qgo (.inl ho) h
  | false => rw [hm] at h; exact Qi5 (.inl ho) h
 ·rename_i t x y u
  cases hm : Qe2 st x with
  | true => rw [hm] at h; exact Qgo (.inr ho) h
  | false => rw [hm] at h; exact Qi5 (.inr ho) h
 ·exact Qlg ho h
 ·exact Q10z ho h
 ·exact Qrh ho h
 ·cases h
noncomputable def xopD (draw : Bool) (o : Oper) (st : XSt) (K : Out → Option R) : Option R :=
 match o.op with
 | .next x str => cond str (xop P Γ own o st K) (cond draw none (Qu1 st x K))
 | _ => xop P Γ own o st K
structure Inv (s0 s : XSt) : Prop where
 env : ∀ t x, t ∉ s.wl → lk t s.env = some x → lk t s0.env = some x
 objs : ∀ k x, k ∉ s.ol → lk k s.objs = some x → lk k s0.objs = some x
theorem Inv.refl (s : XSt) : Inv s s := ⟨fun _ _ _ h => h, fun _ _ _ h => h⟩
def XEff.e : XEff → Store → Eff
 | .none, _ => .none
 | .look ks, _ => .look ks
 | .put k c, _ => .put k c.o
 | .all, X => .all X
 | .lab, X => .lab X.live
 | .putl k c, X => .putl k c.o X.live
def Out.st (out : Out) (o : Oper) (st : XSt) : XSt := ⟨putX o.dst out.res st.env, out.objs, out.live, logW o.dst st.wl, out.ol ++ st.ol⟩
def Out.it (out : Out) (o : Oper) : It := ⟨o, true, imRd out.rd, out.eff.e out.X, out.F, out.res.a⟩
def Qct (o : Oper) (st : XSt) : XSt := ⟨putX o.dst (.d (.v undef)) st.env, st.objs, st.live, logW o.dst st.wl, st.ol⟩
def Qj3 (o : Oper) : It := ⟨o, false, [], .none, [], .d (.sc undef)⟩
def Q2q (d : Nat) (b : Bool) (st : XSt) : XSt := ⟨(d, .d (.b b)) :: st.env, st.objs, st.live, st.wl, st.ol⟩
def Qg8 : XV → Bool
 | .d (.v (.tuple vs)) => Nat.beq vs.size 0
 | _ => false
def Qiq (ops : Array Oper) (j : Nat) : Option Nat :=
 match ops[j]? with
 | some o => o.dst
 | none => none
variable (nt : Nat)
noncomputable def xops (ops : Array Oper) (draw : Bool) (env0 : List (Nat × XV)) (K : XSt → Option R) : List Oper → List It → XSt → Option R
 | [], its, st => cond draw (cond (Qey ops (imEnv env0) its) (K st) none) (K st)
 | o :: rest, its, st =>
  cond (dstOk nt o.dst)
   (match o.guard with
   | none => xopD P Γ own draw o st fun out => cond (cond draw true (Q3n out.F (imEnv st.env))) (xops ops draw env0 K rest (its ++ [out.it o]) (out.st o st)) none
   | some (j, want) =>
    match Qiq ops j with
    | none => none
    | some d =>
     match lk d st.env with
     | some (.d (.b b)) =>
      cond b
       (cond want (xopD P Γ own draw o (Q2q d true st) fun out => cond (cond draw true (Q3n out.F (imEnv (Q2q d true st).env))) (xops ops draw env0 K rest (its ++ [out.it o]) (out.st o (Q2q d true st))) none)
        (xops ops draw env0 K rest (its ++ [Qj3 o]) (Qct o (Q2q d true st))))
       (cond want (xops ops draw env0 K rest (its ++ [Qj3 o]) (Qct o (Q2q d false st)))
        (xopD P Γ own draw o (Q2q d false st) fun out => cond (cond draw true (Q3n out.F (imEnv (Q2q d false st).env))) (xops ops draw env0 K rest (its ++ [out.it o]) (out.st o (Q2q d false st))) none))
     | some v => cond (Qg8 v) (xops ops draw env0 K rest (its ++ [Qj3 o]) (Qct o st)) none
     | none => none) none
end
end Go.Xl
set_option linter.unusedVariables false
set_option linter.unusedSimpArgs false
set_option linter.unnecessarySimpa false
namespace Go.Xl
open Go.Ab
section
variable {P : Program} {Γ : List (Ent P)} {own : List Nat} {R : Type}
theorem OpOk.opT {o : Oper} {st : XSt} {out : Out} (h : OpOk P o st out) : OpT P o (imRd out.rd) st.X out.X out.F out.res.a := by
 have hop := h.op
 unfold Out.X
 split at hop
 ·obtain ⟨h1, h2, h3, h4⟩ := hop
  rw [h1, h2, h3]; exact h4 st.X
 ·obtain ⟨h1, h2, h3, h4⟩ := hop
  rw [h1, h2, h3]; exact h4 st.X fun _ _ => rfl
 ·obtain ⟨h1, h2, h3, h4⟩ := hop
  rw [h1, h2, h3, Q9e]; exact h4 st.X rfl
 ·exact hop
 ·exact hop.2
 ·exact hop.2
theorem Out.st_im (out : Out) (o : Oper) (st : XSt) : (out.st o st).im = ⟨Qz o.dst out.res.a st.im.env, out.X⟩ := by
 simp only [Out.st, XSt.im, XSt.X, Qzw, Out.X]
theorem Qqb (o : Oper) (st : XSt) : (Qct o st).im = ⟨Qz o.dst (.d (.sc undef)) st.im.env, st.X⟩ := by
 simp only [Qct, XSt.im, XSt.X, Qzw]
 rfl
theorem Qfg (d : Nat) (b : Bool) (st : XSt) : (Q2q d b st).im = ⟨(d, .d (.sc (.bool b))) :: st.im.env, st.X⟩ := rfl
theorem Q7q {st : St} : ∀ {l : List (Operand × AV)}, (∀ p ∈ l, Sees st p.1 p.2) → SeesAll st l
 | [], _ => .nil
 | (x, v) :: r, h => .cons (h (x, v) List.mem_cons_self) (Q7q fun p hp => h p (List.mem_cons_of_mem _ hp))
theorem Qry {o : Oper} {x : XV} {st : XSt} {t : Nat} {y : XV} {wl : List Nat} (ht : t ∉ logW o.dst wl) (h : lk t (putX o.dst x st.env) = some y) : t ∉ wl ∧ lk t st.env = some y := by
 cases hd : o.dst with
 | none => rw [hd] at ht h; exact ⟨ht, h⟩
 | some d =>
  rw [hd] at ht h
  simp only [logW, List.mem_cons, not_or] at ht
  simp only [putX] at h
  rw [Q10 ht.1] at h
  exact ⟨ht.2, h⟩
theorem Inv.op {s0 st : XSt} {o : Oper} {out : Out} (h : Inv s0 st) (hok : OpOk P o st out) : Inv s0 (out.st o st) := by
 refine ⟨fun t x ht hx => ?_, fun k x hk hx => ?_⟩
 ·obtain ⟨h1, h2⟩ := Qry (st := st) ht hx
  exact h.env t x h1 h2
 ·simp only [Out.st, List.mem_append, not_or] at hk hx
  exact h.objs k x hk.2 (hok.ol k x hk.1 hx)
theorem Inv.dem {s0 st : XSt} {o : Oper} {out : Out} (h : Inv s0 st) (ol : ∀ k x, k ∉ out.ol → lk k out.objs = some x → lk k st.objs = some x) : Inv s0 (out.st o st) := by
 refine ⟨fun t x ht hx => ?_, fun k x hk hx => ?_⟩
 ·obtain ⟨h1, h2⟩ := Qry (st := st) ht hx
  exact h.env t x h1 h2
 ·simp only [Out.st, List.mem_append, not_or] at hk hx
  exact h.objs k x hk.2 (ol k x hk.1 hx)
theorem Q130 {draw : Bool} {o : Oper} {st : XSt} {K : Out → Option R} {r : R} (h : xopD P Γ own draw o st K = some r) : (∃ out, K out = some r ∧ OpOk P o st out) ∨ ∃ rd outs, (∀ out ∈ outs, K out = some r) ∧ DemOk P o st rd outs := by
 unfold xopD at h
 split at h
 ·rename_i x str ho
  cases str with
  | true => exact .inl (Qog P Γ own h)
  | false =>
   simp only [cond_false] at h
   cases draw with
   | true => cases h
   | false => exact Q10l ho h
 ·exact .inl (Qog P Γ own h)
theorem Qyv {o : Oper} {st : XSt} {K : Out → Option R} {r : R} (h : xopD P Γ own true o st K = some r) : ∃ out, K out = some r ∧ OpOk P o st out := by
 unfold xopD at h
 split at h
 ·rename_i x str ho
  cases str with
  | true => exact Qog P Γ own h
  | false => cases h
 ·exact Qog P Γ own h
theorem Inv.skip {s0 st : XSt} {o : Oper} (h : Inv s0 st) : Inv s0 (Qct o st) := by
 refine ⟨fun t x ht hx => ?_, fun k x hk hx => h.objs k x hk hx⟩
 obtain ⟨h1, h2⟩ := Qry (st := st) ht hx
 exact h.env t x h1 h2
theorem Inv.know {s0 st : XSt} {d : Nat} {b : Bool} (h : Inv s0 st) (hd : lk d st.env = some (.d (.b b))) : Inv s0 (Q2q d b st) := by
 refine ⟨fun t x ht hx => ?_, fun k x hk hx => h.objs k x hk hx⟩
 simp only [Q2q] at ht hx
 by_cases he : t = d
 ·subst he
  simp [lk] at hx
  subst hx
  exact h.env t _ ht hd
 ·rw [Q10 he] at hx
  exact h.env t x ht hx
theorem Q65 {st : XSt} {d : Nat} {x : XV} (h : lk d st.env = some x) : st.im.env.lookup d = some x.a := by
 show (imEnv st.env).lookup d = _
 rw [Qeg, h]; rfl
theorem Qnp {x : XV} (h : Qg8 x = true) : x.a = .d (.sc undef) := by
 unfold Qg8 at h
 split at h
 ·rename_i vs
  have := Nat.eq_of_beq_eq_true h
  have : vs = #[] := Array.eq_empty_of_size_eq_zero this
  subst this
  rfl
 ·cases h
def Post (s0 : XSt) (K : XSt → Option R) (r : R) (s : St) : Prop := ∃ st', s = st'.im ∧ Inv s0 st' ∧ K st' = some r
theorem Qdw {S : Sig} {ops : Array Oper} {env0 : List (Nat × XV)} {K : XSt → Option R} {r : R} {s0 : XSt} : ∀ (l : List Oper) (i : Nat) (its : List It) (st : XSt), (∀ (j : Nat) o, l[j]? = some o → ops[i + j]? = some o) →
  Inv s0 st → xops P Γ own S.N ops false env0 K l its st = some r → Rw P S ops (List.range' i l.length) st.im (Post s0 K r)
 | [], i, its, st, hl, hi, h => by
  simp only [xops, cond_false] at h
  exact Rw.done ⟨st, rfl, hi, h⟩
 | o :: rest, i, its, st, hl, hi, h => by
  have ho : ops[i]? = some o := hl 0 o rfl
  have hrest : ∀ (j : Nat) o, rest[j]? = some o → ops[i + 1 + j]? = some o := by
   intro j o' hj
   have := hl (j + 1) o' (by simpa using hj)
   rw [show i + 1 + j = i + (j + 1) by omega]; exact this
  simp only [xops] at h
  cases hd : dstOk S.N o.dst with
  | false => simp [hd] at h
  | true =>
   simp only [hd, cond_true] at h
   have run : ∀ (st : XSt), Inv s0 st → Guard ops st.im o.guard true → (xopD P Γ own false o st fun out => cond (cond false true (Q3n out.F (imEnv st.env))) (xops P Γ own S.N ops false env0 K rest (its ++ [out.it o]) (out.st o st)) none) = some r →
     Rw P S ops (List.range' i (o :: rest).length) st.im (Post s0 K r) := by
    intro st hi hg h
    rcases Q130 h with ⟨out, h1, hok⟩ | ⟨rd, outs, hall, hok⟩
    ·cases hf : Q3n out.F (imEnv st.env) with
     | false => simp [hf] at h1
     | true =>
      simp only [hf, cond_false, cond_true] at h1
      simp only [List.length_cons, List.range'_succ]
      refine Rw.opg ho hg hok.opT (Q7q hok.sees) hf hd ?_
      rw [← Out.st_im]
      exact Qdw rest (i + 1) _ _ hrest (hi.op hok) h1
    ·simp only [List.length_cons, List.range'_succ]
     refine Rw.demon ho hg hok.op (Q7q hok.sees) hd ?_
     intro p hp
     obtain ⟨out, hout, rfl⟩ := List.mem_map.1 hp
     have h1 := hall out hout
     have hf : Q3n out.F (imEnv st.env) = true := by rw [hok.F out hout]; rfl
     simp only [hf, cond_false, cond_true] at h1
     show Rw P S ops _ ⟨Qz o.dst out.res.a st.im.env, out.X⟩ _
     rw [← Out.st_im]
     exact Qdw rest (i + 1) _ _ hrest (hi.dem (fun k x => hok.ol out hout k x)) h1
   have skip : ∀ (st : XSt), Inv s0 st → Guard ops st.im o.guard false → xops P Γ own S.N ops false env0 K rest (its ++ [Qj3 o]) (Qct o st) = some r →
     Rw P S ops (List.range' i (o :: rest).length) st.im (Post s0 K r) := by
    intro st hi hg h
    simp only [List.length_cons, List.range'_succ]
    refine Rw.skip ho hg hd ?_
    have := Qdw rest (i + 1) _ _ hrest hi.skip h
    rw [Qqb] at this
    exact this
   split at h
   ·rename_i hg
    exact run st hi (Qqt hg) h
   ·rename_i j want hg
    unfold Qiq at h
    split at h
    ·cases h
    ·rename_i d hgs
     split at hgs
     ·rename_i oj hoj
      split at h
      ·rename_i b hb
       have hlk := Q65 hb
       refine Rw.cases (d := d) hlk (fun hbt => ?_) (fun hbt => ?_)
       ·subst hbt
        change Rw P S ops _ (Q2q d true st).im _
        have hlk' : (Q2q d true st).im.env.lookup d = some (.d (.sc (.bool true))) := by rw [Qfg]; simp
        cases want with
        | true =>
         simp only [cond_true] at h
         exact run _ (hi.know hb) (Qfh hg hoj hgs hlk') h
        | false =>
         simp only [cond_true, cond_false] at h
         exact skip _ (hi.know hb) (Qfa hg hoj hgs hlk' rfl) h
       ·subst hbt
        change Rw P S ops _ (Q2q d false st).im _
        have hlk' : (Q2q d false st).im.env.lookup d = some (.d (.sc (.bool false))) := by rw [Qfg]; simp
        cases want with
        | true =>
         simp only [cond_true, cond_false] at h
         exact skip _ (hi.know hb) (Qfa hg hoj hgs hlk' rfl) h
        | false =>
         simp only [cond_false] at h
         exact run _ (hi.know hb) (Qfh hg hoj hgs hlk') h
      ·rename_i v hv hlkv
       cases hu : Qg8 v with
       | false => simp [hu] at h
       | true =>
        simp only [hu, cond_true] at h
        have hlk := Q65 hlkv
        rw [Qnp hu] at hlk
        exact skip st hi (Qma hg hoj hgs hlk) h
      ·cases h
     ·cases hgs
theorem Qov {S : Sig} {ops : Array Oper} {env0 : List (Nat × XV)} {K : XSt → Option R} {r : R} {s0 : XSt} : ∀ (l : List Oper) (i : Nat) (its : List It) (st : XSt), (∀ (j : Nat) o, l[j]? = some o → ops[i + j]? = some o) →
  Inv s0 st → xops P Γ own S.N ops true env0 K l its st = some r → Dw P S ops i l.length st.im its (imEnv env0) (Post s0 K r)
 | [], i, its, st, hl, hi, h => by
  simp only [xops, cond_true] at h
  cases hd : Qey ops (imEnv env0) its with
  | false => simp [hd] at h
  | true =>
   simp only [hd, cond_true] at h
   exact Dw.fin hd ⟨st, rfl, hi, h⟩
 | o :: rest, i, its, st, hl, hi, h => by
  have ho : ops[i]? = some o := hl 0 o rfl
  have hrest : ∀ (j : Nat) o, rest[j]? = some o → ops[i + 1 + j]? = some o := by
   intro j o' hj
   have := hl (j + 1) o' (by simpa using hj)
   rw [show i + 1 + j = i + (j + 1) by omega]; exact this
  simp only [xops] at h
  cases hd : dstOk S.N o.dst with
  | false => simp [hd] at h
  | true =>
   simp only [hd, cond_true] at h
   have run : ∀ (st : XSt), Inv s0 st → Guard ops st.im o.guard true → (xopD P Γ own true o st fun out => cond (cond true true (Q3n out.F (imEnv st.env))) (xops P Γ own S.N ops true env0 K rest (its ++ [out.it o]) (out.st o st)) none) = some r →
     Dw P S ops i (o :: rest).length st.im its (imEnv env0) (Post s0 K r) := by
    intro st hi hg h
    obtain ⟨out, h1, hok⟩ := Qyv h
    simp only [cond_true] at h1
    have ih := Qov rest (i + 1) _ _ hrest (hi.op hok) h1
    rw [Out.st_im] at ih
    have hop := hok.op
    simp only [List.length_cons]
    split at hop
    ·rename_i he
     obtain ⟨a1, a2, a3, a4⟩ := hop
     refine Dw.op ho hg a4 (Q7q hok.sees) hd ?_
     have e : out.it o = ⟨o, true, imRd out.rd, .none, [], out.res.a⟩ := by simp only [Out.it, he, XEff.e, a3]
     rw [e] at ih
     have e2 : out.X = st.im.X := by simp only [Out.X, XSt.im, XSt.X, a1, a2]
     rw [e2] at ih
     exact ih
    ·rename_i ks he
     obtain ⟨a1, a2, a3, a4⟩ := hop
     refine Dw.look (ks := ks) ho hg a4 (Q7q hok.sees) hd ?_
     have e : out.it o = ⟨o, true, imRd out.rd, .look ks, [], out.res.a⟩ := by simp only [Out.it, he, XEff.e, a3]
     rw [e] at ih
     have e2 : out.X = st.im.X := by simp only [Out.X, XSt.im, XSt.X, a1, a2]
     rw [e2] at ih
     exact ih
    ·rename_i k c he
     obtain ⟨a1, a2, a3, a4⟩ := hop
     refine Dw.put (k := k) (c := c.o) ho hg a4 (Q7q hok.sees) hd ?_
     have e : out.it o = ⟨o, true, imRd out.rd, .put k c.o, [], out.res.a⟩ := by simp only [Out.it, he, XEff.e, a3]
     rw [e] at ih
     have e2 : out.X = ⟨Ab.setObj k c.o st.im.X.objs, st.im.X.live⟩ := by simp only [Out.X, XSt.im, XSt.X, a1, a2, Q9e]
     rw [e2] at ih
     exact ih
    ·rename_i he
     refine Dw.eff ho hg hop (Q7q hok.sees) hd ?_
     have e : out.it o = ⟨o, true, imRd out.rd, .all out.X, out.F, out.res.a⟩ := by simp only [Out.it, he, XEff.e]
     rw [e] at ih
     exact ih
    ·rename_i he
     obtain ⟨a1, a4⟩ := hop
     have e2 : out.X = ⟨st.im.X.objs, out.live⟩ := by simp only [Out.X, XSt.im, XSt.X, a1]
     rw [e2] at a4 ih
     refine Dw.lab (L := out.live) ho hg a4 (Q7q hok.sees) hd ?_
     have e : out.it o = ⟨o, true, imRd out.rd, .lab out.live, out.F, out.res.a⟩ := by simp only [Out.it, he, XEff.e, Out.X]
     rw [e] at ih
     exact ih
    ·rename_i k c he
     obtain ⟨a1, a4⟩ := hop
     have e2 : out.X = ⟨Ab.setObj k c.o st.im.X.objs, out.live⟩ := by simp only [Out.X, XSt.im, XSt.X, a1, Q9e]
     rw [e2] at a4 ih
     refine Dw.putl (L := out.live) ho hg a4 (Q7q hok.sees) hd ?_
     have e : out.it o = ⟨o, true, imRd out.rd, .putl k c.o out.live, out.F, out.res.a⟩ := by simp only [Out.it, he, XEff.e, Out.X]
     rw [e] at ih
     exact ih
   have skip : ∀ (st : XSt), Inv s0 st → Guard ops st.im o.guard false → xops P Γ own S.N ops true env0 K rest (its ++ [Qj3 o]) (Qct o st) = some r →
     Dw P S ops i (o :: rest).length st.im its (imEnv env0) (Post s0 K r) := by
    intro st hi hg h
    simp only [List.length_cons]
    refine Dw.skip ho hg hd ?_
    have := Qov rest (i + 1) _ _ hrest hi.skip h
    rw [Qqb] at this
    exact this
   split at h
   ·rename_i hg
    exact run st hi (Qqt hg) h
   ·rename_i j want hg
    unfold Qiq at h
    split at h
    ·cases h
    ·rename_i d hgs
     split at hgs
     ·rename_i oj hoj
      split at h
      ·rename_i b hb
       have hlk := Q65 hb
       refine Dw.cases (d := d) hlk (fun hbt => ?_) (fun hbt => ?_)
       ·subst hbt
        change Dw P S ops i _ (Q2q d true st).im its (imEnv env0) _
        have hlk' : (Q2q d true st).im.env.lookup d = some (.d (.sc (.bool true))) := by rw [Qfg]; simp
        cases want with
        | true =>
         simp only [cond_true] at h
         exact run _ (hi.know hb) (Qfh hg hoj hgs hlk') h
        | false =>
         simp only [cond_true, cond_false] at h
         exact skip _ (hi.know hb) (Qfa hg hoj hgs hlk' rfl) h
       ·subst hbt
        change Dw P S ops i _ (Q2q d false st).im its (imEnv env0) _
        have hlk' : (Q2q d false st).im.env.lookup d = some (.d (.sc (.bool false))) := by rw [Qfg]; simp
        cases want with
        | true =>
         simp only [cond_true, cond_false] at h
         exact skip _ (hi.know hb) (Qfa hg hoj hgs hlk' rfl) h
        | false =>
         simp only [cond_false] at h
         exact run _ (hi.know hb) (Qfh hg hoj hgs hlk') h
      ·rename_i v hv hlkv
       cases hu : Qg8 v with
       | false => simp [hu] at h
       | true =>
        simp only [hu, cond_true] at h
        have hlk := Q65 hlkv
        rw [Qnp hu] at hlk
        exact skip st hi (Qma hg hoj hgs hlk) h
      ·cases h
     ·cases hgs
end
end Go.Xl
set_option linter.unusedVariables false
set_option linter.unusedSimpArgs false
set_option linter.unnecessarySimpa false
namespace Go.Xl
open Go.Ab
def pkM : Nat := 777777777
def pkOf (off : Nat) : PK := cond (Nat.beq off pkM) .m (.p off)
def pkEq (p : PK) (off : Nat) : Bool :=
 match p with
 | .p o => cond (Nat.beq off pkM) false (Nat.beq o off)
 | .m => Nat.beq off pkM
 | _ => false
theorem Qwo {p : PK} {off : Nat} (h : pkEq p off = true) : p = pkOf off := by
 unfold pkEq at h
 unfold pkOf
 split at h
 ·cases hb : Nat.beq off pkM with
  | true => simp [hb] at h
  | false =>
   simp only [hb, cond_false] at h
   rw [Nat.eq_of_beq_eq_true h]; rfl
 ·rw [h]; rfl
 ·cases h
inductive VK where
 | d (t : Ty)
 | tip (n : Nat) (t : Ty) (ty : Option TypeId)
 | p (k off : Nat)
 | z (k off : Nat)
 /-- a slice that owns its block: the object is known, its length not -/
 | os (k : Nat) (t : Ty)
@[reducible] def VK.T : VK → Type
 | .d t => t.T
 | .tip _ t _ => List t.T
 | .p _ _ => Unit
 | .z _ _ => Bool
 | .os _ _ => Nat
def VK.val : (v : VK) → v.T → XV
 | .d t, x => .d (t.xv x)
 | .tip n t ty, l => .tip n t l ty
 | .p k off, _ => .nm k (pkOf off)
 | .z k off, b => .nm k (.z b off)
 | .os k t, n => .os k t 0 n
def VK.cells : (v : VK) → v.T → List XV
 | .d t, x => (t.enc x).map .d
 | .tip n t ty, l => [.tip n t l ty]
 | .p k off, _ => [.nm k (pkOf off)]
 | .z k off, b => [.nm k (.z b off)]
 | .os k t, n => [.os k t 0 n]
def decXV (t : Ty) : XV → Option t.T
 | .d x => t.decv x
 | .tip _ u l _ => t.decv (.sl u l)
 | _ => none
theorem Q13f (k off : Nat) : ALe (XV.nm k (.p off)).a (.d XD.pp.d) := by
 intro g w v hr
 simp only [XV.a] at hr
 cases hr with
 | nm _ _ _ h => exact .d _ _ (.any _ _ ⟨_, h⟩ (by rw [show v = _ from h]; rfl))
theorem Qgy {t : Ty} {x : XV} {y : t.T} (h : decXV t x = some y) : ALe x.a (.d (t.dv y)) := by
 unfold decXV at h
 split at h
 ·exact ALe.d (t.decv_spec h)
 ·rename_i n u l ty
  have := t.decv_spec h
  intro g w v hr
  exact ALe.d this g w v (ALe.tip _ _ _ _ g w v hr)
 ·cases h
def Qni (t : Ty) : XV → Option t.T
 | .nm _ (.p _) => t.decv .pp
 | x => decXV t x
theorem Qql {t : Ty} {x : XV} {y : t.T} (h : Qni t x = some y) : ALe x.a (.d (t.dv y)) := by
 unfold Qni at h
 split at h
 ·have := t.decv_spec h
  intro g w v hr
  exact ALe.d this g w v (Q13f _ _ g w v hr)
 ·exact Qgy h
def tyLe (have_ want : Option TypeId) : Bool :=
 match want with
 | none => true
 | some e => match have_ with
  | some e' => Nat.beq e' e
  | none => false
abbrev Lab := List (Nat × Option Nat)
def Qgk (n : Nat) (t : Ty) (ty : Option TypeId) : XV → Option (List t.T × Lab)
 | .tip m u l ty' => if h : u.eqb t = true then cond (tyLe ty' ty) (some (Ty.eqb_eq h ▸ l, [(n, some m)])) none else none
 | .d (.v (.slice none 0 0)) => some ([], [(n, none)])
 | _ => none
def Qgh (k off : Nat) : XV → Option (Unit × Lab)
 | .nm k' p => cond (Nat.beq k' k) (cond (pkEq p off) (some ((), [])) none) none
 | _ => none
def projZ (k off : Nat) : XV → Option (Bool × Lab)
 | .nm k' (.p off') => cond (Nat.beq k' k) (cond (Nat.beq off' off) (some (false, [])) none) none
 | .nm k' (.z b off') => cond (Nat.beq k' k) (cond (Nat.beq off' off) (some (b, [])) none) none
 | .d (.v (.pointer none)) => some (true, [])
 | _ => none
def Qk7 (k : Nat) (t : Ty) : XV → Option (Nat × Lab)
 | .os k' t' a n => cond (Nat.beq k' k) (cond (t'.eqb t) (cond (Nat.beq a 0) (some (n, [])) none) none) none
 | _ => none
def VK.proj : (v : VK) → XV → Option (v.T × Lab)
 | .d t => fun x => match decXV t x with
  | some y => some (y, [])
  | none => none
 | .tip n t ty => Qgk n t ty
 | .p k off => Qgh k off
 | .z k off => projZ k off
 | .os k t => Qk7 k t
inductive OK where
 | arr (t : Ty)
 | sit
 | map (k v : Ty)
 | mit (m : Nat)
 | mitn
 | mapt (L : Nat) (k v : Ty)
@[reducible] def OK.T : OK → Type
 | .arr t => List t.T
 | .sit => List UInt8 × Nat
 | .map k v => List (Nat × k.T × v.T) × Nat
 | .mit _ => Nat × List Nat × Nat
 | .mitn => Unit
 | .mapt _ k v => List (Nat × k.T × Bool × List v.T) × Nat
def OK.ob : (o : OK) → o.T → XOb
 | .arr t, l => .arr t l
 | .sit, x => .sit x.1 x.2
 | .map k v, x => .map k v x.1 x.2
 | .mit m, x => .mit m x.1 x.2.1 x.2.2
 | .mitn, _ => .mitn
 | .mapt L k v, x => .mapt L k v x.1 x.2
def OK.dec : (o : OK) → XOb → Option o.T
 | .arr t, .arr u l => if h : u.eqb t = true then some (Ty.eqb_eq h ▸ l) else none
 | .sit, .sit s p => some (s, p)
 | .map k v, .map k' v' es c => if h : k'.eqb k = true then if h' : v'.eqb v = true then some (Ty.eqb_eq h ▸ Ty.eqb_eq h' ▸ es, c) else none else none
 | .mit m, .mit m' a b c => cond (Nat.beq m' m) (some (a, b, c)) none
 | .mitn, .mitn => some ()
 | .mapt L k v, .mapt L' k' v' es c => if h : k'.eqb k = true then if h' : v'.eqb v = true then cond (Nat.beq L' L) (some (Ty.eqb_eq h ▸ Ty.eqb_eq h' ▸ es, c)) none else none else none
 | _, _ => none
theorem OK.dec_eq {o : OK} {x : XOb} {y : o.T} (h : o.dec x = some y) : x = o.ob y := by
 unfold OK.dec at h
 split at h
 ·split at h
  ·rename_i he
   have e := Ty.eqb_eq he
   subst e
   cases h; rfl
  ·cases h
 ·cases h; rfl
 ·split at h
  ·rename_i he
   split at h
   ·rename_i he'
    have e := Ty.eqb_eq he
    have e' := Ty.eqb_eq he'
    subst e; subst e'
    cases h; rfl
   ·cases h
  ·cases h
 ·rename_i m m' a b c
  cases hb : Nat.beq m' m with
  | false => simp [hb] at h
  | true =>
   simp only [hb, cond_true, Option.some.injEq] at h
   subst h
   rw [Nat.eq_of_beq_eq_true hb]; rfl
 ·rfl
 ·rename_i L k v L' k' v' es c
  split at h
  ·rename_i he
   split at h
   ·rename_i he'
    cases hb : Nat.beq L' L with
    | false => simp [hb] at h
    | true =>
     have e := Ty.eqb_eq he
     have e' := Ty.eqb_eq he'
     subst e; subst e'
     simp only [hb, cond_true, Option.some.injEq] at h
     subst h
     rw [Nat.eq_of_beq_eq_true hb]; rfl
   ·cases h
  ·cases h
 ·cases h
def OK.okp (ns : List Nat) : OK → Bool
 | .mit m => cond (inl m ns) false true
 | .mapt L _ _ => cond (inl L ns) false true
 | _ => true
def Qer (ns : List Nat) : List (Nat × OK) → Bool
 | [] => true
 | p :: r => cond (p.2.okp ns) (Qer ns r) false
structure Cut where
 vars : List (Tmp × VK)
 objs : List (Nat × List VK × Option TypeId)
 keepS : List Tmp
 keepO : List Nat
 own : List (Tmp × Nat × Ty) := []
 arrs : List (Nat × OK) := []
@[reducible] def VarsT : List (Tmp × VK) → Type
 | [] => Unit
 | p :: r => p.2.T × VarsT r
@[reducible] def Qet : List VK → Type
 | [] => Unit
 | v :: r => v.T × Qet r
@[reducible] def ObjsT : List (Nat × List VK × Option TypeId) → Type
 | [] => Unit
 | p :: r => Qet p.2.1 × ObjsT r
@[reducible] def OwnT : List (Tmp × Nat × Ty) → Type
 | [] => Unit
 | p :: r => Option (List p.2.2.T × Nat) × OwnT r
@[reducible] def ArrsT : List (Nat × OK) → Type
 | [] => Unit
 | p :: r => p.2.T × ArrsT r
@[reducible] def Cut.T (c : Cut) : Type := VarsT c.vars × ObjsT c.objs × OwnT c.own × ArrsT c.arrs
def Q9f : (l : List (Tmp × Nat × Ty)) → OwnT l → List (Nat × XV)
 | [], _ => []
 | p :: r, x => (p.1, match x.1 with
  | none => .d (.v (.slice none 0 0))
  | some y => .os p.2.1 p.2.2 0 y.2) :: Q9f r x.2
def Q86 : (l : List (Tmp × Nat × Ty)) → OwnT l → List (Nat × XOb)
 | [], _ => []
 | p :: r, x => match x.1 with
  | none => Q86 r x.2
  | some y => (p.2.1, .arr p.2.2 y.1) :: Q86 r x.2
def Q7l : (l : List (Nat × OK)) → ArrsT l → List (Nat × XOb)
 | [], _ => []
 | p :: r, x => (p.1, p.2.ob x.1) :: Q7l r x.2
def ownNames : List (Tmp × Nat × Ty) → List Nat
 | [] => []
 | p :: r => p.2.1 :: ownNames r
def Q24 : List (Nat × OK) → List Nat
 | [] => []
 | p :: r => p.1 :: Q24 r
def Cut.others (c : Cut) : List Nat := (c.objs.map (·.1) ++ Q24 c.arrs) ++ c.keepO
def Qal : (l : List (Tmp × VK)) → VarsT l → List (Nat × XV)
 | [], _ => []
 | p :: r, x => (p.1, p.2.val x.1) :: Qal r x.2
def Q5p : (l : List VK) → Qet l → List XV
 | [], _ => []
 | v :: r, x => v.cells x.1 ++ Q5p r x.2
def Q7g : (l : List (Nat × List VK × Option TypeId)) → ObjsT l → List (Nat × XOb)
 | [], _ => []
 | p :: r, x => (p.1, .cells (Q5p p.2.1 x.1) p.2.2) :: Q7g r x.2
def Qbx (env : List (Nat × XV)) : List Tmp → List (Nat × XV)
 | [] => []
 | t :: r => match lk t env with
  | some x => (t, x) :: Qbx env r
  | none => Qbx env r
def Q5r (objs : List (Nat × XOb)) : List Nat → List (Nat × XOb)
 | [] => []
 | t :: r => match lk t objs with
  | some x => (t, x) :: Q5r objs r
  | none => Q5r objs r
def Q7s : List (Tmp × VK) → List Nat
 | [] => []
 | (_, .tip n _ _) :: r => n :: Q7s r
 | (_, .d _) :: r => Q7s r
 | (_, .p _ _) :: r => Q7s r
 | (_, .z _ _) :: r => Q7s r
 | (_, .os _ _) :: r => Q7s r
def Q6t : List VK → List Nat
 | [] => []
 | .tip n _ _ :: r => n :: Q6t r
 | .d _ :: r => Q6t r
 | .p _ _ :: r => Q6t r
 | .z _ _ :: r => Q6t r
 | .os _ _ :: r => Q6t r
def Qdm : List (Nat × List VK × Option TypeId) → List Nat
 | [] => []
 | p :: r => Q6t p.2.1 ++ Qdm r
def Cut.labs (c : Cut) : List Nat := Q7s c.vars ++ Qdm c.objs
def addL (n : Nat) (live acc : List Nat) : List Nat := cond (inl n live) (cond (inl n acc) acc (n :: acc)) acc
def Qkk (live : List Nat) : List XV → List Nat → List Nat
 | [], acc => acc
 | .tip n _ _ _ :: r, acc => Qkk live r (addL n live acc)
 | _ :: r, acc => Qkk live r acc
def Qpo (live : List Nat) : List (Nat × XV) → List Nat → List Nat
 | [], acc => acc
 | (_, .tip n _ _ _) :: r, acc => Qpo live r (addL n live acc)
 | _ :: r, acc => Qpo live r acc
def Qhq (live : List Nat) : List (Nat × XOb) → List Nat → List Nat
 | [], acc => acc
 | (_, .cells cs _) :: r, acc => Qhq live r (Qkk live cs acc)
 | (_, .mapt L _ _ _ _) :: r, acc => Qhq live r (addL L live acc)
 | _ :: r, acc => Qhq live r acc
def Qn6 (live : List Nat) : List (Nat × OK) → List Nat → List Nat
 | [], acc => acc
 | (_, .mapt L _ _) :: r, acc => Qn6 live r (addL L live acc)
 | _ :: r, acc => Qn6 live r acc
def keepL (s0 : XSt) (c : Cut) : List Nat := Qn6 s0.live c.arrs (Qhq s0.live (Q5r s0.objs c.keepO) (Qpo s0.live (Qbx s0.env c.keepS) []))
def gen (s0 : XSt) (c : Cut) (x : c.T) : XSt :=
 ⟨Qal c.vars x.1 ++ (Q9f c.own x.2.2.1 ++ Qbx s0.env c.keepS), Q7g c.objs x.2.1 ++ (Q86 c.own x.2.2.1 ++ (Q7l c.arrs x.2.2.2 ++ Q5r s0.objs c.keepO)), c.labs ++ keepL s0 c, [], []⟩
def Q8l (env : List (Nat × XV)) : (l : List (Tmp × VK)) → Option (VarsT l × Lab)
 | [] => some ((), [])
 | p :: r => match lk p.1 env with
  | some v => match p.2.proj v with
   | some (x, σ) => match Q8l env r with
    | some (xs, τ) => some ((x, xs), σ ++ τ)
    | none => none
   | none => none
  | none => none
def allXt : List XV → Option (List XD)
 | [] => some []
 | x :: r => match x.asD, allXt r with
  | some y, some l => some (y :: l)
  | _, _ => none
theorem Qq0 : ∀ {cs : List XV} {ds : List XD}, allXt cs = some ds → cs.length = ds.length ∧ ∀ (i : Nat) x y, cs[i]? = some x → ds[i]? = some y → ALe x.a (.d y.d)
 | [], ds, h => by simp [allXt] at h; subst h; exact ⟨rfl, by simp⟩
 | x :: r, ds, h => by
  simp only [allXt] at h
  split at h
  ·rename_i y l hy hl
   cases h
   obtain ⟨h1, h2⟩ := Qq0 hl
   refine ⟨by simp [h1], fun i a b ha hb => ?_⟩
   cases i with
   | zero => simp at ha hb; subst ha; subst hb; exact Qyi hy
   | succ i => exact h2 i a b (by simpa using ha) (by simpa using hb)
  ·cases h
def Q11 : (l : List VK) → List XV → Option (Qet l × Lab)
 | [], cs => match cs with
  | [] => some ((), [])
  | _ => none
 | .d t :: r, cs => match allXt (cs.take t.size) with
  | some ds => match t.dec ds with
   | some (x, []) => match Q11 r (cs.drop t.size) with
    | some (xs, τ) => some ((x, xs), τ)
    | none => none
   | _ => none
  | none => none
 | .p k off :: r, cs => match cs with
  | c :: cs' => match (VK.p k off).proj c with
   | some (x, σ) => match Q11 r cs' with
    | some (xs, τ) => some ((x, xs), σ ++ τ)
    | none => none
   | none => none
  | [] => none
 | .z k off :: r, cs => match cs with
  | c :: cs' => match (VK.z k off).proj c with
   | some (x, σ) => match Q11 r cs' with
    | some (xs, τ) => some ((x, xs), σ ++ τ)
    | none => none
   | none => none
  | [] => none
 | .os k t :: r, cs => match cs with
  | c :: cs' => match (VK.os k t).proj c with
   | some (x, σ) => match Q11 r cs' with
    | some (xs, τ) => some ((x, xs), σ ++ τ)
    | none => none
   | none => none
  | [] => none
 | .tip n t ty :: r, cs => match cs with
  | c :: cs' => match (VK.tip n t ty).proj c with
   | some (x, σ) => match Q11 r cs' with
    | some (xs, τ) => some ((x, xs), σ ++ τ)
    | none => none
   | none => none
  | [] => none
def tyEqO (a b : Option TypeId) : Bool :=
 match a, b with
 | none, none => true
 | some x, some y => Nat.beq x y
 | _, _ => false
theorem Qmz {a b : Option TypeId} (h : tyEqO a b = true) : a = b := by
 unfold tyEqO at h
 split at h
 ·rfl
 ·rw [Nat.eq_of_beq_eq_true h]
 ·cases h
def Q94 (objs : List (Nat × XOb)) : (l : List (Nat × List VK × Option TypeId)) → Option (ObjsT l × Lab)
 | [] => some ((), [])
 | p :: r => match lk p.1 objs with
  | some (.cells cs ty) => cond (tyEqO ty p.2.2) (match Q11 p.2.1 cs with
   | some (x, σ) => match Q94 objs r with
    | some (xs, τ) => some ((x, xs), σ ++ τ)
    | none => none
   | none => none) none
  | _ => none
def Q5i (env : List (Nat × XV)) (objs : List (Nat × XOb)) : (l : List (Tmp × Nat × Ty)) → Option (OwnT l × List (Nat × Nat))
 | [] => some ((), [])
 | p :: r => match lk p.1 env, Q5i env objs r with
  | some (.os k ty a len), some (xs, τ) => match lk k objs with
   | some (.arr tu l) => if h : tu.eqb p.2.2 = true then cond (ty.eqb p.2.2) (cond (Nat.beq a 0) (some ((some (Ty.eqb_eq h ▸ l, len), xs), (p.2.1, k) :: τ)) none) none else none
   | _ => none
  | some (.d (.v (.slice none 0 0))), some (xs, τ) => some ((none, xs), τ)
  | _, _ => none
def Qe8 (objs : List (Nat × XOb)) : (l : List (Nat × OK)) → Option (ArrsT l)
 | [] => some ()
 | p :: r => match lk p.1 objs, Qe8 objs r with
  | some o, some xs => match p.2.dec o with
   | some y => some (y, xs)
   | none => none
  | _, _ => none
def Qe0 (s : XSt) (ns : List Nat) : List Tmp → Bool
 | [] => true
 | t :: r => cond (inl t s.wl) false (match lk t s.env with
  | some x => cond (Q2e ns x.a) (Qe0 s ns r) false
  | none => false)
def Qp6 (F : List Nat) : XOb → Bool
 | .cells cs _ => Q1h F (asOf cs)
 | .mit m _ _ _ => cond (inl m F) false true
 | .mapt m _ _ _ _ => cond (inl m F) false true
 | _ => true
theorem Qxn {F : List Nat} {o : XOb} (h : Qp6 F o = true) : Q3h F o.o = true := by
 have con : ∀ m, (cond (inl m F) false true) = true → (!F.contains m) = true := by
  intro m hm
  cases hc : F.contains m with
  | false => rfl
  | true => rw [(Qx m F).2 (List.contains_iff_mem.1 hc)] at hm; cases hm
 cases o with
 | cells cs ty => exact h
 | arr t l => exact Qex F t l
 | sit s pos => rfl
 | map kt vt es c => rfl
 | mitn => rfl
 | bts e l => exact Qa3 F _
 | mapt m kt vt es c => exact con m h
 | mit m since seen last => exact con m h
def Qc0 (s : XSt) (ns : List Nat) : List Nat → Bool
 | [] => true
 | t :: r => cond (inl t s.ol) false (match lk t s.objs with
  | some x => cond (Qp6 ns x) (Qc0 s ns r) false
  | none => false)
def Q3l : Lab → List Nat
 | [] => []
 | (_, some m) :: r => m :: Q3l r
 | (_, none) :: r => Q3l r
def subL (a b : List Nat) : Bool :=
 match a with
 | [] => true
 | x :: r => cond (inl x b) (subL r b) false
def Q51 : List Nat → Bool
 | [] => true
 | x :: r => cond (inl x r) false (Q51 r)
def slotsOf : List (Tmp × VK) → List Nat
 | [] => []
 | p :: r => p.1 :: slotsOf r
def Q3d : List (Nat × List VK × Option TypeId) → List Nat
 | [] => []
 | p :: r => p.1 :: Q3d r
def apart (a b : List Nat) : Bool :=
 match a with
 | [] => true
 | x :: r => cond (inl x b) false (apart r b)
theorem apart_spec : ∀ {a b : List Nat}, apart a b = true → ∀ x ∈ a, x ∉ b
 | [], b, _ => by simp
 | y :: r, b, h => by
  simp only [apart] at h
  cases hy : inl y b with
  | true => simp [hy] at h
  | false =>
   simp only [hy, cond_false] at h
   intro x hx
   rcases List.mem_cons.1 hx with rfl | hx
   ·intro hm; rw [(Qx _ _).2 hm] at hy; cases hy
   ·exact apart_spec h x hx
def Q6p : List (Tmp × Nat × Ty) → List Nat
 | [] => []
 | p :: r => p.1 :: Q6p r
def VK.okp (ns : List Nat) : VK → Bool
 | .p k _ => cond (inl k ns) false true
 | .z k _ => cond (inl k ns) false true
 | .os k _ => cond (inl k ns) false true
 | _ => true
def Qd7 (ns : List Nat) : List (Tmp × VK) → Bool
 | [] => true
 | p :: r => cond (p.2.okp ns) (Qd7 ns r) false
def Q9k (ns : List Nat) : List VK → Bool
 | [] => true
 | p :: r => cond (p.okp ns) (Q9k ns r) false
def Qd2 (ns : List Nat) : List (Nat × List VK × Option TypeId) → Bool
 | [] => true
 | p :: r => cond (Q9k ns p.2.1) (Qd2 ns r) false
def ownOk {α : Type} (c : Cut) (ν : List (Nat × Nat)) (x : Option α) : Option α :=
 cond (Q51 (ownNames c.own)) (cond (apart (ownNames c.own) c.others) (cond (Q51 (ν.map (·.2))) (cond (apart (ν.map (·.2)) c.others) (cond ((ownNames c.own).all (Nat.ble 1000)) (cond (apart c.labs (ownNames c.own)) (cond (Qd7 (ownNames c.own) c.vars) (cond (Qd2 (ownNames c.own) c.objs) (cond (Qer (c.labs ++ ownNames c.own) c.arrs) x none) none) none) none) none) none) none) none) none
def proj (nm : List Nat) (kl : List Nat) (c : Cut) (s : XSt) : Option c.T :=
 match Q8l s.env c.vars, Q94 s.objs c.objs, Q5i s.env s.objs c.own, Qe8 s.objs c.arrs with
 | some (x, σ), some (y, τ), some (u, ν), some v =>
  cond (Qe0 s (c.labs ++ ownNames c.own) c.keepS) (cond (Qc0 s (c.labs ++ ownNames c.own) c.keepO) (cond (subL (Q3l (σ ++ τ) ++ kl) s.live)
   (cond (Q51 (Q3l (σ ++ τ) ++ kl)) (cond (Q51 (c.labs ++ kl)) (cond (subL nm c.others) (cond (apart c.keepS (slotsOf c.vars ++ Q6p c.own)) (cond (apart c.keepO (Q3d c.objs ++ (ownNames c.own ++ Q24 c.arrs))) (ownOk c ν (some (x, y, u, v))) none) none) none) none) none) none) none) none
 | _, _, _, _ => none
def cutGh (g : Gh) (τ : Lab) (keepL : List Nat) (ν : List (Nat × Nat)) : Gh :=
 {g with ρ := fun j => match lk j ν with | some k => g.ρ k | none => g.ρ j, β := fun n => cond (inl n keepL) (g.β n) (match lk n τ with
  | some (some m) => g.β m
  | some none => some none
  | none => none), η := fun n => cond (inl n keepL) (g.η n) fun _ => none }
theorem Qae : ∀ {a b : List Nat}, subL a b = true → ∀ x ∈ a, x ∈ b
 | [], b, _ => by simp
 | y :: r, b, h => by
  simp only [subL] at h
  cases hy : inl y b with
  | false => simp [hy] at h
  | true =>
   simp only [hy, cond_true] at h
   intro x hx
   rcases List.mem_cons.1 hx with rfl | hx
   ·exact (Qx _ _).1 hy
   ·exact Qae h x hx
theorem Q2w : ∀ {a : List Nat}, Q51 a = true → a.Nodup
 | [], _ => .nil
 | y :: r, h => by
  simp only [Q51] at h
  cases hy : inl y r with
  | true => simp [hy] at h
  | false =>
   simp only [hy, cond_false] at h
   refine List.nodup_cons.2 ⟨fun hm => ?_, Q2w h⟩
   rw [(Qx _ _).2 hm] at hy
   cases hy
theorem VK.proj_ra {v : VK} {x : XV} {y : v.T} {σ : Lab} (h : v.proj x = some (y, σ)) {g g' : Gh} {w : World} {u : Value} {ns : List Nat} (hγ : g'.γ = g.γ) (hρ : ∀ k, k ∉ ns → g'.ρ k = g.ρ k) (hok : v.okp ns = true)
  (hσ : ∀ n m, (n, some m) ∈ σ → ∀ ob, g'.β n = some ob → g.β m = some ob) (hr : RA g w x.a u) : RA g' w (v.val y).a u := by
 cases v with
 | d t =>
  simp only [VK.proj] at h
  split at h
  ·rename_i y' hy
   cases h
   have hle : ALe x.a (.d (t.dv y)) := Qgy hy
   have := hle g w u hr
   cases this with
   | d _ _ h1 => exact .d _ _ (hγ ▸ h1)
  ·cases h
 | tip n t ty =>
  change Qgk n t ty x = some (y, σ) at h
  unfold Qgk at h
  split at h
  ·rename_i m u' l' ty''
   split at h
   ·rename_i he
    have e0 := Ty.eqb_eq he
    subst e0
    cases ht : tyLe ty'' ty with
    | false => simp [ht] at h
    | true =>
     simp only [ht, cond_true, Option.some.injEq, Prod.mk.injEq] at h
     obtain ⟨rfl, rfl⟩ := h
     simp only [XV.a] at hr
     cases hr with
     | tip _ _ _ _ _ h1 h2 =>
      refine .tip _ _ _ _ _ (hγ ▸ h1) ?_
      unfold TipOk at h2 ⊢
      split at h2
      ·rename_i a len cap
       intro ob hob
       obtain ⟨a1, a2, a3, a4, a5⟩ := h2 ob (hσ n m (by simp) ob hob)
       refine ⟨a1, a2, by rw [hγ]; exact a3, a4, fun e hte => ?_⟩
       refine a5 e ?_
       subst hte
       simp only [tyLe] at ht
       split at ht
       ·rw [Nat.eq_of_beq_eq_true ht]
       ·cases ht
      ·trivial
   ·cases h
  ·simp only [Option.some.injEq, Prod.mk.injEq] at h
   obtain ⟨rfl, rfl⟩ := h
   simp only [XV.a, XD.d] at hr
   cases hr with
   | d _ _ h1 =>
    cases h1
    exact .tip _ _ _ _ _ (.nil _ none 0 fun _ => rfl) trivial
  ·cases h
 | p k off =>
  change Qgh k off x = some (y, σ) at h
  unfold Qgh at h
  split at h
  ·rename_i k' off'
   cases h1 : Nat.beq k' k with
   | false => simp [h1] at h
   | true =>
    cases h2 : pkEq off' off with
    | false => simp [h1, h2] at h
    | true =>
     have e1 := Nat.eq_of_beq_eq_true h1
     have e2 := Qwo h2
     subst e1; subst e2
     simp only [XV.a] at hr
     cases hr with
     | nm _ _ _ h => exact .nm _ _ _ (by
       rw [hρ]
       ·exact h
       ·intro hm
        simp [VK.okp, (Qx _ _).2 hm] at hok)
  ·cases h
 | os k t =>
  change Qk7 k t x = some (y, σ) at h
  have hk : k ∉ ns := by
   intro hm
   simp [VK.okp, (Qx _ _).2 hm] at hok
  unfold Qk7 at h
  split at h
  ·rename_i k' t' a n
   cases h1 : Nat.beq k' k with
   | false => simp [h1] at h
   | true =>
    cases h2 : t'.eqb t with
    | false => simp [h1, h2] at h
    | true =>
     cases h3 : Nat.beq a 0 with
     | false => simp [h1, h2, h3] at h
     | true =>
      have e1 := Nat.eq_of_beq_eq_true h1
      have e2 := Ty.eqb_eq h2
      have e3 := Nat.eq_of_beq_eq_true h3
      subst e1; subst e2; subst e3
      simp only [h1, h2, h3, cond_true, Option.some.injEq, Prod.mk.injEq] at h
      obtain ⟨rfl, rfl⟩ := h
      simp only [XV.a] at hr
      cases hr with
      | nm _ _ _ h => exact .nm _ _ _ (by rw [hρ _ hk]; exact h)
  ·cases h
 | z k off =>
  change projZ k off x = some (y, σ) at h
  have hk : k ∉ ns := by
   intro hm
   simp [VK.okp, (Qx _ _).2 hm] at hok
  unfold projZ at h
  split at h
  ·rename_i k' off'
   cases h1 : Nat.beq k' k with
   | false => simp [h1] at h
   | true =>
    cases h2 : Nat.beq off' off with
    | false => simp [h1, h2] at h
    | true =>
     have e1 := Nat.eq_of_beq_eq_true h1
     have e2 := Nat.eq_of_beq_eq_true h2
     subst e1; subst e2
     simp only [h1, h2, cond_true, Option.some.injEq, Prod.mk.injEq] at h
     obtain ⟨rfl, rfl⟩ := h
     simp only [XV.a] at hr
     cases hr with
     | nm _ _ _ h => exact .nm _ _ _ (by rw [hρ _ hk]; exact h)
  ·rename_i k' b off'
   cases h1 : Nat.beq k' k with
   | false => simp [h1] at h
   | true =>
    cases h2 : Nat.beq off' off with
    | false => simp [h1, h2] at h
    | true =>
     have e1 := Nat.eq_of_beq_eq_true h1
     have e2 := Nat.eq_of_beq_eq_true h2
     subst e1; subst e2
     simp only [h1, h2, cond_true, Option.some.injEq, Prod.mk.injEq] at h
     obtain ⟨rfl, rfl⟩ := h
     simp only [XV.a] at hr
     cases hr with
     | nm _ _ _ h => exact .nm _ _ _ (by rw [hρ _ hk]; exact h)
  ·cases h
   simp only [XV.a, XD.d] at hr
   cases hr with
   | d _ _ h1 =>
    cases h1
    exact .nm _ _ _ rfl
  ·cases h
end Go.Xl
set_option linter.unusedVariables false
set_option linter.unusedSimpArgs false
set_option linter.unnecessarySimpa false
namespace Go.Xl
open Go.Ab
theorem Qkg {n : Nat} {t : Ty} {ty : Option TypeId} {x : XV} {y : List t.T} {σ : Lab} (h : Qgk n t ty x = some (y, σ)) : σ.map (·.1) = [n] := by
 unfold Qgk at h
 split at h
 ·split at h
  ·rename_i m u' l' ty'' he
   cases ht : tyLe ty'' ty with
   | false => simp [ht] at h
   | true => simp only [ht, cond_true, Option.some.injEq, Prod.mk.injEq] at h; rw [← h.2]; rfl
  ·cases h
 ·simp only [Option.some.injEq, Prod.mk.injEq] at h; rw [← h.2]; rfl
 ·cases h
theorem Qx9 {t : Ty} {x : XV} {y : t.T} {σ : Lab} (h : (VK.d t).proj x = some (y, σ)) : σ = [] := by
 simp only [VK.proj] at h
 split at h
 ·cases h; rfl
 ·cases h
theorem Qnk {k off : Nat} {x : XV} {y : Unit} {σ : Lab} (h : (VK.p k off).proj x = some (y, σ)) : σ = [] := by
 change Qgh k off x = some (y, σ) at h
 unfold Qgh at h
 split at h
 ·rename_i k' off'
  cases h1 : Nat.beq k' k with
  | false => simp [h1] at h
  | true =>
   cases h2 : pkEq off' off with
   | false => simp [h1, h2] at h
   | true => simp only [h1, h2, cond_true, Option.some.injEq, Prod.mk.injEq] at h; exact h.2.symm
 ·cases h
theorem Qnq {k off : Nat} {x : XV} {y : Bool} {σ : Lab} (h : (VK.z k off).proj x = some (y, σ)) : σ = [] := by
 change projZ k off x = some (y, σ) at h
 unfold projZ at h
 split at h
 ·rename_i k' off'
  cases h1 : Nat.beq k' k with
  | false => simp [h1] at h
  | true =>
   cases h2 : Nat.beq off' off with
   | false => simp [h1, h2] at h
   | true => simp only [h1, h2, cond_true, Option.some.injEq, Prod.mk.injEq] at h; exact h.2.symm
 ·rename_i k' b off'
  cases h1 : Nat.beq k' k with
  | false => simp [h1] at h
  | true =>
   cases h2 : Nat.beq off' off with
   | false => simp [h1, h2] at h
   | true => simp only [h1, h2, cond_true, Option.some.injEq, Prod.mk.injEq] at h; exact h.2.symm
 ·cases h; rfl
 ·cases h
theorem Qlt {k : Nat} {t : Ty} {x : XV} {y : Nat} {σ : Lab} (h : (VK.os k t).proj x = some (y, σ)) : σ = [] := by
 change Qk7 k t x = some (y, σ) at h
 unfold Qk7 at h
 split at h
 ·rename_i k' t' a n
  cases h1 : Nat.beq k' k <;> cases h2 : t'.eqb t <;> cases h3 : Nat.beq a 0 <;> simp [h1, h2, h3] at h
  exact h.2
 ·cases h
theorem Qi8 {env : List (Nat × XV)} : ∀ {l : List (Tmp × VK)} {x : VarsT l} {σ : Lab}, Q8l env l = some (x, σ) → σ.map (·.1) = Q7s l
 | [], x, σ, h => by simp [Q8l] at h; rw [h]; rfl
 | (t, v) :: r, x, σ, h => by
  unfold Q8l at h
  split at h
  ·rename_i z hz
   split at h
   ·rename_i y σ1 hy
    split at h
    ·rename_i ys τ hys
     simp only [Option.some.injEq, Prod.mk.injEq] at h
     rw [← h.2, List.map_append, Qi8 hys]
     cases v with
     | d t => rw [Qx9 hy]; rfl
     | tip n t ty => rw [Qkg hy]; rfl
     | p k off => rw [Qnk hy]; rfl
     | z k off => rw [Qnq hy]; rfl
     | os k t => rw [Qlt hy]; rfl
    ·cases h
   ·cases h
  ·cases h
theorem Q5l : ∀ {l : List VK} {cs : List XV} {x : Qet l} {σ : Lab}, Q11 l cs = some (x, σ) → σ.map (·.1) = Q6t l
 | [], cs, x, σ, h => by
  unfold Q11 at h
  split at h
  ·cases h; rfl
  ·cases h
 | .d t :: r, cs, x, σ, h => by
  unfold Q11 at h
  split at h
  ·split at h
   ·split at h
    ·rename_i ys τ hys
     cases h
     exact Q5l (l := r) hys
    ·cases h
   ·cases h
  ·cases h
 | .p k off :: r, cs, x, σ, h => by
  unfold Q11 at h
  split at h
  ·split at h
   ·rename_i y σ1 hy
    split at h
    ·rename_i ys τ hys
     cases h
     rw [List.map_append, Qnk hy, Q5l hys]; rfl
    ·cases h
   ·cases h
  ·cases h
 | .z k off :: r, cs, x, σ, h => by
  unfold Q11 at h
  split at h
  ·split at h
   ·rename_i y σ1 hy
    split at h
    ·rename_i ys τ hys
     cases h
     rw [List.map_append, Qnq hy, Q5l hys]; rfl
    ·cases h
   ·cases h
  ·cases h
 | .os k t :: r, cs, x, σ, h => by
  unfold Q11 at h
  split at h
  ·split at h
   ·rename_i y σ1 hy
    split at h
    ·rename_i ys τ hys
     cases h
     rw [List.map_append, Qlt hy, Q5l hys]; rfl
    ·cases h
   ·cases h
  ·cases h
 | .tip n t ty :: r, cs, x, σ, h => by
  unfold Q11 at h
  split at h
  ·split at h
   ·rename_i y σ1 hy
    split at h
    ·rename_i ys τ hys
     cases h
     rw [List.map_append, Qkg hy, Q5l hys]; rfl
    ·cases h
   ·cases h
  ·cases h
theorem Qi1 {objs : List (Nat × XOb)} : ∀ {l : List (Nat × List VK × Option TypeId)} {x : ObjsT l} {σ : Lab}, Q94 objs l = some (x, σ) → σ.map (·.1) = Qdm l
 | [], x, σ, h => by simp [Q94] at h; rw [h]; rfl
 | p :: r, x, σ, h => by
  unfold Q94 at h
  split at h
  ·rename_i cs ty hk
   cases ht : tyEqO ty p.2.2 with
   | false => simp [ht] at h
   | true =>
    simp only [ht, cond_true] at h
    split at h
    ·rename_i y σ1 hy
     split at h
     ·rename_i ys τ hys
      cases h
      rw [List.map_append, Q5l hy, Qi1 hys]; rfl
     ·cases h
    ·cases h
  ·cases h
def Q7j (g : Gh) (w : World) (cs : List XV) (vs : List Value) : Prop := ∀ (i : Nat) x v, cs[i]? = some x → vs[i]? = some v → RA g w x.a v
theorem Q7j.split {g : Gh} {w : World} {a b : List XV} {vs : List Value} (h : Q7j g w a (vs.take a.length)) (h' : Q7j g w b (vs.drop a.length)) : Q7j g w (a ++ b) vs := by
 intro i x v hx hv
 rw [List.getElem?_append] at hx
 split at hx
 ·rename_i hlt
  refine h i x v hx ?_
  rw [List.getElem?_take, if_pos hlt]; exact hv
 ·refine h' (i - a.length) x v hx ?_
  rw [List.getElem?_drop, show a.length + (i - a.length) = i by omega]; exact hv
theorem Qu4 : ∀ {cs : List XV} {ds : List XD}, allX cs = some ds → cs = ds.map .d
 | [], ds, h => by simp [allX] at h; subst h; rfl
 | x :: r, ds, h => by
  cases x with
  | d x =>
   simp only [allX] at h
   split at h
   ·rename_i l hl
    cases h
    rw [Qu4 hl]; rfl
   ·cases h
  | _ => simp [allX] at h
theorem Q30 {ns : List Nat} {v : VK} {r : List VK} (h : Q9k ns (v :: r) = true) : v.okp ns = true ∧ Q9k ns r = true := by
 simp only [Q9k] at h
 cases hv : v.okp ns with
 | false => simp [hv] at h
 | true => simp only [hv, cond_true] at h; exact ⟨rfl, h⟩
theorem Q7k {g g' : Gh} {w : World} {ns : List Nat} (hγ : g'.γ = g.γ) (hρ : ∀ k, k ∉ ns → g'.ρ k = g.ρ k) : ∀ {l : List VK} {cs : List XV} {x : Qet l} {σ : Lab} {vs : List Value}, Q9k ns l = true → Q11 l cs = some (x, σ) →
  (∀ n m, (n, some m) ∈ σ → ∀ ob, g'.β n = some ob → g.β m = some ob) → Q7j g w cs vs → Q7j g' w (Q5p l x) vs ∧ (Q5p l x).length = cs.length
 | [], cs, x, σ, vs, hok, h, hσ, hc => by
  unfold Q11 at h
  split at h
  ·exact ⟨fun i x v hx => by simp [Q5p] at hx, rfl⟩
  ·cases h
 | .d t :: r, cs, x, σ, vs, hok, h, hσ, hc => by
  unfold Q11 at h
  split at h
  ·rename_i ds hds
   split at h
   ·rename_i y hy
    split at h
    ·rename_i ys τ hys
     cases h
     obtain ⟨zs, hz, hle⟩ := t.dec_spec hy
     simp only [dsOf, List.append_nil] at hz
     subst hz
     have hm := Qq0 hds
     have hlen : ds.length = t.size := by rw [← Q2v, hle.length, Ty.ds_length]
     have hle1 : t.size ≤ cs.length := by
      have : (cs.take t.size).length = ds.length := hm.1
      rw [List.length_take, hlen] at this; omega
     have ih := Q7k hγ hρ (vs := vs.drop t.size) (Q30 hok).2 hys hσ (by
      intro i x v hx hv
      rw [List.getElem?_drop] at hx hv
      exact hc _ x v hx hv)
     simp only [Q5p, VK.cells]
     refine ⟨Q7j.split ?_ (by simpa [Ty.enc_length] using ih.1), by simp [Ty.enc_length, ih.2]; omega⟩
     intro i x v hx hv
     rw [List.getElem?_map, Option.map_eq_some_iff] at hx
     obtain ⟨z, hz, rfl⟩ := hx
     simp only [List.length_map] at hv
     rw [List.getElem?_take] at hv
     split at hv
     ·have hd : (t.ds y)[i]? = some z.d := by rw [← Ty.enc_ds, Q3r, List.getElem?_map, hz]; rfl
      obtain ⟨u, hu, hule⟩ := hle.get hd
      rw [Q3r, List.getElem?_map, Option.map_eq_some_iff] at hu
      obtain ⟨u', hu', rfl⟩ := hu
      have hi : i < t.size := by
       have := (List.getElem?_eq_some_iff.1 hu').1; omega
      obtain ⟨c0, hcs⟩ : ∃ c0, cs[i]? = some c0 := ⟨_, List.getElem?_eq_getElem (by omega)⟩
      have hct : (cs.take t.size)[i]? = some c0 := by rw [List.getElem?_take, if_pos hi]; exact hcs
      have := hm.2 i c0 u' hct hu' g w v (hc i _ v hcs hv)
      have := ALe.d hule g w v this
      simp only [XV.a]
      cases this with
      | d _ _ h1 => exact .d _ _ (hγ ▸ h1)
     ·cases hv
    ·cases h
   ·cases h
  ·cases h
 | .tip n t ty :: r, cs, x, σ, vs, hok, h, hσ, hc => by
  unfold Q11 at h
  split at h
  ·rename_i c cs'
   split at h
   ·rename_i y σ1 hy
    split at h
    ·rename_i ys τ hys
     cases h
     have ih := Q7k hγ hρ (vs := vs.drop 1) (Q30 hok).2 hys (fun n m hm => hσ n m (List.mem_append_right _ hm)) (by
      intro i x v hx hv
      rw [List.getElem?_drop] at hv
      exact hc (i + 1) x v (by simpa using hx) (by rw [Nat.add_comm]; exact hv))
     simp only [Q5p, VK.cells]
     refine ⟨Q7j.split (a := [_]) ?_ (by simpa using ih.1), by simp [ih.2]⟩
     intro i x v hx hv
     cases i with
     | succ i => simp at hx
     | zero =>
      simp at hx
      subst hx
      have hv' : vs[0]? = some v := by
       rw [List.getElem?_take] at hv; simpa using hv
      exact VK.proj_ra (v := .tip n t ty) hy hγ hρ (Q30 hok).1 (fun n m hm => hσ n m (List.mem_append_left _ hm)) (hc 0 c v rfl hv')
    ·cases h
   ·cases h
  ·cases h
 | .p k off :: r, cs, x, σ, vs, hok, h, hσ, hc => by
  unfold Q11 at h
  split at h
  ·rename_i c cs'
   split at h
   ·rename_i y σ1 hy
    split at h
    ·rename_i ys τ hys
     cases h
     have ih := Q7k hγ hρ (vs := vs.drop 1) (Q30 hok).2 hys (fun n m hm => hσ n m (List.mem_append_right _ hm)) (by
      intro i x v hx hv
      rw [List.getElem?_drop] at hv
      exact hc (i + 1) x v (by simpa using hx) (by rw [Nat.add_comm]; exact hv))
     simp only [Q5p, VK.cells]
     refine ⟨Q7j.split (a := [_]) ?_ (by simpa using ih.1), by simp [ih.2]⟩
     intro i x v hx hv
     cases i with
     | succ i => simp at hx
     | zero =>
      simp at hx
      subst hx
      have hv' : vs[0]? = some v := by
       rw [List.getElem?_take] at hv; simpa using hv
      exact VK.proj_ra (v := .p k off) hy hγ hρ (Q30 hok).1 (fun n m hm => hσ n m (List.mem_append_left _ hm)) (hc 0 c v rfl hv')
    ·cases h
   ·cases h
  ·cases h
 | .z k off :: r, cs, x, σ, vs, hok, h, hσ, hc => by
  unfold Q11 at h
  split at h
  ·rename_i c cs'
   split at h
   ·rename_i y σ1 hy
    split at h
    ·rename_i ys τ hys
     cases h
     have ih := Q7k hγ hρ (vs := vs.drop 1) (Q30 hok).2 hys (fun n m hm => hσ n m (List.mem_append_right _ hm)) (by
      intro i x v hx hv
      rw [List.getElem?_drop] at hv
      exact hc (i + 1) x v (by simpa using hx) (by rw [Nat.add_comm]; exact hv))
     simp only [Q5p, VK.cells]
     refine ⟨Q7j.split (a := [_]) ?_ (by simpa using ih.1), by simp [ih.2]⟩
     intro i x v hx hv
     cases i with
     | succ i => simp at hx
     | zero =>
      simp at hx
      subst hx
      have hv' : vs[0]? = some v := by
       rw [List.getElem?_take] at hv; simpa using hv
      exact VK.proj_ra (v := .z k off) hy hγ hρ (Q30 hok).1 (fun n m hm => hσ n m (List.mem_append_left _ hm)) (hc 0 c v rfl hv')
    ·cases h
   ·cases h
  ·cases h
 | .os k t :: r, cs, x, σ, vs, hok, h, hσ, hc => by
  unfold Q11 at h
  split at h
  ·rename_i c cs'
   split at h
   ·rename_i y σ1 hy
    split at h
    ·rename_i ys τ hys
     cases h
     have ih := Q7k hγ hρ (vs := vs.drop 1) (Q30 hok).2 hys (fun n m hm => hσ n m (List.mem_append_right _ hm)) (by
      intro i x v hx hv
      rw [List.getElem?_drop] at hv
      exact hc (i + 1) x v (by simpa using hx) (by rw [Nat.add_comm]; exact hv))
     simp only [Q5p, VK.cells]
     refine ⟨Q7j.split (a := [_]) ?_ (by simpa using ih.1), by simp [ih.2]⟩
     intro i x v hx hv
     cases i with
     | succ i => simp at hx
     | zero =>
      simp at hx
      subst hx
      have hv' : vs[0]? = some v := by
       rw [List.getElem?_take] at hv; simpa using hv
      exact VK.proj_ra (v := .os k t) hy hγ hρ (Q30 hok).1 (fun n m hm => hσ n m (List.mem_append_left _ hm)) (hc 0 c v rfl hv')
    ·cases h
   ·cases h
  ·cases h
theorem Q7v {α : Type} {k : Nat} {x : α} : ∀ {l : List (Nat × α)}, lk k l = some x → (k, x) ∈ l
 | [], h => by cases h
 | p :: r, h => by
  simp only [lk] at h
  cases hb : Nat.beq p.1 k with
  | true =>
   simp only [hb, cond_true, Option.some.injEq] at h
   have := Nat.eq_of_beq_eq_true hb
   subst h; subst this
   exact List.mem_cons_self
  | false =>
   simp only [hb, cond_false] at h
   exact List.mem_cons_of_mem _ (Q7v h)
theorem Qvx {α : Type} {k : Nat} : ∀ {l : List (Nat × α)}, lk k l = none → k ∉ l.map (·.1)
 | [], _ => by simp
 | p :: r, h => by
  simp only [lk] at h
  cases hb : Nat.beq p.1 k with
  | true => simp [hb] at h
  | false =>
   simp only [hb, cond_false] at h
   have : p.1 ≠ k := Nat.ne_of_beq_eq_false hb
   simp only [List.map_cons, List.mem_cons, not_or]
   exact ⟨Ne.symm this, Qvx h⟩
theorem Qjj {α : Type} {k : Nat} {l : List (Nat × α)} (h : k ∈ l.map (·.1)) : ∃ x, lk k l = some x := by
 cases hl : lk k l with
 | some x => exact ⟨x, rfl⟩
 | none => exact absurd h (Qvx hl)
theorem Qkw {α : Type} {k : Nat} {x : α} : ∀ {l : List (Nat × α)}, (l.map (·.1)).Nodup → (k, x) ∈ l → lk k l = some x
 | [], _, h => by simp at h
 | p :: r, hnd, h => by
  simp only [List.map_cons, List.nodup_cons] at hnd
  simp only [lk]
  rcases List.mem_cons.1 h with h' | h'
  ·subst h'; simp
  ·have hne : p.1 ≠ k := fun he => hnd.1 (he ▸ List.mem_map_of_mem (f := (·.1)) h')
   rw [nbF hne]
   exact Qkw hnd.2 h'
theorem Qly {ns : List Nat} {v : Tmp × VK} {r : List (Tmp × VK)} (h : Qd7 ns (v :: r) = true) : v.2.okp ns = true ∧ Qd7 ns r = true := by
 simp only [Qd7] at h
 cases hv : v.2.okp ns with
 | false => simp [hv] at h
 | true => simp only [hv, cond_true] at h; exact ⟨rfl, h⟩
theorem Qlx {ns : List Nat} {v : Nat × List VK × Option TypeId} {r : List (Nat × List VK × Option TypeId)} (h : Qd2 ns (v :: r) = true) : Q9k ns v.2.1 = true ∧ Qd2 ns r = true := by
 simp only [Qd2] at h
 cases hv : Q9k ns v.2.1 with
 | false => simp [hv] at h
 | true => simp only [hv, cond_true] at h; exact ⟨rfl, h⟩
theorem Qkc {env : List (Nat × XV)} : ∀ {l : List (Tmp × VK)} {x : VarsT l} {σ : Lab} {t : Nat} {y : XV}, Q8l env l = some (x, σ) → (t, y) ∈ Qal l x →
  ∃ (v : VK) (z : XV) (u : v.T) (σ' : Lab), lk t env = some z ∧ v.proj z = some (u, σ') ∧ y = v.val u ∧ (∀ p ∈ σ', p ∈ σ) ∧ ∀ ns, Qd7 ns l = true → v.okp ns = true
 | [], x, σ, t, y, h, hm => by simp [Qal] at hm
 | p :: r, x, σ, t, y, h, hm => by
  unfold Q8l at h
  split at h
  ·rename_i z hz
   split at h
   ·rename_i u σ1 hu
    split at h
    ·rename_i ys τ hys
     cases h
     simp only [Qal, List.mem_cons] at hm
     rcases hm with hm | hm
     ·cases hm
      exact ⟨p.2, z, u, σ1, hz, hu, rfl, fun q hq => List.mem_append_left _ hq, fun ns hn => (Qly hn).1⟩
     ·obtain ⟨v, z, u, σ', h1, h2, h3, h4, h5⟩ := Qkc hys hm
      exact ⟨v, z, u, σ', h1, h2, h3, fun q hq => List.mem_append_right _ (h4 q hq), fun ns hn => h5 ns (Qly hn).2⟩
    ·cases h
   ·cases h
  ·cases h
theorem Qk9 {objs : List (Nat × XOb)} : ∀ {l : List (Nat × List VK × Option TypeId)} {x : ObjsT l} {σ : Lab} {k : Nat} {y : XOb}, Q94 objs l = some (x, σ) → (k, y) ∈ Q7g l x →
  ∃ (vs : List VK) (cs : List XV) (ty : Option TypeId) (u : Qet vs) (σ' : Lab), lk k objs = some (.cells cs ty) ∧ Q11 vs cs = some (u, σ') ∧ y = .cells (Q5p vs u) ty ∧ (∀ p ∈ σ', p ∈ σ) ∧ k ∈ l.map (·.1) ∧ ∀ ns, Qd2 ns l = true → Q9k ns vs = true
 | [], x, σ, k, y, h, hm => by simp [Q7g] at hm
 | p :: r, x, σ, k, y, h, hm => by
  unfold Q94 at h
  split at h
  ·rename_i cs ty hk
   cases ht : tyEqO ty p.2.2 with
   | false => simp [ht] at h
   | true =>
    simp only [ht, cond_true] at h
    have := Qmz ht
    split at h
    ·rename_i u σ1 hu
     split at h
     ·rename_i ys τ hys
      cases h
      simp only [Q7g, List.mem_cons] at hm
      rcases hm with hm | hm
      ·cases hm
       exact ⟨p.2.1, cs, ty, u, σ1, hk, hu, by rw [this], fun q hq => List.mem_append_left _ hq, List.mem_cons_self, fun ns hn => (Qlx hn).1⟩
      ·obtain ⟨vs, cs, ty, u, σ', h1, h2, h3, h4, h6, h5⟩ := Qk9 hys hm
       exact ⟨vs, cs, ty, u, σ', h1, h2, h3, fun q hq => List.mem_append_right _ (h4 q hq), List.mem_cons_of_mem _ h6, fun ns hn => h5 ns (Qlx hn).2⟩
     ·cases h
    ·cases h
  ·cases h
theorem Qcn {env : List (Nat × XV)} : ∀ {l : List Tmp} {t : Nat} {y : XV}, (t, y) ∈ Qbx env l → t ∈ l ∧ lk t env = some y
 | [], t, y, h => by simp [Qbx] at h
 | a :: r, t, y, h => by
  unfold Qbx at h
  split at h
  ·rename_i x hx
   rcases List.mem_cons.1 h with h | h
   ·cases h; exact ⟨List.mem_cons_self, hx⟩
   ·have := Qcn h; exact ⟨List.mem_cons_of_mem _ this.1, this.2⟩
  ·have := Qcn h; exact ⟨List.mem_cons_of_mem _ this.1, this.2⟩
theorem Q8h {objs : List (Nat × XOb)} : ∀ {l : List Nat} {t : Nat} {y : XOb}, (t, y) ∈ Q5r objs l → t ∈ l ∧ lk t objs = some y
 | [], t, y, h => by simp [Q5r] at h
 | a :: r, t, y, h => by
  unfold Q5r at h
  split at h
  ·rename_i x hx
   rcases List.mem_cons.1 h with h | h
   ·cases h; exact ⟨List.mem_cons_self, hx⟩
   ·have := Q8h h; exact ⟨List.mem_cons_of_mem _ this.1, this.2⟩
  ·have := Q8h h; exact ⟨List.mem_cons_of_mem _ this.1, this.2⟩
theorem notIn {a : Nat} {l : List Nat} (hw : inl a l = false) : a ∉ l := by
 intro hm
 rw [(Qx _ _).2 hm] at hw
 cases hw
theorem Qiw {s : XSt} {ns : List Nat} : ∀ {l : List Tmp}, Qe0 s ns l = true → ∀ t ∈ l, t ∉ s.wl ∧ ∃ x, lk t s.env = some x ∧ Q2e ns x.a = true
 | [], _ => by simp
 | a :: r, h => by
  unfold Qe0 at h
  cases hw : inl a s.wl with
  | true => simp [hw] at h
  | false =>
   simp only [hw, cond_false] at h
   split at h
   ·rename_i x hx
    cases hf : Q2e ns x.a with
    | false => simp [hf] at h
    | true =>
     simp only [hf, cond_true] at h
     intro t ht
     rcases List.mem_cons.1 ht with rfl | ht
     ·exact ⟨notIn hw, x, hx, hf⟩
     ·exact Qiw h t ht
   ·cases h
theorem Qi6 {s : XSt} {ns : List Nat} : ∀ {l : List Nat}, Qc0 s ns l = true → ∀ t ∈ l, t ∉ s.ol ∧ ∃ x, lk t s.objs = some x ∧ Q3h ns x.o = true
 | [], _ => by simp
 | a :: r, h => by
  unfold Qc0 at h
  cases hw : inl a s.ol with
  | true => simp [hw] at h
  | false =>
   simp only [hw, cond_false] at h
   split at h
   ·rename_i x hx
    cases hf : Qp6 ns x with
    | false => simp [hf] at h
    | true =>
     simp only [hf, cond_true] at h
     intro t ht
     rcases List.mem_cons.1 ht with rfl | ht
     ·exact ⟨notIn hw, x, hx, Qxn hf⟩
     ·exact Qi6 h t ht
   ·cases h
theorem Q6r : ∀ {τ : Lab} {m : Nat}, m ∈ Q3l τ ↔ ∃ n, (n, some m) ∈ τ
 | [], m => by simp [Q3l]
 | (n, some k) :: r, m => by
  simp only [Q3l, List.mem_cons, Q6r (τ := r), Prod.mk.injEq, Option.some.injEq]
  constructor
  ·rintro (rfl | ⟨n', h⟩)
   ·exact ⟨n, .inl ⟨rfl, rfl⟩⟩
   ·exact ⟨n', .inr h⟩
  ·rintro ⟨n', ⟨rfl, rfl⟩ | h⟩
   ·exact .inl rfl
   ·exact .inr ⟨n', h⟩
 | (n, none) :: r, m => by
  simp only [Q3l, List.mem_cons, Q6r (τ := r), Prod.mk.injEq, reduceCtorEq, and_false, false_or]
theorem Qfs : ∀ {τ : Lab} {n n' m : Nat}, (Q3l τ).Nodup → (n, some m) ∈ τ → (n', some m) ∈ τ → n = n'
 | [], n, n', m, _, h, _ => by simp at h
 | (a, some k) :: r, n, n', m, hnd, h, h' => by
  simp only [Q3l, List.nodup_cons] at hnd
  rcases List.mem_cons.1 h with h1 | h1 <;> rcases List.mem_cons.1 h' with h2 | h2
  ·cases h1; cases h2; rfl
  ·cases h1; exact absurd (Q6r.2 ⟨n', h2⟩) hnd.1
  ·cases h2; exact absurd (Q6r.2 ⟨n, h1⟩) hnd.1
  ·exact Qfs hnd.2 h1 h2
 | (a, none) :: r, n, n', m, hnd, h, h' => by
  simp only [Q3l] at hnd
  simp only [List.mem_cons, Prod.mk.injEq, reduceCtorEq, and_false, false_or] at h h'
  exact Qfs hnd h h'
theorem Qzr {l : List (Nat × XV)} {t : Nat} {x : AV} (h : (imEnv l).lookup t = some x) : ∃ y, lk t l = some y ∧ x = y.a := by
 rw [Qeg] at h
 obtain ⟨y, hy, rfl⟩ := Option.map_eq_some_iff.1 h
 exact ⟨y, hy, rfl⟩
theorem Qy2 {l : List (Nat × XOb)} {t : Nat} {x : Ob} (h : (Q0 l).lookup t = some x) : ∃ y, lk t l = some y ∧ x = y.o := by
 rw [Q1l] at h
 obtain ⟨y, hy, rfl⟩ := Option.map_eq_some_iff.1 h
 exact ⟨y, hy, rfl⟩
theorem Qej {env : List (Nat × XV)} {objs : List (Nat × XOb)} : ∀ {l : List (Tmp × Nat × Ty)} {x : OwnT l} {ν : List (Nat × Nat)} {t : Nat} {y : XV}, Q5i env objs l = some (x, ν) → (t, y) ∈ Q9f l x →
  (y = .d (.v (.slice none 0 0)) ∧ lk t env = some y) ∨ ∃ (n k : Nat) (ty : Ty) (len : Nat), (n, k) ∈ ν ∧ lk t env = some (.os k ty 0 len) ∧ y = .os n ty 0 len
 | [], x, ν, t, y, h, hm => by simp [Q9f] at hm
 | p :: r, x, ν, t, y, h, hm => by
  unfold Q5i at h
  split at h
  ·rename_i k ty a len xs τ hv hr
   split at h
   ·rename_i tu l hk
    split at h
    ·rename_i he
     cases h1 : ty.eqb p.2.2 with
     | false => simp [h1] at h
     | true =>
     cases h2 : Nat.beq a 0 with
     | false => simp [h1, h2] at h
     | true =>
      simp only [h1, h2, cond_true, Option.some.injEq, Prod.mk.injEq] at h
      obtain ⟨rfl, rfl⟩ := h
      have e1 := Ty.eqb_eq h1
      have e2 := Nat.eq_of_beq_eq_true h2
      subst e2
      simp only [Q9f, List.mem_cons] at hm
      rcases hm with hm | hm
      ·cases hm
       exact .inr ⟨p.2.1, k, ty, len, List.mem_cons_self, hv, by rw [e1]⟩
      ·rcases Qej hr hm with h | ⟨n, k', ty', len', h1, h2, h3⟩
       ·exact .inl h
       ·exact .inr ⟨n, k', ty', len', List.mem_cons_of_mem _ h1, h2, h3⟩
    ·cases h
   ·cases h
  ·rename_i xs τ hv hr
   simp only [Option.some.injEq, Prod.mk.injEq] at h
   obtain ⟨rfl, rfl⟩ := h
   simp only [Q9f, List.mem_cons] at hm
   rcases hm with hm | hm
   ·cases hm; exact .inl ⟨rfl, hv⟩
   ·exact Qej hr hm
  ·cases h
theorem Qei {env : List (Nat × XV)} {objs : List (Nat × XOb)} : ∀ {l : List (Tmp × Nat × Ty)} {x : OwnT l} {ν : List (Nat × Nat)} {n : Nat} {y : XOb}, Q5i env objs l = some (x, ν) → (n, y) ∈ Q86 l x →
  ∃ k, (n, k) ∈ ν ∧ lk k objs = some y
 | [], x, ν, t, y, h, hm => by simp [Q86] at hm
 | p :: r, x, ν, t, y, h, hm => by
  unfold Q5i at h
  split at h
  ·rename_i k ty a len xs τ hv hr
   split at h
   ·rename_i tu l hk
    split at h
    ·rename_i he
     cases h1 : ty.eqb p.2.2 with
     | false => simp [h1] at h
     | true =>
     cases h2 : Nat.beq a 0 with
     | false => simp [h1, h2] at h
     | true =>
      simp only [h1, h2, cond_true, Option.some.injEq, Prod.mk.injEq] at h
      obtain ⟨rfl, rfl⟩ := h
      simp only [Q86, List.mem_cons] at hm
      rcases hm with hm | hm
      ·cases hm
       refine ⟨k, List.mem_cons_self, ?_⟩
       rw [hk]
       have e0 := Ty.eqb_eq he
       obtain ⟨a1, a2, a3⟩ := p
       simp only at he e0 ⊢
       subst e0
       rfl
      ·obtain ⟨k', h1, h2⟩ := Qei hr hm
       exact ⟨k', List.mem_cons_of_mem _ h1, h2⟩
    ·cases h
   ·cases h
  ·rename_i xs τ hv hr
   simp only [Option.some.injEq, Prod.mk.injEq] at h
   obtain ⟨rfl, rfl⟩ := h
   exact Qei hr hm
  ·cases h
theorem Qa5 {env : List (Nat × XV)} {objs : List (Nat × XOb)} : ∀ {l : List (Tmp × Nat × Ty)} {x : OwnT l} {ν : List (Nat × Nat)}, Q5i env objs l = some (x, ν) → ∀ p ∈ ν, p.1 ∈ ownNames l
 | [], x, ν, h => by simp [Q5i] at h; simp [h]
 | p :: r, x, ν, h => by
  unfold Q5i at h
  split at h
  ·rename_i k ty a len xs τ hv hr
   split at h
   ·split at h
    ·cases h1 : ty.eqb p.2.2 with
     | false => simp [h1] at h
     | true =>
     cases h2 : Nat.beq a 0 with
     | false => simp [h1, h2] at h
     | true =>
      simp only [h1, h2, cond_true, Option.some.injEq, Prod.mk.injEq] at h
      obtain ⟨rfl, rfl⟩ := h
      intro q hq
      rcases List.mem_cons.1 hq with rfl | hq
      ·exact List.mem_cons_self
      ·exact List.mem_cons_of_mem _ (Qa5 hr q hq)
    ·cases h
   ·cases h
  ·rename_i xs τ hv hr
   simp only [Option.some.injEq, Prod.mk.injEq] at h
   obtain ⟨rfl, rfl⟩ := h
   intro q hq
   exact List.mem_cons_of_mem _ (Qa5 hr q hq)
  ·cases h
theorem Qd8 {env : List (Nat × XV)} {objs : List (Nat × XOb)} : ∀ {l : List (Tmp × Nat × Ty)} {x : OwnT l} {ν : List (Nat × Nat)}, Q5i env objs l = some (x, ν) → (ownNames l).Nodup → (ν.map (·.1)).Nodup
 | [], x, ν, h, _ => by simp [Q5i] at h; simp [h]
 | p :: r, x, ν, h, hnd => by
  simp only [ownNames, List.nodup_cons] at hnd
  unfold Q5i at h
  split at h
  ·rename_i k ty a len xs τ hv hr
   split at h
   ·split at h
    ·cases h1 : ty.eqb p.2.2 with
     | false => simp [h1] at h
     | true =>
     cases h2 : Nat.beq a 0 with
     | false => simp [h1, h2] at h
     | true =>
      simp only [h1, h2, cond_true, Option.some.injEq, Prod.mk.injEq] at h
      obtain ⟨rfl, rfl⟩ := h
      simp only [List.map_cons, List.nodup_cons]
      refine ⟨fun hm => ?_, Qd8 hr hnd.2⟩
      obtain ⟨q, hq, he⟩ := List.mem_map.1 hm
      exact hnd.1 (he ▸ Qa5 hr q hq)
    ·cases h
   ·cases h
  ·rename_i xs τ hv hr
   simp only [Option.some.injEq, Prod.mk.injEq] at h
   obtain ⟨rfl, rfl⟩ := h
   exact Qd8 hr hnd.2
  ·cases h
theorem Qjf {objs : List (Nat × XOb)} : ∀ {l : List (Nat × OK)} {x : ArrsT l} {k : Nat} {y : XOb}, Qe8 objs l = some x → (k, y) ∈ Q7l l x → lk k objs = some y ∧ k ∈ Q24 l
 | [], x, k, y, h, hm => by simp [Q7l] at hm
 | p :: r, x, k, y, h, hm => by
  unfold Qe8 at h
  split at h
  ·rename_i o xs hk hr
   split at h
   ·rename_i z he
    cases h
    simp only [Q7l, List.mem_cons] at hm
    rcases hm with hm | hm
    ·cases hm
     refine ⟨?_, List.mem_cons_self⟩
     rw [hk, OK.dec_eq he]
    ·obtain ⟨h1, h2⟩ := Qjf hr hm
     exact ⟨h1, List.mem_cons_of_mem _ h2⟩
   ·cases h
  ·cases h
end Go.Xl
set_option linter.unusedVariables false
set_option linter.unusedSimpArgs false
set_option linter.unnecessarySimpa false
namespace Go.Xl
open Go.Ab
theorem Qf7 {a b : List Nat} (h : (a ++ b).Nodup) : a.Nodup ∧ b.Nodup ∧ ∀ x ∈ a, x ∉ b := by
 rw [List.nodup_append] at h
 exact ⟨h.1, h.2.1, fun x hx hb => h.2.2 x hx x hb rfl⟩
theorem Q83 : ∀ {l : List (Tmp × Nat × Ty)} {x : OwnT l} {n : Nat} {y : XOb}, (n, y) ∈ Q86 l x → n ∈ ownNames l ∧ ∃ t u, y = .arr t u
 | [], x, n, y, h => by simp [Q86] at h
 | p :: r, x, n, y, h => by
  unfold Q86 at h
  split at h
  ·exact ⟨List.mem_cons_of_mem _ (Q83 h).1, (Q83 h).2⟩
  ·rcases List.mem_cons.1 h with h | h
   ·cases h; exact ⟨List.mem_cons_self, _, _, rfl⟩
   ·exact ⟨List.mem_cons_of_mem _ (Q83 h).1, (Q83 h).2⟩
theorem Q8z {objs : List (Nat × XOb)} {k : Nat} {y : XOb} (h : lk k objs = some y) : (Q0 objs).lookup k = some y.o := by rw [Q1l, h]; rfl
theorem Qkr {ns : List Nat} : ∀ {l : List (Nat × OK)} {x : ArrsT l} {n : Nat} {y : XOb}, Qer ns l = true → (n, y) ∈ Q7l l x → Q3h ns y.o = true
 | [], x, n, y, ho, h => by simp [Q7l] at h
 | (q, ok) :: r, x, n, y, ho, h => by
  have ho' : ok.okp ns = true ∧ Qer ns r = true := by
   simp only [Qer] at ho
   cases hx : ok.okp ns with
   | false => simp [hx] at ho
   | true => simp only [hx, cond_true] at ho; exact ⟨rfl, ho⟩
  unfold Q7l at h
  rcases List.mem_cons.1 h with h | h
  ·cases h
   cases ok with
   | arr t => exact Qex _ _ _
   | mit m =>
    have h1 := ho'.1
    simp only [OK.okp] at h1
    show (!ns.contains m) = true
    cases hc : ns.contains m with
    | false => rfl
    | true => rw [(Qx m ns).2 (List.contains_iff_mem.1 hc)] at h1; cases h1
   | mapt m k v =>
    have h1 := ho'.1
    simp only [OK.okp] at h1
    show (!ns.contains m) = true
    cases hc : ns.contains m with
    | false => rfl
    | true => rw [(Qx m ns).2 (List.contains_iff_mem.1 hc)] at h1; cases h1
   | _ => rfl
  ·exact Qkr ho'.2 h
theorem Qdb : ∀ (l : List (Nat × OK)) (x : ArrsT l), (Q7l l x).map (·.1) = Q24 l
 | [], x => rfl
 | p :: r, x => by simp only [Q7l, List.map_cons, Q24, Qdb r]
theorem Qia : ∀ (l : List (Nat × List VK × Option TypeId)) (y : ObjsT l), (Q7g l y).map (·.1) = l.map (·.1)
 | [], y => rfl
 | p :: r, y => by simp only [Q7g, List.map_cons, Qia r]
theorem Qo5 {α : Type} {c : Cut} {ν : List (Nat × Nat)} {x : Option α} {y : α} (h : ownOk c ν x = some y) : (ownNames c.own).Nodup ∧ (∀ k ∈ ownNames c.own, k ∉ c.others) ∧ (ν.map (·.2)).Nodup ∧ (∀ k ∈ ν.map (·.2), k ∉ c.others) ∧
  (∀ k ∈ ownNames c.own, 1000 ≤ k) ∧ (∀ k ∈ c.labs, k ∉ ownNames c.own) ∧ Qd7 (ownNames c.own) c.vars = true ∧ Qd2 (ownNames c.own) c.objs = true ∧ Qer (c.labs ++ ownNames c.own) c.arrs = true ∧ x = some y := by
 unfold ownOk at h
 cases h1 : Q51 (ownNames c.own) with
 | false => simp [h1] at h
 | true =>
 cases h2 : apart (ownNames c.own) c.others with
 | false => simp [h1, h2] at h
 | true =>
 cases h3 : Q51 (ν.map (·.2)) with
 | false => simp [h1, h2, h3] at h
 | true =>
 cases h4 : apart (ν.map (·.2)) c.others with
 | false => simp [h1, h2, h3, h4] at h
 | true =>
 cases h5 : (ownNames c.own).all (Nat.ble 1000) with
 | false => simp only [h1, h2, h3, h4, h5, cond_true, cond_false] at h; cases h
 | true =>
 cases h6 : apart c.labs (ownNames c.own) with
 | false => simp only [h1, h2, h3, h4, h5, h6, cond_true, cond_false] at h; cases h
 | true =>
 cases h7 : Qd7 (ownNames c.own) c.vars with
 | false => simp only [h1, h2, h3, h4, h5, h6, h7, cond_true, cond_false] at h; cases h
 | true =>
 cases h8 : Qd2 (ownNames c.own) c.objs with
 | false => simp only [h1, h2, h3, h4, h5, h6, h7, h8, cond_true, cond_false] at h; cases h
 | true =>
 cases h9 : Qer (c.labs ++ ownNames c.own) c.arrs with
 | false => simp only [h1, h2, h3, h4, h5, h6, h7, h8, h9, cond_true, cond_false] at h; cases h
 | true =>
  simp only [h1, h2, h3, h4, h5, h6, h7, h8, h9, cond_true] at h
  exact ⟨Q2w h1, apart_spec h2, Q2w h3, apart_spec h4, fun k hk => Nat.le_of_ble_eq_true (List.all_eq_true.1 h5 k hk), apart_spec h6, rfl, rfl, rfl, h⟩
theorem Qqu {nm kl : List Nat} {c : Cut} {s : XSt} {x : c.T} (h : proj nm kl c s = some x) : ∃ (σ τ0 : Lab) (ν : List (Nat × Nat)), Q8l s.env c.vars = some (x.1, σ) ∧ Q94 s.objs c.objs = some (x.2.1, τ0) ∧
  Q5i s.env s.objs c.own = some (x.2.2.1, ν) ∧ Qe8 s.objs c.arrs = some x.2.2.2 ∧ Qe0 s (c.labs ++ ownNames c.own) c.keepS = true ∧ Qc0 s (c.labs ++ ownNames c.own) c.keepO = true ∧
  (∀ n ∈ Q3l (σ ++ τ0) ++ kl, n ∈ s.live) ∧ (Q3l (σ ++ τ0) ++ kl).Nodup ∧ (c.labs ++ kl).Nodup ∧ (∀ k ∈ nm, k ∈ c.others) ∧ (∀ t ∈ c.keepS, t ∉ slotsOf c.vars ++ Q6p c.own) ∧
  (∀ k ∈ c.keepO, k ∉ Q3d c.objs ++ (ownNames c.own ++ Q24 c.arrs)) ∧ ownOk c ν (some x) = some x := by
 unfold proj at h
 split at h
 ·rename_i x1 σ y1 τ0 u1 ν v1 hx hy hu hv
  cases h1 : Qe0 s (c.labs ++ ownNames c.own) c.keepS with
  | false => simp [h1] at h
  | true =>
  cases h2 : Qc0 s (c.labs ++ ownNames c.own) c.keepO with
  | false => simp [h1, h2] at h
  | true =>
  cases h3 : subL (Q3l (σ ++ τ0) ++ kl) s.live with
  | false => simp only [h1, h2, h3, cond_true, cond_false] at h; cases h
  | true =>
  cases h4 : Q51 (Q3l (σ ++ τ0) ++ kl) with
  | false => simp only [h1, h2, h3, h4, cond_true, cond_false] at h; cases h
  | true =>
  cases h5 : Q51 (c.labs ++ kl) with
  | false => simp only [h1, h2, h3, h4, h5, cond_true, cond_false] at h; cases h
  | true =>
  cases h6 : subL nm c.others with
  | false => simp only [h1, h2, h3, h4, h5, h6, cond_true, cond_false] at h; cases h
  | true =>
  cases h7 : apart c.keepS (slotsOf c.vars ++ Q6p c.own) with
  | false => simp only [h1, h2, h3, h4, h5, h6, h7, cond_true, cond_false] at h; cases h
  | true =>
  cases h8 : apart c.keepO (Q3d c.objs ++ (ownNames c.own ++ Q24 c.arrs)) with
  | false => simp only [h1, h2, h3, h4, h5, h6, h7, h8, cond_true, cond_false] at h; cases h
  | true =>
   simp only [h1, h2, h3, h4, h5, h6, h7, h8, cond_true] at h
   have h9 := (Qo5 h).2.2.2.2.2.2.2.2.2
   cases h9
   exact ⟨σ, τ0, ν, hx, hy, hu, hv, rfl, rfl, Qae h3, Q2w h4, Q2w h5, Qae h6, apart_spec h7, apart_spec h8, h⟩
 ·cases h
theorem RA.osl_name {g g' : Gh} {w : World} {k k' off len sz : Nat} {v : Value} (h : RA g w (.osl k off len sz) v) (hk : g'.ρ k' = g.ρ k) : RA g' w (.osl k' off len sz) v := by
 cases h with
 | nm _ _ _ h => exact .nm _ _ _ (by rw [hk]; exact h)
theorem Qfj {nm : List Nat} {c : Cut} {s s0 : XSt} {x : c.T} (h : proj nm (keepL s0 c) c s = some x) (hi1 : ∀ t ∈ c.keepS, ∀ x, t ∉ s.wl → lk t s.env = some x → lk t s0.env = some x)
  (hi2 : ∀ k ∈ c.keepO, ∀ x, k ∉ s.ol → lk k s.objs = some x → lk k s0.objs = some x) {S : Sig} {B : Base} {g : Gh} {w : World} {a : Act} (hs : SR S B g w s.im a)
  (hnm : S.names = nm) : ∃ g', SR S B g' w (gen s0 c x).im a := by
 generalize hkl : keepL s0 c = kl at h
 obtain ⟨σ, τ0, ν, hx, hy, hu, hv, h1, h2, l3, l4, l5, l6, l7, l8, hown⟩ := Qqu h
 obtain ⟨w1, w2, w3, w4, w5, w6, w7, w8, w9, -⟩ := Qo5 hown
 generalize hτ : σ ++ τ0 = τ at l3 l4
 have k1 := Qiw h1
 have k2 := Qi6 h2
 obtain ⟨n4a, n4b, n4c⟩ := Qf7 l4
 obtain ⟨n5a, n5b, n5c⟩ := Qf7 l5
 have hmap : τ.map (·.1) = c.labs := by
  rw [← hτ, List.map_append, Qi8 hx, Qi1 hy]; rfl
 have hνn := Qd8 hu w1
 have hνm := Qa5 hu
 have hr := hs.hr
 let g' := cutGh g τ kl ν
 have hβ : ∀ n, g'.β n = cond (inl n kl) (g.β n) (match lk n τ with | some (some m) => g.β m | some none => some none | none => none) := fun n => rfl
 have hρ : ∀ k, k ∉ ownNames c.own → g'.ρ k = g.ρ k := by
  intro k hk
  show (match lk k ν with | some k => g.ρ k | none => g.ρ k) = g.ρ k
  cases hl : lk k ν with
  | none => rfl
  | some z => exact absurd (hνm _ (Q7v hl)) hk
 have hρν : ∀ n k, (n, k) ∈ ν → g'.ρ n = g.ρ k := by
  intro n k hm
  show (match lk n ν with | some k => g.ρ k | none => g.ρ n) = g.ρ k
  rw [Qkw hνn hm]
 have βkeep : ∀ n, n ∈ kl → g'.β n = g.β n := by
  intro n hn
  rw [hβ, (Qx _ _).2 hn]; rfl
 have βnew : ∀ n m, (n, some m) ∈ τ → g'.β n = g.β m := by
  intro n m hm
  have hn : n ∈ c.labs := by rw [← hmap]; exact List.mem_map_of_mem (f := (·.1)) hm
  have hk : inl n kl = false := by
   cases hh : inl n kl with
   | false => rfl
   | true => exact absurd ((Qx _ _).1 hh) (n5c n hn)
  rw [hβ, hk, Qkw (by rw [hmap]; exact n5a) hm]; rfl
 have βother : ∀ n, n ∉ c.labs → n ∉ kl → g'.β n = none := by
  intro n hn hk
  have hk' : inl n kl = false := by
   cases hh : inl n kl with
   | false => rfl
   | true => exact absurd ((Qx _ _).1 hh) hk
  rw [hβ, hk']
  cases hl : lk n τ with
  | none => rfl
  | some z => exact absurd (by rw [← hmap]; exact List.mem_map_of_mem (f := (·.1)) (Q7v hl)) hn
 -- where a live label comes from
 have βsrc : ∀ n b, g'.β n = some (some b) → (n ∈ kl ∧ g.β n = some (some b)) ∨ ∃ m, (n, some m) ∈ τ ∧ g.β m = some (some b) := by
  intro n b hb
  by_cases hk : n ∈ kl
  ·exact .inl ⟨hk, by rw [← βkeep n hk]; exact hb⟩
  ·by_cases hn : n ∈ c.labs
   ·rw [← hmap] at hn
    obtain ⟨z, hz⟩ := Qjj hn
    cases z with
    | some m => exact .inr ⟨m, Q7v hz, by rw [← βnew n m (Q7v hz)]; exact hb⟩
    | none =>
     have hk' : inl n kl = false := by
      cases hh : inl n kl with
      | false => rfl
      | true => exact absurd ((Qx _ _).1 hh) hk
     rw [hβ, hk', hz] at hb
     simp at hb
   ·rw [βother n hn hk] at hb; cases hb
 have hη : ∀ n, g'.η n = cond (inl n kl) (g.η n) (fun _ => none) := fun n => rfl
 have ηkeep : ∀ n, n ∈ kl → g'.η n = g.η n := by
  intro n hn
  rw [hη, (Qx _ _).2 hn]; rfl
 have ηoff : ∀ n, n ∉ kl → ∀ i, g'.η n i = none := by
  intro n hn i
  rw [hη]
  cases hh : inl n kl with
  | false => rfl
  | true => exact absurd ((Qx _ _).1 hh) hn
 have ht : Trans (c.labs ++ ownNames c.own) g w g' w := by
  refine ⟨.refl _ _, fun k hk => hρ k fun hm => hk (List.mem_append_right _ hm), fun n ob hn he => ?_, fun L hL he => ?_⟩
  ·by_cases hk : n ∈ kl
   ·exact ⟨by rw [← βkeep n hk]; exact he, fun _ _ => ⟨rfl, rfl⟩⟩
   ·rw [βother n (fun hm => hn (List.mem_append_left _ hm)) hk] at he; cases he
  ·by_cases hk : L ∈ kl
   ·exact ⟨ηkeep L hk, fun _ _ _ => ⟨rfl, rfl⟩⟩
   ·rw [βother L (fun hm => hL (List.mem_append_left _ hm)) hk] at he; cases he
 have hσ : ∀ n m, (n, some m) ∈ τ → ∀ ob, g'.β n = some ob → g.β m = some ob := fun n m hm ob he => by rw [← βnew n m hm]; exact he
 have notOwn : ∀ k, k ∈ c.others → k ∉ ownNames c.own := fun k hk hm => w2 k hm hk
 -- the objects
 have hobj : ∀ k o, (Q0 (gen s0 c x).objs).lookup k = some o → ∃ k0 p, s.im.X.objs.lookup k0 = some p ∧ g'.ρ k = g.ρ k0 ∧ ObRel g' w (g.ρ k0) o ∧ ((k, k0) ∈ ν ∨ (k0 = k ∧ k ∈ c.others)) := by
  intro k o hk
  obtain ⟨y, hyl, rfl⟩ := Qy2 hk
  have hm := Q7v hyl
  rcases List.mem_append.1 hm with hm | hm
  ·obtain ⟨vs, cs, ty, u, σ', e1, e2, rfl, e4, e5, e6⟩ := Qk9 hy hm
   have hoth : k ∈ c.others := List.mem_append_left _ (List.mem_append_left _ e5)
   refine ⟨k, _, lk_im e1, hρ k (notOwn k hoth), ?_, .inr ⟨rfl, hoth⟩⟩
   have := hr.objs k _ (lk_im e1)
   cases this with
   | cells _ _ arr T r1 r2 r3 r4 =>
    have pc := Q7k (g := g) (g' := g') (w := w) (ns := ownNames c.own) (vs := arr.toList) rfl hρ (e6 _ w8) e2 (fun n m hm => hσ n m (by rw [← hτ]; exact List.mem_append_right _ (e4 _ hm))) (by
     intro i x v hx hv
     exact r3 i x.a v (by rw [Q8g, hx]; rfl) (by simpa using hv))
    refine .cells _ _ arr T r1 (by rw [Q8, pc.2, ← Q8]; exact r2) ?_ r4
    intro i x v hx hv
    rw [Q8g, Option.map_eq_some_iff] at hx
    obtain ⟨z, hz, rfl⟩ := hx
    exact pc.1 i z v hz (by simpa using hv)
  ·rcases List.mem_append.1 hm with hm | hm
   ·obtain ⟨k0, q1, q2⟩ := Qei hu hm
    obtain ⟨_, t, u, rfl⟩ := Q83 hm
    exact ⟨k0, _, Q8z q2, hρν _ _ q1, (hr.objs k0 _ (Q8z q2)).keep ht rfl (.inr (Qex _ _ _)), .inl q1⟩
   ·rcases List.mem_append.1 hm with hm | hm
    ·obtain ⟨q1, q2⟩ := Qjf hv hm
     have hoth : k ∈ c.others := List.mem_append_left _ (List.mem_append_right _ q2)
     exact ⟨k, _, Q8z q1, hρ k (notOwn k hoth), (hr.objs k _ (Q8z q1)).keep ht rfl (.inr (Qkr w9 hm)), .inr ⟨rfl, hoth⟩⟩
    ·obtain ⟨hk1, hk2⟩ := Q8h hm
     obtain ⟨q1, z, q2, q3⟩ := k2 k hk1
     have := hi2 k hk1 z q1 q2
     rw [hk2] at this
     cases this
     have hl : s.im.X.objs.lookup k = some y.o := by
      show (Q0 s.objs).lookup k = _
      rw [Q1l, q2]; rfl
     have hoth : k ∈ c.others := List.mem_append_right _ hk1
     exact ⟨k, _, hl, hρ k (notOwn k hoth), (hr.objs k _ hl).keep ht rfl (.inr q3), .inr ⟨rfl, hoth⟩⟩
 refine ⟨g', hs.defers, hs.size, ?_, ?_⟩
 ·refine ⟨?_, hr.sane, hr.base, hr.io, hr.le, hr.frame, ?_, ?_, ?_, ?_, ?_, ?_, ?_, ?_, ?_, hr.eta.stepN (fun L hL => ?_) (Nat.le_refl _) (fun n b hn => ?_) (fun k o hk => ?_)⟩
  rotate_right 3
  ·by_cases hk : L ∈ kl
   ·exact .inl ⟨by rw [← βkeep L hk]; exact hL, ηkeep L hk⟩
   ·exact .inr (ηoff L hk)
  ·rcases βsrc n b hn with ⟨a1, a2⟩ | ⟨m, a1, a2⟩
   ·exact hr.eta.tipN a2
   ·exact hr.eta.tipN a2
  ·obtain ⟨k0, p, hp, he, _⟩ := hobj k o hk
   rw [he]; exact hr.eta.objN hp
  ·intro k hk
   have hk' := l6 k (hnm ▸ hk)
   refine ⟨(hρ k (notOwn k hk')).trans (hr.keep k hk).1, ?_⟩
   show ((Q0 (gen s0 c x).objs).lookup k).isSome = true
   rw [Q1l, Option.isSome_map]
   have key : k ∈ (gen s0 c x).objs.map (·.1) := by
    unfold gen
    simp only [List.map_append, Qia, Qdb, List.mem_append]
    unfold Cut.others at hk'
    simp only [List.mem_append] at hk'
    rcases hk' with (hm | hm) | hm
    ·exact .inl hm
    ·exact .inr (.inr (.inl hm))
    ·refine .inr (.inr (.inr ?_))
     obtain ⟨q1, z, q2, q3⟩ := k2 k hm
     have hz := hi2 k hm z q1 q2
     have : ∀ (l : List Nat), k ∈ l → k ∈ (Q5r s0.objs l).map (·.1) := by
      intro l
      induction l with
      | nil => simp
      | cons j r ih =>
       intro hj
       unfold Q5r
       rcases List.mem_cons.1 hj with rfl | hj
       ·rw [hz]; exact List.mem_cons_self
       ·split
        ·exact List.mem_cons_of_mem _ (ih hj)
        ·exact ih hj
     exact this _ hm
   obtain ⟨z, hz⟩ := Qjj key
   rw [hz]; rfl
  ·intro k o hk
   obtain ⟨k0, p, hp, he, ho, _⟩ := hobj k o hk
   rw [he]; exact ho
  ·intro k o hk; obtain ⟨k0, p, hp, he, _⟩ := hobj k o hk; show g.γ (g'.ρ k) = 0; rw [he]; exact hr.objγ k0 p hp
  ·intro k k' o o' hk hk' he
   obtain ⟨k0, p, hp, e1, _, d1⟩ := hobj k o hk
   obtain ⟨k0', q, hq, e2, _, d2⟩ := hobj k' o' hk'
   have he' : g.ρ k0 = g.ρ k0' := by rw [← e1, ← e2]; exact he
   have := hr.objinj k0 k0' p q hp hq he'
   subst this
   rcases d1 with d1 | ⟨d1, d1'⟩ <;> rcases d2 with d2 | ⟨d2, d2'⟩
   ·have inj : ∀ (ν : List (Nat × Nat)), (ν.map (·.2)).Nodup → (k, k0) ∈ ν → (k', k0) ∈ ν → k = k' := by
     intro ν
     induction ν with
     | nil => intro _ h; simp at h
     | cons p r ih =>
      intro hnd h h'
      simp only [List.map_cons, List.nodup_cons] at hnd
      rcases List.mem_cons.1 h with z | z <;> rcases List.mem_cons.1 h' with z' | z'
      ·subst z; cases z'; rfl
      ·subst z; exact absurd (List.mem_map.2 ⟨_, z', rfl⟩) hnd.1
      ·subst z'; exact absurd (List.mem_map.2 ⟨_, z, rfl⟩) hnd.1
      ·exact ih hnd.2 z z'
    exact inj ν w3 d1 d2
   ·subst d2; exact absurd d2' (w4 _ (List.mem_map_of_mem (f := (·.2)) d1))
   ·subst d1; exact absurd d1' (w4 _ (List.mem_map_of_mem (f := (·.2)) d2))
   ·exact d1.symm.trans d2
  ·intro k o hk; obtain ⟨k0, p, hp, he, _⟩ := hobj k o hk; show B.n0 ≤ g'.ρ k ∨ B.allowed (g'.ρ k); rw [he]; exact hr.objnew k0 p hp
  ·intro n
   show n ∈ c.labs ++ keepL s0 c ↔ _
   rw [hkl]
   rw [List.mem_append]
   constructor
   ·rintro (hn | hn)
    ·have hn' := hn
     rw [← hmap] at hn'
     obtain ⟨z, hz⟩ := Qjj hn'
     cases z with
     | some m =>
      rw [βnew n m (Q7v hz)]
      exact (hr.live m).1 (l3 m (List.mem_append_left _ (Q6r.2 ⟨n, Q7v hz⟩)))
     | none =>
      have hk' : inl n kl = false := by
       cases hh : inl n kl with
       | false => rfl
       | true => exact absurd ((Qx _ _).1 hh) (n5c n hn)
      rw [hβ, hk', hz]; rfl
    ·rw [βkeep n hn]
     exact (hr.live n).1 (l3 n (List.mem_append_right _ hn))
   ·intro hn
    by_cases hk : n ∈ kl
    ·exact .inr hk
    ·by_cases hl : n ∈ c.labs
     ·exact .inl hl
     ·rw [βother n hl hk] at hn; cases hn
  ·intro n m b hn hm
   rcases βsrc n b hn with ⟨a1, a2⟩ | ⟨p, a1, a2⟩ <;> rcases βsrc m b hm with ⟨b1, b2⟩ | ⟨q, b1, b2⟩
   ·exact hr.tipinj n m b a2 b2
   ·have := hr.tipinj n q b a2 b2
    subst this
    exact absurd a1 (n4c n (Q6r.2 ⟨m, b1⟩))
   ·have := hr.tipinj p m b a2 b2
    subst this
    exact absurd b1 (n4c p (Q6r.2 ⟨n, a1⟩))
   ·have := hr.tipinj p q b a2 b2
    subst this
    exact Qfs n4a a1 b1
  ·intro n b k o hn hk
   obtain ⟨k0, p, hp, he, _⟩ := hobj k o hk
   rw [he]
   rcases βsrc n b hn with ⟨a1, a2⟩ | ⟨m, a1, a2⟩
   ·exact hr.tipobj n b k0 p a2 hp
   ·exact hr.tipobj m b k0 p a2 hp
  ·intro n b hn
   rcases βsrc n b hn with ⟨a1, a2⟩ | ⟨m, a1, a2⟩
   ·exact hr.tipnew n b a2
   ·exact hr.tipnew m b a2
  ·intro n b hn
   rcases βsrc n b hn with ⟨a1, a2⟩ | ⟨m, a1, a2⟩
   ·exact hr.tiplt n b a2
   ·exact hr.tiplt m b a2
 ·intro t y hty
  obtain ⟨z, hz, rfl⟩ := Qzr hty
  rcases List.mem_append.1 (Q7v hz) with hm | hm
  ·obtain ⟨v, z0, u, σ', e1, e2, rfl, e4, e5⟩ := Qkc hx hm
   obtain ⟨val, hv, hra⟩ := hs.env t z0.a (Q65 e1)
   exact ⟨val, hv, VK.proj_ra (g := g) (g' := g') (w := w) (ns := ownNames c.own) e2 rfl hρ (e5 _ w7) (fun n m hm => hσ n m (by rw [← hτ]; exact List.mem_append_left _ (e4 _ hm))) hra⟩
  ·rcases List.mem_append.1 hm with hm | hm
   ·rcases Qej hu hm with ⟨rfl, e1⟩ | ⟨n, k, ty, len, e1, e2, rfl⟩
    ·obtain ⟨val, hv, hra⟩ := hs.env t _ (Q65 e1)
     exact ⟨val, hv, hra.mono ht (.d _)⟩
    ·obtain ⟨val, hv, hra⟩ := hs.env t _ (Q65 e2)
     exact ⟨val, hv, RA.osl_name hra (hρν _ _ e1)⟩
   ·obtain ⟨hk1, hk2⟩ := Qcn hm
    obtain ⟨q1, z1, q2, q3⟩ := k1 t hk1
    have := hi1 t hk1 z1 q1 q2
    rw [hk2] at this
    cases this
    obtain ⟨val, hv, hra⟩ := hs.env t z.a (Q65 q2)
    exact ⟨val, hv, hra.mono ht (Q81 q3)⟩
theorem Qwx {nm kl : List Nat} {c : Cut} {s : XSt} {x : c.T} (h : proj nm kl c s = some x) : (∀ t ∈ c.keepS, t ∉ slotsOf c.vars ++ Q6p c.own) ∧ ∀ k ∈ c.keepO, k ∉ Q3d c.objs ++ (ownNames c.own ++ Q24 c.arrs) := by
 obtain ⟨σ, τ0, ν, hx, hy, hu, hv, h1, h2, l3, l4, l5, l6, l7, l8, hown⟩ := Qqu h
 exact ⟨l7, l8⟩
end Go.Xl
set_option linter.unusedVariables false
set_option linter.unusedSimpArgs false
set_option linter.unnecessarySimpa false
namespace Go.Xl
open Go.Ab
inductive An where
 | lf
 | seq (a b : An)
 | join (c : Cut) (a b : An)
 | cond (a b : An)
 | blk (a : An)
 | loop (c : Cut) (a : An)
 | stop
 | fg (a b : An)
 /-- between the two: the slices in these slots own their blocks no longer; they are data -/
 | fz (ts : List Nat) (a b : An)
def An.l : An → An
 | .seq a _ => a
 | .cond a _ => a
 | .blk a => a
 | .join _ a _ => a
 | .loop _ a => a
 | .lf => .lf
 | .stop => .lf
 | .fg a _ => a
 | .fz _ a _ => a
def An.r : An → An
 | .seq _ b => b
 | .cond _ b => b
 | .join _ _ b => b
 | _ => .lf
def Qrz {R : Type} : An → Option R → Option R
 | .stop, _ => none
 | _, x => x
theorem Qm8 {R : Type} {an : An} {x : Option R} {r : R} (h : Qrz an x = some r) : x = some r := by
 cases an <;> first | exact h | cases h
def iter {σ : Type} {R : Type} (f : (σ → Option R) → σ → Option R) : Nat → σ → Option R
 | 0, _ => none
 | n + 1, x => f (iter f n) x
def Ql {σ : Type} {R : Type} (k : σ → Option R) (f : (σ → Option R) → Option R) : Option R := f k
def Q3j {α β : Type} (x : Option α) (a : β) (f : α → β) : β :=
 match x with
 | none => a
 | some y => f y
def Qcb {R : Type} : (l : List (Tmp × Nat × Ty)) → OwnT l → (OwnT l → Option R) → Option R
 | [], u, K => K u
 | _ :: r, u, K => Q3j u.1 (Qcb r u.2 fun v => K (none, v)) (fun y => Qcb r u.2 fun v => K (some y, v))
theorem Qdp {R : Type} : ∀ (l : List (Tmp × Nat × Ty)) (u : OwnT l) (K : OwnT l → Option R), Qcb l u K = K u
 | [], u, K => rfl
 | p :: r, u, K => by
  obtain ⟨a, v⟩ := u
  unfold Qcb
  cases a with
  | none => exact Qdp r v _
  | some y => exact Qdp r v _
def fzK {R : Type} : List Nat → XSt → (XSt → Option R) → Option R
 | [], s, K => K s
 | t :: ts, s, K => match lk t s.env with
  | some (.os k ty a n) => match lk k s.objs with
   | some (.arr u l) => cond (u.eqb ty) (cond (Nat.ble 1000 k) (cond (Nat.ble (a + n) l.length)
     (fzK ts ⟨(t, .d (.sl u ((l.drop a).take n))) :: s.env, dropX k s.objs, s.live, t :: s.wl, k :: s.ol⟩ K) none) none) none
   | _ => none
  | _ => fzK ts s K
def Qzc (i j : Nat) : Bool := Nat.beq i j
def base (st : XSt) : XSt := ⟨st.env, st.objs, st.live, [], []⟩
def relog (c : Cut) (st s : XSt) : XSt := ⟨s.env, s.objs, s.live, s.wl ++ ((slotsOf c.vars ++ Q6p c.own) ++ st.wl), s.ol ++ ((Q3d c.objs ++ (ownNames c.own ++ Q24 c.arrs)) ++ st.ol)⟩
def relog0 (st s : XSt) : XSt := ⟨s.env, s.objs, s.live, s.wl ++ st.wl, s.ol ++ st.ol⟩
section
variable (P : Program) (Γ : List (Ent P)) (own nm : List Nat) (nt N : Nat) {R : Type}
def Q7u (f : XSt → Option R) (K : Exit → XSt → Option R) : Exit → XSt → Option R
 | .normal, s => f s
 | e, s => K e s
def Qwd (id : Nat) (K : Exit → XSt → Option R) : Exit → XSt → Option R
 | .exit j, s => cond (Qzc j id) (K .normal s) (K (.exit j) s)
 | e, s => K e s
def Qns (x : Operand) (b : Bool) (st : XSt) : XSt :=
 match x with
 | .tmp t => Q2q t b st
 | _ => st
noncomputable def exec : Code → An → XSt → (Exit → XSt → Option R) → Option R
 | .skip, _, st, K => K .normal st
 | .label _, _, st, K => K .normal st
 | .exit id, _, st, K => K (.exit id) st
 | .ret, _, st, K => K .ret st
 | .region _ ops draw, _, st, K => xops P Γ own nt ops draw st.env (K .normal) ops.toList [] st
 | .seq a b, an, st, K =>
  match an with
  | .join c x y =>
   Ql (fun z => Qcb c.own z.2.2.1 fun u => exec b y (relog c st (gen (base st) c (z.1, z.2.1, u, z.2.2.2))) K)
    (fun k => exec a x (base st) (Q7u (fun s => Option.bind (proj nm (keepL (base st) c) c s) k) (fun e s => K e (relog0 st s))))
  | .fg x y => exec a x st (Q7u (fun s => exec b y (fgSt s) K) K)
  | .fz ts x y => exec a x st (Q7u (fun s => fzK ts s fun s' => exec b y s' K) K)
  | _ => exec a an.l st (Q7u (fun s => exec b an.r s K) K)
 | .cond c a b, an, st, K =>
  match xeval st c with
  | some (.d (.b v)) => cond v (Qrz an.l (exec a an.l (Qns c true st) K)) (Qrz an.r (exec b an.r (Qns c false st) K))
  | _ => none
 | .block id c, an, st, K => exec c an.l st (Qwd id K)
 | .loop b, an, st, K =>
  match an with
  | .loop c x => Option.bind (proj nm (keepL (base st) c) c (base st)) (iter (fun rec z => Qcb c.own z.2.2.1 fun u => exec b x (gen (base st) c (z.1, z.2.1, u, z.2.2.2)) (Q7u (fun s => Option.bind (proj nm (keepL (base st) c) c s) rec) (fun e s => K e (relog c st s)))) N)
  | _ => none
 | _, _, _, _ => none
end
section
variable {P : Program} {Γ : List (Ent P)} {own nm : List Nat} {N : Nat} {R : Type}
def PostE (s0 : XSt) (K : Exit → XSt → Option R) (r : R) : Exit → St → Prop := fun e s => ∃ st', s = st'.im ∧ Inv s0 st' ∧ K e st' = some r
theorem Qku {t : Nat} {y : XV} : ∀ (l : List (Tmp × VK)) (x : VarsT l), (t, y) ∈ Qal l x → t ∈ slotsOf l
 | [], x, h => by simp [Qal] at h
 | p :: r, x, h => by
  simp only [Qal, List.mem_cons] at h
  simp only [slotsOf, List.mem_cons]
  rcases h with h | h
  ·cases h; exact .inl rfl
  ·exact .inr (Qku r _ h)
theorem Qke {t : Nat} {y : XV} : ∀ (l : List (Tmp × Nat × Ty)) (x : OwnT l), (t, y) ∈ Q9f l x → t ∈ Q6p l
 | [], x, h => by simp [Q9f] at h
 | p :: r, x, h => by
  simp only [Q9f, List.mem_cons] at h
  simp only [Q6p, List.mem_cons]
  rcases h with h | h
  ·cases h; exact .inl rfl
  ·exact .inr (Qke r _ h)
theorem Qjc {k : Nat} {y : XOb} : ∀ (l : List (Nat × List VK × Option TypeId)) (x : ObjsT l), (k, y) ∈ Q7g l x → k ∈ Q3d l
 | [], x, h => by simp [Q7g] at h
 | p :: r, x, h => by
  simp only [Q7g, List.mem_cons] at h
  simp only [Q3d, List.mem_cons]
  rcases h with h | h
  ·cases h; exact .inl rfl
  ·exact .inr (Qjc r _ h)
theorem Qz3 {s0 : XSt} {c : Cut} {x : c.T} {t : Nat} {y : XV} (h : lk t (gen s0 c x).env = some y) : t ∈ slotsOf c.vars ++ Q6p c.own ∨ lk t s0.env = some y := by
 rcases List.mem_append.1 (Q7v h) with hm | hm
 ·exact .inl (List.mem_append_left _ (Qku _ _ hm))
 ·rcases List.mem_append.1 hm with hm | hm
  ·exact .inl (List.mem_append_right _ (Qke _ _ hm))
  ·exact .inr (Qcn hm).2
theorem Qwf {s0 : XSt} {c : Cut} {x : c.T} {t : Nat} {y : XOb} (h : lk t (gen s0 c x).objs = some y) : t ∈ Q3d c.objs ++ (ownNames c.own ++ Q24 c.arrs) ∨ lk t s0.objs = some y := by
 rcases List.mem_append.1 (Q7v h) with hm | hm
 ·exact .inl (List.mem_append_left _ (Qjc _ _ hm))
 ·rcases List.mem_append.1 hm with hm | hm
  ·exact .inl (List.mem_append_right _ (List.mem_append_left _ (Q83 hm).1))
  ·rcases List.mem_append.1 hm with hm | hm
   ·exact .inl (List.mem_append_right _ (List.mem_append_right _ (by rw [← Qdb]; exact List.mem_map_of_mem (f := (·.1)) hm)))
   ·exact .inr (Q8h hm).2
theorem Inv.relog {s0 st s : XSt} {c : Cut} {x : c.T} (h : Inv s0 st) (h' : Inv (gen (base st) c x) s) : Inv s0 (relog c st s) := by
 refine ⟨fun t y ht hy => ?_, fun k y hk hy => ?_⟩
 ·unfold Xl.relog at ht hy
  simp only at ht hy
  rw [List.mem_append, List.mem_append (s := slotsOf c.vars ++ Q6p c.own), not_or, not_or] at ht
  have h1 := h'.env t y ht.1 hy
  rcases Qz3 h1 with h2 | h2
  ·exact absurd h2 ht.2.1
  ·exact h.env t y ht.2.2 h2
 ·unfold Xl.relog at hk hy
  simp only at hk hy
  rw [List.mem_append, List.mem_append (s := Q3d c.objs ++ (ownNames c.own ++ Q24 c.arrs)), not_or, not_or] at hk
  have h1 := h'.objs k y hk.1 hy
  rcases Qwf h1 with h2 | h2
  ·exact absurd h2 hk.2.1
  ·exact h.objs k y hk.2.2 h2
theorem Inv.relog0 {s0 st s : XSt} (h : Inv s0 st) (h' : Inv (base st) s) : Inv s0 (relog0 st s) := by
 refine ⟨fun t y ht hy => ?_, fun k y hk hy => ?_⟩
 ·simp only [Xl.relog0, List.mem_append, not_or] at ht hy
  exact h.env t y ht.2 (h'.env t y ht.1 hy)
 ·simp only [Xl.relog0, List.mem_append, not_or] at hk hy
  exact h.objs k y hk.2 (h'.objs k y hk.1 hy)
theorem Inv.fg {s0 s : XSt} (h : Inv s0 s) : Inv s0 (fgSt s) := by
 refine ⟨h.env, fun k x hk hx => ?_⟩
 simp only [fgSt, List.mem_append, not_or] at hk hx
 rw [lk_fg] at hx
 cases hl : lk k s.objs with
 | none => rw [hl] at hx; cases hx
 | some o =>
  rw [hl] at hx
  simp only [Option.map_some, Option.some.injEq] at hx
  cases hm : Qgg o with
  | true => exact absurd (Qlp hl hm) hk.1
  | false =>
   rw [Qnc hm] at hx
   subst hx
   exact h.objs k o hk.2 hl
theorem Qsi {S : Sig} {R : Type} {K : XSt → Option R} {r : R} {s0 : XSt} : ∀ (ts : List Nat) (s : XSt), Inv s0 s → fzK ts s K = some r →
  ∃ s', K s' = some r ∧ Inv s0 s' ∧ ∀ (B : Base) (g : Gh) (w : World) (a : Act), SR S B g w s.im a → ∃ g', SR S B g' w s'.im a
 | [], s, hi, h => ⟨s, h, hi, fun B g w a hs => ⟨g, hs⟩⟩
 | t :: ts, s, hi, h => by
  unfold fzK at h
  split at h
  ·rename_i k ty a n ht
   split at h
   ·rename_i u l hk
    cases h1 : u.eqb ty with
    | false => simp [h1] at h
    | true =>
    cases h2 : Nat.ble 1000 k with
    | false => simp [h1, h2] at h
    | true =>
    cases h3 : Nat.ble (a + n) l.length with
    | false => simp [h1, h2, h3] at h
    | true =>
     simp only [h1, h2, h3, cond_true] at h
     have e1 := Ty.eqb_eq h1
     subst e1
     have e2 := Nat.le_of_ble_eq_true h2
     have e3 := Nat.le_of_ble_eq_true h3
     have hi' : Inv s0 ⟨(t, .d (.sl u ((l.drop a).take n))) :: s.env, dropX k s.objs, s.live, t :: s.wl, k :: s.ol⟩ := by
      refine ⟨fun t' x ht' hx => ?_, fun k' x hk' hx => ?_⟩
      ·simp only [List.mem_cons, not_or] at ht'
       rw [Q10 ht'.1] at hx
       exact hi.env t' x ht'.2 hx
      ·simp only [List.mem_cons, not_or] at hk'
       exact hi.objs k' x hk'.2 (Qa7 hx)
     obtain ⟨s', q1, q2, q3⟩ := Qsi ts _ hi' h
     refine ⟨s', q1, q2, fun B g w act hs => ?_⟩
     have hnm : k ∉ S.names := fun hm => by have := S.small k hm; omega
     have ho : s.im.X.objs.lookup k = some (.cells ((l.map u.ds).flatten.map .d) none) := Q8z hk
     obtain ⟨f1, f2, f3⟩ := hs.hr.freeze (k := k) (sz := u.size) (es := l.map u.ds) hnm ho (by
      intro i cs hcs
      rw [List.getElem?_map, Option.map_eq_some_iff] at hcs
      obtain ⟨x, _, rfl⟩ := hcs
      exact u.ds_length x)
     have hX : Ab.dropObj k s.im.X = ⟨Q0 (dropX k s.objs), s.live⟩ := by
      rw [Q93]; rfl
     rw [hX] at f1
     refine q3 B _ w act ⟨hs.defers, hs.size, f1, ?_⟩
     intro t' x hx
     have hx : (imEnv ((t, .d (.sl u ((l.drop a).take n))) :: s.env)).lookup t' = some x := hx
     rw [Qeg] at hx
     by_cases he : t' = t
     ·subst he
      simp only [lk, Nat.beq_refl, cond_true, Option.map_some, Option.some.injEq] at hx
      subst hx
      obtain ⟨v, hv, hr⟩ := hs.env t' (XV.os k u a n).a (by
       show (imEnv s.env).lookup t' = _
       rw [Qeg, ht]; rfl)
      refine ⟨v, hv, ?_⟩
      have := f3 a n v (by simpa using e3) hr
      rw [← List.map_drop, ← List.map_take] at this
      exact this
     ·rw [Q10 he, ← Qeg] at hx
      obtain ⟨v, hv, hr⟩ := hs.env t' x hx
      exact ⟨v, hv, hr.mono f2 (.nil _)⟩
   ·cases h
  ·exact Qsi ts s hi h
theorem Inv.base (st : XSt) : Inv (base st) (Xl.base st) := .refl _
theorem Qqc {S : Sig} {st : XSt} {x : Operand} {b : Bool} {s0 : XSt} (hx : xeval st x = some (.d (.b b))) (hi : Inv s0 st) :
  Inv s0 (Qns x b st) ∧ ∀ (B : Base) (g : Gh) (w : World) (a : Act), SR S B g w st.im a → SR S B g w (Qns x b st).im a := by
 cases x with
 | tmp t =>
  replace hx := (Q1j hx).2
  exact ⟨hi.know hx, fun B g w a h => h.known (Q65 hx)⟩
 | const v => exact ⟨hi, fun _ _ _ _ h => h⟩
 | func f => exact ⟨hi, fun _ _ _ _ h => h⟩
 | global g => exact ⟨hi, fun _ _ _ _ h => h⟩
theorem Qdr (ops : Array Oper) : ∀ (j : Nat) o, ops.toList[j]? = some o → ops[0 + j]? = some o := by
 intro j o h
 rw [Nat.zero_add]
 simpa using h
theorem Qy7 {S : Sig} {c : Code} {Q Q' : Exit → St → Prop} {st : St} (h : AWp P S c Q st) (hq : ∀ e s, Q e s → ∀ (B : Base) (g : Gh) (w : World) (a : Act), SR S B g w s a → ∃ s' g', Q' e s' ∧ SR S B g' w s' a) : AWp P S c Q' st := by
 intro B g w a hs
 refine wp_mono (h B g w a hs) ?_
 rintro e a' w' ⟨s, g', q, hs'⟩
 exact hq e s q B g' w' a' hs'
theorem Qds (hm : P.follows .mixedOrders = true) {S : Sig} (hnm : S.names = nm) : ∀ (c : Code) (an : An) (st s0 : XSt) (K : Exit → XSt → Option R) (r : R), Inv s0 st →
  exec P Γ own nm S.N N c an st K = some r → AWp P S c (PostE s0 K r) st.im := by
 intro c
 induction c with
 | skip => intro an st s0 K r hi h; exact Q11o ⟨st, rfl, hi, h⟩
 | label l => intro an st s0 K r hi h; exact Qzb ⟨st, rfl, hi, h⟩
 | exit id => intro an st s0 K r hi h; exact Q10x ⟨st, rfl, hi, h⟩
 | ret => intro an st s0 K r hi h; exact Q12k ⟨st, rfl, hi, h⟩
 | region id ops draw =>
  intro an st s0 K r hi h
  simp only [exec] at h
  cases draw with
  | false =>
   have := Qdw (S := S) ops.toList 0 [] st (Qdr ops) hi h
   refine Q13q (n := ops.toList.length) (by simp) ?_
   rw [List.range_eq_range']
   exact this
  | true =>
   have := Qov (S := S) ops.toList 0 [] st (Qdr ops) hi h
   exact Q13p ops.toList.length hm this
 | seq a b iha ihb =>
  intro an st s0 K r hi h
  have plain : exec P Γ own nm S.N N a an.l st (Q7u (fun s => exec P Γ own nm S.N N b an.r s K) K) = some r → AWp P S (.seq a b) (PostE s0 K r) st.im := by
   intro h
   refine Ql0 (Qec (iha _ st s0 _ r hi h) ?_)
   rintro e s ⟨st', rfl, hi', hk⟩
   cases e with
   | normal => exact ihb _ st' s0 K r hi' hk
   | _ => exact ⟨st', rfl, hi', hk⟩
  unfold exec at h
  split at h
  ·rename_i cut x y
   unfold Ql at h
   refine Ql0 (Qec (iha x (base st) (base st) _ r (.refl _) h) ?_)
   rintro e s ⟨st', rfl, hi', hk⟩
   cases e with
   | normal =>
    simp only [Q7u, Option.bind_eq_some_iff] at hk
    obtain ⟨z, hz, hk⟩ := hk
    rw [Qdp] at hk
    intro B g w act hs
    obtain ⟨g', hs'⟩ := Qfj (s0 := base st) hz (fun t _ => hi'.env t) (fun k _ => hi'.objs k) hs hnm
    refine ihb y (relog cut st (gen (base st) cut z)) s0 K r (hi.relog (.refl _)) hk B g' w act hs'
   | _ => exact ⟨relog0 st st', rfl, hi.relog0 hi', hk⟩
  ·rename_i x y
   refine Ql0 (Qec (iha x st s0 _ r hi h) ?_)
   rintro e s ⟨st', rfl, hi', hk⟩
   cases e with
   | normal => exact fun B g w act hs => ihb y (fgSt st') s0 K r hi'.fg hk B g w act (SR.fg hs)
   | _ => exact ⟨st', rfl, hi', hk⟩
  ·rename_i ts x y
   refine Ql0 (Qec (iha x st s0 _ r hi h) ?_)
   rintro e s ⟨st', rfl, hi', hk⟩
   cases e with
   | normal =>
    obtain ⟨s', q1, q2, q3⟩ := Qsi (S := S) ts st' hi' hk
    exact fun B g w act hs => let ⟨g', hs'⟩ := q3 B g w act hs; ihb y s' s0 K r q2 q1 B g' w act hs'
   | _ => exact ⟨st', rfl, hi', hk⟩
  ·exact plain h
 | cond c a b iha ihb =>
  intro an st s0 K r hi h
  unfold exec at h
  split at h
  ·rename_i v hv
   have hsees := Q9 hv
   refine Q11p (b := v) hsees (fun hb => ?_) (fun hb => ?_)
   ·subst hb
    simp only [cond_true] at h
    replace h := Qm8 h
    obtain ⟨k1, k2⟩ := Qqc (S := S) hv hi
    intro B g w act hs
    exact iha _ _ s0 K r k1 h B g w act (k2 B g w act hs)
   ·subst hb
    simp only [cond_false] at h
    replace h := Qm8 h
    obtain ⟨k1, k2⟩ := Qqc (S := S) hv hi
    intro B g w act hs
    exact ihb _ _ s0 K r k1 h B g w act (k2 B g w act hs)
  ·cases h
 | block id c ih =>
  intro an st s0 K r hi h
  simp only [exec] at h
  refine Qze (Qec (ih _ st s0 _ r hi h) ?_)
  rintro e s ⟨st', rfl, hi', hk⟩
  cases e with
  | exit j =>
   simp only [Qwd, Qzc] at hk
   simp only [Qsc]
   cases hb : Nat.beq j id with
   | true =>
    simp only [hb, cond_true] at hk
    rw [if_pos (Nat.eq_of_beq_eq_true hb)]
    exact ⟨st', rfl, hi', hk⟩
   | false =>
    simp only [hb, cond_false] at hk
    rw [if_neg (Nat.ne_of_beq_eq_false hb)]
    exact ⟨st', rfl, hi', hk⟩
  | _ => exact ⟨st', rfl, hi', hk⟩
 | loop b ih =>
  intro an st s0 K r hi h
  unfold exec at h
  split at h
  ·rename_i cut x
   obtain ⟨z0, hz0, h⟩ := Option.bind_eq_some_iff.1 h
   intro B g w act hs
   obtain ⟨g', hs'⟩ := Qfj (s0 := base st) hz0 (fun _ _ _ _ h => h) (fun _ _ _ _ h => h) hs hnm
   generalize hf : (fun (rec : cut.T → Option R) (z : cut.T) => Qcb cut.own z.2.2.1 fun u => exec P Γ own nm S.N N b x (gen (base st) cut (z.1, z.2.1, u, z.2.2.2)) (Q7u (fun s => Option.bind (proj nm (keepL (base st) cut) cut s) rec) (fun e s => K e (relog cut st s)))) = f at h
   have key : ∀ (n : Nat) (z : cut.T), iter f n z = some r → AWp P S (.loop b) (PostE s0 K r) (gen (base st) cut z).im := by
    intro n z hn
    refine Q11t (fun n s => ∃ z, iter f n z = some r ∧ s = (gen (base st) cut z).im) n ⟨z, hn, rfl⟩ ?_
    rintro n s ⟨z, hn, rfl⟩
    cases n with
    | zero => simp [iter] at hn
    | succ n =>
     simp only [iter] at hn
     rw [← hf] at hn
     replace hn := (Qdp _ _ _).symm.trans hn
     refine Qy7 (ih x _ (gen (base st) cut z) _ r (.refl _) hn) ?_
     rintro e s ⟨st', rfl, hi', hk⟩ B g w act hs
     cases e with
     | normal =>
      simp only [Q7u, Option.bind_eq_some_iff] at hk
      obtain ⟨z', hz', hk⟩ := hk
      obtain ⟨ap1, ap2⟩ := Qwx hz'
      obtain ⟨g', hs'⟩ := Qfj (s := st') (s0 := base st) hz' (fun t ht y hw hy => (Qz3 (hi'.env t y hw hy)).resolve_left (ap1 t ht)) (fun k hk y hw hy => (Qwf (hi'.objs k y hw hy)).resolve_left (ap2 k hk)) hs hnm
      exact ⟨_, g', ⟨n, Nat.lt_succ_self n, z', by rw [hf] at hk; exact hk, rfl⟩, hs'⟩
     | _ => exact ⟨_, g, ⟨relog cut st st', rfl, hi.relog hi', hk⟩, hs⟩
   exact key N z0 h B g' w act hs'
  ·cases h
 | _ =>
  intros
  simp_all [exec]
end
end Go.Xl
set_option linter.unusedVariables false
set_option linter.unusedSimpArgs false
set_option linter.unnecessarySimpa false
namespace Go.Xl
open Go.Ab
@[reducible] def Fun : List Ty → Type → Type
 | [], R => R
 | t :: r, R => t.T → Fun r R
@[reducible] def ResT : List Ty → Type
 | [] => Unit
 | [t] => t.T
 | t :: u :: r => t.T × ResT (u :: r)
def resL : (ts : List Ty) → ResT ts → List XV
 | [], _ => []
 | [t], x => [.d (t.xv x)]
 | t :: u :: r, x => .d (t.xv x.1) :: resL (u :: r) x.2
def tupX : List XV → XV
 | [x] => x
 | l => .tup l
def resXV (ts : List Ty) (x : ResT ts) : XV := tupX (resL ts x)
theorem Q8k (l : List XV) : (tupX l).a = Qem (asOf l) := by
 cases l with
 | nil => rfl
 | cons x r => cases r <;> rfl
def Q9u : (ts : List Ty) → List XV → Option (ResT ts)
 | [], [] => some ()
 | [t], [x] => Qni t x
 | t :: u :: r, x :: xs => match Qni t x, Q9u (u :: r) xs with
  | some y, some ys => some (y, ys)
  | _, _ => none
 | _, _ => none
inductive AsLe : List AV → List AV → Prop
 | nil : AsLe [] []
 | cons {x y : AV} {r s : List AV} : ALe x y → AsLe r s → AsLe (x :: r) (y :: s)
theorem AsLe.length {a b : List AV} (h : AsLe a b) : a.length = b.length := by
 induction h with
 | nil => rfl
 | cons _ _ ih => simp [ih]
theorem AsLe.get {a b : List AV} (h : AsLe a b) : ∀ {i : Nat} {y : AV}, b[i]? = some y → ∃ x, a[i]? = some x ∧ ALe x y := by
 induction h with
 | nil => intro i y hy; simp at hy
 | cons h1 _ ih =>
  intro i y hy
  cases i with
  | zero => simp at hy; subst hy; exact ⟨_, rfl, h1⟩
  | succ i => simp at hy; simpa using ih hy
theorem AsLe.tup {a b : List AV} (h : AsLe a b) : ALe (.tup a) (.tup b) := by
 intro g w v hr
 cases hr with
 | tup _ vs hl hc =>
  refine .tup b vs (h.length ▸ hl) fun i c u hb hu => ?_
  obtain ⟨x, hx, hle⟩ := h.get hb
  exact hle _ _ _ (hc i x u hx hu)
theorem Qqq : ∀ {ts : List Ty} {xs : List XV} {y : ResT ts}, Q9u ts xs = some y → AsLe (asOf xs) (asOf (resL ts y))
 | [], xs, y, h => by
  cases xs with
  | nil => exact .nil
  | cons _ _ => simp [Q9u] at h
 | [t], xs, y, h => by
  cases xs with
  | nil => simp [Q9u] at h
  | cons x r =>
   cases r with
   | nil => exact .cons (Qql h) .nil
   | cons _ _ => simp [Q9u] at h
 | t :: u :: r, xs, y, h => by
  cases xs with
  | nil => simp [Q9u] at h
  | cons x xs =>
   simp only [Q9u] at h
   split at h
   ·rename_i y1 ys h1 h2
    cases h
    exact .cons (Qql h1) (Qqq h2)
   ·cases h
theorem Q11n {ts : List Ty} {xs : List XV} {y : ResT ts} (h : Q9u ts xs = some y) : ALe (tupX xs).a (resXV ts y).a := by
 have hl := Qqq h
 unfold resXV
 rw [Q8k, Q8k]
 generalize asOf xs = a at hl
 generalize asOf (resL ts y) = b at hl
 cases hl with
 | nil => exact .refl _
 | cons h1 h2 =>
  cases h2 with
  | nil => exact h1
  | cons h3 h4 => exact (AsLe.cons h1 (.cons h3 h4)).tup
def xres (P : Program) (st : XSt) : List ResultVar → Option (List XV)
 | [] => some []
 | .tmp t :: r => match xeval st (.tmp t), xres P st r with
  | some x, some l => some (x :: l)
  | _, _ => none
 | .cell a ty :: r => match xeval st (.tmp a), tyI P ty, xres P st r with
  | some (.nm k (.p off)), some (agg, sz), some l => match lk k st.objs with
   | some (.cells cs _) => cond agg (cond (Nat.ble (off + sz) cs.length) (some (xjoin ((cs.drop off).take sz) :: l)) none)
     (cond (Nat.beq sz 1) (match cs[off]? with
      | some v => some (v :: l)
      | none => none) none)
   | _ => none
  | _, _, _ => none
theorem Qag {P : Program} {st : XSt} : ∀ {rs : List ResultVar} {xs : List XV}, xres P st rs = some xs → RVs P st.im rs (asOf xs)
 | [], xs, h => by simp [xres] at h; subst h; exact .nil
 | .tmp t :: r, xs, h => by
  simp only [xres] at h
  split at h
  ·rename_i x l hx hl
   cases h
   exact .cons _ _ _ _ (.tmp t _ (Q1j hx).1 (.eq _ (Q65 (Q1j hx).2))) (Qag hl)
  ·cases h
 | .cell a ty :: r, xs, h => by
  simp only [xres] at h
  split at h
  ·rename_i k off agg sz l ha ht hl
   have hT := tyI_I ht
   split at h
   ·rename_i cs oty hk
    have hk' := lk_im hk
    cases agg with
    | true =>
     simp only [cond_true] at h
     cases hb : Nat.ble (off + sz) cs.length with
     | false => simp [hb] at h
     | true =>
      simp only [hb, cond_true, Option.some.injEq] at h
      subst h
      simp only [asOf]
      refine .cons _ _ _ _ (.cell a ty k off _ (Q1j ha).1 (.eq _ (Q65 (Q1j ha).2)) (.agg sz (asOf cs) oty _ hT hk' (by rw [Q8]; exact Nat.le_of_ble_eq_true hb) ?_)) (Qag hl)
      rw [Qp2, Qkn, Qko]
    | false =>
     simp only [cond_false] at h
     cases hb : Nat.beq sz 1 with
     | false => simp [hb] at h
     | true =>
      have := Nat.eq_of_beq_eq_true hb
      subst this
      simp only [hb, cond_true] at h
      split at h
      ·rename_i v hv
       cases h
       exact .cons _ _ _ _ (.cell a ty k off _ (Q1j ha).1 (.eq _ (Q65 (Q1j ha).2)) (.one (asOf cs) oty _ hT hk' (by rw [Q8g, hv]; rfl))) (Qag hl)
      ·cases h
   ·cases h
  ·cases h
def envX : Nat → List XV → List (Nat × XV)
 | _, [] => []
 | n, x :: r => (n, x) :: envX (n + 1) r
theorem Ql3 (n : Nat) (l : List XV) : imEnv (envX n l) = envOf n (asOf l) := by
 induction l generalizing n with
 | nil => rfl
 | cons x r ih => simp only [envX, imEnv, List.map_cons, asOf, envOf] at ih ⊢; rw [ih]
def frz : List XV → List (Nat × XOb) → Option (List XV × List (Nat × XOb))
 | [], objs => some ([], objs)
 | .os k t a len :: r, objs => match lk k objs with
  | some (.arr u l) => cond (u.eqb t) (cond (Nat.ble (a + len) l.length) (match frz r (dropX k objs) with
   | some (ys, o) => some (.d (.sl u ((l.drop a).take len)) :: ys, o)
   | none => none) none) none
  | _ => none
 | x :: r, objs => match frz r objs with
  | some (ys, o) => some (x :: ys, o)
  | none => none
inductive AsTo (g : Gh) (g' : Gh) (w : World) : List XV → List XV → Prop
 | nil : AsTo g g' w [] []
 | cons {x y : XV} {r s : List XV} : (∀ v, RA g w x.a v → RA g' w y.a v) → AsTo g g' w r s → AsTo g g' w (x :: r) (y :: s)
theorem AsTo.pre {g g1 g' : Gh} {w : World} {l m : List XV} (h : AsTo g1 g' w l m) (ht : Trans [] g w g1 w) : AsTo g g' w l m := by
 induction h with
 | nil => exact .nil
 | cons h1 _ ih => exact .cons (fun v hv => h1 v (hv.mono ht (.nil _))) ih
theorem AsTo.length {g g' : Gh} {w : World} {l m : List XV} (h : AsTo g g' w l m) : l.length = m.length := by
 induction h with
 | nil => rfl
 | cons _ _ ih => simp [ih]
theorem AsTo.get {g g' : Gh} {w : World} {l m : List XV} (h : AsTo g g' w l m) : ∀ {i : Nat} {y : XV}, m[i]? = some y → ∃ x, l[i]? = some x ∧ ∀ v, RA g w x.a v → RA g' w y.a v := by
 induction h with
 | nil => intro i y hy; simp at hy
 | cons h1 _ ih =>
  intro i y hy
  cases i with
  | zero => simp at hy; subst hy; exact ⟨_, rfl, h1⟩
  | succ i => simp at hy; simpa using ih hy
theorem AsTo.tupX {g g' : Gh} {w : World} {l m : List XV} (h : AsTo g g' w l m) {v : Value} (hr : RA g w (tupX l).a v) : RA g' w (tupX m).a v := by
 have tup : ∀ l m : List XV, AsTo g g' w l m → RA g w (.tup (asOf l)) v → RA g' w (.tup (asOf m)) v := by
  intro l m h hr
  cases hr with
  | tup _ vs hl hc =>
   refine .tup _ vs (by rw [Q8, ← h.length, ← Q8]; exact hl) fun i c u hb hu => ?_
   rw [Q8g, Option.map_eq_some_iff] at hb
   obtain ⟨y, hy, rfl⟩ := hb
   obtain ⟨x, hx, hxy⟩ := h.get hy
   exact hxy u (hc i x.a u (by rw [Q8g, hx]; rfl) hu)
 cases h with
 | nil => exact tup [] [] .nil hr
 | cons h1 h2 =>
  cases h2 with
  | nil => exact h1 v hr
  | cons h3 h4 => exact tup _ _ (.cons h1 (.cons h3 h4)) hr
theorem Qto {B : Base} {w : World} {live : List Nat} : ∀ {xs ys : List XV} {objs objs' : List (Nat × XOb)}, frz xs objs = some (ys, objs') → ∀ g, HR [] B g w ⟨Q0 objs, live⟩ →
  ∃ g', HR [] B g' w ⟨Q0 objs', live⟩ ∧ Trans [] g w g' w ∧ AsTo g g' w xs ys
 | [], ys, objs, objs', h, g, hr => by
  simp only [frz, Option.some.injEq, Prod.mk.injEq] at h
  obtain ⟨rfl, rfl⟩ := h
  exact ⟨g, hr, .refl _ _ _, .nil⟩
 | x :: r, ys, objs, objs', h, g, hr => by
  have other : (match frz r objs with | some (ys, o) => some (x :: ys, o) | none => none) = some (ys, objs') → ∃ g', HR [] B g' w ⟨Q0 objs', live⟩ ∧ Trans [] g w g' w ∧ AsTo g g' w (x :: r) ys := by
   intro h
   split at h
   ·rename_i zs o hz
    cases h
    obtain ⟨g', h1, h2, h3⟩ := Qto hz g hr
    exact ⟨g', h1, h2, .cons (fun v hv => hv.mono h2 (.nil _)) h3⟩
   ·cases h
  cases x with
  | os k t a len =>
   simp only [frz] at h
   split at h
   ·rename_i u l hk
    cases h1 : u.eqb t with
    | false => simp [h1] at h
    | true =>
    cases h2 : Nat.ble (a + len) l.length with
    | false => simp [h1, h2] at h
    | true =>
     simp only [h1, h2, cond_true] at h
     split at h
     ·rename_i zs o hz
      cases h
      have := Ty.eqb_eq h1
      subst this
      have ho := Q8z hk
      obtain ⟨f1, f2, f3⟩ := hr.freeze (k := k) (sz := u.size) (es := l.map u.ds) (ty := none) (by simp) ho (by
       intro i cs hc
       rw [List.getElem?_map, Option.map_eq_some_iff] at hc
       obtain ⟨y, _, rfl⟩ := hc
       exact u.ds_length y)
      have e : Ab.dropObj k ⟨Q0 objs, live⟩ = ⟨Q0 (dropX k objs), live⟩ := by
       rw [Q93]; rfl
      rw [e] at f1
      obtain ⟨g', h3, h4, h5⟩ := Qto hz _ f1
      refine ⟨g', h3, f2.trans h4, .cons (fun v hv => ?_) (h5.pre f2)⟩
      have hle := Nat.le_of_ble_eq_true h2
      have := f3 a len v (by simpa using hle) hv
      have := this.mono h4 (.nil _)
      simp only [XV.a, XD.d]
      rw [List.map_take, List.map_drop]
      exact this
     ·cases h
   ·cases h
  | _ => exact other h
def frzK {R : Type} : List XV → List (Nat × XOb) → (List XV → Option R) → Option R
 | [], _, K => K []
 | .os k t a len :: r, objs, K => match lk k objs with
  | some (.arr u l) => cond (u.eqb t) (cond (Nat.ble (a + len) l.length) (frzK r (dropX k objs) fun ys => K (.d (.sl u ((l.drop a).take len)) :: ys)) none) none
  | _ => none
 | x :: r, objs, K => frzK r objs fun ys => K (x :: ys)
theorem Qjz {R : Type} {y : R} : ∀ {xs : List XV} {objs : List (Nat × XOb)} {K : List XV → Option R}, frzK xs objs K = some y → ∃ ys o, frz xs objs = some (ys, o) ∧ K ys = some y
 | [], objs, K, h => ⟨[], objs, rfl, h⟩
 | x :: r, objs, K, h => by
  have other : (frzK r objs fun ys => K (x :: ys)) = some y → ∃ ys o, (match frz r objs with | some (ys, o) => some (x :: ys, o) | none => none) = some (ys, o) ∧ K ys = some y := by
   intro h
   obtain ⟨ys, o, h1, h2⟩ := Qjz h
   exact ⟨x :: ys, o, by rw [h1], h2⟩
  cases x with
  | os k t a len =>
   simp only [frzK] at h
   split at h
   ·rename_i u l hk
    cases h1 : u.eqb t with
    | false => simp [h1] at h
    | true =>
    cases h2 : Nat.ble (a + len) l.length with
    | false => simp [h1, h2] at h
    | true =>
     simp only [h1, h2, cond_true] at h
     obtain ⟨ys, o, h3, h4⟩ := Qjz h
     exact ⟨.d (.sl u ((l.drop a).take len)) :: ys, o, by simp only [frz, hk, h1, h2, h3, cond_true], h4⟩
   ·cases h
  | _ => exact other h
def Ql8 (P : Program) (fn : Func) (res : List Ty) (s : XSt) : Option (ResT res) :=
 match xres P s fn.results.toList with
 | some xs => frzK xs s.objs fun ys => Q9u res ys
 | none => none
def finish (P : Program) (fn : Func) (res : List Ty) : Exit → XSt → Option (ResT res)
 | .ret, s => Ql8 P fn res s
 | .normal, s => Ql8 P fn res s
 | _, _ => none
noncomputable def runB (P : Program) (Γ : List (Ent P)) (own : List Nat) (N : Nat) (fn : Func) (an : An) (res : List Ty) (xs : List XV) : Option (ResT res) :=
 match fn.body with
 | some c => cond (Nat.ble fn.ntmps GB) (exec P Γ own [] fn.ntmps N c an ⟨envX 0 xs, [], [], [], []⟩ (finish P fn res)) none
 | none => none
theorem Does.le {P : Program} {f : FuncId} {args : List AV} {X X' : Store} {res res' : AV} (h : Does P f args X res X') (hle : ALe res res') : Does P f args X res' X' := by
 intro g w vs hr hl ha
 exact (h g w vs hr hl ha).mono fun e w' ⟨g', v, h1, h2, h3⟩ => ⟨g', v, h1, hle g' w' v h2, h3⟩
theorem condG {α : Type} {n : Nat} {x : Option α} {y : α} (h : cond (Nat.ble n GB) x none = some y) : n ≤ GB ∧ x = some y := by
 cases hb : Nat.ble n GB with
 | false => simp [hb] at h
 | true => exact ⟨Nat.le_of_ble_eq_true hb, by simpa [hb] using h⟩
theorem Qoe {P : Program} {Γ : List (Ent P)} {own : List Nat} {N : Nat} {f : FuncId} {fn : Func} {an : An} {res : List Ty} {xs : List XV} {y : ResT res} (hm : P.follows .mixedOrders = true) (hf : P.funcs[f]? = some fn)
  (hn : Nat.ble xs.length fn.ntmps = true) (h : runB P Γ own N fn an res xs = some y) : Does P f (asOf xs) X0 (resXV res y).a X0 := by
 unfold runB at h
 split at h
 ·rename_i c hc
  obtain ⟨hG, h⟩ := condG h
  have hs := Qds (S := ⟨fn.ntmps, [], by simp⟩) hm rfl c an ⟨envX 0 xs, [], [], [], []⟩ ⟨envX 0 xs, [], [], [], []⟩ _ _ (.refl _) h
  have key : ∀ s', ∀ zs, xres P s' fn.results.toList = some zs → Q9u res zs = some y → True := fun _ _ _ _ => trivial
  -- the result asq it stands
  intro g w vs hr hl ha
  refine calls_of_wp hf hc (wp_mono (hs (Base.of g w X0) g w _ ?_) ?_)
  ·refine ⟨rfl, ?_, hr, ?_⟩
   ·have := Nat.le_of_ble_eq_true hn
    rw [Q8] at hl
    simp; omega
   ·intro t x hx
    have hx' : (envOf 0 (asOf xs)).lookup t = some x := by rw [← Ql3]; exact hx
    obtain ⟨_, hx'⟩ := Qbb hx'
    rw [Nat.sub_zero] at hx'
    have hlt : t < vs.size := by have := (List.getElem?_eq_some_iff.1 hx').1; omega
    refine ⟨vs[t], ?_, ha t x _ hx' (by simp [hlt])⟩
    have := Nat.le_of_ble_eq_true hn
    rw [Q8] at hl
    rw [Q8x (by omega)]
    simp [Array.getElem?_append, hlt]
  ·rintro e a' w' ⟨s, g', ⟨st', rfl, hi, hk⟩, hs'⟩
   have fin : Ql8 P fn res st' = some y →
     a'.defers = [] ∧ ∃ v, (results fn a'.tmps).run P w' = .ok v w' ∧ ∃ g' v_1, Ending.returned v = Ending.returned v_1 ∧ RA g' w' (resXV res y).a v_1 ∧ HR (X0.objs.map (·.1)) (Base.of g w X0) g' w' X0 := by
    intro h
    unfold Ql8 at h
    split at h
    ·rename_i zs h1
     obtain ⟨ys, o, h2, h⟩ := Qjz h
     ·obtain ⟨v, hv, hra⟩ := Qa1 (Qag h1) hs'
      obtain ⟨g1, hr1, ht1, has⟩ := Qto h2 g' hs'.hr
      have hs1 : SR ⟨fn.ntmps, [], by simp⟩ (Base.of g w X0) g1 w' ⟨[], ⟨Q0 o, st'.live⟩⟩ a' := ⟨hs'.defers, hs'.size, hr1, by simp⟩
      have hw : Weak [] ⟨[], ⟨Q0 o, st'.live⟩⟩ ⟨[], X0⟩ := ⟨by simp, by simp [X0], by simp [X0], by simp⟩
      obtain ⟨g'', ht, hs''⟩ := hs1.weaken' hw
      rw [← Q8k] at hra
      have hra' := (has.tupX hra).mono ht (.nil _)
      exact ⟨hs'.defers, v, hv, g'', v, rfl, Q11n h g'' w' v hra', hs''.hr⟩
    ·cases h
   cases e with
   | ret => exact fin hk
   | normal => exact fin hk
   | _ => simp [finish] at hk
 ·cases h
def Qmv {α : Type} : (ts : List Ty) → (List XV → α) → List XV → Fun ts α
 | [], f, acc => f acc
 | t :: r, f, acc => fun x => Qmv r f (acc ++ [.d (t.xv x)])
noncomputable def runF (P : Program) (Γ : List (Ent P)) (own : List Nat) (N : Nat) (fn : Func) (an : An) (args res : List Ty) : Fun args (Option (ResT res)) :=
 Qmv args (fun xs => runB P Γ own N fn an res xs) []
def Qg4 (P : Program) (f : FuncId) (res : List Ty) : (args : List Ty) → Fun args (Option (ResT res)) → List XV → Prop
 | [], F, acc => ∀ y, F = some y → Does P f (asOf acc) X0 (resXV res y).a X0
 | t :: r, F, acc => ∀ x : t.T, Qg4 P f res r (F x) (acc ++ [.d (t.xv x)])
theorem Qg2 {P : Program} {Γ : List (Ent P)} {own : List Nat} {N : Nat} {f : FuncId} {fn : Func} {an : An} {res : List Ty} (hm : P.follows .mixedOrders = true) (hf : P.funcs[f]? = some fn) :
  ∀ (args : List Ty) (acc : List XV), Nat.ble (acc.length + args.length) fn.ntmps = true → Qg4 P f res args (Qmv args (fun xs => runB P Γ own N fn an res xs) acc) acc
 | [], acc, hn => fun y hy => Qoe hm hf (by simpa using hn) hy
 | t :: r, acc, hn => fun x => Qg2 hm hf r (acc ++ [.d (t.xv x)]) (by
   have := Nat.le_of_ble_eq_true hn
   refine Nat.ble_eq_true_of_le ?_
   simp at this ⊢; omega)
theorem Qoi {P : Program} {Γ : List (Ent P)} {own : List Nat} {N : Nat} {f : FuncId} {fn : Func} {an : An} {args res : List Ty} (hm : P.follows .mixedOrders = true) (hf : P.funcs[f]? = some fn)
  (hn : Nat.ble args.length fn.ntmps = true) : Qg4 P f res args (runF P Γ own N fn an args res) [] :=
 Qg2 hm hf args [] (by simpa using hn)
def appK {β R : Type} : (ts : List Ty) → Fun ts (Option β) → List Operand → List XV → List (Operand × XV) → (Option β → List (Operand × XV) → Option R) → Option R
 | [], F, [], [], acc, K => K F acc
 | t :: r, F, x :: ops, v :: vs, acc, K => match decXV t v with
  | some y => appK r (F y) ops vs (acc ++ [(x, .d (t.xv y))]) K
  | none => none
 | _, _, _, _, _, _ => none
def Q1n (o : Oper) : List Operand :=
 match o.op with
 | .call c => c.args.toList
 | _ => []
def Qwq {R : Type} (args res : List Ty) (F : Fun args (Option (ResT res))) (o : Oper) (st : XSt) (vs : List XV) (K : Out → Option R) : Option R :=
 appK args F (Q1n o) vs [] fun Fv rd => Option.bind Fv fun y => K (Q7 st (resXV res y) rd)
theorem Qq6 : ∀ (ts : List Ty) (y : ResT ts), Qp (asOf (resL ts y)) = true
 | [], _ => rfl
 | [t], y => rfl
 | t :: u :: r, y => by simp only [resL, asOf, Qp, Qq6 (u :: r) y.2]; rfl
theorem Qof (ts : List Ty) (y : ResT ts) : Q3i (resXV ts y).a = true := by
 unfold resXV
 rw [Q8k]
 have := Qq6 ts y
 cases h : asOf (resL ts y) with
 | nil => rfl
 | cons x r =>
  rw [h] at this
  cases r with
  | nil => simp only [Qem]; simp only [Qp, Bool.and_true] at this; exact this
  | cons z s => simp only [Qem, Q3i]; exact this
theorem Q80 {st : XSt} {x : Operand} {ops : List Operand} {v : XV} {vs : List XV} (h : Qm st (x :: ops) = some (v :: vs)) : xeval st x = some v ∧ Qm st ops = some vs := by
 simp only [Qm] at h
 split at h
 ·rename_i a l ha hl; cases h; exact ⟨ha, hl⟩
 ·cases h
theorem Qdn {st : XSt} {x : Operand} {v : XV} {t : Ty} {y : t.T} (h : xeval st x = some v) (hd : decXV t v = some y) : Sees st.im x (.d (t.dv y)) := by
 cases v with
 | d u => exact Qpf h (t.decv_spec hd)
 | tip n u l ty => exact Qgq (a := .sl u l) (by simp [xd, h, XV.asD]) (t.decv_spec hd)
 | _ => simp [decXV] at hd
theorem Qvw {P : Program} {R : Type} {f : FuncId} {res : List Ty} {st : XSt} {K : Option (ResT res) → List (Operand × XV) → Option R} {r : R} : ∀ (ts : List Ty) (F : Fun ts (Option (ResT res))) (ops : List Operand) (vs : List XV) (acc : List (Operand × XV)) (aops : List Operand) (axs : List XV),
  Qg4 P f res ts F axs → Qm st ops = some vs → acc = aops.zip axs → aops.length = axs.length → (∀ p ∈ imRd acc, Sees st.im p.1 p.2) → Qp (asOf axs) = true → appK ts F ops vs acc K = some r →
  ∃ (Fv : Option (ResT res)) (xs : List XV), xs.length = (aops ++ ops).length ∧ (∀ y, Fv = some y → Does P f (asOf xs) X0 (resXV res y).a X0) ∧ Qp (asOf xs) = true ∧
   (∀ p ∈ imRd ((aops ++ ops).zip xs), Sees st.im p.1 p.2) ∧ K Fv ((aops ++ ops).zip xs) = some r
 | [], F, ops, vs, acc, aops, axs, hs, hv, hacc, hlen, hsee, hda, h => by
  cases ops with
  | nil =>
   cases vs with
   | nil =>
    subst hacc
    exact ⟨F, axs, by simp [hlen], hs, hda, by simpa using hsee, by rw [List.append_nil]; exact h⟩
   | cons _ _ => simp [appK] at h
  | cons _ _ => simp [appK] at h
 | t :: ts, F, ops, vs, acc, aops, axs, hs, hv, hacc, hlen, hsee, hda, h => by
  cases ops with
  | nil => simp [appK] at h
  | cons x ops =>
   cases vs with
   | nil => simp [appK] at h
   | cons v vs =>
    simp only [appK] at h
    obtain ⟨hx, hvs⟩ := Q80 hv
    split at h
    ·rename_i y hy
     have := Qvw ts (F y) ops vs _ (aops ++ [x]) (axs ++ [.d (t.xv y)]) (hs y) hvs (by rw [hacc, List.zip_append hlen]; rfl) (by simp [hlen]) (by
      intro p hp
      rw [Q2d] at hp
      rcases List.mem_append.1 hp with hp | hp
      ·exact hsee p hp
      ·simp only [imRd, List.map_cons, List.map_nil, List.mem_singleton] at hp
       subst hp
       exact Qdn hx hy) (by
      have : ∀ l : List AV, Qp l = true → Qp (l ++ [.d (t.dv y)]) = true := by
       intro l
       induction l with
       | nil => intro _; rfl
       | cons a r ih => intro h; simp only [Qp, Bool.and_eq_true, List.cons_append] at h ⊢; exact ⟨h.1, ih h.2⟩
      rw [Q5f]; exact this _ hda) h
     simpa using this
    ·cases h
def mkEnt {P : Program} (id : FuncId) (args res : List Ty) (F : Fun args (Option (ResT res))) (hc : CallI P id) (hs : Qg4 P id res args F []) : Ent P where
 id := id
 run := Qwq args res F
 ok := by
  intro R o st aops ts vs K r ho hv h
  unfold Qwq at h
  have e : Q1n o = aops.toList := by simp [Q1n, ho]
  rw [e] at h
  obtain ⟨Fv, xs, h1, h2, h3, h4, h5⟩ := Qvw (st := st) args F aops.toList vs [] [] [] hs hv rfl rfl (by simp [imRd]) rfl h
  obtain ⟨y, hy, hK⟩ := Option.bind_eq_some_iff.1 h5
  simp only [List.nil_append] at h1 h4 hK
  refine ⟨_, hK, Q3 h4 fun X => ?_⟩
  have := Qpb (X := X) (xs := asOf xs) ho hc (h2 y hy) (by rw [Q8, h1]; simp) h3 (Qof res y)
  rw [Q6q]
  exact this
def mkFn {P : Program} {Γ : List (Ent P)} {own : List Nat} {N : Nat} (id : FuncId) (fn : Func) (an : An) (args res : List Ty) (F : Fun args (Option (ResT res))) (hm : P.follows .mixedOrders = true) (hf : P.funcs[id]? = some fn)
  (hc : CallI P id) (hn : Nat.ble args.length fn.ntmps = true) (hE : runF P Γ own N fn an args res = F) : Ent P :=
 mkEnt id args res F hc (hE ▸ Qoi hm hf hn)
end Go.Xl
