/-
  The operations, one lemma each: what an operation does to data.
-/
import Derived.Test.YtdpimcakpfepjaaAbSpec
set_option linter.unusedVariables false
set_option linter.unusedSimpArgs false
namespace Go.Ab

section
variable {P : Program} {o : Oper} {X : Store}

theorem rd0 {R : Operand × AV → Prop} {x : Operand × AV} {r : List (Operand × AV)} (h : ∀ p ∈ x :: r, R p) : R x := h _ List.mem_cons_self
theorem rd1 {R : Operand × AV → Prop} {x y : Operand × AV} {r : List (Operand × AV)} (h : ∀ p ∈ x :: y :: r, R p) : R y := h _ (List.mem_cons_of_mem _ List.mem_cons_self)
theorem rd2 {R : Operand × AV → Prop} {x y z : Operand × AV} {r : List (Operand × AV)} (h : ∀ p ∈ x :: y :: z :: r, R p) : R z := h _ (List.mem_cons_of_mem _ (List.mem_cons_of_mem _ List.mem_cons_self))

theorem OpT.quiet {rd : List (Operand × AV)} {res : AV}
    (h : ∀ (nm : List Nat) (B : Base) (g : Gh) (w : World) (a : Act), HR nm B g w X → (∀ p ∈ rd, RA g w p.2 (a.eval p.1)) →
      ∃ v, (execOp a.eval o).run P w = .ok (.value v) w ∧ RA g w res v) : OpT P o rd X X [] res := by
  intro nm B g w a hr hrd next Q hn
  obtain ⟨v, hv, hra⟩ := h nm B g w a hr hrd
  unfold Oper.wp
  rw [hv]
  exact hn g w v hr (.refl _ _ _) hra

theorem RA.sc_inv {g : Gh} {w : World} {u v : Value} (h : RA g w (.d (.sc u)) v) : v = u := by
  cases h with
  | d _ _ h => cases h; rfl

theorem RA.ofSc (g : Gh) (w : World) (v : Value) : RA g w (.d (.sc v)) v := .d _ _ (.sc v)

theorem op_move {x : Operand} {v : AV} (ho : o.op = .move x) : OpT P o [(x, v)] X X [] v :=
  .quiet fun _ _ _ w a _ hrd => ⟨a.eval x, by simp [execOp, ho], rd0 hrd⟩

theorem op_assign {x : Operand} {v : AV} (ho : o.op = .assign x) : OpT P o [(x, v)] X X [] v :=
  .quiet fun _ _ _ w a _ hrd => ⟨a.eval x, by simp [execOp, ho], rd0 hrd⟩

theorem op_pick {c x y : Operand} {b : Bool} {u v : AV} (ho : o.op = .pick c x y) : OpT P o [(c, .d (.sc (.bool b))), (x, u), (y, v)] X X [] (if b then u else v) :=
  .quiet fun _ _ g w a _ hrd => by
    have h1 := (rd0 hrd).sc_inv
    have h2 := rd1 hrd
    have h3 := rd2 hrd
    simp only at h1 h2 h3
    refine ⟨if b then a.eval x else a.eval y, by simp [execOp, ho, h1, asBool], ?_⟩
    cases b
    · exact h3
    · exact h2

/-- a choice that is decided: only what is chosen is looked at -/
theorem op_pick_true {c x y : Operand} {u : AV} (ho : o.op = .pick c x y) : OpT P o [(c, .d (.sc (.bool true))), (x, u)] X X [] u :=
  .quiet fun _ _ g w a _ hrd => by
    have h1 := (rd0 hrd).sc_inv
    have h2 := rd1 hrd
    exact ⟨a.eval x, by simp [execOp, ho, h1, asBool], h2⟩

theorem op_pick_false {c x y : Operand} {v : AV} (ho : o.op = .pick c x y) : OpT P o [(c, .d (.sc (.bool false))), (y, v)] X X [] v :=
  .quiet fun _ _ g w a _ hrd => by
    have h1 := (rd0 hrd).sc_inv
    have h3 := rd1 hrd
    exact ⟨a.eval y, by simp [execOp, ho, h1, asBool], h3⟩

/-- two integers of one kind -/
def binRes : BinOp → IntKind → Int → Int → Option Value
  | .add, k, a, b => some (.int k (k.wrap (a + b)))
  | .sub, k, a, b => some (.int k (k.wrap (a - b)))
  | .mul, k, a, b => some (.int k (k.wrap (a * b)))
  | .eql, _, a, b => some (.bool (a == b))
  | .neq, _, a, b => some (.bool (a != b))
  | .lss, _, a, b => some (.bool (decide (a < b)))
  | .leq, _, a, b => some (.bool (decide (a ≤ b)))
  | .gtr, _, a, b => some (.bool (decide (b < a)))
  | .geq, _, a, b => some (.bool (decide (b ≤ a)))
  | .and, k, a, b => some (.int k (bits .and k a b))
  | .or, k, a, b => some (.int k (bits .or k a b))
  | .xor, k, a, b => some (.int k (bits .xor k a b))
  | _, _, _, _ => none

theorem binRes_run {op : BinOp} {k : IntKind} {a b : Int} {v : Value} (h : binRes op k a b = some v) (t : TypeId) (x y : Operand) (w : World) :
    (do eqGuard op t x y (.int k a) (.int k b); binOp op t (.int k a) (.int k b) : Sem Value).run P w = .ok v w := by
  have hg : eqGuard op t x y (.int k a) (.int k b) = pure () := by cases op <;> rfl
  rw [hg]
  cases op <;> simp [binRes] at h <;> subst h <;> simp [binOp, Op.intArith, Op.intCmp, intBits_and, intBits_or, intBits_xor]

theorem op_bin {op : BinOp} {t t' : TypeId} {x y : Operand} {k : IntKind} {a b : Int} {v : Value} (ho : o.op = .binOp op t x y t') (h : binRes op k a b = some v) :
    OpT P o [(x, .d (.sc (.int k a))), (y, .d (.sc (.int k b)))] X X [] (.d (.sc v)) :=
  .quiet fun _ _ g w ac _ hrd => by
    have h1 := (rd0 hrd).sc_inv
    have h2 := (rd1 hrd).sc_inv
    simp only at h1 h2
    refine ⟨v, ?_, .ofSc _ _ _⟩
    have := binRes_run (P := P) h t x y w
    simp only [execOp, ho, h1, h2]
    rw [Sem.run_bind, this]
    rfl

/-- the same with the outcome as one wants it spelled -/
theorem op_bin_eq {op : BinOp} {t t' : TypeId} {x y : Operand} {k : IntKind} {a b : Int} {v : Value} (h : binRes op k a b = some v) (ho : o.op = .binOp op t x y t') :
    OpT P o [(x, .d (.sc (.int k a))), (y, .d (.sc (.int k b)))] X X [] (.d (.sc v)) := op_bin ho h

def strRes : BinOp → ByteArray → ByteArray → Option Value
  | .eql, a, b => some (.bool (a.toList == b.toList))
  | .neq, a, b => some (.bool !(a.toList == b.toList))
  | .lss, a, b => some (.bool (Op.bytesLess a.toList b.toList))
  | _, _, _ => none

theorem op_str {op : BinOp} {t t' : TypeId} {x y : Operand} {a b : ByteArray} {v : Value} (ho : o.op = .binOp op t x y t') (h : strRes op a b = some v) :
    OpT P o [(x, .d (.sc (.string a))), (y, .d (.sc (.string b)))] X X [] (.d (.sc v)) :=
  .quiet fun _ _ g w ac _ hrd => by
    have h1 := (rd0 hrd).sc_inv
    have h2 := (rd1 hrd).sc_inv
    simp only at h1 h2
    refine ⟨v, ?_, .ofSc _ _ _⟩
    have hg : eqGuard op t x y (.string a) (.string b) = pure () := by cases op <;> rfl
    simp only [execOp, ho, h1, h2, hg]
    cases op <;> simp [strRes] at h <;> subst h <;> simp [binOp, Op.stringOp]

theorem op_str_add {t t' : TypeId} {x y : Operand} {a b : ByteArray} (ho : o.op = .binOp .add t x y t') (h : a.size + b.size ≤ 4611686018427387904) :
    OpT P o [(x, .d (.sc (.string a))), (y, .d (.sc (.string b)))] X X [] (.d (.sc (.string (a ++ b)))) :=
  .quiet fun _ _ g w ac _ hrd => by
    have h1 := (rd0 hrd).sc_inv
    have h2 := (rd1 hrd).sc_inv
    simp only at h1 h2
    refine ⟨_, ?_, .ofSc _ _ _⟩
    have hg : eqGuard .add t x y (.string a) (.string b) = pure () := rfl
    have hb : ¬ (((a.size + b.size : Nat) : Int) > IntKind.i64.max) := by rw [IntKind.max_i64]; omega
    simp only [execOp, ho, h1, h2, hg]
    simp only [binOp, Op.stringOp]
    rw [if_neg hb]
    rfl

theorem op_bool_eql {t t' : TypeId} {x y : Operand} {a b : Bool} (ho : o.op = .binOp .eql t x y t') (ht : P.underlying t = some .bool) :
    OpT P o [(x, .d (.sc (.bool a))), (y, .d (.sc (.bool b)))] X X [] (.d (.sc (.bool (a == b)))) :=
  .quiet fun _ _ g w ac _ hrd => by
    have h1 := (rd0 hrd).sc_inv
    have h2 := (rd1 hrd).sc_inv
    simp only at h1 h2
    refine ⟨_, ?_, .ofSc _ _ _⟩
    have hg : eqGuard .eql t x y (.bool a) (.bool b) = pure () := rfl
    simp only [execOp, ho, h1, h2, hg]
    simp [run_eql_bool w t a b ht]

theorem op_bool_neq {t t' : TypeId} {x y : Operand} {a b : Bool} (ho : o.op = .binOp .neq t x y t') (ht : P.underlying t = some .bool) :
    OpT P o [(x, .d (.sc (.bool a))), (y, .d (.sc (.bool b)))] X X [] (.d (.sc (.bool (!(a == b))))) :=
  .quiet fun _ _ g w ac _ hrd => by
    have h1 := (rd0 hrd).sc_inv
    have h2 := (rd1 hrd).sc_inv
    simp only at h1 h2
    refine ⟨_, ?_, .ofSc _ _ _⟩
    have hg : eqGuard .neq t x y (.bool a) (.bool b) = pure () := rfl
    simp only [execOp, ho, h1, h2, hg]
    simp [run_neq_bool w t a b ht]

theorem op_not {t : TypeId} {x : Operand} {b : Bool} (ho : o.op = .unOp .not t x) : OpT P o [(x, .d (.sc (.bool b)))] X X [] (.d (.sc (.bool (!b)))) :=
  .quiet fun _ _ g w ac _ hrd => by
    have h1 := (rd0 hrd).sc_inv
    simp only at h1
    exact ⟨.bool (!b), by simp [execOp, ho, h1, Op.unary], .ofSc _ _ _⟩

theorem op_conv_int {s d : TypeId} {x : Operand} {j k : IntKind} {n : Int} (ho : o.op = .convert s d x) (hs : (P.underlying s).isSome = true) (hd : P.underlying d = some (.int k)) :
    OpT P o [(x, .d (.sc (.int j n)))] X X [] (.d (.sc (.int k (k.wrap n)))) :=
  .quiet fun _ _ g w ac _ hrd => by
    have h1 := (rd0 hrd).sc_inv
    simp only at h1
    refine ⟨_, ?_, .ofSc _ _ _⟩
    obtain ⟨ds, hds⟩ := Option.isSome_iff_exists.1 hs
    simp only [execOp, ho, h1, convert]
    simp only [Sem.run_bind, run_underlying hds, run_underlying hd, Result.andThen_ok]
    cases ds <;> simp [Conv.intToInt]

theorem op_len_slice {ts : Array TypeId} {t : TypeId} {x : Operand} {sz : Nat} {es : List (List D)} {e : TypeId} (ho : o.op = .call { callee := .builtin .len, args := #[x], argTypes := ts })
    (h0 : ts[0]? = some t) (ht : P.underlying t = some (.slice e)) : OpT P o [(x, .d (.sl sz es))] X X [] (.d (.sc (.int .i64 es.length))) :=
  .quiet fun _ _ g w ac _ hrd => by
    have h1 := rd0 hrd
    simp only at h1
    refine ⟨.int .i64 es.length, ?_, .ofSc _ _ _⟩
    simp only [execOp, ho, resolve]
    generalize hu : ac.eval x = u at h1
    cases h1 with
    | d _ _ h1 =>
      cases h1 with
      | nil => simp [hu, invoke, builtin, Builtin.len_, h0, run_underlying ht, goInt]
      | sl _ _ b off len cap hl => subst hl; simp [hu, invoke, builtin, Builtin.len_, h0, run_underlying ht, goInt]

theorem op_len_tip {ts : Array TypeId} {t : TypeId} {x : Operand} {n sz : Nat} {es : List (List D)} {e : TypeId} (ho : o.op = .call { callee := .builtin .len, args := #[x], argTypes := ts })
    (h0 : ts[0]? = some t) (ht : P.underlying t = some (.slice e)) : OpT P o [(x, .tip n sz es)] X X [] (.d (.sc (.int .i64 es.length))) := by
  intro nm B g w a hr hrd
  refine op_len_slice (sz := sz) (es := es) ho h0 ht nm B g w a hr ?_
  intro p hp
  simp only [List.mem_singleton] at hp
  subst hp
  have := rd0 hrd
  simp only at this ⊢
  generalize a.eval x = u at this
  cases this with
  | tip _ _ _ _ h _ => exact .d _ _ h

theorem op_len_str {ts : Array TypeId} {t : TypeId} {x : Operand} {s : ByteArray} (ho : o.op = .call { callee := .builtin .len, args := #[x], argTypes := ts })
    (h0 : ts[0]? = some t) (ht : P.underlying t = some .string) : OpT P o [(x, .d (.sc (.string s)))] X X [] (.d (.sc (.int .i64 s.size))) :=
  .quiet fun _ _ g w ac _ hrd => by
    have h1 := (rd0 hrd).sc_inv
    simp only at h1
    refine ⟨.int .i64 s.size, ?_, .ofSc _ _ _⟩
    simp only [execOp, ho, resolve]
    simp [h1, invoke, builtin, Builtin.len_, h0, run_underlying ht, goInt]

theorem op_min {ts : Array TypeId} {x y : Operand} {k : IntKind} {a b : Int} (ho : o.op = .call { callee := .builtin .min, args := #[x, y], argTypes := ts }) :
    OpT P o [(x, .d (.sc (.int k a))), (y, .d (.sc (.int k b)))] X X [] (.d (.sc (.int k (if b < a then b else a)))) :=
  .quiet fun _ _ g w ac _ hrd => by
    have h1 := (rd0 hrd).sc_inv
    have h2 := (rd1 hrd).sc_inv
    simp only at h1 h2
    refine ⟨_, ?_, .ofSc _ _ _⟩
    simp only [execOp, ho, resolve]
    simp [h1, h2, invoke, builtin, Builtin.min_, Builtin.min2]

theorem op_max {ts : Array TypeId} {x y : Operand} {k : IntKind} {a b : Int} (ho : o.op = .call { callee := .builtin .max, args := #[x, y], argTypes := ts }) :
    OpT P o [(x, .d (.sc (.int k a))), (y, .d (.sc (.int k b)))] X X [] (.d (.sc (.int k (if b > a then b else a)))) :=
  .quiet fun _ _ g w ac _ hrd => by
    have h1 := (rd0 hrd).sc_inv
    have h2 := (rd1 hrd).sc_inv
    simp only at h1 h2
    refine ⟨_, ?_, .ofSc _ _ _⟩
    simp only [execOp, ho, resolve]
    have := run_max_int2 (P := P) w ts o.type k k a b
    simp [h1, h2, invoke, builtin, this]

theorem op_extract {x : Operand} {i : Nat} {l : List AV} {v : AV} (ho : o.op = .extract x i) (h : l[i]? = some v) : OpT P o [(x, .tup l)] X X [] v :=
  .quiet fun _ _ g w ac _ hrd => by
    have h1 := rd0 hrd
    simp only at h1
    simp only [execOp, ho]
    generalize ac.eval x = u at h1
    cases h1 with
    | tup _ vs hl hx =>
      have hlt : i < vs.size := by have := (List.getElem?_eq_some_iff.1 h).1; omega
      refine ⟨vs[i], ?_, hx i v _ h (by simp [hlt])⟩
      simp [Instr.extract, hlt]

theorem op_index_str {t : TypeId} {x y : Operand} {s : ByteArray} {k : IntKind} {i : Int} (ho : o.op = .index t x y) (ht : P.underlying t = some .string) (h0 : 0 ≤ i) (h1 : i < s.size) :
    OpT P o [(x, .d (.sc (.string s))), (y, .d (.sc (.int k i)))] X X [] (.d (.sc (.int .u8 ((s.data.toList.getD i.toNat 0).toNat : Int)))) :=
  .quiet fun _ _ g w ac _ hrd => by
    have e1 := (rd0 hrd).sc_inv
    have e2 := (rd1 hrd).sc_inv
    simp only at e1 e2
    refine ⟨_, ?_, .ofSc _ _ _⟩
    have hlt : i.toNat < s.size := by omega
    have hb := ByteArray.getElem?_lt' s i.toNat hlt
    have he : s[i.toNat] = s.data.toList.getD i.toNat 0 := by
      have hlt' : i.toNat < s.data.size := hlt
      rw [List.getD_eq_getElem?_getD, Array.getElem?_toList, Array.getElem?_eq_getElem hlt']
      rfl
    simp only [execOp, ho, e1, e2, Instr.index]
    simp [asIntOf, run_underlying ht, h0, hb, he]

/-- s[lo:hi] of a string -/
theorem op_slice_str {t : TypeId} {x lo hi : Operand} {s : ByteArray} {k k' : IntKind} {l h : Int} (ho : o.op = .slice t x (some lo) (some hi) none) (ht : P.underlying t = some .string)
    (h0 : 0 ≤ l) (h1 : l ≤ h) (h2 : h ≤ s.size) :
    OpT P o [(x, .d (.sc (.string s))), (lo, .d (.sc (.int k l))), (hi, .d (.sc (.int k' h)))] X X [] (.d (.sc (.string (s.extract l.toNat h.toNat)))) :=
  .quiet fun _ _ g w ac _ hrd => by
    have e1 := (rd0 hrd).sc_inv
    have e2 := (rd1 hrd).sc_inv
    have e3 := (rd2 hrd).sc_inv
    simp only at e1 e2 e3
    refine ⟨_, ?_, .ofSc _ _ _⟩
    have g1 : 0 ≤ h := by omega
    simp only [execOp, ho, Option.map_some, Option.map_none, e1, e2, e3]
    simp [run_sliceAt_string w t _ _ _ _ ht, Instr.slice, run_underlying ht, Instr.sliceBounds, Instr.sliceBound, asIntOf, h0, h2, g1]
    intro hbad
    omega

theorem op_slice_str_lo {t : TypeId} {x lo : Operand} {s : ByteArray} {k : IntKind} {l : Int} (ho : o.op = .slice t x (some lo) none none) (ht : P.underlying t = some .string)
    (h0 : 0 ≤ l) (h1 : l ≤ s.size) :
    OpT P o [(x, .d (.sc (.string s))), (lo, .d (.sc (.int k l)))] X X [] (.d (.sc (.string (s.extract l.toNat s.size)))) :=
  .quiet fun _ _ g w ac _ hrd => by
    have e1 := (rd0 hrd).sc_inv
    have e2 := (rd1 hrd).sc_inv
    simp only at e1 e2
    refine ⟨_, ?_, .ofSc _ _ _⟩
    simp only [execOp, ho, Option.map_some, Option.map_none, e1, e2]
    simp [run_sliceAt_string w t _ _ _ _ ht, Instr.slice, run_underlying ht, Instr.sliceBounds, Instr.sliceBound, asIntOf, h0, h1]

theorem op_slice_str_hi {t : TypeId} {x hi : Operand} {s : ByteArray} {k : IntKind} {h : Int} (ho : o.op = .slice t x none (some hi) none) (ht : P.underlying t = some .string)
    (h0 : 0 ≤ h) (h1 : h ≤ s.size) :
    OpT P o [(x, .d (.sc (.string s))), (hi, .d (.sc (.int k h)))] X X [] (.d (.sc (.string (s.extract 0 h.toNat)))) :=
  .quiet fun _ _ g w ac _ hrd => by
    have e1 := (rd0 hrd).sc_inv
    have e2 := (rd1 hrd).sc_inv
    simp only at e1 e2
    refine ⟨_, ?_, .ofSc _ _ _⟩
    simp only [execOp, ho, Option.map_some, Option.map_none, e1, e2]
    simp [run_sliceAt_string w t _ _ _ _ ht, Instr.slice, run_underlying ht, Instr.sliceBounds, Instr.sliceBound, asIntOf, h0, h1]

/-- &l[i] -/
theorem op_indexAddr {t e : TypeId} {x y : Operand} {sz : Nat} {es : List (List D)} {cs : List D} {k : IntKind} {i : Int} {info : TypeInfo} (ho : o.op = .indexAddr t x y)
    (ht : P.underlying t = some (.slice e)) (hi : P.info? e = some info) (hsz : info.size = sz) (h0 : 0 ≤ i) (h1 : es[i.toNat]? = some cs) :
    OpT P o [(x, .d (.sl sz es)), (y, .d (.sc (.int k i)))] X X [] (.d (.ep cs)) :=
  .quiet fun _ _ g w ac _ hrd => by
    have e1 := rd0 hrd
    have e2 := (rd1 hrd).sc_inv
    simp only at e1 e2
    simp only [execOp, ho, e2]
    generalize ac.eval x = u at e1
    cases e1 with
    | d _ _ e1 =>
      have hlt := (List.getElem?_eq_some_iff.1 h1).1
      cases e1 with
      | nil => simp at hlt
      | sl _ _ b off len cap hl hγ hcap hs hc =>
        subst hl
        have hil : i < es.length := by omega
        refine ⟨.pointer (some ⟨b, off + i.toNat * sz, none⟩), ?_, .d _ _ (.ep cs b _ ?_ ?_)⟩
        · simp [Instr.indexAt, asIntOf, run_underlying ht, h0, hil, sizeOf, typeInfo, hi, hsz, addr_add]
        · rw [hs _ _ h1]
          have : (i.toNat + 1) * sz ≤ es.length * sz := Nat.mul_le_mul_right sz hlt
          rw [Nat.succ_mul] at this
          omega
        · intro j c v hj hv
          exact hc i.toNat cs j c v h1 hj (by rw [Nat.add_assoc] at hv ⊢; exact hv)

theorem op_indexAddr_tip {t e : TypeId} {x y : Operand} {n sz : Nat} {es : List (List D)} {cs : List D} {k : IntKind} {i : Int} {info : TypeInfo} (ho : o.op = .indexAddr t x y)
    (ht : P.underlying t = some (.slice e)) (hi : P.info? e = some info) (hsz : info.size = sz) (h0 : 0 ≤ i) (h1 : es[i.toNat]? = some cs) :
    OpT P o [(x, .tip n sz es), (y, .d (.sc (.int k i)))] X X [] (.d (.ep cs)) := by
  intro nm B g w a hr hrd
  refine op_indexAddr (k := k) ho ht hi hsz h0 h1 nm B g w a hr ?_
  have e1 := rd0 hrd
  have e2 := rd1 hrd
  simp only at e1 e2
  intro p hp
  simp only [List.mem_cons, List.not_mem_nil, or_false] at hp
  rcases hp with rfl | rfl
  · generalize a.eval x = u at e1 ⊢
    cases e1 with
    | tip _ _ _ _ h _ => exact .d _ _ h
  · exact e2

/-- a load of a whole struct through a pointer to an element -/
theorem op_load_agg {t : TypeId} {x : Operand} {sz : Nat} {cs : List D} (ho : o.op = .load t x) (ht : TyI P t true sz) (hl : sz ≤ cs.length) (hsane : True) :
    OpT P o [(x, .d (.ep cs))] X X [] (.d (.agg (cs.take sz))) :=
  .quiet fun _ _ g w ac hr hrd => by
    have e1 := rd0 hrd
    simp only at e1
    simp only [execOp, ho]
    generalize ac.eval x = u at e1
    cases e1 with
    | d _ _ e1 =>
      cases e1 with
      | ep _ b off hγ hc =>
        have hex : ∀ i, i < sz → ∃ v, w.cell? ⟨b, off + i, none⟩ = some v := fun i hi => Option.isSome_iff_exists.1 (hr.sane b (off + i) (by omega))
        let vs : Array Value := (Array.range sz).map fun i => (w.cell? ⟨b, off + i, none⟩).getD undef
        have hvs : ∀ (i : Nat) v, vs[i]? = some v → w.cell? ⟨b, off + i, none⟩ = some v := by
          intro i v hv
          have hi : i < sz := by have := (Array.getElem?_eq_some_iff.1 hv).1; simpa [vs] using this
          obtain ⟨u, hu⟩ := hex i hi
          simp [vs, hi, hu] at hv
          rw [hu, hv]
        have hrun := run_loadVar_cells ht w b off vs (by simp [vs]) hvs (by simp)
        refine ⟨.agg vs, ?_, .d _ _ (.agg _ vs (by simp [vs]; omega) ?_)⟩
        · simp only [Instr.loadAt, Instr.sureAddr]
          simp [hrun]
        · intro i c v hi hv
          rw [List.getElem?_take] at hi
          split at hi
          · exact hc i c v hi (hvs i v hv)
          · cases hi

/-- a load of one cell through a pointer to an element -/
theorem op_load_one {t : TypeId} {x : Operand} {c : D} {cs : List D} (ho : o.op = .load t x) (ht : TyI P t false 1) :
    OpT P o [(x, .d (.ep (c :: cs)))] X X [] (.d c) :=
  .quiet fun _ _ g w ac hr hrd => by
    have e1 := rd0 hrd
    simp only at e1
    simp only [execOp, ho]
    generalize ac.eval x = u at e1
    cases e1 with
    | d _ _ e1 =>
      cases e1 with
      | ep _ b off hγ hc =>
        simp at hγ
        obtain ⟨v, hv⟩ := Option.isSome_iff_exists.1 (hr.sane b off (by omega))
        have hrun := run_loadVar_cells ht w b off #[v] rfl (by
          intro i u hu
          cases i with
          | zero => simp at hu; subst hu; exact hv
          | succ i => simp at hu) (fun _ => rfl)
        refine ⟨v, ?_, .d _ _ (hc 0 c v rfl hv)⟩
        simp only [Instr.loadAt, Instr.sureAddr]
        simp [hrun]

/-- a load out of an object -/
theorem op_load_obj {t : TypeId} {x : Operand} {k off : Nat} {v : AV} (ho : o.op = .load t x) (hl : Loads P X t k off v) : OpT P o [(x, .ptr k off)] X X [] v :=
  .quiet fun _ _ g w ac hr hrd => by
    have e1 := rd0 hrd
    simp only at e1
    obtain ⟨u, hu, hra⟩ := hl.run hr
    refine ⟨u, ?_, hra⟩
    simp only [execOp, ho]
    generalize ac.eval x = z at e1
    cases e1
    simp only [Instr.loadAt, Instr.sureAddr]
    simp [hu]

theorem fieldPlace_run {f : Field} {i : TypeInfo} (hi : P.info? f.type = some i) (h0 : i.size ≠ 0) (b off : Nat) (w : World) :
    (fieldPlace ⟨b, off, none⟩ f).run P w = .ok ⟨b, off + f.offset, none⟩ w := by
  simp [fieldPlace, run_sizeOf hi, h0, addr_add]

/-- what one must know of a field -/
structure FieldI (P : Program) (s : TypeId) (n off sz : Nat) (agg : Bool) : Prop where
  fld : ∃ fs f, P.underlying s = some (.struct fs) ∧ fs[n]? = some f ∧ f.offset = off ∧ TyI P f.type agg sz
  pos : sz ≠ 0

theorem op_fieldAddr_obj {s : TypeId} {x : Operand} {n fo sz : Nat} {agg : Bool} {k off : Nat} (ho : o.op = .fieldAddr s x n) (hf : FieldI P s n fo sz agg) :
    OpT P o [(x, .ptr k off)] X X [] (.ptr k (off + fo)) :=
  .quiet fun _ _ g w ac hr hrd => by
    have e1 := rd0 hrd
    simp only at e1
    obtain ⟨fs, f, hs, hn, rfl, ht⟩ := hf.fld
    obtain ⟨i, hi, hsz⟩ := ht.info
    refine ⟨.pointer (some ⟨g.ρ k, off + f.offset, none⟩), ?_, .ptr k _⟩
    simp only [execOp, ho]
    generalize ac.eval x = z at e1
    cases e1
    simp [Instr.fieldAt, run_underlying hs, hn, Instr.sureAddr, fieldPlace_run hi (by rw [hsz]; exact hf.pos)]

theorem op_fieldAddr_ep {s : TypeId} {x : Operand} {n fo sz : Nat} {agg : Bool} {cs : List D} (ho : o.op = .fieldAddr s x n) (hf : FieldI P s n fo sz agg) (hl : fo ≤ cs.length) :
    OpT P o [(x, .d (.ep cs))] X X [] (.d (.ep (cs.drop fo))) :=
  .quiet fun _ _ g w ac hr hrd => by
    have e1 := rd0 hrd
    simp only at e1
    obtain ⟨fs, f, hs, hn, rfl, ht⟩ := hf.fld
    obtain ⟨i, hi, hsz⟩ := ht.info
    simp only [execOp, ho]
    generalize ac.eval x = z at e1
    cases e1 with
    | d _ _ e1 =>
      cases e1 with
      | ep _ b off hγ hc =>
        refine ⟨.pointer (some ⟨b, off + f.offset, none⟩), ?_, .d _ _ (.ep _ b _ ?_ ?_)⟩
        · simp [Instr.fieldAt, run_underlying hs, hn, Instr.sureAddr, fieldPlace_run hi (by rw [hsz]; exact hf.pos)]
        · simp; omega
        · intro j c v hj hv
          rw [List.getElem?_drop] at hj
          exact hc _ c v hj (by rw [← Nat.add_assoc]; exact hv)

/-- x.f of a value -/
theorem op_field_one {s : TypeId} {x : Operand} {n fo : Nat} {cs : List D} {c : D} (ho : o.op = .field s x n) (hf : FieldI P s n fo 1 false) (hc : cs[fo]? = some c) :
    OpT P o [(x, .d (.agg cs))] X X [] (.d c) :=
  .quiet fun _ _ g w ac hr hrd => by
    have e1 := rd0 hrd
    simp only at e1
    obtain ⟨fs, f, hs, hn, rfl, ht⟩ := hf.fld
    simp only [execOp, ho]
    generalize ac.eval x = z at e1
    cases e1 with
    | d _ _ e1 =>
      cases e1 with
      | agg _ vs hl h =>
        have hlt : f.offset < vs.size := by have := (List.getElem?_eq_some_iff.1 hc).1; omega
        refine ⟨vs[f.offset], ?_, .d _ _ (h _ c _ hc (by simp [hlt]))⟩
        simp [Instr.field, run_underlying hs, hn, part, run_isAgg ht, asAgg, hlt]

theorem op_field_agg {s : TypeId} {x : Operand} {n fo sz : Nat} {cs : List D} (ho : o.op = .field s x n) (hf : FieldI P s n fo sz true) (hl : fo + sz ≤ cs.length) :
    OpT P o [(x, .d (.agg cs))] X X [] (.d (.agg ((cs.drop fo).take sz))) :=
  .quiet fun _ _ g w ac hr hrd => by
    have e1 := rd0 hrd
    simp only at e1
    obtain ⟨fs, f, hs, hn, rfl, ht⟩ := hf.fld
    simp only [execOp, ho]
    generalize ac.eval x = z at e1
    cases e1 with
    | d _ _ e1 =>
      cases e1 with
      | agg _ vs hlen h =>
        refine ⟨.agg (vs.extract f.offset (f.offset + sz)), ?_, .d _ _ (.agg _ _ (by simp; omega) ?_)⟩
        · simp [Instr.field, run_underlying hs, hn, part, run_isAgg ht, asAgg, ht.run_size]
        · intro i c v hi hv
          rw [Array.getElem?_extract] at hv
          split at hv
          · rw [List.getElem?_take] at hi
            split at hi
            · rw [List.getElem?_drop] at hi
              exact h _ c v hi hv
            · cases hi
          · cases hv

theorem op_nilCheck_obj {x : Operand} {k off : Nat} (ho : o.op = .nilCheck x) : OpT P o [(x, .ptr k off)] X X [] (.ptr k off) :=
  .quiet fun _ _ g w ac hr hrd => by
    have e1 := rd0 hrd
    simp only at e1
    simp only [execOp, ho]
    generalize ac.eval x = z at e1
    cases e1
    exact ⟨_, rfl, .ptr k off⟩

end
end Go.Ab
