/-
  Calls by contract; slices made of parts; the nil slice that will be appended to.
-/
import Derived.Test.YtdpimcakpfepjaaAbAppend
set_option linter.unusedVariables false
set_option linter.unusedSimpArgs false
namespace Go.Ab

/-- A function that may be called: it is there, it has a body. -/
structure CallI (P : Program) (f : FuncId) : Prop where
  is : ∃ fn, P.funcs[f]? = some fn ∧ fn.body.isSome = true ∧ (fn.name == "runtime.NumGoroutine") = false

theorem run_callFunc {P : Program} {f : FuncId} (h : CallI P f) (args : Array Value) (w : World) : (callFunc f args).run P w = .ok (.enter f args) w := by
  obtain ⟨fn, hf, hb, hn⟩ := h.is
  have hn' : ¬ (fn.name = "runtime.NumGoroutine") := by simpa using hn
  have hb' : ¬ (fn.body = none) := by intro he; rw [he] at hb; cases hb
  simp [callFunc, hf, hn', hb']

section
variable {P : Program} {o : Oper} {X : Store}

theorem rds_args {g : Gh} {w : World} {a : Act} {args : Array Operand} {xs : List AV} (hrd : ∀ p ∈ args.toList.zip xs, RA g w p.2 (a.eval p.1)) :
    ∀ (i : Nat) x v, xs[i]? = some x → (args.map a.eval)[i]? = some v → RA g w x v := by
  intro i x v hx hv
  rw [Array.getElem?_map, Option.map_eq_some_iff] at hv
  obtain ⟨op, hop, rfl⟩ := hv
  exact hrd (op, x) (List.mem_of_getElem? (i := i) (by rw [List.getElem?_zip_eq_some]; exact ⟨by simpa using hop, hx⟩))

/-- what a call by contract needs of the ghost: nothing of the caller's is touched -/
theorem HR.pureCall {nm : List Nat} {B : Base} {g gc : Gh} {w w' : World} (h : HR nm B g w X) (h0 : HR [] (Base.of { g with β := fun _ => none } w X0) gc w' X0) :
    HR nm B { gc with β := g.β, ρ := g.ρ } w' X ∧ Trans [] g w { gc with β := g.β, ρ := g.ρ } w' := by
  have hna : ∀ b, ¬ (Base.of { g with β := fun _ => none } w X0).allowed b := by
    intro b hb
    rcases hb with ⟨k, o, hk, _⟩ | ⟨n, hn⟩
    · simp [X0] at hk
    · cases hn
  have hf : ∀ b, b < w.heap.size → w'.heap[b]? = w.heap[b]? ∧ gc.γ b = g.γ b := fun b hb => h0.frame b hb (hna b)
  have hs : w.heap.size ≤ w'.heap.size := h0.base
  have hle : LeD g.γ w gc.γ w' := h0.le
  have ht : Trans [] g w { gc with β := g.β, ρ := g.ρ } w' := ⟨hle, fun _ _ => rfl, fun n ob _ he => ⟨he, fun b hb => ⟨(hf b (h.tiplt n b (hb ▸ he))).2, (hf b (h.tiplt n b (hb ▸ he))).1⟩⟩⟩
  refine ⟨⟨h.keep, h0.sane, Nat.le_trans h.base hs, ⟨h0.io.1.trans h.io.1, h0.io.2.1.trans h.io.2.1, h0.io.2.2.trans h.io.2.2⟩, h.le.trans hle, ?_, ?_, ?_, h.objinj, h.objnew, h.live, h.tipinj, h.tipobj, h.tipnew, ?_⟩, ht⟩
  · intro b hb hnb
    have h1 := h.frame b hb hnb
    have h2 := hf b (Nat.lt_of_lt_of_le hb h.base)
    exact ⟨h2.1.trans h1.1, h2.2.trans h1.2⟩
  · intro k o hk
    have := h.objs k o hk
    exact this.keep ht (hf _ (obRel_lt this)).1 (.inl rfl)
  · intro k o hk
    have := h.objs k o hk
    simp only [(hf _ (obRel_lt this)).2]
    exact h.objγ k o hk
  · intro n b hn; exact Nat.lt_of_lt_of_le (h.tiplt n b hn) hs

mutual
/-- data alone: no name in it -/
def isData : AV → Bool
  | .d _ => true
  | .ptr _ _ => false
  | .tip _ _ _ => false
  | .tup l => areData l
  | .agg l => areData l
  | .clo _ l => areData l
def areData : List AV → Bool
  | [] => true
  | x :: r => isData x && areData r
end

theorem areData_get {l : List AV} (h : areData l = true) {i : Nat} {x : AV} (hx : l[i]? = some x) : isData x = true := by
  induction l generalizing i with
  | nil => simp at hx
  | cons y r ih =>
    simp only [areData, Bool.and_eq_true] at h
    cases i with
    | zero => simp at hx; subst hx; exact h.1
    | succ i => exact ih h.2 (by simpa using hx)

theorem RA.data {g g' : Gh} {w w' : World} {x : AV} {v : Value} (h : RA g w x v) (hd : isData x = true) (hle : LeD g.γ w g'.γ w') : RA g' w' x v := by
  induction h with
  | d x v h => exact .d x v (h.mono hle)
  | ptr => simp [isData] at hd
  | tip => simp [isData] at hd
  | tup l vs hl _ ih => exact .tup l vs hl fun i x v h1 h2 => ih i x v h1 h2 (areData_get (by simpa [isData] using hd) h1)
  | agg l vs hl _ ih => exact .agg l vs hl fun i x v h1 h2 => ih i x v h1 h2 (areData_get (by simpa [isData] using hd) h1)
  | clo f l vs hl _ ih => exact .clo f l vs hl fun i x v h1 h2 => ih i x v h1 h2 (areData_get (by simpa [isData] using hd) h1)

/-- A contract of data alone, used at any state. -/
theorem Does.use {f : FuncId} {xs : List AV} {res : AV} (hs : Does P f xs X0 res X0) (hd : areData xs = true) (hdr : isData res = true) {nm : List Nat} {B : Base} {g : Gh} {w : World}
    (hr : HR nm B g w X) {vs : Array Value} (hl : xs.length = vs.size) (hvs : ∀ (i : Nat) x v, xs[i]? = some x → vs[i]? = some v → RA g w x v) :
    Calls P f vs w fun e w' => ∃ v g', e = .returned v ∧ HR nm B g' w' X ∧ Trans [] g w g' w' ∧ RA g' w' res v := by
  have h0 : HR (X0.objs.map (·.1)) (Base.of { g with β := fun _ => none } w X0) { g with β := fun _ => none } w X0 :=
    ⟨by simp [X0], hr.sane, Nat.le_refl _, ⟨rfl, rfl, rfl⟩, .refl _ _, fun b _ _ => ⟨rfl, rfl⟩, by simp [X0], by simp [X0], by simp [X0], by simp [X0], by simp [X0], by simp, by simp, by simp, by simp⟩
  have := hs { g with β := fun _ => none } w vs h0 hl fun i x v hx hv => (hvs i x v hx hv).data (areData_get hd hx) (.refl _ _)
  refine this.mono ?_
  rintro e w' ⟨gc, v, rfl, hra, h1⟩
  obtain ⟨h2, h3⟩ := hr.pureCall (gc := gc) h1
  exact ⟨v, _, rfl, h2, h3, hra.data hdr (.refl _ _)⟩

/-- A call of a function whose contract speaks of data alone. -/
theorem op_call {f : FuncId} {args : Array Operand} {ts : Array TypeId} {xs : List AV} {res : AV} (ho : o.op = .call { callee := .value (.func f), args := args, argTypes := ts }) (hf : CallI P f)
    (hs : Does P f xs X0 res X0) (hl : xs.length = args.size) (hd : areData xs = true) (hdr : isData res = true) : OpT P o (args.toList.zip xs) X X [] res := by
  intro nm B g w a hr hrd next Q hn
  unfold Oper.wp
  have : (execOp a.eval o).run P w = .ok (.enter f (args.map a.eval)) w := by
    simp only [execOp, ho, resolve]
    simp [Act.eval, Deferred.ofValue, invoke, run_callFunc hf]
  rw [this]
  refine (hs.use hd hdr hr (by simpa using hl) (rds_args hrd)).mono ?_
  rintro e w' ⟨v, g', rfl, h1, h2, h3⟩
  exact hn g' w' v h1 h2 h3

/-- A call of a function value. -/
theorem op_call_clo {f : FuncId} {c : Operand} {args : Array Operand} {ts : Array TypeId} {xs caps : List AV} {res : AV} (ho : o.op = .call { callee := .value c, args := args, argTypes := ts })
    (hf : CallI P f) (hs : Does P f (xs ++ caps) X0 res X0) (hl : xs.length = args.size) (hd : areData (xs ++ caps) = true) (hdr : isData res = true) :
    OpT P o ((c, .clo f caps) :: args.toList.zip xs) X X [] res := by
  intro nm B g w a hr hrd next Q hn
  have e1 := rd0 hrd
  simp only at e1
  unfold Oper.wp
  generalize hc : a.eval c = vc at e1
  cases e1 with
  | clo _ _ vs hlen hvs =>
    have : (execOp a.eval o).run P w = .ok (.enter f (args.map a.eval ++ vs)) w := by
      simp only [execOp, ho, resolve]
      simp [hc, Deferred.ofValue, invoke, run_callFunc hf]
    rw [this]
    refine (hs.use hd hdr hr (vs := args.map a.eval ++ vs) (by simp [hl, hlen]) ?_).mono ?_
    · intro i x v hx hv
      rw [List.getElem?_append] at hx
      split at hx
      · rename_i hlt
        rw [Array.getElem?_append_left (by simp; omega)] at hv
        exact rds_args (fun p hp => hrd p (List.mem_cons_of_mem _ hp)) i x v hx hv
      · rename_i hge
        rw [Array.getElem?_append_right (by simp; omega)] at hv
        refine hvs _ x v hx ?_
        rw [hl]; simpa using hv
    · rintro e w' ⟨v, g', rfl, h1, h2, h3⟩
      exact hn g' w' v h1 h2 h3

/-- var out []T: a slice that will be appended to. -/
theorem op_assign_nil {x : Operand} (m sz : Nat) (ho : o.op = .assign x) (hx : x = .const (.slice none 0 0)) (hm : m ∉ X.live) (hX : objsFree [m] X = true) :
    OpT P o [] X ⟨X.objs, m :: X.live⟩ [m] (.tip m sz []) := by
  intro nm B g w a hr _ next Q hn
  obtain ⟨h1, h2⟩ := hr.addTip hm none hX (by simp)
  unfold Oper.wp
  have : (execOp a.eval o).run P w = .ok (.value (.slice none 0 0)) w := by
    simp [execOp, ho, hx, Act.eval]
  rw [this]
  exact hn _ w _ h1 h2 (.tip m sz [] _ (.nil sz none 0 fun _ => rfl) trivial)

/-- a full slice may be appended to: a new row is made then -/
def sliceOf (sz : Nat) (parts : List (List D)) : AV := .d (.sl sz parts)

theorem fill_slice {g : Gh} {w : World} {sz : Nat} : ∀ (parts : List (Nat × Value)) (es : List (List D)) (k : Nat) (arr : Array Value),
    parts.length = es.length → (∀ (i : Nat) p, parts[i]? = some p → p.1 = k + i) → (∀ (i : Nat) p cs, parts[i]? = some p → es[i]? = some cs → cs.length = sz ∧ p.2.cells.size = sz ∧
      ∀ (j : Nat) c u, cs[j]? = some c → p.2.cells[j]? = some u → RD g.γ w c u) → (k + parts.length) * sz ≤ arr.size →
    ∃ arr', Instr.fill (fun i => some (i * sz, sz)) arr parts = some arr' ∧ arr'.size = arr.size ∧ (∀ j, j < k * sz → arr'[j]? = arr[j]?) ∧
      (∀ (i j : Nat) cs c u, es[i]? = some cs → cs[j]? = some c → arr'[(k + i) * sz + j]? = some u → RD g.γ w c u)
  | [], es, k, arr, hl, _, _, _ => by
    cases es with
    | nil => exact ⟨arr, rfl, rfl, fun _ _ => rfl, by simp⟩
    | cons _ _ => simp at hl
  | (i0, v) :: parts, es, k, arr, hl, hi, hp, hsz => by
    cases es with
    | nil => simp at hl
    | cons cs es =>
      have e0 : i0 = k := by simpa using hi 0 (i0, v) rfl
      subst e0
      obtain ⟨h1, h2, h3⟩ := hp 0 (i0, v) cs rfl rfl
      simp only at h2 h3
      simp only [List.length_cons] at hsz hl
      have hmul : (i0 + (parts.length + 1)) * sz = i0 * sz + (parts.length + 1) * sz := Nat.add_mul _ _ _
      have hmul2 : (parts.length + 1) * sz = parts.length * sz + sz := Nat.succ_mul _ _
      have hmul3 : (i0 + 1) * sz = i0 * sz + sz := Nat.succ_mul _ _
      simp only [Instr.fill]
      rw [if_neg (by simp; omega)]
      have hrw : (Array.foldl (fun cs (x : Value × Nat) => match x with | (c, j) => cs.setIfInBounds (i0 * sz + j) c) arr v.cells.zipIdx) = (v.cells.toList.zipIdx 0).foldl (fun cs p => cs.setIfInBounds (i0 * sz + p.2) p.1) arr := by
        rw [← Array.foldl_toList, Array.toList_zipIdx]
      rw [hrw]
      obtain ⟨arr', hf, hs', hk', hr'⟩ := fill_slice (g := g) (w := w) (sz := sz) parts es (i0 + 1) ((v.cells.toList.zipIdx 0).foldl (fun cs p => cs.setIfInBounds (i0 * sz + p.2) p.1) arr) (by omega)
        (fun i p hp' => by have := hi (i + 1) p (by simpa using hp'); omega) (fun i p cs' hp' hc' => hp (i + 1) p cs' (by simpa using hp') (by simpa using hc'))
        (by rw [foldl_set_size]; rw [Nat.add_mul, hmul3]; omega)
      refine ⟨arr', hf, by rw [hs', foldl_set_size], ?_, ?_⟩
      · intro j hj
        rw [hk' j (by omega), foldl_set _ _ _ _ _ (by simp; omega), if_neg (by omega)]
      · intro i j cs' c u hc hj hu
        cases i with
        | zero =>
          simp at hc; subst hc
          have hjlt : j < sz := by have := (List.getElem?_eq_some_iff.1 hj).1; omega
          rw [Nat.add_zero, hk' _ (by omega), foldl_set _ _ _ _ _ (by simp; omega)] at hu
          rw [if_pos (by simp; omega)] at hu
          refine h3 j c u hj ?_
          have : i0 * sz + j - (i0 * sz + 0) = j := by omega
          rw [this] at hu
          simpa using hu
        | succ i =>
          refine hr' i j cs' c u (by simpa using hc) hj ?_
          rw [← hu]
          have : i0 + 1 + i = i0 + (i + 1) := by omega
          rw [this]

/-- the cells of data that are put into a slice -/
def dcells : AV → Option (List D)
  | .d x => some x.cells
  | .tip _ sz es => some [.sl sz es]
  | _ => none

/-- []T{x, y, ..} -/
theorem op_buildSlice {t e : TypeId} {n sz : Nat} {parts : Array (Nat × Operand)} {xs : List D} {i : TypeInfo} {z : Value} (ho : o.op = .buildSlice t n parts) (ht : P.underlying t = some (.slice e))
    (hi : P.info? e = some i) (hz : i.zero = some z) (hsz : i.size = sz) (hx : xs.length = n) (hidx : parts.toList.map (·.1) = List.range n) (hok : (xs.all fun x => okSc (.d x) && x.cells.length == sz) = true)
    (hbig : n * sz ≤ 16777216) : OpT P o ((parts.toList.map (·.2)).zip (xs.map .d)) X X [] (.d (.sl sz (xs.map D.cells))) := by
  subst hsz
  intro nm B g w a hr hrd next Q hn
  have hpl : parts.toList.length = n := by rw [← List.length_map (f := (·.1)), hidx, List.length_range]
  unfold Oper.wp
  have hpart : ∀ (j : Nat) p x, parts.toList[j]? = some p → xs[j]? = some x → RA g w (.d x) (a.eval p.2) := by
    intro j p x hp hx'
    exact hrd (p.2, .d x) (List.mem_of_getElem? (i := j) (by
      rw [List.getElem?_zip_eq_some]
      exact ⟨by rw [List.getElem?_map, hp]; rfl, by rw [List.getElem?_map, hx']; rfl⟩))
  have hfacts : ∀ (j : Nat) x, xs[j]? = some x → okSc (.d x) = true ∧ x.cells.length = i.size := by
    intro j x hx'
    have := List.all_eq_true.1 hok x (List.mem_of_getElem? hx')
    simpa using this
  generalize harr0 : ((Array.range (n * i.size)).map fun x => (if n * i.size = 0 then #[] else z.cells)[x % (if n * i.size = 0 then #[] else z.cells).size]!) = arr0
  have harr0s : arr0.size = n * i.size := by subst harr0; simp
  obtain ⟨arr', hfill, hs', _, hc'⟩ := fill_slice (g := g) (w := w) (sz := i.size) (parts.toList.map fun p => (p.1, a.eval p.2)) (xs.map D.cells) 0 arr0 (by simp [hpl, hx]) (by
    intro j p hp
    rw [List.getElem?_map, Option.map_eq_some_iff] at hp
    obtain ⟨q, hq, rfl⟩ := hp
    have hj : j < n := by have := (List.getElem?_eq_some_iff.1 hq).1; omega
    have : (parts.toList.map (·.1))[j]? = some q.1 := by rw [List.getElem?_map, hq]; rfl
    rw [hidx, List.getElem?_range hj] at this
    simp at this; simp [this]) (by
    intro j p cs hp hcs
    rw [List.getElem?_map, Option.map_eq_some_iff] at hp hcs
    obtain ⟨q, hq, rfl⟩ := hp
    obtain ⟨x, hx', rfl⟩ := hcs
    obtain ⟨f1, f2⟩ := hfacts j x hx'
    obtain ⟨c1, c2⟩ := (hpart j q x hq hx').cells f1
    have hcl : (AV.d x).cells.length = x.cells.length := by simp [AV.cells]
    refine ⟨f2, by simp only; omega, ?_⟩
    intro k c u hk hu
    have := c2 k (.d c) u (by simp [AV.cells, hk]) hu
    cases this with
    | d _ _ h => exact h) (by simp [hpl, harr0s])
  have hrun : (execOp a.eval o).run P w = .ok (.value (.slice (some ⟨w.heap.size, 0, none⟩) n n)) (w.alloc (.cells arr' e)) := by
    simp only [execOp, ho, Instr.buildSlice]
    have h24 : ¬ (n * i.size > 2 ^ 24) := by omega
    by_cases h0 : n * i.size = 0
    · have e0 : arr0 = #[] := Array.eq_empty_of_size_eq_zero (by omega)
      subst e0
      have hfill' : Instr.fill (fun j => some (j * i.size, i.size)) #[] (parts.toList.map fun p => (p.1, a.eval p.2)) = some arr' := hfill
      have h24' : ¬ (0 > 2 ^ 24) := by omega
      simp only [Sem.run_bind, run_underlying ht, Result.andThen_ok, run_sizeOf hi, h0, if_true]
      simp [Array.range_zero', hfill', Go.newRow]
    · simp only [h0, if_false] at harr0
      have hfill' : Instr.fill (fun j => some (j * i.size, i.size)) arr0 (parts.toList.map fun p => (p.1, a.eval p.2)) = some arr' := hfill
      simp only [Sem.run_bind, run_underlying ht, Result.andThen_ok, run_sizeOf hi, h24, if_false, h0]
      simp [zeroValue, typeInfo, hi, hz, harr0, hfill', Go.newRow]
  rw [hrun]
  obtain ⟨h1, h2⟩ := hr.newRow arr' e (n * i.size) (by omega)
  refine hn _ _ _ h1 h2 (.d _ _ ?_)
  have hnewc : ∀ k, (w.alloc (.cells arr' e)).cell? ⟨w.heap.size, k, none⟩ = arr'[k]? := fun k => cell?_cells (heap_alloc_new w (.cells arr' e)) k
  refine .ofCells' (by simp [hx]) (by simp only [upd_same]; omega) (Nat.le_refl _) ?_ ?_
  · intro j cs hcs
    rw [List.getElem?_map, Option.map_eq_some_iff] at hcs
    obtain ⟨x, hx', rfl⟩ := hcs
    exact (hfacts j x hx').2
  · intro p q cs c u hp hq hu
    rw [Nat.zero_add, hnewc] at hu
    exact (hc' p q cs c u hp hq (by rw [Nat.zero_add]; exact hu)).mono h2.le

end
end Go.Ab
