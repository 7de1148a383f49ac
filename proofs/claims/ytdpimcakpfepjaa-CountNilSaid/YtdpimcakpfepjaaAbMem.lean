/-
  Operations that make or write memory: new objects, stores, struct values, slices that are made, append.
-/
import Derived.Test.YtdpimcakpfepjaaAbOps
import Derived.Laws.Rows
import Derived.Laws.AppendOwn
import Derived.Laws.NewBlocks
set_option linter.unusedVariables false
set_option linter.unusedSimpArgs false
namespace Go.Ab

def upd {α : Type} (f : Nat → α) (k : Nat) (x : α) : Nat → α := fun j => if j = k then x else f j
theorem upd_same {α : Type} (f : Nat → α) (k : Nat) (x : α) : upd f k x k = x := by simp [upd]
theorem upd_other {α : Type} (f : Nat → α) {k j : Nat} (x : α) (h : j ≠ k) : upd f k x j = f j := by simp [upd, h]

theorem heap_old (w : World) (o : Obj) {b : Nat} (h : b < w.heap.size) : (w.alloc o).heap[b]? = w.heap[b]? := heap_alloc_old w o b h

theorem γ_lt {nm : List Nat} {B : Base} {g : Gh} {w : World} {X : Store} (h : HR nm B g w X) {b : Nat} (hb : 0 < g.γ b) : b < w.heap.size := by
  obtain ⟨v, hv⟩ := Option.isSome_iff_exists.1 (h.sane b 0 hb)
  exact block_lt_of_cell hv

theorem γ_top {nm : List Nat} {B : Base} {g : Gh} {w : World} {X : Store} (h : HR nm B g w X) {b : Nat} (hb : w.heap.size ≤ b) : g.γ b = 0 := by
  rcases Nat.eq_zero_or_pos (g.γ b) with h0 | h0
  · exact h0
  · have := γ_lt h h0; omega

theorem obRel_lt {g : Gh} {w : World} {b : Nat} {o : Ob} (h : ObRel g w b o) : b < w.heap.size := by
  cases h with
  | cells cs arr T hb => exact (Array.getElem?_eq_some_iff.1 hb).1
  | map l es clock hb => exact (Array.getElem?_eq_some_iff.1 hb).1

def obFree (F : List Nat) : Ob → Bool
  | .cells cs => areFree F cs
  | .map _ => true

def objsFree (F : List Nat) (X : Store) : Bool := F.isEmpty || X.objs.all fun p => obFree F p.2

theorem ObRel.keep {F : List Nat} {g g' : Gh} {w w' : World} {b : Nat} {o : Ob} (h : ObRel g w b o) (ht : Trans F g w g' w') (hw : w'.heap[b]? = w.heap[b]?) (hF : F = [] ∨ obFree F o = true) : ObRel g' w' b o := by
  cases h with
  | cells cs arr T hb hl hc =>
    refine .cells cs arr T (hw.trans hb) hl fun i x v hx hv => (hc i x v hx hv).mono ht ?_
    rcases hF with rfl | hF
    · exact .nil x
    · exact free_of (areFree_get hF hx)
  | map l es clock hb hl hc h4 h5 =>
    exact .map l es clock (hw.trans hb) hl (fun i x e hx he => ⟨(hc i x e hx he).1, (hc i x e hx he).2.mono ht.le⟩) h4 h5

theorem objsFree_get {F : List Nat} {X : Store} (h : objsFree F X = true) {k : Nat} {o : Ob} (hk : X.objs.lookup k = some o) : F = [] ∨ obFree F o = true := by
  unfold objsFree at h
  rw [Bool.or_eq_true] at h
  rcases h with h | h
  · exact .inl (by simpa using h)
  · exact .inr (List.all_eq_true.1 h _ (lookup_mem hk))

/-- A world that only has more blocks, and whose old protected cells, objects and tips are as they were: what HR asks beyond that. -/
theorem HR.grow {nm : List Nat} {B : Base} {g : Gh} {w w' : World} {X : Store} (h : HR nm B g w X) (hs : w.heap.size ≤ w'.heap.size) (hold : ∀ b, b < w.heap.size → w'.heap[b]? = w.heap[b]?) (hio : w'.os = w.os ∧ w'.output = w.output ∧ w'.tape = w.tape) :
    HR nm B g w' X ∧ Trans [] g w g w' := by
  have hcell : ∀ b i, i < g.γ b → w'.cell? ⟨b, i, none⟩ = w.cell? ⟨b, i, none⟩ := fun b i hi => cell?_of_heap (hold b (γ_lt h (by omega))) i none
  have ht : Trans [] g w g w' := ⟨⟨fun _ => Nat.le_refl _, hcell⟩, fun _ _ => rfl, fun n ob _ he => ⟨he, fun b hb => ⟨rfl, hold b (h.tiplt n b (hb ▸ he))⟩⟩⟩
  refine ⟨⟨h.keep, ?_, Nat.le_trans h.base hs, ⟨hio.1.trans h.io.1, hio.2.1.trans h.io.2.1, hio.2.2.trans h.io.2.2⟩, h.le.trans ht.le, ?_, ?_, h.objγ, h.objinj, h.objnew, h.live, h.tipinj, h.tipobj, h.tipnew, ?_⟩, ht⟩
  · intro b i hi; rw [hcell b i hi]; exact h.sane b i hi
  · intro b hb hna
    have := h.frame b hb hna
    exact ⟨(hold b (Nat.lt_of_lt_of_le hb h.base)).trans this.1, this.2⟩
  · intro k o hk
    have := h.objs k o hk
    exact this.keep ht (hold _ (obRel_lt this)) (.inl rfl)
  · intro n b hn; exact Nat.lt_of_lt_of_le (h.tiplt n b hn) hs

theorem HR.drew {nm : List Nat} {B : Base} {g : Gh} {w : World} {X : Store} (h : HR nm B g w X) : HR nm B g w.drew X ∧ Trans [] g w g w.drew :=
  h.grow (Nat.le_refl _) (fun _ _ => rfl) ⟨rfl, rfl, rfl⟩

/-- A new object. -/
theorem HR.newObj {nm : List Nat} {B : Base} {g : Gh} {w : World} {X : Store} (h : HR nm B g w X) {k : Nat} (hk : X.objs.lookup k = none) (hX : objsFree [k] X = true)
    (ob : Obj) (o : Ob) (ho : ∀ g' w', Trans [k] g w g' w' → w'.heap[w.heap.size]? = some ob → ObRel g' w' w.heap.size o) :
    HR nm B { g with ρ := upd g.ρ k w.heap.size } (w.alloc ob) ⟨(k, o) :: X.objs, X.live⟩ ∧ Trans [k] g w { g with ρ := upd g.ρ k w.heap.size } (w.alloc ob) := by
  have h1 := h.grow (w' := w.alloc ob) (by simp) (fun b hb => heap_old w ob hb) ⟨rfl, rfl, rfl⟩
  have hcell := h1.2.le
  have ht : Trans [k] g w { g with ρ := upd g.ρ k w.heap.size } (w.alloc ob) :=
    ⟨hcell, fun j hj => upd_other _ _ (by simpa using hj), fun n ob' _ he => ⟨he, fun b hb => ⟨rfl, heap_old w ob (h.tiplt n b (hb ▸ he))⟩⟩⟩
  have hlk : ∀ j o', List.lookup j ((k, o) :: X.objs) = some o' → (j = k ∧ o' = o) ∨ (j ≠ k ∧ X.objs.lookup j = some o') := by
    intro j o' hj
    rw [List.lookup_cons] at hj
    by_cases he : j = k
    · subst he; simp at hj; exact .inl ⟨rfl, hj.symm⟩
    · have : (j == k) = false := by simpa using he
      rw [this] at hj
      exact .inr ⟨he, hj⟩
  have hlt : ∀ j o', X.objs.lookup j = some o' → g.ρ j < w.heap.size := fun j o' hj => obRel_lt (h.objs j o' hj)
  refine ⟨⟨?_, h1.1.sane, h1.1.base, h1.1.io, h1.1.le, h1.1.frame, ?_, ?_, ?_, ?_, h.live, h.tipinj, ?_, h.tipnew, h1.1.tiplt⟩, ht⟩
  · intro j hj
    obtain ⟨h2, h3⟩ := h.keep j hj
    have hne : j ≠ k := by rintro rfl; rw [hk] at h3; simp at h3
    refine ⟨by simp only [upd_other _ _ hne]; exact h2, ?_⟩
    simp only [List.lookup_cons]
    have : (j == k) = false := by simpa using hne
    rw [this]; exact h3
  · intro j o' hj
    rcases hlk j o' hj with ⟨rfl, rfl⟩ | ⟨hne, hj⟩
    · simp only [upd_same]
      exact ho _ _ ht (heap_alloc_new w ob)
    · simp only [upd_other _ _ hne]
      exact (h.objs j o' hj).keep ht (heap_old w ob (hlt j o' hj)) (objsFree_get hX hj)
  · intro j o' hj
    rcases hlk j o' hj with ⟨rfl, rfl⟩ | ⟨hne, hj⟩
    · simp only [upd_same]; exact γ_top h (Nat.le_refl _)
    · simp only [upd_other _ _ hne]; exact h.objγ j o' hj
  · intro j j' o1 o2 hj hj' he
    have c1 := hlk j o1 hj
    have c2 := hlk j' o2 hj'
    clear hj hj'
    rcases c1 with ⟨e1, _⟩ | ⟨hne, hj⟩ <;> rcases c2 with ⟨e2, _⟩ | ⟨hne', hj'⟩
    · rw [e1, e2]
    · rw [e1] at he
      simp only [upd_same, upd_other _ _ hne'] at he
      have := hlt j' o2 hj'; omega
    · rw [e2] at he
      simp only [upd_same, upd_other _ _ hne] at he
      have := hlt j o1 hj; omega
    · simp only [upd_other _ _ hne, upd_other _ _ hne'] at he
      exact h.objinj j j' o1 o2 hj hj' he
  · intro j o' hj
    rcases hlk j o' hj with ⟨rfl, rfl⟩ | ⟨hne, hj⟩
    · simp only [upd_same]; exact .inl h.base
    · simp only [upd_other _ _ hne]; exact h.objnew j o' hj
  · intro n b j o' hn hj
    rcases hlk j o' hj with ⟨rfl, rfl⟩ | ⟨hne, hj⟩
    · simp only [upd_same]; have := h.tiplt n b hn; omega
    · simp only [upd_other _ _ hne]; exact h.tipobj n b j o' hn hj

/-- A new row of cells, protected. -/
theorem HR.newRow {nm : List Nat} {B : Base} {g : Gh} {w : World} {X : Store} (h : HR nm B g w X) (arr : Array Value) (T : TypeId) (n : Nat) (hn : n ≤ arr.size) :
    HR nm B { g with γ := upd g.γ w.heap.size n } (w.alloc (.cells arr T)) X ∧ Trans [] g w { g with γ := upd g.γ w.heap.size n } (w.alloc (.cells arr T)) := by
  have h1 := h.grow (w' := w.alloc (.cells arr T)) (by simp) (fun b hb => heap_old w _ hb) ⟨rfl, rfl, rfl⟩
  have hup : ∀ b, g.γ b ≤ upd g.γ w.heap.size n b := by
    intro b
    by_cases hb : b = w.heap.size
    · subst hb; rw [upd_same, γ_top h (Nat.le_refl _)]; omega
    · rw [upd_other _ _ hb]; exact Nat.le_refl _
  have hne : ∀ b, b < w.heap.size → upd g.γ w.heap.size n b = g.γ b := fun b hb => upd_other _ _ (by omega)
  have ht : Trans [] g w { g with γ := upd g.γ w.heap.size n } (w.alloc (.cells arr T)) :=
    ⟨⟨hup, h1.2.le.cell⟩, fun _ _ => rfl, fun m ob _ he => ⟨he, fun b hb => ⟨hne b (h.tiplt m b (hb ▸ he)), heap_old w _ (h.tiplt m b (hb ▸ he))⟩⟩⟩
  refine ⟨⟨h.keep, ?_, h1.1.base, h1.1.io, ⟨fun b => Nat.le_trans (h1.1.le.up b) (hup b), h1.1.le.cell⟩, ?_, ?_, ?_, h.objinj, h.objnew, h.live, h.tipinj, h.tipobj, h.tipnew, h1.1.tiplt⟩, ht⟩
  · intro b i hi
    by_cases hb : b = w.heap.size
    · subst hb
      simp only [upd_same] at hi
      rw [cell?_cells (heap_alloc_new w (.cells arr T))]
      simp; omega
    · simp only [upd_other _ _ hb] at hi
      exact h1.1.sane b i hi
  · intro b hb hna
    have := h1.1.frame b hb hna
    exact ⟨this.1, by rw [← this.2]; exact hne b (Nat.lt_of_lt_of_le hb h.base)⟩
  · intro k o hk
    have := h.objs k o hk
    exact this.keep ht (heap_old w _ (obRel_lt this)) (.inl rfl)
  · intro k o hk
    simp only [hne _ (obRel_lt (h.objs k o hk))]
    exact h.objγ k o hk

/-- a scalar that is no aggregate -/
def okSc : AV → Bool
  | .d (.sc (.agg _)) => false
  | _ => true

theorem cells_of_notAgg {v : Value} (h : ∀ cs, v ≠ .agg cs) : v.cells = #[v] := by
  cases v <;> first | rfl | exact absurd rfl (h _)

section
variable {P : Program} {o : Oper} {X : Store}

/-- A new variable behind a pointer, with its zero value. z: its cells as data. -/
theorem op_alloc {t : TypeId} {i : TypeInfo} {z : Value} {cs : List AV} (k : Nat) (ho : o.op = .alloc t) (hi : P.info? t = some i) (hz : i.zero = some z)
    (hcs : ∀ g w, RA g w (.agg cs) (.agg z.cells)) (hk : X.objs.lookup k = none) (hX : objsFree [k] X = true) :
    OpT P o [] X ⟨(k, .cells cs) :: X.objs, X.live⟩ [k] (.ptr k 0) := by
  intro nm B g w a hr _ next Q hn
  obtain ⟨h1, h2⟩ := hr.newObj hk hX (.cells z.cells t) (.cells cs) (by
    intro g' w' _ hw
    have := hcs g' w'
    cases this with
    | agg _ _ hl hc => exact .cells cs z.cells t hw hl hc)
  unfold Oper.wp
  have : (execOp a.eval o).run P w = .ok (.value (.pointer (some ⟨w.heap.size, 0, none⟩))) (w.alloc (.cells z.cells t)) := by
    simp only [execOp, ho]
    simp [Instr.alloc, zeroValue, typeInfo, hi, hz, newVar, Go.newRow]
  rw [this]
  refine hn _ _ _ h1 h2 ?_
  have := RA.ptr (g := { g with ρ := upd g.ρ k w.heap.size }) (w := w.alloc (.cells z.cells t)) k 0
  simpa [upd_same] using this

/-- A new variable behind a pointer, with a value. -/
theorem op_box {t : TypeId} {x : Operand} {v : AV} (k : Nat) (ho : o.op = .box t x) (hk : X.objs.lookup k = none) (hX : objsFree [k] X = true) (hv : areFree [k] v.cells = true) (hs : okSc v = true) :
    OpT P o [(x, v)] X ⟨(k, .cells v.cells) :: X.objs, X.live⟩ [k] (.ptr k 0) := by
  intro nm B g w a hr hrd next Q hn
  have e1 := rd0 hrd
  simp only at e1
  obtain ⟨h1, h2⟩ := hr.newObj hk hX (.cells (a.eval x).cells t) (.cells v.cells) (by
    intro g' w' ht hw
    generalize a.eval x = u at e1 hw
    have hfin : ∀ (cs : List AV) (vs : Array Value), v.cells = cs → u.cells = vs → cs.length = vs.size → (∀ (i : Nat) x v, cs[i]? = some x → vs[i]? = some v → RA g w x v) →
        ObRel g' w' w.heap.size (.cells v.cells) := by
      intro cs vs h1 h2 hl hc
      rw [h1] at hv ⊢
      rw [h2] at hw
      exact .cells cs vs t hw hl fun i x y hx hy => (hc i x y hx hy).mono ht (free_of (areFree_get hv hx))
    have hone : v.cells = [v] → u.cells = #[u] → ObRel g' w' w.heap.size (.cells v.cells) := by
      intro h1 h2
      refine hfin _ _ h1 h2 rfl ?_
      intro i x y hx hy
      cases i with
      | zero => simp at hx hy; subst hx; subst hy; exact e1
      | succ i => simp at hx
    cases e1 with
    | d y u h =>
      cases h with
      | agg cs vs hl hc =>
        refine hfin (cs.map .d) vs rfl rfl (by simpa using hl) ?_
        intro i x y hx hy
        rw [List.getElem?_map, Option.map_eq_some_iff] at hx
        obtain ⟨c, hc', rfl⟩ := hx
        exact .d _ _ (hc i c y hc' hy)
      | sc u =>
        exact hone rfl (cells_of_notAgg fun cs he => by subst he; simp [okSc] at hs)
      | nil sz => exact hone rfl rfl
      | sl sz es b off len cap => exact hone rfl rfl
      | ep cs b off => exact hone rfl rfl
    | ptr k off => exact hone rfl rfl
    | tip n sz es u h h' =>
      cases h with
      | nil => exact hone rfl rfl
      | sl => exact hone rfl rfl
    | tup l vs hl hc => exact hone rfl rfl
    | agg l vs hl hc => exact hfin l vs rfl rfl hl hc
    | clo f l vs hl hc => exact hone rfl rfl)
  unfold Oper.wp
  have : (execOp a.eval o).run P w = .ok (.value (.pointer (some ⟨w.heap.size, 0, none⟩))) (w.alloc (.cells (a.eval x).cells t)) := by
    simp only [execOp, ho]
    simp [Instr.box, newVar, Go.newRow]
  rw [this]
  refine hn _ _ _ h1 h2 ?_
  have := RA.ptr (g := { g with ρ := upd g.ρ k w.heap.size }) (w := w.alloc (.cells (a.eval x).cells t)) k 0
  simpa [upd_same] using this
end
end Go.Ab
