/-
  Stores into objects; struct values; slices that are made of parts.
-/
import Derived.Test.YtdpimcakpfepjaaAbMem
set_option linter.unusedVariables false
set_option linter.unusedSimpArgs false
namespace Go.Ab

def setObj (k : Nat) (o : Ob) : List (Nat × Ob) → List (Nat × Ob)
  | [] => [(k, o)]
  | (j, p) :: r => if j = k then (k, o) :: r else (j, p) :: setObj k o r

theorem lookup_setObj (k : Nat) (o : Ob) (l : List (Nat × Ob)) (j : Nat) : (setObj k o l).lookup j = if j = k then some o else l.lookup j := by
  induction l with
  | nil =>
    simp only [setObj, List.lookup_cons, List.lookup_nil]
    by_cases h : j = k
    · simp [h]
    · have : (j == k) = false := by simpa using h
      simp [h, this]
  | cons p r ih =>
    obtain ⟨i, p⟩ := p
    simp only [setObj]
    by_cases hik : i = k
    · subst hik
      simp only [if_true, List.lookup_cons]
      by_cases h : j = i
      · simp [h]
      · have : (j == i) = false := by simpa using h
        simp [h, this]
    · simp only [hik, if_false, List.lookup_cons]
      by_cases h : j = i
      · subst h; simp [hik]
      · have : (j == i) = false := by simpa using h
        simp only [this]
        exact ih

/-- An object that is written. -/
theorem HR.write {nm : List Nat} {B : Base} {g : Gh} {w w' : World} {X : Store} (h : HR nm B g w X) {k : Nat} {o o' : Ob} (hk : X.objs.lookup k = some o)
    (hs : w'.heap.size = w.heap.size) (hio : w'.os = w.os ∧ w'.output = w.output ∧ w'.tape = w.tape) (hother : ∀ b, b ≠ g.ρ k → w'.heap[b]? = w.heap[b]?) (hnew : ∀ (_ : Trans [] g w g w'), ObRel g w' (g.ρ k) o') :
    HR nm B g w' ⟨setObj k o' X.objs, X.live⟩ ∧ Trans [] g w g w' := by
  have h0 := h.objγ k o hk
  have hγ0 : B.γ0 (g.ρ k) = 0 := by have := h.le.up (g.ρ k); omega
  have hcell : ∀ b i, i < g.γ b → w'.cell? ⟨b, i, none⟩ = w.cell? ⟨b, i, none⟩ := by
    intro b i hi
    refine cell?_of_heap (hother b ?_) i none
    rintro rfl; omega
  have ht : Trans [] g w g w' := ⟨⟨fun _ => Nat.le_refl _, hcell⟩, fun _ _ => rfl, fun n ob _ he => ⟨he, fun b hb => ⟨rfl, hother b (h.tipobj n b k o (hb ▸ he) hk)⟩⟩⟩
  have hlk : ∀ j p, (setObj k o' X.objs).lookup j = some p → (j = k ∧ p = o') ∨ (j ≠ k ∧ X.objs.lookup j = some p) := by
    intro j p hj
    rw [lookup_setObj] at hj
    split at hj
    · rename_i he; simp at hj; exact .inl ⟨he, hj.symm⟩
    · rename_i he; exact .inr ⟨he, hj⟩
  have hsome : ∀ j p, (setObj k o' X.objs).lookup j = some p → ∃ q, X.objs.lookup j = some q := by
    intro j p hj
    rcases hlk j p hj with ⟨rfl, _⟩ | ⟨_, hj⟩
    · exact ⟨o, hk⟩
    · exact ⟨p, hj⟩
  refine ⟨⟨?_, ?_, by rw [hs]; exact h.base, ⟨hio.1.trans h.io.1, hio.2.1.trans h.io.2.1, hio.2.2.trans h.io.2.2⟩, ⟨h.le.up, ?_⟩, ?_, ?_, ?_, ?_, ?_, h.live, h.tipinj, ?_, h.tipnew, ?_⟩, ht⟩
  · intro j hj
    obtain ⟨h1, h2⟩ := h.keep j hj
    refine ⟨h1, ?_⟩
    simp only [lookup_setObj]
    split
    · rfl
    · exact h2
  · intro b i hi; rw [hcell b i hi]; exact h.sane b i hi
  · intro b i hi
    rw [hcell b i (Nat.lt_of_lt_of_le hi (h.le.up b))]
    exact h.le.cell b i hi
  · intro b hb hna
    have h1 := h.frame b hb hna
    refine ⟨(hother b ?_).trans h1.1, h1.2⟩
    rintro rfl
    rcases h.objnew k o hk with h2 | h2
    · omega
    · exact hna h2
  · intro j p hj
    rcases hlk j p hj with ⟨rfl, rfl⟩ | ⟨hne, hj⟩
    · exact hnew ht
    · refine (h.objs j p hj).keep ht (hother _ ?_) (.inl rfl)
      intro he; exact hne (h.objinj j k p o hj hk he)
  · intro j p hj; obtain ⟨q, hq⟩ := hsome j p hj; exact h.objγ j q hq
  · intro j j' p p' hj hj' he
    obtain ⟨q, hq⟩ := hsome j p hj
    obtain ⟨q', hq'⟩ := hsome j' p' hj'
    exact h.objinj j j' q q' hq hq' he
  · intro j p hj; obtain ⟨q, hq⟩ := hsome j p hj; exact h.objnew j q hq
  · intro n b j p hn hj; obtain ⟨q, hq⟩ := hsome j p hj; exact h.tipobj n b j q hn hq
  · intro n b hn; rw [hs]; exact h.tiplt n b hn

def oneC : AV → Bool
  | .d (.sc u) => u.oneCell'
  | .d (.agg _) => false
  | .tup _ => false
  | .agg _ => false
  | _ => true

theorem oneC_val {g : Gh} {w : World} {x : AV} {v : Value} (h : RA g w x v) (ho : oneC x = true) : v.oneCell' = true := by
  cases h with
  | d y v h =>
    cases h with
    | sc v => exact ho
    | agg => simp [oneC] at ho
    | nil => rfl
    | sl => rfl
    | ep => rfl
  | ptr => rfl
  | tip n sz es v h _ => cases h <;> rfl
  | tup => simp [oneC] at ho
  | agg => simp [oneC] at ho
  | clo => rfl

theorem run_storeCells {P : Program} {b off : Nat} {T : TypeId} : ∀ (vs : List Value) (i : Nat) (w : World) (arr : Array Value), w.heap[b]? = some (.cells arr T (0, 0)) →
    (∀ v ∈ vs, v.oneCell' = true) → off + i + vs.length ≤ arr.size →
    ∃ w' arr', (storeCells ⟨b, off, none⟩ vs i).run P w = .ok () w' ∧ w'.heap[b]? = some (.cells arr' T (0, 0)) ∧ arr'.size = arr.size ∧
      (∀ j, arr'[j]? = if off + i ≤ j ∧ j < off + i + vs.length then vs[j - (off + i)]? else arr[j]?) ∧ w'.heap.size = w.heap.size ∧ (∀ b', b' ≠ b → w'.heap[b']? = w.heap[b']?) ∧ (w'.os = w.os ∧ w'.output = w.output ∧ w'.tape = w.tape)
  | [], i, w, arr, hb, _, _ => ⟨w, arr, rfl, hb, rfl, fun j => by rw [if_neg (by simp only [List.length_nil]; omega)], rfl, fun _ _ => rfl, rfl, rfl, rfl⟩
  | v :: vs, i, w, arr, hb, h1, hl => by
    simp only [List.length_cons] at hl
    have hlt : off + i < arr.size := by omega
    have hv : v.oneCell' = true := h1 v List.mem_cons_self
    have hcell : w.cell? ⟨b, off + i, none⟩ = some arr[off + i] := by rw [cell?_cells hb]; simp [hlt]
    have hfr : w.frozen? ⟨b, off + i, none⟩ = false := frozen_of_row w b (off + i) arr T hb
    have hset : (w.setCell ⟨b, off + i, none⟩ v).heap[b]? = some (.cells (arr.setIfInBounds (off + i) v) T (0, 0)) := heap_setCell_same w b (off + i) arr T v hb
    have hst : (store (⟨b, off + i, none⟩ : Addr) v).run P w = .ok () (w.setCell ⟨b, off + i, none⟩ v) := by
      rw [run_store P w _ v _ hv, hcell, hfr]; rfl
    obtain ⟨w', arr', hr, hb', hs', hp', hz', ho', hi'⟩ := run_storeCells (P := P) (b := b) (off := off) (T := T) vs (i + 1) (w.setCell ⟨b, off + i, none⟩ v) _ hset
      (fun u hu => h1 u (List.mem_cons_of_mem _ hu)) (by simp; omega)
    refine ⟨w', arr', ?_, hb', by rw [hs']; simp, ?_, by rw [hz']; simp, fun b' hne => by rw [ho' b' hne]; exact heap_setCell_other w _ b' v hne, hi'⟩
    · simp only [storeCells]
      rw [addr_add, Sem.run_bind, hst, Result.andThen_ok]
      exact hr
    · intro j
      rw [hp' j]
      by_cases h1 : j = off + i
      · subst h1
        rw [if_neg (by omega), if_pos (by simp only [List.length_cons]; omega)]
        simp [hlt]
      · by_cases h2 : off + (i + 1) ≤ j ∧ j < off + (i + 1) + vs.length
        · rw [if_pos h2, if_pos (by simp only [List.length_cons]; omega)]
          rw [show j - (off + i) = (j - (off + (i + 1))) + 1 by omega]
          rfl
        · rw [if_neg h2, if_neg (by simp only [List.length_cons]; omega)]
          simp [Ne.symm h1]

/-- cells with some of them replaced -/
def splice (cs : List AV) (off : Nat) (vs : List AV) : List AV := cs.take off ++ vs ++ cs.drop (off + vs.length)

theorem splice_length {cs : List AV} {off : Nat} {vs : List AV} (h : off + vs.length ≤ cs.length) : (splice cs off vs).length = cs.length := by
  simp [splice]; omega

theorem splice_get {cs : List AV} {off : Nat} {vs : List AV} (h : off + vs.length ≤ cs.length) (i : Nat) :
    (splice cs off vs)[i]? = if off ≤ i ∧ i < off + vs.length then vs[i - off]? else cs[i]? := by
  have hl : (cs.take off).length = off := by simp; omega
  unfold splice
  by_cases h1 : i < off
  · rw [if_neg (by omega), List.append_assoc, List.getElem?_append_left (by omega), List.getElem?_take, if_pos h1]
  · by_cases h2 : i < off + vs.length
    · rw [if_pos (by omega), List.append_assoc, List.getElem?_append_right (by omega), hl, List.getElem?_append_left (by omega)]
    · rw [if_neg (by omega), List.getElem?_append_right (by simp; omega)]
      rw [List.getElem?_drop]
      congr 1
      simp
      omega

theorem RA.cells {g : Gh} {w : World} {x : AV} {v : Value} (h : RA g w x v) (hs : okSc x = true) :
    x.cells.length = v.cells.size ∧ ∀ (i : Nat) y u, x.cells[i]? = some y → v.cells[i]? = some u → RA g w y u := by
  have hone : x.cells = [x] → v.cells = #[v] → x.cells.length = v.cells.size ∧ ∀ (i : Nat) y u, x.cells[i]? = some y → v.cells[i]? = some u → RA g w y u := by
    intro h1 h2
    rw [h1, h2]
    refine ⟨rfl, ?_⟩
    intro i y u hy hu
    cases i with
    | zero => simp at hy hu; subst hy; subst hu; exact h
    | succ i => simp at hy
  cases h with
  | d y u h =>
    cases h with
    | agg cs vs hl hc =>
      refine ⟨by simpa [AV.cells, D.cells, Value.cells] using hl, ?_⟩
      intro i x y hx hy
      simp only [AV.cells, D.cells, List.getElem?_map, Option.map_eq_some_iff] at hx
      obtain ⟨c, hc', rfl⟩ := hx
      exact .d _ _ (hc i c y hc' hy)
    | sc u => exact hone rfl (cells_of_notAgg fun cs he => by subst he; simp [okSc] at hs)
    | nil sz => exact hone rfl rfl
    | sl sz es b off len cap => exact hone rfl rfl
    | ep cs b off => exact hone rfl rfl
  | ptr k off => exact hone rfl rfl
  | tip n sz es u h h' =>
    cases h with
    | nil => exact hone rfl rfl
    | sl => exact hone rfl rfl
  | tup l vs hl hc => exact hone rfl rfl
  | agg l vs hl hc => exact ⟨hl, hc⟩
  | clo f l vs hl hc => exact hone rfl rfl

section
variable {P : Program} {o : Oper} {X : Store}

/-- A store into an object. -/
theorem op_store {t : TypeId} {x y : Operand} {k off sz : Nat} {v : AV} {cs : List AV} {agg : Bool} (ho : o.op = .store t x y) (ht : TyI P t agg sz) (hk : X.objs.lookup k = some (.cells cs))
    (hv : v.cells.length = sz) (h1 : v.cells.all oneC = true) (hs : okSc v = true) (hl : off + sz ≤ cs.length) :
    OpT P o [(x, .ptr k off), (y, v)] X ⟨setObj k (.cells (splice cs off v.cells)) X.objs, X.live⟩ [] (.d (.sc undef)) := by
  intro nm B g w a hr hrd next Q hn
  have e1 := rd0 hrd
  have e2 := rd1 hrd
  simp only at e1 e2
  obtain ⟨c1, c2⟩ := e2.cells hs
  cases hr.objs k _ hk with
  | cells _ arr T hb hlen hc =>
    have hone : ∀ u ∈ (a.eval y).cells.toList, u.oneCell' = true := by
      intro u hu
      obtain ⟨i, hi⟩ := List.mem_iff_getElem?.1 hu
      have hlt : i < v.cells.length := by
        have := (List.getElem?_eq_some_iff.1 hi).1
        simp at this; omega
      exact oneC_val (c2 i v.cells[i] u (by simp [hlt]) (by simpa using hi)) (List.all_eq_true.1 h1 _ (List.getElem_mem hlt))
    obtain ⟨w', arr', hrun, hb', hs', hp', hz', ho', hi'⟩ := run_storeCells (P := P) (off := off) (a.eval y).cells.toList 0 w arr hb hone (by simp; omega)
    obtain ⟨r1, r2⟩ := hr.write hk (o' := .cells (splice cs off v.cells)) hz' hi' ho' (by
      intro ht'
      refine .cells _ arr' T hb' (by rw [splice_length (by omega), hs', hlen]) ?_
      intro i z u hz hu
      rw [splice_get (by omega)] at hz
      rw [hp' i] at hu
      simp only [Nat.add_zero, Array.length_toList] at hu
      by_cases hin : off ≤ i ∧ i < off + v.cells.length
      · rw [if_pos hin] at hz
        rw [if_pos (by omega)] at hu
        exact (c2 _ z u hz (by simpa using hu)).mono ht' (.nil _)
      · rw [if_neg hin] at hz
        rw [if_neg (by omega)] at hu
        exact (hc i z u hz hu).mono ht' (.nil _))
    unfold Oper.wp
    have hx : a.eval x = .pointer (some ⟨g.ρ k, off, none⟩) := by
      generalize a.eval x = z at e1
      cases e1; rfl
    have : (execOp a.eval o).run P w = .ok .skip w' := by
      simp only [execOp, ho, hx, Instr.storeAt, Instr.sureAddr]
      have hsz : ¬ ((a.eval y).cells.size ≠ sz) := by omega
      simp [storeVar, ht.run_size, hsz, hrun]
    rw [this]
    exact hn g w' undef r1 r2 (.ofSc _ _ _)

end
end Go.Ab
