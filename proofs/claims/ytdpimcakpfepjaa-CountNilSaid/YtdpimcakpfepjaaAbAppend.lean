/-
  append: at a slice whose end may be written, or one that is full.
-/
import Derived.Test.YtdpimcakpfepjaaAbMake
set_option linter.unusedVariables false
set_option linter.unusedSimpArgs false
namespace Go.Ab

theorem HR.dropTip {nm : List Nat} {B : Base} {g : Gh} {w : World} {X : Store} (h : HR nm B g w X) (n : Nat) :
    HR nm B { g with β := upd g.β n none } w ⟨X.objs, X.live.filter (· != n)⟩ ∧ Trans [] g w { g with β := upd g.β n none } w := by
  have hβ : ∀ m ob, upd g.β n none m = some ob → g.β m = some ob := by
    intro m ob hm
    by_cases he : m = n
    · subst he; rw [upd_same] at hm; cases hm
    · rwa [upd_other _ _ he] at hm
  have ht : Trans [] g w { g with β := upd g.β n none } w := ⟨.refl _ _, fun _ _ => rfl, fun m ob _ he => ⟨hβ m ob he, fun _ _ => ⟨rfl, rfl⟩⟩⟩
  refine ⟨⟨h.keep, h.sane, h.base, h.io, h.le, h.frame, ?_, h.objγ, h.objinj, h.objnew, ?_, ?_, ?_, ?_, ?_⟩, ht⟩
  · intro k o hk; exact (h.objs k o hk).keep ht rfl (.inl rfl)
  · intro m
    simp only [List.mem_filter, bne_iff_ne, ne_eq]
    by_cases he : m = n
    · subst he; simp [upd_same]
    · rw [upd_other _ _ he]
      exact ⟨fun hm => (h.live m).1 hm.1, fun hm => ⟨(h.live m).2 hm, he⟩⟩
  · intro m m' b hm hm'; exact h.tipinj m m' b (hβ m _ hm) (hβ m' _ hm')
  · intro m b k o hm hk; exact h.tipobj m b k o (hβ m _ hm) hk
  · intro m b hm; exact h.tipnew m b (hβ m _ hm)
  · intro m b hm; exact h.tiplt m b (hβ m _ hm)

theorem HR.addTip {nm : List Nat} {B : Base} {g : Gh} {w : World} {X : Store} (h : HR nm B g w X) {m : Nat} (hm : m ∉ X.live) (ob : Option Nat) (hX : objsFree [m] X = true)
    (hb : ∀ b, ob = some b → b < w.heap.size ∧ (B.n0 ≤ b ∨ B.allowed b) ∧ (∀ k o, X.objs.lookup k = some o → b ≠ g.ρ k) ∧ ∀ n, g.β n ≠ some (some b)) :
    HR nm B { g with β := upd g.β m (some ob) } w ⟨X.objs, m :: X.live⟩ ∧ Trans [m] g w { g with β := upd g.β m (some ob) } w := by
  have ht : Trans [m] g w { g with β := upd g.β m (some ob) } w := ⟨.refl _ _, fun _ _ => rfl, fun n ob' hn he => by
    have hne : n ≠ m := by simpa using hn
    simp only [upd_other _ _ hne] at he
    exact ⟨he, fun _ _ => ⟨rfl, rfl⟩⟩⟩
  have hβ : ∀ n b, upd g.β m (some ob) n = some (some b) → (n = m ∧ ob = some b) ∨ (n ≠ m ∧ g.β n = some (some b)) := by
    intro n b hn
    by_cases he : n = m
    · subst he; rw [upd_same] at hn; exact .inl ⟨rfl, by simpa using hn⟩
    · rw [upd_other _ _ he] at hn; exact .inr ⟨he, hn⟩
  refine ⟨⟨h.keep, h.sane, h.base, h.io, h.le, h.frame, ?_, h.objγ, h.objinj, h.objnew, ?_, ?_, ?_, ?_, ?_⟩, ht⟩
  · intro k o hk; exact (h.objs k o hk).keep ht rfl (objsFree_get hX hk)
  · intro n
    simp only [List.mem_cons]
    by_cases he : n = m
    · subst he; simp [upd_same]
    · simp only [he, false_or, upd_other _ _ he]; exact h.live n
  · intro n n' b hn hn'
    have c1 := hβ n b hn
    have c2 := hβ n' b hn'
    clear hn hn'
    rcases c1 with ⟨e1, e⟩ | ⟨hne, hn⟩ <;> rcases c2 with ⟨e2, e'⟩ | ⟨hne', hn'⟩
    · rw [e1, e2]
    · exact ((hb b e).2.2.2 n' hn').elim
    · exact ((hb b e').2.2.2 n hn).elim
    · exact h.tipinj n n' b hn hn'
  · intro n b k o hn hk
    rcases hβ n b hn with ⟨rfl, e⟩ | ⟨hne, hn⟩
    · exact (hb b e).2.2.1 k o hk
    · exact h.tipobj n b k o hn hk
  · intro n b hn
    rcases hβ n b hn with ⟨rfl, e⟩ | ⟨hne, hn⟩
    · exact (hb b e).2.1
    · exact h.tipnew n b hn
  · intro n b hn
    rcases hβ n b hn with ⟨rfl, e⟩ | ⟨hne, hn⟩
    · exact (hb b e).1
    · exact h.tiplt n b hn

/-- Cells behind what is protected are written, in a block that no label and no object has. -/
theorem HR.raise {nm : List Nat} {B : Base} {g : Gh} {w w' : World} {X : Store} (h : HR nm B g w X) {b n : Nat} (hlt : b < w.heap.size) (hnew : B.n0 ≤ b ∨ B.allowed b)
    (hobj : ∀ k o, X.objs.lookup k = some o → b ≠ g.ρ k) (htip : ∀ m, g.β m ≠ some (some b)) (hs : w'.heap.size = w.heap.size) (hio : w'.os = w.os ∧ w'.output = w.output ∧ w'.tape = w.tape) (hother : ∀ b', b' ≠ b → w'.heap[b']? = w.heap[b']?)
    (hold : ∀ i, i < g.γ b → w'.cell? ⟨b, i, none⟩ = w.cell? ⟨b, i, none⟩) (hn : g.γ b ≤ n) (hsane : ∀ i, i < n → (w'.cell? ⟨b, i, none⟩).isSome) :
    HR nm B { g with γ := upd g.γ b n } w' X ∧ Trans [] g w { g with γ := upd g.γ b n } w' := by
  have hup : ∀ b', g.γ b' ≤ upd g.γ b n b' := by
    intro b'
    by_cases he : b' = b
    · subst he; rw [upd_same]; exact hn
    · rw [upd_other _ _ he]; exact Nat.le_refl _
  have hcell : ∀ b' i, i < g.γ b' → w'.cell? ⟨b', i, none⟩ = w.cell? ⟨b', i, none⟩ := by
    intro b' i hi
    by_cases he : b' = b
    · subst he; exact hold i hi
    · exact cell?_of_heap (hother b' he) i none
  have hneb : ∀ m b', g.β m = some (some b') → b' ≠ b := fun m b' hm he => htip m (he ▸ hm)
  have ht : Trans [] g w { g with γ := upd g.γ b n } w' := ⟨⟨hup, hcell⟩, fun _ _ => rfl, fun m ob _ he => ⟨he, fun b' hb' => by
    have := hneb m b' (hb' ▸ he)
    exact ⟨upd_other _ _ this, hother b' this⟩⟩⟩
  refine ⟨⟨h.keep, ?_, by rw [hs]; exact h.base, ⟨hio.1.trans h.io.1, hio.2.1.trans h.io.2.1, hio.2.2.trans h.io.2.2⟩, ⟨fun b' => Nat.le_trans (h.le.up b') (hup b'), fun b' i hi => (hcell b' i (Nat.lt_of_lt_of_le hi (h.le.up b'))).trans (h.le.cell b' i hi)⟩, ?_, ?_, ?_,
    h.objinj, h.objnew, h.live, h.tipinj, h.tipobj, h.tipnew, fun m b' hm => by rw [hs]; exact h.tiplt m b' hm⟩, ht⟩
  · intro b' i hi
    by_cases he : b' = b
    · subst he; simp only [upd_same] at hi; exact hsane i hi
    · simp only [upd_other _ _ he] at hi; rw [hcell b' i hi]; exact h.sane b' i hi
  · intro b' hb' hna
    have hne : b' ≠ b := by
      rintro rfl
      rcases hnew with h1 | h1
      · omega
      · exact hna h1
    have := h.frame b' hb' hna
    exact ⟨(hother b' hne).trans this.1, by simp only [upd_other _ _ hne]; exact this.2⟩
  · intro k o hk
    exact (h.objs k o hk).keep ht (hother _ (hobj k o hk).symm) (.inl rfl)
  · intro k o hk
    simp only [upd_other _ _ (hobj k o hk).symm]
    exact h.objγ k o hk

/-- The cells of a slice that reads as data. -/
theorem RD.slCells {P : Program} {γ : Nat → Nat} {w : World} {sz : Nat} {es : List (List D)} {v : Value} (h : RD γ w (.sl sz es) v) (hs : ∀ b i, i < γ b → (w.cell? ⟨b, i, none⟩).isSome) :
    ∃ base cap, v = .slice base es.length cap ∧ es.length ≤ cap ∧ (base = none → cap = 0) ∧ (∀ (i : Nat) (cs : List D), es[i]? = some cs → cs.length = sz) ∧
      ∃ cells : List Value, cells.length = es.length * sz ∧ (∀ w' : World, (∀ b i, i < γ b → w'.cell? ⟨b, i, none⟩ = w.cell? ⟨b, i, none⟩) → (Builtin.firstCells sz es.length v).run P w' = .ok cells.toArray w') ∧
        ∀ (i j : Nat) (cs : List D) c u, es[i]? = some cs → cs[j]? = some c → cells[i * sz + j]? = some u → RD γ w c u := by
  cases h with
  | nil _ a cap h0 => exact ⟨a, cap, rfl, Nat.zero_le _, h0, by simp, [], by simp, fun w' _ => by cases a <;> simp [Builtin.firstCells, loadCells, loadCellsFrom], by simp⟩
  | sl _ _ b off len cap hl hγ hcap hsz hc =>
    subst hl
    have hex : ∀ i, i < es.length * sz → ∃ u, w.cell? ⟨b, off + i, none⟩ = some u := fun i hi => Option.isSome_iff_exists.1 (hs b (off + i) (by omega))
    have hget : ∀ i, i < es.length * sz → w.cell? ⟨b, off + i, none⟩ = some ((w.cell? ⟨b, off + i, none⟩).getD undef) := fun i hi => by
      obtain ⟨u, hu⟩ := hex i hi; rw [hu]; rfl
    refine ⟨some ⟨b, off, none⟩, cap, rfl, hcap, by simp, hsz, (List.range (es.length * sz)).map (fun i => (w.cell? ⟨b, off + i, none⟩).getD undef), by simp, ?_, ?_⟩
    · intro w' hw'
      refine run_firstCells_some w' sz es.length _ _ _ _ (by simp) ?_
      intro j u hu
      rw [List.getElem?_map, Option.map_eq_some_iff] at hu
      obtain ⟨i, hi, rfl⟩ := hu
      have hlt : j < es.length * sz := by have := (List.getElem?_eq_some_iff.1 hi).1; simpa using this
      have : i = j := by rw [List.getElem?_range hlt] at hi; simpa using hi.symm
      subst this
      rw [addr_add, hw' b _ (by omega)]
      exact hget i hlt
    · intro i j cs c u hi hj hu
      have h1 : i < es.length := (List.getElem?_eq_some_iff.1 hi).1
      have h2 : j < cs.length := (List.getElem?_eq_some_iff.1 hj).1
      rw [hsz i cs hi] at h2
      have hlt := lt_slot h1 h2
      rw [List.getElem?_map, List.getElem?_range hlt] at hu
      simp only [Option.map_some, Option.some.injEq] at hu
      refine hc i cs j c u hi hj ?_
      rw [Nat.add_assoc, hget _ hlt, hu]

/-- A slice that lies in a block whose cells are known. -/
theorem RD.ofCells {γ : Nat → Nat} {w : World} {sz : Nat} {es : List (List D)} {b off cap : Nat} (hγ : off + es.length * sz ≤ γ b) (hcap : es.length ≤ cap)
    (hsz : ∀ (i : Nat) (cs : List D), es[i]? = some cs → cs.length = sz)
    (hc : ∀ (i j : Nat) (cs : List D) c u, es[i]? = some cs → cs[j]? = some c → w.cell? ⟨b, off + (i * sz + j), none⟩ = some u → RD γ w c u) :
    RD γ w (.sl sz es) (.slice (some ⟨b, off, none⟩) es.length cap) :=
  .sl sz es b off es.length cap rfl hγ hcap hsz fun i cs j c v hi hj hv => hc i j cs c v hi hj (by rw [← Nat.add_assoc]; exact hv)

theorem RD.ofCells' {γ : Nat → Nat} {w : World} {sz : Nat} {es : List (List D)} {b off len cap : Nat} (hl : len = es.length) (hγ : off + len * sz ≤ γ b) (hcap : len ≤ cap)
    (hsz : ∀ (i : Nat) (cs : List D), es[i]? = some cs → cs.length = sz)
    (hc : ∀ (i j : Nat) (cs : List D) c u, es[i]? = some cs → cs[j]? = some c → w.cell? ⟨b, off + (i * sz + j), none⟩ = some u → RD γ w c u) :
    RD γ w (.sl sz es) (.slice (some ⟨b, off, none⟩) len cap) := by
  subst hl; exact .ofCells hγ hcap hsz hc

theorem run_storeCells' {P : Program} {b off : Nat} {T : TypeId} {fr : Nat × Nat} : ∀ (vs : List Value) (i : Nat) (w : World) (arr : Array Value), w.heap[b]? = some (.cells arr T fr) →
    (∀ v ∈ vs, v.oneCell' = true) → off + i + vs.length ≤ arr.size → (∀ j, off + i ≤ j → j < off + i + vs.length → w.frozen? ⟨b, j, none⟩ = false) →
    ∃ w' arr', (storeCells ⟨b, off, none⟩ vs i).run P w = .ok () w' ∧ w'.heap[b]? = some (.cells arr' T fr) ∧ arr'.size = arr.size ∧
      (∀ j, arr'[j]? = if off + i ≤ j ∧ j < off + i + vs.length then vs[j - (off + i)]? else arr[j]?) ∧ w'.heap.size = w.heap.size ∧ (∀ b', b' ≠ b → w'.heap[b']? = w.heap[b']?) ∧ (w'.os = w.os ∧ w'.output = w.output ∧ w'.tape = w.tape)
  | [], i, w, arr, hb, _, _, _ => ⟨w, arr, rfl, hb, rfl, fun j => by rw [if_neg (by simp only [List.length_nil]; omega)], rfl, fun _ _ => rfl, rfl, rfl, rfl⟩
  | v :: vs, i, w, arr, hb, h1, hl, hf => by
    simp only [List.length_cons] at hl hf
    have hlt : off + i < arr.size := by omega
    have hv : v.oneCell' = true := h1 v List.mem_cons_self
    have hcell : w.cell? ⟨b, off + i, none⟩ = some arr[off + i] := by rw [cell?_cells hb]; simp [hlt]
    have hfr : w.frozen? ⟨b, off + i, none⟩ = false := hf (off + i) (Nat.le_refl _) (by omega)
    have hblt : b < w.heap.size := (Array.getElem?_eq_some_iff.1 hb).1
    have hset : (w.setCell ⟨b, off + i, none⟩ v).heap[b]? = some (.cells (arr.setIfInBounds (off + i) v) T fr) := by
      simp only [World.setCell, Array.getElem?_modify, hb, if_true, Option.map_some]
      rfl
    have hst : (store (⟨b, off + i, none⟩ : Addr) v).run P w = .ok () (w.setCell ⟨b, off + i, none⟩ v) := by
      rw [run_store P w _ v _ hv, hcell, hfr]; rfl
    obtain ⟨w', arr', hr, hb', hs', hp', hz', ho', hi'⟩ := run_storeCells' (P := P) (b := b) (off := off) (T := T) vs (i + 1) (w.setCell ⟨b, off + i, none⟩ v) _ hset
      (fun u hu => h1 u (List.mem_cons_of_mem _ hu)) (by simp; omega) (fun j h2 h3 => by rw [World.frozen?_setCell]; exact hf j (by omega) (by omega))
    refine ⟨w', arr', ?_, hb', by rw [hs']; simp, ?_, by rw [hz']; simp, fun b' hne => by rw [ho' b' hne]; exact heap_setCell_other w _ b' v hne, hi'⟩
    · simp only [storeCells]
      rw [addr_add, Sem.run_bind, hst, Result.andThen_ok]
      exact hr
    · intro j
      rw [hp' j]
      by_cases h1 : j = off + i
      · subst h1
        rw [if_neg (by omega), if_pos (by simp only [List.length_cons]; omega)]
        simp [hlt]
      · by_cases h2 : off + (i + 1) ≤ j ∧ j < off + (i + 1) + vs.length
        · rw [if_pos h2, if_pos (by simp only [List.length_cons]; omega)]
          rw [show j - (off + i) = (j - (off + (i + 1))) + 1 by omega]
          rfl
        · rw [if_neg h2, if_neg (by simp only [List.length_cons]; omega)]
          simp [Ne.symm h1]

/-- cells that a store takes -/
def oneD : D → Bool
  | .sc u => u.oneCell'
  | .agg _ => false
  | _ => true

theorem oneD_val {γ : Nat → Nat} {w : World} {x : D} {v : Value} (h : RD γ w x v) (ho : oneD x = true) : v.oneCell' = true := by
  cases h with
  | sc v => exact ho
  | agg => simp [oneD] at ho
  | nil => rfl
  | sl => rfl
  | ep => rfl

/-- Two lists of elements, one behind the other: the cells. -/
theorem getElem?_append_cells {sz : Nat} {es fs : List (List D)} (he : ∀ (i : Nat) cs, es[i]? = some cs → cs.length = sz) (hf : ∀ (i : Nat) cs, fs[i]? = some cs → cs.length = sz) (i : Nat) (cs : List D)
    (h : (es ++ fs)[i]? = some cs) : cs.length = sz := by
  rw [List.getElem?_append] at h
  split at h
  · exact he i cs h
  · exact hf _ cs h

theorem run_append_fits' {P : Program} {w w' : World} {ts : Array TypeId} {ty t e u e' : TypeId} {i : TypeInfo} (h0 : ts[0]? = some t) (h1 : ts[1]? = some u) (hu : P.underlying u = some (.slice e'))
    (ht : P.underlying t = some (.slice e)) (hi : P.info? e = some i)
    {base xb : Option Addr} {len cap n xc : Nat} {news : List Value} (hx : (Builtin.firstCells i.size n (.slice xb n xc)).run P w = .ok news.toArray w) (hneed : len + n ≤ cap)
    (hst : (base = none ∧ w' = w) ∨ ∃ a, base = some a ∧ (storeCells (a.add (len * i.size)) news).run P w = .ok () w') :
    (Builtin.append_ ts ty #[.slice base len cap, .slice xb n xc]).run P w = .ok (.slice base (len + n) cap) w' := by
  rcases hst with ⟨rfl, rfl⟩ | ⟨a, rfl, hst⟩
  · simp [Builtin.append_, h0, h1, run_underlying ht, run_underlying hu, sizeOf, typeInfo, hi, Builtin.lenOf, hneed, hx]
  · simp [Builtin.append_, h0, h1, run_underlying ht, run_underlying hu, sizeOf, typeInfo, hi, Builtin.lenOf, hneed, hx, hst]

theorem run_append_grows' {P : Program} {w : World} {ts : Array TypeId} {ty t e u e' : TypeId} {i : TypeInfo} {z : Value} (h0 : ts[0]? = some t) (h1 : ts[1]? = some u) (hu : P.underlying u = some (.slice e'))
    (ht : P.underlying t = some (.slice e)) (hi : P.info? e = some i) (hz : i.zero = some z)
    {base xb : Option Addr} {len cap n xc : Nat} {news olds : List Value} (hx : (Builtin.firstCells i.size n (.slice xb n xc)).run P w.drew = .ok news.toArray w.drew)
    (ho : (Builtin.firstCells i.size len (.slice base len cap)).run P w.drew = .ok olds.toArray w.drew) (hneed : ¬ len + n ≤ cap)
    (h63 : ((len + n : Nat) : Int) ≤ 9223372036854775807) (h48 : (len + n) * i.bytes ≤ 140737488355328) :
    (Builtin.append_ ts ty #[.slice base len cap, .slice xb n xc]).run P w =
      .ok (.slice (some ⟨w.heap.size, 0, none⟩) (len + n) (grownCap w (len + n) cap e))
        (w.drew.alloc (.cells (olds.toArray ++ news.toArray ++ Builtin.zeroCells z.cells (grownCap w (len + n) cap e - (len + n))) e)) := by
  have h63' : ¬ (9223372036854775807 < ((len : Int) + (n : Int))) := by omega
  have hfit := growslice_fits (need := len + n) (old := cap) (by omega) h48
  have h48' : ¬ (281474976710656 < Builtin.nextslicecap (len + n) cap * i.bytes) := by omega
  simp [Builtin.append_, h0, h1, run_underlying ht, run_underlying hu, sizeOf, typeInfo, zeroValue, hi, hz, Builtin.lenOf, hneed, h63', h48', Question.forced, hx, ho, Go.newRow, grownCap]
  congr 2
  apply Array.ext'
  simp [List.append_assoc]

theorem mem_of_slot {sz : Nat} {fs : List (List D)} (hsz : ∀ (i : Nat) cs, fs[i]? = some cs → cs.length = sz) {k : Nat} (hk : k < fs.length * sz) :
    ∃ (i j : Nat) (cs : List D) (c : D), k = i * sz + j ∧ fs[i]? = some cs ∧ cs[j]? = some c := by
  have hpos : 0 < sz := by
    rcases Nat.eq_zero_or_pos sz with h | h
    · subst h; simp at hk
    · exact h
  have h1 : k / sz < fs.length := by rw [Nat.div_lt_iff_lt_mul hpos]; exact hk
  have h2 : k % sz < sz := Nat.mod_lt _ hpos
  have h3 : (fs[k / sz]).length = sz := hsz (k / sz) _ (by simp [h1])
  exact ⟨k / sz, k % sz, fs[k / sz], (fs[k / sz])[k % sz]'(by omega), by rw [Nat.mul_comm]; exact (Nat.div_add_mod k sz).symm, by simp [h1], by simp [h3, h2]⟩

section
variable {P : Program} {o : Oper} {X : Store}

/-- append(s, x...): s a slice at whose end may be written. -/
theorem op_append {ts : Array TypeId} {s x : Operand} {n sz : Nat} {es fs : List (List D)} {t u e e' : TypeId} {i : TypeInfo} {z : Value} (m : Nat)
    (ho : o.op = .call { callee := .builtin .append, args := #[s, x], argTypes := ts }) (h0 : ts[0]? = some t) (h1 : ts[1]? = some u) (hu : P.underlying u = some (.slice e'))
    (ht : P.underlying t = some (.slice e)) (hi : P.info? e = some i) (hz : i.zero = some z) (hzs : z.cells.size = sz) (hsz : i.size = sz) (hn : n ∈ X.live) (hm : m ∉ X.live.filter (· != n)) (hX : objsFree [m] X = true)
    (hone : ∀ cs ∈ fs, ∀ c ∈ cs, oneD c = true) (hbig : (es.length + fs.length) * i.bytes ≤ 140737488355328) (hlen : es.length + fs.length ≤ 4611686018427387904) :
    OpT P o [(s, .tip n sz es), (x, .d (.sl sz fs))] X ⟨X.objs, m :: X.live.filter (· != n)⟩ [m] (.tip m sz (es ++ fs)) := by
  subst hsz
  intro nm B g w a hr hrd next Q hnext
  have e1 := rd0 hrd
  have e2 := rd1 hrd
  simp only at e1 e2
  unfold Oper.wp
  have hrun : ∀ r, (Builtin.append_ ts o.type #[a.eval s, a.eval x]).run P w = r → (execOp a.eval o).run P w = r.andThen fun v w' => .ok (.value v) w' := by
    intro r hr'
    simp only [execOp, ho, resolve]
    simp [invoke, builtin, hr']
  generalize a.eval s = vs at e1 hrun
  generalize a.eval x = vx at e2 hrun
  cases e1 with
  | tip _ _ _ _ e1 htip =>
  cases e2 with
  | d _ _ e2 =>
  obtain ⟨base, cap, rfl, hcap, hbn, hszE, olds, hol, horun, hoc⟩ := e1.slCells (P := P) hr.sane
  obtain ⟨xb, xc, rfl, hxcap, _, hszF, news, hnl, hnrun, hnc⟩ := e2.slCells (P := P) hr.sane
  have hszEF := getElem?_append_cells hszE hszF
  have hob : ∃ ob, g.β n = some ob := Option.isSome_iff_exists.1 ((hr.live n).1 hn)
  obtain ⟨ob, hob⟩ := hob
  obtain ⟨hr1, ht1⟩ := hr.dropTip n
  have hone' : ∀ v ∈ news, v.oneCell' = true := by
    intro v hv
    obtain ⟨k, hk⟩ := List.mem_iff_getElem?.1 hv
    have hklt : k < fs.length * i.size := by have := (List.getElem?_eq_some_iff.1 hk).1; omega
    obtain ⟨p, q, cs, c, rfl, hp, hq⟩ := mem_of_slot hszF hklt
    exact oneD_val (hnc p q cs c v hp hq hk) (hone cs (List.mem_of_getElem? hp) c (List.mem_of_getElem? hq))
  by_cases hneed : es.length + fs.length ≤ cap
  · -- the result lies where s lay
    have same : fs = [] → (Builtin.append_ ts o.type #[.slice base es.length cap, .slice xb fs.length xc]).run P w = .ok (.slice base es.length cap) w →
        (es.length = cap ∨ base = none) →
        Oper.upon P o a next Q ((execOp a.eval o).run P w) := by
      intro hf hrn hfull
      obtain ⟨hr2, ht2⟩ := hr1.addTip (m := m) hm none hX (by simp)
      rw [hrun _ hrn]
      subst hf
      simp only [List.append_nil] at *
      refine hnext _ w _ hr2 (ht1.trans ht2) (.tip m i.size es _ (e1.mono (ht1.trans ht2).le) ?_)
      cases base with
      | none => trivial
      | some b0 =>
        intro ob' hob'
        have hsp : b0.spot = none := (htip ob hob).1
        rcases hfull with h | h
        · exact ⟨hsp, .inl h⟩
        · cases h
    cases hb : base with
    | none =>
      have h0' : cap = 0 := hbn hb
      have hf : fs = [] := by cases fs with
        | nil => rfl
        | cons _ _ => simp at hneed; omega
      have hrn := run_append_fits' (P := P) (w := w) (w' := w) (ty := o.type) h0 h1 hu ht hi (base := base) (hnrun w fun _ _ _ => rfl) hneed (.inl ⟨hb, rfl⟩)
      subst hb
      refine same hf ?_ (.inr rfl)
      rw [hrn]; subst hf; rfl
    | some b0 =>
      subst hb
      obtain ⟨b, off, sp⟩ := b0
      obtain ⟨hsp, htp⟩ := htip ob hob
      simp only at hsp; subst hsp
      by_cases hfe : fs = []
      · subst hfe
        have hn0 : news = [] := by simpa using hnl
        subst hn0
        have hrn := run_append_fits' (P := P) (w := w) (w' := w) (ty := o.type) h0 h1 hu ht hi (base := some ⟨b, off, none⟩) (hnrun w fun _ _ _ => rfl) hneed (.inr ⟨_, rfl, rfl⟩)
        rcases htp with hfull | ⟨hob', hγ, hroom⟩
        · exact same rfl (by simpa using hrn) (.inl hfull)
        · -- nothing is written; the label keeps its block
          subst hob'
          obtain ⟨hr2, ht2⟩ := hr1.addTip (m := m) hm (some b) hX (by
            intro b' hb'; cases hb'
            refine ⟨hr.tiplt n b hob, hr.tipnew n b hob, fun k p hk => hr.tipobj n b k p hob hk, fun n' hn' => ?_⟩
            by_cases he : n' = n
            · subst he; simp [upd_same] at hn'
            · simp only [upd_other _ _ he] at hn'; exact he (hr.tipinj n' n b hn' hob))
          rw [hrun _ hrn]
          simp only [List.append_nil] at hnext
          refine hnext _ w _ hr2 (ht1.trans ht2) (.tip m i.size es _ (e1.mono (ht1.trans ht2).le) ?_)
          · intro ob' hob'
            simp only [upd_same, Option.some.injEq] at hob'
            exact ⟨rfl, .inr ⟨hob'.symm, hγ, hroom⟩⟩
      · have hpos : 0 < fs.length := List.length_pos_iff.2 hfe
        rcases htp with hfull | ⟨hob', hγ, hroom⟩
        · omega
        subst hob'
        simp only at hγ hroom
        have hblt := hr.tiplt n b hob
        have hmul : (es.length + fs.length) * i.size = es.length * i.size + fs.length * i.size := Nat.add_mul _ _ _
        have hmulc : (es.length + fs.length) * i.size ≤ cap * i.size := Nat.mul_le_mul_right _ hneed
        -- the block
        have hblk : fs.length * i.size = 0 ∨ ∃ arr T fr, w.heap[b]? = some (.cells arr T fr) ∧ off + cap * i.size ≤ arr.size := by
          rcases Nat.eq_zero_or_pos (fs.length * i.size) with h | h
          · exact .inl h
          · right
            have hlast := hroom (off + cap * i.size - 1) (by omega) (by omega)
            obtain ⟨v, hv⟩ := Option.isSome_iff_exists.1 hlast.1
            unfold World.cell? at hv
            simp only at hv
            split at hv
            · rename_i arr T fr hh
              refine ⟨arr, T, fr, hh, ?_⟩
              simp at hv
              have := (Array.getElem?_eq_some_iff.1 hv).1
              omega
            · cases hv
        rcases hblk with hzero | ⟨arr, T, fr, hblk, hsize⟩
        · -- elements without cells
          have hn0 : news = [] := List.length_eq_zero_iff.1 (by omega)
          subst hn0
          have hrn := run_append_fits' (P := P) (w := w) (w' := w) (ty := o.type) h0 h1 hu ht hi (base := some ⟨b, off, none⟩) (hnrun w fun _ _ _ => rfl) hneed (.inr ⟨_, rfl, rfl⟩)
          obtain ⟨hr2, ht2⟩ := hr1.addTip (m := m) hm (some b) hX (by
            intro b' hb'; cases hb'
            refine ⟨hr.tiplt n b hob, hr.tipnew n b hob, fun k p hk => hr.tipobj n b k p hob hk, fun n' hn' => ?_⟩
            by_cases he : n' = n
            · subst he; simp [upd_same] at hn'
            · simp only [upd_other _ _ he] at hn'; exact he (hr.tipinj n' n b hn' hob))
          rw [hrun _ hrn]
          refine hnext _ w _ hr2 (ht1.trans ht2) (.tip m i.size _ _ ?_ ?_)
          · refine .ofCells' List.length_append.symm (by simp only; omega) hneed hszEF ?_
            intro p q cs c v hp hq hv
            have h2 : q < cs.length := (List.getElem?_eq_some_iff.1 hq).1
            rw [hszEF p cs hp] at h2
            have : i.size = 0 := by
              rcases Nat.mul_eq_zero.1 hzero with h | h
              · omega
              · exact h
            omega
          · intro ob' hob'
            simp only [upd_same, Option.some.injEq] at hob'
            refine ⟨rfl, .inr ⟨hob'.symm, ?_, ?_⟩⟩
            · simp only; omega
            · intro p h3 h4; exact hroom p (by simp only at h3; omega) h4
        · obtain ⟨w', arr', hst, hb', hs', hp', hz', hoth, hi'⟩ := run_storeCells' (P := P) (off := off + es.length * i.size) news 0 w arr hblk hone' (by omega) (by
            intro j h3 h4; exact (hroom j (by omega) (by omega)).2)
          have hrn := run_append_fits' (P := P) (w := w) (w' := w') (ty := o.type) h0 h1 hu ht hi (base := some ⟨b, off, none⟩) (hnrun w fun _ _ _ => rfl) hneed (.inr ⟨_, rfl, by rw [addr_add]; exact hst⟩)
          simp only [Nat.add_zero] at hp'
          have holdc : ∀ k, k < off + es.length * i.size → w'.cell? ⟨b, k, none⟩ = w.cell? ⟨b, k, none⟩ := by
            intro k hk
            rw [cell?_cells hb', cell?_cells hblk, hp' k, if_neg (by omega)]
          have hsane' : ∀ k, k < off + (es.length + fs.length) * i.size → (w'.cell? ⟨b, k, none⟩).isSome := by
            intro k hk
            rw [cell?_cells hb']
            have : k < arr'.size := by omega
            simp [this]
          obtain ⟨hr2, ht2⟩ := hr1.raise (w' := w') (b := b) (n := off + (es.length + fs.length) * i.size) hblt (hr.tipnew n b hob) (fun k p hk => hr.tipobj n b k p hob hk) (by
            intro n' hn'
            by_cases he : n' = n
            · subst he; simp [upd_same] at hn'
            · simp only [upd_other _ _ he] at hn'; exact he (hr.tipinj n' n b hn' hob)) hz' hi' hoth (by intro k hk; exact holdc k (by simp only at hk; omega)) (by simp only; omega) hsane'
          obtain ⟨hr3, ht3⟩ := hr2.addTip (m := m) hm (some b) hX (by
            intro b' hb'; cases hb'
            refine ⟨by rw [hz']; exact hblt, hr.tipnew n b hob, fun k p hk => hr.tipobj n b k p hob hk, fun n' hn' => ?_⟩
            by_cases he : n' = n
            · subst he; simp [upd_same] at hn'
            · simp only [upd_other _ _ he] at hn'; exact he (hr.tipinj n' n b hn' hob))
          have hT := (ht1.trans ht2).trans ht3
          rw [hrun _ hrn]
          refine hnext _ w' _ hr3 hT (.tip m i.size _ _ ?_ ?_)
          · refine .ofCells' List.length_append.symm (by simp only [upd_same]; omega) hneed hszEF ?_
            intro p q cs c v hp hq hv
            have h2 : q < cs.length := (List.getElem?_eq_some_iff.1 hq).1
            rw [hszEF p cs hp] at h2
            rw [List.getElem?_append] at hp
            split at hp
            · rename_i hplt
              have hlt := lt_slot hplt h2
              rw [holdc _ (by omega)] at hv
              have hold := horun w fun _ _ _ => rfl
              cases e1 with
              | nil => simp at hp
              | sl _ _ _ _ _ _ _ _ _ _ hc =>
                exact (hc p cs q c v hp hq (by rw [Nat.add_assoc]; exact hv)).mono hT.le
            · rename_i hpge
              have hplt : p - es.length < fs.length := by have := (List.getElem?_eq_some_iff.1 hp).1; omega
              have hlt := lt_slot hplt h2
              have hpq : p * i.size + q = es.length * i.size + ((p - es.length) * i.size + q) := by
                have : p = es.length + (p - es.length) := by omega
                conv => lhs; rw [this, Nat.add_mul]
                omega
              rw [cell?_cells hb', hp', if_pos (by omega)] at hv
              refine (hnc (p - es.length) q cs c v hp hq ?_).mono hT.le
              rw [← hv]; congr 1; omega
          · intro ob' hob'
            simp only [upd_same, Option.some.injEq] at hob'
            refine ⟨rfl, .inr ⟨hob'.symm, by simp only [upd_same], ?_⟩⟩
            intro p h3 h4
            simp only at h3 h4
            have h5 := hroom p (by omega) h4
            refine ⟨?_, ?_⟩
            · rw [cell?_cells hb']
              have : p < arr'.size := by omega
              simp [this]
            · have := h5.2
              simp only [World.frozen?, hblk] at this
              simp only [World.frozen?, hb']
              exact this
  · -- a new row
    obtain ⟨hrd', htd⟩ := hr1.drew
    have hdc : ∀ b k, k < g.γ b → (w.drew).cell? ⟨b, k, none⟩ = w.cell? ⟨b, k, none⟩ := fun _ _ _ => rfl
    have hrn := run_append_grows' (P := P) (w := w) (ty := o.type) h0 h1 hu ht hi hz (hnrun w.drew hdc) (horun w.drew hdc) hneed (by omega) hbig
    have hge := grownCap_ge w (es.length + fs.length) cap e
    generalize grownCap w (es.length + fs.length) cap e = nc at hrn hge
    have hmul : (es.length + fs.length) * i.size = es.length * i.size + fs.length * i.size := Nat.add_mul _ _ _
    have harr : (olds.toArray ++ news.toArray ++ Builtin.zeroCells z.cells (nc - (es.length + fs.length))).size = nc * i.size := by
      simp only [Array.size_append, List.size_toArray, size_zeroCells, hol, hnl, hzs]
      rw [← hmul, ← Nat.add_mul]
      congr 1; omega
    have hncm : (es.length + fs.length) * i.size ≤ nc * i.size := Nat.mul_le_mul_right _ hge
    generalize harrE : olds.toArray ++ news.toArray ++ Builtin.zeroCells z.cells (nc - (es.length + fs.length)) = arr at hrn harr
    obtain ⟨hr2, ht2⟩ := hrd'.newRow arr e ((es.length + fs.length) * i.size) (by omega)
    obtain ⟨hr3, ht3⟩ := hr2.addTip (m := m) hm (some w.drew.heap.size) hX (by
      intro b' hb'; cases hb'
      refine ⟨by simp, .inl hrd'.base, fun k p hk => ?_, fun n' hn' => ?_⟩
      · have := obRel_lt (hrd'.objs k p hk); simp only at this ⊢; omega
      · have := hrd'.tiplt n' _ hn'; omega)
    have hT := ((ht1.trans htd).trans ht2).trans ht3
    rw [hrun _ hrn]
    have hnewc : ∀ k, (w.drew.alloc (.cells arr e)).cell? ⟨w.drew.heap.size, k, none⟩ = arr[k]? := fun k => cell?_cells (heap_alloc_new w.drew (.cells arr e)) k
    refine hnext _ _ _ hr3 hT (.tip m i.size _ _ ?_ ?_)
    · have hww : w.heap.size = w.drew.heap.size := rfl
      rw [hww]
      refine .ofCells' List.length_append.symm (by simp only [upd_same]; omega) hge hszEF ?_
      intro p q cs c v hp hq hv
      have h2 : q < cs.length := (List.getElem?_eq_some_iff.1 hq).1
      rw [hszEF p cs hp] at h2
      rw [Nat.zero_add, hnewc, ← harrE] at hv
      rw [List.getElem?_append] at hp
      split at hp
      · rename_i hplt
        have hlt := lt_slot hplt h2
        rw [Array.append_assoc, Array.getElem?_append_left (by simp; omega)] at hv
        exact (hoc p q cs c v hp hq (by simpa using hv)).mono hT.le
      · rename_i hpge
        have hplt : p - es.length < fs.length := by have := (List.getElem?_eq_some_iff.1 hp).1; omega
        have hlt := lt_slot hplt h2
        have hpq : p * i.size + q = es.length * i.size + ((p - es.length) * i.size + q) := by
          have : p = es.length + (p - es.length) := by omega
          conv => lhs; rw [this, Nat.add_mul]
          omega
        rw [Array.getElem?_append_left (by simp; omega), Array.getElem?_append_right (by simp; omega)] at hv
        refine (hnc (p - es.length) q cs c v hp hq ?_).mono hT.le
        rw [← hv]
        simp only [List.size_toArray, List.getElem?_toArray]
        congr 1; omega
    · intro ob' hob'
      simp only [upd_same, Option.some.injEq] at hob'
      subst hob'
      have hww : w.heap.size = w.drew.heap.size := rfl
      refine ⟨rfl, .inr ⟨by rw [hww], by rw [hww]; simp only [upd_same, Nat.zero_add], ?_⟩⟩
      intro p h3 h4
      simp only [Nat.zero_add] at h3 h4
      rw [hww]
      refine ⟨by rw [hnewc]; simp; omega, ?_⟩
      exact frozen_of_row _ _ _ arr e (heap_alloc_new w.drew (.cells arr e))

end
end Go.Ab
