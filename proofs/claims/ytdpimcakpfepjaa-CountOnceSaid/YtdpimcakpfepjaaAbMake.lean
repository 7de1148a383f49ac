/-
  Struct values, slices made of parts, append.
-/
import Derived.Test.YtdpimcakpfepjaaAbStore
set_option linter.unusedVariables false
set_option linter.unusedSimpArgs false
namespace Go.Ab

structure StructI (P : Program) (t : TypeId) (pl : List (Nat × Nat)) : Prop where
  is : ∃ fs, P.underlying t = some (.struct fs) ∧ fs.toList.map (fun f => (f.offset, (P.info? f.type).map (·.size))) = pl.map fun p => (p.1, some p.2)

/-- cells of a zero value, as data -/
inductive ZCells : List AV → List Value → Prop
  | nil : ZCells [] []
  | sc (v : Value) {r : List AV} {rs : List Value} : ZCells r rs → ZCells (.d (.sc v) :: r) (v :: rs)
  | sl (sz : Nat) {r : List AV} {rs : List Value} : ZCells r rs → ZCells (.d (.sl sz []) :: r) (.slice none 0 0 :: rs)

theorem ZCells.ra {l : List AV} {vs : List Value} (h : ZCells l vs) (g : Gh) (w : World) : l.length = vs.length ∧ ∀ (i : Nat) x v, l[i]? = some x → vs[i]? = some v → RA g w x v := by
  induction h with
  | nil => exact ⟨rfl, by simp⟩
  | sc v _ ih =>
    refine ⟨by simp [ih.1], ?_⟩
    intro i x u hx hu
    cases i with
    | zero => simp at hx hu; subst hx; subst hu; exact .ofSc _ _ _
    | succ i => exact ih.2 i x u (by simpa using hx) (by simpa using hu)
  | sl sz _ ih =>
    refine ⟨by simp [ih.1], ?_⟩
    intro i x u hx hu
    cases i with
    | zero => simp at hx hu; subst hx; subst hu; exact .d _ _ (.nil sz none 0 fun _ => rfl)
    | succ i => exact ih.2 i x u (by simpa using hx) (by simpa using hu)

/-- A type's zero value. -/
structure ZeroI (P : Program) (t : TypeId) (cs : List AV) : Prop where
  is : ∃ i z, P.info? t = some i ∧ i.zero = some z ∧ ZCells cs z.cells.toList

theorem ZeroI.ra {P : Program} {t : TypeId} {cs : List AV} {z : Value} (h : ZCells cs z.cells.toList) (g : Gh) (w : World) : RA g w (.agg cs) (.agg z.cells) := by
  obtain ⟨h1, h2⟩ := h.ra g w
  exact .agg _ _ (by simpa using h1) (fun i x v hx hv => h2 i x v hx (by simpa using hv))

def fillA (place : Nat → Option (Nat × Nat)) : List AV → List (Nat × AV) → Option (List AV)
  | cs, [] => some cs
  | cs, (i, x) :: r =>
    match place i with
    | none => none
    | some (off, sz) => if x.cells.length = sz ∧ off + x.cells.length ≤ cs.length then fillA place (splice cs off x.cells) r else none

theorem foldl_set (vs : List Value) (off : Nat) : ∀ (n : Nat) (cs : Array Value) (j : Nat), off + n + vs.length ≤ cs.size →
    ((vs.zipIdx n).foldl (fun cs p => cs.setIfInBounds (off + p.2) p.1) cs)[j]? = if off + n ≤ j ∧ j < off + n + vs.length then vs[j - (off + n)]? else cs[j]? := by
  induction vs with
  | nil => intro n cs j _; rw [if_neg (by simp only [List.length_nil]; omega)]; rfl
  | cons v vs ih =>
    intro n cs j hl
    simp only [List.length_cons] at hl ⊢
    rw [List.zipIdx_cons, List.foldl_cons, ih (n + 1) _ j (by simp; omega)]
    by_cases h1 : j = off + n
    · subst h1
      rw [if_neg (by omega), if_pos (by omega)]
      have : off + n < cs.size := by omega
      simp [this]
    · by_cases h2 : off + (n + 1) ≤ j ∧ j < off + (n + 1) + vs.length
      · rw [if_pos h2, if_pos (by omega), show j - (off + n) = (j - (off + (n + 1))) + 1 by omega]
        rfl
      · rw [if_neg h2, if_neg (by omega)]
        simp [Ne.symm h1]

theorem foldl_set_size (vs : List (Value × Nat)) (off : Nat) : ∀ (cs : Array Value), (vs.foldl (fun cs p => cs.setIfInBounds (off + p.2) p.1) cs).size = cs.size := by
  induction vs with
  | nil => intro cs; rfl
  | cons v vs ih => intro cs; rw [List.foldl_cons, ih]; simp

theorem fill_run {g : Gh} {w : World} {place : Nat → Option (Nat × Nat)} : ∀ (parts : List (Nat × AV)) (vs : List (Nat × Value)) (cs : List AV) (arr : Array Value) (out : List AV),
    parts.length = vs.length → (∀ (i : Nat) p q, parts[i]? = some p → vs[i]? = some q → p.1 = q.1 ∧ RA g w p.2 q.2) → (parts.all fun p => okSc p.2) = true →
    cs.length = arr.size → (∀ (i : Nat) x v, cs[i]? = some x → arr[i]? = some v → RA g w x v) → fillA place cs parts = some out →
    ∃ arr', Instr.fill place arr vs = some arr' ∧ out.length = arr'.size ∧ ∀ (i : Nat) x v, out[i]? = some x → arr'[i]? = some v → RA g w x v
  | [], vs, cs, arr, out, hl, _, _, hs, hc, hf => by
    cases vs with
    | nil => simp [fillA] at hf; subst hf; exact ⟨arr, rfl, hs, hc⟩
    | cons _ _ => simp at hl
  | (i, x) :: parts, vs, cs, arr, out, hl, hp, hok, hs, hc, hf => by
    cases vs with
    | nil => simp at hl
    | cons q vs =>
      obtain ⟨i', u⟩ := q
      obtain ⟨he, hx⟩ := hp 0 (i, x) (i', u) rfl rfl
      simp only at he hx
      subst he
      simp only [List.all_cons, Bool.and_eq_true] at hok
      obtain ⟨c1, c2⟩ := hx.cells hok.1
      simp only [fillA] at hf
      simp only [Instr.fill]
      cases hpl : place i with
      | none => rw [hpl] at hf; cases hf
      | some q =>
        obtain ⟨off, sz⟩ := q
        rw [hpl] at hf
        simp only at hf ⊢
        split at hf
        · rename_i hcond
          have hcond' : ¬ (u.cells.size ≠ sz || off + u.cells.size > arr.size) = true := by
            simp; omega
          rw [if_neg hcond']
          have hrw : (Array.foldl (fun cs (x : Value × Nat) => match x with | (c, j) => cs.setIfInBounds (off + j) c) arr u.cells.zipIdx) = (u.cells.toList.zipIdx 0).foldl (fun cs p => cs.setIfInBounds (off + p.2) p.1) arr := by
            rw [← Array.foldl_toList, Array.toList_zipIdx]
          rw [hrw]
          refine fill_run parts vs _ _ out (by simpa using hl) (fun j p q hp' hq => hp (j + 1) p q (by simpa using hp') (by simpa using hq)) hok.2 ?_ ?_ hf
          · rw [splice_length (by omega), foldl_set_size, hs]
          · intro j y v hy hv
            rw [splice_get (by omega)] at hy
            rw [foldl_set _ _ _ _ _ (by simp; omega)] at hv
            simp only [Nat.add_zero, Array.length_toList] at hv
            by_cases hin : off ≤ j ∧ j < off + x.cells.length
            · rw [if_pos hin] at hy
              rw [if_pos (by omega)] at hv
              exact c2 _ y v hy (by simpa using hv)
            · rw [if_neg hin] at hy
              rw [if_neg (by omega)] at hv
              exact hc j y v hy hv
        · cases hf

theorem mapM_fields {P : Program} {w : World} : ∀ (fs : List Field) (pl : List (Nat × Nat)), fs.map (fun f => (f.offset, (P.info? f.type).map (·.size))) = pl.map (fun p => (p.1, some p.2)) →
    (fs.mapM fun f => (do pure (f.offset, ← sizeOf f.type) : Sem (Nat × Nat))).run P w = .ok pl w
  | [], pl, h => by
    cases pl with
    | nil => rfl
    | cons _ _ => simp at h
  | f :: fs, pl, h => by
    cases pl with
    | nil => simp at h
    | cons q pl =>
      simp only [List.map_cons, List.cons.injEq, Prod.mk.injEq] at h
      obtain ⟨⟨h1, h2⟩, h3⟩ := h
      obtain ⟨i, hi, h4⟩ := Option.map_eq_some_iff.1 h2
      rw [List.mapM_cons, Sem.run_bind, Sem.run_bind, run_sizeOf hi, Result.andThen_ok]
      simp only [Sem.run_pure, Result.andThen_ok, Sem.run_bind]
      rw [mapM_fields fs pl h3]
      simp only [Result.andThen_ok, Sem.run_pure]
      rw [h1, h4]

section
variable {P : Program} {o : Oper} {X : Store}

/-- T{f: x, ..} -/
theorem op_build {t : TypeId} {parts : Array (Nat × Operand)} {pl : List (Nat × Nat)} {zs out : List AV} {xs : List AV} (ho : o.op = .build t parts) (ht : StructI P t pl) (hz : ZeroI P t zs)
    (hx : xs.length = parts.size) (hok : xs.all okSc = true) (hf : fillA (fun i => pl[i]?) zs ((parts.toList.map (·.1)).zip xs) = some out) :
    OpT P o ((parts.toList.map (·.2)).zip xs) X X [] (joinAgg out) :=
  .quiet fun _ _ g w ac hr hrd => by
    obtain ⟨fs, hfs, hpl⟩ := ht.is
    obtain ⟨i, z, hi, hzz, hzc⟩ := hz.is
    obtain ⟨z1, z2⟩ := hzc.ra g w
    obtain ⟨arr', hfill, hl, hc⟩ := fill_run (g := g) (w := w) (place := fun i => pl[i]?) ((parts.toList.map (·.1)).zip xs) (parts.toList.map fun p => (p.1, ac.eval p.2)) zs z.cells out (by simp [hx]) (by
      intro j p q hp hq
      rw [List.getElem?_map, Option.map_eq_some_iff] at hq
      obtain ⟨pt, hpt, rfl⟩ := hq
      rw [List.getElem?_zip_eq_some] at hp
      obtain ⟨hp1, hp2⟩ := hp
      rw [List.getElem?_map, hpt] at hp1
      simp at hp1
      refine ⟨hp1.symm, ?_⟩
      have := hrd (pt.2, p.2) (List.mem_of_getElem? (i := j) (by
        rw [List.getElem?_zip_eq_some]
        exact ⟨by rw [List.getElem?_map, hpt]; rfl, hp2⟩))
      exact this) (by
      rw [List.all_eq_true] at hok ⊢
      intro p hp
      exact hok _ (List.of_mem_zip hp).2) (by simpa using z1) (fun i x v hx hv => z2 i x v hx (by simpa using hv)) hf
    refine ⟨.agg arr', ?_, RA.join hl hc⟩
    simp only [execOp, ho, Instr.build]
    have hm : (Array.mapM (fun f => (do pure (f.offset, ← sizeOf f.type) : Sem (Nat × Nat))) fs).run P w = .ok pl.toArray w := by
      rw [Array.mapM_eq_mapM_toList, Sem.run_map, mapM_fields _ _ hpl]; rfl
    have hfill' : Instr.fill (fun x => pl[x]?) z.cells (List.map (fun x => (x.1, ac.eval x.2)) parts.toList) = some arr' := hfill
    simp [zeroValue, typeInfo, hi, hzz, run_underlying hfs]
    simp at hm
    rw [hm]
    simp [hfill']

end
end Go.Ab
