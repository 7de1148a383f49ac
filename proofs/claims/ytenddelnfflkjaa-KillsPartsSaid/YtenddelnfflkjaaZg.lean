import Derived.Test.YtenddelnfflkjaaZe
set_option linter.unusedVariables false
set_option linter.unusedSimpArgs false
namespace Go.Xl
open Go.Ab
def Ty.In : (t : Ty) → t.T → Prop
  | .int k, n => (Lit.int k n).wf = true
  | .u8, _ => True
  | .bool, _ => True
  | .str, l => l.length ≤ maxLen
  | .sl a, l => l.length ≤ maxLen ∧ ∀ x ∈ l, a.In x
  | .unit, _ => True
  | .pair a b, x => a.In x.1 ∧ b.In x.2
  | .st1 a, x => a.In x
  | .tab _, _ => True
  | .err, _ => True
  | .ic _ _, _ => True
  | .ptr, _ => True
def opFs (P : Program) (rec : TypeId → Ty → Bool) : Nat → List Field → Ty → Bool
  | off, [f], .st1 a => cond (Nat.beq f.offset off) (cond (Nat.beq (P.cellsOf f.type) a.size) (rec f.type a) false) false
  | off, [f, g], .pair a b => cond (Nat.beq f.offset off) (cond (Nat.beq (P.cellsOf f.type) a.size) (cond (rec f.type a) (cond (Nat.beq g.offset (off + a.size)) (cond (Nat.beq (P.cellsOf g.type) b.size) (rec g.type b) false) false) false) false) false
  | off, f :: g :: h :: r, .pair a b => cond (Nat.beq f.offset off) (cond (Nat.beq (P.cellsOf f.type) a.size) (cond (rec f.type a) (opFs P rec (off + a.size) (g :: h :: r) b) false) false) false
  | _, _, _ => false
def opB (P : Program) : Nat → TypeId → Ty → Bool
  | 0, _, _ => false
  | n + 1, t, ty =>
    match P.underlying t, ty with
    | some (.int k), .int k' => cond (kindB k k') true false
    | some (.int .u8), .u8 => true
    | some .bool, .bool => true
    | some .string, .str => true
    | some (.slice e), .sl a => cond (Nat.beq (P.cellsOf e) a.size) (cond (Nat.ble 1 a.size) (opB P n e a) false) false
    | some (.struct fs), a => cond a.agg (cond (Nat.beq (P.cellsOf t) a.size) (opFs P (opB P n) 0 fs.toList a) false) false
    | _, _ => false
def CellsD (γ : Nat → Nat) (w : World) (ds : List D) (cs : List Value) : Prop := ds.length = cs.length ∧ ∀ (i : Nat) d v, ds[i]? = some d → cs[i]? = some v → RD γ w d v
theorem CellsD.one {γ : Nat → Nat} {w : World} {d : D} {v : Value} (h : RD γ w d v) : CellsD γ w [d] [v] := by
  refine ⟨rfl, fun i e u he hu => ?_⟩
  cases i with
  | zero => simp at he hu; subst he; subst hu; exact h
  | succ i => simp at he
theorem CellsD.append {γ : Nat → Nat} {w : World} {a b : List D} {cs ds : List Value} (h : CellsD γ w a cs) (h' : CellsD γ w b ds) : CellsD γ w (a ++ b) (cs ++ ds) := by
  refine ⟨by simp [h.1, h'.1], fun i e u he hu => ?_⟩
  rw [List.getElem?_append] at he hu
  rw [← h.1] at hu
  split at he
  · rename_i hlt
    rw [if_pos hlt] at hu
    exact h.2 i e u he hu
  · rename_i hge
    rw [if_neg hge] at hu
    exact h'.2 _ e u he hu
theorem cT {a b : Bool} (h : cond a b false = true) : a = true ∧ b = true := by
  cases a <;> simp at h; exact ⟨rfl, h⟩
section
variable {H : Type} {enc : TypeId × Value → H} {P : Program} {W : World}
def OpR (P : Program) (W : World) (H : Type) (enc : TypeId × Value → H) (fuel : Nat) (rec : TypeId → Ty → Bool) : Prop :=
  ∀ (t : TypeId) (ty : Ty) (cs : List Value) (d : DataW H) (ps : List MemPlace), rec t ty = true → DataW.trod enc P W 0 (fun _ => true) true fuel t cs = some (d, ps) →
    ∃ x : ty.T, ty.In x ∧ CellsD (fullγ W) W (ty.ds x) cs
theorem take_split {α : Type} (l : List α) (off a b : Nat) : (l.drop off).take (a + b) = (l.drop off).take a ++ (l.drop (off + a)).take b := by
  rw [List.take_add, List.drop_drop]
theorem open_fs {fuel : Nat} {rec : TypeId → Ty → Bool} (hr : OpR P W H enc fuel rec) {cs : List Value} : ∀ (fs : List Field) (off : Nat) (ty : Ty), opFs P rec off fs ty = true →
    (∀ f ∈ fs, ∃ y, DataW.trod enc P W 0 (fun _ => true) true fuel f.type ((cs.drop f.offset).take (P.cellsOf f.type)) = some y) →
    ∃ x : ty.T, ty.In x ∧ CellsD (fullγ W) W (ty.ds x) ((cs.drop off).take ty.size)
  | [], off, ty, h, hf => by cases ty <;> simp [opFs] at h
  | [f], off, ty, h, hf => by
    cases ty with
    | st1 a =>
      simp only [opFs] at h
      obtain ⟨h1, h⟩ := cT h
      obtain ⟨h2, h⟩ := cT h
      have h1 := Nat.eq_of_beq_eq_true h1
      have h2 := Nat.eq_of_beq_eq_true h2
      obtain ⟨y, hy⟩ := hf f (by simp)
      rw [h1, h2] at hy
      exact hr f.type a _ _ _ h hy
    | _ => simp [opFs] at h
  | [f, g], off, ty, h, hf => by
    cases ty with
    | pair a b =>
      simp only [opFs] at h
      obtain ⟨h1, h⟩ := cT h
      obtain ⟨h2, h⟩ := cT h
      obtain ⟨h3, h⟩ := cT h
      obtain ⟨h4, h⟩ := cT h
      obtain ⟨h5, h⟩ := cT h
      have h1 := Nat.eq_of_beq_eq_true h1
      have h2 := Nat.eq_of_beq_eq_true h2
      have h4 := Nat.eq_of_beq_eq_true h4
      have h5 := Nat.eq_of_beq_eq_true h5
      obtain ⟨y, hy⟩ := hf f (by simp)
      obtain ⟨z, hz⟩ := hf g (by simp)
      rw [h1, h2] at hy
      rw [h4, h5] at hz
      obtain ⟨x1, i1, c1⟩ := hr _ _ _ _ _ h3 hy
      obtain ⟨x2, i2, c2⟩ := hr _ _ _ _ _ h hz
      refine ⟨(x1, x2), ⟨i1, i2⟩, ?_⟩
      simp only [Ty.ds, Ty.size]
      rw [take_split]
      exact c1.append c2
    | _ => simp [opFs] at h
  | f :: g :: k :: r, off, ty, h, hf => by
    cases ty with
    | pair a b =>
      simp only [opFs] at h
      obtain ⟨h1, h⟩ := cT h
      obtain ⟨h2, h⟩ := cT h
      obtain ⟨h3, h⟩ := cT h
      have h1 := Nat.eq_of_beq_eq_true h1
      have h2 := Nat.eq_of_beq_eq_true h2
      obtain ⟨y, hy⟩ := hf f (by simp)
      rw [h1, h2] at hy
      obtain ⟨x1, i1, c1⟩ := hr _ _ _ _ _ h3 hy
      obtain ⟨x2, i2, c2⟩ := open_fs hr (g :: k :: r) (off + a.size) b h (fun q hq => hf q (List.mem_cons_of_mem _ hq))
      refine ⟨(x1, x2), ⟨i1, i2⟩, ?_⟩
      simp only [Ty.ds, Ty.size]
      rw [take_split]
      exact c1.append c2
    | _ => simp [opFs] at h
theorem choose_list {α β : Type} (p : Nat → β → α → Prop) : ∀ (l : List β), (∀ i y, l[i]? = some y → ∃ x, p i y x) → ∃ xs : List α, xs.length = l.length ∧ ∀ i y x, l[i]? = some y → xs[i]? = some x → p i y x := by
  intro l
  induction l generalizing p with
  | nil => intro _; exact ⟨[], rfl, by simp⟩
  | cons a r ih =>
    intro h
    obtain ⟨x, hx⟩ := h 0 a rfl
    obtain ⟨xs, h1, h2⟩ := ih (fun i => p (i + 1)) (fun i y hy => h (i + 1) y (by simpa using hy))
    refine ⟨x :: xs, by simp [h1], fun i y z hy hz => ?_⟩
    cases i with
    | zero => simp at hy hz; subst hy; subst hz; exact hx
    | succ i => exact h2 i y z (by simpa using hy) (by simpa using hz)
theorem open_cells : ∀ (n fuel : Nat), OpR P W H enc fuel (opB P n)
  | 0, fuel => by intro t ty cs d ps ho; simp [opB] at ho
  | n + 1, fuel => by
    intro t ty cs d ps ho h
    unfold opB at ho
    split at ho
    · rename_i k k' hu
      obtain ⟨hk, _⟩ := cT ho
      have := kindB_eq hk
      subst this
      obtain ⟨m, rfl, _, hw⟩ := DataW.trod_int hu h
      exact ⟨m, hw, .one (.sc _)⟩
    · rename_i hu
      obtain ⟨m, rfl, _, hw⟩ := DataW.trod_int hu h
      have hm : 0 ≤ m ∧ m ≤ 255 := by simpa [Lit.wf, IntKind.wrap, IntKind.bits, IntKind.signed, IntKind.min, IntKind.max] using hw
      refine ⟨UInt8.ofNat m.toNat, trivial, .one ?_⟩
      have : (((UInt8.ofNat m.toNat).toNat : Nat) : Int) = m := by
        rw [UInt8.toNat_ofNat']; omega
      rw [this]
      exact .sc _
    · rename_i hu
      obtain ⟨b, rfl, _⟩ := DataW.trod_bool hu h
      exact ⟨b, trivial, .one (.sc _)⟩
    · rename_i hu
      obtain ⟨s, rfl, _, hw⟩ := DataW.trod_string hu h
      exact ⟨s.data.toList, by simpa [Ty.In] using hw, .one (.sc _)⟩
    · rename_i e a hu
      obtain ⟨h1, ho⟩ := cT ho
      obtain ⟨h2, ho⟩ := cT ho
      have h1 := Nat.eq_of_beq_eq_true h1
      have h2 := Nat.le_of_ble_eq_true h2
      rcases DataW.trod_slice hu h with ⟨rfl, _⟩ | ⟨ad, len, cap, elems, rest, m, rfl, rfl, _, hb, hl, hc, hel, hcell, _, _⟩
      · exact ⟨[], ⟨by simp, by simp⟩, .one (.nil _ _ _ fun _ => rfl)⟩
      · have key : ∀ i y, (List.range len)[i]? = some y → ∃ x : a.T, a.In x ∧ ∃ cs', cs'.length = a.size ∧ CellsD (fullγ W) W (a.ds x) cs' ∧ ∀ j, j < a.size → W.cell? ((ad.add (i * a.size)).add j) = cs'[j]? := by
          intro i y hi
          have hlt : i < len := by have := (List.getElem?_eq_some_iff.1 hi).1; simpa using this
          have hc := hcell i hlt
          obtain ⟨z, hz⟩ : ∃ z, elems[i]? = some z := ⟨_, List.getElem?_eq_getElem (by omega)⟩
          rw [hz, Option.bind_eq_some_iff, h1] at hc
          obtain ⟨cs', hc1, hc2⟩ := hc
          obtain ⟨_, hcl, hcc⟩ := World.cells?_some hc1
          obtain ⟨x, hx1, hx2⟩ := open_cells n m _ _ _ _ _ ho hc2
          exact ⟨x, hx1, cs', hcl, hx2, hcc⟩
        obtain ⟨xs, hxl, hx⟩ := choose_list _ _ key
        rw [List.length_range] at hxl
        have hxs : ∀ i x, xs[i]? = some x → a.In x ∧ ∃ cs', cs'.length = a.size ∧ CellsD (fullγ W) W (a.ds x) cs' ∧ ∀ j, j < a.size → W.cell? ((ad.add (i * a.size)).add j) = cs'[j]? := by
          intro i x hi
          have hlt : i < len := by have := (List.getElem?_eq_some_iff.1 hi).1; omega
          exact hx i i x (by simp [hlt]) hi
        refine ⟨xs, ⟨by omega, fun x hm => ?_⟩, .one ?_⟩
        · obtain ⟨i, hi⟩ := List.mem_iff_getElem?.1 hm
          exact (hxs i x hi).1
        · rcases Nat.eq_zero_or_pos len with h0 | h0
          · have : xs = [] := List.eq_nil_of_length_eq_zero (by omega)
            subst this
            subst h0
            exact .nil _ (some ad) cap (by simp)
          · have spot : ad.spot = none := by
              obtain ⟨x0, hx0⟩ : ∃ z, xs[0]? = some z := ⟨_, List.getElem?_eq_getElem (by omega)⟩
              obtain ⟨_, cs', hl', _, hc'⟩ := hxs 0 x0 hx0
              have := hc' 0 (by omega)
              rw [List.getElem?_eq_getElem (by omega)] at this
              have := World.cell?_spot this
              simpa [Addr.add] using this
            obtain ⟨b, off, sp⟩ := ad
            simp only at spot
            subst spot
            have hcell' : ∀ i x, xs[i]? = some x → ∃ cs', cs'.length = a.size ∧ CellsD (fullγ W) W (a.ds x) cs' ∧ ∀ j, j < a.size → W.cell? ⟨b, off + (i * a.size + j), none⟩ = cs'[j]? := by
              intro i x hi
              obtain ⟨_, cs', hl', hd', hc'⟩ := hxs i x hi
              refine ⟨cs', hl', hd', fun j hj => ?_⟩
              have := hc' j hj
              rwa [WideShapes.add_plain, WideShapes.add_plain, Nat.add_assoc] at this
            refine .ofCells' (by simp [hxl]) ?_ hl ?_ ?_
            · obtain ⟨x, hx⟩ : ∃ z, xs[len - 1]? = some z := ⟨_, List.getElem?_eq_getElem (by omega)⟩
              obtain ⟨cs', hl', _, hc'⟩ := hcell' (len - 1) x hx
              have := hc' (a.size - 1) (by omega)
              rw [List.getElem?_eq_getElem (by omega)] at this
              have := fullγ_cell this
              have e : len * a.size = (len - 1) * a.size + a.size := by
                rw [← Nat.succ_mul]; congr 1; omega
              show off + len * a.size ≤ fullγ W b
              omega
            · intro i cs hi
              rw [List.getElem?_map, Option.map_eq_some_iff] at hi
              obtain ⟨x, _, rfl⟩ := hi
              exact a.ds_length x
            · intro i j cs c u hi hj hu
              rw [List.getElem?_map, Option.map_eq_some_iff] at hi
              obtain ⟨x, hx, rfl⟩ := hi
              obtain ⟨cs', hl', hd', hc'⟩ := hcell' i x hx
              have hjl : j < a.size := by have := (List.getElem?_eq_some_iff.1 hj).1; rwa [a.ds_length] at this
              rw [hc' j hjl] at hu
              exact hd'.2 j c u hj hu
    · rename_i fs hu
      obtain ⟨_, ho⟩ := cT ho
      obtain ⟨h2, ho⟩ := cT ho
      have h2 := Nat.eq_of_beq_eq_true h2
      obtain ⟨xs, m, rfl, _, hl, hxl, hall⟩ := DataW.trod_struct hu h
      obtain ⟨x, hx1, hx2⟩ := open_fs (open_cells n m) (cs := cs) fs.toList 0 _ ho (by
        intro f hf
        obtain ⟨i, hi⟩ := List.mem_iff_getElem?.1 hf
        have hi' : fs[i]? = some f := by simpa using hi
        have := hall i f hi'
        rw [this]
        have hlt := (Array.getElem?_eq_some_iff.1 hi').1
        exact ⟨_, List.getElem?_eq_getElem (by omega)⟩)
      refine ⟨x, hx1, ?_⟩
      rw [List.drop_zero, List.take_of_length_le (by omega)] at hx2
      exact hx2
    · cases ho
theorem open_arg {b0 n : Nat} {t : TypeId} {ty : Ty} {v : Value} {d : DataW H} {ps : List MemPlace} (ho : opB P n t ty = true) (hv : Value.okWide P W .any b0 t v)
    (h : DataW.Trod enc P W 0 (fun _ => true) true t v d ps) : ∃ x : ty.T, ty.In x ∧ RA (full W) W (XV.d (ty.xv x)).a v := by
  obtain ⟨fuel, hf⟩ := h
  obtain ⟨x, h1, h2⟩ := open_cells n fuel _ _ _ _ _ ho hf
  refine ⟨x, h1, .d _ _ ?_⟩
  show RD (fullγ W) W (ty.dv x) v
  cases hagg : ty.agg with
  | true =>
    rw [ty.dv_agg x hagg]
    have : ∃ fs, P.underlying t = some (.struct fs) := by
      cases n with
      | zero => simp [opB] at ho
      | succ n =>
        unfold opB at ho
        split at ho <;> simp_all [Ty.agg]
    obtain ⟨fs, hu⟩ := this
    obtain ⟨cs, rfl, _⟩ := WideShapes.okWide_struct hu hv
    simp only [Value.cells] at h2
    exact .agg _ _ (by simpa using h2.1) fun i c u hc hu => h2.2 i c u hc (by simpa using hu)
  | false =>
    rw [ty.dv_one x hagg] at h2
    have hv' : v.cells = #[v] := by
      have := h2.1
      cases v with
      | agg cs =>
        exfalso
        cases n with
        | zero => simp [opB] at ho
        | succ n =>
          unfold opB at ho
          split at ho
          · rename_i hu; obtain ⟨_, e⟩ := WideShapes.okWide_int hu hv; cases e
          · rename_i hu; obtain ⟨_, e⟩ := WideShapes.okWide_int hu hv; cases e
          · rename_i hu; obtain ⟨_, e⟩ := WideShapes.okWide_bool hu hv; cases e
          · rename_i hu; obtain ⟨_, e⟩ := WideShapes.okWide_string hu hv; cases e
          · rename_i hu; obtain ⟨_, _, _, e⟩ := WideShapes.okWide_slice hu hv; cases e
          · rw [hagg] at ho; simp at ho
          · cases ho
      | _ => rfl
    rw [hv'] at h2
    exact h2.2 0 _ _ rfl rfl
end
end Go.Xl
