/-
  Contracts, the way into a function and out of it, a call of a function that touches no object.
-/
import Derived.Test.YtdpimcakpfepjaaAbCode
import Derived.Laws.Cells
import Derived.Laws.Entries
import Derived.Laws.Append
import Derived.Laws.StructEq
import Derived.Laws.Strings
import Derived.Laws.Slices
import Derived.Laws.Small
import Derived.Tactics
set_option linter.unusedVariables false
set_option linter.unusedSimpArgs false
namespace Go.Ab

def aggD : TypeDesc → Bool
  | .struct _ => true
  | .array _ _ => true
  | _ => false

/-- What a type is to loads and stores. -/
structure TyI (P : Program) (t : TypeId) (agg : Bool) (sz : Nat) : Prop where
  und : ∃ d, P.underlying t = some d ∧ aggD d = agg
  info : ∃ i, P.info? t = some i ∧ i.size = sz

theorem run_isAgg {P : Program} {t : TypeId} {agg : Bool} {sz : Nat} (h : TyI P t agg sz) (w : World) : (isAgg t).run P w = .ok agg w := by
  obtain ⟨d, hd, ha⟩ := h.und
  unfold isAgg
  rw [Sem.run_bind, run_underlying hd]
  subst ha
  cases d <;> rfl

theorem run_sizeOf {P : Program} {t : TypeId} {i : TypeInfo} (h : P.info? t = some i) (w : World) : (sizeOf t).run P w = .ok i.size w := by
  simp [sizeOf, typeInfo, h]

theorem TyI.run_size {P : Program} {t : TypeId} {agg : Bool} {sz : Nat} (h : TyI P t agg sz) (w : World) : (sizeOf t).run P w = .ok sz w := by
  obtain ⟨i, hi, rfl⟩ := h.info
  exact run_sizeOf hi w

theorem addr_add (b off i : Nat) : (⟨b, off, none⟩ : Addr).add i = ⟨b, off + i, none⟩ := by
  unfold Addr.add; split
  · rename_i h; subst h; rfl
  · rfl

/-- A load of cells that are known. -/
theorem run_loadVar_cells {P : Program} {t : TypeId} {agg : Bool} {sz : Nat} (h : TyI P t agg sz) (w : World) (b off : Nat) (vs : Array Value) (hl : vs.size = sz)
    (hc : ∀ (i : Nat) v, vs[i]? = some v → w.cell? ⟨b, off + i, none⟩ = some v) (h1 : agg = false → sz = 1) :
    (loadVar t ⟨b, off, none⟩).run P w = .ok (if agg then .agg vs else vs.getD 0 undef) w := by
  unfold loadVar
  rw [Sem.run_bind, run_isAgg h, Result.andThen_ok]
  cases agg with
  | true =>
    have := run_loadCells_list (P := P) w ⟨b, off, none⟩ vs.toList (by
      intro j v hj
      rw [addr_add]
      exact hc j v (by simpa using hj))
    simp only [if_true, Sem.run_bind, h.run_size, Result.andThen_ok]
    rw [← hl, ← Array.length_toList, this]
    simp
  | false =>
    have h1 := h1 rfl
    have h0 : 0 < vs.size := by omega
    have hc0 := hc 0 vs[0] (by simp [h0])
    simp only [Bool.false_eq_true, if_false, run_load]
    rw [Nat.add_zero] at hc0
    rw [hc0]
    simp [Array.getD, h0]

def allD : List AV → Option (List D)
  | [] => some []
  | .d x :: r => (allD r).map (x :: ·)
  | _ :: _ => none

def joinAgg (cs : List AV) : AV :=
  match allD cs with
  | some ds => .d (.agg ds)
  | none => .agg cs

theorem allD_map {cs : List AV} {ds : List D} (h : allD cs = some ds) : cs = ds.map .d := by
  induction cs generalizing ds with
  | nil => simp [allD] at h; subst h; rfl
  | cons x r ih =>
    cases x with
    | d x =>
      simp only [allD, Option.map_eq_some_iff] at h
      obtain ⟨l, hl, rfl⟩ := h
      rw [ih hl]; rfl
    | _ => simp [allD] at h

theorem RA.join {g : Gh} {w : World} {cs : List AV} {vs : Array Value} (hl : cs.length = vs.size)
    (h : ∀ (i : Nat) x v, cs[i]? = some x → vs[i]? = some v → RA g w x v) : RA g w (joinAgg cs) (.agg vs) := by
  unfold joinAgg
  split
  · rename_i ds hd
    have := allD_map hd
    subst this
    refine .d _ _ (.agg ds vs (by simpa using hl) fun i c v hc hv => ?_)
    have := h i (.d c) v (by simp [hc]) hv
    cases this with
    | d _ _ h => exact h
  · exact .agg cs vs hl h

/-- What a load of type t at an object's cell gives. -/
inductive Loads (P : Program) (X : Store) (t : TypeId) (k off : Nat) : AV → Prop
  | agg (sz : Nat) (cs : List AV) (x : AV) : TyI P t true sz → X.objs.lookup k = some (.cells cs) → off + sz ≤ cs.length → joinAgg ((cs.drop off).take sz) = x → Loads P X t k off x
  | one (cs : List AV) (x : AV) : TyI P t false 1 → X.objs.lookup k = some (.cells cs) → cs[off]? = some x → Loads P X t k off x

theorem cell?_cells {w : World} {b : Nat} {arr : Array Value} {T : TypeId} {fr : Nat × Nat} (h : w.heap[b]? = some (.cells arr T fr)) (i : Nat) :
    w.cell? ⟨b, i, none⟩ = arr[i]? := by simp [World.cell?, h]

theorem Loads.run {P : Program} {nm : List Nat} {B : Base} {g : Gh} {w : World} {X : Store} {t : TypeId} {k off : Nat} {x : AV} (h : Loads P X t k off x) (hr : HR nm B g w X) :
    ∃ v, (loadVar t ⟨g.ρ k, off, none⟩).run P w = .ok v w ∧ RA g w x v := by
  cases h with
  | agg sz cs x ht hk hlen hx =>
    subst hx
    cases hr.objs k _ hk with
    | cells _ arr T hb hl hc =>
      refine ⟨.agg (arr.extract off (off + sz)), ?_, ?_⟩
      · have := run_loadVar_cells ht w (g.ρ k) off (arr.extract off (off + sz)) (by simp; omega) (by
          intro i v hv
          rw [cell?_cells hb]
          rw [Array.getElem?_extract] at hv
          split at hv
          · exact hv
          · cases hv) (by simp)
        simpa using this
      · refine RA.join (by simp; omega) ?_
        intro i x v hx hv
        rw [Array.getElem?_extract] at hv
        split at hv
        · rw [List.getElem?_take] at hx
          split at hx
          · rw [List.getElem?_drop] at hx
            exact hc _ x v hx hv
          · cases hx
        · cases hv
  | one cs x ht hk hx =>
    cases hr.objs k _ hk with
    | cells _ arr T hb hl hc =>
      have hlt : off < arr.size := by have := (List.getElem?_eq_some_iff.1 hx).1; omega
      refine ⟨arr[off], ?_, hc off x _ hx (by simp [hlt])⟩
      have := run_loadVar_cells ht w (g.ρ k) off #[arr[off]] rfl (by
        intro i v hv
        cases i with
        | zero => simp at hv; subst hv; rw [Nat.add_zero, cell?_cells hb]; simp [hlt]
        | succ i => simp at hv) (fun _ => rfl)
      simpa using this

inductive RV (P : Program) (st : St) : ResultVar → AV → Prop
  | tmp (t : Nat) (x : AV) : Has st.env t x → RV P st (.tmp t) x
  | cell (a : Nat) (ty : TypeId) (k off : Nat) (x : AV) : Has st.env a (.ptr k off) → Loads P st.X ty k off x → RV P st (.cell a ty) x

inductive RVs (P : Program) (st : St) : List ResultVar → List AV → Prop
  | nil : RVs P st [] []
  | cons (r : ResultVar) (x : AV) (rs : List ResultVar) (xs : List AV) : RV P st r x → RVs P st rs xs → RVs P st (r :: rs) (x :: xs)

def tupled : List AV → AV
  | [x] => x
  | l => .tup l

def oneRes (tmps : Array Value) (r : ResultVar) : Sem Value :=
  match r with
  | .tmp t => pure (tmps.getD t undef)
  | .cell c t => do loadVar t (← asAddr (tmps.getD c undef))

theorem results_eq (fn : Func) (tmps : Array Value) : results fn tmps = (do
    let vs ← fn.results.mapM (oneRes tmps)
    pure (if h : vs.size = 1 then vs[0] else .tuple vs)) := by
  unfold results
  congr 1

theorem RV.run {P : Program} {S : Sig} {B : Base} {g : Gh} {w : World} {st : St} {a : Act} {r : ResultVar} {x : AV} (h : RV P st r x) (hs : SR S B g w st a) :
    ∃ v, (oneRes a.tmps r).run P w = .ok v w ∧ RA g w x v := by
  cases h with
  | tmp t _ h =>
    have := (Sees.tmp t _ h).ra hs
    exact ⟨_, rfl, this⟩
  | cell c ty k off _ h hl =>
    have := (Sees.tmp c _ h).ra hs
    have he : a.tmps.getD c undef = .pointer (some ⟨g.ρ k, off, none⟩) := by
      have h1 : a.eval (.tmp c) = a.tmps.getD c undef := rfl
      rw [h1] at this
      generalize a.tmps.getD c undef = u at this
      cases this; rfl
    obtain ⟨v, hv, hra⟩ := hl.run hs.hr
    refine ⟨v, ?_, hra⟩
    simp only [oneRes, he, asAddr]
    simp [hv]

theorem RVs.run {P : Program} {S : Sig} {B : Base} {g : Gh} {w : World} {st : St} {a : Act} {rs : List ResultVar} {xs : List AV} (h : RVs P st rs xs) (hs : SR S B g w st a) :
    ∃ vs : List Value, (rs.mapM (oneRes a.tmps)).run P w = .ok vs w ∧
      xs.length = vs.length ∧ ∀ (i : Nat) x v, xs[i]? = some x → vs[i]? = some v → RA g w x v := by
  induction h with
  | nil => exact ⟨[], rfl, rfl, by simp⟩
  | cons r x rs xs h _ ih =>
    obtain ⟨v, hv, hx⟩ := h.run hs
    obtain ⟨vs, hvs, hl, hxs⟩ := ih
    refine ⟨v :: vs, ?_, by simp [hl], ?_⟩
    · rw [List.mapM_cons, Sem.run_bind, hv, Result.andThen_ok, Sem.run_bind, hvs, Result.andThen_ok]
      rfl
    · intro i y u hy hu
      cases i with
      | zero => simp at hy hu; subst hy; subst hu; exact hx
      | succ i => exact hxs i y u (by simpa using hy) (by simpa using hu)

theorem run_results {P : Program} {S : Sig} {B : Base} {g : Gh} {w : World} {st : St} {a : Act} {fn : Func} {xs : List AV} (h : RVs P st fn.results.toList xs) (hs : SR S B g w st a) :
    ∃ v, (results fn a.tmps).run P w = .ok v w ∧ RA g w (tupled xs) v := by
  obtain ⟨vs, hvs, hl, hxs⟩ := h.run hs
  have hm : (fn.results.mapM (oneRes a.tmps)).run P w = .ok vs.toArray w := by
    rw [Array.mapM_eq_mapM_toList, Sem.run_map, hvs]
    rfl
  refine ⟨if h : vs.toArray.size = 1 then vs.toArray[0] else .tuple vs.toArray, ?_, ?_⟩
  · rw [results_eq, Sem.run_bind, hm]
    rfl
  · cases vs with
    | nil =>
      cases xs with
      | nil => exact .tup [] #[] rfl (by simp)
      | cons _ _ => simp at hl
    | cons v0 vs =>
      cases xs with
      | nil => simp at hl
      | cons x0 xs =>
        cases vs with
        | nil =>
          cases xs with
          | nil => exact hxs 0 x0 v0 rfl rfl
          | cons _ _ => simp at hl
        | cons v1 vs =>
          cases xs with
          | nil => simp at hl
          | cons x1 xs =>
            have : ¬ ((v0 :: v1 :: vs).toArray.size = 1) := by simp
            rw [dif_neg this]
            exact .tup _ _ (by simpa using hl) (by intro i x v hx hv; exact hxs i x v hx (by simpa using hv))

def Base.of (g : Gh) (w : World) (X : Store) : Base :=
  { n0 := w.heap.size, w0 := w, γ0 := g.γ, allowed := fun b => (∃ k o, X.objs.lookup k = some o ∧ g.ρ k = b) ∨ ∃ n, g.β n = some (some b), keep := g.ρ }

/-- The contract of a function. -/
def Does (P : Program) (f : FuncId) (args : List AV) (X : Store) (res : AV) (X' : Store) : Prop :=
  ∀ (g : Gh) (w : World) (vs : Array Value), HR (X.objs.map (·.1)) (Base.of g w X) g w X → args.length = vs.size →
    (∀ (i : Nat) x v, args[i]? = some x → vs[i]? = some v → RA g w x v) →
    Calls P f vs w fun e w' => ∃ g' v, e = .returned v ∧ RA g' w' res v ∧ HR (X.objs.map (·.1)) (Base.of g w X) g' w' X'

def X0 : Store := ⟨[], []⟩

def envOf : Nat → List AV → List (Nat × AV)
  | _, [] => []
  | n, x :: r => (n, x) :: envOf (n + 1) r

theorem envOf_lookup {l : List AV} : ∀ {n t : Nat} {x : AV}, (envOf n l).lookup t = some x → n ≤ t ∧ l[t - n]? = some x := by
  induction l with
  | nil => intro n t x h; simp [envOf] at h
  | cons y r ih =>
    intro n t x h
    simp only [envOf, List.lookup_cons] at h
    split at h
    · rename_i he
      simp at he h
      subst he; subst h
      simp
    · have ⟨h1, h2⟩ := ih h
      refine ⟨by omega, ?_⟩
      rw [show t - n = (t - (n + 1)) + 1 by omega]
      simpa using h2

/-- What a body must come to. -/
inductive RetQ (P : Program) (nm : List Nat) (fn : Func) (res : AV) (X' : Store) : Exit → St → Prop
  | ret (st : St) (xs : List AV) : RVs P st fn.results.toList xs → tupled xs = res → Weak nm st ⟨[], X'⟩ → RetQ P nm fn res X' .ret st
  | normal (st : St) (xs : List AV) : RVs P st fn.results.toList xs → tupled xs = res → Weak nm st ⟨[], X'⟩ → RetQ P nm fn res X' .normal st

theorem Free.all (x : AV) (F : List Nat) (h : F = []) : Free F x := by subst h; exact .nil x

theorem spec_intro {P : Program} {f : FuncId} {fn : Func} {c : Code} {args : List AV} {X : Store} {res : AV} {X' : Store} (hf : P.funcs[f]? = some fn) (hb : fn.body = some c)
    (hN : args.length ≤ fn.ntmps) (h : AWp P ⟨fn.ntmps, X.objs.map (·.1)⟩ c (RetQ P (X.objs.map (·.1)) fn res X') ⟨envOf 0 args, X⟩) : Does P f args X res X' := by
  intro g w vs hr hlen hargs
  refine calls_of_wp hf hb (wp_mono (h (Base.of g w X) g w _ ?_) ?_)
  · refine ⟨rfl, by simp; omega, hr, ?_⟩
    intro t x hx
    obtain ⟨_, hx⟩ := envOf_lookup hx
    rw [Nat.sub_zero] at hx
    have hlt : t < vs.size := by have := (List.getElem?_eq_some_iff.1 hx).1; omega
    refine ⟨vs[t], ?_, hargs t x _ hx (by simp [hlt])⟩
    simp [Array.getElem?_append, hlt]
  · rintro e a' w' ⟨st', g', hq, hs⟩
    have fin : ∀ xs, RVs P st' fn.results.toList xs → tupled xs = res → Weak (X.objs.map (·.1)) st' ⟨[], X'⟩ →
        a'.defers = [] ∧ ∃ v, (results fn a'.tmps).run P w' = .ok v w' ∧ ∃ g' v_1, Ending.returned v = Ending.returned v_1 ∧ RA g' w' res v_1 ∧ HR (X.objs.map (·.1)) (Base.of g w X) g' w' X' := by
      intro xs h1 h2 h3
      obtain ⟨v, hv, hra⟩ := run_results h1 hs
      rw [h2] at hra
      -- the weakened ghost serves the result as well
      have hw : Weak (X.objs.map (·.1)) st' ⟨[], X'⟩ := h3
      obtain ⟨g'', ht, hs''⟩ := hs.weaken' hw
      exact ⟨hs.defers, v, hv, g'', v, rfl, hra.mono ht (.nil _), hs''.hr⟩
    cases hq with
    | ret _ xs h1 h2 h3 => exact fin xs h1 h2 h3
    | normal _ xs h1 h2 h3 => exact fin xs h1 h2 h3

end Go.Ab
