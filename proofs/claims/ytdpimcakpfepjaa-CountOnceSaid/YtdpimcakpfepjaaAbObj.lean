/-
  Calls by contracts that speak of objects: the callee's names are mapped to the caller's.
-/
import Derived.Test.YtdpimcakpfepjaaAbCall
set_option linter.unusedVariables false
set_option linter.unusedSimpArgs false
namespace Go.Ab

mutual
/-- other names for objects -/
def mapAV (f : Nat → Nat) : AV → AV
  | .d x => .d x
  | .ptr k off => .ptr (f k) off
  | .tip n sz es => .tip n sz es
  | .tup l => .tup (mapAVs f l)
  | .agg l => .agg (mapAVs f l)
  | .clo g l => .clo g (mapAVs f l)
def mapAVs (f : Nat → Nat) : List AV → List AV
  | [] => []
  | x :: r => mapAV f x :: mapAVs f r
end

mutual
/-- no label, and no name but these -/
def namesIn (ks : List Nat) : AV → Bool
  | .d _ => true
  | .ptr k _ => ks.contains k
  | .tip _ _ _ => false
  | .tup l => namesIns ks l
  | .agg l => namesIns ks l
  | .clo _ l => namesIns ks l
def namesIns (ks : List Nat) : List AV → Bool
  | [] => true
  | x :: r => namesIn ks x && namesIns ks r
end

theorem namesIns_get {ks : List Nat} {l : List AV} (h : namesIns ks l = true) {i : Nat} {x : AV} (hx : l[i]? = some x) : namesIn ks x = true := by
  induction l generalizing i with
  | nil => simp at hx
  | cons y r ih =>
    simp only [namesIns, Bool.and_eq_true] at h
    cases i with
    | zero => simp at hx; subst hx; exact h.1
    | succ i => exact ih h.2 (by simpa using hx)

theorem mapAVs_eq (f : Nat → Nat) (l : List AV) : mapAVs f l = l.map (mapAV f) := by
  induction l with
  | nil => rfl
  | cons x r ih => simp [mapAVs, ih]

theorem RA.unmap {g gc : Gh} {w : World} {ks : List Nat} {f : Nat → Nat} (hγ : gc.γ = g.γ) (hρ : ∀ k ∈ ks, gc.ρ k = g.ρ (f k)) : ∀ (x : AV) (v : Value), namesIn ks x = true → RA g w (mapAV f x) v → RA gc w x v
  | .d x, v, _, h => by
    simp only [mapAV] at h
    cases h with
    | d _ _ h => exact .d _ _ (hγ ▸ h)
  | .ptr k off, v, hn, h => by
    simp only [mapAV] at h
    have hk : k ∈ ks := by simpa [namesIn] using hn
    cases h with
    | ptr => rw [← hρ k hk]; exact .ptr k off
  | .tip n sz es, v, hn, h => by simp [namesIn] at hn
  | .tup l, v, hn, h => by
    simp only [mapAV, mapAVs_eq] at h
    cases h with
    | tup _ vs hl hx =>
      refine .tup l vs (by simpa using hl) fun i x v h1 h2 => ?_
      have : SizeOf.sizeOf x < SizeOf.sizeOf l := List.sizeOf_lt_of_mem (List.mem_of_getElem? h1)
      exact RA.unmap hγ hρ x v (namesIns_get (by simpa [namesIn] using hn) h1) (hx i _ v (by rw [List.getElem?_map, h1]; rfl) h2)
  | .agg l, v, hn, h => by
    simp only [mapAV, mapAVs_eq] at h
    cases h with
    | agg _ vs hl hx =>
      refine .agg l vs (by simpa using hl) fun i x v h1 h2 => ?_
      have : SizeOf.sizeOf x < SizeOf.sizeOf l := List.sizeOf_lt_of_mem (List.mem_of_getElem? h1)
      exact RA.unmap hγ hρ x v (namesIns_get (by simpa [namesIn] using hn) h1) (hx i _ v (by rw [List.getElem?_map, h1]; rfl) h2)
  | .clo c l, v, hn, h => by
    simp only [mapAV, mapAVs_eq] at h
    cases h with
    | clo _ _ vs hl hx =>
      refine .clo c l vs (by simpa using hl) fun i x v h1 h2 => ?_
      have : SizeOf.sizeOf x < SizeOf.sizeOf l := List.sizeOf_lt_of_mem (List.mem_of_getElem? h1)
      exact RA.unmap hγ hρ x v (namesIns_get (by simpa [namesIn] using hn) h1) (hx i _ v (by rw [List.getElem?_map, h1]; rfl) h2)
termination_by x => x

theorem RA.remap {g gc : Gh} {w : World} {ks : List Nat} {f : Nat → Nat} (hγ : gc.γ = g.γ) (hρ : ∀ k ∈ ks, g.ρ (f k) = gc.ρ k) {x : AV} {v : Value} (h : RA gc w x v) (hn : namesIn ks x = true) : RA g w (mapAV f x) v := by
  induction h with
  | d x v h => simp only [mapAV]; exact .d _ _ (hγ ▸ h)
  | ptr k off =>
    have hk : k ∈ ks := by simpa [namesIn] using hn
    simp only [mapAV]; rw [← hρ k hk]; exact .ptr _ _
  | tip => simp [namesIn] at hn
  | tup l vs hl _ ih =>
    simp only [mapAV, mapAVs_eq]
    refine .tup _ vs (by simpa using hl) fun i x v h1 h2 => ?_
    rw [List.getElem?_map, Option.map_eq_some_iff] at h1
    obtain ⟨y, hy, rfl⟩ := h1
    exact ih i y v hy h2 (namesIns_get (by simpa [namesIn] using hn) hy)
  | agg l vs hl _ ih =>
    simp only [mapAV, mapAVs_eq]
    refine .agg _ vs (by simpa using hl) fun i x v h1 h2 => ?_
    rw [List.getElem?_map, Option.map_eq_some_iff] at h1
    obtain ⟨y, hy, rfl⟩ := h1
    exact ih i y v hy h2 (namesIns_get (by simpa [namesIn] using hn) hy)
  | clo c l vs hl _ ih =>
    simp only [mapAV, mapAVs_eq]
    refine .clo c _ vs (by simpa using hl) fun i x v h1 h2 => ?_
    rw [List.getElem?_map, Option.map_eq_some_iff] at h1
    obtain ⟨y, hy, rfl⟩ := h1
    exact ih i y v hy h2 (namesIns_get (by simpa [namesIn] using hn) hy)

def mapOb (f : Nat → Nat) : Ob → Ob
  | .cells cs => .cells (mapAVs f cs)
  | .map l => .map l

def namesInOb (ks : List Nat) : Ob → Bool
  | .cells cs => namesIns ks cs
  | .map _ => true

theorem ObRel.unmap {g gc : Gh} {w : World} {ks : List Nat} {f : Nat → Nat} (hγ : gc.γ = g.γ) (hρ : ∀ k ∈ ks, gc.ρ k = g.ρ (f k)) {b : Nat} {o : Ob} (hn : namesInOb ks o = true) (h : ObRel g w b (mapOb f o)) : ObRel gc w b o := by
  cases o with
  | cells cs =>
    simp only [mapOb, mapAVs_eq] at h
    cases h with
    | cells _ arr T hb hl hc =>
      refine .cells cs arr T hb (by simpa using hl) fun i x v hx hv => ?_
      exact RA.unmap hγ hρ x v (namesIns_get (by simpa [namesInOb] using hn) hx) (hc i _ v (by rw [List.getElem?_map, hx]; rfl) hv)
  | map l =>
    simp only [mapOb] at h
    cases h with
    | map _ es clock hb hl hc h4 h5 => exact .map l es clock hb hl (fun i x e hx he => ⟨(hc i x e hx he).1, hγ ▸ (hc i x e hx he).2⟩) h4 h5

theorem ObRel.remap {g gc : Gh} {w : World} {ks : List Nat} {f : Nat → Nat} (hγ : gc.γ = g.γ) (hρ : ∀ k ∈ ks, g.ρ (f k) = gc.ρ k) {b : Nat} {o : Ob} (hn : namesInOb ks o = true) (h : ObRel gc w b o) : ObRel g w b (mapOb f o) := by
  cases h with
  | cells cs arr T hb hl hc =>
    simp only [mapOb, mapAVs_eq]
    refine .cells _ arr T hb (by simpa using hl) fun i x v hx hv => ?_
    rw [List.getElem?_map, Option.map_eq_some_iff] at hx
    obtain ⟨y, hy, rfl⟩ := hx
    exact (hc i y v hy hv).remap hγ hρ (namesIns_get (by simpa [namesInOb] using hn) hy)
  | map l es clock hb hl hc h4 h5 =>
    exact .map l es clock hb hl (fun i x e hx he => ⟨(hc i x e hx he).1, hγ ▸ (hc i x e hx he).2⟩) h4 h5

def nf (σ : List (Nat × Nat)) (k : Nat) : Nat := (σ.lookup k).getD 0

def putObjs (f : Nat → Nat) : List (Nat × Ob) → List (Nat × Ob) → List (Nat × Ob)
  | [], acc => acc
  | p :: r, acc => putObjs f r (setObj (f p.1) (mapOb f p.2) acc)

theorem putObjs_other {f : Nat → Nat} : ∀ (l acc : List (Nat × Ob)) (j : Nat), (∀ p ∈ l, f p.1 ≠ j) → (putObjs f l acc).lookup j = acc.lookup j
  | [], _, _, _ => rfl
  | p :: r, acc, j, h => by
    simp only [putObjs]
    rw [putObjs_other r _ j (fun q hq => h q (List.mem_cons_of_mem _ hq)), lookup_setObj, if_neg (Ne.symm (h p List.mem_cons_self))]

theorem putObjs_mem {f : Nat → Nat} : ∀ (l acc : List (Nat × Ob)) (p : Nat × Ob), (l.map fun p => f p.1).Nodup → p ∈ l → (putObjs f l acc).lookup (f p.1) = some (mapOb f p.2)
  | [], _, _, _, h => by simp at h
  | q :: r, acc, p, hnd, h => by
    simp only [List.map_cons, List.nodup_cons] at hnd
    simp only [putObjs]
    rcases List.mem_cons.1 h with rfl | h
    · rw [putObjs_other r _ _ (fun q hq he => hnd.1 (by rw [← he]; exact List.mem_map_of_mem (f := fun p : Nat × Ob => f p.1) hq)), lookup_setObj, if_pos rfl]
    · exact putObjs_mem r _ p hnd.2 h

theorem lookup_of_mem {α : Type} : ∀ {l : List (Nat × α)} {k : Nat} {x : α}, (l.map (·.1)).Nodup → (k, x) ∈ l → l.lookup k = some x
  | [], _, _, _, h => by simp at h
  | (j, y) :: r, k, x, hnd, h => by
    simp only [List.map_cons, List.nodup_cons] at hnd
    rw [List.lookup_cons]
    rcases List.mem_cons.1 h with h' | h'
    · cases h'; simp
    · have hne : k ≠ j := by rintro rfl; exact hnd.1 (List.mem_map_of_mem (f := (·.1)) h')
      have : (k == j) = false := by simpa using hne
      rw [this]
      exact lookup_of_mem hnd.2 h'

/-- what a call by contract needs to know of the names -/
structure ObjCall (X Xc Xc' : Store) (f : Nat → Nat) (F : List Nat) : Prop where
  live : Xc.live = [] ∧ Xc'.live = []
  inobj : ∀ p ∈ Xc.objs, X.objs.lookup (f p.1) = some (mapOb f p.2)
  innames : (Xc.objs.all fun p => namesInOb (Xc.objs.map (·.1)) p.2) = true
  outnames : (Xc'.objs.all fun p => namesInOb (Xc'.objs.map (·.1)) p.2) = true
  nodup : (Xc'.objs.map fun p => f p.1).Nodup
  nodup1 : (Xc.objs.map (·.1)).Nodup
  new : ∀ p ∈ Xc'.objs, p.1 ∈ Xc.objs.map (·.1) ∨ (f p.1 ∈ F ∧ X.objs.lookup (f p.1) = none)
  sub : ∀ p ∈ Xc.objs, p.1 ∈ Xc'.objs.map (·.1)
  free : objsFree F X = true

theorem nodup_map_inj {α β : Type} {f : α → β} : ∀ {l : List α}, (l.map f).Nodup → ∀ {x y : α}, x ∈ l → y ∈ l → f x = f y → x = y
  | [], _, _, _, h, _, _ => by simp at h
  | a :: r, hnd, x, y, hx, hy, he => by
    simp only [List.map_cons, List.nodup_cons] at hnd
    rcases List.mem_cons.1 hx with hx' | hx' <;> rcases List.mem_cons.1 hy with hy' | hy'
    · rw [hx', hy']
    · rw [hx'] at he
      exact (hnd.1 (he ▸ List.mem_map_of_mem (f := f) hy')).elim
    · rw [hy'] at he
      exact (hnd.1 (he ▸ List.mem_map_of_mem (f := f) hx')).elim
    · exact nodup_map_inj hnd.2 hx' hy' he

theorem nodup_of_comp {α β γ : Type} {f : α → β} {h : β → γ} : ∀ {l : List α}, (l.map fun x => h (f x)).Nodup → (l.map f).Nodup
  | [], _ => by simp
  | a :: r, hnd => by
    simp only [List.map_cons, List.nodup_cons] at hnd ⊢
    refine ⟨fun hm => hnd.1 ?_, nodup_of_comp hnd.2⟩
    obtain ⟨x, hx, he⟩ := List.mem_map.1 hm
    rw [← he]
    exact List.mem_map_of_mem (f := fun x => h (f x)) hx

section
variable {P : Program} {X : Store}

theorem Does.useObj {fn : FuncId} {xs : List AV} {res : AV} {Xc Xc' : Store} (hs : Does P fn xs Xc res Xc') {f : Nat → Nat} {F : List Nat} (hc : ObjCall X Xc Xc' f F)
    (hd : namesIns (Xc.objs.map (·.1)) xs = true) (hdr : namesIn (Xc'.objs.map (·.1)) res = true) {nm : List Nat} {B : Base} {g : Gh} {w : World}
    (hr : HR nm B g w X) {vs : Array Value} (hl : xs.length = vs.size) (hvs : ∀ (i : Nat) x v, (mapAVs f xs)[i]? = some x → vs[i]? = some v → RA g w x v) :
    Calls P fn vs w fun e w' => ∃ v g', e = .returned v ∧ HR nm B g' w' ⟨putObjs f Xc'.objs X.objs, X.live⟩ ∧ Trans F g w g' w' ∧ RA g' w' (mapAV f res) v := by
  let gc : Gh := { γ := g.γ, β := fun _ => none, ρ := fun k => g.ρ (f k) }
  have hlk : ∀ k o, Xc.objs.lookup k = some o → X.objs.lookup (f k) = some (mapOb f o) := fun k o hk => hc.inobj _ (lookup_mem hk)
  have hinj : ∀ p ∈ Xc'.objs, ∀ q ∈ Xc'.objs, f p.1 = f q.1 → p = q := fun p hp q hq he => nodup_map_inj hc.nodup hp hq he
  have hnd' : (Xc'.objs.map (·.1)).Nodup := nodup_of_comp (h := f) hc.nodup
  have hsub : ∀ k o, Xc.objs.lookup k = some o → ∃ p ∈ Xc'.objs, p.1 = k := by
    intro k o hk
    obtain ⟨p, hp, he⟩ := List.mem_map.1 (hc.sub _ (lookup_mem hk))
    exact ⟨p, hp, he⟩
  have h0 : HR (Xc.objs.map (·.1)) (Base.of gc w Xc) gc w Xc := by
    refine ⟨?_, hr.sane, Nat.le_refl _, ⟨rfl, rfl, rfl⟩, .refl _ _, fun b _ _ => ⟨rfl, rfl⟩, ?_, ?_, ?_, ?_, ?_, by simp [gc], by simp [gc], by simp [gc], by simp [gc]⟩
    · intro k hk
      refine ⟨rfl, ?_⟩
      obtain ⟨p, hp, rfl⟩ := List.mem_map.1 hk
      rw [lookup_of_mem hc.nodup1 (x := p.2) hp]; rfl
    · intro k o hk
      exact ObRel.unmap (g := g) (gc := gc) (f := f) (ks := Xc.objs.map (·.1)) rfl (fun _ _ => rfl) (List.all_eq_true.1 hc.innames _ (lookup_mem hk)) (hr.objs _ _ (hlk k o hk))
    · intro k o hk; exact hr.objγ _ _ (hlk k o hk)
    · intro k k' o o' hk hk' he
      have h1 := hr.objinj _ _ _ _ (hlk k o hk) (hlk k' o' hk') he
      obtain ⟨p, hp, e1⟩ := hsub k o hk
      obtain ⟨q, hq, e2⟩ := hsub k' o' hk'
      have := hinj p hp q hq (by rw [e1, e2]; exact h1)
      rw [← e1, ← e2, this]
    · intro k o hk; exact .inr (.inl ⟨k, o, hk, rfl⟩)
    · intro n; rw [hc.live.1]; simp [gc]
  have := hs gc w vs h0 hl fun i x v hx hv => RA.unmap (g := g) (gc := gc) (ks := Xc.objs.map (·.1)) rfl (fun _ _ => rfl) x v (namesIns_get hd hx) (hvs i _ v (by rw [mapAVs_eq, List.getElem?_map, hx]; rfl) hv)
  refine this.mono ?_
  rintro e w' ⟨g1, v, rfl, hra, h1⟩
  -- the caller's ghost behind the call
  let ρ' : Nat → Nat := fun j => match Xc'.objs.find? (fun p => f p.1 == j) with
    | some p => g1.ρ p.1
    | none => g.ρ j
  have hρin : ∀ p ∈ Xc'.objs, ρ' (f p.1) = g1.ρ p.1 := by
    intro p hp
    have hs' : (Xc'.objs.find? (fun q => f q.1 == f p.1)).isSome = true := by
      rw [List.find?_isSome]; exact ⟨p, hp, by simp⟩
    obtain ⟨q, hq⟩ := Option.isSome_iff_exists.1 hs'
    have hq1 := List.find?_some hq
    have hq2 := List.mem_of_find?_eq_some hq
    simp only [beq_iff_eq] at hq1
    have := hinj q hq2 p hp hq1
    simp only [ρ', hq, this]
  have hρout : ∀ j, (∀ p ∈ Xc'.objs, f p.1 ≠ j) → ρ' j = g.ρ j := by
    intro j hj
    have : Xc'.objs.find? (fun p => f p.1 == j) = none := by
      rw [List.find?_eq_none]; intro p hp; simpa using hj p hp
    simp only [ρ', this]
  have hcases : ∀ j, (∃ p ∈ Xc'.objs, f p.1 = j) ∨ (∀ p ∈ Xc'.objs, f p.1 ≠ j) := by
    intro j
    by_cases h : ∃ p ∈ Xc'.objs, f p.1 = j
    · exact .inl h
    · exact .inr fun p hp he => h ⟨p, hp, he⟩
  have hold : ∀ k, k ∈ Xc.objs.map (·.1) → g1.ρ k = g.ρ (f k) := fun k hk => (h1.keep k hk).1
  have hna : ∀ b, (¬ ∃ k o, Xc.objs.lookup k = some o ∧ g.ρ (f k) = b) → ¬ (Base.of gc w Xc).allowed b := by
    rintro b hb (⟨k, o, hk, he⟩ | ⟨n, hn⟩)
    · exact hb ⟨k, o, hk, he⟩
    · cases hn
  have hframe : ∀ b, b < w.heap.size → (¬ ∃ k o, Xc.objs.lookup k = some o ∧ g.ρ (f k) = b) → w'.heap[b]? = w.heap[b]? ∧ g1.γ b = g.γ b := fun b hb hn => h1.frame b hb (hna b hn)
  have hsz : w.heap.size ≤ w'.heap.size := h1.base
  have hle : LeD g.γ w g1.γ w' := h1.le
  have htipfr : ∀ n b, g.β n = some (some b) → w'.heap[b]? = w.heap[b]? ∧ g1.γ b = g.γ b := by
    intro n b hn
    refine hframe b (hr.tiplt n b hn) ?_
    rintro ⟨k, o, hk, he⟩
    exact hr.tipobj n b _ _ hn (hlk k o hk) he.symm
  have hobjfr : ∀ j o, X.objs.lookup j = some o → (∀ p ∈ Xc'.objs, f p.1 ≠ j) → w'.heap[g.ρ j]? = w.heap[g.ρ j]? ∧ g1.γ (g.ρ j) = g.γ (g.ρ j) := by
    intro j o hj hne
    refine hframe _ (obRel_lt (hr.objs j o hj)) ?_
    rintro ⟨k, o', hk, he⟩
    have := hr.objinj _ _ _ _ (hlk k o' hk) hj he
    obtain ⟨p, hp, e1⟩ := hsub k o' hk
    exact hne p hp (by rw [e1]; exact this)
  have hnewblk : ∀ p ∈ Xc'.objs, p.1 ∉ Xc.objs.map (·.1) → w.heap.size ≤ g1.ρ p.1 := by
    intro p hp hnot
    have hlp : Xc'.objs.lookup p.1 = some p.2 := lookup_of_mem hnd' hp
    rcases h1.objnew _ _ hlp with h | h | ⟨n, hn⟩
    · exact h
    · obtain ⟨k, o, hk, he⟩ := h
      exfalso
      obtain ⟨q, hq, e1⟩ := hsub k o hk
      have hlq : Xc'.objs.lookup q.1 = some q.2 := lookup_of_mem hnd' hq
      have hkm : k ∈ Xc.objs.map (·.1) := List.mem_map_of_mem (f := (·.1)) (lookup_mem hk)
      have : g1.ρ q.1 = g1.ρ p.1 := by rw [e1, hold k hkm]; exact he
      have := h1.objinj _ _ _ _ hlq hlp this
      exact hnot (this ▸ e1 ▸ hkm)
    · cases hn
  have ht : Trans F g w { γ := g1.γ, β := g.β, ρ := ρ' } w' := by
    refine ⟨hle, ?_, fun n ob _ he => ⟨he, fun b hb => ⟨(htipfr n b (hb ▸ he)).2, (htipfr n b (hb ▸ he)).1⟩⟩⟩
    intro j hj
    simp only
    rcases hcases j with ⟨p, hp, rfl⟩ | hne
    · rw [hρin p hp]
      rcases hc.new p hp with h | ⟨h, _⟩
      · exact hold _ h
      · exact (hj h).elim
    · exact hρout j hne
  have hX' : ∀ j o, (putObjs f Xc'.objs X.objs).lookup j = some o → (∃ p ∈ Xc'.objs, f p.1 = j ∧ o = mapOb f p.2) ∨ ((∀ p ∈ Xc'.objs, f p.1 ≠ j) ∧ X.objs.lookup j = some o) := by
    intro j o hj
    rcases hcases j with ⟨p, hp, rfl⟩ | hne
    · rw [putObjs_mem _ _ p hc.nodup hp] at hj
      exact .inl ⟨p, hp, rfl, by simpa using hj.symm⟩
    · rw [putObjs_other _ _ _ hne] at hj
      exact .inr ⟨hne, hj⟩
  have hρmap : ∀ k ∈ Xc'.objs.map (·.1), ρ' (f k) = g1.ρ k := by
    intro k hk
    obtain ⟨p, hp, rfl⟩ := List.mem_map.1 hk
    exact hρin p hp
  refine ⟨v, { γ := g1.γ, β := g.β, ρ := ρ' }, rfl, ⟨?_, h1.sane, Nat.le_trans hr.base hsz, ⟨h1.io.1.trans hr.io.1, h1.io.2.1.trans hr.io.2.1, h1.io.2.2.trans hr.io.2.2⟩, hr.le.trans hle, ?_, ?_, ?_, ?_, ?_, hr.live, hr.tipinj, ?_, hr.tipnew, ?_⟩, ht, ?_⟩
  · intro k hk
    obtain ⟨h2, h3⟩ := hr.keep k hk
    rcases hcases k with ⟨p, hp, rfl⟩ | hne
    · refine ⟨?_, by simp only; rw [putObjs_mem _ _ p hc.nodup hp]; rfl⟩
      simp only; rw [hρin p hp]
      rcases hc.new p hp with h | ⟨_, h⟩
      · rw [hold _ h]; exact h2
      · rw [h] at h3; cases h3
    · exact ⟨by simp only; rw [hρout k hne]; exact h2, by simp only; rw [putObjs_other _ _ _ hne]; exact h3⟩
  · intro b hb hnb
    have h2 := hr.frame b hb hnb
    have h3 := hframe b (Nat.lt_of_lt_of_le hb hr.base) (by
      rintro ⟨k, o, hk, he⟩
      rcases hr.objnew _ _ (hlk k o hk) with h | h
      · rw [he] at h; omega
      · rw [he] at h; exact hnb h)
    exact ⟨h3.1.trans h2.1, h3.2.trans h2.2⟩
  · intro j o hj
    rcases hX' j o hj with ⟨p, hp, rfl, rfl⟩ | ⟨hne, hj'⟩
    · simp only; rw [hρin p hp]
      exact ObRel.remap (g := { γ := g1.γ, β := g.β, ρ := ρ' }) (gc := g1) rfl hρmap (List.all_eq_true.1 hc.outnames _ hp) (h1.objs _ _ (lookup_of_mem hnd' hp))
    · simp only; rw [hρout j hne]
      exact (hr.objs j o hj').keep ht (hobjfr j o hj' hne).1 (objsFree_get hc.free hj')
  · intro j o hj
    rcases hX' j o hj with ⟨p, hp, rfl, rfl⟩ | ⟨hne, hj'⟩
    · simp only; rw [hρin p hp]; exact h1.objγ _ _ (lookup_of_mem hnd' hp)
    · simp only; rw [hρout j hne, (hobjfr j o hj' hne).2]; exact hr.objγ j o hj'
  · intro j j' o o' hj hj' he
    simp only at he
    have mix : ∀ p ∈ Xc'.objs, ∀ j o, X.objs.lookup j = some o → (∀ p ∈ Xc'.objs, f p.1 ≠ j) → g1.ρ p.1 ≠ g.ρ j := by
      intro p hp j o hj hne he
      by_cases hin : p.1 ∈ Xc.objs.map (·.1)
      · rw [hold _ hin] at he
        obtain ⟨q, hq, e1⟩ := List.mem_map.1 hin
        have h4 := hc.inobj q hq
        rw [e1] at h4
        exact hne p hp (hr.objinj _ _ _ _ h4 hj he)
      · have h5 := hnewblk p hp hin
        have h6 := obRel_lt (hr.objs j o hj)
        omega
    rcases hX' j o hj with ⟨p, hp, e1, _⟩ | ⟨hne, hj1⟩ <;> rcases hX' j' o' hj' with ⟨q, hq, e2, _⟩ | ⟨hne', hj1'⟩
    · rw [← e1, ← e2] at he ⊢
      rw [hρin p hp, hρin q hq] at he
      rw [h1.objinj _ _ _ _ (lookup_of_mem hnd' hp) (lookup_of_mem hnd' hq) he]
    · rw [← e1, hρin p hp, hρout j' hne'] at he
      exact (mix p hp j' o' hj1' hne' he).elim
    · rw [← e2, hρin q hq, hρout j hne] at he
      exact (mix q hq j o hj1 hne he.symm).elim
    · rw [hρout j hne, hρout j' hne'] at he
      exact hr.objinj j j' o o' hj1 hj1' he
  · intro j o hj
    rcases hX' j o hj with ⟨p, hp, rfl, rfl⟩ | ⟨hne, hj'⟩
    · simp only; rw [hρin p hp]
      by_cases hin : p.1 ∈ Xc.objs.map (·.1)
      · rw [hold _ hin]
        obtain ⟨q, hq, e1⟩ := List.mem_map.1 hin
        have h4 := hc.inobj q hq
        rw [e1] at h4
        exact hr.objnew _ _ h4
      · exact .inl (Nat.le_trans hr.base (hnewblk p hp hin))
    · simp only; rw [hρout j hne]; exact hr.objnew j o hj'
  · intro n b j o hn hj
    rcases hX' j o hj with ⟨p, hp, rfl, rfl⟩ | ⟨hne, hj'⟩
    · simp only; rw [hρin p hp]
      by_cases hin : p.1 ∈ Xc.objs.map (·.1)
      · rw [hold _ hin]
        obtain ⟨q, hq, e1⟩ := List.mem_map.1 hin
        have h4 := hc.inobj q hq
        rw [e1] at h4
        exact hr.tipobj n b _ _ hn h4
      · have := hnewblk p hp hin
        have := hr.tiplt n b hn
        omega
    · simp only; rw [hρout j hne]; exact hr.tipobj n b j o hn hj'
  · intro n b hn; exact Nat.lt_of_lt_of_le (hr.tiplt n b hn) hsz
  · exact RA.remap (g := { γ := g1.γ, β := g.β, ρ := ρ' }) (gc := g1) rfl hρmap hra hdr

/-- A call of a function whose contract speaks of objects. σ: the callee's names and the caller's. -/
theorem op_call_obj {o : Oper} {fn : FuncId} {args : Array Operand} {ts : Array TypeId} {xs : List AV} {res : AV} {Xc Xc' : Store} (σ : List (Nat × Nat)) (F : List Nat)
    (ho : o.op = .call { callee := .value (.func fn), args := args, argTypes := ts }) (hf : CallI P fn) (hs : Does P fn xs Xc res Xc') (hc : ObjCall X Xc Xc' (nf σ) F)
    (hl : xs.length = args.size) (hd : namesIns (Xc.objs.map (·.1)) xs = true) (hdr : namesIn (Xc'.objs.map (·.1)) res = true) :
    OpT P o (args.toList.zip (mapAVs (nf σ) xs)) X ⟨putObjs (nf σ) Xc'.objs X.objs, X.live⟩ F (mapAV (nf σ) res) := by
  intro nm B g w a hr hrd next Q hn
  unfold Oper.wp
  have : (execOp a.eval o).run P w = .ok (.enter fn (args.map a.eval)) w := by
    simp only [execOp, ho, resolve]
    simp [Act.eval, Deferred.ofValue, invoke, run_callFunc hf]
  rw [this]
  refine (hs.useObj hc hd hdr hr (by simpa using hl) (rds_args hrd)).mono ?_
  rintro e w' ⟨v, g', rfl, h1, h2, h3⟩
  exact hn g' w' v h1 h2 h3
end
end Go.Ab
