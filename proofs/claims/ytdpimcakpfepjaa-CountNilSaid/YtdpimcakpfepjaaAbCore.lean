/-
  A layer of our own over the kit's Calls and wp: values without memory. Nothing here speaks of one program.
-/
import Derived.Calls
import Derived.ProofKit
set_option linter.unusedVariables false
set_option linter.unusedSimpArgs false
namespace Go.Ab

/-- Pure data: what a value comes to, its memory read to the end. -/
inductive D where
  | sc (v : Value)
  | agg (cs : List D)
  | sl (sz : Nat) (es : List (List D))
  | ep (cs : List D)

abbrev D.int (k : IntKind) (n : Int) : D := .sc (.int k n)
abbrev D.bool (b : Bool) : D := .sc (.bool b)
abbrev D.str (s : ByteArray) : D := .sc (.string s)

/-- The cells of a datum. -/
def D.cells : D → List D
  | .agg cs => cs
  | x => [x]

/-- Data with names of objects in it. -/
inductive AV where
  | d (x : D)
  | ptr (k : Nat) (off : Nat)
  | tip (n : Nat) (sz : Nat) (es : List (List D))
  | tup (l : List AV)
  | agg (l : List AV)
  | clo (f : Nat) (caps : List AV)

def AV.cells : AV → List AV
  | .d x => x.cells.map .d
  | .agg cs => cs
  | x => [x]

inductive RD (γ : Nat → Nat) (w : World) : D → Value → Prop
  | sc (v : Value) : RD γ w (.sc v) v
  | agg (cs : List D) (vs : Array Value) : cs.length = vs.size →
      (∀ (i : Nat) c v, cs[i]? = some c → vs[i]? = some v → RD γ w c v) → RD γ w (.agg cs) (.agg vs)
  | nil (sz : Nat) (a : Option Addr) (cap : Nat) : (a = none → cap = 0) → RD γ w (.sl sz []) (.slice a 0 cap)
  | sl (sz : Nat) (es : List (List D)) (b off len cap : Nat) : len = es.length → off + es.length * sz ≤ γ b → es.length ≤ cap →
      (∀ (i : Nat) cs, es[i]? = some cs → cs.length = sz) →
      (∀ (i : Nat) cs (j : Nat) c v, es[i]? = some cs → cs[j]? = some c → w.cell? ⟨b, off + i * sz + j, none⟩ = some v → RD γ w c v) →
      RD γ w (.sl sz es) (.slice (some ⟨b, off, none⟩) len cap)
  | ep (cs : List D) (b off : Nat) : off + cs.length ≤ γ b →
      (∀ (j : Nat) c v, cs[j]? = some c → w.cell? ⟨b, off + j, none⟩ = some v → RD γ w c v) →
      RD γ w (.ep cs) (.pointer (some ⟨b, off, none⟩))

/-- What has been protected stays. -/
structure LeD (γ : Nat → Nat) (w : World) (γ' : Nat → Nat) (w' : World) : Prop where
  up : ∀ b, γ b ≤ γ' b
  cell : ∀ b i, i < γ b → w'.cell? ⟨b, i, none⟩ = w.cell? ⟨b, i, none⟩

theorem LeD.refl (γ : Nat → Nat) (w : World) : LeD γ w γ w := ⟨fun _ => Nat.le_refl _, fun _ _ _ => rfl⟩

theorem LeD.trans {γ γ₁ γ₂ : Nat → Nat} {w w₁ w₂ : World} (h : LeD γ w γ₁ w₁) (h' : LeD γ₁ w₁ γ₂ w₂) : LeD γ w γ₂ w₂ :=
  ⟨fun b => Nat.le_trans (h.up b) (h'.up b), fun b i hi => (h'.cell b i (Nat.lt_of_lt_of_le hi (h.up b))).trans (h.cell b i hi)⟩

theorem lt_slot {i n sz j : Nat} (hi : i < n) (hj : j < sz) : i * sz + j < n * sz := by
  have h1 : (i + 1) * sz ≤ n * sz := Nat.mul_le_mul_right sz hi
  rw [Nat.succ_mul] at h1
  omega

theorem RD.mono {γ γ' : Nat → Nat} {w w' : World} {x : D} {v : Value} (h : RD γ w x v) (hle : LeD γ w γ' w') : RD γ' w' x v := by
  induction h with
  | sc v => exact .sc v
  | agg cs vs hl _ ih => exact .agg cs vs hl ih
  | nil sz a cap h0 => exact .nil sz a cap h0
  | sl sz es b off len cap hlen hγ hcap hsz _ ih =>
    refine .sl sz es b off len cap hlen (Nat.le_trans hγ (hle.up b)) hcap hsz ?_
    intro i cs j c v hi hj hv
    refine ih i cs j c v hi hj ?_
    have h1 : i < es.length := (List.getElem?_eq_some_iff.1 hi).1
    have h2 : j < cs.length := (List.getElem?_eq_some_iff.1 hj).1
    rw [hsz i cs hi] at h2
    have := lt_slot h1 h2
    rw [← hle.cell b _ (by omega)]
    exact hv
  | ep cs b off hγ _ ih =>
    refine .ep cs b off (Nat.le_trans hγ (hle.up b)) ?_
    intro j c v hj hv
    refine ih j c v hj ?_
    have h2 : j < cs.length := (List.getElem?_eq_some_iff.1 hj).1
    rw [← hle.cell b _ (by omega)]
    exact hv

/-- The ghost: how far each block is protected; the block of each live label (none: the slice is full); the block of each object. -/
structure Gh where
  γ : Nat → Nat
  β : Nat → Option (Option Nat)
  ρ : Nat → Nat

def Room (w : World) (b lo hi : Nat) : Prop := ∀ i, lo ≤ i → i < hi → (w.cell? ⟨b, i, none⟩).isSome ∧ w.frozen? ⟨b, i, none⟩ = false

/-- A slice at whose end may be appended. -/
def TipOk (g : Gh) (w : World) (n sz : Nat) : Value → Prop
  | .slice (some a) len cap => ∀ ob, g.β n = some ob → a.spot = none ∧ (len = cap ∨ (ob = some a.block ∧ g.γ a.block = a.off + len * sz ∧ Room w a.block (a.off + len * sz) (a.off + cap * sz)))
  | _ => True

inductive RA (g : Gh) (w : World) : AV → Value → Prop
  | d (x : D) (v : Value) : RD g.γ w x v → RA g w (.d x) v
  | ptr (k off : Nat) : RA g w (.ptr k off) (.pointer (some ⟨g.ρ k, off, none⟩))
  | tip (n sz : Nat) (es : List (List D)) (v : Value) : RD g.γ w (.sl sz es) v → TipOk g w n sz v → RA g w (.tip n sz es) v
  | tup (l : List AV) (vs : Array Value) : l.length = vs.size →
      (∀ (i : Nat) x v, l[i]? = some x → vs[i]? = some v → RA g w x v) → RA g w (.tup l) (.tuple vs)
  | agg (l : List AV) (vs : Array Value) : l.length = vs.size →
      (∀ (i : Nat) x v, l[i]? = some x → vs[i]? = some v → RA g w x v) → RA g w (.agg l) (.agg vs)
  | clo (f : Nat) (l : List AV) (vs : Array Value) : l.length = vs.size →
      (∀ (i : Nat) x v, l[i]? = some x → vs[i]? = some v → RA g w x v) → RA g w (.clo f l) (.func (.func f) #[] vs)

/-- Does a value name one of these? (objects and labels are numbered together) -/
inductive Free (F : List Nat) : AV → Prop
  | d (x : D) : Free F (.d x)
  | ptr (k off : Nat) : k ∉ F → Free F (.ptr k off)
  | tip (n sz : Nat) (es : List (List D)) : n ∉ F → Free F (.tip n sz es)
  | tup (l : List AV) : (∀ (i : Nat) x, l[i]? = some x → Free F x) → Free F (.tup l)
  | agg (l : List AV) : (∀ (i : Nat) x, l[i]? = some x → Free F x) → Free F (.agg l)
  | clo (f : Nat) (l : List AV) : (∀ (i : Nat) x, l[i]? = some x → Free F x) → Free F (.clo f l)

mutual
/-- the same, reckoned -/
def isFree (F : List Nat) : AV → Bool
  | .d _ => true
  | .ptr k _ => !F.contains k
  | .tip n _ _ => !F.contains n
  | .tup l => areFree F l
  | .agg l => areFree F l
  | .clo _ l => areFree F l
def areFree (F : List Nat) : List AV → Bool
  | [] => true
  | x :: r => isFree F x && areFree F r
end

theorem areFree_get {F : List Nat} {l : List AV} (h : areFree F l = true) {i : Nat} {x : AV} (hx : l[i]? = some x) : isFree F x = true := by
  induction l generalizing i with
  | nil => simp at hx
  | cons y r ih =>
    simp only [areFree, Bool.and_eq_true] at h
    cases i with
    | zero => simp at hx; subst hx; exact h.1
    | succ i => exact ih h.2 (by simpa using hx)

theorem free_of {F : List Nat} : ∀ {x : AV}, isFree F x = true → Free F x
  | .d x, _ => .d x
  | .ptr k off, h => .ptr k off (by simpa [isFree] using h)
  | .tip n sz es, h => .tip n sz es (by simpa [isFree] using h)
  | .tup l, h => .tup l fun i x hx => by
      have : SizeOf.sizeOf x < SizeOf.sizeOf l := List.sizeOf_lt_of_mem (List.mem_of_getElem? hx)
      exact free_of (areFree_get (by simpa [isFree] using h) hx)
  | .agg l, h => .agg l fun i x hx => by
      have : SizeOf.sizeOf x < SizeOf.sizeOf l := List.sizeOf_lt_of_mem (List.mem_of_getElem? hx)
      exact free_of (areFree_get (by simpa [isFree] using h) hx)
  | .clo f l, h => .clo f l fun i x hx => by
      have : SizeOf.sizeOf x < SizeOf.sizeOf l := List.sizeOf_lt_of_mem (List.mem_of_getElem? hx)
      exact free_of (areFree_get (by simpa [isFree] using h) hx)
termination_by x => x

theorem Free.nil (x : AV) : Free [] x := by
  apply free_of
  suffices h : (∀ y : AV, isFree [] y = true) from h x
  intro y
  suffices H : ∀ n, ∀ z : AV, SizeOf.sizeOf z ≤ n → isFree [] z = true from H _ y (Nat.le_refl _)
  intro n
  induction n with
  | zero => intro z hz; cases z <;> simp at hz
  | succ n ih =>
    have hl : ∀ l : List AV, SizeOf.sizeOf l ≤ n + 1 → areFree [] l = true := by
      intro l
      induction l with
      | nil => intro _; simp [areFree]
      | cons a r ihr =>
        intro hs
        simp at hs
        simp only [areFree, Bool.and_eq_true]
        exact ⟨ih a (by omega), ihr (by omega)⟩
    intro z hz
    cases z <;> simp at hz <;> simp [isFree]
    · exact hl _ (by omega)
    · exact hl _ (by omega)
    · exact hl _ (by omega)

/-- From one state of the ghost and the world to a later one; F: names that are new. -/
structure Trans (F : List Nat) (g : Gh) (w : World) (g' : Gh) (w' : World) : Prop where
  le : LeD g.γ w g'.γ w'
  names : ∀ k, k ∉ F → g'.ρ k = g.ρ k
  tips : ∀ n ob, n ∉ F → g'.β n = some ob → g.β n = some ob ∧ ∀ b, ob = some b → g'.γ b = g.γ b ∧ w'.heap[b]? = w.heap[b]?

theorem Trans.refl (F : List Nat) (g : Gh) (w : World) : Trans F g w g w := ⟨.refl _ _, fun _ _ => rfl, fun _ _ _ h => ⟨h, fun _ _ => ⟨rfl, rfl⟩⟩⟩

theorem Trans.trans {F F' : List Nat} {g g₁ g₂ : Gh} {w w₁ w₂ : World} (h : Trans F g w g₁ w₁) (h' : Trans F' g₁ w₁ g₂ w₂) : Trans (F ++ F') g w g₂ w₂ where
  le := h.le.trans h'.le
  names k hk := by
    rw [List.mem_append, not_or] at hk
    rw [h'.names k hk.2, h.names k hk.1]
  tips n ob hn he := by
    rw [List.mem_append, not_or] at hn
    obtain ⟨h1, h2⟩ := h'.tips n ob hn.2 he
    obtain ⟨h3, h4⟩ := h.tips n ob hn.1 h1
    exact ⟨h3, fun b hb => ⟨(h2 b hb).1.trans (h4 b hb).1, (h2 b hb).2.trans (h4 b hb).2⟩⟩

theorem cell?_of_heap {w w' : World} {b : Nat} (h : w'.heap[b]? = w.heap[b]?) (i : Nat) (s : Option Nat) : w'.cell? ⟨b, i, s⟩ = w.cell? ⟨b, i, s⟩ := by
  simp only [World.cell?, h]

theorem frozen?_of_heap {w w' : World} {b : Nat} (h : w'.heap[b]? = w.heap[b]?) (i : Nat) (s : Option Nat) : w'.frozen? ⟨b, i, s⟩ = w.frozen? ⟨b, i, s⟩ := by
  simp only [World.frozen?, h]

theorem Room.keep {w w' : World} {b lo hi : Nat} (h : Room w b lo hi) (hw : w'.heap[b]? = w.heap[b]?) : Room w' b lo hi := by
  intro i h1 h2
  rw [cell?_of_heap hw, frozen?_of_heap hw]
  exact h i h1 h2

theorem TipOk.keep {F : List Nat} {g g' : Gh} {w w' : World} {n sz : Nat} {v : Value} (h : TipOk g w n sz v) (ht : Trans F g w g' w') (hn : n ∉ F) : TipOk g' w' n sz v := by
  unfold TipOk at h ⊢
  split at h
  · rename_i a len cap
    intro ob hob
    obtain ⟨h1, h2⟩ := ht.tips n ob hn hob
    obtain ⟨hs, hc⟩ := h ob h1
    refine ⟨hs, hc.imp id ?_⟩
    rintro ⟨he, hγ, hr⟩
    obtain ⟨h3, h4⟩ := h2 _ he
    exact ⟨he, by rw [h3]; exact hγ, hr.keep h4⟩
  · trivial

theorem RA.mono {F : List Nat} {g g' : Gh} {w w' : World} {x : AV} {v : Value} (h : RA g w x v) (ht : Trans F g w g' w') (hf : Free F x) : RA g' w' x v := by
  induction h with
  | d x v h => exact .d x v (h.mono ht.le)
  | ptr k off =>
    cases hf with
    | ptr _ _ hk => rw [← ht.names k hk]; exact .ptr k off
  | tip n sz es v h h2 =>
    cases hf with
    | tip _ _ _ hk => exact .tip n sz es v (h.mono ht.le) (h2.keep ht hk)
  | tup l vs hl _ ih =>
    cases hf with
    | tup _ hx => exact .tup l vs hl fun i x v h1 h2 => ih i x v h1 h2 (hx i x h1)
  | agg l vs hl _ ih =>
    cases hf with
    | agg _ hx => exact .agg l vs hl fun i x v h1 h2 => ih i x v h1 h2 (hx i x h1)
  | clo f l vs hl _ ih =>
    cases hf with
    | clo _ _ hx => exact .clo f l vs hl fun i x v h1 h2 => ih i x v h1 h2 (hx i x h1)

end Go.Ab
