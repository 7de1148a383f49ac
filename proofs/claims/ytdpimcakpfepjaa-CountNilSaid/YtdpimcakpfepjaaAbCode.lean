/-
  The layer's code: states, operations, regions, the rules of control, contracts.
-/
import Derived.Test.YtdpimcakpfepjaaAbCore
set_option linter.unusedVariables false
set_option linter.unusedSimpArgs false
namespace Go.Ab

inductive Ob where
  | cells (cs : List AV)
  | map (l : List (Value × D))

structure Store where
  objs : List (Nat × Ob)
  live : List Nat

structure Sig where
  N : Nat
  names : List Nat

structure Base where
  n0 : Nat
  w0 : World
  γ0 : Nat → Nat
  allowed : Nat → Prop
  keep : Nat → Nat

inductive ObRel (g : Gh) (w : World) (b : Nat) : Ob → Prop
  | cells (cs : List AV) (arr : Array Value) (T : TypeId) : w.heap[b]? = some (.cells arr T (0, 0)) → cs.length = arr.size →
      (∀ (i : Nat) x v, cs[i]? = some x → arr[i]? = some v → RA g w x v) → ObRel g w b (.cells cs)
  | map (l : List (Value × D)) (es : Array MapEntry) (clock : Nat) : w.heap[b]? = some (.map es clock) → l.length = es.size →
      (∀ (i : Nat) x e, l[i]? = some x → es[i]? = some e → e.key = x.1 ∧ RD g.γ w x.2 e.val) →
      (∀ (i : Nat) e, es[i]? = some e → e.born < clock) →
      (∀ (i j : Nat) e e', es[i]? = some e → es[j]? = some e' → e.born = e'.born → i = j) → ObRel g w b (.map l)

structure HR (nm : List Nat) (B : Base) (g : Gh) (w : World) (X : Store) : Prop where
  keep : ∀ k, k ∈ nm → g.ρ k = B.keep k ∧ (X.objs.lookup k).isSome
  sane : ∀ b i, i < g.γ b → (w.cell? ⟨b, i, none⟩).isSome
  base : B.n0 ≤ w.heap.size
  io : w.os = B.w0.os ∧ w.output = B.w0.output ∧ w.tape = B.w0.tape
  le : LeD B.γ0 B.w0 g.γ w
  frame : ∀ b, b < B.n0 → ¬ B.allowed b → w.heap[b]? = B.w0.heap[b]? ∧ g.γ b = B.γ0 b
  objs : ∀ k o, X.objs.lookup k = some o → ObRel g w (g.ρ k) o
  objγ : ∀ k o, X.objs.lookup k = some o → g.γ (g.ρ k) = 0
  objinj : ∀ k k' o o', X.objs.lookup k = some o → X.objs.lookup k' = some o' → g.ρ k = g.ρ k' → k = k'
  objnew : ∀ k o, X.objs.lookup k = some o → B.n0 ≤ g.ρ k ∨ B.allowed (g.ρ k)
  live : ∀ n, n ∈ X.live ↔ (g.β n).isSome
  tipinj : ∀ n m b, g.β n = some (some b) → g.β m = some (some b) → n = m
  tipobj : ∀ n b k o, g.β n = some (some b) → X.objs.lookup k = some o → b ≠ g.ρ k
  tipnew : ∀ n b, g.β n = some (some b) → B.n0 ≤ b ∨ B.allowed b
  tiplt : ∀ n b, g.β n = some (some b) → b < w.heap.size

/-- A triple of one operation, by what it reads. -/
def OpT (P : Program) (o : Oper) (rd : List (Operand × AV)) (X X' : Store) (F : List Nat) (res : AV) : Prop :=
  ∀ (nm : List Nat) (B : Base) (g : Gh) (w : World) (a : Act), HR nm B g w X → (∀ p ∈ rd, RA g w p.2 (a.eval p.1)) →
    ∀ (next : Act → World → Prop) (Q : Exit → Act → World → Prop),
      (∀ g' w' v, HR nm B g' w' X' → Trans F g w g' w' → RA g' w' res v → next (a.put o.dst v) w') → o.wp P a w next Q

structure St where
  env : List (Nat × AV)
  X : Store

structure SR (S : Sig) (B : Base) (g : Gh) (w : World) (st : St) (a : Act) : Prop where
  defers : a.defers = []
  size : a.tmps.size = S.N
  hr : HR S.names B g w st.X
  env : ∀ t x, st.env.lookup t = some x → ∃ v, a.tmps[t]? = some v ∧ RA g w x v

/-- What a slot is known to hold; a slice at whose end may be appended is a slice. -/
inductive Has (env : List (Nat × AV)) (t : Nat) : AV → Prop
  | eq (x : AV) : env.lookup t = some x → Has env t x
  | tip (n sz : Nat) (es : List (List D)) : env.lookup t = some (.tip n sz es) → Has env t (.d (.sl sz es))

theorem Has.get {S : Sig} {B : Base} {g : Gh} {w : World} {st : St} {a : Act} {t : Nat} {x : AV} (h : Has st.env t x) (hs : SR S B g w st a) : ∃ v, a.tmps[t]? = some v ∧ RA g w x v := by
  cases h with
  | eq _ h => exact hs.env t _ h
  | tip n sz es h =>
    obtain ⟨v, hv, hr⟩ := hs.env t _ h
    cases hr with
    | tip _ _ _ _ h _ => exact ⟨v, hv, .d _ _ h⟩

inductive Sees (st : St) : Operand → AV → Prop
  | tmp (t : Nat) (y : AV) : Has st.env t y → Sees st (.tmp t) y
  | const (v : Value) (y : D) : (∀ γ w, RD γ w y v) → Sees st (.const v) (.d y)
  | func (f : Nat) : Sees st (.func f) (.clo f [])

theorem Sees.ra {S : Sig} {B : Base} {g : Gh} {w : World} {st : St} {a : Act} {x : Operand} {v : AV} (h : Sees st x v) (hs : SR S B g w st a) : RA g w v (a.eval x) := by
  cases h with
  | tmp t _ h =>
    obtain ⟨u, hv, hr⟩ := h.get hs
    have : a.eval (.tmp t) = u := by
      show a.tmps.getD t undef = u
      obtain ⟨hlt, rfl⟩ := Array.getElem?_eq_some_iff.1 hv
      simp [Array.getD, hlt]
    rw [this]; exact hr
  | const _ _ h => exact .d _ _ (h _ _)
  | func f => exact .clo f [] #[] rfl (by simp)

def putEnv (dst : Option Tmp) (x : AV) (env : List (Nat × AV)) : List (Nat × AV) :=
  match dst with
  | some d => (d, x) :: env
  | none => env

def dstOk (N : Nat) : Option Tmp → Bool
  | some d => decide (d < N)
  | none => true

def envFree (F : List Nat) (env : List (Nat × AV)) : Bool := F.isEmpty || env.all fun p => isFree F p.2

theorem lookup_mem {α : Type} {l : List (Nat × α)} {k : Nat} {x : α} (h : l.lookup k = some x) : (k, x) ∈ l := by
  induction l with
  | nil => simp at h
  | cons p r ih =>
    obtain ⟨k', y⟩ := p
    rw [List.lookup_cons] at h
    split at h
    · rename_i he
      simp at he h
      subst he; subst h
      exact List.mem_cons_self
    · exact List.mem_cons_of_mem _ (ih h)

theorem envFree_lookup {F : List Nat} {env : List (Nat × AV)} (h : envFree F env = true) {t : Nat} {x : AV} (hx : env.lookup t = some x) : Free F x := by
  unfold envFree at h
  rw [Bool.or_eq_true] at h
  rcases h with h | h
  · have : F = [] := by simpa using h
    subst this; exact .nil x
  · have := List.all_eq_true.1 h _ (lookup_mem hx)
    exact free_of this

/-- A state behind an operation. -/
theorem SR.put {S : Sig} {B : Base} {F : List Nat} {g g' : Gh} {w w' : World} {st : St} {a : Act} (h : SR S B g w st a) (ht : Trans F g w g' w') (hF : envFree F st.env = true)
    {X' : Store} (hX : HR S.names B g' w' X') {dst : Option Tmp} (hd : dstOk S.N dst = true) {x : AV} {v : Value} (hv : RA g' w' x v) :
    SR S B g' w' ⟨putEnv dst x st.env, X'⟩ (a.put dst v) := by
  cases dst with
  | none =>
    refine ⟨h.defers, h.size, hX, ?_⟩
    intro t y hy
    obtain ⟨u, hu, hr⟩ := h.env t y hy
    exact ⟨u, hu, hr.mono ht (envFree_lookup hF hy)⟩
  | some d =>
    have hdlt : d < S.N := by simpa [dstOk] using hd
    refine ⟨h.defers, by simp [Act.put, h.size], hX, ?_⟩
    intro t y hy
    simp only [putEnv, List.lookup_cons] at hy
    by_cases he : t = d
    · subst he
      simp at hy
      subst hy
      refine ⟨v, ?_, hv⟩
      simp [Act.put, h.size, hdlt]
    · have hb : (t == d) = false := by simpa using he
      rw [hb] at hy
      obtain ⟨u, hu, hr⟩ := h.env t y hy
      refine ⟨u, ?_, hr.mono ht (envFree_lookup hF hy)⟩
      simp [Act.put, Ne.symm he, hu]

/-- What the operation's guard says: b: it runs. -/
inductive Guard (ops : Array Oper) (st : St) : Option (Nat × Bool) → Bool → Prop
  | none : Guard ops st none true
  | some (j d : Nat) (o : Oper) (want b : Bool) : ops[j]? = some o → o.dst = some d → st.env.lookup d = some (.d (.sc (.bool b))) → Guard ops st (some (j, want)) (b == want)
  | undef (j d : Nat) (o : Oper) (want : Bool) : ops[j]? = some o → o.dst = some d → st.env.lookup d = some (.d (.sc Go.undef)) → Guard ops st (some (j, want)) false

theorem Guard.wanted {S : Sig} {B : Base} {g : Gh} {w : World} {ops : Array Oper} {st : St} {a : Act} {o : Oper} {b : Bool} (h : Guard ops st o.guard b) (hs : SR S B g w st a) :
    Region.wanted o (yielded ops a.tmps) = b := by
  unfold Region.wanted
  generalize o.guard = og at h
  cases h with
  | none => rfl
  | some j d o want b ho hd hl =>
    obtain ⟨v, hv, hr⟩ := hs.env d _ hl
    cases hr with
    | d _ _ hr =>
      cases hr
      simp only [yielded, ho, Option.bind_some, hd, hv]
      cases b <;> cases want <;> rfl
  | undef j d o want ho hd hl =>
    obtain ⟨v, hv, hr⟩ := hs.env d _ hl
    cases hr with
    | d _ _ hr =>
      cases hr
      simp only [yielded, ho, Option.bind_some, hd, hv]
      rfl

inductive Chain (P : Program) (S : Sig) (ops : Array Oper) : List Nat → St → St → Prop
  | nil (st : St) : Chain P S ops [] st st
  | op {i : Nat} {rest : List Nat} {o : Oper} {st st' : St} {rd : List (Operand × AV)} {X' : Store} {F : List Nat} {res : AV} :
      ops[i]? = some o → Guard ops st o.guard true → (∀ p ∈ rd, Sees st p.1 p.2) → OpT P o rd st.X X' F res → envFree F st.env = true →
      dstOk S.N o.dst = true → Chain P S ops rest ⟨putEnv o.dst res st.env, X'⟩ st' → Chain P S ops (i :: rest) st st'
  | skip {i : Nat} {rest : List Nat} {o : Oper} {st st' : St} :
      ops[i]? = some o → Guard ops st o.guard false → dstOk S.N o.dst = true →
      Chain P S ops rest ⟨putEnv o.dst (.d (.sc undef)) st.env, st.X⟩ st' → Chain P S ops (i :: rest) st st'

theorem wpOps_of_chain {P : Program} {S : Sig} {B : Base} {ops : Array Oper} {l : List Nat} {st st' : St} (h : Chain P S ops l st st') :
    ∀ {g : Gh} {w : World} {a : Act} {Q : Exit → Act → World → Prop}, SR S B g w st a →
      (∀ g' w' a', SR S B g' w' st' a' → Q .normal a' w') → wpOps P ops Q l a w := by
  induction h with
  | nil st => intro g w a Q hs hq; exact hq g w a hs
  | @op i rest o st st' rd X' F res ho hg hrd hop hF hd _ ih =>
    intro g w a Q hs hq
    unfold wpOps
    simp only [ho, hg.wanted hs, if_true]
    refine .inl (hop S.names B g w a hs.hr (fun p hp => (hrd p hp).ra hs) _ Q ?_)
    intro g' w' v hX ht hv
    exact ih (hs.put ht hF hX hd hv) hq
  | @skip i rest o st st' ho hg hd _ ih =>
    intro g w a Q hs hq
    unfold wpOps
    simp only [ho, hg.wanted hs, Bool.false_eq_true, if_false]
    exact ih (hs.put (.refl [] g w) rfl hs.hr hd (.d _ _ (.sc _))) hq

def AWp (P : Program) (S : Sig) (c : Code) (Q : Exit → St → Prop) (st : St) : Prop :=
  ∀ B g w a, SR S B g w st a → c.wp P (fun e a' w' => ∃ st' g', Q e st' ∧ SR S B g' w' st' a') a w

section rules
variable {P : Program} {S : Sig} {Q : Exit → St → Prop} {st : St}

theorem awp_region {id : Nat} {ops : Array Oper} {st' : St} (h : Chain P S ops (List.range ops.size) st st') (hq : Q .normal st') :
    AWp P S (.region id ops false) Q st := fun _ _ _ _ hs =>
  wp_region (wpOps_of_chain h hs fun g' _ _ hs' => ⟨st', g', hq, hs'⟩)

theorem awp_skip (h : Q .normal st) : AWp P S .skip Q st := fun _ g _ _ hs => wp_skip ⟨st, g, h, hs⟩
theorem awp_label {l : Nat} (h : Q .normal st) : AWp P S (.label l) Q st := fun _ g _ _ hs => wp_label ⟨st, g, h, hs⟩
theorem awp_exit {id : Nat} (h : Q (.exit id) st) : AWp P S (.exit id) Q st := fun _ g _ _ hs => wp_exit ⟨st, g, h, hs⟩
theorem awp_ret (h : Q .ret st) : AWp P S .ret Q st := fun _ g _ _ hs => wp_ret ⟨st, g, h, hs⟩

def thenQ (next : St → Prop) (Q : Exit → St → Prop) : Exit → St → Prop
  | .normal, st => next st
  | e, st => Q e st

theorem awp_mono {c : Code} {Q' : Exit → St → Prop} (h : AWp P S c Q st) (hq : ∀ e st, Q e st → Q' e st) : AWp P S c Q' st := fun B g w a hs =>
  wp_mono (h B g w a hs) fun _ _ _ ⟨st', g', q, s⟩ => ⟨st', g', hq _ _ q, s⟩

theorem awp_seq {x y : Code} (h : AWp P S x (thenQ (AWp P S y Q) Q) st) : AWp P S (.seq x y) Q st := fun B g w a hs => by
  refine wp_seq (wp_mono (h B g w a hs) ?_)
  rintro e a' w' ⟨st', g', q, s⟩
  cases e with
  | normal => exact q B g' w' a' s
  | _ => exact ⟨st', g', q, s⟩

theorem awp_cond {c : Operand} {x y : Code} {b : Bool} (hc : Sees st c (.d (.sc (.bool b)))) (ht : b = true → AWp P S x Q st) (hf : b = false → AWp P S y Q st) :
    AWp P S (.cond c x y) Q st := fun B g w a hs => by
  have hr := hc.ra hs
  have he : a.eval c = .bool b := by
    generalize a.eval c = u at hr
    cases hr with
    | d _ _ h => cases h; rfl
  exact wp_cond_split he (fun h => ht h B g w a hs) (fun h => hf h B g w a hs)

theorem awp_cond_true {c : Operand} {x y : Code} (hc : Sees st c (.d (.sc (.bool true)))) (ht : AWp P S x Q st) : AWp P S (.cond c x y) Q st :=
  awp_cond hc (fun _ => ht) (fun h => by cases h)
theorem awp_cond_false {c : Operand} {x y : Code} (hc : Sees st c (.d (.sc (.bool false)))) (hf : AWp P S y Q st) : AWp P S (.cond c x y) Q st :=
  awp_cond hc (fun h => by cases h) (fun _ => hf)

def blockQ (id : Nat) (Q : Exit → St → Prop) : Exit → St → Prop
  | .exit id', st => if id' = id then Q .normal st else Q (.exit id') st
  | e, st => Q e st

theorem awp_block {id : Nat} {c : Code} (h : AWp P S c (blockQ id Q) st) : AWp P S (.block id c) Q st := fun B g w a hs => by
  refine wp_block (wp_mono (h B g w a hs) ?_)
  rintro e a' w' ⟨st', g', q, s⟩
  cases e with
  | exit id' =>
    simp only [blockQ] at q
    simp only [Exit.inBlock]
    split at q
    · rw [if_pos ‹_›]; exact ⟨st', g', q, s⟩
    · rw [if_neg ‹_›]; exact ⟨st', g', q, s⟩
  | _ => exact ⟨st', g', q, s⟩

/-- A loop: I n st: at most n rounds are still to come. -/
theorem awp_loop {c : Code} (I : Nat → St → Prop) (n : Nat) (h0 : I n st)
    (round : ∀ n st, I n st → AWp P S c (thenQ (fun st' => ∃ m, m < n ∧ I m st') Q) st) : AWp P S (.loop c) Q st := fun B g w a hs => by
  refine wp_loop (P := P) (fun a w => ∃ n g st, I n st ∧ SR S B g w st a) (fun a w => Classical.epsilon fun n => (∃ g st, I n st ∧ SR S B g w st a) ∧ ∀ m, (∃ g st, I m st ∧ SR S B g w st a) → n ≤ m) ⟨n, g, st, h0, hs⟩ ?_
  have least : ∀ (p : Nat → Prop), (∃ n, p n) → ∃ n, p n ∧ ∀ m, p m → n ≤ m := by
    intro p ⟨n, hn⟩
    induction n using Nat.strongRecOn with
    | _ n ih =>
      by_cases hm : ∃ m, m < n ∧ p m
      · obtain ⟨m, hlt, hp⟩ := hm
        exact ih m hlt hp
      · refine ⟨n, hn, fun m hp => ?_⟩
        rcases Nat.lt_or_ge m n with hlt | hge
        · exact (hm ⟨m, hlt, hp⟩).elim
        · exact hge
  intro a w hI
  have hI' : ∃ n, (∃ g st, I n st ∧ SR S B g w st a) := by
    obtain ⟨n, g, st, h⟩ := hI; exact ⟨n, g, st, h⟩
  have hmin := Classical.epsilon_spec (least _ hI')
  generalize hN : (Classical.epsilon fun n => (∃ g st, I n st ∧ SR S B g w st a) ∧ ∀ m, (∃ g st, I m st ∧ SR S B g w st a) → n ≤ m) = N at hmin
  obtain ⟨⟨g₁, st₁, hi, hs₁⟩, _⟩ := hmin
  refine wp_mono (round N st₁ hi B g₁ w a hs₁) ?_
  rintro e a' w' ⟨st', g', q, s⟩
  cases e with
  | normal =>
    obtain ⟨m, hlt, hm⟩ := q
    refine ⟨⟨m, g', st', hm, s⟩, ?_⟩
    have hI'' : ∃ n, (∃ g st, I n st ∧ SR S B g w' st a') := ⟨m, g', st', hm, s⟩
    have hmin' := Classical.epsilon_spec (least _ hI'')
    exact Nat.lt_of_le_of_lt (hmin'.2 m ⟨g', st', hm, s⟩) hlt
  | _ => exact ⟨st', g', q, s⟩

/-- Forget what is not needed. -/
structure Weak (nm : List Nat) (st st' : St) : Prop where
  env : ∀ p ∈ st'.env, Has st.env p.1 p.2
  objs : ∀ p ∈ st'.X.objs, st.X.objs.lookup p.1 = some p.2
  live : ∀ n ∈ st'.X.live, n ∈ st.X.live
  keep : ∀ k ∈ nm, (st'.X.objs.lookup k).isSome

theorem SR.weaken' {B : Base} {st' : St} {g : Gh} {w : World} {a : Act} (h : SR S B g w st a) (hw : Weak S.names st st') : ∃ g', Trans [] g w g' w ∧ SR S B g' w st' a := by
  classical
  let g' : Gh := { g with β := fun n => if n ∈ st'.X.live then g.β n else none }
  have ht : Trans [] g w g' w := ⟨.refl _ _, fun _ _ => rfl, fun n ob _ he => by
    simp only [g'] at he
    split at he
    · exact ⟨he, fun _ _ => ⟨rfl, rfl⟩⟩
    · cases he⟩
  have hβ : ∀ n ob, g'.β n = some ob → g.β n = some ob := fun n ob he => (ht.tips n ob (by simp) he).1
  refine ⟨g', ht, h.defers, h.size, ?_, ?_⟩
  · have hr := h.hr
    have hl : ∀ k o, st'.X.objs.lookup k = some o → st.X.objs.lookup k = some o := fun k o hk => hw.objs _ (lookup_mem hk)
    refine ⟨?_, hr.sane, hr.base, hr.io, hr.le, hr.frame, ?_, ?_, ?_, ?_, ?_, ?_, ?_, ?_, ?_⟩
    · intro k hk; exact ⟨(hr.keep k hk).1, hw.keep k hk⟩
    · intro k o hk
      have := hr.objs k o (hl k o hk)
      cases this with
      | cells cs arr T h1 h2 h3 => exact .cells cs arr T h1 h2 fun i x v hx hv => (h3 i x v hx hv).mono ht (.nil x)
      | map l es clock h1 h2 h3 h4 h5 => exact .map l es clock h1 h2 h3 h4 h5
    · intro k o hk; exact hr.objγ k o (hl k o hk)
    · intro k k' o o' hk hk' he; exact hr.objinj k k' o o' (hl k o hk) (hl k' o' hk') he
    · intro k o hk; exact hr.objnew k o (hl k o hk)
    · intro n
      simp only [g']
      by_cases hn : n ∈ st'.X.live
      · simp only [hn, if_true, true_iff]; exact (hr.live n).1 (hw.live n hn)
      · simp [hn]
    · intro n m b hn hm; exact hr.tipinj n m b (hβ n _ hn) (hβ m _ hm)
    · intro n b k o hn hk; exact hr.tipobj n b k o (hβ n _ hn) (hl k o hk)
    · intro n b hn; exact hr.tipnew n b (hβ n _ hn)
    · intro n b hn; exact hr.tiplt n b (hβ n _ hn)
  · intro t x hx
    obtain ⟨v, hv, hr⟩ := (hw.env _ (lookup_mem hx)).get h
    exact ⟨v, hv, hr.mono ht (.nil x)⟩

theorem SR.weaken {B : Base} {st' : St} {g : Gh} {w : World} {a : Act} (h : SR S B g w st a) (hw : Weak S.names st st') : ∃ g', SR S B g' w st' a :=
  let ⟨g', _, hs⟩ := h.weaken' hw; ⟨g', hs⟩

theorem awp_weaken {c : Code} {st' : St} (hw : Weak S.names st st') (h : AWp P S c Q st') : AWp P S c Q st :=
  fun B g w a hs => let ⟨g', hs'⟩ := hs.weaken hw; h B g' w a hs'
end rules

end Go.Ab
