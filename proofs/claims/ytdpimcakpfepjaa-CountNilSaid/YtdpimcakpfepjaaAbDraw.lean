/-
  A region that draws its order: one walk in the text's order, and a reckoned look at the operations, stand for all orders.
-/
import Derived.Test.YtdpimcakpfepjaaAbObj
import Derived.Orders
set_option linter.unusedVariables false
set_option linter.unusedSimpArgs false
namespace Go.Ab

/-- What an operation does to the objects: nothing; it looks at some; it writes one; it may look at all and leaves this store. -/
inductive Eff where
  | none
  | look (ks : List Nat)
  | put (k : Nat) (c : Ob)
  | all (X : Store)

def Eff.apply : Eff → Store → Store
  | .put k c, X => ⟨setObj k c X.objs, X.live⟩
  | .all X', _ => X'
  | _, X => X

/-- it writes object k -/
def Eff.writes (k : Nat) : Eff → Bool
  | .put j _ => j == k
  | .all _ => true
  | _ => false

def Eff.clash : Eff → Eff → Bool
  | .none, _ | _, .none => false
  | .look _, .look _ => false
  | .look js, .put k _ | .put k _, .look js => js.contains k
  | .put j _, .put k _ => j == k
  | _, _ => true

structure It where
  o : Oper
  run : Bool
  rd : List (Operand × AV)
  eff : Eff
  F : List Nat
  res : AV

inductive DChain (P : Program) (S : Sig) (ops : Array Oper) : Nat → St → List It → St → Prop
  | nil (i : Nat) (st : St) : DChain P S ops i st [] st
  | op {i : Nat} {o : Oper} {st st' : St} {rd : List (Operand × AV)} {res : AV} {its : List It} :
      ops[i]? = some o → Guard ops st o.guard true → (∀ p ∈ rd, Sees st p.1 p.2) → (∀ X, OpT P o rd X X [] res) → dstOk S.N o.dst = true →
      DChain P S ops (i + 1) ⟨putEnv o.dst res st.env, st.X⟩ its st' → DChain P S ops i st (⟨o, true, rd, .none, [], res⟩ :: its) st'
  | look {i : Nat} {o : Oper} {st st' : St} {rd : List (Operand × AV)} {res : AV} {its : List It} {ks : List Nat} :
      ops[i]? = some o → Guard ops st o.guard true → (∀ p ∈ rd, Sees st p.1 p.2) → (∀ X : Store, (∀ k ∈ ks, X.objs.lookup k = st.X.objs.lookup k) → OpT P o rd X X [] res) → dstOk S.N o.dst = true →
      DChain P S ops (i + 1) ⟨putEnv o.dst res st.env, st.X⟩ its st' → DChain P S ops i st (⟨o, true, rd, .look ks, [], res⟩ :: its) st'
  | put {i : Nat} {o : Oper} {st st' : St} {rd : List (Operand × AV)} {res : AV} {its : List It} {k : Nat} {c : Ob} :
      ops[i]? = some o → Guard ops st o.guard true → (∀ p ∈ rd, Sees st p.1 p.2) →
      (∀ X, X.objs.lookup k = st.X.objs.lookup k → OpT P o rd X ⟨setObj k c X.objs, X.live⟩ [] res) → dstOk S.N o.dst = true →
      DChain P S ops (i + 1) ⟨putEnv o.dst res st.env, ⟨setObj k c st.X.objs, st.X.live⟩⟩ its st' → DChain P S ops i st (⟨o, true, rd, .put k c, [], res⟩ :: its) st'
  | eff {i : Nat} {o : Oper} {st st' : St} {rd : List (Operand × AV)} {res : AV} {its : List It} {X' : Store} {F : List Nat} :
      ops[i]? = some o → Guard ops st o.guard true → (∀ p ∈ rd, Sees st p.1 p.2) → OpT P o rd st.X X' F res → dstOk S.N o.dst = true →
      DChain P S ops (i + 1) ⟨putEnv o.dst res st.env, X'⟩ its st' → DChain P S ops i st (⟨o, true, rd, .all X', F, res⟩ :: its) st'
  | skip {i : Nat} {o : Oper} {st st' : St} {its : List It} :
      ops[i]? = some o → Guard ops st o.guard false → dstOk S.N o.dst = true →
      DChain P S ops (i + 1) ⟨putEnv o.dst (.d (.sc undef)) st.env, st.X⟩ its st' → DChain P S ops i st (⟨o, false, [], .none, [], .d (.sc undef)⟩ :: its) st'

/-- the value of a slot when just those operations of the first m are done that D says -/
def E (base : Nat → Option AV) (its : List It) (D : Nat → Bool) : Nat → Nat → Option AV
  | 0, t => base t
  | m + 1, t => match its[m]? with
    | some it => if D m && (it.o.dst == some t) then some it.res else E base its D m t
    | none => E base its D m t

def XE (X0 : Store) (its : List It) (D : Nat → Bool) : Nat → Store
  | 0 => X0
  | m + 1 => match its[m]? with
    | some it => if D m then it.eff.apply (XE X0 its D m) else XE X0 its D m
    | none => XE X0 its D m

/-- What holds of an operation at its place in the text. -/
structure ItOk (P : Program) (S : Sig) (ops : Array Oper) (i : Nat) (it : It) (st : St) : Prop where
  at_ : ops[i]? = some it.o
  dst : dstOk S.N it.o.dst = true
  guard : Guard ops st it.o.guard it.run
  sees : ∀ p ∈ it.rd, Sees st p.1 p.2
  opt : it.run = true → match it.eff with
    | .none => it.F = [] ∧ ∀ X, OpT P it.o it.rd X X [] it.res
    | .look ks => it.F = [] ∧ ∀ X : Store, (∀ k ∈ ks, X.objs.lookup k = st.X.objs.lookup k) → OpT P it.o it.rd X X [] it.res
    | .put k c => it.F = [] ∧ ∀ X, X.objs.lookup k = st.X.objs.lookup k → OpT P it.o it.rd X ⟨setObj k c X.objs, X.live⟩ [] it.res
    | .all X' => OpT P it.o it.rd st.X X' it.F it.res
  skipped : it.run = false → it.eff = .none ∧ it.F = [] ∧ it.res = .d (.sc undef)

theorem E_shift (base : Nat → Option AV) (it : It) (its : List It) (D : Nat → Bool) : ∀ (m t : Nat),
    E (fun t => if D 0 && (it.o.dst == some t) then some it.res else base t) its (fun k => D (k + 1)) m t = E base (it :: its) D (m + 1) t
  | 0, t => by simp [E]
  | m + 1, t => by
    have ih := E_shift base it its D m t
    conv => lhs; unfold E
    rw [ih]
    conv => rhs; unfold E
    simp

theorem XE_shift (X0 : Store) (it : It) (its : List It) (D : Nat → Bool) : ∀ (m : Nat),
    XE (if D 0 then it.eff.apply X0 else X0) its (fun k => D (k + 1)) m = XE X0 (it :: its) D (m + 1)
  | 0 => by simp [XE]
  | m + 1 => by
    have ih := XE_shift X0 it its D m
    conv => lhs; unfold XE
    rw [ih]
    conv => rhs; unfold XE
    simp

theorem lookup_putEnv (dst : Option Tmp) (x : AV) (env : List (Nat × AV)) (t : Nat) : (putEnv dst x env).lookup t = if dst == some t then some x else env.lookup t := by
  cases dst with
  | none => rfl
  | some d =>
    simp only [putEnv, List.lookup_cons]
    by_cases h : t = d
    · subst h; simp
    · have h1 : (t == d) = false := by simpa using h
      have h2 : (some d == some t) = false := by simpa using Ne.symm h
      rw [h1, h2]; rfl

theorem DChain.items {P : Program} {S : Sig} {ops : Array Oper} {i : Nat} {st st' : St} {its : List It} (h : DChain P S ops i st its st') :
    (∀ m it, its[m]? = some it → ∃ stm, ItOk P S ops (i + m) it stm ∧ (∀ t, stm.env.lookup t = E (fun t => st.env.lookup t) its (fun _ => true) m t) ∧ stm.X = XE st.X its (fun _ => true) m) ∧
    (∀ t, st'.env.lookup t = E (fun t => st.env.lookup t) its (fun _ => true) its.length t) ∧ st'.X = XE st.X its (fun _ => true) its.length := by
  have key : ∀ {i : Nat} {st st' : St} {it : It} {its : List It} {X1 : Store}, ItOk P S ops i it st → (X1 = it.eff.apply st.X) →
      ((∀ m it', its[m]? = some it' → ∃ stm, ItOk P S ops (i + 1 + m) it' stm ∧ (∀ t, stm.env.lookup t = E (fun t => (putEnv it.o.dst it.res st.env).lookup t) its (fun _ => true) m t) ∧ stm.X = XE X1 its (fun _ => true) m) ∧
        (∀ t, st'.env.lookup t = E (fun t => (putEnv it.o.dst it.res st.env).lookup t) its (fun _ => true) its.length t) ∧ st'.X = XE X1 its (fun _ => true) its.length) →
      (∀ m it', (it :: its)[m]? = some it' → ∃ stm, ItOk P S ops (i + m) it' stm ∧ (∀ t, stm.env.lookup t = E (fun t => st.env.lookup t) (it :: its) (fun _ => true) m t) ∧ stm.X = XE st.X (it :: its) (fun _ => true) m) ∧
        (∀ t, st'.env.lookup t = E (fun t => st.env.lookup t) (it :: its) (fun _ => true) (it :: its).length t) ∧ st'.X = XE st.X (it :: its) (fun _ => true) (it :: its).length := by
    intro i st st' it its X1 hok hX ⟨h1, h2, h3⟩
    have hb : (fun t => (putEnv it.o.dst it.res st.env).lookup t) = fun t => if (fun _ : Nat => true) 0 && (it.o.dst == some t) then some it.res else st.env.lookup t := by
      funext t; rw [lookup_putEnv]; simp
    have hx : X1 = (if (fun _ : Nat => true) 0 then it.eff.apply st.X else st.X) := by rw [hX]; simp
    refine ⟨?_, ?_, ?_⟩
    · intro m it' hm
      cases m with
      | zero => simp at hm; subst hm; exact ⟨st, hok, fun _ => rfl, rfl⟩
      | succ m =>
        obtain ⟨stm, k1, k2, k3⟩ := h1 m it' (by simpa using hm)
        refine ⟨stm, by rw [show i + (m + 1) = i + 1 + m by omega]; exact k1, fun t => ?_, ?_⟩
        · rw [k2 t, hb]; exact E_shift (fun t => st.env.lookup t) it its (fun _ => true) m t
        · rw [k3, hx]; exact XE_shift st.X it its (fun _ => true) m
    · intro t; rw [h2 t, hb]; exact E_shift (fun t => st.env.lookup t) it its (fun _ => true) its.length t
    · rw [h3, hx]; exact XE_shift st.X it its (fun _ => true) its.length
  induction h with
  | nil i st => exact ⟨by simp, fun _ => rfl, rfl⟩
  | op h1 h2 h3 h4 h5 _ ih => exact key (it := ⟨_, true, _, .none, [], _⟩) ⟨h1, h5, h2, h3, fun _ => ⟨rfl, h4⟩, by simp⟩ rfl ih
  | look h1 h2 h3 h4 h5 _ ih => exact key (it := ⟨_, true, _, .look _, [], _⟩) ⟨h1, h5, h2, h3, fun _ => ⟨rfl, h4⟩, by simp⟩ rfl ih
  | put h1 h2 h3 h4 h5 _ ih => exact key (it := ⟨_, true, _, .put _ _, [], _⟩) ⟨h1, h5, h2, h3, fun _ => ⟨rfl, h4⟩, by simp⟩ rfl ih
  | eff h1 h2 h3 h4 h5 _ ih => exact key (it := ⟨_, true, _, .all _, _, _⟩) ⟨h1, h5, h2, h3, fun _ => h4, by simp⟩ rfl ih
  | skip h1 h2 h5 _ ih => exact key (it := ⟨_, false, [], .none, [], _⟩) ⟨h1, h5, h2, by simp, by simp, fun _ => ⟨rfl, rfl, rfl⟩⟩ rfl ih

/-- which operations stand ahead of each one, in any order -/
def befs (ops : List Oper) : List Nat :=
  ops.foldl (fun acc o => acc ++ [o.after.toList.foldl (fun s e => if Region.binds .any e then s ||| 2 ^ e.on ||| acc.getD e.on 0 else s) 0]) []

theorem fold_bits (acc : List Nat) (j : Nat) : ∀ (l : List Edge) (s : Nat), (l.foldl (fun s e => if Region.binds .any e then s ||| 2 ^ e.on ||| acc.getD e.on 0 else s) s).testBit j = true →
    s.testBit j = true ∨ ∃ e ∈ l, Region.binds .any e = true ∧ (e.on = j ∨ (acc.getD e.on 0).testBit j = true)
  | [], s, h => .inl h
  | e :: l, s, h => by
    rw [List.foldl_cons] at h
    rcases fold_bits acc j l _ h with h | ⟨e', he', h⟩
    · split at h
      · rename_i hb
        rw [Nat.testBit_or, Nat.testBit_or, Bool.or_eq_true, Bool.or_eq_true] at h
        rcases h with (h | h) | h
        · exact .inl h
        · refine .inr ⟨e, List.mem_cons_self, hb, .inl ?_⟩
          rw [Nat.testBit_two_pow] at h; simpa using h
        · exact .inr ⟨e, List.mem_cons_self, hb, .inr h⟩
      · exact .inl h
    · exact .inr ⟨e', List.mem_cons_of_mem _ he', h⟩

theorem befs_spec (ops : List Oper) : ∀ (i j : Nat), ((befs ops).getD i 0).testBit j = true → ∃ o, ops[i]? = some o ∧ ∃ e ∈ o.after.toList, Region.binds .any e = true ∧
    (e.on = j ∨ (e.on < i ∧ ((befs ops).getD e.on 0).testBit j = true)) := by
  suffices H : ∀ (l : List Oper) (pre : List Oper) (acc : List Nat), acc.length = pre.length →
      (∀ i j, (acc.getD i 0).testBit j = true → ∃ o, pre[i]? = some o ∧ ∃ e ∈ o.after.toList, Region.binds .any e = true ∧ (e.on = j ∨ (e.on < i ∧ (acc.getD e.on 0).testBit j = true))) →
      ∀ i j, ((l.foldl (fun acc o => acc ++ [o.after.toList.foldl (fun s e => if Region.binds .any e then s ||| 2 ^ e.on ||| acc.getD e.on 0 else s) 0]) acc).getD i 0).testBit j = true →
        ∃ o, (pre ++ l)[i]? = some o ∧ ∃ e ∈ o.after.toList, Region.binds .any e = true ∧ (e.on = j ∨ (e.on < i ∧
          ((l.foldl (fun acc o => acc ++ [o.after.toList.foldl (fun s e => if Region.binds .any e then s ||| 2 ^ e.on ||| acc.getD e.on 0 else s) 0]) acc).getD e.on 0).testBit j = true)) by
    intro i j h
    exact H ops [] [] rfl (by simp) i j h
  intro l
  induction l with
  | nil => intro pre acc _ h i j hb; simpa using h i j hb
  | cons o l ih =>
    intro pre acc hl h i j hb
    rw [List.foldl_cons] at hb ⊢
    have := ih (pre ++ [o]) (acc ++ [o.after.toList.foldl (fun s e => if Region.binds .any e then s ||| 2 ^ e.on ||| acc.getD e.on 0 else s) 0]) (by simp [hl]) ?_ i j hb
    · simpa using this
    · intro i j hb
      have getl : ∀ k, k < acc.length → (acc ++ [o.after.toList.foldl (fun s e => if Region.binds .any e then s ||| 2 ^ e.on ||| acc.getD e.on 0 else s) 0]).getD k 0 = acc.getD k 0 := by
        intro k hk
        simp only [List.getD_eq_getElem?_getD, List.getElem?_append_left hk]
      by_cases hi : i < acc.length
      · rw [getl i hi] at hb
        obtain ⟨o', ho', e, he, hbd, hd⟩ := h i j hb
        refine ⟨o', by rw [List.getElem?_append_left (by omega)]; exact ho', e, he, hbd, ?_⟩
        rcases hd with hd | ⟨hd1, hd2⟩
        · exact .inl hd
        · exact .inr ⟨hd1, by rw [getl _ (by omega)]; exact hd2⟩
      · by_cases hie : i = acc.length
        · subst hie
          have hlast : (acc ++ [o.after.toList.foldl (fun s e => if Region.binds .any e then s ||| 2 ^ e.on ||| acc.getD e.on 0 else s) 0]).getD acc.length 0 =
              o.after.toList.foldl (fun s e => if Region.binds .any e then s ||| 2 ^ e.on ||| acc.getD e.on 0 else s) 0 := by
            simp [List.getD_eq_getElem?_getD]
          rw [hlast] at hb
          rcases fold_bits acc j _ 0 hb with h0 | ⟨e, he, hbd, hd⟩
          · simp at h0
          · refine ⟨o, by rw [hl, List.getElem?_append_right (Nat.le_refl _)]; simp, e, he, hbd, ?_⟩
            rcases hd with hd | hd
            · exact .inl hd
            · have hlt : e.on < acc.length := by
                rcases Nat.lt_or_ge e.on acc.length with h' | h'
                · exact h'
                · rw [List.getD_eq_getElem?_getD, List.getElem?_eq_none h'] at hd; simp at hd
              exact .inr ⟨hlt, by rw [getl _ hlt]; exact hd⟩
        · rw [List.getD_eq_getElem?_getD, List.getElem?_eq_none (by simp; omega)] at hb
          simp at hb

/-- done sets are closed: whoever is done, or may be done next, has all that stands ahead of it done -/
theorem befs_closed {ops : List Oper} {D : Nat → Bool} (hD : ∀ i o, ops[i]? = some o → D i = true → ∀ e ∈ o.after.toList, Region.binds .any e = true → D e.on = true) :
    ∀ (i : Nat), (∀ o, ops[i]? = some o → ∀ e ∈ o.after.toList, Region.binds .any e = true → D e.on = true) → ∀ j, ((befs ops).getD i 0).testBit j = true → D j = true := by
  intro i
  induction i using Nat.strongRecOn with
  | _ i ih =>
    intro hi j hj
    obtain ⟨o, ho, e, he, hb, hd⟩ := befs_spec ops i j hj
    have hDe := hi o ho e he hb
    rcases hd with rfl | ⟨hlt, hd⟩
    · exact hDe
    · exact ih e.on hlt (fun o' ho' e' he' hb' => hD e.on o' ho' hDe e' he' hb') j hd

def looks (ops : Array Oper) (it : It) : List Nat :=
  it.rd.filterMap (fun p => match p.1 with | .tmp t => some t | _ => none) ++
  (match it.o.guard with
   | some (j, _) => ((ops[j]?).bind (·.dst)).toList
   | none => [])

def ahead (bs : List Nat) (j i : Nat) : Bool := (bs.getD i 0).testBit j

/-- The look: whatever writes what another one reads or writes is ordered with it; so are those that look at objects, if one of them changes them. -/
def drawOk (ops : Array Oper) (env0 : List (Nat × AV)) (its : List It) : Bool :=
  let bs := befs ops.toList
  let n := its.length
  ops.size == n &&
  (List.range n).all fun i => match its[i]? with
    | none => false
    | some it =>
      envFree it.F env0 && (it.o.after.toList.all fun e => !Region.binds .any e || decide (e.on < i)) &&
      (List.range n).all fun k => i == k || match its[k]? with
        | none => false
        | some jt =>
          (match jt.o.dst with
           | none => true
           | some d => (!(looks ops it).contains d && !(it.o.dst == some d)) || (if k < i then ahead bs k i else ahead bs i k)) &&
          (!(it.eff.clash jt.eff) || (if k < i then ahead bs k i else ahead bs i k)) &&
          (it.F.isEmpty || ahead bs i k || isFree it.F jt.res)

structure DOk (ops : Array Oper) (env0 : List (Nat × AV)) (its : List It) : Prop where
  size : ops.size = its.length
  env : ∀ (i : Nat) it, its[i]? = some it → envFree it.F env0 = true
  acyc : ∀ (i : Nat) it, its[i]? = some it → ∀ e ∈ it.o.after.toList, Region.binds .any e = true → e.on < i
  ord : ∀ (i k : Nat) it jt d, its[i]? = some it → its[k]? = some jt → i ≠ k → jt.o.dst = some d → (d ∈ looks ops it ∨ it.o.dst = some d) →
    (k < i → ahead (befs ops.toList) k i = true) ∧ (i < k → ahead (befs ops.toList) i k = true)
  ordX : ∀ (i k : Nat) it jt, its[i]? = some it → its[k]? = some jt → i ≠ k → it.eff.clash jt.eff = true →
    (k < i → ahead (befs ops.toList) k i = true) ∧ (i < k → ahead (befs ops.toList) i k = true)
  free : ∀ (i k : Nat) it jt, its[i]? = some it → its[k]? = some jt → i ≠ k → it.F = [] ∨ ahead (befs ops.toList) i k = true ∨ isFree it.F jt.res = true

theorem drawOk_spec {ops : Array Oper} {env0 : List (Nat × AV)} {its : List It} (h : drawOk ops env0 its = true) : DOk ops env0 its := by
  unfold drawOk at h
  simp only [Bool.and_eq_true, beq_iff_eq, List.all_eq_true, List.mem_range] at h
  obtain ⟨hs, h⟩ := h
  have one : ∀ (i : Nat) it, its[i]? = some it → i < its.length := fun i it hi => (List.getElem?_eq_some_iff.1 hi).1
  have ifs : ∀ {p q : Bool} {i k : Nat}, i ≠ k → (if k < i then p else q) = true → (k < i → p = true) ∧ (i < k → q = true) := by
    intro p q i k hne hh
    by_cases hk : k < i
    · rw [if_pos hk] at hh; exact ⟨fun _ => hh, fun h => by omega⟩
    · rw [if_neg hk] at hh; exact ⟨fun h => (hk h).elim, fun _ => hh⟩
  have two : ∀ (i k : Nat) it jt, its[i]? = some it → its[k]? = some jt → i ≠ k →
      ((match jt.o.dst with
        | none => true
        | some d => (!(looks ops it).contains d && !(it.o.dst == some d)) || (if k < i then ahead (befs ops.toList) k i else ahead (befs ops.toList) i k)) = true ∧
      (!(it.eff.clash jt.eff) || (if k < i then ahead (befs ops.toList) k i else ahead (befs ops.toList) i k)) = true) ∧
      (it.F.isEmpty || ahead (befs ops.toList) i k || isFree it.F jt.res) = true := by
    intro i k it jt hi hk hne
    have h1 := h i (one i it hi)
    rw [hi] at h1
    simp only [Bool.and_eq_true, List.all_eq_true, List.mem_range] at h1
    have h2 := h1.2 k (one k jt hk)
    rw [hk] at h2
    rw [Bool.or_eq_true] at h2
    rcases h2 with h2 | h2
    · exact (hne (by simpa using h2)).elim
    · simpa only [Bool.and_eq_true] using h2
  refine ⟨hs, ?_, ?_, ?_, ?_, ?_⟩
  · intro i it hi
    have h1 := h i (one i it hi)
    rw [hi] at h1
    simp only [Bool.and_eq_true] at h1
    exact h1.1.1
  · intro i it hi e he hb
    have h1 := h i (one i it hi)
    rw [hi] at h1
    simp only [Bool.and_eq_true, List.all_eq_true] at h1
    have h2 := h1.1.2 e he
    rw [hb] at h2
    simpa using h2
  · intro i k it jt d hi hk hne hd hl
    have h1 := (two i k it jt hi hk hne).1.1
    rw [hd] at h1
    simp only [Bool.or_eq_true] at h1
    rcases h1 with h1 | h1
    · exfalso
      simp only [Bool.and_eq_true, Bool.not_eq_true', beq_eq_false_iff_ne, ne_eq] at h1
      rcases hl with hl | hl
      · have : (looks ops it).contains d = true := by simpa using hl
        rw [this] at h1; cases h1.1
      · exact h1.2 hl
    · exact ifs hne h1
  · intro i k it jt hi hk hne h3
    have h1 := (two i k it jt hi hk hne).1.2
    simp only [Bool.or_eq_true] at h1
    rcases h1 with h1 | h1
    · exfalso
      rw [h3] at h1
      cases h1
    · exact ifs hne h1
  · intro i k it jt hi hk hne
    have h1 := (two i k it jt hi hk hne).2
    simp only [Bool.or_eq_true] at h1
    rcases h1 with (h1 | h1) | h1
    · exact .inl (by simpa using h1)
    · exact .inr (.inl h1)
    · exact .inr (.inr h1)

theorem E_stop {base : Nat → Option AV} {its : List It} {D : Nat → Bool} {t : Nat} {i : Nat} : ∀ (m : Nat), i ≤ m → (∀ k it, its[k]? = some it → i ≤ k → it.o.dst = some t → D k = false) →
    E base its D m t = E base its D i t
  | 0, h, _ => by have : i = 0 := by omega
                  subst this; rfl
  | m + 1, h, hd => by
    rcases Nat.lt_or_ge m i with hlt | hge
    · have : i = m + 1 := by omega
      subst this; rfl
    · have ih := E_stop (base := base) (its := its) (D := D) (t := t) m hge hd
      rw [← ih]
      conv => lhs; unfold E
      cases hit : its[m]? with
      | none => rfl
      | some it =>
        simp only
        by_cases hdst : it.o.dst = some t
        · rw [hd m it hit hge hdst]; simp
        · have : (it.o.dst == some t) = false := by simpa using hdst
          rw [this]; simp

theorem E_congr {base : Nat → Option AV} {its : List It} {D D' : Nat → Bool} {t : Nat} : ∀ (m : Nat), (∀ k it, its[k]? = some it → k < m → it.o.dst = some t → D k = D' k) → E base its D m t = E base its D' m t
  | 0, _ => rfl
  | m + 1, hd => by
    have ih := E_congr (base := base) m fun k it hk hl hdst => hd k it hk (by omega) hdst
    conv => lhs; unfold E
    conv => rhs; unfold E
    cases hit : its[m]? with
    | none => exact ih
    | some it =>
      simp only
      by_cases hdst : it.o.dst = some t
      · rw [hd m it hit (Nat.lt_succ_self m) hdst, ih]
      · have : (it.o.dst == some t) = false := by simpa using hdst
        rw [this]; simpa using ih

theorem Eff.apply_lookup {e : Eff} {X : Store} {k : Nat} (h : e.writes k = false) : (e.apply X).objs.lookup k = X.objs.lookup k := by
  cases e with
  | none => rfl
  | look => rfl
  | put j c =>
    simp only [Eff.apply, lookup_setObj]
    rw [if_neg]
    rintro rfl
    simp [Eff.writes] at h
  | all => simp [Eff.writes] at h

def Eff.isAll : Eff → Bool
  | .all _ => true
  | _ => false

theorem Eff.apply_live {e : Eff} {X : Store} (h : e.isAll = false) : (e.apply X).live = X.live := by
  cases e <;> first | rfl | simp [Eff.isAll] at h

theorem XE_stop {X0 : Store} {its : List It} {D : Nat → Bool} {i j : Nat} : ∀ (m : Nat), i ≤ m → (∀ k it, its[k]? = some it → i ≤ k → it.eff.writes j = true → D k = false) →
    (XE X0 its D m).objs.lookup j = (XE X0 its D i).objs.lookup j
  | 0, h, _ => by have : i = 0 := by omega
                  subst this; rfl
  | m + 1, h, hd => by
    rcases Nat.lt_or_ge m i with hlt | hge
    · have : i = m + 1 := by omega
      subst this; rfl
    · have ih := XE_stop (X0 := X0) (its := its) (D := D) m hge hd
      rw [← ih]
      conv => lhs; unfold XE
      cases hit : its[m]? with
      | none => rfl
      | some it =>
        simp only
        cases hw : it.eff.writes j with
        | false => split <;> simp [Eff.apply_lookup hw]
        | true => rw [hd m it hit hge hw]; simp

theorem XE_congr {X0 : Store} {its : List It} {D D' : Nat → Bool} {j : Nat} : ∀ (m : Nat), (∀ k it, its[k]? = some it → k < m → it.eff.writes j = true → D k = D' k) →
    (XE X0 its D m).objs.lookup j = (XE X0 its D' m).objs.lookup j
  | 0, _ => rfl
  | m + 1, hd => by
    have ih := XE_congr (X0 := X0) m fun k it hk hl hw => hd k it hk (by omega) hw
    conv => lhs; unfold XE
    conv => rhs; unfold XE
    cases hit : its[m]? with
    | none => exact ih
    | some it =>
      simp only
      cases hw : it.eff.writes j with
      | false => split <;> split <;> simp [Eff.apply_lookup hw, ih]
      | true =>
        rw [hd m it hit (Nat.lt_succ_self m) hw]
        split
        · cases he : it.eff with
          | none => exact ih
          | look => exact ih
          | put k c => simp only [Eff.apply, lookup_setObj, ih]
          | all X' => rfl
        · exact ih

theorem XE_stop_live {X0 : Store} {its : List It} {D : Nat → Bool} {i : Nat} : ∀ (m : Nat), i ≤ m → (∀ k it, its[k]? = some it → i ≤ k → it.eff.isAll = true → D k = false) →
    (XE X0 its D m).live = (XE X0 its D i).live
  | 0, h, _ => by have : i = 0 := by omega
                  subst this; rfl
  | m + 1, h, hd => by
    rcases Nat.lt_or_ge m i with hlt | hge
    · have : i = m + 1 := by omega
      subst this; rfl
    · have ih := XE_stop_live (X0 := X0) (its := its) (D := D) m hge hd
      rw [← ih]
      conv => lhs; unfold XE
      cases hit : its[m]? with
      | none => rfl
      | some it =>
        simp only
        cases hw : it.eff.isAll with
        | false => split <;> simp [Eff.apply_live hw]
        | true => rw [hd m it hit hge hw]; simp

theorem XE_congr_live {X0 : Store} {its : List It} {D D' : Nat → Bool} : ∀ (m : Nat), (∀ k it, its[k]? = some it → k < m → it.eff.isAll = true → D k = D' k) →
    (XE X0 its D m).live = (XE X0 its D' m).live
  | 0, _ => rfl
  | m + 1, hd => by
    have ih := XE_congr_live (X0 := X0) m fun k it hk hl hw => hd k it hk (by omega) hw
    conv => lhs; unfold XE
    conv => rhs; unfold XE
    cases hit : its[m]? with
    | none => exact ih
    | some it =>
      simp only
      cases hw : it.eff.isAll with
      | false => split <;> split <;> simp [Eff.apply_live hw, ih]
      | true =>
        rw [hd m it hit (Nat.lt_succ_self m) hw]
        cases he : it.eff with
        | all X' => split <;> simp [Eff.apply, ih]
        | _ => rw [he] at hw; simp [Eff.isAll] at hw

theorem clash_writes (e : Eff) (j : Nat) (h : (∃ js, j ∈ js ∧ e = .look js) ∨ ∃ c, e = .put j c) (e' : Eff) (hw : e'.writes j = true) : e.clash e' = true := by
  rcases h with ⟨js, hj, rfl⟩ | ⟨c, rfl⟩ <;> cases e' <;> simp_all [Eff.clash, Eff.writes]

theorem writes_touch {e : Eff} {j : Nat} (h : e.writes j = true) : e ≠ .none := by rintro rfl; cases h
theorem all_touch {e : Eff} (h : e.isAll = true) : e ≠ .none := by rintro rfl; cases h
theorem clash_all (X : Store) (e : Eff) (h : e ≠ .none) : (Eff.all X).clash e = true := by
  cases e <;> first | rfl | exact absurd rfl h

structure Alike (X Y : Store) : Prop where
  objs : ∀ k, X.objs.lookup k = Y.objs.lookup k
  live : X.live = Y.live

theorem HR.alike {nm : List Nat} {B : Base} {g : Gh} {w : World} {X Y : Store} (h : HR nm B g w X) (e : Alike X Y) : HR nm B g w Y := by
  refine ⟨?_, h.sane, h.base, h.io, h.le, h.frame, ?_, ?_, ?_, ?_, ?_, h.tipinj, ?_, h.tipnew, h.tiplt⟩
  · intro k hk; rw [← e.objs]; exact h.keep k hk
  · intro k o hk; rw [← e.objs] at hk; exact h.objs k o hk
  · intro k o hk; rw [← e.objs] at hk; exact h.objγ k o hk
  · intro k k' o o' hk hk'; rw [← e.objs] at hk hk'; exact h.objinj k k' o o' hk hk'
  · intro k o hk; rw [← e.objs] at hk; exact h.objnew k o hk
  · intro n; rw [← e.live]; exact h.live n
  · intro n b k o hn hk; rw [← e.objs] at hk; exact h.tipobj n b k o hn hk

theorem Alike.symm {X Y : Store} (h : Alike X Y) : Alike Y X := ⟨fun k => (h.objs k).symm, h.live.symm⟩
theorem Alike.trans {X Y Z : Store} (h : Alike X Y) (h' : Alike Y Z) : Alike X Z := ⟨fun k => (h.objs k).trans (h'.objs k), h.live.trans h'.live⟩

theorem E_source {base : Nat → Option AV} {its : List It} {D : Nat → Bool} {t : Nat} {x : AV} : ∀ (m : Nat), E base its D m t = some x → base t = some x ∨ ∃ k it, its[k]? = some it ∧ D k = true ∧ it.res = x
  | 0, h => .inl h
  | m + 1, h => by
    unfold E at h
    cases hit : its[m]? with
    | none => rw [hit] at h; exact E_source m h
    | some it =>
      rw [hit] at h
      simp only at h
      split at h
      · rename_i hc
        simp only [Bool.and_eq_true] at hc
        exact .inr ⟨m, it, hit, hc.1, by simpa using h⟩
      · exact E_source m h

def sub (L : List Nat) (env : List (Nat × AV)) : List (Nat × AV) := L.filterMap fun t => (env.lookup t).map fun x => (t, x)

theorem sub_lookup {L : List Nat} {env : List (Nat × AV)} {t : Nat} {x : AV} (h : (sub L env).lookup t = some x) : t ∈ L ∧ env.lookup t = some x := by
  have := lookup_mem h
  unfold sub at this
  rw [List.mem_filterMap] at this
  obtain ⟨t', ht', he⟩ := this
  obtain ⟨y, hy, hp⟩ := Option.map_eq_some_iff.1 he
  cases hp
  exact ⟨ht', hy⟩

theorem sub_has {env : List (Nat × AV)} {t : Nat} {x : AV} : ∀ {L : List Nat}, t ∈ L → env.lookup t = some x → (sub L env).lookup t = some x
  | [], h, _ => by simp at h
  | s :: L, h, hx => by
    unfold sub
    rw [List.filterMap_cons]
    by_cases hst : t = s
    · subst hst; simp [hx]
    · have hL : t ∈ L := by
        rcases List.mem_cons.1 h with h | h
        · exact (hst h).elim
        · exact h
      have ih := sub_has hL hx
      unfold sub at ih
      cases hs : env.lookup s with
      | none => simpa using ih
      | some y =>
        simp only [Option.map_some, List.lookup_cons]
        have : (t == s) = false := by simpa using hst
        rw [this]; exact ih

theorem Has.sub {env : List (Nat × AV)} {t : Nat} {x : AV} {L : List Nat} (h : Has env t x) (ht : t ∈ L) : Has (sub L env) t x := by
  cases h with
  | eq _ h => exact .eq _ (sub_has ht h)
  | tip n sz es h => exact .tip n sz es (sub_has ht h)

structure DR (S : Sig) (B : Base) (st0 : St) (its : List It) (D : Nat → Bool) (g : Gh) (w : World) (a : Act) : Prop where
  defers : a.defers = []
  size : a.tmps.size = S.N
  hr : HR S.names B g w (XE st0.X its D its.length)
  env : ∀ t x, E (fun t => st0.env.lookup t) its D its.length t = some x → ∃ v, a.tmps[t]? = some v ∧ RA g w x v

theorem count_take {D D' : Nat → Bool} {n i : Nat} (hi : i < n) (h0 : D i = false) (h1 : D' i = true) (hsame : ∀ j, j ≠ i → D' j = D j) :
    ((List.range n).filter fun j => !D' j).length < ((List.range n).filter fun j => !D j).length := by
  have hsub : ∀ l : List Nat, ((l.filter fun j => !D' j).length ≤ (l.filter fun j => !D j).length) ∧ (i ∈ l → (l.filter fun j => !D' j).length < (l.filter fun j => !D j).length) := by
    intro l
    induction l with
    | nil => simp
    | cons x l ih =>
      rw [List.filter_cons, List.filter_cons]
      by_cases hx : x = i
      · subst hx
        simp only [h0, h1, Bool.not_true, Bool.not_false, if_true, Bool.false_eq_true, if_false, List.length_cons]
        exact ⟨by have := ih.1; omega, fun _ => by have := ih.1; omega⟩
      · rw [hsame x hx]
        have hmem : i ∈ x :: l → i ∈ l := fun h => by
          rcases List.mem_cons.1 h with h | h
          · exact (hx h.symm).elim
          · exact h
        split
        · simp only [List.length_cons]
          exact ⟨by have := ih.1; omega, fun h => by have := ih.2 (hmem h); omega⟩
        · exact ⟨ih.1, fun h => ih.2 (hmem h)⟩
  exact (hsub (List.range n)).2 (List.mem_range.2 hi)

theorem wpAny_of_items {P : Program} {S : Sig} {B : Base} {ops : Array Oper} {st0 st' : St} {its : List It} (hd : DChain P S ops 0 st0 its st') (ho : DOk ops st0.env its)
    {Q : Exit → Act → World → Prop} (hq : ∀ g' w' a', SR S B g' w' st' a' → Q .normal a' w') :
    ∀ (fuel : Nat) (listed : Array Bool) (g : Gh) (w : World) (a : Act), listed.size = ops.size →
      (∀ i o, ops[i]? = some o → listed.getD i false = true → ∀ e ∈ o.after.toList, Region.binds .any e = true → listed.getD e.on false = true) →
      DR S B st0 its (fun i => listed.getD i false) g w a → ((List.range ops.size).filter fun j => !listed.getD j false).length ≤ fuel →
      wpAny P .any ops Q fuel listed a w := by
  obtain ⟨items, fin1, fin2⟩ := hd.items
  have itsome : ∀ (i : Nat), i < ops.size → ∃ it, its[i]? = some it := fun i hi => ⟨its[i]'(by rw [← ho.size]; exact hi), by simp [← ho.size, hi]⟩
  have opsAt : ∀ (i : Nat) (it : It), its[i]? = some it → ops[i]? = some it.o := by
    intro i it hi
    obtain ⟨stm, h1, _⟩ := items i it hi
    have := h1.at_
    rwa [Nat.zero_add] at this
  -- nobody is ready: all is done
  have done : ∀ (listed : Array Bool) (g : Gh) (w : World) (a : Act), listed.size = ops.size → DR S B st0 its (fun i => listed.getD i false) g w a →
      (∀ i, i < ops.size → listed.getD i false = true) → Q .normal a w := by
    intro listed g w a _ hdr hall
    refine hq g w a ⟨hdr.defers, hdr.size, ?_, ?_⟩
    · rw [fin2]
      refine hdr.hr.alike ⟨fun j => ?_, ?_⟩
      · exact XE_congr (X0 := st0.X) (its := its) (D := fun i => listed.getD i false) (D' := fun _ => true) its.length fun k it hk hl _ => by
          (try simp only); exact hall k (by rw [ho.size]; exact hl)
      · exact XE_congr_live (X0 := st0.X) (its := its) (D := fun i => listed.getD i false) (D' := fun _ => true) its.length fun k it hk hl _ => by
          (try simp only); exact hall k (by rw [ho.size]; exact hl)
    · intro t x hx
      rw [fin1 t] at hx
      have := E_congr (base := fun t => st0.env.lookup t) (its := its) (D := fun i => listed.getD i false) (D' := fun _ => true) (t := t) its.length fun k it hk hl _ => by
        (try simp only); exact hall k (by rw [ho.size]; exact hl)
      exact hdr.env t x (by rw [this]; exact hx)
  have getD2 : ∀ (listed : Array Bool) (i : Nat) (d d' : Bool), i < listed.size → listed.getD i d = listed.getD i d' := by
    intro listed i d d' hi; simp [Array.getD, hi]
  have readyNil : ∀ (listed : Array Bool), listed.size = ops.size → Region.ready .any ops listed = [] → ∀ i, i < ops.size → listed.getD i false = true := by
    intro listed hs hr i
    induction i using Nat.strongRecOn with
    | _ i ih =>
      intro hi
      cases hl : listed.getD i false with
      | true => rfl
      | false =>
        exfalso
        obtain ⟨it, hit⟩ := itsome i hi
        have hmem : i ∈ Region.ready .any ops listed := by
          rw [mem_ready]
          refine ⟨by rw [getD2 listed i true false (by omega)]; exact hl, it.o, opsAt i it hit, fun e he hb => ?_⟩
          have hlt := ho.acyc i it hit e (by simpa using he) hb
          exact ih e.on hlt (by omega)
        rw [hr] at hmem; simp at hmem
  intro fuel
  induction fuel with
  | zero =>
    intro listed g w a hs hcl hdr hc
    have hall : ∀ i, i < ops.size → listed.getD i false = true := by
      intro i hi
      have h0 : (List.range ops.size).filter (fun j => !listed.getD j false) = [] := List.length_eq_zero_iff.1 (by omega)
      cases hl : listed.getD i false with
      | true => rfl
      | false =>
        have : i ∈ (List.range ops.size).filter (fun j => !listed.getD j false) := by
          rw [List.mem_filter]; exact ⟨List.mem_range.2 hi, by simp [hl]⟩
        rw [h0] at this; simp at this
    refine ⟨?_, done listed g w a hs hdr hall⟩
    cases hr : Region.ready .any ops listed with
    | nil => rfl
    | cons i r =>
      have hm : i ∈ Region.ready .any ops listed := by rw [hr]; exact List.mem_cons_self
      rw [mem_ready] at hm
      obtain ⟨h1, o, h2, _⟩ := hm
      have hi : i < ops.size := (Array.getElem?_eq_some_iff.1 h2).1
      rw [getD2 listed i true false (by omega), hall i hi] at h1
      cases h1
  | succ fuel ih =>
    intro listed g w a hs hcl hdr hc
    refine ⟨fun hr => done listed g w a hs hdr (readyNil listed hs hr), ?_⟩
    intro i hmem
    rw [mem_ready] at hmem
    obtain ⟨hun, o, hio, hedges⟩ := hmem
    have hi : i < ops.size := (Array.getElem?_eq_some_iff.1 hio).1
    have hDi : listed.getD i false = false := by rw [getD2 listed i false true (by omega)]; exact hun
    obtain ⟨it, hit⟩ := itsome i hi
    have hoe : o = it.o := by
      have := opsAt i it hit
      rw [hio] at this; simpa using this
    subst hoe
    obtain ⟨stm, hok, henv, hXm⟩ := items i it hit
    have hilt : i < its.length := by rw [← ho.size]; exact hi
    -- who stands ahead of i is done; who stands behind it is not
    have hcl' : ∀ i o, ops.toList[i]? = some o → listed.getD i false = true → ∀ e ∈ o.after.toList, Region.binds .any e = true → listed.getD e.on false = true :=
      fun i o h => hcl i o (by simpa using h)
    have hbefore : ∀ k, ahead (befs ops.toList) k i = true → listed.getD k false = true := by
      intro k hk
      refine befs_closed (D := fun i => listed.getD i false) hcl' i ?_ k hk
      intro o' ho' e he hb
      have : o' = it.o := by
        have h1 := opsAt i it hit
        rw [← Array.getElem?_toList, ho'] at h1; simpa using h1
      subst this
      exact hedges e (by simpa using he) hb
    have hbehind : ∀ k, ahead (befs ops.toList) i k = true → listed.getD k false = false := by
      intro k hk
      cases hl : listed.getD k false with
      | false => rfl
      | true =>
        have := befs_closed (D := fun i => listed.getD i false) hcl' k (fun o' ho' e he hb => hcl' k o' ho' hl e he hb) i hk
        (try simp only at this)
        rw [hDi] at this; cases this
    -- what i looks at is as it is at its place in the text
    have hlook : ∀ t, t ∈ looks ops it → E (fun t => st0.env.lookup t) its (fun i => listed.getD i false) its.length t = stm.env.lookup t := by
      intro t ht
      rw [henv t, E_stop (i := i) its.length (by omega) ?_]
      · refine E_congr i fun k jt hk hl hdst => ?_
        (try simp only)
        exact hbefore k ((ho.ord i k it jt t hit hk (by omega) hdst (.inl ht)).1 hl)
      · intro k jt hk hge hdst
        (try simp only)
        rcases Nat.lt_or_ge i k with hlt | hle
        · exact hbehind k ((ho.ord i k it jt t hit hk (by omega) hdst (.inl ht)).2 hlt)
        · have : k = i := by omega
          subst this; exact hDi
    -- the state that i sees
    have hsr : ∀ X, X = XE st0.X its (fun i => listed.getD i false) its.length → SR S B g w ⟨sub (looks ops it) stm.env, X⟩ a := by
      intro X hX
      subst hX
      refine ⟨hdr.defers, hdr.size, hdr.hr, ?_⟩
      intro t x hx
      obtain ⟨h1, h2⟩ := sub_lookup hx
      exact hdr.env t x (by rw [hlook t h1]; exact h2)
    have hguard : Guard ops (⟨sub (looks ops it) stm.env, XE st0.X its (fun i => listed.getD i false) its.length⟩ : St) it.o.guard it.run := by
      have h1 := hok.guard
      have h2 : ∀ (j : Nat) (d : Nat) (o : Oper) (want : Bool), it.o.guard = some (j, want) → ops[j]? = some o → o.dst = some d → d ∈ looks ops it := by
        intro j d o want hg hj hdst
        unfold looks
        rw [hg]
        simp [hj, hdst]
      generalize it.o.guard = og at h1 h2
      generalize it.run = rn at h1
      cases h1 with
      | none => exact .none
      | some j d o want b h3 h4 h5 => exact .some j d o want b h3 h4 (sub_has (h2 j d o want rfl h3 h4) h5)
      | undef j d o want h3 h4 h5 => exact .undef j d o want h3 h4 (sub_has (h2 j d o want rfl h3 h4) h5)
    have hsees : ∀ p ∈ it.rd, Sees (⟨sub (looks ops it) stm.env, XE st0.X its (fun i => listed.getD i false) its.length⟩ : St) p.1 p.2 := by
      intro p hp
      have h1 := hok.sees p hp
      have h2 : ∀ t, p.1 = .tmp t → t ∈ looks ops it := by
        intro t ht
        unfold looks
        rw [List.mem_append, List.mem_filterMap]
        exact .inl ⟨p, hp, by rw [ht]⟩
      obtain ⟨p1, p2⟩ := p
      simp only at h1 h2 ⊢
      cases h1 with
      | tmp t _ h => exact .tmp t _ (h.sub (h2 t rfl))
      | const v y h => exact .const v y h
      | func f => exact .func f
    have hwant := hguard.wanted (o := it.o) (hsr _ rfl)
    -- behind i
    have hset : ∀ j, (listed.setIfInBounds i true).getD j false = if j = i then true else listed.getD j false := by
      intro j
      by_cases hj : j = i
      · subst hj
        have : j < listed.size := by omega
        simp [this]
      · rw [if_neg hj, getD_set_ne false (Ne.symm hj)]
    have hD' : (fun j => (listed.setIfInBounds i true).getD j false) = fun j => if j = i then true else listed.getD j false := funext hset
    have next : ∀ (g' : Gh) (w' : World) (v : Value), HR S.names B g' w' (XE st0.X its (fun j => if j = i then true else listed.getD j false) its.length) → Trans it.F g w g' w' → RA g' w' it.res v →
        wpAny P .any ops Q fuel (listed.setIfInBounds i true) (a.put it.o.dst v) w' := by
      intro g' w' v hX ht hv
      refine ih (listed.setIfInBounds i true) g' w' (a.put it.o.dst v) (by simp [hs]) ?_ ?_ ?_
      · intro j o' hj hl e he hb
        rw [hset] at hl ⊢
        by_cases hji : j = i
        · subst hji
          have : o' = it.o := by rw [hio] at hj; simpa using hj.symm
          subst this
          have := hedges e (by simpa using he) hb
          split
          · rfl
          · exact this
        · rw [if_neg hji] at hl
          have := hcl j o' hj hl e he hb
          split
          · rfl
          · exact this
      · rw [hD']
        refine ⟨?_, ?_, hX, ?_⟩
        · cases hdst : it.o.dst <;> simp [Act.put, hdr.defers]
        · cases hdst : it.o.dst <;> simp [Act.put, hdr.size]
        · intro t x hx
          by_cases hdst : it.o.dst = some t
          · -- its own slot
            have hE : E (fun t => st0.env.lookup t) its (fun j => if j = i then true else listed.getD j false) its.length t = some it.res := by
              rw [E_stop (i := i + 1) its.length (by omega) ?_]
              · unfold E
                rw [hit]
                simp [hdst]
              · intro k jt hk hge hkd
                (try simp only)
                rw [if_neg (by omega)]
                exact hbehind k ((ho.ord i k it jt t hit hk (by omega) hkd (.inr hdst)).2 (by omega))
            rw [hE] at hx
            simp only [Option.some.injEq] at hx
            subst hx
            have hlt : t < a.tmps.size := by
              have := hok.dst
              rw [hdst] at this
              rw [hdr.size]; simpa [dstOk] using this
            refine ⟨v, ?_, hv⟩
            rw [hdst]; simp [Act.put, hlt]
          · have hE : E (fun t => st0.env.lookup t) its (fun j => if j = i then true else listed.getD j false) its.length t = E (fun t => st0.env.lookup t) its (fun i => listed.getD i false) its.length t := by
              refine E_congr its.length fun k jt hk hl hkd => ?_
              (try simp only)
              by_cases hki : k = i
              · subst hki
                rw [hit] at hk; simp only [Option.some.injEq] at hk; subst hk
                exact (hdst hkd).elim
              · rw [if_neg hki]
            rw [hE] at hx
            obtain ⟨u, hu, hra⟩ := hdr.env t x hx
            have hfree : Free it.F x := by
              rcases E_source its.length hx with h | ⟨k, jt, hk, hDk, rfl⟩
              · exact envFree_lookup (ho.env i it hit) h
              · have hki : i ≠ k := by rintro rfl; (try simp only at hDk); rw [hDi] at hDk; cases hDk
                rcases ho.free i k it jt hit hk hki with h | h | h
                · exact .all _ _ h
                · have := hbehind k h; (try simp only at hDk); rw [this] at hDk; cases hDk
                · exact free_of h
            refine ⟨u, ?_, hra.mono ht hfree⟩
            cases hdd : it.o.dst with
            | none => simpa [Act.put] using hu
            | some d =>
              have : d ≠ t := by rintro rfl; exact hdst hdd
              simp [Act.put, this, hu]
      · have := count_take (D := fun j => listed.getD j false) (D' := fun j => (listed.setIfInBounds i true).getD j false) (n := ops.size) (i := i) hi hDi (by (try simp only); rw [hset, if_pos rfl]) (by
          intro j hj; (try simp only); rw [hset, if_neg hj])
        (try simp only at this)
        omega
    -- the objects behind i, where it does not touch all of them
    have sameAt : ∀ j, it.eff.writes j = false → (XE st0.X its (fun j => if j = i then true else listed.getD j false) its.length).objs.lookup j = (XE st0.X its (fun i => listed.getD i false) its.length).objs.lookup j := by
      intro j hw
      refine XE_congr its.length fun k jt hk hl hkw => ?_
      (try simp only)
      by_cases hki : k = i
      · subst hki
        rw [hit] at hk; simp only [Option.some.injEq] at hk; subst hk
        rw [hw] at hkw; cases hkw
      · rw [if_neg hki]
    have sameLive : it.eff.isAll = false → (XE st0.X its (fun j => if j = i then true else listed.getD j false) its.length).live = (XE st0.X its (fun i => listed.getD i false) its.length).live := by
      intro hw
      refine XE_congr_live its.length fun k jt hk hl hkw => ?_
      (try simp only)
      by_cases hki : k = i
      · subst hki
        rw [hit] at hk; simp only [Option.some.injEq] at hk; subst hk
        rw [hw] at hkw; cases hkw
      · rw [if_neg hki]
    -- an object that i looks at is as it is at i's place in the text
    have objAt : ∀ j, (∀ e', e'.writes j = true → it.eff.clash e' = true) → (XE st0.X its (fun i => listed.getD i false) its.length).objs.lookup j = stm.X.objs.lookup j := by
      intro j hcl'
      rw [hXm, XE_stop (i := i) its.length (by omega) ?_]
      · refine XE_congr i fun k jt hk hl hkw => ?_
        (try simp only)
        exact hbefore k ((ho.ordX i k it jt hit hk (by omega) (hcl' _ hkw)).1 hl)
      · intro k jt hk hge hkw
        (try simp only)
        rcases Nat.lt_or_ge i k with hlt | hle
        · exact hbehind k ((ho.ordX i k it jt hit hk (by omega) (hcl' _ hkw)).2 hlt)
        · have : k = i := by omega
          subst this; exact hDi
    unfold wpOp
    rw [hio]
    simp only
    rw [hwant]
    cases hrun : it.run with
    | false =>
      obtain ⟨h1, h2, h3⟩ := hok.skipped hrun
      simp only [Bool.false_eq_true, if_false]
      refine next g w undef (hdr.hr.alike ⟨fun j => (sameAt j (by rw [h1]; rfl)).symm, (sameLive (by rw [h1]; rfl)).symm⟩) (by rw [h2]; exact .refl _ _ _) (by rw [h3]; exact .ofSc _ _ _)
    | true =>
      simp only [if_true]
      refine .inl ?_
      have hopt := hok.opt hrun
      cases he : it.eff with
      | none =>
        rw [he] at hopt
        obtain ⟨h2, hT⟩ := hopt
        refine hT (XE st0.X its (fun i => listed.getD i false) its.length) S.names B g w a hdr.hr (fun p hp => (hsees p hp).ra (hsr _ rfl)) _ Q ?_
        intro g' w' v hX ht hv
        exact next g' w' v (hX.alike ⟨fun j => (sameAt j (by rw [he]; rfl)).symm, (sameLive (by rw [he]; rfl)).symm⟩) (by rw [h2]; exact ht) hv
      | look ks =>
        rw [he] at hopt
        obtain ⟨h2, hT⟩ := hopt
        refine hT (XE st0.X its (fun i => listed.getD i false) its.length) (fun k hk => objAt k (fun e' hw => by rw [he]; exact clash_writes _ k (.inl ⟨ks, hk, rfl⟩) e' hw)) S.names B g w a hdr.hr (fun p hp => (hsees p hp).ra (hsr _ rfl)) _ Q ?_
        intro g' w' v hX ht hv
        exact next g' w' v (hX.alike ⟨fun j => (sameAt j (by rw [he]; rfl)).symm, (sameLive (by rw [he]; rfl)).symm⟩) (by rw [h2]; exact ht) hv
      | put k c =>
        rw [he] at hopt
        obtain ⟨h2, hT⟩ := hopt
        refine hT (XE st0.X its (fun i => listed.getD i false) its.length) (objAt k (fun e' hw => by rw [he]; exact clash_writes _ k (.inr ⟨c, rfl⟩) e' hw)) S.names B g w a hdr.hr (fun p hp => (hsees p hp).ra (hsr _ rfl)) _ Q ?_
        intro g' w' v hX ht hv
        refine next g' w' v (hX.alike ⟨fun j => ?_, (sameLive (by rw [he]; rfl)).symm⟩) (by rw [h2]; exact ht) hv
        simp only [lookup_setObj]
        by_cases hjk : j = k
        · subst hjk
          rw [if_pos rfl, XE_stop (i := i + 1) its.length (by omega) ?_]
          · unfold XE
            rw [hit]
            simp [he, Eff.apply, lookup_setObj]
          · intro m jt hm hge hw
            (try simp only)
            rw [if_neg (by omega)]
            exact hbehind m ((ho.ordX i m it jt hit hm (by omega) (by rw [he]; exact clash_writes _ j (.inr ⟨c, rfl⟩) _ hw)).2 (by omega))
        · rw [if_neg hjk]
          refine (sameAt j ?_).symm
          rw [he]
          simp only [Eff.writes, beq_eq_false_iff_ne, ne_eq]
          exact Ne.symm hjk
      | all X' =>
        rw [he] at hopt
        have hclash : ∀ (e' : Eff) (j : Nat), e'.writes j = true → it.eff.clash e' = true := by
          intro e' j hw; rw [he]; exact clash_all _ _ (writes_touch hw)
        have hclashA : ∀ e' : Eff, e'.isAll = true → it.eff.clash e' = true := by
          intro e' hw; rw [he]; exact clash_all _ _ (all_touch hw)
        have hXD : Alike (XE st0.X its (fun i => listed.getD i false) its.length) stm.X := by
          refine ⟨fun j => objAt j (fun e' hw => hclash e' j hw), ?_⟩
          rw [hXm, XE_stop_live (i := i) its.length (by omega) ?_]
          · refine XE_congr_live i fun k jt hk hl hkw => ?_
            (try simp only)
            exact hbefore k ((ho.ordX i k it jt hit hk (by omega) (hclashA _ hkw)).1 hl)
          · intro k jt hk hge hkw
            (try simp only)
            rcases Nat.lt_or_ge i k with hlt | hle
            · exact hbehind k ((ho.ordX i k it jt hit hk (by omega) (hclashA _ hkw)).2 hlt)
            · have : k = i := by omega
              subst this; exact hDi
        refine hopt S.names B g w a (hdr.hr.alike hXD) (fun p hp => (hsees p hp).ra (hsr _ rfl)) _ Q ?_
        intro g' w' v hX ht hv
        refine next g' w' v (hX.alike ⟨fun j => ?_, ?_⟩) ht hv
        · rw [XE_stop (i := i + 1) its.length (by omega) ?_]
          · unfold XE
            rw [hit]
            simp [he, Eff.apply]
          · intro m jt hm hge hw
            (try simp only)
            rw [if_neg (by omega)]
            exact hbehind m ((ho.ordX i m it jt hit hm (by omega) (hclash _ j hw)).2 (by omega))
        · rw [XE_stop_live (i := i + 1) its.length (by omega) ?_]
          · unfold XE
            rw [hit]
            simp [he, Eff.apply]
          · intro m jt hm hge hw
            (try simp only)
            rw [if_neg (by omega)]
            exact hbehind m ((ho.ordX i m it jt hit hm (by omega) (hclashA _ hw)).2 (by omega))

theorem awp_region_draw {P : Program} {S : Sig} {Q : Exit → St → Prop} {st st' : St} {id : Nat} {ops : Array Oper} {its : List It} (hm : P.follows .mixedOrders = true)
    (hd : DChain P S ops 0 st its st') (ho : drawOk ops st.env its = true) (hq : Q .normal st') : AWp P S (.region id ops true) Q st := by
  intro B g w a hs
  refine wp_region_any hm ?_
  obtain ⟨hr, ht⟩ := hs.hr.drew
  have hz : ∀ j, (Array.replicate ops.size false).getD j false = false := by
    intro j
    simp only [Array.getD]
    split <;> simp
  have hE0 : ∀ m t, E (fun t => st.env.lookup t) its (fun i => (Array.replicate ops.size false).getD i false) m t = st.env.lookup t := by
    intro m t
    rw [E_stop (i := 0) m (Nat.zero_le _) (fun k it _ _ _ => hz k)]
    rfl
  have hX0 : ∀ m, Alike st.X (XE st.X its (fun i => (Array.replicate ops.size false).getD i false) m) := by
    intro m
    refine ⟨fun j => ?_, ?_⟩
    · rw [XE_stop (i := 0) m (Nat.zero_le _) (fun k it _ _ _ => hz k)]; rfl
    · rw [XE_stop_live (i := 0) m (Nat.zero_le _) (fun k it _ _ _ => hz k)]; rfl
  refine wpAny_of_items hd (drawOk_spec ho) (B := B) (fun g' w' a' hs' => ⟨st', g', hq, hs'⟩) ops.size _ g _ a (by simp) ?_ ⟨hs.defers, hs.size, hr.alike (hX0 _), ?_⟩ ?_
  · intro i o _ hl; rw [hz] at hl; cases hl
  · intro t x hx
    rw [hE0] at hx
    obtain ⟨v, hv, hra⟩ := hs.env t x hx
    exact ⟨v, hv, hra.mono ht (.nil x)⟩
  · exact Nat.le_trans (List.length_filter_le _ _) (by simp)

end Go.Ab
