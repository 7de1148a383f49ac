/-
  The steps of a walk, in the form in which they are typed.
-/
import Derived.Test.YtdpimcakpfepjaaAbDraw
set_option linter.unusedVariables false
set_option linter.unusedSimpArgs false
namespace Go.Ab

/-- what an operation reads, one by one -/
inductive SeesAll (st : St) : List (Operand × AV) → Prop
  | nil : SeesAll st []
  | cons {x : Operand} {v : AV} {r : List (Operand × AV)} : Sees st x v → SeesAll st r → SeesAll st ((x, v) :: r)

theorem SeesAll.all {st : St} {l : List (Operand × AV)} (h : SeesAll st l) : ∀ p ∈ l, Sees st p.1 p.2 := by
  induction h with
  | nil => simp
  | cons h _ ih =>
    intro p hp
    rcases List.mem_cons.1 hp with rfl | hp
    · exact h
    · exact ih p hp

theorem Sees.t {st : St} {t : Nat} {x : AV} (h : st.env.lookup t = some x) : Sees st (.tmp t) x := .tmp t x (.eq x h)
theorem Sees.tt {st : St} {t n sz : Nat} {es : List (List D)} (h : st.env.lookup t = some (.tip n sz es)) : Sees st (.tmp t) (.d (.sl sz es)) := .tmp t _ (.tip n sz es h)
theorem Sees.c {st : St} {v : Value} : Sees st (.const v) (.d (.sc v)) := .const v _ fun _ _ => .sc v
theorem Sees.cnil {st : St} {sz : Nat} : Sees st (.const (.slice none 0 0)) (.d (.sl sz [])) := .const _ _ fun _ _ => .nil sz none 0 fun _ => rfl

/-- a region, operation by operation: K holds behind it -/
def Rw (P : Program) (S : Sig) (ops : Array Oper) (l : List Nat) (st : St) (K : St → Prop) : Prop :=
  ∀ (B : Base) (g : Gh) (w : World) (a : Act) (Q : Exit → Act → World → Prop), SR S B g w st a → (∀ g' w' a' st', K st' → SR S B g' w' st' a' → Q .normal a' w') → wpOps P ops Q l a w

section
variable {P : Program} {S : Sig} {ops : Array Oper} {i : Nat} {rest : List Nat} {st : St} {K : St → Prop} {o : Oper} {rd : List (Operand × AV)} {X' : Store} {F : List Nat} {res : AV}

theorem Rw.done (h : K st) : Rw P S ops [] st K := fun _ g w a _ hs hq => hq g w a st h hs

theorem Rw.opg (ho : ops[i]? = some o) (hg : Guard ops st o.guard true) (ht : OpT P o rd st.X X' F res) (hs : SeesAll st rd) (hF : envFree F st.env = true) (hd : dstOk S.N o.dst = true)
    (h : Rw P S ops rest ⟨putEnv o.dst res st.env, X'⟩ K) : Rw P S ops (i :: rest) st K := by
  intro B g w a Q hsr hq
  unfold wpOps
  simp only [ho, hg.wanted hsr, if_true]
  refine .inl (ht S.names B g w a hsr.hr (fun p hp => (hs.all p hp).ra hsr) _ Q ?_)
  intro g' w' v hX htr hv
  exact h B g' w' _ Q (hsr.put htr hF hX hd hv) hq

theorem Rw.op (ho : ops[i]? = some o) (hg : o.guard = none) (ht : OpT P o rd st.X X' F res) (hs : SeesAll st rd) (hF : envFree F st.env = true) (hd : dstOk S.N o.dst = true)
    (h : Rw P S ops rest ⟨putEnv o.dst res st.env, X'⟩ K) : Rw P S ops (i :: rest) st K := Rw.opg ho (by rw [hg]; exact .none) ht hs hF hd h

theorem Rw.skip (ho : ops[i]? = some o) (hg : Guard ops st o.guard false) (hd : dstOk S.N o.dst = true) (h : Rw P S ops rest ⟨putEnv o.dst (.d (.sc undef)) st.env, st.X⟩ K) : Rw P S ops (i :: rest) st K := by
  intro B g w a Q hsr hq
  unfold wpOps
  simp only [ho, hg.wanted hsr, Bool.false_eq_true, if_false]
  exact h B g w _ Q (hsr.put (.refl [] g w) rfl hsr.hr hd (.d _ _ (.sc _))) hq

theorem Rw.weak {l : List Nat} {st' : St} (hw : Weak S.names st st') (h : Rw P S ops l st' K) : Rw P S ops l st K := fun B _ w a Q hsr hq =>
  let ⟨g', hs'⟩ := hsr.weaken hw; h B g' w a Q hs' hq

theorem SR.known {B : Base} {g : Gh} {w : World} {a : Act} {d : Nat} {x : AV} (h : SR S B g w st a) (hl : st.env.lookup d = some x) : SR S B g w ⟨(d, x) :: st.env, st.X⟩ a := by
  refine ⟨h.defers, h.size, h.hr, ?_⟩
  intro t y hy
  rw [List.lookup_cons] at hy
  split at hy
  · rename_i he
    have : t = d := by simpa using he
    subst this
    simp only [Option.some.injEq] at hy
    subst hy
    exact h.env t x hl
  · exact h.env t y hy

/-- a truth that is not known: both ways -/
theorem Rw.cases {l : List Nat} {d : Nat} {b : Bool} (hl : st.env.lookup d = some (.d (.sc (.bool b)))) (ht : b = true → Rw P S ops l ⟨(d, .d (.sc (.bool true))) :: st.env, st.X⟩ K)
    (hf : b = false → Rw P S ops l ⟨(d, .d (.sc (.bool false))) :: st.env, st.X⟩ K) : Rw P S ops l st K := by
  intro B g w a Q hsr hq
  cases b with
  | true => exact ht rfl B g w a Q (hsr.known hl) hq
  | false => exact hf rfl B g w a Q (hsr.known hl) hq

theorem awp_rw {Q : Exit → St → Prop} {id n : Nat} (hn : ops.size = n) (h : Rw P S ops (List.range n) st (Q .normal)) : AWp P S (.region id ops false) Q st := by
  subst hn
  intro B g w a hs
  exact wp_region (h B g w a _ hs fun g' w' a' st' hk hs' => ⟨st', g', hk, hs'⟩)

structure Same (st st' : St) : Prop where
  env : ∀ t, st.env.lookup t = st'.env.lookup t
  X : st.X = st'.X

theorem Same.refl (st : St) : Same st st := ⟨fun _ => rfl, rfl⟩
theorem Same.put {st st' : St} (h : Same st st') (dst : Option Tmp) (x : AV) (X : Store) : Same ⟨putEnv dst x st.env, X⟩ ⟨putEnv dst x st'.env, X⟩ :=
  ⟨fun t => by simp only [lookup_putEnv, h.env t], rfl⟩

theorem Has.same {e e' : List (Nat × AV)} (h : ∀ t, e.lookup t = e'.lookup t) {t : Nat} {x : AV} (hh : Has e t x) : Has e' t x := by
  cases hh with
  | eq _ h1 => exact .eq _ ((h t).symm.trans h1)
  | tip n sz es h1 => exact .tip n sz es ((h t).symm.trans h1)

theorem Sees.same {st st' : St} (h : Same st st') {x : Operand} {v : AV} (hh : Sees st x v) : Sees st' x v := by
  cases hh with
  | tmp t _ h1 => exact .tmp t _ (h1.same h.env)
  | const v y h1 => exact .const v y h1
  | func f => exact .func f

theorem Guard.same {st st' : St} (h : Same st st') {og : Option (Nat × Bool)} {b : Bool} (hh : Guard ops st og b) : Guard ops st' og b := by
  cases hh with
  | none => exact .none
  | some j d o want b h1 h2 h3 => exact .some j d o want b h1 h2 ((h.env d).symm.trans h3)
  | undef j d o want h1 h2 h3 => exact .undef j d o want h1 h2 ((h.env d).symm.trans h3)

theorem DChain.same {i : Nat} {st st1 : St} {its : List It} (hc : DChain P S ops i st its st1) : ∀ {st' : St}, Same st st' → ∃ st1', DChain P S ops i st' its st1' ∧ Same st1 st1' := by
  induction hc with
  | nil i st => intro st' h; exact ⟨st', .nil i st', h⟩
  | op h1 h2 h3 h4 h5 _ ih =>
    intro st' h
    obtain ⟨s1, c1, e1⟩ := ih (h.put _ _ _)
    exact ⟨s1, .op h1 (h2.same h) (fun p hp => (h3 p hp).same h) h4 h5 (h.X ▸ c1), e1⟩
  | look h1 h2 h3 h4 h5 _ ih =>
    intro st' h
    obtain ⟨s1, c1, e1⟩ := ih (h.put _ _ _)
    exact ⟨s1, .look h1 (h2.same h) (fun p hp => (h3 p hp).same h) (h.X ▸ h4) h5 (h.X ▸ c1), e1⟩
  | put h1 h2 h3 h4 h5 _ ih =>
    intro st' h
    obtain ⟨s1, c1, e1⟩ := ih (h.put _ _ _)
    exact ⟨s1, .put h1 (h2.same h) (fun p hp => (h3 p hp).same h) (h.X ▸ h4) h5 (h.X ▸ c1), e1⟩
  | eff h1 h2 h3 h4 h5 _ ih =>
    intro st' h
    obtain ⟨s1, c1, e1⟩ := ih (h.put _ _ _)
    exact ⟨s1, .eff h1 (h2.same h) (fun p hp => (h3 p hp).same h) (h.X ▸ h4) h5 c1, e1⟩
  | skip h1 h2 h5 _ ih =>
    intro st' h
    obtain ⟨s1, c1, e1⟩ := ih (h.put _ _ _)
    exact ⟨s1, .skip h1 (h2.same h) h5 (h.X ▸ c1), e1⟩

/-- a region that draws its order -/
def Dw (P : Program) (S : Sig) (ops : Array Oper) (i n : Nat) (st : St) (done : List It) (env0 : List (Nat × AV)) (K : St → Prop) : Prop :=
  ∃ its st' st'', DChain P S ops i st its st' ∧ its.length = n ∧ drawOk ops env0 (done ++ its) = true ∧ Same st' st'' ∧ K st''

variable {n : Nat} {done : List It} {env0 : List (Nat × AV)}

theorem Dw.fin (ho : drawOk ops env0 done = true) (hk : K st) : Dw P S ops i 0 st done env0 K := ⟨[], st, st, .nil i st, rfl, by simpa using ho, .refl st, hk⟩

theorem Dw.cases {d : Nat} {b : Bool} (hl : st.env.lookup d = some (.d (.sc (.bool b)))) (ht : b = true → Dw P S ops i n ⟨(d, .d (.sc (.bool true))) :: st.env, st.X⟩ done env0 K)
    (hf : b = false → Dw P S ops i n ⟨(d, .d (.sc (.bool false))) :: st.env, st.X⟩ done env0 K) : Dw P S ops i n st done env0 K := by
  have key : ∀ x, st.env.lookup d = some x → Dw P S ops i n ⟨(d, x) :: st.env, st.X⟩ done env0 K → Dw P S ops i n st done env0 K := by
    rintro x hx ⟨its, st', st'', hc, hl, hok, hs, hk⟩
    have e : Same ⟨(d, x) :: st.env, st.X⟩ st := by
      refine ⟨fun t => ?_, rfl⟩
      rw [List.lookup_cons]
      split
      · rename_i he
        have : t = d := by simpa using he
        subst this; exact hx.symm
      · rfl
    obtain ⟨s1, c1, e1⟩ := hc.same e
    exact ⟨its, s1, st'', c1, hl, hok, ⟨fun t => (e1.env t).symm.trans (hs.env t), e1.X.symm.trans hs.X⟩, hk⟩
  cases b with
  | true => exact key _ hl (ht rfl)
  | false => exact key _ hl (hf rfl)

theorem guard_yes {og : Option (Nat × Bool)} (h : og = .none) : Guard ops st og true := by subst h; exact .none

theorem Dw.op (ho : ops[i]? = some o) (hg : Guard ops st o.guard true) (ht : ∀ X, OpT P o rd X X [] res) (hs : SeesAll st rd) (hd : dstOk S.N o.dst = true)
    (h : Dw P S ops (i + 1) n ⟨putEnv o.dst res st.env, st.X⟩ (done ++ [⟨o, true, rd, .none, [], res⟩]) env0 K) : Dw P S ops i (n + 1) st done env0 K := by
  obtain ⟨its, st', st'', hc, hl, hok, hk⟩ := h
  exact ⟨_ :: its, st', st'', .op ho hg hs.all ht hd hc, by simp [hl], by simpa using hok, hk⟩

theorem Dw.look {ks : List Nat} (ho : ops[i]? = some o) (hg : Guard ops st o.guard true) (ht : ∀ X : Store, (∀ k ∈ ks, X.objs.lookup k = st.X.objs.lookup k) → OpT P o rd X X [] res) (hs : SeesAll st rd) (hd : dstOk S.N o.dst = true)
    (h : Dw P S ops (i + 1) n ⟨putEnv o.dst res st.env, st.X⟩ (done ++ [⟨o, true, rd, .look ks, [], res⟩]) env0 K) : Dw P S ops i (n + 1) st done env0 K := by
  obtain ⟨its, st', st'', hc, hl, hok, hk⟩ := h
  exact ⟨_ :: its, st', st'', .look ho hg hs.all ht hd hc, by simp [hl], by simpa using hok, hk⟩

theorem Dw.put {k : Nat} {c : Ob} (ho : ops[i]? = some o) (hg : Guard ops st o.guard true) (ht : ∀ X, X.objs.lookup k = st.X.objs.lookup k → OpT P o rd X ⟨setObj k c X.objs, X.live⟩ [] res)
    (hs : SeesAll st rd) (hd : dstOk S.N o.dst = true)
    (h : Dw P S ops (i + 1) n ⟨putEnv o.dst res st.env, ⟨setObj k c st.X.objs, st.X.live⟩⟩ (done ++ [⟨o, true, rd, .put k c, [], res⟩]) env0 K) : Dw P S ops i (n + 1) st done env0 K := by
  obtain ⟨its, st', st'', hc, hl, hok, hk⟩ := h
  exact ⟨_ :: its, st', st'', .put ho hg hs.all ht hd hc, by simp [hl], by simpa using hok, hk⟩

theorem Dw.eff (ho : ops[i]? = some o) (hg : Guard ops st o.guard true) (ht : OpT P o rd st.X X' F res) (hs : SeesAll st rd) (hd : dstOk S.N o.dst = true)
    (h : Dw P S ops (i + 1) n ⟨putEnv o.dst res st.env, X'⟩ (done ++ [⟨o, true, rd, .all X', F, res⟩]) env0 K) : Dw P S ops i (n + 1) st done env0 K := by
  obtain ⟨its, st', st'', hc, hl, hok, hk⟩ := h
  exact ⟨_ :: its, st', st'', .eff ho hg hs.all ht hd hc, by simp [hl], by simpa using hok, hk⟩

theorem Dw.skip (ho : ops[i]? = some o) (hg : Guard ops st o.guard false) (hd : dstOk S.N o.dst = true)
    (h : Dw P S ops (i + 1) n ⟨putEnv o.dst (.d (.sc undef)) st.env, st.X⟩ (done ++ [⟨o, false, [], .none, [], .d (.sc undef)⟩]) env0 K) : Dw P S ops i (n + 1) st done env0 K := by
  obtain ⟨its, st', st'', hc, hl, hok, hk⟩ := h
  exact ⟨_ :: its, st', st'', .skip ho hg hd hc, by simp [hl], by simpa using hok, hk⟩

theorem awp_dw {Q : Exit → St → Prop} {id : Nat} (n : Nat) (hm : P.follows .mixedOrders = true) (h : Dw P S ops 0 n st [] st.env (Q .normal)) : AWp P S (.region id ops true) Q st := by
  obtain ⟨its, st', st'', hc, hl, hok, hs, hk⟩ := h
  have hM : AWp P S (.region id ops true) (fun e s => e = .normal ∧ s = st') st := awp_region_draw hm hc (by simpa using hok) ⟨rfl, rfl⟩
  intro B g w a hsr
  refine wp_mono (hM B g w a hsr) ?_
  rintro e a' w' ⟨s, g', ⟨rfl, rfl⟩, hs'⟩
  exact ⟨st'', g', hk, hs'.defers, hs'.size, hs.X ▸ hs'.hr, fun t x hx => hs'.env t x ((hs.env t).trans hx)⟩

theorem guard_run {j d : Nat} {oj : Oper} {want : Bool} {og : Option (Nat × Bool)} (hg : og = some (j, want)) (hj : ops[j]? = some oj) (hjd : oj.dst = some d) (hl : st.env.lookup d = some (.d (.sc (.bool want)))) :
    Guard ops st og true := by
  subst hg
  have := Guard.some (st := st) j d oj want want hj hjd hl
  simpa using this

theorem guard_undef {j d : Nat} {oj : Oper} {want : Bool} {og : Option (Nat × Bool)} (hg : og = some (j, want)) (hj : ops[j]? = some oj) (hjd : oj.dst = some d) (hl : st.env.lookup d = some (.d (.sc undef))) :
    Guard ops st og false := by
  subst hg
  exact Guard.undef j d oj want hj hjd hl

theorem guard_not {j d : Nat} {oj : Oper} {want b : Bool} {og : Option (Nat × Bool)} (hg : og = some (j, want)) (hj : ops[j]? = some oj) (hjd : oj.dst = some d) (hl : st.env.lookup d = some (.d (.sc (.bool b))))
    (hb : (b == want) = false) : Guard ops st og false := by
  subst hg
  have := Guard.some (st := st) j d oj want b hj hjd hl
  rwa [hb] at this

end

/-- what is kept, one by one -/
inductive HasAll (env : List (Nat × AV)) : List (Nat × AV) → Prop
  | nil : HasAll env []
  | cons {t : Nat} {x : AV} {r : List (Nat × AV)} : Has env t x → HasAll env r → HasAll env ((t, x) :: r)

theorem HasAll.all {env l : List (Nat × AV)} (h : HasAll env l) : ∀ p ∈ l, Has env p.1 p.2 := by
  induction h with
  | nil => simp
  | cons h _ ih =>
    intro p hp
    rcases List.mem_cons.1 hp with rfl | hp
    · exact h
    · exact ih p hp

theorem Has.e {env : List (Nat × AV)} {t : Nat} {x : AV} (h : env.lookup t = some x) : Has env t x := .eq x h
/-- the same value, spelled otherwise -/
theorem Has.as {env : List (Nat × AV)} {t : Nat} {x y : AV} (h : env.lookup t = some y) (he : y = x) : Has env t x := by subst he; exact .eq _ h
theorem Has.tt {env : List (Nat × AV)} {t n sz : Nat} {es fs : List (List D)} (h : env.lookup t = some (.tip n sz es)) (he : es = fs) : Has env t (.d (.sl sz fs)) := by subst he; exact .tip n sz es h

inductive ObjsAll (l : List (Nat × Ob)) : List (Nat × Ob) → Prop
  | nil : ObjsAll l []
  | cons {k : Nat} {o : Ob} {r : List (Nat × Ob)} : l.lookup k = some o → ObjsAll l r → ObjsAll l ((k, o) :: r)

theorem ObjsAll.as {l : List (Nat × Ob)} {k : Nat} {o o' : Ob} {r : List (Nat × Ob)} (h : l.lookup k = some o') (he : o' = o) (hr : ObjsAll l r) : ObjsAll l ((k, o) :: r) := by subst he; exact .cons h hr

theorem ObjsAll.all {l r : List (Nat × Ob)} (h : ObjsAll l r) : ∀ p ∈ r, l.lookup p.1 = some p.2 := by
  induction h with
  | nil => simp
  | cons h _ ih =>
    intro p hp
    rcases List.mem_cons.1 hp with rfl | hp
    · exact h
    · exact ih p hp

theorem weak {nm : List Nat} {st : St} {env : List (Nat × AV)} {objs : List (Nat × Ob)} {live : List Nat} (he : HasAll st.env env) (ho : ObjsAll st.X.objs objs)
    (hl : (live.all fun n => st.X.live.contains n) = true) (hk : (nm.all fun k => (objs.lookup k).isSome) = true) : Weak nm st ⟨env, ⟨objs, live⟩⟩ :=
  ⟨he.all, ho.all, fun n hn => by simpa using List.all_eq_true.1 hl n hn, fun k hk' => List.all_eq_true.1 hk k hk'⟩

def nodupB : List Nat → Bool
  | [] => true
  | x :: r => !r.contains x && nodupB r

theorem nodupB_spec : ∀ {l : List Nat}, nodupB l = true → l.Nodup
  | [], _ => .nil
  | x :: r, h => by
    simp only [nodupB, Bool.and_eq_true, Bool.not_eq_true'] at h
    refine List.nodup_cons.2 ⟨fun hm => ?_, nodupB_spec h.2⟩
    have : r.contains x = true := by simpa using hm
    rw [this] at h; cases h.1

inductive InObjs (X : Store) (f : Nat → Nat) : List (Nat × Ob) → Prop
  | nil : InObjs X f []
  | cons {k : Nat} {o : Ob} {r : List (Nat × Ob)} : X.objs.lookup (f k) = some (mapOb f o) → InObjs X f r → InObjs X f ((k, o) :: r)

theorem InObjs.all {X : Store} {f : Nat → Nat} {l : List (Nat × Ob)} (h : InObjs X f l) : ∀ p ∈ l, X.objs.lookup (f p.1) = some (mapOb f p.2) := by
  induction h with
  | nil => simp
  | cons h _ ih =>
    intro p hp
    rcases List.mem_cons.1 hp with rfl | hp
    · exact h
    · exact ih p hp

theorem objCall {X : Store} {os os' : List (Nat × Ob)} {f : Nat → Nat} {F : List Nat} (hin : InObjs X f os) (h1 : (os.all fun p => namesInOb (os.map (·.1)) p.2) = true)
    (h2 : (os'.all fun p => namesInOb (os'.map (·.1)) p.2) = true) (h3 : nodupB (os'.map fun p => f p.1) = true) (h4 : nodupB (os.map (·.1)) = true)
    (h5 : (os'.all fun p => (os.map (·.1)).contains p.1 || (F.contains (f p.1) && (X.objs.lookup (f p.1)).isNone)) = true) (h6 : (os.all fun p => (os'.map (·.1)).contains p.1) = true)
    (h7 : objsFree F X = true) : ObjCall X ⟨os, []⟩ ⟨os', []⟩ f F := by
  refine ⟨⟨rfl, rfl⟩, hin.all, h1, h2, nodupB_spec h3, nodupB_spec h4, ?_, ?_, h7⟩
  · intro p hp
    have := List.all_eq_true.1 h5 p hp
    simp only [Bool.or_eq_true, Bool.and_eq_true, Option.isNone_iff_eq_none] at this
    rcases this with h | h
    · exact .inl (by simpa using h)
    · exact .inr ⟨by simpa using h.1, h.2⟩
  · intro p hp
    have := List.all_eq_true.1 h6 p hp
    simpa using this

theorem Loads.congr {P : Program} {X Y : Store} {t k off : Nat} {x : AV} (h : Loads P X t k off x) (he : Y.objs.lookup k = X.objs.lookup k) : Loads P Y t k off x := by
  cases h with
  | agg sz cs x h1 h2 h3 h4 => exact .agg sz cs x h1 (he.trans h2) h3 h4
  | one cs x h1 h2 h3 => exact .one cs x h1 (he.trans h2) h3

/-- facts on types, as they are asked of the program -/
theorem TyI.mk' {P : Program} {t sz : Nat} {agg : Bool} (h : (P.underlying t).map aggD = some agg) (hi : (P.info? t).map (·.size) = some sz) : TyI P t agg sz := by
  obtain ⟨d, hd, ha⟩ := Option.map_eq_some_iff.1 h
  obtain ⟨i, hi, hs⟩ := Option.map_eq_some_iff.1 hi
  exact ⟨⟨d, hd, ha⟩, ⟨i, hi, hs⟩⟩

def fieldAt (P : Program) (s n : Nat) : Option (Nat × Nat) :=
  match P.underlying s with
  | some (.struct fs) => (fs[n]?).map fun f => (f.offset, f.type)
  | _ => none

theorem FieldI.mk' {P : Program} {s n off t sz : Nat} {agg : Bool} (h : fieldAt P s n = some (off, t)) (ht : TyI P t agg sz) (hp : sz ≠ 0) : FieldI P s n off sz agg := by
  unfold fieldAt at h
  split at h
  · rename_i fs hfs
    obtain ⟨f, hf, he⟩ := Option.map_eq_some_iff.1 h
    cases he
    exact ⟨⟨fs, f, hfs, hf, rfl, ht⟩, hp⟩
  · cases h

def placesOf (P : Program) (t : Nat) : Option (List (Nat × Option Nat)) :=
  match P.underlying t with
  | some (.struct fs) => some (fs.toList.map fun f => (f.offset, (P.info? f.type).map (·.size)))
  | _ => none

theorem StructI.mk' {P : Program} {t : Nat} {pl : List (Nat × Nat)} (h : placesOf P t = some (pl.map fun p => (p.1, some p.2))) : StructI P t pl := by
  unfold placesOf at h
  split at h
  · rename_i fs hfs
    exact ⟨⟨fs, hfs, by simpa using h⟩⟩
  · cases h

theorem ZeroI.mk' {P : Program} {t : Nat} {cs : List AV} {z : Value} (h : (P.info? t).bind (·.zero) = some z) (hz : ZCells cs z.cells.toList) : ZeroI P t cs := by
  obtain ⟨i, hi, hz'⟩ := Option.bind_eq_some_iff.1 h
  exact ⟨⟨i, z, hi, hz', hz⟩⟩

theorem CallI.mk' {P : Program} {f : Nat} {fn : Func} (h : P.funcs[f]? = some fn) (hb : fn.body.isSome = true) (hn : (fn.name == "runtime.NumGoroutine") = false) : CallI P f := ⟨⟨fn, h, hb, hn⟩⟩

/-- what one must know of a slice's type -/
structure SliceI (P : Program) (t e sz bytes : Nat) : Prop where
  und : P.underlying t = some (.slice e)
  elem : ∃ i z, P.info? e = some i ∧ i.size = sz ∧ i.bytes = bytes ∧ i.zero = some z ∧ z.cells.size = sz

theorem SliceI.mk' {P : Program} {t e sz bytes : Nat} (h : P.underlying t = some (.slice e)) (hi : (P.info? e).map (fun i => (i.size, i.bytes, i.zero.map (·.cells.size))) = some (sz, bytes, some sz)) : SliceI P t e sz bytes := by
  obtain ⟨i, hi, he⟩ := Option.map_eq_some_iff.1 hi
  simp only [Prod.mk.injEq, Option.map_eq_some_iff] at he
  obtain ⟨h1, h2, z, h3, h4⟩ := he
  exact ⟨h, i, z, hi, h1, h2, h3, h4⟩

section
variable {P : Program} {o : Oper} {X : Store}

theorem o_alloc {t : TypeId} {cs : List AV} (k : Nat) (ho : o.op = .alloc t) (hz : ZeroI P t cs) (hk : X.objs.lookup k = none) (hX : objsFree [k] X = true) :
    OpT P o [] X ⟨(k, .cells cs) :: X.objs, X.live⟩ [k] (.ptr k 0) := by
  obtain ⟨i, z, hi, hz', hzc⟩ := hz.is
  exact op_alloc k ho hi hz' (fun g w => ZeroI.ra (P := P) (t := t) hzc g w) hk hX

theorem o_indexAddr {t e sz bytes : Nat} {x y : Operand} {es : List (List D)} {cs : List D} {k : IntKind} {i : Int} (ho : o.op = .indexAddr t x y) (ht : SliceI P t e sz bytes) (h0 : 0 ≤ i) (h1 : es[i.toNat]? = some cs) :
    OpT P o [(x, .d (.sl sz es)), (y, .d (.sc (.int k i)))] X X [] (.d (.ep cs)) := by
  obtain ⟨hu, i', z, hi, hs, hb, hz, hzs⟩ := ht
  exact op_indexAddr ho hu hi hs h0 h1

theorem o_len_slice {ts : Array TypeId} {t e sz bytes sz' : Nat} {x : Operand} {es : List (List D)} (ho : o.op = .call { callee := .builtin .len, args := #[x], argTypes := ts })
    (h0 : ts[0]? = some t) (ht : SliceI P t e sz bytes) : OpT P o [(x, .d (.sl sz' es))] X X [] (.d (.sc (.int .i64 es.length))) := op_len_slice ho h0 ht.und

theorem o_append {ts : Array TypeId} {s x : Operand} {n sz : Nat} {es fs : List (List D)} {t u e e' bytes bytes' sz' : Nat} (m : Nat)
    (ho : o.op = .call { callee := .builtin .append, args := #[s, x], argTypes := ts }) (h0 : ts[0]? = some t) (h1 : ts[1]? = some u) (hu : SliceI P u e' sz' bytes')
    (ht : SliceI P t e sz bytes) (hn : n ∈ X.live) (hm : m ∉ X.live.filter (· != n)) (hX : objsFree [m] X = true)
    (hone : ∀ cs ∈ fs, ∀ c ∈ cs, oneD c = true) (hbig : (es.length + fs.length) * bytes ≤ 140737488355328) (hlen : es.length + fs.length ≤ 4611686018427387904) :
    OpT P o [(s, .tip n sz es), (x, .d (.sl sz fs))] X ⟨X.objs, m :: X.live.filter (· != n)⟩ [m] (.tip m sz (es ++ fs)) := by
  obtain ⟨hu', i', z, hi, hs, rfl, hz, hzs⟩ := ht
  exact op_append m ho h0 h1 hu.und hu' hi hz hzs hs hn hm hX hone hbig hlen

theorem o_buildSlice {t e sz bytes n : Nat} {parts : Array (Nat × Operand)} {xs : List D} (ho : o.op = .buildSlice t n parts) (ht : SliceI P t e sz bytes)
    (hx : xs.length = n) (hidx : parts.toList.map (·.1) = List.range n) (hok : (xs.all fun x => okSc (.d x) && x.cells.length == sz) = true)
    (hbig : n * sz ≤ 16777216) : OpT P o ((parts.toList.map (·.2)).zip (xs.map .d)) X X [] (.d (.sl sz (xs.map D.cells))) := by
  obtain ⟨hu', i', z, hi, hs, hb, hz, hzs⟩ := ht
  exact op_buildSlice ho hu' hi hz hs hx hidx hok hbig

end
section
variable {P : Program} {S : Sig} {Q : Exit → St → Prop} {st : St} {N : St → Prop}
theorem thenQ_normal (h : N st) : thenQ N Q .normal st := h
theorem thenQ_exit {i : Nat} (h : Q (.exit i) st) : thenQ N Q (.exit i) st := h
theorem thenQ_ret (h : Q .ret st) : thenQ N Q .ret st := h
theorem blockQ_normal {i : Nat} (h : Q .normal st) : blockQ i Q .normal st := h
theorem blockQ_ret {i : Nat} (h : Q .ret st) : blockQ i Q .ret st := h
theorem blockQ_hit {i : Nat} (h : Q .normal st) : blockQ i Q (.exit i) st := by simpa [blockQ] using h
theorem blockQ_miss {i j : Nat} (hne : j ≠ i) (h : Q (.exit j) st) : blockQ i Q (.exit j) st := by simpa [blockQ, hne] using h

variable {o : Oper} {X : Store}
/-- sums that are known to fit, spelled as one wants them -/
theorem op_bin_c {op : BinOp} {t t' : TypeId} {x y : Operand} {k : IntKind} {a b c r : Int} (ho : o.op = .binOp op t x y t') (h : binRes op k a b = some (.int k r)) (hc : r = c) :
    OpT P o [(x, .d (.sc (.int k a))), (y, .d (.sc (.int k b)))] X X [] (.d (.sc (.int k c))) := by subst hc; exact op_bin ho h

theorem op_conv_c {s d : TypeId} {x : Operand} {j k : IntKind} {n c : Int} (ho : o.op = .convert s d x) (hs : (P.underlying s).isSome = true) (hd : P.underlying d = some (.int k)) (hc : k.wrap n = c) :
    OpT P o [(x, .d (.sc (.int j n)))] X X [] (.d (.sc (.int k c))) := by subst hc; exact op_conv_int ho hs hd
end

section
variable {P : Program} {o : Oper} {X : Store}
theorem run_ptr_nil {t e : TypeId} (ht : P.underlying t = some (.pointer e)) (a : Option Addr) (w : World) : (Op.equal t (.pointer a) (.pointer none)).run P w = .ok a.isNone w := by
  have h : ∀ d : Nat, (Op.equalIn (d + 1) t (.pointer a) (.pointer none)).run P w = .ok a.isNone w := by
    intro d
    cases a <;> simp [Op.equalIn, run_underlying ht]
  exact h 9999

/-- p == nil, p != nil -/
theorem op_ptr_eql {t t' e : TypeId} {x y : Operand} {k off : Nat} (ho : o.op = .binOp .eql t x y t') (ht : P.underlying t = some (.pointer e)) :
    OpT P o [(x, .ptr k off), (y, .d (.sc (.pointer none)))] X X [] (.d (.sc (.bool false))) :=
  .quiet fun _ _ g w ac _ hrd => by
    have h1 := rd0 hrd
    have h2 := (rd1 hrd).sc_inv
    simp only at h1 h2
    refine ⟨_, ?_, .ofSc _ _ _⟩
    simp only [execOp, ho, h2]
    generalize ac.eval x = z at h1
    cases h1
    have hg : ∀ a : Addr, eqGuard .eql t x y (.pointer (some a)) (.pointer none) = pure () := fun _ => rfl
    simp [hg, binOp, run_ptr_nil ht]

theorem op_ptr_neq {t t' e : TypeId} {x y : Operand} {k off : Nat} (ho : o.op = .binOp .neq t x y t') (ht : P.underlying t = some (.pointer e)) :
    OpT P o [(x, .ptr k off), (y, .d (.sc (.pointer none)))] X X [] (.d (.sc (.bool true))) :=
  .quiet fun _ _ g w ac _ hrd => by
    have h1 := rd0 hrd
    have h2 := (rd1 hrd).sc_inv
    simp only at h1 h2
    refine ⟨_, ?_, .ofSc _ _ _⟩
    simp only [execOp, ho, h2]
    generalize ac.eval x = z at h1
    cases h1
    have hg : ∀ a : Addr, eqGuard .neq t x y (.pointer (some a)) (.pointer none) = pure () := fun _ => rfl
    simp [hg, binOp, run_ptr_nil ht]

theorem op_nil_eql {t t' e : TypeId} {x y : Operand} (ho : o.op = .binOp .eql t x y t') (ht : P.underlying t = some (.pointer e)) :
    OpT P o [(x, .d (.sc (.pointer none))), (y, .d (.sc (.pointer none)))] X X [] (.d (.sc (.bool true))) :=
  .quiet fun _ _ g w ac _ hrd => by
    have h1 := (rd0 hrd).sc_inv
    have h2 := (rd1 hrd).sc_inv
    simp only at h1 h2
    refine ⟨_, ?_, .ofSc _ _ _⟩
    simp only [execOp, ho, h1, h2]
    have hg : eqGuard .eql t x y (.pointer none) (.pointer none) = pure () := rfl
    simp [hg, binOp, run_ptr_nil ht]

theorem op_nil_neq {t t' e : TypeId} {x y : Operand} (ho : o.op = .binOp .neq t x y t') (ht : P.underlying t = some (.pointer e)) :
    OpT P o [(x, .d (.sc (.pointer none))), (y, .d (.sc (.pointer none)))] X X [] (.d (.sc (.bool false))) :=
  .quiet fun _ _ g w ac _ hrd => by
    have h1 := (rd0 hrd).sc_inv
    have h2 := (rd1 hrd).sc_inv
    simp only at h1 h2
    refine ⟨_, ?_, .ofSc _ _ _⟩
    simp only [execOp, ho, h1, h2]
    have hg : eqGuard .neq t x y (.pointer none) (.pointer none) = pure () := rfl
    simp [hg, binOp, run_ptr_nil ht]
end

theorem InObjs.look {X Y : Store} {f : Nat → Nat} {l : List (Nat × Ob)} {ks : List Nat} (h : InObjs Y f l) (hX : ∀ k ∈ ks, X.objs.lookup k = Y.objs.lookup k) (hk : (l.all fun p => ks.contains (f p.1)) = true) : InObjs X f l := by
  induction h with
  | nil => exact .nil
  | cons h1 _ ih =>
    simp only [List.all_cons, Bool.and_eq_true] at hk
    exact .cons ((hX _ (by simpa using hk.1)).trans h1) (ih hk.2)

/-- A call that only looks at its objects. -/
theorem op_call_look {P : Program} {X : Store} {o : Oper} {fn : FuncId} {args : Array Operand} {ts : Array TypeId} {xs : List AV} {res : AV} {Xc : Store} (σ : List (Nat × Nat))
    (ho : o.op = .call { callee := .value (.func fn), args := args, argTypes := ts }) (hf : CallI P fn) (hs : Does P fn xs Xc res Xc) (hc : ObjCall X Xc Xc (nf σ) [])
    (hl : xs.length = args.size) (hd : namesIns (Xc.objs.map (·.1)) xs = true) (hdr : namesIn (Xc.objs.map (·.1)) res = true) :
    OpT P o (args.toList.zip (mapAVs (nf σ) xs)) X X [] (mapAV (nf σ) res) := by
  intro nm B g w a hr hrd next Q hn
  refine op_call_obj σ [] ho hf hs hc hl hd hdr nm B g w a hr hrd next Q ?_
  intro g' w' v h1 h2 h3
  refine hn g' w' v (h1.alike ⟨fun j => ?_, rfl⟩) h2 h3
  simp only
  by_cases h : ∃ p ∈ Xc.objs, nf σ p.1 = j
  · obtain ⟨p, hp, rfl⟩ := h
    rw [putObjs_mem _ _ p hc.nodup hp, hc.inobj p hp]
  · exact putObjs_other _ _ _ fun p hp he => h ⟨p, hp, he⟩

section
variable {P : Program} {o : Oper} {X : Store}
/-- a % b, a / b, where b is not zero -/
theorem op_rem {t t' : TypeId} {x y : Operand} {k : IntKind} {a b c : Int} (ho : o.op = .binOp .rem t x y t') (hb : b ≠ 0) (hc : a.tmod b = c) :
    OpT P o [(x, .d (.sc (.int k a))), (y, .d (.sc (.int k b)))] X X [] (.d (.sc (.int k c))) :=
  .quiet fun _ _ g w ac _ hrd => by
    have h1 := (rd0 hrd).sc_inv
    have h2 := (rd1 hrd).sc_inv
    simp only at h1 h2
    refine ⟨_, ?_, .ofSc _ _ _⟩
    have hg : eqGuard .rem t x y (.int k a) (.int k b) = pure () := rfl
    simp only [execOp, ho, h1, h2, hg]
    simp [binOp, Op.intDiv, hb, hc]

theorem op_quo {t t' : TypeId} {x y : Operand} {k : IntKind} {a b c : Int} (ho : o.op = .binOp .quo t x y t') (hb : b ≠ 0) (hc : k.wrap (a.tdiv b) = c) :
    OpT P o [(x, .d (.sc (.int k a))), (y, .d (.sc (.int k b)))] X X [] (.d (.sc (.int k c))) :=
  .quiet fun _ _ g w ac _ hrd => by
    have h1 := (rd0 hrd).sc_inv
    have h2 := (rd1 hrd).sc_inv
    simp only at h1 h2
    refine ⟨_, ?_, .ofSc _ _ _⟩
    have hg : eqGuard .quo t x y (.int k a) (.int k b) = pure () := rfl
    simp only [execOp, ho, h1, h2, hg]
    simp [binOp, Op.intDiv, hb, hc]

theorem op_min_c {ts : Array TypeId} {x y : Operand} {k : IntKind} {a b c : Int} (ho : o.op = .call { callee := .builtin .min, args := #[x, y], argTypes := ts }) (hc : (if b < a then b else a) = c) :
    OpT P o [(x, .d (.sc (.int k a))), (y, .d (.sc (.int k b)))] X X [] (.d (.sc (.int k c))) := by subst hc; exact op_min ho
theorem op_max_c {ts : Array TypeId} {x y : Operand} {k : IntKind} {a b c : Int} (ho : o.op = .call { callee := .builtin .max, args := #[x, y], argTypes := ts }) (hc : (if b > a then b else a) = c) :
    OpT P o [(x, .d (.sc (.int k a))), (y, .d (.sc (.int k b)))] X X [] (.d (.sc (.int k c))) := by subst hc; exact op_max ho
end

end Go.Ab
