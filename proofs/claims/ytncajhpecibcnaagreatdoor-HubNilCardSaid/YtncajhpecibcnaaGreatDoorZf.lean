import Derived.Test.YtncajhpecibcnaaGreatDoorZe
import Derived.Shelf.Spec.SlicesGrow
import Derived.Laws.StandIn
import Derived.Lib.Bytealg
import Derived.Test.YtncajhpecibcnaaGreatDoorProg
import Derived.KernelRfl
import Derived.IntWalk
set_option linter.unusedVariables false
set_option linter.unusedSimpArgs false
set_option linter.unnecessarySimpa false
namespace Go.Xl
open Go.Ab
mutual
noncomputable def XV.ks : XV → List Nat → List Nat
  | .d _, acc => acc
  | .nm k _, acc => cond (inl k acc) acc (k :: acc)
  | .tip _ _ _ _, acc => acc
  | .tup l, acc => ksL l acc
  | .agg l, acc => ksL l acc
  | .clo _ l, acc => ksL l acc
  | .os k _ _ _, acc => cond (inl k acc) acc (k :: acc)
  | .el k _ _ _, acc => cond (inl k acc) acc (k :: acc)
  | .tpt _ _ _ _, acc => acc
noncomputable def ksL : List XV → List Nat → List Nat
  | [], acc => acc
  | x :: r, acc => ksL r (x.ks acc)
end
mutual
noncomputable def XV.ls (live : List Nat) : XV → List Nat → List Nat
  | .tip n _ _ _, acc => cond (inl n live) (cond (inl n acc) acc (n :: acc)) acc
  | .tup l, acc => lsL live l acc
  | .agg l, acc => lsL live l acc
  | .clo _ l, acc => lsL live l acc
  | _, acc => acc
noncomputable def lsL (live : List Nat) : List XV → List Nat → List Nat
  | [], acc => acc
  | x :: r, acc => lsL live r (x.ls live acc)
end
noncomputable def XOb.ks : XOb → List Nat → List Nat
  | .cells cs _, acc => ksL cs acc
  | .mit m _ _ _, acc => cond (inl m acc) acc (m :: acc)
  | _, acc => acc
noncomputable def XOb.lbs (live : List Nat) : XOb → List Nat → List Nat
  | .cells cs _, acc => lsL live cs acc
  | _, acc => acc
noncomputable def closU (objs : List (Nat × XOb)) : Nat → List Nat → List Nat → List Nat
  | 0, _, done => done
  | _ + 1, [], done => done
  | n + 1, k :: todo, done => cond (inl k done) (closU objs n todo done) (match lk k objs with
    | some o => closU objs n (o.ks todo) (k :: done)
    | none => closU objs n todo done)
mutual
noncomputable def XV.rl (live : List Nat) (δ : Nat) : XV → XV
  | .d x => .d x
  | .nm k p => .nm k p
  | .tip n t l ty => cond (inl n live) (.tip (n + δ) t l ty) (.d (.sl t l))
  | .tup l => .tup (rlL live δ l)
  | .agg l => .agg (rlL live δ l)
  | .clo f l => .clo f (rlL live δ l)
  | .os k t a n => .os k t a n
  | .el k t a n => .el k t a n
  | .tpt n e x l => .d .pp
noncomputable def rlL (live : List Nat) (δ : Nat) : List XV → List XV
  | [] => []
  | x :: r => x.rl live δ :: rlL live δ r
end
mutual
noncomputable def XV.noTpt : XV → Bool
  | .tpt _ _ _ _ => false
  | .tup l => noTptL l
  | .agg l => noTptL l
  | .clo _ l => noTptL l
  | _ => true
noncomputable def noTptL : List XV → Bool
  | [] => true
  | x :: r => cond x.noTpt (noTptL r) false
end
mutual
theorem XV.rl_ok {σ : Nat → Nat} (live : List Nat) (δ : Nat) (hσ : ∀ n, σ (n + δ) = n) : ∀ x : XV, x.noTpt = true → Rl σ x.a (x.rl live δ).a
  | .d x, _ => .d _
  | .nm k p, _ => .nm k p
  | .tip n t l ty, _ => by
    simp only [XV.rl]
    cases inl n live with
    | true =>
      have := Rl.tip (σ := σ) (n + δ) t.size (l.map t.ds) ty
      rw [hσ] at this
      exact this
    | false =>
      exact Rl.drop n t.size (l.map t.ds) ty
  | .tup l, h => by
    have := rlL_ok live δ hσ l (by simpa [XV.noTpt] using h)
    exact .tup _ _ this.1 this.2
  | .agg l, h => by
    have := rlL_ok live δ hσ l (by simpa [XV.noTpt] using h)
    exact .agg _ _ this.1 this.2
  | .clo f l, h => by
    have := rlL_ok live δ hσ l (by simpa [XV.noTpt] using h)
    exact .clo f _ _ this.1 this.2
  | .os k t a n, _ => .nm k _
  | .el k t a n, _ => .nm k _
  | .tpt n e x l, h => by simp [XV.noTpt] at h
theorem rlL_ok {σ : Nat → Nat} (live : List Nat) (δ : Nat) (hσ : ∀ n, σ (n + δ) = n) : ∀ l : List XV, noTptL l = true → (asOf l).length = (asOf (rlL live δ l)).length ∧ ∀ (i : Nat) x x', (asOf l)[i]? = some x → (asOf (rlL live δ l))[i]? = some x' → Rl σ x x'
  | [], _ => ⟨rfl, by simp [asOf]⟩
  | y :: r, h => by
    simp only [noTptL] at h
    cases hy : y.noTpt with
    | false => simp [hy] at h
    | true =>
      simp only [hy, cond_true] at h
      obtain ⟨h1, h2⟩ := rlL_ok live δ hσ r h
      refine ⟨by simp only [asOf, rlL, List.length_cons, h1], ?_⟩
      intro i x x' hx hx'
      cases i with
      | zero =>
        simp only [asOf, rlL, List.getElem?_cons_zero, Option.some.injEq] at hx hx'
        subst hx; subst hx'
        exact XV.rl_ok live δ hσ y hy
      | succ i =>
        simp only [asOf, rlL, List.getElem?_cons_succ] at hx hx'
        exact h2 i x x' hx hx'
end

noncomputable def XOb.rl (live : List Nat) (δ : Nat) : XOb → XOb
  | .cells cs ty => .cells (rlL live δ cs) ty
  | o => o
noncomputable def XOb.rlOk : XOb → Bool
  | .cells cs _ => noTptL cs
  | .mapt _ _ _ _ _ => false
  | _ => true
theorem rlob_data {σ : Nat → Nat} (l : List D) (ty : Option TypeId) : RlOb σ (.cells (l.map .d) ty) (.cells (l.map .d) ty) := by
  refine .cells _ _ ty rfl fun i x x' hx hx' => ?_
  rw [hx] at hx'
  cases hx'
  rw [List.getElem?_map, Option.map_eq_some_iff] at hx
  obtain ⟨d, _, rfl⟩ := hx
  exact .d d
theorem XOb.rl_ok {σ : Nat → Nat} (live : List Nat) (δ : Nat) (hσ : ∀ n, σ (n + δ) = n) {o : XOb} (h : o.rlOk = true) : RlOb σ o.o (o.rl live δ).o := by
  cases o with
  | cells cs ty =>
    obtain ⟨h1, h2⟩ := rlL_ok live δ hσ cs h
    exact .cells _ _ ty h1 h2
  | arr t l => exact rlob_data _ _
  | bts e l => exact rlob_data _ _
  | sit s p => exact .sit _ _
  | map kt vt es c => exact .map _ _
  | mit m a b c => exact .mit _ _ _ _
  | mitn => exact .mitn
  | mapt => cases h
structure FI (P : Program) where
  id : FuncId
  fn : Func
  own : List Nat
  /-- 1: always with labels; 2: without, where nothing changes; else as it comes -/
  hot : Nat
  hf : P.funcs[id]? = some fn
  hc : CallI P id
noncomputable def tmpsR : List ResultVar → List Nat
  | [] => []
  | .tmp t :: r => t :: tmpsR r
  | .cell _ _ :: r => tmpsR r
noncomputable def keepRl (live : List Nat) (δ : Nat) (objs : List (Nat × XOb)) : List Nat → Option (List (Nat × XOb))
  | [] => some []
  | k :: r => match lk k objs, keepRl live δ objs r with
    | some o, some l => cond o.rlOk (some ((k, o.rl live δ) :: l)) none
    | _, _ => none
noncomputable def lsOb (live : List Nat) : List (Nat × XOb) → List Nat → List Nat
  | [], acc => acc
  | p :: r, acc => lsOb live r (p.2.lbs live acc)
noncomputable def plusL (δ : Nat) : List Nat → List Nat
  | [] => []
  | n :: r => (n + δ) :: plusL δ r
noncomputable def dlt : Nat := 1000000000
noncomputable def onlyL (live : List Nat) : List Nat → List Nat
  | [] => []
  | n :: r => cond (cond (inl n live) (cond (inl n r) false true) false) (n :: onlyL live r) (onlyL live r)
theorem onlyL_mem {live : List Nat} {n : Nat} : ∀ {l : List Nat}, n ∈ onlyL live l → n ∈ live
  | [], h => by simp [onlyL] at h
  | m :: r, h => by
    simp only [onlyL] at h
    cases h1 : inl m live with
    | false => simp only [h1, cond_false] at h; exact onlyL_mem h
    | true =>
      cases h2 : inl m r with
      | true => simp only [h1, h2, cond_true, cond_false] at h; exact onlyL_mem h
      | false =>
        simp only [h1, h2, cond_true, cond_false, List.mem_cons] at h
        rcases h with rfl | h
        · exact (inl_eq _ _).1 h1
        · exact onlyL_mem h
theorem plusL_mem {δ n : Nat} : ∀ {l : List Nat}, n ∈ plusL δ l → ∃ m ∈ l, n = m + δ
  | [], h => by simp [plusL] at h
  | m :: r, h => by
    simp only [plusL, List.mem_cons] at h
    rcases h with rfl | h
    · exact ⟨m, by simp, rfl⟩
    · obtain ⟨k, hk, rfl⟩ := plusL_mem h
      exact ⟨k, by simp [hk], rfl⟩
theorem keepRl_mem {live : List Nat} {δ : Nat} {objs : List (Nat × XOb)} : ∀ {l : List Nat} {os : List (Nat × XOb)}, keepRl live δ objs l = some os → ∀ p ∈ os, ∃ o, lk p.1 objs = some o ∧ p.2 = o.rl live δ ∧ o.rlOk = true
  | [], os, h => by simp [keepRl] at h; subst h; simp
  | k :: r, os, h => by
    simp only [keepRl] at h
    split at h
    · rename_i o l ho hl
      cases hr : o.rlOk with
      | false => simp [hr] at h
      | true =>
        simp only [hr, cond_true, Option.some.injEq] at h
        subst h
        intro p hp
        rcases List.mem_cons.1 hp with rfl | hp
        · exact ⟨o, ho, rfl, hr⟩
        · exact keepRl_mem hl p hp
    · cases h
noncomputable def disjL (ol : List Nat) : List Nat → Bool
  | [] => true
  | k :: r => cond (inl k ol) false (disjL ol r)
theorem disjL_spec {ol : List Nat} : ∀ {l : List Nat}, disjL ol l = true → ∀ k ∈ l, k ∉ ol
  | [], _ => by simp
  | j :: r, h => by
    simp only [disjL] at h
    cases hj : inl j ol with
    | true => simp [hj] at h
    | false =>
      simp only [hj, cond_false] at h
      intro k hk
      rcases List.mem_cons.1 hk with rfl | hk
      · intro hm; rw [(inl_eq _ _).2 hm] at hj; cases hj
      · exact disjL_spec h k hk
noncomputable def sgm (n : Nat) : Nat := cond (Nat.ble dlt n) (n - dlt) n
theorem sgm_add (n : Nat) : sgm (n + dlt) = n := by
  unfold sgm
  rw [Nat.ble_eq_true_of_le (Nat.le_add_left ..)]
  simp
theorem sgm_low {n : Nat} (h : Nat.ble dlt n = false) : sgm n = n := by
  unfold sgm; rw [h]; rfl
mutual
noncomputable def XV.lows : XV → Bool
  | .tip n _ _ _ => cond (Nat.ble dlt n) false true
  | .tpt _ _ _ _ => false
  | .tup l => lowsL l
  | .agg l => lowsL l
  | .clo _ l => lowsL l
  | _ => true
noncomputable def lowsL : List XV → Bool
  | [] => true
  | x :: r => cond x.lows (lowsL r) false
end
noncomputable def XOb.lows : XOb → Bool
  | .cells cs _ => lowsL cs
  | .mapt _ _ _ _ _ => false
  | _ => true
noncomputable def lowsOb : List (Nat × XOb) → Bool
  | [] => true
  | p :: r => cond p.2.lows (lowsOb r) false
noncomputable def lowsN : List Nat → Bool
  | [] => true
  | n :: r => cond (Nat.ble dlt n) false (lowsN r)
theorem lowsN_spec : ∀ {l : List Nat}, lowsN l = true → ∀ n ∈ l, Nat.ble dlt n = false
  | [], _ => by simp
  | m :: r, h => by
    simp only [lowsN] at h
    cases hb : Nat.ble dlt m with
    | true => simp [hb] at h
    | false =>
      simp only [hb, cond_false] at h
      intro n hn
      rcases List.mem_cons.1 hn with rfl | hn
      · exact hb
      · exact lowsN_spec h n hn
theorem lowsOb_mem {p : Nat × XOb} : ∀ {l : List (Nat × XOb)}, lowsOb l = true → p ∈ l → p.2.lows = true
  | [], _, h => by simp at h
  | q :: r, h, hp => by
    simp only [lowsOb] at h
    cases hb : q.2.lows with
    | false => simp [hb] at h
    | true =>
      simp only [hb, cond_true] at h
      rcases List.mem_cons.1 hp with rfl | hp
      · exact hb
      · exact lowsOb_mem h hp
mutual
theorem XV.lows_ok : ∀ x : XV, x.lows = true → Rl sgm x.a x.a
  | .d x, _ => .d _
  | .nm k p, _ => .nm k p
  | .tip n t l ty, h => by
    simp only [XV.lows] at h
    cases hb : Nat.ble dlt n with
    | true => simp [hb] at h
    | false =>
      have := Rl.tip (σ := sgm) n t.size (l.map t.ds) ty
      rw [sgm_low hb] at this
      exact this
  | .tup l, h => by
    have := lowsL_ok l (by simpa [XV.lows] using h)
    exact .tup _ _ rfl this
  | .agg l, h => by
    have := lowsL_ok l (by simpa [XV.lows] using h)
    exact .agg _ _ rfl this
  | .clo f l, h => by
    have := lowsL_ok l (by simpa [XV.lows] using h)
    exact .clo f _ _ rfl this
  | .os k t a n, _ => .nm k _
  | .el k t a n, _ => .nm k _
  | .tpt n e x l, h => by simp [XV.lows] at h
theorem lowsL_ok : ∀ l : List XV, lowsL l = true → ∀ (i : Nat) x x', (asOf l)[i]? = some x → (asOf l)[i]? = some x' → Rl sgm x x'
  | [], _ => by simp [asOf]
  | y :: r, h => by
    simp only [lowsL] at h
    cases hy : y.lows with
    | false => simp [hy] at h
    | true =>
      simp only [hy, cond_true] at h
      intro i x x' hx hx'
      rw [hx] at hx'
      cases hx'
      cases i with
      | zero =>
        simp only [asOf, List.getElem?_cons_zero, Option.some.injEq] at hx
        subst hx
        exact XV.lows_ok y hy
      | succ i =>
        simp only [asOf, List.getElem?_cons_succ] at hx
        exact lowsL_ok r h i x x hx hx
end
theorem XOb.lows_ok {o : XOb} (h : o.lows = true) : RlOb sgm o.o o.o := by
  cases o with
  | cells cs ty => exact .cells _ _ ty rfl (lowsL_ok cs h)
  | arr t l => exact rlob_data _ _
  | bts e l => exact rlob_data _ _
  | sit s p => exact .sit _ _
  | map kt vt es c => exact .map _ _
  | mit m a b c => exact .mit _ _ _ _
  | mitn => exact .mitn
  | mapt => cases h
noncomputable def diffL (b : List Nat) : List Nat → List Nat
  | [] => []
  | n :: r => cond (inl n b) (diffL b r) (n :: diffL b r)
theorem diffL_mem {b : List Nat} {n : Nat} : ∀ {l : List Nat}, n ∈ diffL b l → n ∈ l ∧ n ∉ b
  | [], h => by simp [diffL] at h
  | m :: r, h => by
    simp only [diffL] at h
    cases hb : inl m b with
    | true =>
      simp only [hb, cond_true] at h
      have := diffL_mem h
      exact ⟨by simp [this.1], this.2⟩
    | false =>
      simp only [hb, cond_false, List.mem_cons] at h
      rcases h with rfl | h
      · refine ⟨by simp, fun hm => ?_⟩
        rw [(inl_eq _ _).2 hm] at hb; cases hb
      · have := diffL_mem h
        exact ⟨by simp [this.1], this.2⟩
theorem fgL_mem {fg : Bool} {a b : List Nat} {n : Nat} (h : n ∈ bsel fg [] (diffL a b)) : n ∈ b ∧ n ∉ a := by
  cases fg with
  | true => exact absurd h (by simp [bsel])
  | false => exact diffL_mem h
noncomputable def endS (fg : Bool) (ns : List Nat) (inO : List (Nat × XOb)) (labs : List Nat) (s : XSt) (rs : List XV) : Option (List XV × List (Nat × XOb) × List Nat × Bool) :=
  cond (disjL s.ol ns) (cond (subL labs s.live) (cond (noTptL rs) (cond (lowsN labs) (cond (lowsOb inO)
    (let lv := bsel fg [] (diffL labs s.live)
     match keepRl lv dlt s.objs (diffL ns (closU s.objs 100000 (ksL rs []) [])) with
     | some no =>
       let rs' := rlL lv dlt rs
       some (rs', inO ++ no, labs ++ onlyL (plusL dlt lv) (lsOb (plusL dlt lv) no (lsL (plusL dlt lv) rs' [])), true)
     | none => none) none) none) none) none) none
noncomputable def endU (fg : Bool) (P : Program) (fn : Func) (ns : List Nat) (inO : List (Nat × XOb)) (labs : List Nat) (sm : Bool) (s : XSt) : Option (List XV × List (Nat × XOb) × List Nat × Bool) :=
  match xres P s fn.results.toList with
  | some rs =>
    match cond sm (endS fg ns inO labs s rs) none with
    | some r => some r
    | none =>
      match keepRl s.live dlt s.objs (closU s.objs 100000 (ksL rs ns) []) with
      | some os => cond (noTptL rs) (cond (subL ns (os.map (·.1))) (some (rlL s.live dlt rs, os, onlyL (plusL dlt s.live) (lsOb (plusL dlt s.live) os (lsL (plusL dlt s.live) (rlL s.live dlt rs) [])), false)) none) none
      | none => none
  | none => none
noncomputable def isRet : Exit → Bool
  | .ret => true
  | .normal => true
  | _ => false
section
variable (P : Program) (Γ : List (Ent P)) (fi : FI P) (N : Nat)
noncomputable def runI (gids : List Nat) (xs ys : List XV) (inO : List (Nat × XOb)) (labs : List Nat) (sm : Bool) : Option (List XV × List (Nat × XOb) × List Nat × Bool) :=
  match fi.fn.body with
  | some c => cond (Nat.ble fi.fn.ntmps GB) (cond (Nat.ble xs.length fi.fn.ntmps) (cond (nodupL (inO.map (·.1))) (match execU P Γ fi.own fi.fn.ntmps N c false ⟨envX 0 xs ++ glE gids ys, inO, labs, [], []⟩ with
    | some (e, s) => cond (isRet e) (fzK (tmpsR fi.fn.results.toList) s fun s1 => endU (Nat.beq fi.hot 3) P fi.fn (inO.map (·.1)) inO labs sm (fgSt s1)) none
    | none => none) none) none) none
  | none => none
end
theorem rl_tup {σ : Nat → Nat} {live : List Nat} {δ : Nat} (hσ : ∀ n, σ (n + δ) = n) {rs : List XV} (h : noTptL rs = true) : Rl σ (tupX rs).a (tupX (rlL live δ rs)).a := by
  cases rs with
  | nil => exact .tup [] [] rfl (by simp)
  | cons x r =>
    cases r with
    | nil =>
      simp only [noTptL] at h
      exact XV.rl_ok live δ hσ x (by
        cases hx : x.noTpt with
        | true => rfl
        | false => simp [hx] at h)
    | cons y r =>
      obtain ⟨h1, h2⟩ := rlL_ok live δ hσ (x :: y :: r) h
      exact .tup _ _ h1 h2
theorem lk_none_mem {l : List (Nat × XOb)} {p : Nat × XOb} (h : lk p.1 l = none) (hp : p ∈ l) : False := by
  induction l with
  | nil => simp at hp
  | cons q r ih =>
    simp only [lk_cons, lk_nil] at h
    cases hb : Nat.beq q.1 p.1 with
    | true => simp [hb] at h
    | false =>
      simp only [hb, cond_false] at h
      rcases List.mem_cons.1 hp with rfl | hp
      · rw [Nat.beq_refl] at hb; cases hb
      · exact ih h hp
theorem bodyI_sound {P : Program} {fi : FI P} {gids : List Nat} {xs ys : List XV} {inO : List (Nat × XOb)} {labs : List Nat} {rs : List XV} {os : List (Nat × XOb)} {ls : List Nat} {sm u fg : Bool} {c : Code} {e : Exit} {s : XSt}
    (hsm : smallL (inO.map (·.1)) = true) (hc : fi.fn.body = some c) (hG : fi.fn.ntmps ≤ GB) (hn : xs.length ≤ fi.fn.ntmps) (hnd : (inO.map (·.1)).Nodup)
    (hs : AWp P ⟨fi.fn.ntmps, inO.map (·.1), smallL_spec hsm⟩ c (fun e' s' => e' = e ∧ s' = s.im ∧ InvU ⟨envX 0 xs ++ glE gids ys, inO, labs, [], []⟩ s) (XSt.im ⟨envX 0 xs ++ glE gids ys, inO, labs, [], []⟩)) (hret : isRet e = true)
    (hfz : fzK (tmpsR fi.fn.results.toList) s (fun s1 => endU fg P fi.fn (inO.map (·.1)) inO labs sm (fgSt s1)) = some (rs, os, ls, u)) :
    DoesH P fi.id (asOf xs) (gids.zip (asOf ys)) ⟨imObjs inO, labs⟩ (tupX rs).a ⟨imObjs os, ls⟩ ∧ (u = true → ∃ no nl, os = inO ++ no ∧ ls = labs ++ nl) := by
  have hnm : (imObjs inO).map (·.1) = inO.map (·.1) := imObjs_names _
  refine ⟨?_, ?_⟩
  · intro g w vs hr hgs hl ha
    refine calls_of_wp fi.hf hc (wp_mono (hs (Base.of g w ⟨imObjs inO, labs⟩) g w _ ?_) ?_)
    · rw [asOf_length] at hl
      refine ⟨rfl, ?_, ?_, ?_⟩
      · simp; omega
      · have := hr
        rw [hnm] at this
        exact this
      · intro t x hx
        have hx' : (imEnv (envX 0 xs) ++ imEnv (glE gids ys)).lookup t = some x := by
          rw [imEnv, imEnv, ← List.map_append]; exact hx
        rw [List.lookup_append, envX_im] at hx'
        cases h1 : (envOf 0 (asOf xs)).lookup t with
        | some x1 =>
          rw [h1] at hx'
          simp only [Option.some_or, Option.some.injEq] at hx'
          subst hx'
          obtain ⟨_, hx'⟩ := envOf_lookup h1
          rw [Nat.sub_zero] at hx'
          have hlt : t < vs.size := by
            have := (List.getElem?_eq_some_iff.1 hx').1
            rw [asOf_length] at this; omega
          refine ⟨vs[t], ?_, ha t x1 _ hx' (by simp [hlt])⟩
          rw [slotV_tmp (by omega)]
          simp [Array.getElem?_append, hlt]
        | none =>
          rw [h1] at hx'
          simp only [Option.none_or] at hx'
          obtain ⟨k, rfl, hk⟩ := glE_mem (lookup_mem hx')
          exact ⟨_, slotV_glob k, hgs _ hk⟩
    · rintro e' a' w' ⟨s', g', ⟨rfl, rfl, hi⟩, hs'⟩
      have fin : a'.defers = [] ∧ ∃ v, (results fi.fn a'.tmps).run P w' = .ok v w' ∧ ∃ g' v_1, Ending.returned v = Ending.returned v_1 ∧ RA g' w' (tupX rs).a v_1 ∧ HR ((imObjs inO).map (·.1)) (Base.of g w ⟨imObjs inO, labs⟩) g' w' ⟨imObjs os, ls⟩ := by
        obtain ⟨s1, q1, q2, q3⟩ := fzK_ok (S := ⟨fi.fn.ntmps, inO.map (·.1), smallL_spec hsm⟩) _ s hi.toInv hfz
        obtain ⟨g1, hs1⟩ := q3 _ g' w' a' hs'
        have hs2 := SR.fg hs1
        have hi2 := q2.fg
        generalize fgSt s1 = s2 at q1 hs2 hi2
        unfold endU at q1
        split at q1
        rotate_left
        · cases q1
        rename_i rs0 hrs
        obtain ⟨v, hv, hra⟩ := run_results (xres_ok hrs) hs2
        rw [← tupX_a] at hra
        rw [hnm]
        cases hes : cond sm (endS fg (inO.map (·.1)) inO labs s2 rs0) none with
        | some r0 =>
          rw [hes] at q1
          simp only [Option.some.injEq] at q1
          subst q1
          obtain ⟨_, hes⟩ := c2 hes
          unfold endS at hes
          obtain ⟨k1, hes⟩ := c2 hes
          obtain ⟨k2, hes⟩ := c2 hes
          obtain ⟨k3, hes⟩ := c2 hes
          obtain ⟨k5, hes⟩ := c2 hes
          obtain ⟨k6, hes⟩ := c2 hes
          dsimp only at hes
          split at hes
          rotate_left
          · cases hes
          rename_i no hno
          simp only [Option.some.injEq, Prod.mk.injEq] at hes
          obtain ⟨rfl, rfl, rfl, rfl⟩ := hes
          have hol := disjL_spec k1
          have hlv := subL_spec k2
          have low := lowsN_spec k5
          have hnd' : ((imObjs inO).map (·.1)).Nodup := by rw [hnm]; exact hnd
          have hw : Relb (inO.map (·.1)) sgm s2.im ⟨[], ⟨imObjs (inO ++ no), labs ++ onlyL (plusL dlt (bsel fg [] (diffL labs s2.live))) (lsOb (plusL dlt (bsel fg [] (diffL labs s2.live))) no (lsL (plusL dlt (bsel fg [] (diffL labs s2.live))) (rlL (bsel fg [] (diffL labs s2.live)) dlt rs0) []))⟩⟩ := by
            have cas : ∀ n, n ∈ labs ++ onlyL (plusL dlt (bsel fg [] (diffL labs s2.live))) (lsOb (plusL dlt (bsel fg [] (diffL labs s2.live))) no (lsL (plusL dlt (bsel fg [] (diffL labs s2.live))) (rlL (bsel fg [] (diffL labs s2.live)) dlt rs0) [])) → (n ∈ labs ∧ sgm n = n) ∨ (∃ m, m ∈ s2.live ∧ m ∉ labs ∧ n = m + dlt ∧ sgm n = m) := by
              intro n hn
              rcases List.mem_append.1 hn with hn | hn
              · exact .inl ⟨hn, sgm_low (low n hn)⟩
              · obtain ⟨m, hm', rfl⟩ := plusL_mem (onlyL_mem hn)
                have := fgL_mem hm'
                exact .inr ⟨m, this.1, this.2, rfl, sgm_add m⟩
            refine ⟨by simp, ?_, ?_, ?_, ?_⟩
            · intro p hp
              obtain ⟨q, hq, rfl⟩ := im_mem hp
              rcases List.mem_append.1 hq with hq | hq
              rotate_left
              · obtain ⟨o, ho1, ho2, ho3⟩ := keepRl_mem hno q hq
                refine ⟨o.o, lk_imA ho1, ?_⟩
                rw [ho2]
                exact XOb.rl_ok _ _ sgm_add ho3
              have hp : (q.1, q.2.o) ∈ imObjs inO := List.mem_map_of_mem (f := fun p : Nat × XOb => (p.1, p.2.o)) hq
              have h1 := lookup_of_mem hnd' hp
              have hk : q.1 ∈ inO.map (·.1) := List.mem_map_of_mem (f := (·.1)) hq
              have h2 := (hs2.hr.keep q.1 hk).2
              have h2 : ((imObjs s2.objs).lookup q.1).isSome := h2
              refine ⟨q.2.o, ?_, XOb.lows_ok (lowsOb_mem k6 hq)⟩
              show (imObjs s2.objs).lookup q.1 = some q.2.o
              rw [im_objs] at h2 ⊢
              cases h3 : lk q.1 s2.objs with
              | none => rw [h3] at h2; cases h2
              | some y =>
                have h4 := hi2.objs q.1 y (hol _ hk) h3
                have h5 : (imObjs inO).lookup q.1 = some y.o := by rw [im_objs, h4]; rfl
                rw [h1] at h5
                simp only [Option.some.injEq] at h5
                rw [h5]; rfl
            · intro n hn
              show sgm n ∈ s2.live
              rcases cas n hn with ⟨h1, h2⟩ | ⟨m, h1, _, _, h2⟩
              · rw [h2]; exact hlv n h1
              · rw [h2]; exact h1
            · intro n hn m hm' he
              rcases cas n hn with ⟨h1, h2⟩ | ⟨a, h1, h1', h3, h2⟩ <;> rcases cas m hm' with ⟨h4, h5⟩ | ⟨b, h4, h4', h6, h5⟩
              · rw [h2, h5] at he; exact he
              · rw [h2, h5] at he; subst he; exact (h4' h1).elim
              · rw [h2, h5] at he; subst he; exact (h1' h4).elim
              · rw [h2, h5] at he; subst he; rw [h3, h6]
            · intro k hk
              obtain ⟨p, hp, rfl⟩ := List.mem_map.1 (by rw [← hnm] at hk; exact hk)
              show ((imObjs (inO ++ no)).lookup p.1).isSome
              rw [show imObjs (inO ++ no) = imObjs inO ++ imObjs no from List.map_append, List.lookup_append, lookup_of_mem hnd' hp]
              rfl
          obtain ⟨g3, hs3, e1, e2, e3⟩ := hs2.relbX hw
          exact ⟨hs2.defers, v, hv, g3, v, rfl, (rl_tup sgm_add k3).ra e1 e2 e3 hra, hs3.hr⟩
        | none =>
          rw [hes] at q1
          simp only at q1
          split at q1
          rotate_left
          · cases q1
          rename_i os0 hos
          obtain ⟨hnt, q1⟩ := c2 q1
          obtain ⟨hsub, q1⟩ := c2 q1
          simp only [Option.some.injEq, Prod.mk.injEq] at q1
          obtain ⟨rfl, rfl, rfl, rfl⟩ := q1
          have hw : Relb (inO.map (·.1)) (fun n => n - dlt) s2.im ⟨[], ⟨imObjs os0, onlyL (plusL dlt s2.live) (lsOb (plusL dlt s2.live) os0 (lsL (plusL dlt s2.live) (rlL s2.live dlt rs0) []))⟩⟩ := by
            refine ⟨by simp, ?_, ?_, ?_, ?_⟩
            · intro p hp
              obtain ⟨q, hq, rfl⟩ := im_mem hp
              obtain ⟨o, ho1, ho2, ho3⟩ := keepRl_mem hos q hq
              refine ⟨o.o, lk_imA ho1, ?_⟩
              rw [ho2]
              exact XOb.rl_ok _ _ (fun n => Nat.add_sub_cancel ..) ho3
            · intro n hn
              obtain ⟨m, hm', rfl⟩ := plusL_mem (onlyL_mem hn)
              simp only [Nat.add_sub_cancel]
              exact hm'
            · intro n hn m hm' he
              obtain ⟨n', _, rfl⟩ := plusL_mem (onlyL_mem hn)
              obtain ⟨m', _, rfl⟩ := plusL_mem (onlyL_mem hm')
              simp only [Nat.add_sub_cancel] at he
              rw [he]
            · intro k hk
              have := subL_spec hsub k hk
              show ((imObjs os0).lookup k).isSome
              rw [im_objs]
              cases h3 : lk k os0 with
              | some y => rfl
              | none =>
                exfalso
                obtain ⟨p, hp, rfl⟩ := List.mem_map.1 this
                exact lk_none_mem h3 hp
          obtain ⟨g3, hs3, e1, e2, e3⟩ := hs2.relbX hw
          exact ⟨hs2.defers, v, hv, g3, v, rfl, (rl_tup (fun n => Nat.add_sub_cancel ..) hnt).ra e1 e2 e3 hra, hs3.hr⟩
      cases e' with
      | ret => exact fin
      | normal => exact fin
      | _ => simp [isRet] at hret
  · intro hu
    subst hu
    obtain ⟨s1, q1, q2, q3⟩ := fzK_ok (S := ⟨fi.fn.ntmps, inO.map (·.1), smallL_spec hsm⟩) (s0 := s) _ s (.refl _) hfz
    unfold endU at q1
    split at q1
    rotate_left
    · cases q1
    rename_i rs0 hrs
    cases hes : cond sm (endS fg (inO.map (·.1)) inO labs (fgSt s1) rs0) none with
    | some r0 =>
      rw [hes] at q1
      simp only [Option.some.injEq] at q1
      subst q1
      obtain ⟨_, hes⟩ := c2 hes
      unfold endS at hes
      obtain ⟨k1, hes⟩ := c2 hes
      obtain ⟨k2, hes⟩ := c2 hes
      obtain ⟨k3, hes⟩ := c2 hes
      obtain ⟨k5, hes⟩ := c2 hes
      obtain ⟨k6, hes⟩ := c2 hes
      dsimp only at hes
      split at hes
      rotate_left
      · cases hes
      simp only [Option.some.injEq, Prod.mk.injEq] at hes
      obtain ⟨rfl, rfl, rfl, _⟩ := hes
      exact ⟨_, _, rfl, rfl⟩
    | none =>
      rw [hes] at q1
      simp only at q1
      split at q1
      rotate_left
      · cases q1
      obtain ⟨_, q1⟩ := c2 q1
      obtain ⟨_, q1⟩ := c2 q1
      simp at q1
theorem runI_sound {P : Program} {Γ : List (Ent P)} {fi : FI P} {N : Nat} {gids : List Nat} {xs ys : List XV} {inO : List (Nat × XOb)} {labs : List Nat} {rs : List XV} {os : List (Nat × XOb)} {ls : List Nat} {sm u : Bool}
    (hm : P.follows .mixedOrders = true) (hsm : smallL (inO.map (·.1)) = true) (h : runI P Γ fi N gids xs ys inO labs sm = some (rs, os, ls, u)) :
    DoesH P fi.id (asOf xs) (gids.zip (asOf ys)) ⟨imObjs inO, labs⟩ (tupX rs).a ⟨imObjs os, ls⟩ ∧ (u = true → ∃ no nl, os = inO ++ no ∧ ls = labs ++ nl) := by
  unfold runI at h
  split at h
  rotate_left
  · cases h
  rename_i c hc
  obtain ⟨hG, h⟩ := c2 h
  obtain ⟨hn, h⟩ := c2 h
  obtain ⟨hnd, h⟩ := c2 h
  replace hG := Nat.le_of_ble_eq_true hG
  replace hn := Nat.le_of_ble_eq_true hn
  replace hnd := nodupL_spec hnd
  split at h
  rotate_left
  · cases h
  rename_i e s hex
  obtain ⟨hret, hfz⟩ := c2 h
  clear h
  exact bodyI_sound hsm hc hG hn hnd (execU_sound (S := ⟨fi.fn.ntmps, inO.map (·.1), smallL_spec hsm⟩) hm c false ⟨envX 0 xs ++ glE gids ys, inO, labs, [], []⟩ ⟨envX 0 xs ++ glE gids ys, inO, labs, [], []⟩ s e (.refl _) hex) hret hfz
mutual
noncomputable def XV.cool (live : List Nat) : XV → XV
  | .tip n t l ty => cond (inl n live) (.tip n t l ty) (.d (.sl t l))
  | .tup l => .tup (coolL live l)
  | .agg l => .agg (coolL live l)
  | .clo f l => .clo f (coolL live l)
  | x => x
noncomputable def coolL (live : List Nat) : List XV → List XV
  | [] => []
  | x :: r => x.cool live :: coolL live r
end

theorem AsLe.agg {a b : List AV} (h : AsLe a b) : ALe (.agg a) (.agg b) := by
  intro g w v hr
  cases hr with
  | agg _ vs hl hc =>
    refine .agg b vs (h.length ▸ hl) fun i c u hb hu => ?_
    obtain ⟨x, hx, hle⟩ := h.get hb
    exact hle _ _ _ (hc i x u hx hu)
theorem AsLe.clo {f : Nat} {a b : List AV} (h : AsLe a b) : ALe (.clo f a) (.clo f b) := by
  intro g w v hr
  cases hr with
  | clo _ _ vs hl hc =>
    refine .clo f b vs (h.length ▸ hl) fun i c u hb hu => ?_
    obtain ⟨x, hx, hle⟩ := h.get hb
    exact hle _ _ _ (hc i x u hx hu)
mutual
theorem XV.cool_le (live : List Nat) : ∀ x : XV, ALe x.a (x.cool live).a
  | .d x => .refl _
  | .nm k p => .refl _
  | .tip n t l ty => by
    simp only [XV.cool]
    cases inl n live with
    | true => exact .refl _
    | false => exact .tip _ _ _ _
  | .tup l => (coolL_le live l).tup
  | .agg l => (coolL_le live l).agg
  | .clo f l => (coolL_le live l).clo
  | .os k t a n => .refl _
  | .el k t a n => .refl _
  | .tpt n e x l => .refl _
theorem coolL_le (live : List Nat) : ∀ l : List XV, AsLe (asOf l) (asOf (coolL live l))
  | [] => .nil
  | x :: r => .cons (XV.cool_le live x) (coolL_le live r)
end

noncomputable def XOb.cool (live : List Nat) : XOb → XOb
  | .cells cs ty => .cells (coolL live cs) ty
  | .mapt _ kt vt es c => .map kt (.sl vt) (fgT es) c
  | o => o
theorem mapt_le (L : Nat) {kt vt : Ty} (es : EntT kt vt) (c : Nat) : ObLe (XOb.mapt L kt vt es c).o (XOb.map kt (.sl vt) (fgT es) c).o := by
  have := ObLe.mapt L vt.size (lT es) c
  rw [plainL_fg] at this
  exact this
theorem XOb.cool_le (live : List Nat) (o : XOb) : ObLe o.o (o.cool live).o := by
  cases o with
  | cells cs ty => exact AsLe.obs (coolL_le live cs)
  | mapt L kt vt es c => exact mapt_le L es c
  | _ => exact .refl _
mutual
theorem XV.mp_rt {f fl f' fl' : Nat → Nat} {ks ls : List Nat} (hf : ∀ k ∈ ks, f (f' k) = k) (hl : ∀ n ∈ ls, fl (fl' n) = n) : ∀ x : XV, x.nms ks ls = true → (x.mp f' fl').mp f fl = x
  | .d x, _ => rfl
  | .nm k p, h => by simp only [XV.mp, hf k ((inl_eq _ _).1 h)]
  | .tip n t l ty, h => by simp only [XV.mp, hl n ((inl_eq _ _).1 h)]
  | .tup l, h => by simp only [XV.mp, mpL_rt hf hl l (by simpa [XV.nms] using h)]
  | .agg l, h => by simp only [XV.mp, mpL_rt hf hl l (by simpa [XV.nms] using h)]
  | .clo g l, h => by simp only [XV.mp, mpL_rt hf hl l (by simpa [XV.nms] using h)]
  | .os k t a n, h => by simp only [XV.mp, hf k ((inl_eq _ _).1 h)]
  | .el k t a n, h => by simp only [XV.mp, hf k ((inl_eq _ _).1 h)]
  | .tpt n e x l, h => by simp only [XV.mp, hl n ((inl_eq _ _).1 h)]
theorem mpL_rt {f fl f' fl' : Nat → Nat} {ks ls : List Nat} (hf : ∀ k ∈ ks, f (f' k) = k) (hl : ∀ n ∈ ls, fl (fl' n) = n) : ∀ l : List XV, nmsL ks ls l = true → mpL f fl (mpL f' fl' l) = l
  | [], _ => rfl
  | x :: r, h => by
    simp only [nmsL] at h
    cases hx : x.nms ks ls with
    | false => simp [hx] at h
    | true =>
      simp only [hx, cond_true] at h
      simp only [mpL, XV.mp_rt hf hl x hx, mpL_rt hf hl r h]
end
theorem XOb.mp_rt {f fl f' fl' : Nat → Nat} {ks ls : List Nat} (hf : ∀ k ∈ ks, f (f' k) = k) (hl : ∀ n ∈ ls, fl (fl' n) = n) {o : XOb} (h : o.nms ks ls = true) : (o.mp f' fl').mp f fl = o := by
  cases o with
  | cells cs ty => simp only [XOb.mp, mpL_rt hf hl cs h]
  | mit m a b c => simp only [XOb.mp, hf m ((inl_eq _ _).1 h)]
  | _ => rfl
noncomputable def numL (n : Nat) : List Nat → List (Nat × Nat)
  | [] => []
  | k :: r => (n, k) :: numL (n + 1) r
noncomputable def swapL : List (Nat × Nat) → List (Nat × Nat)
  | [] => []
  | p :: r => (p.2, p.1) :: swapL r
noncomputable def newN (ns : List Nat) (b : Nat) : List (Nat × XOb) → List (Nat × Nat)
  | [] => []
  | p :: r => cond (inl p.1 ns) (newN ns b r) ((p.1, b) :: newN ns (b + 1) r)
noncomputable def rtOk (f f' : Nat → Nat) : List Nat → Bool
  | [] => true
  | k :: r => cond (Nat.beq (f (f' k)) k) (rtOk f f' r) false
theorem rtOk_spec {f f' : Nat → Nat} : ∀ {l : List Nat}, rtOk f f' l = true → ∀ k ∈ l, f (f' k) = k
  | [], _ => by simp
  | k :: r, h => by
    simp only [rtOk] at h
    cases hb : Nat.beq (f (f' k)) k with
    | false => simp [hb] at h
    | true =>
      simp only [hb, cond_true] at h
      intro j hj
      rcases List.mem_cons.1 hj with rfl | hj
      · exact Nat.eq_of_beq_eq_true hb
      · exact rtOk_spec h j hj
noncomputable def seenO (live : List Nat) (objs : List (Nat × XOb)) (f' fl' : Nat → Nat) (ks ls : List Nat) : List Nat → Option (List (Nat × XOb))
  | [] => some []
  | k :: r => match lk k objs, seenO live objs f' fl' ks ls r with
    | some o, some l => cond ((o.cool live).nms ks ls) (some ((f' k, (o.cool live).mp f' fl') :: l)) none
    | _, _ => none
theorem seenO_mem {live : List Nat} {objs : List (Nat × XOb)} {f fl f' fl' : Nat → Nat} {ks ls : List Nat} (hf : ∀ k ∈ ks, f (f' k) = k) (hl : ∀ n ∈ ls, fl (fl' n) = n) : ∀ {l : List Nat} {os : List (Nat × XOb)}, (∀ k ∈ l, k ∈ ks) → seenO live objs f' fl' ks ls l = some os →
    ∀ p ∈ os, ∃ o, lk (f p.1) objs = some o ∧ p.2.mp f fl = o.cool live
  | [], os, _, h => by simp [seenO] at h; subst h; simp
  | k :: r, os, hk, h => by
    simp only [seenO] at h
    split at h
    · rename_i o l ho hl'
      obtain ⟨hn, h⟩ := c2 h
      simp only [Option.some.injEq] at h
      subst h
      intro p hp
      rcases List.mem_cons.1 hp with rfl | hp
      · refine ⟨o, ?_, XOb.mp_rt hf hl hn⟩
        simp only [hf k (hk k (by simp))]
        exact ho
      · exact seenO_mem hf hl (fun j hj => hk j (by simp [hj])) hl' p hp
    · cases h
theorem cb2 {a b : Bool} (h : cond a b false = true) : a = true ∧ b = true := by cases a <;> simp at h; exact ⟨rfl, h⟩
noncomputable def freeU (ns F : List Nat) : List (Nat × XOb) → Bool
  | [] => true
  | p :: r => cond (inl p.1 ns) (freeU ns F r) (cond (obFreeX F p.2) (freeU ns F r) false)
theorem freeU_spec {ns F : List Nat} {k : Nat} {o : XOb} : ∀ {l : List (Nat × XOb)}, freeU ns F l = true → lk k l = some o → k ∉ ns → obFree F o.o = true
  | [], _, h, _ => by simp [lk_cons, lk_nil] at h
  | p :: r, hf, h, hk => by
    simp only [freeU] at hf
    simp only [lk_cons, lk_nil] at h
    cases hb : Nat.beq p.1 k with
    | true =>
      have e := Nat.eq_of_beq_eq_true hb
      simp only [hb, cond_true, Option.some.injEq] at h
      have hn : inl p.1 ns = false := by
        cases hn : inl p.1 ns with
        | false => rfl
        | true => rw [e] at hn; exact (hk ((inl_eq _ _).1 hn)).elim
      rw [hn] at hf
      simp only [cond_false] at hf
      rw [← h]
      exact obFreeX_ok (cb2 hf).1
    | false =>
      simp only [hb, cond_false] at h
      cases hn : inl p.1 ns with
      | true => rw [hn] at hf; exact freeU_spec hf h hk
      | false =>
        rw [hn] at hf
        simp only [cond_false] at hf
        exact freeU_spec (cb2 hf).2 h hk
noncomputable def iChk (names labs : List Nat) (f fl : Nat → Nat) (F : List Nat) (st : XSt) (xs : List XV) (inO s1o : List (Nat × XOb)) (s1l : List Nat) (res : XV) : Bool :=
  cond (nodupL names) (cond (nodupL (names.map f)) (cond (objsNms names labs inO) (cond (objsNms (s1o.map (·.1)) s1l s1o) (cond (nodupL (s1o.map fun p => f p.1)) (cond (newOk names f F st.objs s1o)
  (cond (subL names (s1o.map (·.1))) (cond (freeU (s1o.map fun p => f p.1) F st.objs) (cond (subL (labs.map fl) st.live) (cond (nodupL (labs.map fl)) (cond (nodupL (s1l.map fl)) (cond (subL (s1l.map fl) F)
  (cond (outNew fl labs st.live s1l) (cond (nmsL names labs xs) (res.nms (s1o.map (·.1)) s1l) false) false) false) false) false) false) false) false) false) false) false) false) false) false
structure IChk (names labs : List Nat) (f fl : Nat → Nat) (F : List Nat) (st : XSt) (xs : List XV) (inO s1o : List (Nat × XOb)) (s1l : List Nat) (res : XV) : Prop where
  nd1 : names.Nodup
  nd2 : (names.map f).Nodup
  innm : objsNms names labs inO = true
  outnm : objsNms (s1o.map (·.1)) s1l s1o = true
  nd3 : (s1o.map fun p => f p.1).Nodup
  new : ∀ p ∈ s1o, p.1 ∈ names ∨ (f p.1 ∈ F ∧ lk (f p.1) st.objs = none)
  sub : ∀ x ∈ names, x ∈ s1o.map (·.1)
  free : freeU (s1o.map fun p => f p.1) F st.objs = true
  l1 : ∀ x ∈ labs.map fl, x ∈ st.live
  l2 : (labs.map fl).Nodup
  l3 : (s1l.map fl).Nodup
  l4 : ∀ x ∈ s1l.map fl, x ∈ F
  l5 : ∀ n ∈ s1l, fl n ∈ st.live → fl n ∈ labs.map fl
  xsn : nmsL names labs xs = true
  resn : res.nms (s1o.map (·.1)) s1l = true
theorem iChk_spec {names labs : List Nat} {f fl : Nat → Nat} {F : List Nat} {st : XSt} {xs : List XV} {inO s1o : List (Nat × XOb)} {s1l : List Nat} {res : XV} (h : iChk names labs f fl F st xs inO s1o s1l res = true) : IChk names labs f fl F st xs inO s1o s1l res := by
  unfold iChk at h
  have c : ∀ {a b : Bool}, cond a b false = true → a = true ∧ b = true := by intro a b h; cases a <;> simp at h; exact ⟨rfl, h⟩
  obtain ⟨h1, h⟩ := c h
  obtain ⟨h2, h⟩ := c h
  obtain ⟨h3, h⟩ := c h
  obtain ⟨h4, h⟩ := c h
  obtain ⟨h5, h⟩ := c h
  obtain ⟨h6, h⟩ := c h
  obtain ⟨h7, h⟩ := c h
  obtain ⟨h8, h⟩ := c h
  obtain ⟨h9, h⟩ := c h
  obtain ⟨h10, h⟩ := c h
  obtain ⟨h11, h⟩ := c h
  obtain ⟨h12, h⟩ := c h
  obtain ⟨h13, h⟩ := c h
  obtain ⟨h14, h⟩ := c h
  exact ⟨nodupL_spec h1, nodupL_spec h2, h3, h4, nodupL_spec h5, newOk_spec h6, subL_spec h7, h8, subL_spec h9, nodupL_spec h10, nodupL_spec h11, subL_spec h12, outNew_spec h13, h14, h⟩
theorem inl_core {P : Program} {o : Oper} {rd : List (Operand × AV)} {names labs : List Nat} {f fl : Nat → Nat} {F : List Nat} {st : XSt} {xs : List XV} {inO s1o : List (Nat × XOb)} {s1l : List Nat} {res : XV} {X : Store}
    (hc : IChk names labs f fl F st xs inO s1o s1l res) (hnm : inO.map (·.1) = names)
    (hin : ∀ p ∈ inO, ∃ o, X.objs.lookup (f p.1) = some o ∧ ObLe o (p.2.mp f fl).o)
    (hnew : ∀ p ∈ s1o, p.1 ∈ names ∨ (f p.1 ∈ F ∧ X.objs.lookup (f p.1) = none))
    (hfree : ∀ j o, X.objs.lookup j = some o → (∀ p ∈ s1o, f p.1 ≠ j) → F = [] ∨ obFree F o = true) (hl1 : ∀ x ∈ labs.map fl, x ∈ X.live) (hl5 : ∀ n ∈ s1l, fl n ∈ X.live → fl n ∈ labs.map fl)
    (H : ∀ Y, LabCall Y ⟨imObjs inO, labs⟩ ⟨imObjs s1o, s1l⟩ f fl F → OpT P o rd Y ⟨putObjsL f fl (imObjs s1o) Y.objs, liveAfter fl Y ⟨imObjs inO, labs⟩ ⟨imObjs s1o, s1l⟩⟩ F (res.mp f fl).a) :
    OpT P o rd X ⟨putObjsL f fl (imObjs s1o) X.objs, liveAfter fl X ⟨imObjs inO, labs⟩ ⟨imObjs s1o, s1l⟩⟩ F (res.mp f fl).a := by
  have nd2 : (inO.map fun p => f p.1).Nodup := by
    have := hc.nd2
    rw [← hnm, List.map_map] at this
    exact this
  let Y : Store := ⟨putObjsL f fl (imObjs inO) X.objs, X.live⟩
  have yIn : ∀ p ∈ inO, Y.objs.lookup (f p.1) = some (p.2.mp f fl).o := fun p hp => putObjsL_im_mem nd2 hp
  have yOther : ∀ j, (∀ p ∈ inO, f p.1 ≠ j) → Y.objs.lookup j = X.objs.lookup j := fun j hj => putObjsL_im_other hj
  have yCases : ∀ j, (∃ p ∈ inO, f p.1 = j) ∨ ∀ p ∈ inO, f p.1 ≠ j := by
    intro j
    by_cases h : ∃ p ∈ inO, f p.1 = j
    · exact .inl h
    · exact .inr fun p hp e => h ⟨p, hp, e⟩
  have hle : ∀ k o', Y.objs.lookup k = some o' → ∃ o, X.objs.lookup k = some o ∧ ObLe o o' := by
    intro k o' ho
    rcases yCases k with ⟨p, hp, rfl⟩ | hn
    · rw [yIn p hp] at ho
      cases ho
      obtain ⟨o, h1, h2⟩ := hin p hp
      exact ⟨o, h1, h2⟩
    · rw [yOther k hn] at ho
      exact ⟨o', ho, .refl _⟩
  have hkk : ∀ k, (X.objs.lookup k).isSome → (Y.objs.lookup k).isSome := by
    intro k hk
    rcases yCases k with ⟨p, hp, rfl⟩ | hn
    · rw [yIn p hp]; rfl
    · rw [yOther k hn]; exact hk
  have hfree' : ∀ j o, Y.objs.lookup j = some o → (∀ p ∈ imObjs s1o, f p.1 ≠ j) → F = [] ∨ obFree F o = true := by
    intro j o hj hn
    have hn' : ∀ p ∈ s1o, f p.1 ≠ j := fun p hp => hn (p.1, p.2.o) (List.mem_map.2 ⟨p, hp, rfl⟩)
    refine hfree j o ?_ hn'
    rw [← hj, yOther]
    intro p hp e
    have := hc.sub p.1 (by rw [← hnm]; exact List.mem_map_of_mem (f := fun p : Nat × XOb => p.1) hp)
    obtain ⟨q, hq, hqe⟩ := List.mem_map.1 this
    exact hn' q hq (by rw [hqe]; exact e)
  have hlab : LabCall Y ⟨imObjs inO, labs⟩ ⟨imObjs s1o, s1l⟩ f fl F := by
    refine ⟨?_, ?_, ?_, ?_, ?_, ?_, ?_, hfree', ?_, hc.l2, hc.l3, fun n hn => hc.l4 _ (List.mem_map_of_mem hn), hl5⟩
    · intro p hp
      obtain ⟨q, hq, rfl⟩ := im_mem hp
      rw [yIn q hq, XOb.mp_o]
    · simp only [imObjs_names, hnm]
      exact objsNms_im hc.innm
    · simp only [imObjs_names]
      exact objsNms_im hc.outnm
    · have := hc.nd3
      simpa [imObjs, Function.comp_def] using this
    · simp only [imObjs_names, hnm]
      exact hc.nd1
    · intro p hp
      obtain ⟨q, hq, rfl⟩ := im_mem hp
      simp only [imObjs_names, hnm]
      rcases hnew q hq with h | ⟨h1, h2⟩
      · exact .inl h
      · refine .inr ⟨h1, ?_⟩
        rw [yOther]
        · exact h2
        · intro p hp e
          obtain ⟨o, h3, _⟩ := hin p hp
          rw [e, h2] at h3
          cases h3
    · intro p hp
      obtain ⟨q, hq, rfl⟩ := im_mem hp
      simp only [imObjs_names]
      exact hc.sub _ (by rw [← hnm]; exact List.mem_map_of_mem (f := fun p : Nat × XOb => p.1) hq)
    · intro n hn
      exact hl1 _ (List.mem_map_of_mem hn)
  have h1 := opT_weak (H Y hlab) hle hkk rfl
  have same : ∀ j, (putObjsL f fl (imObjs s1o) X.objs).lookup j = (putObjsL f fl (imObjs s1o) Y.objs).lookup j := by
    intro j
    by_cases hj : ∃ p ∈ s1o, f p.1 = j
    · obtain ⟨p, hp, rfl⟩ := hj
      rw [putObjsL_im_mem hc.nd3 hp, putObjsL_im_mem hc.nd3 hp]
    · have hn : ∀ p ∈ s1o, f p.1 ≠ j := fun p hp e => hj ⟨p, hp, e⟩
      rw [putObjsL_im_other hn, putObjsL_im_other hn, yOther j ?_]
      intro p hp e
      have := hc.sub p.1 (by rw [← hnm]; exact List.mem_map_of_mem (f := fun p : Nat × XOb => p.1) hp)
      obtain ⟨q, hq, hqe⟩ := List.mem_map.1 this
      exact hn q hq (by rw [hqe]; exact e)
  intro nm hsm B g w a hr hrd next Q hn
  refine h1 nm hsm B g w a hr hrd next Q fun g' w' v hr' ht hv => hn g' w' v ?_ ht hv
  refine hr_weak hr' (fun k o' ho => ⟨o', ?_, .refl _⟩) (fun k hk => ?_) rfl
  · rw [← same k]; exact ho
  · rw [same k]; exact hk
noncomputable def exactL (live : List Nat) (objs : List (Nat × XOb)) : List Nat → Bool
  | [] => true
  | k :: r => match lk k objs with
    | some (.cells cs _) => cond (noTips live cs) (exactL live objs r) false
    | some (.mapt _ _ _ _ _) => false
    | some _ => exactL live objs r
    | none => false
where noTips (live : List Nat) : List XV → Bool
  | [] => true
  | .d _ :: r => noTips live r
  | .nm _ _ :: r => noTips live r
  | .os _ _ _ _ :: r => noTips live r
  | .tip n _ _ _ :: r => cond (inl n live) (noTips live r) false
  | _ :: _ => false
theorem noTips_cool (live : List Nat) : ∀ {cs : List XV}, exactL.noTips live cs = true → coolL live cs = cs
  | [], _ => rfl
  | .d _ :: r, h => by simp only [coolL, XV.cool, noTips_cool live (cs := r) (by simpa [exactL.noTips] using h)]
  | .nm _ _ :: r, h => by simp only [coolL, XV.cool, noTips_cool live (cs := r) (by simpa [exactL.noTips] using h)]
  | .os _ _ _ _ :: r, h => by simp only [coolL, XV.cool, noTips_cool live (cs := r) (by simpa [exactL.noTips] using h)]
  | .tip n _ _ _ :: r, h => by
    simp only [exactL.noTips] at h
    cases hn : inl n live with
    | true =>
      rw [hn] at h
      simp only [coolL, XV.cool, hn, cond_true, noTips_cool live (cs := r) h]
    | false => simp [hn] at h
  | .tup _ :: _, h => by simp [exactL.noTips] at h
  | .agg _ :: _, h => by simp [exactL.noTips] at h
  | .clo _ _ :: _, h => by simp [exactL.noTips] at h
  | .el _ _ _ _ :: _, h => by simp [exactL.noTips] at h
  | .tpt _ _ _ _ :: _, h => by simp [exactL.noTips] at h
theorem exactL_cool {live : List Nat} {objs : List (Nat × XOb)} : ∀ {l : List Nat}, exactL live objs l = true → ∀ k ∈ l, ∀ o, lk k objs = some o → o.cool live = o
  | [], _ => by simp
  | j :: r, h => by
    intro k hk o ho
    simp only [exactL] at h
    split at h
    · rename_i cs ty hj
      have hr : exactL.noTips live cs = true ∧ exactL live objs r = true := by
        cases hn : exactL.noTips live cs with
        | false => simp [hn] at h
        | true => simp only [hn, cond_true] at h; exact ⟨rfl, h⟩
      rcases List.mem_cons.1 hk with rfl | hk
      · rw [hj] at ho
        cases ho
        simp only [XOb.cool, noTips_cool live hr.1]
      · exact exactL_cool hr.2 k hk o ho
    · cases h
    · rename_i o' hne hne2 hj
      rcases List.mem_cons.1 hk with rfl | hk
      · rw [hj] at ho
        cases ho
        cases o with
        | cells cs ty => exact (hne cs ty rfl).elim
        | mapt L kt vt es c => exact (hne2 L kt vt es c rfl).elim
        | _ => rfl
      · exact exactL_cool h k hk o ho
    · cases h
abbrev RunT := List XV → List XV → List (Nat × XOb) → List Nat → Bool → Option (List XV × List (Nat × XOb) × List Nat × Bool)
def RunOk (P : Program) (id : FuncId) (gids : List Nat) (run : RunT) : Prop :=
  ∀ (xs ys : List XV) (inO : List (Nat × XOb)) (labs : List Nat) (sm : Bool) (rs : List XV) (os : List (Nat × XOb)) (ls : List Nat) (u : Bool), smallL (inO.map (·.1)) = true → run xs ys inO labs sm = some (rs, os, ls, u) →
    DoesH P id (asOf xs) (gids.zip (asOf ys)) ⟨imObjs inO, labs⟩ (tupX rs).a ⟨imObjs os, ls⟩ ∧ (u = true → ∃ no nl, os = inO ++ no ∧ ls = labs ++ nl)
noncomputable def dropN {α : Type} (n : Nat) (l : List α) : List α := Nat.rec (motive := fun _ => List α → List α) (fun l => l) (fun _ ih l => List.rec (motive := fun _ => List α) [] (fun _ r _ => ih r) l) n l
theorem dropN_app {α : Type} : ∀ (a b : List α), dropN (lenR a) (a ++ b) = b
  | [], b => rfl
  | x :: a, b => dropN_app a b
section
variable (run : RunT)
noncomputable def inlGo (lv : List Nat) (o : Oper) (st : XSt) (vs us : List XV) (rd : List XV → List (Operand × XV)) : Option Out :=
  let vs := coolL lv vs
  let ks := closU st.objs 100000 (ksL vs []) []
  let ls := onlyL st.live (lsL st.live vs (lsK ks []))
  let σ := numL 0 ks
  let τ := numL 500 ls
  let f' := nf (swapL σ)
  let fl' := nf (swapL τ)
  match seenO st.live st.objs f' fl' ks ls ks with
  | some inO => match run (mpL f' fl' vs) us inO (τ.map (·.1)) (envFree ls (imEnv st.env)) with
    | some (rs, s1o, s1l, u) =>
      let b := nmBase o * 1000000
      let nw := newN (σ.map (·.1)) b s1o
      let f := nf (σ ++ nw)
      let same := cond u (exactL st.live st.objs ks) false
      let fl := nf (τ ++ swapL (numL (b + 500000) (diffL (τ.map (·.1)) s1l)))
      cond (rtOk f f' ks) (cond (rtOk fl fl' ls) (cond (nmsL ks ls vs) (cond (smallL (inO.map (·.1))) (cond (datL us)
        (cond (iChk (inO.map (·.1)) (τ.map (·.1)) f fl (nw.map (·.2) ++ s1l.map fl) st (mpL f' fl' vs) inO s1o s1l (tupX rs))
          (cond same (match dropN (lenR inO) s1o with
            | q :: no => some ⟨.new ((q :: no).map fun p => (f p.1, p.2.mp f fl)), (tupX rs).mp f fl, rd vs, ((q :: no).map fun p => (f p.1, p.2.mp f fl)) ++ st.objs, liveAfter fl st.X ⟨[], τ.map (·.1)⟩ ⟨[], s1l⟩, nw.map (·.2) ++ s1l.map fl, (q :: no).map fun p => f p.1⟩
            | [] => cond (isNilL s1l) (some ⟨.look ((inO.map (·.1)).map f), (tupX rs).mp f fl, rd vs, st.objs, st.live, [], []⟩)
              (some ⟨.lab, (tupX rs).mp f fl, rd vs, st.objs, liveAfter fl st.X ⟨[], τ.map (·.1)⟩ ⟨[], s1l⟩, nw.map (·.2) ++ s1l.map fl, []⟩))
            (some ⟨.all, (tupX rs).mp f fl, rd vs, putXs f fl s1o st.objs, liveAfter fl st.X ⟨[], τ.map (·.1)⟩ ⟨[], s1l⟩, nw.map (·.2) ++ s1l.map fl, s1o.map fun p => f p.1⟩)) none) none) none) none) none) none
    | none => none
  | none => none
where lsK : List Nat → List Nat → List Nat
  | [], acc => acc
  | k :: r, acc => match lk k st.objs with
    | some ob => lsK r (ob.lbs st.live acc)
    | none => lsK r acc
end
theorem newN_nil {ns : List Nat} {b : Nat} : ∀ {l : List (Nat × XOb)}, (∀ p ∈ l, p.1 ∈ ns) → newN ns b l = []
  | [], _ => rfl
  | p :: r, h => by
    simp only [newN, (inl_eq _ _).2 (h p (by simp)), cond_true]
    exact newN_nil fun q hq => h q (by simp [hq])
theorem nf_cons (a b : Nat) (l : List (Nat × Nat)) (k : Nat) : nf ((a, b) :: l) k = if k = a then b else nf l k := by
  unfold nf
  rw [List.lookup_cons]
  by_cases h : k = a
  · subst h; simp
  · have : (k == a) = false := by simpa using h
    simp [this, h]
theorem swap_num_mem' {k : Nat} : ∀ {l : List Nat} {n : Nat}, k ∈ l → nf (swapL (numL n l)) k ∈ (numL n l).map (·.1)
  | [], n, h => by simp at h
  | j :: r, n, h => by
    simp only [numL, swapL, List.map_cons, List.mem_cons]
    rw [nf_cons]
    by_cases he : k = j
    · rw [if_pos he]; exact .inl rfl
    · rw [if_neg he]
      right
      rcases List.mem_cons.1 h with h | h
      · exact absurd h he
      · exact swap_num_mem' h
theorem swap_num_mem {k : Nat} {l : List Nat} (h : k ∈ l) : nf (swapL (numL 0 l)) k ∈ (numL 0 l).map (·.1) := swap_num_mem' h
theorem seenO_names {live : List Nat} {objs : List (Nat × XOb)} {f' fl' : Nat → Nat} {ks ls : List Nat} : ∀ {l : List Nat} {os : List (Nat × XOb)}, seenO live objs f' fl' ks ls l = some os → ∀ p ∈ os, ∃ k ∈ l, p.1 = f' k
  | [], os, h => by simp [seenO] at h; subst h; simp
  | k :: r, os, h => by
    simp only [seenO] at h
    split at h
    · rename_i o l ho hl'
      obtain ⟨hn, h⟩ := c2 h
      simp only [Option.some.injEq] at h
      subst h
      intro p hp
      rcases List.mem_cons.1 hp with rfl | hp
      · exact ⟨k, by simp, rfl⟩
      · obtain ⟨j, hj, e⟩ := seenO_names hl' p hp
        exact ⟨j, by simp [hj], e⟩
    · cases h
theorem cool_sees {st : XSt} {lv : List Nat} {x : Operand} {v : XV} (h : xeval st x = some v) : Sees st.im x (v.cool lv).a := by
  cases x with
  | tmp t => exact .tmp t _ (xeval_tmp h).1 (lk_has (xeval_tmp h).2 (XV.cool_le _ v))
  | const u =>
    have h' := xeval_sees h
    simp only [xeval, Option.some.injEq] at h
    subst h
    exact h'
  | func f =>
    have h' := xeval_sees h
    simp only [xeval, Option.some.injEq] at h
    subst h
    exact h'
  | global k => exact .glob k _ (lk_has h (XV.cool_le _ v))
theorem coolL_sees {st : XSt} {lv : List Nat} : ∀ {ops : List Operand} {vs : List XV}, xevals st ops = some vs → ∀ p ∈ imRd (ops.zip (coolL lv vs)), Sees st.im p.1 p.2
  | [], vs, h => by simp [imRd]
  | x :: ops, [], h => by have := xevals_len h; simp at this
  | x :: ops, v :: vs, h => by
    obtain ⟨hx, hvs⟩ := xevals_cons h
    intro p hp
    simp only [coolL, List.zip_cons_cons, imRd, List.map_cons, List.mem_cons] at hp
    rcases hp with rfl | hp
    · exact cool_sees hx
    · exact coolL_sees hvs p hp
theorem inlGo_ok {P : Program} {id : FuncId} {run : RunT} {gids : List Nat} (hok : RunOk P id gids run) {lv : List Nat} {o : Oper} {st : XSt} {vs us : List XV} {rd : List XV → List (Operand × XV)} {out : Out}
    (hsee : ∀ p ∈ imRd (rd (coolL lv vs)), Sees st.im p.1 p.2)
    (H : ∀ (f fl : Nat → Nat) (F : List Nat) (xs rs : List XV) (inO s1o : List (Nat × XOb)) (labs s1l : List Nat) (Y : Store), mpL f fl xs = coolL lv vs → datL us = true →
      DoesH P id (asOf xs) (gids.zip (asOf us)) ⟨imObjs inO, labs⟩ (tupX rs).a ⟨imObjs s1o, s1l⟩ → nmsL (inO.map (·.1)) labs xs = true → (tupX rs).nms (s1o.map (·.1)) s1l = true → LabCall Y ⟨imObjs inO, labs⟩ ⟨imObjs s1o, s1l⟩ f fl F →
      OpT P o (imRd (rd (coolL lv vs))) Y ⟨putObjsL f fl (imObjs s1o) Y.objs, liveAfter fl Y ⟨imObjs inO, labs⟩ ⟨imObjs s1o, s1l⟩⟩ F ((tupX rs).mp f fl).a)
    (h : inlGo run lv o st vs us rd = some out) : OpOk P o st out := by
  unfold inlGo at h
  simp only at h
  generalize coolL lv vs = vs' at h H hsee
  generalize hks : closU st.objs 100000 (ksL vs' []) [] = ks at h
  generalize hls : onlyL st.live (lsL st.live vs' (inlGo.lsK st ks [])) = ls at h
  split at h
  rotate_left
  · cases h
  rename_i inO hinO
  split at h
  rotate_left
  · cases h
  rename_i rs s1o s1l u hrun
  generalize hf : nf (numL 0 ks ++ newN ((numL 0 ks).map (·.1)) (nmBase o * 1000000) s1o) = f at h
  generalize hsame : (cond u (exactL st.live st.objs ks) false) = same at h
  generalize hfl : nf (numL 500 ls ++ swapL (numL (nmBase o * 1000000 + 500000) (diffL ((numL 500 ls).map (·.1)) s1l))) = fl at h
  generalize hF : (newN ((numL 0 ks).map (·.1)) (nmBase o * 1000000) s1o).map (·.2) ++ s1l.map fl = F at h
  obtain ⟨h1, h⟩ := c2 h
  obtain ⟨h2, h⟩ := c2 h
  obtain ⟨h3, h⟩ := c2 h
  obtain ⟨h4, h⟩ := c2 h
  obtain ⟨h5, h⟩ := c2 h
  obtain ⟨h6, h⟩ := c2 h
  have r1 := rtOk_spec h1
  have r2 := rtOk_spec h2
  have hc := iChk_spec h6
  obtain ⟨hdoes, hun⟩ := hok _ _ _ _ _ _ _ _ _ h4 hrun
  have hseen := seenO_mem r1 r2 (fun k hk => hk) hinO
  have hxs : mpL f fl (mpL (nf (swapL (numL 0 ks))) (nf (swapL (numL 500 ls))) vs') = vs' := mpL_rt r1 r2 _ h3
  have core : ∀ X : Store, (∀ p ∈ inO, ∃ o', X.objs.lookup (f p.1) = some o' ∧ ObLe o' (p.2.mp f fl).o) →
      (∀ p ∈ s1o, p.1 ∈ inO.map (·.1) ∨ (f p.1 ∈ F ∧ X.objs.lookup (f p.1) = none)) →
      (∀ j o, X.objs.lookup j = some o → (∀ p ∈ s1o, f p.1 ≠ j) → F = [] ∨ obFree F o = true) → (∀ x ∈ ((numL 500 ls).map (·.1)).map fl, x ∈ X.live) → (∀ n ∈ s1l, fl n ∈ X.live → fl n ∈ ((numL 500 ls).map (·.1)).map fl) →
      OpT P o (imRd (rd vs')) X ⟨putObjsL f fl (imObjs s1o) X.objs, liveAfter fl X ⟨imObjs inO, (numL 500 ls).map (·.1)⟩ ⟨imObjs s1o, s1l⟩⟩ F ((tupX rs).mp f fl).a := by
    intro X a1 a2 a3 a4 a5
    exact inl_core hc rfl a1 a2 a3 a4 a5 fun Y hY => H f fl F _ rs inO s1o _ s1l Y hxs h5 hdoes hc.xsn hc.resn hY
  have frees : ∀ j o, st.X.objs.lookup j = some o → (∀ p ∈ s1o, f p.1 ≠ j) → F = [] ∨ obFree F o = true := by
    intro j o hj hn
    have hj' : (imObjs st.objs).lookup j = some o := hj
    rw [im_objs] at hj'
    cases hl : lk j st.objs with
    | none => rw [hl] at hj'; cases hj'
    | some y =>
      rw [hl] at hj'
      simp only [Option.map_some, Option.some.injEq] at hj'
      rw [← hj']
      refine .inr (freeU_spec hc.free hl fun hm => ?_)
      obtain ⟨p, hp, e⟩ := List.mem_map.1 hm
      exact hn p hp e
  cases same with
  | true =>
    simp only [cond_true] at h
    cases u with
    | false => cases hsame
    | true =>
      simp only [cond_true] at hsame
      have hlook : exactL st.live st.objs ks = true := hsame
      obtain ⟨no, nl, e1, e2⟩ := hun rfl
      rw [e1, dropN_app] at h
      have hnos := e1
      split at h
      · rename_i q no
        simp only [Option.some.injEq] at h
        subst h
        refine ⟨hsee, ⟨rfl, ?_⟩, fun j x hj hx => ?_⟩
        · have hks2 : ∀ p ∈ inO, f p.1 ∈ ks := by
            intro p hp
            obtain ⟨k, hk, e⟩ := seenO_names hinO p hp
            rw [e, r1 k hk]; exact hk
          have hlk2 : ∀ p ∈ inO, st.X.objs.lookup (f p.1) = some (p.2.mp f fl).o := by
            intro p hp
            obtain ⟨o', h7, h8⟩ := hseen p hp
            rw [h8, exactL_cool hlook _ (hks2 p hp) o' h7]
            exact lk_imA h7
          have c1 := core st.X (fun p hp => ⟨_, hlk2 p hp, .refl _⟩) (fun p hp => by
            rcases hc.new p hp with h | ⟨h, h'⟩
            · exact .inl h
            · refine .inr ⟨h, ?_⟩
              show (imObjs st.objs).lookup _ = none
              rw [im_objs, h']; rfl) frees hc.l1 hc.l5
          have hnd := hc.nd3
          rw [hnos, List.map_append, List.nodup_append] at hnd
          have hnn : ((imObjs ((q :: no).map fun p => (f p.1, p.2.mp f fl))).map (·.1)).Nodup := by
            rw [imObjs_names]
            simpa [Function.comp_def] using hnd.2.1
          intro nm hsm B g w a hr hrd next Q hn
          refine c1 nm hsm B g w a hr hrd next Q fun g' w' v hr' ht hv => hn g' w' v ?_ ht hv
          have same : ∀ j, (putObjsL f fl (imObjs s1o) st.X.objs).lookup j = (imObjs (((q :: no).map fun p => (f p.1, p.2.mp f fl)) ++ st.objs)).lookup j := by
            intro j
            rw [show imObjs (((q :: no).map fun p => (f p.1, p.2.mp f fl)) ++ st.objs) = imObjs ((q :: no).map fun p => (f p.1, p.2.mp f fl)) ++ imObjs st.objs from List.map_append, List.lookup_append]
            by_cases hj : ∃ p ∈ s1o, f p.1 = j
            · obtain ⟨p, hp, rfl⟩ := hj
              rw [putObjsL_im_mem hc.nd3 hp]
              rw [hnos, List.mem_append] at hp
              rcases hp with hp | hp
              · have hno : (imObjs ((q :: no).map fun p => (f p.1, p.2.mp f fl))).lookup (f p.1) = none := by
                  rw [im_objs]
                  cases hl : lk (f p.1) ((q :: no).map fun p => (f p.1, p.2.mp f fl)) with
                  | none => rfl
                  | some y =>
                    exfalso
                    rw [lk_eq] at hl
                    have h9 := lookup_mem hl
                    obtain ⟨p2, hp2, e⟩ := List.mem_map.1 h9
                    exact hnd.2.2 _ (List.mem_map_of_mem (f := fun p : Nat × XOb => f p.1) hp) _ (List.mem_map_of_mem (f := fun p : Nat × XOb => f p.1) hp2) (congrArg Prod.fst e).symm
                rw [hno]
                simp only [Option.none_or]
                exact (hlk2 p hp).symm
              · have h9 : (f p.1, (p.2.mp f fl).o) ∈ imObjs ((q :: no).map fun p => (f p.1, p.2.mp f fl)) :=
                  List.mem_map_of_mem (f := fun p : Nat × XOb => (p.1, p.2.o)) (List.mem_map_of_mem (f := fun p : Nat × XOb => (f p.1, p.2.mp f fl)) hp)
                rw [lookup_of_mem hnn h9]
                rfl
            · rw [putObjsL_im_other fun p hp e => hj ⟨p, hp, e⟩]
              have hno : (imObjs ((q :: no).map fun p => (f p.1, p.2.mp f fl))).lookup j = none := by
                rw [im_objs]
                cases hl : lk j ((q :: no).map fun p => (f p.1, p.2.mp f fl)) with
                | none => rfl
                | some y =>
                  exfalso
                  rw [lk_eq] at hl
                  have h9 := lookup_mem hl
                  obtain ⟨p2, hp2, e⟩ := List.mem_map.1 h9
                  exact hj ⟨p2, by rw [hnos]; exact List.mem_append_right _ hp2, congrArg Prod.fst e⟩
              rw [hno]
              rfl
          refine hr_weak hr' (fun k o' ho => ⟨o', ?_, .refl _⟩) (fun k hk => ?_) rfl
          · rw [same k]; exact ho
          · exact (congrArg Option.isSome (same k)).symm.trans hk
        · rw [lk_append] at hx
          split at hx
          · rename_i y hl
            exfalso
            rw [lk_eq] at hl
            have h9 := lookup_mem hl
            obtain ⟨p2, hp2, e⟩ := List.mem_map.1 h9
            exact hj (List.mem_map.2 ⟨p2, hp2, congrArg Prod.fst e⟩)
          · exact hx
      rw [List.append_nil] at e1
      clear hnos
      subst e1
      have hks' : ∀ p ∈ s1o, f p.1 ∈ ks := by
        intro p hp
        obtain ⟨k, hk, e⟩ := seenO_names hinO p hp
        rw [e, r1 k hk]; exact hk
      have hlk0 : ∀ p ∈ s1o, (imObjs st.objs).lookup (f p.1) = some (p.2.mp f fl).o := by
        intro p hp
        obtain ⟨o', h7, h8⟩ := hseen p hp
        rw [h8, exactL_cool hlook _ (hks' p hp) o' h7]
        exact lk_imA h7
      have fin : ∀ X : Store, (∀ p ∈ s1o, X.objs.lookup (f p.1) = some (p.2.mp f fl).o) → ∀ L F,
          OpT P o (imRd (rd vs')) X ⟨putObjsL f fl (imObjs s1o) X.objs, L⟩ F ((tupX rs).mp f fl).a → OpT P o (imRd (rd vs')) X ⟨X.objs, L⟩ F ((tupX rs).mp f fl).a := by
        intro X hlk L F c1 nm hsm B g w a hr hrd next Q hn
        refine c1 nm hsm B g w a hr hrd next Q fun g' w' v hr' ht hv => hn g' w' v ?_ ht hv
        have same : ∀ j, (putObjsL f fl (imObjs s1o) X.objs).lookup j = X.objs.lookup j := by
          intro j
          by_cases hj : ∃ p ∈ s1o, f p.1 = j
          · obtain ⟨p, hp, rfl⟩ := hj
            rw [putObjsL_im_mem hc.nd3 hp, hlk p hp]
          · exact putObjsL_im_other fun p hp e => hj ⟨p, hp, e⟩
        refine hr_weak hr' (fun k o' ho => ⟨o', ?_, .refl _⟩) (fun k hk => ?_) rfl
        · rw [same k]; exact ho
        · rw [← same k]; exact hk
      cases hnl : isNilL s1l with
      | true =>
        rw [hnl] at h
        simp only [cond_true, Option.some.injEq] at h
        subst h
        have e3 := isNilL_eq hnl
        rw [e3] at e2
        have e4 : (numL 500 ls).map (·.1) = [] := (List.append_eq_nil_iff.1 e2.symm).1
        rw [e3] at hF
        rw [e3, e4] at core
        have hF0 : F = [] := by
          rw [← hF]
          have : newN ((numL 0 ks).map (·.1)) (nmBase o * 1000000) s1o = [] := by
            refine newN_nil fun p hp => ?_
            rcases hc.new p hp with _ | ⟨h8, h9⟩
            · obtain ⟨k, hk, e⟩ := seenO_names hinO p hp
              rw [e]
              exact swap_num_mem hk
            · exfalso
              obtain ⟨o', h10, _⟩ := hseen p hp
              rw [h10] at h9; cases h9
          rw [this]; rfl
        subst hF0
        refine ⟨hsee, ⟨rfl, rfl, rfl, fun X hX => ?_⟩, fun _ _ _ h => h⟩
        have hlk : ∀ p ∈ s1o, X.objs.lookup (f p.1) = some (p.2.mp f fl).o := by
          intro p hp
          rw [hX _ (List.mem_map.2 ⟨p.1, List.mem_map_of_mem (f := fun p : Nat × XOb => p.1) hp, rfl⟩)]
          exact hlk0 p hp
        have c1 := core X (fun p hp => ⟨_, hlk p hp, .refl _⟩) (fun p hp => .inl (List.mem_map_of_mem (f := fun p : Nat × XOb => p.1) hp)) (fun _ _ _ _ => .inl rfl) (by simp) (by simp)
        have hlv : liveAfter fl X ⟨imObjs s1o, []⟩ ⟨imObjs s1o, []⟩ = X.live := by
          unfold liveAfter; simp
        rw [hlv] at c1
        exact fin X hlk _ _ c1
      | false =>
        rw [hnl] at h
        simp only [cond_false, Option.some.injEq] at h
        subst h
        refine ⟨hsee, ⟨rfl, ?_⟩, fun _ _ _ h => h⟩
        have c1 := core st.X (fun p hp => ⟨_, hlk0 p hp, .refl _⟩) (fun p hp => .inl (List.mem_map_of_mem (f := fun p : Nat × XOb => p.1) hp)) frees hc.l1 hc.l5
        exact fin st.X hlk0 _ _ c1
  | false =>
    simp only [cond_false, Option.some.injEq] at h
    subst h
    refine ⟨hsee, ?_, fun j x hj hx => ?_⟩
    · have c1 := core st.X (fun p hp => by
          obtain ⟨o', h7, h8⟩ := hseen p hp
          rw [h8]
          exact ⟨o'.o, lk_imA h7, XOb.cool_le _ _⟩) (fun p hp => by
          rcases hc.new p hp with h | ⟨h, h'⟩
          · exact .inl h
          · refine .inr ⟨h, ?_⟩
            show (imObjs st.objs).lookup _ = none
            rw [im_objs, h']; rfl) frees hc.l1 hc.l5
      have e1 : imObjs (putXs f fl s1o st.objs) = putObjsL f fl (imObjs s1o) st.X.objs := putXs_im _ _ _ _
      show OpT P o (imRd (rd vs')) st.X ⟨imObjs (putXs f fl s1o st.objs), _⟩ _ _
      rw [e1]
      exact c1
    · rw [putXs_other] at hx
      · exact hx
      · intro p hp e
        exact hj (List.mem_map.2 ⟨p, hp, e⟩)
noncomputable def plainR : XV → Bool
  | .d (.sl _ _) => false
  | .d (.agg _) => false
  | .d (.ag _ _) => false
  | .d (.ep _) => false
  | .d _ => true
  | .nm _ _ => true
  | .tip _ _ _ _ => true
  | .tup l => go l
  | _ => false
where go : List XV → Bool
  | [] => true
  | .d (.sl _ _) :: _ => false
  | .d (.agg _) :: _ => false
  | .d (.ag _ _) :: _ => false
  | .d (.ep _) :: _ => false
  | .d _ :: r => go r
  | .nm _ _ :: r => go r
  | .tip _ _ _ _ :: r => go r
  | _ :: _ => false
noncomputable def coldOk (out : Out) : Bool :=
  match out.eff with
  | .look _ => plainR out.res
  | .lab => plainR out.res
  | _ => false
def quietE (out : Out) : Bool :=
  match out.eff with
  | .look _ => true
  | .lab => true
  | _ => false
noncomputable def inlGoE (hot : Nat) (run : RunT) (o : Oper) (st : XSt) (vs us : List XV) (rd : List XV → List (Operand × XV)) : Option Out :=
  bsel (isNilL (lsL st.live vs [])) (inlGo run st.live o st vs us rd)
    (bsel (Nat.beq hot 1) (inlGo run st.live o st vs us rd)
    (match inlGo run [] o st vs us rd with
    | some out => bsel (bsel (Nat.ble 2 hot) (quietE out) (coldOk out)) (some out) (inlGo run st.live o st vs us rd)
    | none => inlGo run st.live o st vs us rd))
theorem inlGoE_or {hot : Nat} {run : RunT} {o : Oper} {st : XSt} {vs us : List XV} {rd : List XV → List (Operand × XV)} {out : Out} (h : inlGoE hot run o st vs us rd = some out) : ∃ lv, inlGo run lv o st vs us rd = some out := by
  have sel : ∀ {c : Bool} {x y : Option Out}, bsel c x y = some out → x = some out ∨ y = some out := by
    intro c x y h
    cases c with
    | true => exact .inl h
    | false => exact .inr h
  unfold inlGoE at h
  rcases sel h with h | h
  · exact ⟨_, h⟩
  rcases sel h with h | h
  · exact ⟨_, h⟩
  split at h
  · rename_i out' ho
    rcases sel h with h | h
    · exact ⟨_, ho.trans h⟩
    · exact ⟨_, h⟩
  · exact ⟨_, h⟩
theorem op_call_cloG_lab {P : Program} {X : Store} {o : Oper} {fn : FuncId} {c : Operand} {args : Array Operand} {ts : Array TypeId} {gids : List Nat} {xs caps ys : List AV} {res : AV} {Xc Xc' : Store} (f fl : Nat → Nat) (F : List Nat)
    (ho : o.op = .call { callee := .value c, args := args, argTypes := ts }) (hf : CallI P fn) (hs : DoesH P fn (xs ++ caps) (gids.zip ys) Xc res Xc') (hc : LabCall X Xc Xc' f fl F)
    (hl : xs.length = args.size) (hd : namesLs (Xc.objs.map (·.1)) Xc.live (xs ++ caps) = true) (hy : areData ys = true) (hdr : namesL (Xc'.objs.map (·.1)) Xc'.live res = true) :
    OpT P o ((c, .clo fn (mapLs f fl caps)) :: (args.toList.zip (mapLs f fl xs) ++ (gids.map Operand.global).zip ys)) X ⟨putObjsL f fl Xc'.objs X.objs, liveAfter fl X Xc Xc'⟩ F (mapL f fl res) := by
  intro nm hsm B g w a hr hrd next Q hn
  have e1 := rd0 hrd
  simp only at e1
  unfold Oper.wp
  generalize hcv : a.eval c = vc at e1
  cases e1 with
  | clo _ _ vs hlen hvs =>
    have : (execOp a.eval o).run P w = .ok (.enter fn (args.map a.eval ++ vs)) w := by
      simp only [execOp, ho, resolve]
      simp [hcv, Deferred.ofValue, invoke, run_callFunc hf]
    rw [this]
    have hm : ∀ l m : List AV, mapLs f fl (l ++ m) = mapLs f fl l ++ mapLs f fl m := fun l m => by rw [mapLs_eq, mapLs_eq, mapLs_eq, List.map_append]
    have hml : (mapLs f fl xs).length = args.size := by rw [mapLs_eq, List.length_map, hl]
    have hmc : caps.length = vs.size := by rw [mapLs_eq, List.length_map] at hlen; exact hlen
    have hG : GH g w (gids.zip ys) := by
      intro p hp
      have h1 : (Operand.global p.1, p.2) ∈ (gids.map Operand.global).zip ys := by
        rw [List.zip_map_left, List.mem_map]
        exact ⟨p, hp, rfl⟩
      exact hrd _ (List.mem_cons_of_mem _ (List.mem_append_right _ h1))
    refine (hs.useLab (areData_zip _ hy) hc hd hdr hr hG (vs := args.map a.eval ++ vs) (by simp [hl, hmc]) ?_).mono ?_
    · intro i x v hx hv
      rw [hm, List.getElem?_append] at hx
      split at hx
      · rename_i hlt
        rw [Array.getElem?_append_left (by simp; omega)] at hv
        exact rds_args (fun p hp => hrd p (List.mem_cons_of_mem _ (List.mem_append_left _ hp))) i x v hx hv
      · rename_i hge
        rw [Array.getElem?_append_right (by simp; omega)] at hv
        refine hvs _ x v hx ?_
        rw [hml]; simpa using hv
    · rintro e w' ⟨v, g', rfl, h1, h2, h3⟩
      exact hn g' w' v h1 h2 h3
noncomputable def inlRun (hot : Nat) (run : RunT) (gids : List Nat) {R : Type} (o : Oper) (st : XSt) (vs : List XV) (K : Out → Option R) : Option R :=
  match xevals st (gops gids) with
  | some us => match inlGoE hot run o st vs us (fun ms => (callArgs o).zip ms ++ (gops gids).zip us) with
    | some out => K out
    | none => none
  | none => none
noncomputable def inlRunC (id : FuncId) (hot : Nat) (run : RunT) (gids : List Nat) {R : Type} (o : Oper) (st : XSt) (caps vs : List XV) (K : Out → Option R) : Option R :=
  match xevals st (gops gids) with
  | some us => match inlGoE hot run o st (vs ++ caps) us (fun ms => (calleeOp o, .clo id (ms.drop vs.length)) :: ((callArgs o).zip (ms.take vs.length) ++ (gops gids).zip us)) with
    | some out => K out
    | none => none
  | none => none
theorem inlRun_ok {P : Program} {id : FuncId} {hot : Nat} {run : RunT} {gids : List Nat} {R : Type} (hf : CallI P id) (hok : RunOk P id gids run) {o : Oper} {st : XSt} {aops : Array Operand} {ts : Array TypeId} {vs : List XV} {K : Out → Option R} {r : R}
    (ho : o.op = .call { callee := .value (.func id), args := aops, argTypes := ts }) (hv : xevals st aops.toList = some vs) (h : inlRun hot run gids o st vs K = some r) : ∃ out, K out = some r ∧ OpOk P o st out := by
  have e : callArgs o = aops.toList := by simp [callArgs, ho]
  unfold inlRun at h
  split at h
  rotate_left
  · cases h
  rename_i us hus
  split at h
  rotate_left
  · cases h
  rename_i out hout
  obtain ⟨lv, hout⟩ := inlGoE_or hout
  refine ⟨out, h, inlGo_ok (lv := lv) hok ?_ ?_ hout⟩
  · intro p hp
    rw [e, imRd_append, List.mem_append] at hp
    rcases hp with hp | hp
    · exact coolL_sees hv p hp
    · exact xevals_sees hus p hp
  · intro f fl F xs rs inO s1o labs s1l Y hxs hdat hd hx hr hlab
    have hlen : xs.length = aops.size := by
      have h1 := congrArg List.length hxs
      have h2 := xevals_len hv
      rw [mpL_map, List.length_map] at h1
      have h3 : ∀ l : List XV, (coolL lv l).length = l.length := by
        intro l
        induction l with
        | nil => rfl
        | cons x r ih => simp [coolL, ih]
      rw [h3] at h1
      rw [h1, h2]; simp
    have := op_call_f_lab (X := Y) (gids := gids) (ys := asOf us) f fl F ho hf hd hlab (by rw [asOf_length, hlen]) (by
        simp only [imObjs_names]
        exact nmsL_a hx) (datL_areData hdat) (by
        simp only [imObjs_names]
        exact XV.nms_a hr)
    rw [e, imRd_append, imRd_zip, imRd_zip, gops_map, ← hxs, mpL_a]
    rw [← XV.mp_a] at this
    exact this
theorem inlRunC_ok {P : Program} {id : FuncId} {hot : Nat} {run : RunT} {gids : List Nat} {R : Type} (hf : CallI P id) (hok : RunOk P id gids run) {o : Oper} {st : XSt} {t : Tmp} {aops : Array Operand} {ts : Array TypeId} {caps vs : List XV} {K : Out → Option R} {r : R}
    (ho : o.op = .call { callee := .value (.tmp t), args := aops, argTypes := ts }) (hclo : xeval st (.tmp t) = some (.clo id caps)) (hv : xevals st aops.toList = some vs) (h : inlRunC id hot run gids o st caps vs K = some r) : ∃ out, K out = some r ∧ OpOk P o st out := by
  have e : callArgs o = aops.toList := by simp [callArgs, ho]
  have e2 : calleeOp o = .tmp t := by simp [calleeOp, ho]
  unfold inlRunC at h
  split at h
  rotate_left
  · cases h
  rename_i us hus
  split at h
  rotate_left
  · cases h
  rename_i out hout
  obtain ⟨lv, hout⟩ := inlGoE_or hout
  have h3 : ∀ l : List XV, (coolL lv l).length = l.length := by
    intro l
    induction l with
    | nil => rfl
    | cons x r ih => simp [coolL, ih]
  have h4 : ∀ a b : List XV, coolL lv (a ++ b) = coolL lv a ++ coolL lv b := by
    intro a b
    induction a with
    | nil => rfl
    | cons x r ih => simp [coolL, ih]
  have ht : (coolL lv (vs ++ caps)).take vs.length = coolL lv vs := by
    rw [h4, List.take_left' (h3 vs)]
  have hd' : (coolL lv (vs ++ caps)).drop vs.length = coolL lv caps := by
    rw [h4, List.drop_left' (h3 vs)]
  refine ⟨out, h, inlGo_ok (lv := lv) hok ?_ ?_ hout⟩
  · intro p hp
    rw [e, e2, ht, hd'] at hp
    simp only [imRd, List.map_cons, List.map_append, List.mem_cons, List.mem_append] at hp
    rcases hp with rfl | hp | hp
    · exact cool_sees (x := .tmp t) hclo
    · exact coolL_sees hv p hp
    · exact xevals_sees hus p hp
  · intro f fl F xs rs inO s1o labs s1l Y hxs hdat hd hx hr hlab
    have hxl : xs.length = vs.length + caps.length := by
      have h1 := congrArg List.length hxs
      rw [mpL_map, List.length_map, h3, List.length_append] at h1
      exact h1
    obtain ⟨xa, xc, rfl, hla⟩ : ∃ xa xc, xs = xa ++ xc ∧ xa.length = vs.length := ⟨xs.take vs.length, xs.drop vs.length, (List.take_append_drop _ _).symm, by rw [List.length_take]; omega⟩
    rw [mpL_append, h4] at hxs
    have hla' : (mpL f fl xa).length = (coolL lv vs).length := by rw [mpL_map, List.length_map, h3, hla]
    obtain ⟨ea, ec⟩ := List.append_inj hxs hla'
    rw [asOf_append] at hd
    have := op_call_cloG_lab (X := Y) (gids := gids) (ys := asOf us) f fl F ho hf hd hlab (by
        have h2 := xevals_len hv
        rw [asOf_length, hla, h2]; simp) (by
        simp only [imObjs_names]
        have := nmsL_a hx
        rw [asOf_append] at this
        exact this) (datL_areData hdat) (by
        simp only [imObjs_names]
        exact XV.nms_a hr)
    rw [ht, hd', e, e2]
    rw [← mpL_a, ← mpL_a, ea, ec, ← XV.mp_a, ← imRd_zip, ← gops_map, ← imRd_zip, ← imRd_append] at this
    exact this
noncomputable def mkRun {P : Program} (id : FuncId) (hf : CallI P id) (hot : Nat) (gids : List Nat) (run : RunT) (hok : RunOk P id gids run) : Ent P where
  id := id
  run := inlRun hot run gids
  ok := by
    intro R o st aops ts vs K r ho hv h
    exact inlRun_ok hf hok ho hv h
  crun := inlRunC id hot run gids
  cok := by
    intro R o st t caps aops ts vs K r ho hclo hv h
    exact inlRunC_ok hf hok ho hclo hv h
theorem runI_ok {P : Program} (hm : P.follows .mixedOrders = true) (Γ : List (Ent P)) (gids : List Nat) (N : Nat) (fi : FI P) : RunOk P fi.id gids (runI P Γ fi N gids) :=
  fun _ _ _ _ _ _ _ _ _ hsm h => runI_sound hm hsm h
noncomputable def mkInl {P : Program} (hm : P.follows .mixedOrders = true) (Γ : List (Ent P)) (gids : List Nat) (N : Nat) (fi : FI P) : Ent P :=
  mkRun fi.id fi.hc fi.hot gids (runI P Γ fi N gids) (runI_ok hm Γ gids N fi)
noncomputable def altEnt {P : Program} (a b : Ent P) (h : b.id = a.id) : Ent P where
  id := a.id
  run := fun o st vs K => orE (a.run o st vs K) (b.run o st vs K)
  ok := by
    intro R o st aops ts vs K r ho hv hr
    rcases orE_or hr with hr | hr
    · exact a.ok o st aops ts vs K r ho hv hr
    · exact b.ok o st aops ts vs K r (by rw [h]; exact ho) hv hr
noncomputable def inlE {P : Program} (hm : P.follows .mixedOrders = true) (base : List (Ent P)) (gids : List Nat) (N : Nat) (tb : Nat → FI P) (cs : Nat → List Nat) : Nat → Nat → List (Ent P)
  | 0, _ => base
  | n + 1, f => (cs f).map (fun k => mkInl hm (inlE hm base gids N tb cs n k) gids N (tb k)) ++ base
end Go.Xl
set_option linter.unusedVariables false
set_option linter.unusedSimpArgs false
set_option linter.unnecessarySimpa false
namespace Go.Xl
open Go.Ab
inductive AK where
  | d (t : Ty)
  | c (f : Nat)
@[reducible] noncomputable def FunA : List AK → Type → Type
  | [], R => R
  | .d t :: r, R => t.T → FunA r R
  | .c _ :: r, R => FunA r R
inductive RK where
  | d (t : Ty)
  | s
@[reducible] noncomputable def RK.T : RK → Type
  | .d t => t.T
  | .s => Nat
noncomputable def RK.val (k : Nat) (t : Ty) : (r : RK) → r.T → XV
  | .d u, x => .d (u.xv x)
  | .s, n => .os k t 0 n
noncomputable def osLen (t : Ty) : XV → Option Nat
  | .os k t' a n => cond (Nat.beq k 1) (cond (t'.eqb t) (cond (Nat.beq a 0) (some n) none) none) none
  | _ => none
noncomputable def RK.dec (t : Ty) : (r : RK) → XV → Option r.T
  | .d u, x => decXV u x
  | .s, x => osLen t x
theorem AsLe.tupX {a b : List XV} (hl : AsLe (asOf a) (asOf b)) : ALe (Xl.tupX a).a (Xl.tupX b).a := by
  rw [tupX_a, tupX_a]
  generalize asOf a = a at hl
  generalize asOf b = b at hl
  cases hl with
  | nil => exact .refl _
  | cons h1 h2 =>
    cases h2 with
    | nil => exact h1
    | cons h3 h4 => exact (AsLe.cons h1 (.cons h3 h4)).tup
noncomputable def O1 (t : Ty) (l : List t.T) : Store := ⟨[(1, (XOb.arr t l).o)], []⟩
noncomputable def SndA {β : Type} (Q : β → List XV → Prop) : (ks : List AK) → FunA ks (Option β) → List XV → Prop
  | [], F, acc => ∀ y, F = some y → Q y acc
  | .d u :: r, F, acc => ∀ x : u.T, SndA Q r (F x) (acc ++ [.d (u.xv x)])
  | .c g :: r, F, acc => SndA Q r F (acc ++ [.clo g []])
@[reducible] noncomputable def RK.ty (t : Ty) : RK → Ty
  | .d u => u
  | .s => .sl t
end Go.Xl
set_option linter.unusedVariables false
set_option linter.unusedSimpArgs false
set_option linter.unnecessarySimpa false
namespace Go.Xl
open Go.Ab
noncomputable def finN (P : Program) (fn : Func) (t : Ty) (s : XSt) : Option (Option (List t.T × Nat)) :=
  match xres P s fn.results.toList with
  | some [.os k t' a n] => match lk k s.objs with
    | some (.arr u l) => if h : u.eqb t = true then cond (t'.eqb t) (cond (Nat.beq a 0) (cond (Nat.ble 1000 k) (some (some ((Ty.eqb_eq h ▸ l : List t.T), n))) none) none) none else none
    | _ => none
  | some [x] => match decXV (.sl t) x with
    | some l => listCase l (some none) fun _ _ => none
    | none => none
  | _ => none
noncomputable def finishN (P : Program) (fn : Func) (t : Ty) : Exit → XSt → Option (Option (List t.T × Nat))
  | .ret, s => finN P fn t s
  | .normal, s => finN P fn t s
  | _, _ => none
noncomputable def runBN (P : Program) (Γ : List (Ent P)) (own : List Nat) (N : Nat) (fn : Func) (an : An) (t : Ty) (xs : List XV) : Option (Option (List t.T × Nat)) :=
  match fn.body with
  | some c => cond (Nat.ble fn.ntmps GB) (exec P Γ own [] fn.ntmps N c an ⟨envX 0 xs, [], [], [], []⟩ (finishN P fn t)) none
  | none => none
noncomputable def NewS (P : Program) (f : FuncId) (t : Ty) (y : Option (List t.T × Nat)) (xs : List XV) : Prop :=
  match y with
  | none => Does P f (asOf xs) X0 (.d (.sl t.size [])) X0
  | some z => Does P f (asOf xs) X0 (.osl 1 0 z.2 t.size) (O1 t z.1)
theorem does_of_fin {P : Program} {R : Type} {f : FuncId} {fn : Func} {c : Code} {nm : List Nat} {hsm : ∀ j ∈ nm, j < 1000} {xs : List XV} {objs : List (Nat × XOb)} {s0 : XSt} {K : Exit → XSt → Option R} {r : R} {res : AV} {X' : Store}
    (hf : P.funcs[f]? = some fn) (hc : fn.body = some c) (hn : xs.length ≤ fn.ntmps) (hG : fn.ntmps ≤ GB) (hnm : (imObjs objs).map (·.1) = nm) (hs : AWp P ⟨fn.ntmps, nm, hsm⟩ c (PostE s0 K r) (XSt.im ⟨envX 0 xs, objs, [], [], []⟩))
    (hend : ∀ e st', K e st' = some r → e = .ret ∨ e = .normal)
    (fin : ∀ B e st' a' w' g', K e st' = some r → SR ⟨fn.ntmps, nm, hsm⟩ B g' w' st'.im a' → ∃ v g'', (results fn a'.tmps).run P w' = .ok v w' ∧ RA g'' w' res v ∧ HR nm B g'' w' X') :
    Does P f (asOf xs) ⟨imObjs objs, []⟩ res X' := by
  subst hnm
  intro g w vs hr hl ha
  refine calls_of_wp hf hc (wp_mono (hs (Base.of g w ⟨imObjs objs, []⟩) g w _ ?_) ?_)
  · refine ⟨rfl, ?_, hr, ?_⟩
    · rw [asOf_length] at hl
      simp; omega
    · intro t x hx
      have hx' : (envOf 0 (asOf xs)).lookup t = some x := by rw [← envX_im]; exact hx
      obtain ⟨_, hx'⟩ := envOf_lookup hx'
      rw [Nat.sub_zero] at hx'
      have hlt : t < vs.size := by have := (List.getElem?_eq_some_iff.1 hx').1; omega
      refine ⟨vs[t], ?_, ha t x _ hx' (by simp [hlt])⟩
      rw [asOf_length] at hl
      rw [slotV_tmp (by omega)]
      simp [Array.getElem?_append, hlt]
  · rintro e a' w' ⟨s, g', ⟨st', rfl, hi, hk⟩, hs'⟩
    obtain ⟨v, g'', h1, h2, h3⟩ := fin _ e st' a' w' g' hk hs'
    have key : a'.defers = [] ∧ ∃ v, (results fn a'.tmps).run P w' = .ok v w' ∧ ∃ g' v_1, Ending.returned v = Ending.returned v_1 ∧ RA g' w' res v_1 ∧ HR ((imObjs objs).map (·.1)) (Base.of g w ⟨imObjs objs, []⟩) g' w' X' :=
      ⟨hs'.defers, v, h1, g'', v, rfl, h2, h3⟩
    rcases hend e st' hk with rfl | rfl
    · exact key
    · exact key
theorem runBN_sound {P : Program} {Γ : List (Ent P)} {own : List Nat} {N : Nat} {f : FuncId} {fn : Func} {an : An} {t : Ty} {xs : List XV} {y : Option (List t.T × Nat)} (hm : P.follows .mixedOrders = true) (hf : P.funcs[f]? = some fn)
    (hn : Nat.ble xs.length fn.ntmps = true) (h : runBN P Γ own N fn an t xs = some y) : NewS P f t y xs := by
  unfold runBN at h
  split at h
  · rename_i c hc
    obtain ⟨hG, h⟩ := condG h
    have hs := exec_sound (S := ⟨fn.ntmps, [], by simp⟩) hm rfl c an _ _ _ _ (.refl _) h
    have hend : ∀ e st', finishN P fn t e st' = some y → e = .ret ∨ e = .normal := by
      intro e st' hk
      cases e <;> simp_all [finishN]
    have hkey : ∀ e st', finishN P fn t e st' = some y → finN P fn t st' = some y := by
      intro e st' hk
      cases e <;> simp_all [finishN]
    cases y with
    | none =>
      refine does_of_fin (objs := []) (hsm := by simp [imObjs]) hf hc (Nat.le_of_ble_eq_true hn) hG rfl hs hend fun B e st' a' w' g' hk hs' => ?_
      have h := hkey e st' hk
      unfold finN at h
      split at h
      · split at h
        · split at h
          · rename_i k t' a n _ _ _ _ _ _
            cases h2 : t'.eqb t <;> cases h3 : Nat.beq a 0 <;> cases h4 : Nat.ble 1000 k <;> simp [h2, h3, h4] at h
          · cases h
        · cases h
      · rename_i x _ hx
        split at h
        · rename_i l hd
          cases l with
          | cons _ _ => simp [listCase] at h
          | nil =>
          obtain ⟨v, hv, hra⟩ := run_results (xres_ok hx) hs'
          have hw : Weak [] st'.im ⟨[], X0⟩ := ⟨by simp, by simp [X0], by simp [X0], by simp⟩
          obtain ⟨g'', ht, hs''⟩ := hs'.weaken' hw
          have hra' := hra.mono ht (.nil _)
          exact ⟨v, g'', hv, decXV_le hd g'' w' v hra', hs''.hr⟩
        · cases h
      · cases h
    | some z =>
      refine does_of_fin (objs := []) (hsm := by simp [imObjs]) hf hc (Nat.le_of_ble_eq_true hn) hG rfl hs hend fun B e st' a' w' g' hk hs' => ?_
      have h := hkey e st' hk
      unfold finN at h
      split at h
      · rename_i k t' a n hx
        split at h
        · rename_i u l hkl
          split at h
          · rename_i hu
            have := Ty.eqb_eq hu
            subst this
            cases h2 : t'.eqb u with
            | false => simp [h2] at h
            | true =>
            cases h3 : Nat.beq a 0 with
            | false => simp [h2, h3] at h
            | true =>
            cases h4 : Nat.ble 1000 k with
            | false => simp [h2, h3, h4] at h
            | true =>
              simp only [h2, h3, h4, cond_true, Option.some.injEq] at h
              subst h
              have e1 := Ty.eqb_eq h2
              have e2 := Nat.eq_of_beq_eq_true h3
              have e3 := Nat.le_of_ble_eq_true h4
              subst e1; subst e2
              obtain ⟨v, hv, hra⟩ := run_results (xres_ok hx) hs'
              have hw : Weak [] st'.im ⟨[], ⟨[(k, (XOb.arr t' l).o)], []⟩⟩ := ⟨by simp, by
                intro p hp
                simp only [List.mem_singleton] at hp
                subst hp
                exact lk_imA hkl, by simp, by simp⟩
              obtain ⟨g'', ht, hs''⟩ := hs'.weaken' hw
              have hra' := hra.mono ht (.nil _)
              obtain ⟨hr2, ht2⟩ := hs''.hr.renameObj (k := k) (m := 1) (o := (XOb.arr t' l).o) (by simp [imObjs]) (by simp [imObjs]) (by
                have := arr_free [1] t' l
                simp [objsFree, this]) (by simp) (by omega)
              refine ⟨v, _, hv, ?_, hr2.alike ⟨fun j => ?_, rfl⟩⟩
              · refine RA.osl_name (g := g'') (k := k) ?_ (show upd g''.ρ 1 (g''.ρ k) 1 = g''.ρ k from upd_same _ _ _)
                simp only [asOf, tupled, XV.a, Nat.zero_mul] at hra'
                exact hra'
              · simp only [O1, List.lookup_cons, Ab.dropObj]
                by_cases hj : j = 1
                · subst hj; simp
                · simp [hj]
          · cases h
        · cases h
      · split at h
        · rename_i l _
          cases l <;> simp [listCase] at h
        · cases h
      · cases h
  · cases h
theorem OpT.drop {P : Program} {o : Oper} {rd : List (Operand × AV)} {X X' : Store} {F : List Nat} {res : AV} {m : Nat} (h : OpT P o rd (Ab.dropObj m X) X' F res) (hm : 1000 ≤ m) : OpT P o rd X X' F res := by
  intro nm hsm B g w a hr hrd
  exact h nm hsm B g w a (hr.dropObj fun hh => by have := hsm m hh; omega) hrd
end Go.Xl
set_option linter.unusedVariables false
set_option linter.unusedSimpArgs false
namespace Go.Xl
open Go.Ab
noncomputable def cloneF (t : Ty) (bytes : Nat) (l : List t.T) : Option (Option (List t.T × Nat)) :=
  listCase l (some none) fun y r => cond (fitsB (y :: r).length bytes) (some (some (y :: r, (y :: r).length))) none
theorem NewS.empty {P : Program} {f : FuncId} {t : Ty} {xs : List XV} (h : NewS P f t (some ([], 0)) xs) : NewS P f t none xs := by
  intro g w vs hr hl ha
  refine (h g w vs hr hl ha).mono ?_
  rintro e w' ⟨g', v, rfl, h1, h2⟩
  refine ⟨g', v, rfl, ?_, ?_⟩
  · obtain ⟨cap, o, _, hv, _⟩ := RA.osl_inv h1
    rw [hv]
    exact .d _ _ (.nil _ _ _ (by simp))
  · refine (h2.dropObj (k := 1) (by simp [X0])).alike ⟨fun j => ?_, rfl⟩
    simp only [O1, Ab.dropObj, X0]
    by_cases hj : j = 1
    · subst hj; rfl
    · rfl
theorem clone_sound {P : Program} {own : List Nat} {N : Nat} {f : FuncId} {fn : Func} {an : An} {t : Ty} {bytes : Nat} (hm : P.follows .mixedOrders = true) (hf : P.funcs[f]? = some fn) (hn : Nat.ble 1 fn.ntmps = true)
    (h1 : ∀ y r, runBN P [] own N fn an t [.d (.sl t (y :: r))] = cond (fitsB (0 + (y :: r).length) bytes) (some (some ([] ++ y :: r, 0 + (y :: r).length))) none)
    (h2 : runBN P [] own N fn an t [.d (.v (.slice none 0 0))] = some none) (h3 : ∀ a cap, runBN P [] own N fn an t [.d (.v (.slice (some a) 0 cap))] = some (some ([], 0))) :
    SndA (NewS P f t) [.d (.sl t)] (cloneF t bytes) [] := by
  intro l y hy
  cases l with
  | cons x r =>
    simp only [cloneF, listCase] at hy
    have h1' := h1 x r
    rw [Nat.zero_add, List.nil_append] at h1'
    rw [← h1'] at hy
    exact runBN_sound hm hf hn hy
  | nil =>
    simp only [cloneF, listCase, Option.some.injEq] at hy
    subst hy
    have k2 := runBN_sound (xs := [.d (.v (.slice none 0 0))]) hm hf hn h2
    have k3 := fun a cap => (runBN_sound (xs := [.d (.v (.slice (some a) 0 cap))]) hm hf hn (h3 a cap)).empty
    intro g w vs hr hl ha
    have hsz : vs.size = 1 := by rw [← hl]; rfl
    have e0 := ha 0 _ vs[0] rfl (by simp [hsz])
    generalize hv : vs[0] = v at e0
    have hp : ∃ p cap, v = .slice p 0 cap ∧ (p = none → cap = 0) := by
      cases e0 with
      | d _ _ h =>
        cases h with
        | nil _ p cap h0 => exact ⟨_, _, rfl, h0⟩
        | sl _ _ b off len cap hl => subst hl; exact ⟨_, _, rfl, by simp⟩
    obtain ⟨p, cap, rfl, h0⟩ := hp
    have args : ∀ x : XV, RA g w x.a (.slice p 0 cap) → ∀ (i : Nat) z u, (asOf [x])[i]? = some z → vs[i]? = some u → RA g w z u := by
      intro x hx i z u hz hu
      cases i with
      | zero =>
        simp only [asOf, List.getElem?_cons_zero, Option.some.injEq] at hz
        subst hz
        have : u = vs[0] := by
          rw [Array.getElem?_eq_getElem (by omega)] at hu
          exact (Option.some.inj hu).symm
        rw [this, hv]; exact hx
      | succ i => simp [asOf] at hz
    cases p with
    | none =>
      have := h0 rfl
      subst this
      exact k2 g w vs hr (by simpa [asOf] using hl) (args _ (.d _ _ (.sc _)))
    | some a => exact k3 a cap g w vs hr (by simpa [asOf] using hl) (args _ (.d _ _ (.sc _)))
theorem NewS.frozen {P : Program} {f : FuncId} {t : Ty} {xs : List XV} {z : List t.T × Nat} (h : NewS P f t (some z) xs) (hz : z.2 ≤ z.1.length) : Does P f (asOf xs) X0 (.d (.sl t.size ((z.1.take z.2).map t.ds))) X0 := by
  intro g w vs hr hl ha
  refine (h g w vs hr hl ha).mono ?_
  rintro e w' ⟨g', v, rfl, h1, h2⟩
  obtain ⟨f1, f2, f3⟩ := HR.freeze (k := 1) (sz := t.size) (es := z.1.map t.ds) (ty := none) h2 (by simp [X0]) rfl (by
    intro i cs hc
    rw [List.getElem?_map, Option.map_eq_some_iff] at hc
    obtain ⟨y, _, rfl⟩ := hc
    exact t.ds_length y)
  refine ⟨_, v, rfl, ?_, f1.alike ⟨fun j => ?_, rfl⟩⟩
  · have := f3 0 z.2 v (by simpa using hz) (by simpa using h1)
    rw [List.drop_zero, ← List.map_take] at this
    exact this
  · simp only [O1, Ab.dropObj, X0]
    by_cases hj : j = 1
    · subst hj; rfl
    · rfl
noncomputable def cloneD (t : Ty) (bytes : Nat) (l : List t.T) : Option (List t.T) :=
  listCase l (some []) fun y r => cond (fitsB (y :: r).length bytes) (some (y :: r)) none
theorem cloneD_sound {P : Program} {f : FuncId} {t : Ty} {bytes : Nat} (h : SndA (NewS P f t) [.d (.sl t)] (cloneF t bytes) []) : SoundF P f [.sl t] [.sl t] (cloneD t bytes) [] := by
  intro l y hy
  cases l with
  | nil =>
    simp only [cloneD, listCase, Option.some.injEq] at hy
    subst hy
    exact h [] none rfl
  | cons x r =>
    simp only [cloneD, listCase] at hy
    cases hb : fitsB (x :: r).length bytes with
    | false => simp only [hb, cond_false] at hy; cases hy
    | true =>
      simp only [hb, cond_true, Option.some.injEq] at hy
      subst hy
      have := h (x :: r) (some (x :: r, (x :: r).length)) (by simp only [cloneF, listCase, hb, cond_true])
      have := this.frozen (Nat.le_refl _)
      rw [List.take_length] at this
      exact this
end Go.Xl
set_option linter.unusedVariables false
set_option linter.unusedSimpArgs false
namespace Go.Xl
open Go.Ab Go.Proofs Go.Shelf
section
variable {P : Program} {ρ : Ren}
theorem op_call_grow {X : Store} (L : Lays8.n4 P ρ) (hf : CallI P (ρ.f 4)) (m : Nat) {o : Oper} {x y : Operand} {ts : Array TypeId} {n : Nat} {i : TypeInfo} {z : Value} (ho : o.op = .call { callee := .value (.func (ρ.f 4)), args := #[x, y], argTypes := ts })
    (hi : P.info? (ρ.t 25) = some i) (hz : i.zero = some z) (hzs : z.cells.size = i.size) (hs0 : 0 < i.size) (hn : 0 < n) (hbig : n * i.bytes ≤ 140737488355328) (h63 : n ≤ 4611686018427387904) (hm : m ∉ X.live) (hX : objsFree [m] X = true) :
    OpT P o [(x, .d (.sc (.slice none 0 0))), (y, .d (.sc (.int .i64 n)))] X ⟨X.objs, m :: X.live⟩ [m] (.tip m i.size [] (some (ρ.t 25))) := by
  intro nm hsm B g w a hr hrd next Q hn'
  have h1 := (rd0 hrd).sc_inv
  have h2 := (rd1 hrd).sc_inv
  simp only at h1 h2
  unfold Oper.wp
  have : (execOp a.eval o).run P w = .ok (.enter (ρ.f 4) #[.slice none 0 0, .int .i64 n]) w := by
    simp only [execOp, ho, resolve]
    simp [Act.eval, Deferred.ofValue, invoke, run_callFunc hf, h1, h2]
    simp [Act.eval] at h1 h2
    exact ⟨h1, h2⟩
  rw [this]
  refine (Any8.slices_Grow_grow L i z hi hz hs0 none 0 0 n [] w (Nat.le_refl _) (by omega) (by simpa using hbig) (by simpa using h63) (by simp) (fun _ => rfl) (by simp)).mono ?_
  rintro e w' ⟨rfl, rfl⟩
  generalize hcap : grownCap w (0 + n) 0 (ρ.t 25) = cap
  have hge : n ≤ cap := by have := grownCap_ge w (0 + n) 0 (ρ.t 25); rw [hcap] at this; omega
  generalize harr : (([] : List Value).toArray ++ Builtin.zeroCells z.cells (0 + n - 0) ++ Builtin.zeroCells z.cells (cap - (0 + n))) = arr
  have hars : arr.size = cap * i.size := by
    rw [← harr]
    simp only [Array.size_append, size_zeroCells, hzs]
    simp only [List.size_toArray, List.length_nil, Nat.zero_add, Nat.sub_zero]
    rw [← Nat.add_mul]
    congr 1; omega
  obtain ⟨hr1, ht1⟩ := hr.drew
  obtain ⟨hr2, ht2⟩ := hr1.newRow arr (ρ.t 25) 0 (Nat.zero_le _)
  have hsz : w.drew.heap.size = w.heap.size := rfl
  obtain ⟨hr3, ht3⟩ := hr2.addTip (m := m) hm (some w.heap.size) hX (by
    intro b' hb'; cases hb'
    refine ⟨by simp [hsz], .inl hr.base, fun k p hk => ?_, fun n' hn' => ?_, hr1.eta.ltN (Nat.le_refl _)⟩
    · have := obRel_lt (hr.objs k p hk); simp only [hsz] at this ⊢; omega
    · have := hr.tiplt n' _ hn'; omega)
  have hT := (ht1.trans ht2).trans ht3
  refine hn' _ _ _ hr3 hT (.tip m i.size _ _ _ (.nil i.size _ cap (by simp)) ?_)
  intro ob' hob'
  simp only [upd_same, Option.some.injEq] at hob'
  subst hob'
  refine ⟨rfl, rfl, by simp only [hsz, upd_same]; omega, ?_, ?_⟩
  · intro p h3 h4
    simp only [Nat.zero_mul, Nat.zero_add, Nat.add_zero] at h3 h4
    have hnewc : (w.drew.alloc (.cells arr (ρ.t 25))).cell? ⟨w.heap.size, p, none⟩ = arr[p]? := cell?_cells (heap_alloc_new w.drew (.cells arr (ρ.t 25))) p
    refine ⟨by rw [hnewc]; simp; omega, ?_⟩
    exact frozen_of_row _ _ _ arr (ρ.t 25) (heap_alloc_new w.drew (.cells arr (ρ.t 25)))
  · intro e1 he1
    cases he1
    refine ⟨rfl, arr.size, ?_⟩
    simp only [World.shape?]
    rw [show w.heap.size = w.drew.heap.size from rfl, heap_alloc_new]
theorem op_call_grow0 {X : Store} (L : Lays8.n4 P ρ) (hf : CallI P (ρ.f 4)) {o : Oper} {x y : Operand} {ts : Array TypeId} (ho : o.op = .call { callee := .value (.func (ρ.f 4)), args := #[x, y], argTypes := ts }) :
    OpT P o [(x, .d (.sc (.slice none 0 0))), (y, .d (.sc (.int .i64 0)))] X X [] (.d (.sc (.slice none 0 0))) := by
  intro nm hsm B g w a hr hrd next Q hn'
  have h1 := (rd0 hrd).sc_inv
  have h2 := (rd1 hrd).sc_inv
  simp only at h1 h2
  unfold Oper.wp
  have : (execOp a.eval o).run P w = .ok (.enter (ρ.f 4) #[.slice none 0 0, .int .i64 0]) w := by
    simp only [execOp, ho, resolve]
    simp [Act.eval, Deferred.ofValue, invoke, run_callFunc hf, h1, h2]
    simp [Act.eval] at h1 h2
    exact ⟨h1, h2⟩
  rw [this]
  refine (Any8.slices_Grow_room L none 0 0 0 w (Nat.le_refl _) (by omega) (by omega) (by omega)).mono ?_
  rintro e w' ⟨rfl, rfl⟩
  exact hn' _ _ _ hr (.refl _ _ _) (.ofSc _ _ _)
end
noncomputable def growRun (P : Program) (e : TypeId) {R : Type} (o : Oper) (st : XSt) (vs : List XV) (K : Out → Option R) : Option R :=
  match o.op, vs with
  | .call c, [.d (.v (.slice none 0 0)), .d (.i .i64 n)] => match c.args.toList with
    | [x, y] => cond (decide (n = 0)) (K (quietO st (.d (.v (.slice none 0 0))) [(x, .d (.v (.slice none 0 0))), (y, .d (.i .i64 n))]))
      (match P.info? e, tyOf P 9 e, newLab o with
      | some i, some ty, some m => match i.zero with
        | some z => cond (Nat.beq z.cells.size i.size) (cond (Nat.beq ty.size i.size) (cond (Nat.ble 1 i.size) (cond (decide (0 < n)) (cond (decide (n.toNat * i.bytes ≤ 140737488355328)) (cond (decide (n.toNat ≤ 4611686018427387904)) (cond (freshL m st.live st)
            (K ⟨.lab, .tip m ty [] (some e), [(x, .d (.v (.slice none 0 0))), (y, .d (.i .i64 n))], st.objs, m :: st.live, [m], []⟩) none) none) none) none) none) none) none
        | none => none
      | _, _, _ => none)
    | _ => none
  | _, _ => none
noncomputable def mkGrow {P : Program} {ρ : Ren} (L : Lays8.n4 P ρ) (hf : CallI P (ρ.f 4)) : Ent P where
  id := ρ.f 4
  run := growRun P (ρ.t 25)
  ok := by
    intro R o st args ts vs K r ho hv h
    unfold growRun at h
    rw [ho] at h
    split at h
    rotate_left
    · cases h
    rename_i c n hc
    cases hc
    split at h
    rotate_left
    · cases h
    rename_i x y hl
    simp only at hl
    have ha : args = #[x, y] := Array.toList_inj.1 hl
    subst ha
    have hxy : xeval st x = some (.d (.v (.slice none 0 0))) ∧ xeval st y = some (.d (.i .i64 n)) := by
      obtain ⟨h1, h2⟩ := xevals_cons hv
      obtain ⟨h3, _⟩ := xevals_cons h2
      exact ⟨h1, h3⟩
    have hsee : ∀ p ∈ imRd [(x, XV.d (.v (.slice none 0 0))), (y, XV.d (.i .i64 n))], Sees st.im p.1 p.2 := by
      intro p hp
      simp only [imRd, List.map_cons, List.map_nil, List.mem_cons, List.not_mem_nil, or_false] at hp
      rcases hp with rfl | rfl
      · exact xeval_sees hxy.1
      · exact xeval_sees hxy.2
    cases h0 : decide (n = 0) with
    | true =>
      rw [h0] at h
      simp only [cond_true] at h
      have := of_decide_eq_true h0
      subst this
      exact ⟨_, h, quietO_ok hsee fun X => op_call_grow0 L hf ho⟩
    | false =>
      rw [h0] at h
      simp only [cond_false] at h
      split at h
      rotate_left
      · cases h
      rename_i i ty m hi hty hm
      split at h
      rotate_left
      · cases h
      rename_i z hz
      obtain ⟨h1, h⟩ := c2 h
      obtain ⟨h2, h⟩ := c2 h
      obtain ⟨h3, h⟩ := c2 h
      obtain ⟨h4, h⟩ := c2 h
      obtain ⟨h5, h⟩ := c2 h
      obtain ⟨h6, h⟩ := c2 h
      obtain ⟨h7, h⟩ := c2 h
      have e4 := of_decide_eq_true h4
      obtain ⟨k, rfl⟩ := Int.eq_ofNat_of_zero_le (Int.le_of_lt e4)
      have e5 := of_decide_eq_true h5
      have e6 := of_decide_eq_true h6
      rw [Int.toNat_natCast] at e5 e6
      obtain ⟨f1, f2⟩ := freshL_ok h7
      have := op_call_grow (X := st.X) L hf m ho hi hz (Nat.eq_of_beq_eq_true h1) (Nat.le_of_ble_eq_true h3) (by omega) e5 e6 f1 f2
      rw [← Nat.eq_of_beq_eq_true h2] at this
      exact ⟨_, h, hsee, ⟨rfl, this⟩, fun _ _ _ h => h⟩
end Go.Xl
set_option linter.unusedVariables false
set_option linter.unusedSimpArgs false
namespace Go.Xl
open Go.Ab
end Go.Xl
set_option maxRecDepth 1000000
set_option linter.unusedVariables false
namespace Go.Proofs.Xw
open Go Go.Xl Go.Ab Go.Proofs
theorem mixed : Tryz.prog.follows .mixedOrders = true := by kernel_rfl
noncomputable def tb (k : Nat) : FI Tryz.prog :=
 (cond (Nat.ble k 182)
 (cond (Nat.ble k 103)
  (cond (Nat.ble k 65)
   (cond (Nat.ble k 40)
    (cond (Nat.ble k 29)
     (cond (Nat.ble k 16)
      (cond (Nat.ble k 13)
       (cond (Nat.ble k 5)
        ⟨5, Tryz.f5, [], 2, Tryz.func5, .mk' Tryz.func5 rfl (by decide)⟩
        ⟨13, Tryz.f13, [], 2, Tryz.func13, .mk' Tryz.func13 rfl (by decide)⟩)
       (cond (Nat.ble k 15)
        ⟨15, Tryz.f15, [], 2, Tryz.func15, .mk' Tryz.func15 rfl (by decide)⟩
        ⟨16, Tryz.f16, [], 2, Tryz.func16, .mk' Tryz.func16 rfl (by decide)⟩))
      (cond (Nat.ble k 22)
       (cond (Nat.ble k 20)
        ⟨20, Tryz.f20, [], 2, Tryz.func20, .mk' Tryz.func20 rfl (by decide)⟩
        ⟨22, Tryz.f22, [], 2, Tryz.func22, .mk' Tryz.func22 rfl (by decide)⟩)
       (cond (Nat.ble k 27)
        ⟨27, Tryz.f27, [], 2, Tryz.func27, .mk' Tryz.func27 rfl (by decide)⟩
        (cond (Nat.ble k 28)
         ⟨28, Tryz.f28, [], 2, Tryz.func28, .mk' Tryz.func28 rfl (by decide)⟩
         ⟨29, Tryz.f29, [], 2, Tryz.func29, .mk' Tryz.func29 rfl (by decide)⟩))))
     (cond (Nat.ble k 35)
      (cond (Nat.ble k 31)
       (cond (Nat.ble k 30)
        ⟨30, Tryz.f30, [], 2, Tryz.func30, .mk' Tryz.func30 rfl (by decide)⟩
        ⟨31, Tryz.f31, [], 2, Tryz.func31, .mk' Tryz.func31 rfl (by decide)⟩)
       (cond (Nat.ble k 34)
        ⟨34, Tryz.f34, [], 2, Tryz.func34, .mk' Tryz.func34 rfl (by decide)⟩
        ⟨35, Tryz.f35, [], 2, Tryz.func35, .mk' Tryz.func35 rfl (by decide)⟩))
      (cond (Nat.ble k 37)
       (cond (Nat.ble k 36)
        ⟨36, Tryz.f36, [], 2, Tryz.func36, .mk' Tryz.func36 rfl (by decide)⟩
        ⟨37, Tryz.f37, [], 2, Tryz.func37, .mk' Tryz.func37 rfl (by decide)⟩)
       (cond (Nat.ble k 38)
        ⟨38, Tryz.f38, [], 2, Tryz.func38, .mk' Tryz.func38 rfl (by decide)⟩
        (cond (Nat.ble k 39)
         ⟨39, Tryz.f39, [], 2, Tryz.func39, .mk' Tryz.func39 rfl (by decide)⟩
         ⟨40, Tryz.f40, [], 2, Tryz.func40, .mk' Tryz.func40 rfl (by decide)⟩)))))
    (cond (Nat.ble k 55)
     (cond (Nat.ble k 45)
      (cond (Nat.ble k 42)
       (cond (Nat.ble k 41)
        ⟨41, Tryz.f41, [], 2, Tryz.func41, .mk' Tryz.func41 rfl (by decide)⟩
        ⟨42, Tryz.f42, [], 2, Tryz.func42, .mk' Tryz.func42 rfl (by decide)⟩)
       (cond (Nat.ble k 43)
        ⟨43, Tryz.f43, [], 2, Tryz.func43, .mk' Tryz.func43 rfl (by decide)⟩
        ⟨45, Tryz.f45, [], 2, Tryz.func45, .mk' Tryz.func45 rfl (by decide)⟩))
      (cond (Nat.ble k 49)
       (cond (Nat.ble k 47)
        ⟨47, Tryz.f47, [], 2, Tryz.func47, .mk' Tryz.func47 rfl (by decide)⟩
        ⟨49, Tryz.f49, [], 2, Tryz.func49, .mk' Tryz.func49 rfl (by decide)⟩)
       (cond (Nat.ble k 50)
        ⟨50, Tryz.f50, [], 2, Tryz.func50, .mk' Tryz.func50 rfl (by decide)⟩
        (cond (Nat.ble k 51)
         ⟨51, Tryz.f51, [], 2, Tryz.func51, .mk' Tryz.func51 rfl (by decide)⟩
         ⟨55, Tryz.f55, [], 2, Tryz.func55, .mk' Tryz.func55 rfl (by decide)⟩))))
     (cond (Nat.ble k 60)
      (cond (Nat.ble k 57)
       (cond (Nat.ble k 56)
        ⟨56, Tryz.f56, [], 2, Tryz.func56, .mk' Tryz.func56 rfl (by decide)⟩
        ⟨57, Tryz.f57, [20], 2, Tryz.func57, .mk' Tryz.func57 rfl (by decide)⟩)
       (cond (Nat.ble k 58)
        ⟨58, Tryz.f58, [], 3, Tryz.func58, .mk' Tryz.func58 rfl (by decide)⟩
        (cond (Nat.ble k 59)
         ⟨59, Tryz.f59, [], 2, Tryz.func59, .mk' Tryz.func59 rfl (by decide)⟩
         ⟨60, Tryz.f60, [], 2, Tryz.func60, .mk' Tryz.func60 rfl (by decide)⟩)))
      (cond (Nat.ble k 62)
       (cond (Nat.ble k 61)
        ⟨61, Tryz.f61, [], 2, Tryz.func61, .mk' Tryz.func61 rfl (by decide)⟩
        ⟨62, Tryz.f62, [], 2, Tryz.func62, .mk' Tryz.func62 rfl (by decide)⟩)
       (cond (Nat.ble k 63)
        ⟨63, Tryz.f63, [], 2, Tryz.func63, .mk' Tryz.func63 rfl (by decide)⟩
        (cond (Nat.ble k 64)
         ⟨64, Tryz.f64, [], 2, Tryz.func64, .mk' Tryz.func64 rfl (by decide)⟩
         ⟨65, Tryz.f65, [], 2, Tryz.func65, .mk' Tryz.func65 rfl (by decide)⟩))))))
   (cond (Nat.ble k 84)
    (cond (Nat.ble k 74)
     (cond (Nat.ble k 69)
      (cond (Nat.ble k 67)
       (cond (Nat.ble k 66)
        ⟨66, Tryz.f66, [], 2, Tryz.func66, .mk' Tryz.func66 rfl (by decide)⟩
        ⟨67, Tryz.f67, [], 2, Tryz.func67, .mk' Tryz.func67 rfl (by decide)⟩)
       (cond (Nat.ble k 68)
        ⟨68, Tryz.f68, [], 2, Tryz.func68, .mk' Tryz.func68 rfl (by decide)⟩
        ⟨69, Tryz.f69, [], 2, Tryz.func69, .mk' Tryz.func69 rfl (by decide)⟩))
      (cond (Nat.ble k 71)
       (cond (Nat.ble k 70)
        ⟨70, Tryz.f70, [], 2, Tryz.func70, .mk' Tryz.func70 rfl (by decide)⟩
        ⟨71, Tryz.f71, [], 2, Tryz.func71, .mk' Tryz.func71 rfl (by decide)⟩)
       (cond (Nat.ble k 72)
        ⟨72, Tryz.f72, [], 2, Tryz.func72, .mk' Tryz.func72 rfl (by decide)⟩
        (cond (Nat.ble k 73)
         ⟨73, Tryz.f73, [], 2, Tryz.func73, .mk' Tryz.func73 rfl (by decide)⟩
         ⟨74, Tryz.f74, [], 2, Tryz.func74, .mk' Tryz.func74 rfl (by decide)⟩))))
     (cond (Nat.ble k 78)
      (cond (Nat.ble k 76)
       (cond (Nat.ble k 75)
        ⟨75, Tryz.f75, [], 2, Tryz.func75, .mk' Tryz.func75 rfl (by decide)⟩
        ⟨76, Tryz.f76, [], 2, Tryz.func76, .mk' Tryz.func76 rfl (by decide)⟩)
       (cond (Nat.ble k 77)
        ⟨77, Tryz.f77, [], 2, Tryz.func77, .mk' Tryz.func77 rfl (by decide)⟩
        ⟨78, Tryz.f78, [], 2, Tryz.func78, .mk' Tryz.func78 rfl (by decide)⟩))
      (cond (Nat.ble k 80)
       (cond (Nat.ble k 79)
        ⟨79, Tryz.f79, [], 2, Tryz.func79, .mk' Tryz.func79 rfl (by decide)⟩
        ⟨80, Tryz.f80, [], 2, Tryz.func80, .mk' Tryz.func80 rfl (by decide)⟩)
       (cond (Nat.ble k 82)
        ⟨82, Tryz.f82, [], 2, Tryz.func82, .mk' Tryz.func82 rfl (by decide)⟩
        (cond (Nat.ble k 83)
         ⟨83, Tryz.f83, [], 2, Tryz.func83, .mk' Tryz.func83 rfl (by decide)⟩
         ⟨84, Tryz.f84, [], 2, Tryz.func84, .mk' Tryz.func84 rfl (by decide)⟩)))))
    (cond (Nat.ble k 93)
     (cond (Nat.ble k 88)
      (cond (Nat.ble k 86)
       (cond (Nat.ble k 85)
        ⟨85, Tryz.f85, [], 2, Tryz.func85, .mk' Tryz.func85 rfl (by decide)⟩
        ⟨86, Tryz.f86, [], 2, Tryz.func86, .mk' Tryz.func86 rfl (by decide)⟩)
       (cond (Nat.ble k 87)
        ⟨87, Tryz.f87, [], 2, Tryz.func87, .mk' Tryz.func87 rfl (by decide)⟩
        ⟨88, Tryz.f88, [], 2, Tryz.func88, .mk' Tryz.func88 rfl (by decide)⟩))
      (cond (Nat.ble k 90)
       (cond (Nat.ble k 89)
        ⟨89, Tryz.f89, [], 2, Tryz.func89, .mk' Tryz.func89 rfl (by decide)⟩
        ⟨90, Tryz.f90, [], 2, Tryz.func90, .mk' Tryz.func90 rfl (by decide)⟩)
       (cond (Nat.ble k 91)
        ⟨91, Tryz.f91, [], 2, Tryz.func91, .mk' Tryz.func91 rfl (by decide)⟩
        (cond (Nat.ble k 92)
         ⟨92, Tryz.f92, [], 2, Tryz.func92, .mk' Tryz.func92 rfl (by decide)⟩
         ⟨93, Tryz.f93, [], 2, Tryz.func93, .mk' Tryz.func93 rfl (by decide)⟩))))
     (cond (Nat.ble k 98)
      (cond (Nat.ble k 95)
       (cond (Nat.ble k 94)
        ⟨94, Tryz.f94, [], 2, Tryz.func94, .mk' Tryz.func94 rfl (by decide)⟩
        ⟨95, Tryz.f95, [], 2, Tryz.func95, .mk' Tryz.func95 rfl (by decide)⟩)
       (cond (Nat.ble k 96)
        ⟨96, Tryz.f96, [], 2, Tryz.func96, .mk' Tryz.func96 rfl (by decide)⟩
        (cond (Nat.ble k 97)
         ⟨97, Tryz.f97, [], 2, Tryz.func97, .mk' Tryz.func97 rfl (by decide)⟩
         ⟨98, Tryz.f98, [], 2, Tryz.func98, .mk' Tryz.func98 rfl (by decide)⟩)))
      (cond (Nat.ble k 100)
       (cond (Nat.ble k 99)
        ⟨99, Tryz.f99, [], 2, Tryz.func99, .mk' Tryz.func99 rfl (by decide)⟩
        ⟨100, Tryz.f100, [], 2, Tryz.func100, .mk' Tryz.func100 rfl (by decide)⟩)
       (cond (Nat.ble k 101)
        ⟨101, Tryz.f101, [], 2, Tryz.func101, .mk' Tryz.func101 rfl (by decide)⟩
        (cond (Nat.ble k 102)
         ⟨102, Tryz.f102, [], 2, Tryz.func102, .mk' Tryz.func102 rfl (by decide)⟩
         ⟨103, Tryz.f103, [], 2, Tryz.func103, .mk' Tryz.func103 rfl (by decide)⟩)))))))
  (cond (Nat.ble k 142)
   (cond (Nat.ble k 123)
    (cond (Nat.ble k 114)
     (cond (Nat.ble k 108)
      (cond (Nat.ble k 105)
       (cond (Nat.ble k 104)
        ⟨104, Tryz.f104, [], 2, Tryz.func104, .mk' Tryz.func104 rfl (by decide)⟩
        ⟨105, Tryz.f105, [], 2, Tryz.func105, .mk' Tryz.func105 rfl (by decide)⟩)
       (cond (Nat.ble k 106)
        ⟨106, Tryz.f106, [], 2, Tryz.func106, .mk' Tryz.func106 rfl (by decide)⟩
        ⟨108, Tryz.f108, [], 2, Tryz.func108, .mk' Tryz.func108 rfl (by decide)⟩))
      (cond (Nat.ble k 110)
       (cond (Nat.ble k 109)
        ⟨109, Tryz.f109, [], 2, Tryz.func109, .mk' Tryz.func109 rfl (by decide)⟩
        ⟨110, Tryz.f110, [23], 2, Tryz.func110, .mk' Tryz.func110 rfl (by decide)⟩)
       (cond (Nat.ble k 111)
        ⟨111, Tryz.f111, [], 2, Tryz.func111, .mk' Tryz.func111 rfl (by decide)⟩
        (cond (Nat.ble k 112)
         ⟨112, Tryz.f112, [24], 2, Tryz.func112, .mk' Tryz.func112 rfl (by decide)⟩
         ⟨114, Tryz.f114, [], 2, Tryz.func114, .mk' Tryz.func114 rfl (by decide)⟩))))
     (cond (Nat.ble k 118)
      (cond (Nat.ble k 116)
       (cond (Nat.ble k 115)
        ⟨115, Tryz.f115, [], 2, Tryz.func115, .mk' Tryz.func115 rfl (by decide)⟩
        ⟨116, Tryz.f116, [], 2, Tryz.func116, .mk' Tryz.func116 rfl (by decide)⟩)
       (cond (Nat.ble k 117)
        ⟨117, Tryz.f117, [], 2, Tryz.func117, .mk' Tryz.func117 rfl (by decide)⟩
        ⟨118, Tryz.f118, [], 2, Tryz.func118, .mk' Tryz.func118 rfl (by decide)⟩))
      (cond (Nat.ble k 120)
       (cond (Nat.ble k 119)
        ⟨119, Tryz.f119, [], 2, Tryz.func119, .mk' Tryz.func119 rfl (by decide)⟩
        ⟨120, Tryz.f120, [], 2, Tryz.func120, .mk' Tryz.func120 rfl (by decide)⟩)
       (cond (Nat.ble k 121)
        ⟨121, Tryz.f121, [], 2, Tryz.func121, .mk' Tryz.func121 rfl (by decide)⟩
        (cond (Nat.ble k 122)
         ⟨122, Tryz.f122, [], 2, Tryz.func122, .mk' Tryz.func122 rfl (by decide)⟩
         ⟨123, Tryz.f123, [], 2, Tryz.func123, .mk' Tryz.func123 rfl (by decide)⟩)))))
    (cond (Nat.ble k 132)
     (cond (Nat.ble k 127)
      (cond (Nat.ble k 125)
       (cond (Nat.ble k 124)
        ⟨124, Tryz.f124, [], 2, Tryz.func124, .mk' Tryz.func124 rfl (by decide)⟩
        ⟨125, Tryz.f125, [], 2, Tryz.func125, .mk' Tryz.func125 rfl (by decide)⟩)
       (cond (Nat.ble k 126)
        ⟨126, Tryz.f126, [], 2, Tryz.func126, .mk' Tryz.func126 rfl (by decide)⟩
        ⟨127, Tryz.f127, [], 2, Tryz.func127, .mk' Tryz.func127 rfl (by decide)⟩))
      (cond (Nat.ble k 129)
       (cond (Nat.ble k 128)
        ⟨128, Tryz.f128, [], 2, Tryz.func128, .mk' Tryz.func128 rfl (by decide)⟩
        ⟨129, Tryz.f129, [], 2, Tryz.func129, .mk' Tryz.func129 rfl (by decide)⟩)
       (cond (Nat.ble k 130)
        ⟨130, Tryz.f130, [], 2, Tryz.func130, .mk' Tryz.func130 rfl (by decide)⟩
        (cond (Nat.ble k 131)
         ⟨131, Tryz.f131, [], 2, Tryz.func131, .mk' Tryz.func131 rfl (by decide)⟩
         ⟨132, Tryz.f132, [], 2, Tryz.func132, .mk' Tryz.func132 rfl (by decide)⟩))))
     (cond (Nat.ble k 137)
      (cond (Nat.ble k 134)
       (cond (Nat.ble k 133)
        ⟨133, Tryz.f133, [], 2, Tryz.func133, .mk' Tryz.func133 rfl (by decide)⟩
        ⟨134, Tryz.f134, [], 2, Tryz.func134, .mk' Tryz.func134 rfl (by decide)⟩)
       (cond (Nat.ble k 135)
        ⟨135, Tryz.f135, [], 2, Tryz.func135, .mk' Tryz.func135 rfl (by decide)⟩
        (cond (Nat.ble k 136)
         ⟨136, Tryz.f136, [], 2, Tryz.func136, .mk' Tryz.func136 rfl (by decide)⟩
         ⟨137, Tryz.f137, [], 2, Tryz.func137, .mk' Tryz.func137 rfl (by decide)⟩)))
      (cond (Nat.ble k 139)
       (cond (Nat.ble k 138)
        ⟨138, Tryz.f138, [], 2, Tryz.func138, .mk' Tryz.func138 rfl (by decide)⟩
        ⟨139, Tryz.f139, [], 2, Tryz.func139, .mk' Tryz.func139 rfl (by decide)⟩)
       (cond (Nat.ble k 140)
        ⟨140, Tryz.f140, [], 2, Tryz.func140, .mk' Tryz.func140 rfl (by decide)⟩
        (cond (Nat.ble k 141)
         ⟨141, Tryz.f141, [], 2, Tryz.func141, .mk' Tryz.func141 rfl (by decide)⟩
         ⟨142, Tryz.f142, [], 2, Tryz.func142, .mk' Tryz.func142 rfl (by decide)⟩))))))
   (cond (Nat.ble k 160)
    (cond (Nat.ble k 151)
     (cond (Nat.ble k 146)
      (cond (Nat.ble k 144)
       (cond (Nat.ble k 143)
        ⟨143, Tryz.f143, [], 2, Tryz.func143, .mk' Tryz.func143 rfl (by decide)⟩
        ⟨144, Tryz.f144, [], 2, Tryz.func144, .mk' Tryz.func144 rfl (by decide)⟩)
       (cond (Nat.ble k 145)
        ⟨145, Tryz.f145, [], 2, Tryz.func145, .mk' Tryz.func145 rfl (by decide)⟩
        ⟨146, Tryz.f146, [], 2, Tryz.func146, .mk' Tryz.func146 rfl (by decide)⟩))
      (cond (Nat.ble k 148)
       (cond (Nat.ble k 147)
        ⟨147, Tryz.f147, [], 2, Tryz.func147, .mk' Tryz.func147 rfl (by decide)⟩
        ⟨148, Tryz.f148, [], 2, Tryz.func148, .mk' Tryz.func148 rfl (by decide)⟩)
       (cond (Nat.ble k 149)
        ⟨149, Tryz.f149, [], 2, Tryz.func149, .mk' Tryz.func149 rfl (by decide)⟩
        (cond (Nat.ble k 150)
         ⟨150, Tryz.f150, [], 2, Tryz.func150, .mk' Tryz.func150 rfl (by decide)⟩
         ⟨151, Tryz.f151, [], 2, Tryz.func151, .mk' Tryz.func151 rfl (by decide)⟩))))
     (cond (Nat.ble k 155)
      (cond (Nat.ble k 153)
       (cond (Nat.ble k 152)
        ⟨152, Tryz.f152, [], 2, Tryz.func152, .mk' Tryz.func152 rfl (by decide)⟩
        ⟨153, Tryz.f153, [], 2, Tryz.func153, .mk' Tryz.func153 rfl (by decide)⟩)
       (cond (Nat.ble k 154)
        ⟨154, Tryz.f154, [], 2, Tryz.func154, .mk' Tryz.func154 rfl (by decide)⟩
        ⟨155, Tryz.f155, [], 2, Tryz.func155, .mk' Tryz.func155 rfl (by decide)⟩))
      (cond (Nat.ble k 157)
       (cond (Nat.ble k 156)
        ⟨156, Tryz.f156, [], 2, Tryz.func156, .mk' Tryz.func156 rfl (by decide)⟩
        ⟨157, Tryz.f157, [], 2, Tryz.func157, .mk' Tryz.func157 rfl (by decide)⟩)
       (cond (Nat.ble k 158)
        ⟨158, Tryz.f158, [], 2, Tryz.func158, .mk' Tryz.func158 rfl (by decide)⟩
        (cond (Nat.ble k 159)
         ⟨159, Tryz.f159, [], 2, Tryz.func159, .mk' Tryz.func159 rfl (by decide)⟩
         ⟨160, Tryz.f160, [], 2, Tryz.func160, .mk' Tryz.func160 rfl (by decide)⟩)))))
    (cond (Nat.ble k 169)
     (cond (Nat.ble k 164)
      (cond (Nat.ble k 162)
       (cond (Nat.ble k 161)
        ⟨161, Tryz.f161, [], 2, Tryz.func161, .mk' Tryz.func161 rfl (by decide)⟩
        ⟨162, Tryz.f162, [], 2, Tryz.func162, .mk' Tryz.func162 rfl (by decide)⟩)
       (cond (Nat.ble k 163)
        ⟨163, Tryz.f163, [], 2, Tryz.func163, .mk' Tryz.func163 rfl (by decide)⟩
        ⟨164, Tryz.f164, [], 2, Tryz.func164, .mk' Tryz.func164 rfl (by decide)⟩))
      (cond (Nat.ble k 166)
       (cond (Nat.ble k 165)
        ⟨165, Tryz.f165, [], 2, Tryz.func165, .mk' Tryz.func165 rfl (by decide)⟩
        ⟨166, Tryz.f166, [], 2, Tryz.func166, .mk' Tryz.func166 rfl (by decide)⟩)
       (cond (Nat.ble k 167)
        ⟨167, Tryz.f167, [], 2, Tryz.func167, .mk' Tryz.func167 rfl (by decide)⟩
        (cond (Nat.ble k 168)
         ⟨168, Tryz.f168, [], 2, Tryz.func168, .mk' Tryz.func168 rfl (by decide)⟩
         ⟨169, Tryz.f169, [], 2, Tryz.func169, .mk' Tryz.func169 rfl (by decide)⟩))))
     (cond (Nat.ble k 177)
      (cond (Nat.ble k 171)
       (cond (Nat.ble k 170)
        ⟨170, Tryz.f170, [], 2, Tryz.func170, .mk' Tryz.func170 rfl (by decide)⟩
        ⟨171, Tryz.f171, [], 2, Tryz.func171, .mk' Tryz.func171 rfl (by decide)⟩)
       (cond (Nat.ble k 172)
        ⟨172, Tryz.f172, [], 2, Tryz.func172, .mk' Tryz.func172 rfl (by decide)⟩
        (cond (Nat.ble k 173)
         ⟨173, Tryz.f173, [], 2, Tryz.func173, .mk' Tryz.func173 rfl (by decide)⟩
         ⟨177, Tryz.f177, [23], 2, Tryz.func177, .mk' Tryz.func177 rfl (by decide)⟩)))
      (cond (Nat.ble k 179)
       (cond (Nat.ble k 178)
        ⟨178, Tryz.f178, [6], 2, Tryz.func178, .mk' Tryz.func178 rfl (by decide)⟩
        ⟨179, Tryz.f179, [], 2, Tryz.func179, .mk' Tryz.func179 rfl (by decide)⟩)
       (cond (Nat.ble k 180)
        ⟨180, Tryz.f180, [], 2, Tryz.func180, .mk' Tryz.func180 rfl (by decide)⟩
        (cond (Nat.ble k 181)
         ⟨181, Tryz.f181, [], 2, Tryz.func181, .mk' Tryz.func181 rfl (by decide)⟩
         ⟨182, Tryz.f182, [], 2, Tryz.func182, .mk' Tryz.func182 rfl (by decide)⟩))))))))
 (cond (Nat.ble k 260)
  (cond (Nat.ble k 219)
   (cond (Nat.ble k 200)
    (cond (Nat.ble k 191)
     (cond (Nat.ble k 186)
      (cond (Nat.ble k 184)
       (cond (Nat.ble k 183)
        ⟨183, Tryz.f183, [], 2, Tryz.func183, .mk' Tryz.func183 rfl (by decide)⟩
        ⟨184, Tryz.f184, [], 2, Tryz.func184, .mk' Tryz.func184 rfl (by decide)⟩)
       (cond (Nat.ble k 185)
        ⟨185, Tryz.f185, [], 2, Tryz.func185, .mk' Tryz.func185 rfl (by decide)⟩
        ⟨186, Tryz.f186, [], 2, Tryz.func186, .mk' Tryz.func186 rfl (by decide)⟩))
      (cond (Nat.ble k 188)
       (cond (Nat.ble k 187)
        ⟨187, Tryz.f187, [], 2, Tryz.func187, .mk' Tryz.func187 rfl (by decide)⟩
        ⟨188, Tryz.f188, [], 2, Tryz.func188, .mk' Tryz.func188 rfl (by decide)⟩)
       (cond (Nat.ble k 189)
        ⟨189, Tryz.f189, [], 2, Tryz.func189, .mk' Tryz.func189 rfl (by decide)⟩
        (cond (Nat.ble k 190)
         ⟨190, Tryz.f190, [], 2, Tryz.func190, .mk' Tryz.func190 rfl (by decide)⟩
         ⟨191, Tryz.f191, [], 2, Tryz.func191, .mk' Tryz.func191 rfl (by decide)⟩))))
     (cond (Nat.ble k 195)
      (cond (Nat.ble k 193)
       (cond (Nat.ble k 192)
        ⟨192, Tryz.f192, [], 2, Tryz.func192, .mk' Tryz.func192 rfl (by decide)⟩
        ⟨193, Tryz.f193, [], 2, Tryz.func193, .mk' Tryz.func193 rfl (by decide)⟩)
       (cond (Nat.ble k 194)
        ⟨194, Tryz.f194, [], 2, Tryz.func194, .mk' Tryz.func194 rfl (by decide)⟩
        ⟨195, Tryz.f195, [], 2, Tryz.func195, .mk' Tryz.func195 rfl (by decide)⟩))
      (cond (Nat.ble k 197)
       (cond (Nat.ble k 196)
        ⟨196, Tryz.f196, [], 2, Tryz.func196, .mk' Tryz.func196 rfl (by decide)⟩
        ⟨197, Tryz.f197, [], 2, Tryz.func197, .mk' Tryz.func197 rfl (by decide)⟩)
       (cond (Nat.ble k 198)
        ⟨198, Tryz.f198, [], 2, Tryz.func198, .mk' Tryz.func198 rfl (by decide)⟩
        (cond (Nat.ble k 199)
         ⟨199, Tryz.f199, [], 2, Tryz.func199, .mk' Tryz.func199 rfl (by decide)⟩
         ⟨200, Tryz.f200, [], 2, Tryz.func200, .mk' Tryz.func200 rfl (by decide)⟩)))))
    (cond (Nat.ble k 209)
     (cond (Nat.ble k 204)
      (cond (Nat.ble k 202)
       (cond (Nat.ble k 201)
        ⟨201, Tryz.f201, [], 2, Tryz.func201, .mk' Tryz.func201 rfl (by decide)⟩
        ⟨202, Tryz.f202, [], 2, Tryz.func202, .mk' Tryz.func202 rfl (by decide)⟩)
       (cond (Nat.ble k 203)
        ⟨203, Tryz.f203, [], 2, Tryz.func203, .mk' Tryz.func203 rfl (by decide)⟩
        ⟨204, Tryz.f204, [], 2, Tryz.func204, .mk' Tryz.func204 rfl (by decide)⟩))
      (cond (Nat.ble k 206)
       (cond (Nat.ble k 205)
        ⟨205, Tryz.f205, [], 2, Tryz.func205, .mk' Tryz.func205 rfl (by decide)⟩
        ⟨206, Tryz.f206, [], 2, Tryz.func206, .mk' Tryz.func206 rfl (by decide)⟩)
       (cond (Nat.ble k 207)
        ⟨207, Tryz.f207, [], 2, Tryz.func207, .mk' Tryz.func207 rfl (by decide)⟩
        (cond (Nat.ble k 208)
         ⟨208, Tryz.f208, [6], 2, Tryz.func208, .mk' Tryz.func208 rfl (by decide)⟩
         ⟨209, Tryz.f209, [], 2, Tryz.func209, .mk' Tryz.func209 rfl (by decide)⟩))))
     (cond (Nat.ble k 214)
      (cond (Nat.ble k 211)
       (cond (Nat.ble k 210)
        ⟨210, Tryz.f210, [], 2, Tryz.func210, .mk' Tryz.func210 rfl (by decide)⟩
        ⟨211, Tryz.f211, [], 2, Tryz.func211, .mk' Tryz.func211 rfl (by decide)⟩)
       (cond (Nat.ble k 212)
        ⟨212, Tryz.f212, [], 2, Tryz.func212, .mk' Tryz.func212 rfl (by decide)⟩
        (cond (Nat.ble k 213)
         ⟨213, Tryz.f213, [], 2, Tryz.func213, .mk' Tryz.func213 rfl (by decide)⟩
         ⟨214, Tryz.f214, [], 2, Tryz.func214, .mk' Tryz.func214 rfl (by decide)⟩)))
      (cond (Nat.ble k 216)
       (cond (Nat.ble k 215)
        ⟨215, Tryz.f215, [], 2, Tryz.func215, .mk' Tryz.func215 rfl (by decide)⟩
        ⟨216, Tryz.f216, [], 2, Tryz.func216, .mk' Tryz.func216 rfl (by decide)⟩)
       (cond (Nat.ble k 217)
        ⟨217, Tryz.f217, [], 2, Tryz.func217, .mk' Tryz.func217 rfl (by decide)⟩
        (cond (Nat.ble k 218)
         ⟨218, Tryz.f218, [], 2, Tryz.func218, .mk' Tryz.func218 rfl (by decide)⟩
         ⟨219, Tryz.f219, [], 2, Tryz.func219, .mk' Tryz.func219 rfl (by decide)⟩))))))
   (cond (Nat.ble k 241)
    (cond (Nat.ble k 228)
     (cond (Nat.ble k 223)
      (cond (Nat.ble k 221)
       (cond (Nat.ble k 220)
        ⟨220, Tryz.f220, [], 2, Tryz.func220, .mk' Tryz.func220 rfl (by decide)⟩
        ⟨221, Tryz.f221, [], 2, Tryz.func221, .mk' Tryz.func221 rfl (by decide)⟩)
       (cond (Nat.ble k 222)
        ⟨222, Tryz.f222, [34, 75], 2, Tryz.func222, .mk' Tryz.func222 rfl (by decide)⟩
        ⟨223, Tryz.f223, [], 2, Tryz.func223, .mk' Tryz.func223 rfl (by decide)⟩))
      (cond (Nat.ble k 225)
       (cond (Nat.ble k 224)
        ⟨224, Tryz.f224, [], 2, Tryz.func224, .mk' Tryz.func224 rfl (by decide)⟩
        ⟨225, Tryz.f225, [], 2, Tryz.func225, .mk' Tryz.func225 rfl (by decide)⟩)
       (cond (Nat.ble k 226)
        ⟨226, Tryz.f226, [], 2, Tryz.func226, .mk' Tryz.func226 rfl (by decide)⟩
        (cond (Nat.ble k 227)
         ⟨227, Tryz.f227, [], 2, Tryz.func227, .mk' Tryz.func227 rfl (by decide)⟩
         ⟨228, Tryz.f228, [], 2, Tryz.func228, .mk' Tryz.func228 rfl (by decide)⟩))))
     (cond (Nat.ble k 236)
      (cond (Nat.ble k 234)
       (cond (Nat.ble k 229)
        ⟨229, Tryz.f229, [], 2, Tryz.func229, .mk' Tryz.func229 rfl (by decide)⟩
        ⟨234, Tryz.f234, [], 2, Tryz.func234, .mk' Tryz.func234 rfl (by decide)⟩)
       (cond (Nat.ble k 235)
        ⟨235, Tryz.f235, [], 2, Tryz.func235, .mk' Tryz.func235 rfl (by decide)⟩
        ⟨236, Tryz.f236, [], 2, Tryz.func236, .mk' Tryz.func236 rfl (by decide)⟩))
      (cond (Nat.ble k 238)
       (cond (Nat.ble k 237)
        ⟨237, Tryz.f237, [], 2, Tryz.func237, .mk' Tryz.func237 rfl (by decide)⟩
        ⟨238, Tryz.f238, [], 2, Tryz.func238, .mk' Tryz.func238 rfl (by decide)⟩)
       (cond (Nat.ble k 239)
        ⟨239, Tryz.f239, [], 2, Tryz.func239, .mk' Tryz.func239 rfl (by decide)⟩
        (cond (Nat.ble k 240)
         ⟨240, Tryz.f240, [], 2, Tryz.func240, .mk' Tryz.func240 rfl (by decide)⟩
         ⟨241, Tryz.f241, [], 2, Tryz.func241, .mk' Tryz.func241 rfl (by decide)⟩)))))
    (cond (Nat.ble k 250)
     (cond (Nat.ble k 245)
      (cond (Nat.ble k 243)
       (cond (Nat.ble k 242)
        ⟨242, Tryz.f242, [], 2, Tryz.func242, .mk' Tryz.func242 rfl (by decide)⟩
        ⟨243, Tryz.f243, [], 2, Tryz.func243, .mk' Tryz.func243 rfl (by decide)⟩)
       (cond (Nat.ble k 244)
        ⟨244, Tryz.f244, [], 2, Tryz.func244, .mk' Tryz.func244 rfl (by decide)⟩
        ⟨245, Tryz.f245, [], 2, Tryz.func245, .mk' Tryz.func245 rfl (by decide)⟩))
      (cond (Nat.ble k 247)
       (cond (Nat.ble k 246)
        ⟨246, Tryz.f246, [], 2, Tryz.func246, .mk' Tryz.func246 rfl (by decide)⟩
        ⟨247, Tryz.f247, [], 2, Tryz.func247, .mk' Tryz.func247 rfl (by decide)⟩)
       (cond (Nat.ble k 248)
        ⟨248, Tryz.f248, [], 2, Tryz.func248, .mk' Tryz.func248 rfl (by decide)⟩
        (cond (Nat.ble k 249)
         ⟨249, Tryz.f249, [], 2, Tryz.func249, .mk' Tryz.func249 rfl (by decide)⟩
         ⟨250, Tryz.f250, [], 2, Tryz.func250, .mk' Tryz.func250 rfl (by decide)⟩))))
     (cond (Nat.ble k 255)
      (cond (Nat.ble k 252)
       (cond (Nat.ble k 251)
        ⟨251, Tryz.f251, [], 2, Tryz.func251, .mk' Tryz.func251 rfl (by decide)⟩
        ⟨252, Tryz.f252, [], 2, Tryz.func252, .mk' Tryz.func252 rfl (by decide)⟩)
       (cond (Nat.ble k 253)
        ⟨253, Tryz.f253, [], 1, Tryz.func253, .mk' Tryz.func253 rfl (by decide)⟩
        (cond (Nat.ble k 254)
         ⟨254, Tryz.f254, [], 2, Tryz.func254, .mk' Tryz.func254 rfl (by decide)⟩
         ⟨255, Tryz.f255, [20], 2, Tryz.func255, .mk' Tryz.func255 rfl (by decide)⟩)))
      (cond (Nat.ble k 257)
       (cond (Nat.ble k 256)
        ⟨256, Tryz.f256, [], 2, Tryz.func256, .mk' Tryz.func256 rfl (by decide)⟩
        ⟨257, Tryz.f257, [], 2, Tryz.func257, .mk' Tryz.func257 rfl (by decide)⟩)
       (cond (Nat.ble k 258)
        ⟨258, Tryz.f258, [], 2, Tryz.func258, .mk' Tryz.func258 rfl (by decide)⟩
        (cond (Nat.ble k 259)
         ⟨259, Tryz.f259, [], 2, Tryz.func259, .mk' Tryz.func259 rfl (by decide)⟩
         ⟨260, Tryz.f260, [], 2, Tryz.func260, .mk' Tryz.func260 rfl (by decide)⟩)))))))
  (cond (Nat.ble k 324)
   (cond (Nat.ble k 294)
    (cond (Nat.ble k 285)
     (cond (Nat.ble k 280)
      (cond (Nat.ble k 278)
       (cond (Nat.ble k 261)
        ⟨261, Tryz.f261, [], 2, Tryz.func261, .mk' Tryz.func261 rfl (by decide)⟩
        ⟨278, Tryz.f278, [], 2, Tryz.func278, .mk' Tryz.func278 rfl (by decide)⟩)
       (cond (Nat.ble k 279)
        ⟨279, Tryz.f279, [], 2, Tryz.func279, .mk' Tryz.func279 rfl (by decide)⟩
        ⟨280, Tryz.f280, [], 2, Tryz.func280, .mk' Tryz.func280 rfl (by decide)⟩))
      (cond (Nat.ble k 282)
       (cond (Nat.ble k 281)
        ⟨281, Tryz.f281, [], 2, Tryz.func281, .mk' Tryz.func281 rfl (by decide)⟩
        ⟨282, Tryz.f282, [], 2, Tryz.func282, .mk' Tryz.func282 rfl (by decide)⟩)
       (cond (Nat.ble k 283)
        ⟨283, Tryz.f283, [], 2, Tryz.func283, .mk' Tryz.func283 rfl (by decide)⟩
        (cond (Nat.ble k 284)
         ⟨284, Tryz.f284, [], 2, Tryz.func284, .mk' Tryz.func284 rfl (by decide)⟩
         ⟨285, Tryz.f285, [], 2, Tryz.func285, .mk' Tryz.func285 rfl (by decide)⟩))))
     (cond (Nat.ble k 289)
      (cond (Nat.ble k 287)
       (cond (Nat.ble k 286)
        ⟨286, Tryz.f286, [], 2, Tryz.func286, .mk' Tryz.func286 rfl (by decide)⟩
        ⟨287, Tryz.f287, [], 2, Tryz.func287, .mk' Tryz.func287 rfl (by decide)⟩)
       (cond (Nat.ble k 288)
        ⟨288, Tryz.f288, [], 2, Tryz.func288, .mk' Tryz.func288 rfl (by decide)⟩
        ⟨289, Tryz.f289, [], 2, Tryz.func289, .mk' Tryz.func289 rfl (by decide)⟩))
      (cond (Nat.ble k 291)
       (cond (Nat.ble k 290)
        ⟨290, Tryz.f290, [], 2, Tryz.func290, .mk' Tryz.func290 rfl (by decide)⟩
        ⟨291, Tryz.f291, [], 2, Tryz.func291, .mk' Tryz.func291 rfl (by decide)⟩)
       (cond (Nat.ble k 292)
        ⟨292, Tryz.f292, [], 2, Tryz.func292, .mk' Tryz.func292 rfl (by decide)⟩
        (cond (Nat.ble k 293)
         ⟨293, Tryz.f293, [], 2, Tryz.func293, .mk' Tryz.func293 rfl (by decide)⟩
         ⟨294, Tryz.f294, [], 2, Tryz.func294, .mk' Tryz.func294 rfl (by decide)⟩)))))
    (cond (Nat.ble k 303)
     (cond (Nat.ble k 298)
      (cond (Nat.ble k 296)
       (cond (Nat.ble k 295)
        ⟨295, Tryz.f295, [], 2, Tryz.func295, .mk' Tryz.func295 rfl (by decide)⟩
        ⟨296, Tryz.f296, [], 2, Tryz.func296, .mk' Tryz.func296 rfl (by decide)⟩)
       (cond (Nat.ble k 297)
        ⟨297, Tryz.f297, [], 2, Tryz.func297, .mk' Tryz.func297 rfl (by decide)⟩
        ⟨298, Tryz.f298, [], 2, Tryz.func298, .mk' Tryz.func298 rfl (by decide)⟩))
      (cond (Nat.ble k 300)
       (cond (Nat.ble k 299)
        ⟨299, Tryz.f299, [], 2, Tryz.func299, .mk' Tryz.func299 rfl (by decide)⟩
        ⟨300, Tryz.f300, [], 2, Tryz.func300, .mk' Tryz.func300 rfl (by decide)⟩)
       (cond (Nat.ble k 301)
        ⟨301, Tryz.f301, [], 2, Tryz.func301, .mk' Tryz.func301 rfl (by decide)⟩
        (cond (Nat.ble k 302)
         ⟨302, Tryz.f302, [], 2, Tryz.func302, .mk' Tryz.func302 rfl (by decide)⟩
         ⟨303, Tryz.f303, [], 2, Tryz.func303, .mk' Tryz.func303 rfl (by decide)⟩))))
     (cond (Nat.ble k 319)
      (cond (Nat.ble k 305)
       (cond (Nat.ble k 304)
        ⟨304, Tryz.f304, [], 2, Tryz.func304, .mk' Tryz.func304 rfl (by decide)⟩
        ⟨305, Tryz.f305, [], 2, Tryz.func305, .mk' Tryz.func305 rfl (by decide)⟩)
       (cond (Nat.ble k 317)
        ⟨317, Tryz.f317, [], 2, Tryz.func317, .mk' Tryz.func317 rfl (by decide)⟩
        (cond (Nat.ble k 318)
         ⟨318, Tryz.f318, [], 2, Tryz.func318, .mk' Tryz.func318 rfl (by decide)⟩
         ⟨319, Tryz.f319, [], 2, Tryz.func319, .mk' Tryz.func319 rfl (by decide)⟩)))
      (cond (Nat.ble k 321)
       (cond (Nat.ble k 320)
        ⟨320, Tryz.f320, [], 2, Tryz.func320, .mk' Tryz.func320 rfl (by decide)⟩
        ⟨321, Tryz.f321, [], 2, Tryz.func321, .mk' Tryz.func321 rfl (by decide)⟩)
       (cond (Nat.ble k 322)
        ⟨322, Tryz.f322, [], 2, Tryz.func322, .mk' Tryz.func322 rfl (by decide)⟩
        (cond (Nat.ble k 323)
         ⟨323, Tryz.f323, [], 2, Tryz.func323, .mk' Tryz.func323 rfl (by decide)⟩
         ⟨324, Tryz.f324, [], 2, Tryz.func324, .mk' Tryz.func324 rfl (by decide)⟩))))))
   (cond (Nat.ble k 343)
    (cond (Nat.ble k 333)
     (cond (Nat.ble k 328)
      (cond (Nat.ble k 326)
       (cond (Nat.ble k 325)
        ⟨325, Tryz.f325, [], 2, Tryz.func325, .mk' Tryz.func325 rfl (by decide)⟩
        ⟨326, Tryz.f326, [], 2, Tryz.func326, .mk' Tryz.func326 rfl (by decide)⟩)
       (cond (Nat.ble k 327)
        ⟨327, Tryz.f327, [], 2, Tryz.func327, .mk' Tryz.func327 rfl (by decide)⟩
        ⟨328, Tryz.f328, [], 2, Tryz.func328, .mk' Tryz.func328 rfl (by decide)⟩))
      (cond (Nat.ble k 330)
       (cond (Nat.ble k 329)
        ⟨329, Tryz.f329, [], 2, Tryz.func329, .mk' Tryz.func329 rfl (by decide)⟩
        ⟨330, Tryz.f330, [], 2, Tryz.func330, .mk' Tryz.func330 rfl (by decide)⟩)
       (cond (Nat.ble k 331)
        ⟨331, Tryz.f331, [], 2, Tryz.func331, .mk' Tryz.func331 rfl (by decide)⟩
        (cond (Nat.ble k 332)
         ⟨332, Tryz.f332, [], 2, Tryz.func332, .mk' Tryz.func332 rfl (by decide)⟩
         ⟨333, Tryz.f333, [], 2, Tryz.func333, .mk' Tryz.func333 rfl (by decide)⟩))))
     (cond (Nat.ble k 338)
      (cond (Nat.ble k 335)
       (cond (Nat.ble k 334)
        ⟨334, Tryz.f334, [], 2, Tryz.func334, .mk' Tryz.func334 rfl (by decide)⟩
        ⟨335, Tryz.f335, [], 2, Tryz.func335, .mk' Tryz.func335 rfl (by decide)⟩)
       (cond (Nat.ble k 336)
        ⟨336, Tryz.f336, [], 2, Tryz.func336, .mk' Tryz.func336 rfl (by decide)⟩
        (cond (Nat.ble k 337)
         ⟨337, Tryz.f337, [], 2, Tryz.func337, .mk' Tryz.func337 rfl (by decide)⟩
         ⟨338, Tryz.f338, [], 2, Tryz.func338, .mk' Tryz.func338 rfl (by decide)⟩)))
      (cond (Nat.ble k 340)
       (cond (Nat.ble k 339)
        ⟨339, Tryz.f339, [], 2, Tryz.func339, .mk' Tryz.func339 rfl (by decide)⟩
        ⟨340, Tryz.f340, [], 2, Tryz.func340, .mk' Tryz.func340 rfl (by decide)⟩)
       (cond (Nat.ble k 341)
        ⟨341, Tryz.f341, [], 2, Tryz.func341, .mk' Tryz.func341 rfl (by decide)⟩
        (cond (Nat.ble k 342)
         ⟨342, Tryz.f342, [], 2, Tryz.func342, .mk' Tryz.func342 rfl (by decide)⟩
         ⟨343, Tryz.f343, [], 2, Tryz.func343, .mk' Tryz.func343 rfl (by decide)⟩)))))
    (cond (Nat.ble k 363)
     (cond (Nat.ble k 347)
      (cond (Nat.ble k 345)
       (cond (Nat.ble k 344)
        ⟨344, Tryz.f344, [], 2, Tryz.func344, .mk' Tryz.func344 rfl (by decide)⟩
        ⟨345, Tryz.f345, [], 2, Tryz.func345, .mk' Tryz.func345 rfl (by decide)⟩)
       (cond (Nat.ble k 346)
        ⟨346, Tryz.f346, [], 2, Tryz.func346, .mk' Tryz.func346 rfl (by decide)⟩
        ⟨347, Tryz.f347, [], 2, Tryz.func347, .mk' Tryz.func347 rfl (by decide)⟩))
      (cond (Nat.ble k 360)
       (cond (Nat.ble k 348)
        ⟨348, Tryz.f348, [], 2, Tryz.func348, .mk' Tryz.func348 rfl (by decide)⟩
        ⟨360, Tryz.f360, [], 2, Tryz.func360, .mk' Tryz.func360 rfl (by decide)⟩)
       (cond (Nat.ble k 361)
        ⟨361, Tryz.f361, [], 2, Tryz.func361, .mk' Tryz.func361 rfl (by decide)⟩
        (cond (Nat.ble k 362)
         ⟨362, Tryz.f362, [], 2, Tryz.func362, .mk' Tryz.func362 rfl (by decide)⟩
         ⟨363, Tryz.f363, [], 2, Tryz.func363, .mk' Tryz.func363 rfl (by decide)⟩))))
     (cond (Nat.ble k 368)
      (cond (Nat.ble k 365)
       (cond (Nat.ble k 364)
        ⟨364, Tryz.f364, [], 2, Tryz.func364, .mk' Tryz.func364 rfl (by decide)⟩
        ⟨365, Tryz.f365, [], 2, Tryz.func365, .mk' Tryz.func365 rfl (by decide)⟩)
       (cond (Nat.ble k 366)
        ⟨366, Tryz.f366, [], 2, Tryz.func366, .mk' Tryz.func366 rfl (by decide)⟩
        (cond (Nat.ble k 367)
         ⟨367, Tryz.f367, [], 2, Tryz.func367, .mk' Tryz.func367 rfl (by decide)⟩
         ⟨368, Tryz.f368, [], 2, Tryz.func368, .mk' Tryz.func368 rfl (by decide)⟩)))
      (cond (Nat.ble k 370)
       (cond (Nat.ble k 369)
        ⟨369, Tryz.f369, [], 2, Tryz.func369, .mk' Tryz.func369 rfl (by decide)⟩
        ⟨370, Tryz.f370, [], 2, Tryz.func370, .mk' Tryz.func370 rfl (by decide)⟩)
       (cond (Nat.ble k 384)
        ⟨384, Tryz.f384, [], 2, Tryz.func384, .mk' Tryz.func384 rfl (by decide)⟩
        (cond (Nat.ble k 385)
         ⟨385, Tryz.f385, [], 2, Tryz.func385, .mk' Tryz.func385 rfl (by decide)⟩
         ⟨386, Tryz.f386, [], 2, Tryz.func386, .mk' Tryz.func386 rfl (by decide)⟩)))))))))
def cs (k : Nat) : List Nat :=
 (cond (Nat.ble k 182)
 (cond (Nat.ble k 103)
  (cond (Nat.ble k 65)
   (cond (Nat.ble k 40)
    (cond (Nat.ble k 29)
     (cond (Nat.ble k 16)
      (cond (Nat.ble k 13)
       (cond (Nat.ble k 5)
        [13, 15, 16]
        [28, 29, 30, 31])
       (cond (Nat.ble k 15)
        [34]
        [20, 35, 36, 37, 38, 39, 40, 41, 42, 43]))
      (cond (Nat.ble k 22)
       (cond (Nat.ble k 20)
        []
        [47, 49, 50])
       (cond (Nat.ble k 27)
        [47, 50, 55, 56, 57, 58, 59, 60]
        (cond (Nat.ble k 28)
         [61, 62, 63, 64, 65]
         [66, 67, 68]))))
     (cond (Nat.ble k 35)
      (cond (Nat.ble k 31)
       (cond (Nat.ble k 30)
        [69, 70, 71, 72, 73, 74]
        [22, 47, 75, 76, 77, 78, 79, 80])
       (cond (Nat.ble k 34)
        [82]
        [83, 84, 85, 86, 87, 88, 89, 90]))
      (cond (Nat.ble k 37)
       (cond (Nat.ble k 36)
        []
        [27, 42, 91, 92, 93])
       (cond (Nat.ble k 38)
        [47, 94]
        (cond (Nat.ble k 39)
         [27]
         [42, 50, 93, 95])))))
    (cond (Nat.ble k 55)
     (cond (Nat.ble k 45)
      (cond (Nat.ble k 42)
       (cond (Nat.ble k 41)
        [27, 42, 88]
        [27, 31, 45, 68, 96, 97])
       (cond (Nat.ble k 43)
        [22, 27, 39, 50, 92, 93, 98]
        []))
      (cond (Nat.ble k 49)
       (cond (Nat.ble k 47)
        []
        [60, 109, 110, 111])
       (cond (Nat.ble k 50)
        [109]
        (cond (Nat.ble k 51)
         [112]
         [114]))))
     (cond (Nat.ble k 60)
      (cond (Nat.ble k 57)
       (cond (Nat.ble k 56)
        [114]
        [114, 115])
       (cond (Nat.ble k 58)
        [114]
        (cond (Nat.ble k 59)
         [112]
         [109])))
      (cond (Nat.ble k 62)
       (cond (Nat.ble k 61)
        [69, 119, 120, 121]
        [82, 122])
       (cond (Nat.ble k 63)
        [62, 105, 106]
        (cond (Nat.ble k 64)
         [123, 124]
         [100, 104, 125]))))))
   (cond (Nat.ble k 84)
    (cond (Nat.ble k 74)
     (cond (Nat.ble k 69)
      (cond (Nat.ble k 67)
       (cond (Nat.ble k 66)
        [126, 127, 128]
        [69, 73, 99, 120, 129, 130, 131, 132])
       (cond (Nat.ble k 68)
        [86, 127, 133, 134, 135, 136]
        []))
      (cond (Nat.ble k 71)
       (cond (Nat.ble k 70)
        [71, 121, 137, 138]
        [])
       (cond (Nat.ble k 72)
        [70, 120, 129, 131, 132, 139, 140, 141]
        (cond (Nat.ble k 73)
         [71, 121, 137]
         [86, 139, 142, 143, 144, 145]))))
     (cond (Nat.ble k 78)
      (cond (Nat.ble k 76)
       (cond (Nat.ble k 75)
        [79, 135, 146]
        [50, 86, 88, 95, 98, 143, 147, 148, 149, 150, 151, 152, 153, 154])
       (cond (Nat.ble k 77)
        [86, 136, 147]
        [114]))
      (cond (Nat.ble k 80)
       (cond (Nat.ble k 79)
        [60, 155]
        [51, 95, 108, 156])
       (cond (Nat.ble k 82)
        []
        (cond (Nat.ble k 83)
         []
         [83, 87, 90])))))
    (cond (Nat.ble k 93)
     (cond (Nat.ble k 88)
      (cond (Nat.ble k 86)
       (cond (Nat.ble k 85)
        [86, 88, 98]
        [109, 157])
       (cond (Nat.ble k 87)
        [86, 88, 95, 143, 150, 158, 159, 160]
        [161]))
      (cond (Nat.ble k 90)
       (cond (Nat.ble k 89)
        [95, 143, 150]
        [162])
       (cond (Nat.ble k 91)
        [47, 163]
        (cond (Nat.ble k 92)
         [50, 59, 111, 164]
         [47, 166]))))
     (cond (Nat.ble k 98)
      (cond (Nat.ble k 95)
       (cond (Nat.ble k 94)
        [114]
        [167, 168])
       (cond (Nat.ble k 96)
        [74, 100, 101, 102, 103, 104, 139, 169, 170]
        (cond (Nat.ble k 97)
         [64, 125]
         [109, 168])))
      (cond (Nat.ble k 100)
       (cond (Nat.ble k 99)
        [68]
        [171, 172])
       (cond (Nat.ble k 101)
        [171]
        (cond (Nat.ble k 102)
         [100, 109]
         [100, 169])))))))
  (cond (Nat.ble k 142)
   (cond (Nat.ble k 123)
    (cond (Nat.ble k 114)
     (cond (Nat.ble k 108)
      (cond (Nat.ble k 105)
       (cond (Nat.ble k 104)
        []
        [62, 106])
       (cond (Nat.ble k 106)
        [62, 82, 122, 173]
        [112]))
      (cond (Nat.ble k 110)
       (cond (Nat.ble k 109)
        [177, 178]
        [179])
       (cond (Nat.ble k 111)
        [180]
        (cond (Nat.ble k 112)
         [182, 183]
         []))))
     (cond (Nat.ble k 118)
      (cond (Nat.ble k 116)
       (cond (Nat.ble k 115)
        [185, 186]
        [117])
       (cond (Nat.ble k 117)
        [187]
        []))
      (cond (Nat.ble k 120)
       (cond (Nat.ble k 119)
        [188]
        [71, 137, 138, 189])
       (cond (Nat.ble k 121)
        [190]
        (cond (Nat.ble k 122)
         []
         [122, 173, 191])))))
    (cond (Nat.ble k 132)
     (cond (Nat.ble k 127)
      (cond (Nat.ble k 125)
       (cond (Nat.ble k 124)
        [122, 173]
        [172, 192])
       (cond (Nat.ble k 126)
        []
        []))
      (cond (Nat.ble k 129)
       (cond (Nat.ble k 128)
        []
        [71, 120])
       (cond (Nat.ble k 130)
        [70, 71, 120, 129]
        (cond (Nat.ble k 131)
         [71, 86, 120, 137, 193]
         [71, 120, 137, 140, 150]))))
     (cond (Nat.ble k 137)
      (cond (Nat.ble k 134)
       (cond (Nat.ble k 133)
        [126, 163]
        [86, 109, 143, 150, 158, 159, 160, 194])
       (cond (Nat.ble k 135)
        [155, 195]
        (cond (Nat.ble k 136)
         [60, 148, 155, 195]
         [])))
      (cond (Nat.ble k 139)
       (cond (Nat.ble k 138)
        []
        [])
       (cond (Nat.ble k 140)
        [70, 71, 120, 137, 143, 196, 197, 198]
        (cond (Nat.ble k 141)
         [71, 87, 131, 132, 137]
         []))))))
   (cond (Nat.ble k 160)
    (cond (Nat.ble k 151)
     (cond (Nat.ble k 146)
      (cond (Nat.ble k 144)
       (cond (Nat.ble k 143)
        [199, 200, 201, 202, 203]
        [204])
       (cond (Nat.ble k 145)
        [87, 139, 205]
        [114, 163]))
      (cond (Nat.ble k 148)
       (cond (Nat.ble k 147)
        [206]
        [109, 207])
       (cond (Nat.ble k 149)
        [148, 208]
        (cond (Nat.ble k 150)
         [117, 209]
         [210]))))
     (cond (Nat.ble k 155)
      (cond (Nat.ble k 153)
       (cond (Nat.ble k 152)
        [109, 211, 212]
        [148])
       (cond (Nat.ble k 154)
        [95, 143, 149, 160, 194]
        []))
      (cond (Nat.ble k 157)
       (cond (Nat.ble k 156)
        [213]
        [214])
       (cond (Nat.ble k 158)
        [217]
        (cond (Nat.ble k 159)
         [218]
         [219])))))
    (cond (Nat.ble k 169)
     (cond (Nat.ble k 164)
      (cond (Nat.ble k 162)
       (cond (Nat.ble k 161)
        [180]
        [])
       (cond (Nat.ble k 163)
        [57]
        [116, 150, 165, 181, 184, 215, 220, 221, 224, 235, 261]))
      (cond (Nat.ble k 166)
       (cond (Nat.ble k 165)
        [95]
        [109, 194])
       (cond (Nat.ble k 167)
        [222, 223]
        (cond (Nat.ble k 168)
         [178, 222]
         [100, 101, 225, 226, 227]))))
     (cond (Nat.ble k 177)
      (cond (Nat.ble k 171)
       (cond (Nat.ble k 170)
        [102, 103]
        [])
       (cond (Nat.ble k 172)
        [228, 229]
        (cond (Nat.ble k 173)
         [82]
         [222, 234])))
      (cond (Nat.ble k 179)
       (cond (Nat.ble k 178)
        []
        [186, 236])
       (cond (Nat.ble k 180)
        [116, 150, 165, 177, 178, 181, 184, 215, 220, 224, 235, 261]
        (cond (Nat.ble k 181)
         [222]
         []))))))))
 (cond (Nat.ble k 260)
  (cond (Nat.ble k 219)
   (cond (Nat.ble k 200)
    (cond (Nat.ble k 191)
     (cond (Nat.ble k 186)
      (cond (Nat.ble k 184)
       (cond (Nat.ble k 183)
        [186, 238]
        [150])
       (cond (Nat.ble k 185)
        [116, 150, 165, 181, 184, 185, 215, 220, 224, 235, 239, 240, 241, 242, 243, 244, 245, 246, 261]
        [247, 248]))
      (cond (Nat.ble k 188)
       (cond (Nat.ble k 187)
        []
        [125, 189, 249])
       (cond (Nat.ble k 189)
        []
        (cond (Nat.ble k 190)
         []
         [82]))))
     (cond (Nat.ble k 195)
      (cond (Nat.ble k 193)
       (cond (Nat.ble k 192)
        [250]
        [120, 129, 137])
       (cond (Nat.ble k 194)
        [182]
        []))
      (cond (Nat.ble k 197)
       (cond (Nat.ble k 196)
        [71, 120, 129, 137, 200]
        [71, 120, 121, 137, 138])
       (cond (Nat.ble k 198)
        [71, 120, 137, 150, 196]
        (cond (Nat.ble k 199)
         [200, 251]
         [])))))
    (cond (Nat.ble k 209)
     (cond (Nat.ble k 204)
      (cond (Nat.ble k 202)
       (cond (Nat.ble k 201)
        []
        [])
       (cond (Nat.ble k 203)
        [150]
        [252]))
      (cond (Nat.ble k 206)
       (cond (Nat.ble k 205)
        [143, 150]
        [114])
       (cond (Nat.ble k 207)
        []
        (cond (Nat.ble k 208)
         [177, 200]
         [254]))))
     (cond (Nat.ble k 214)
      (cond (Nat.ble k 211)
       (cond (Nat.ble k 210)
        [200]
        [222])
       (cond (Nat.ble k 212)
        [210, 255]
        (cond (Nat.ble k 213)
         [95, 182]
         [116, 150, 165, 181, 184, 215, 220, 224, 235, 261])))
      (cond (Nat.ble k 216)
       (cond (Nat.ble k 215)
        [216]
        [])
       (cond (Nat.ble k 217)
        [256]
        (cond (Nat.ble k 218)
         [95, 219]
         [257, 258]))))))
   (cond (Nat.ble k 241)
    (cond (Nat.ble k 228)
     (cond (Nat.ble k 223)
      (cond (Nat.ble k 221)
       (cond (Nat.ble k 220)
        [181, 259]
        [116, 150, 165, 181, 184, 215, 220, 224, 235, 261])
       (cond (Nat.ble k 222)
        [260]
        [116, 150, 165, 181, 184, 215, 220, 224, 235, 261]))
      (cond (Nat.ble k 225)
       (cond (Nat.ble k 224)
        [209]
        [100])
       (cond (Nat.ble k 226)
        [100, 171]
        (cond (Nat.ble k 227)
         [100, 200, 219, 225]
         []))))
     (cond (Nat.ble k 236)
      (cond (Nat.ble k 234)
       (cond (Nat.ble k 229)
        []
        [186, 278])
       (cond (Nat.ble k 235)
        [117]
        [236, 279, 280, 281, 282, 283, 284, 285, 286, 287]))
      (cond (Nat.ble k 238)
       (cond (Nat.ble k 237)
        []
        [116, 150, 165, 181, 184, 215, 220, 224, 235, 238, 261, 288, 289, 290, 291, 292, 293, 294, 295])
       (cond (Nat.ble k 239)
        [116, 150, 165, 181, 184, 215, 220, 224, 235, 261]
        (cond (Nat.ble k 240)
         [296]
         [297, 298])))))
    (cond (Nat.ble k 250)
     (cond (Nat.ble k 245)
      (cond (Nat.ble k 243)
       (cond (Nat.ble k 242)
        [299, 300]
        [])
       (cond (Nat.ble k 244)
        [116, 150, 165, 181, 184, 215, 220, 224, 235, 261]
        [116, 150, 165, 181, 184, 215, 220, 224, 235, 261]))
      (cond (Nat.ble k 247)
       (cond (Nat.ble k 246)
        [116, 150, 165, 181, 184, 215, 220, 224, 235, 261]
        [])
       (cond (Nat.ble k 248)
        []
        (cond (Nat.ble k 249)
         [301]
         []))))
     (cond (Nat.ble k 255)
      (cond (Nat.ble k 252)
       (cond (Nat.ble k 251)
        []
        [])
       (cond (Nat.ble k 253)
        []
        (cond (Nat.ble k 254)
         []
         [302])))
      (cond (Nat.ble k 257)
       (cond (Nat.ble k 256)
        [303]
        [186, 304])
       (cond (Nat.ble k 258)
        []
        (cond (Nat.ble k 259)
         [222]
         [186, 305])))))))
  (cond (Nat.ble k 324)
   (cond (Nat.ble k 294)
    (cond (Nat.ble k 285)
     (cond (Nat.ble k 280)
      (cond (Nat.ble k 278)
       (cond (Nat.ble k 261)
        [209]
        [116, 150, 165, 181, 184, 215, 220, 224, 235, 261, 278, 317, 318, 319, 320, 321, 322, 323, 324])
       (cond (Nat.ble k 279)
        [285]
        [325]))
      (cond (Nat.ble k 282)
       (cond (Nat.ble k 281)
        [297, 298]
        [326, 327])
       (cond (Nat.ble k 283)
        []
        (cond (Nat.ble k 284)
         [285]
         [187]))))
     (cond (Nat.ble k 289)
      (cond (Nat.ble k 287)
       (cond (Nat.ble k 286)
        [285]
        [285])
       (cond (Nat.ble k 288)
        [116, 150, 165, 181, 184, 215, 220, 224, 235, 261]
        [328]))
      (cond (Nat.ble k 291)
       (cond (Nat.ble k 290)
        [297, 298]
        [329, 330])
       (cond (Nat.ble k 292)
        []
        (cond (Nat.ble k 293)
         [116, 150, 165, 181, 184, 215, 220, 224, 235, 261]
         [116, 150, 165, 181, 184, 215, 220, 224, 235, 261])))))
    (cond (Nat.ble k 303)
     (cond (Nat.ble k 298)
      (cond (Nat.ble k 296)
       (cond (Nat.ble k 295)
        [116, 150, 165, 181, 184, 215, 220, 224, 235, 261]
        [116, 150, 165, 181, 184, 215, 220, 224, 235, 261])
       (cond (Nat.ble k 297)
        [186]
        []))
      (cond (Nat.ble k 300)
       (cond (Nat.ble k 299)
        [300]
        [331])
       (cond (Nat.ble k 301)
        []
        (cond (Nat.ble k 302)
         [186, 304]
         [332]))))
     (cond (Nat.ble k 319)
      (cond (Nat.ble k 305)
       (cond (Nat.ble k 304)
        [116, 150, 165, 181, 184, 215, 220, 224, 235, 261, 304, 333, 334, 335, 336, 337, 338, 339, 340]
        [116, 150, 165, 181, 184, 215, 220, 224, 235, 261, 305, 341, 342, 343, 344, 345, 346, 347, 348])
       (cond (Nat.ble k 317)
        [116, 150, 165, 181, 184, 215, 220, 224, 235, 261]
        (cond (Nat.ble k 318)
         [360]
         [297, 298])))
      (cond (Nat.ble k 321)
       (cond (Nat.ble k 320)
        [361, 362]
        [])
       (cond (Nat.ble k 322)
        [116, 150, 165, 181, 184, 215, 220, 224, 235, 261]
        (cond (Nat.ble k 323)
         [116, 150, 165, 181, 184, 215, 220, 224, 235, 261]
         [116, 150, 165, 181, 184, 215, 220, 224, 235, 261]))))))
   (cond (Nat.ble k 343)
    (cond (Nat.ble k 333)
     (cond (Nat.ble k 328)
      (cond (Nat.ble k 326)
       (cond (Nat.ble k 325)
        [285]
        [327])
       (cond (Nat.ble k 327)
        [363]
        [116, 150, 165, 181, 184, 215, 220, 224, 235, 261]))
      (cond (Nat.ble k 330)
       (cond (Nat.ble k 329)
        [330]
        [364])
       (cond (Nat.ble k 331)
        [116, 150, 165, 181, 184, 215, 220, 224, 235, 261]
        (cond (Nat.ble k 332)
         []
         [116, 150, 165, 181, 184, 215, 220, 224, 235, 261]))))
     (cond (Nat.ble k 338)
      (cond (Nat.ble k 335)
       (cond (Nat.ble k 334)
        [365]
        [297, 298])
       (cond (Nat.ble k 336)
        [366, 367]
        (cond (Nat.ble k 337)
         []
         [116, 150, 165, 181, 184, 215, 220, 224, 235, 261])))
      (cond (Nat.ble k 340)
       (cond (Nat.ble k 339)
        [116, 150, 165, 181, 184, 215, 220, 224, 235, 261]
        [116, 150, 165, 181, 184, 215, 220, 224, 235, 261])
       (cond (Nat.ble k 341)
        [116, 150, 165, 181, 184, 215, 220, 224, 235, 261]
        (cond (Nat.ble k 342)
         [368]
         [297, 298])))))
    (cond (Nat.ble k 363)
     (cond (Nat.ble k 347)
      (cond (Nat.ble k 345)
       (cond (Nat.ble k 344)
        [369, 370]
        [])
       (cond (Nat.ble k 346)
        [116, 150, 165, 181, 184, 215, 220, 224, 235, 261]
        [116, 150, 165, 181, 184, 215, 220, 224, 235, 261]))
      (cond (Nat.ble k 360)
       (cond (Nat.ble k 348)
        [116, 150, 165, 181, 184, 215, 220, 224, 235, 261]
        [116, 150, 165, 181, 184, 215, 220, 224, 235, 261])
       (cond (Nat.ble k 361)
        [362]
        (cond (Nat.ble k 362)
         [384]
         [285]))))
     (cond (Nat.ble k 368)
      (cond (Nat.ble k 365)
       (cond (Nat.ble k 364)
        [116, 150, 165, 181, 184, 215, 220, 224, 235, 261]
        [116, 150, 165, 181, 184, 215, 220, 224, 235, 261])
       (cond (Nat.ble k 366)
        [367]
        (cond (Nat.ble k 367)
         [385]
         [116, 150, 165, 181, 184, 215, 220, 224, 235, 261])))
      (cond (Nat.ble k 370)
       (cond (Nat.ble k 369)
        [370]
        [386])
       (cond (Nat.ble k 384)
        [116, 150, 165, 181, 184, 215, 220, 224, 235, 261]
        (cond (Nat.ble k 385)
         [116, 150, 165, 181, 184, 215, 220, 224, 235, 261]
         [116, 150, 165, 181, 184, 215, 220, 224, 235, 261])))))))))
def grow253_ren : Go.Shelf.Ren := ⟨fun | 4 => 253 | n => n, fun | 20 => 20 | 22 => 25 | 25 => 120 | n => n, fun n => n⟩
theorem grow253 : Lays8.n4 Tryz.prog grow253_ren := {
  mixed := mixed
  f4 := ⟨Tryz.f253.name, by decide, Tryz.func253.trans (congrArg some (by kernel_rfl))⟩
  t0 := Tryz.underlying0
  a0 := Tryz.isAgg0
  z0 := Tryz.sizeOf0
  v0 := Tryz.zeroValue0
  t3 := Tryz.underlying3
  a3 := Tryz.isAgg3
  z3 := Tryz.sizeOf3
  v3 := Tryz.zeroValue3
  t4 := Tryz.underlying4
  a4 := Tryz.isAgg4
  z4 := Tryz.sizeOf4
  v4 := Tryz.zeroValue4
  t9 := Tryz.underlying9
  a9 := Tryz.isAgg9
  z9 := Tryz.sizeOf9
  v9 := Tryz.zeroValue9
  t20 := Tryz.underlying20
  a20 := Tryz.isAgg20
  z20 := Tryz.sizeOf20
  v20 := Tryz.zeroValue20
  t22 := Tryz.underlying25
  a22 := Tryz.isAgg25
  z22 := Tryz.sizeOf25
  v22 := Tryz.zeroValue25
}
@[reducible] def tDot : Ty := (.pair (.int .u16) (.int .u64))
theorem Clone_118 : SndA (NewS Tryz.prog 118 (.int .u64)) [.d (.sl (.int .u64))] (cloneF (.int .u64) 8) [] := clone_sound (own := [5, 7]) (N := 10) (an := .lf) mixed Tryz.func118 rfl (fun y r => by kernel_rfl) (by kernel_rfl) (fun a cap => by kernel_rfl)
theorem Clone_237 : SndA (NewS Tryz.prog 237 tDot) [.d (.sl tDot)] (cloneF tDot 16) [] := clone_sound (own := [5, 7]) (N := 10) (an := .lf) mixed Tryz.func237 rfl (fun y r => by kernel_rfl) (by kernel_rfl) (fun a cap => by kernel_rfl)
noncomputable def base : List (Ent Tryz.prog) := [mkGrow grow253 (.mk' Tryz.func253 rfl (by decide)), altEnt (mkEnt 118 [(.sl (.int .u64))] [(.sl (.int .u64))] (cloneD (.int .u64) 8) (.mk' Tryz.func118 rfl (by decide)) (cloneD_sound Clone_118)) (mkInl mixed [] [] 10 ⟨118, Tryz.f118, [], 0, Tryz.func118, .mk' Tryz.func118 rfl (by decide)⟩) rfl, mkEnt 237 [(.sl tDot)] [(.sl tDot)] (cloneD tDot 16) (.mk' Tryz.func237 rfl (by decide)) (cloneD_sound Clone_237)]
def gids : List Nat := [0, 1]
def T0 : List Int := [0, 16, 192, 76, 32, 0, 2, 3, 292, 36, 4]
def T1 : List Int := [0, 498536548, 997073096, 651767980, 1994146192, 1802195444, 1303535960, 1342533948, 3988292384, 4027552580, 3604390888, 3412177804, 2607071920, 2262029012, 2685067896, 3183342108]
def ys : List XV := [.d (.pa (.int .i64) T0), .d (.pa (.int .u32) T1)]
noncomputable def law : FI Tryz.prog := ⟨5, Tryz.f5, [], 0, Tryz.func5, .mk' Tryz.func5 rfl (by decide)⟩
theorem run_law  : runI Tryz.prog (inlE mixed base gids 200 tb cs 40 law.id) law 200 gids [] ys [] [] true = some ([.d (.b true)], [], [], true) := by kernel_rfl
theorem D_law  : DoesG Tryz.prog 5 (asOf []) [(0, (XV.d (.pa (.int .i64) T0)).a), (1, (XV.d (.pa (.int .u32) T1)).a)] (.d (.sc (.bool true))) := (runI_sound mixed rfl (run_law)).1
end Go.Proofs.Xw
set_option linter.unusedVariables false
set_option maxRecDepth 100000
namespace Go.Proofs.Xq
open Go Go.Xl Go.Ab Go.Proofs
theorem mixed : Tryz.prog.follows .mixedOrders = true := by kernel_rfl
@[reducible] def tRun : Ty := (.pair (.int .u64) (.int .u64))
@[reducible] def tPart : Ty := (.pair (.int .u16) (.sl tRun))
@[reducible] def tDot : Ty := (.pair (.int .u16) (.int .u64))
@[reducible] def tEvent : Ty := (.pair tDot (.pair .u8 (.pair (.int .u64) (.pair .u8 (.pair .str (.sl tDot))))))
@[reducible] def tDelta : Ty := (.pair (.sl tPart) (.pair (.sl tPart) (.sl tEvent)))
@[reducible] def tMsg : Ty := (.pair .u8 (.pair .u8 (.pair (.int .u64) (.pair (.int .u16) (.pair (.int .u64) (.pair .u8 (.pair (.sl tPart) (.pair (.sl tPart) tDelta))))))))
@[reducible] def tepitaphlaw35Act : Ty := (.pair .u8 (.pair (.int .u16) (.pair (.int .i64) (.pair .bool tMsg))))
noncomputable def F_epitaphref09_Few (N : Nat) : Fun [(.sl tPart)] (Option (ResT [.bool])) := fun (x : List (Int × List (Int × Int))) => bif decide (30 < (↑x.length : Int)) then some false else iter (fun (rec : (Int ×
 Unit) × Unit × Unit × Unit → Option Bool) (z : (Int × Unit) × Unit × Unit × Unit) => bif decide (z.fst.fst < (↑x.length : Int)) then (at? x z.fst.fst).bind fun (e : Int × List (Int × Int)) => bif decide (30 <
 (↑e.snd.length : Int)) then some false else rec ((IntKind.i64.wrap (z.fst.fst + 1), ()), (), (), ()) else some true) N ((0, ()), (), (), ())
theorem E_epitaphref09_Few (N : Nat) : runF Tryz.prog [] [] N Tryz.f32 (.seq .lf (.seq .lf (.seq (.seq .lf (.blk (.loop ⟨[(3, .d (.int .i64))], [], [0], [], [], []⟩ .lf))) .lf))) [(.sl tPart)] [.bool] = F_epitaphref09_Few N := by kernel_rfl
noncomputable def e_epitaphref09_Few (N : Nat) : Ent Tryz.prog := mkFn 32 Tryz.f32 _ [(.sl tPart)] [.bool] (F_epitaphref09_Few N) mixed Tryz.func32 (.mk' Tryz.func32 rfl (by decide)) rfl (E_epitaphref09_Few N)
noncomputable def F_epitaphref13_Few (N : Nat) : Fun [(.sl tEvent), (.int .i64)] (Option (ResT [.bool])) := fun (x : List ((Int × Int) × UInt8 × Int × UInt8 × List UInt8 × List (Int × Int))) (x_1 : Int) => bif decide
 (x_1 < (↑x.length : Int)) then some false else iter (fun (rec : (Int × Unit) × Unit × Unit × Unit → Option Bool) (z : (Int × Unit) × Unit × Unit × Unit) => bif decide (z.fst.fst < (↑x.length : Int)) then (at? x
 z.fst.fst).bind fun (e : (Int × Int) × UInt8 × Int × UInt8 × List UInt8 × List (Int × Int)) => bif decide (300 < (↑e.snd.snd.snd.snd.snd.length : Int)) then some false else (at? x z.fst.fst).bind fun (e : (Int × Int) ×
 UInt8 × Int × UInt8 × List UInt8 × List (Int × Int)) => bif decide (200 < (↑e.snd.snd.snd.snd.fst.length : Int)) then some false else rec ((IntKind.i64.wrap (z.fst.fst + 1), ()), (), (), ()) else some true) N ((0, ()),
 (), (), ())
theorem E_epitaphref13_Few (N : Nat) : runF Tryz.prog [] [] N Tryz.f81 (.seq .lf (.seq .lf (.seq (.seq .lf (.blk (.loop ⟨[(5, .d (.int .i64))], [], [0], [], [], []⟩ .lf))) .lf))) [(.sl tEvent), (.int .i64)] [.bool] = F_epitaphref13_Few N := by kernel_rfl
noncomputable def e_epitaphref13_Few (N : Nat) : Ent Tryz.prog := mkFn 81 Tryz.f81 _ [(.sl tEvent), (.int .i64)] [.bool] (F_epitaphref13_Few N) mixed Tryz.func81 (.mk' Tryz.func81 rfl (by decide)) rfl (E_epitaphref13_Few N)
noncomputable def F_epitaphref20_Few (N : Nat) : Fun [tDelta] (Option (ResT [.bool])) := fun (x : List (Int × List (Int × Int)) × List (Int × List (Int × Int)) × List ((Int × Int) × UInt8 × Int × UInt8 × List UInt8 ×
 List (Int × Int))) => Option.bind (F_epitaphref09_Few N x.fst) fun (y : Bool) => bif y then Option.bind (F_epitaphref09_Few N x.snd.fst) fun (y : Bool) => bif y then Option.bind (F_epitaphref13_Few N x.snd.snd 30) fun
 (y : Bool) => some y else some false else some false
theorem E_epitaphref20_Few (N : Nat) : runF Tryz.prog [e_epitaphref09_Few N, e_epitaphref13_Few N] [] N Tryz.f33 .lf [tDelta] [.bool] = F_epitaphref20_Few N := by kernel_rfl
noncomputable def e_epitaphref20_Few (N : Nat) : Ent Tryz.prog := mkFn 33 Tryz.f33 _ [tDelta] [.bool] (F_epitaphref20_Few N) mixed Tryz.func33 (.mk' Tryz.func33 rfl (by decide)) rfl (E_epitaphref20_Few N)
noncomputable def F_epitaphref27_Few (N : Nat) : Fun [tMsg] (Option (ResT [.bool])) := fun (x : UInt8 × UInt8 × Int × Int × Int × UInt8 × List (Int × List (Int × Int)) × List (Int × List (Int × Int)) × List (Int × List
 (Int × Int)) × List (Int × List (Int × Int)) × List ((Int × Int) × UInt8 × Int × UInt8 × List UInt8 × List (Int × Int))) => Option.bind (F_epitaphref09_Few N x.snd.snd.snd.snd.snd.snd.fst) fun (y : Bool) => bif y then
 Option.bind (F_epitaphref09_Few N x.snd.snd.snd.snd.snd.snd.snd.fst) fun (y : Bool) => bif y then Option.bind (F_epitaphref20_Few N x.snd.snd.snd.snd.snd.snd.snd.snd) fun (y : Bool) => some y else some false else some
 false
theorem E_epitaphref27_Few (N : Nat) : runF Tryz.prog [e_epitaphref09_Few N, e_epitaphref20_Few N] [] N Tryz.f14 .lf [tMsg] [.bool] = F_epitaphref27_Few N := by kernel_rfl
noncomputable def e_epitaphref27_Few (N : Nat) : Ent Tryz.prog := mkFn 14 Tryz.f14 _ [tMsg] [.bool] (F_epitaphref27_Few N) mixed Tryz.func14 (.mk' Tryz.func14 rfl (by decide)) rfl (E_epitaphref27_Few N)
noncomputable def F_epitaphlaw35_Few (N : Nat) : Fun [(.sl tepitaphlaw35Act), (.int .i64)] (Option (ResT [(.int .i64)])) := fun (x : List (UInt8 × Int × Int × Bool × UInt8 × UInt8 × Int × Int × Int × UInt8 × List (Int ×
 List (Int × Int)) × List (Int × List (Int × Int)) × List (Int × List (Int × Int)) × List (Int × List (Int × Int)) × List ((Int × Int) × UInt8 × Int × UInt8 × List UInt8 × List (Int × Int)))) (x_1 : Int) => bif decide
 (x_1 < (↑x.length : Int)) then some 0 else iter (fun (rec : (Int × Unit) × Unit × Unit × Unit → Option Int) (z : (Int × Unit) × Unit × Unit × Unit) => bif decide (z.fst.fst < (↑x.length : Int)) then (at? x
 z.fst.fst).bind fun (e : UInt8 × Int × Int × Bool × UInt8 × UInt8 × Int × Int × Int × UInt8 × List (Int × List (Int × Int)) × List (Int × List (Int × Int)) × List (Int × List (Int × Int)) × List (Int × List (Int × Int))
 × List ((Int × Int) × UInt8 × Int × UInt8 × List UInt8 × List (Int × Int))) => Option.bind (F_epitaphref27_Few N e.snd.snd.snd.snd) fun (y : Bool) => bif !y then some 0 else rec ((IntKind.i64.wrap (z.fst.fst + 1), ()),
 (), (), ()) else some 1) N ((0, ()), (), (), ())
theorem E_epitaphlaw35_Few (N : Nat) : runF Tryz.prog [e_epitaphref27_Few N] [] N Tryz.f4 (.seq .lf (.seq .lf (.seq (.seq .lf (.blk (.loop ⟨[(5, .d (.int .i64))], [], [0], [], [], []⟩ .lf))) .lf))) [(.sl tepitaphlaw35Act), (.int .i64)] [(.int .i64)] = F_epitaphlaw35_Few N := by kernel_rfl
theorem D_epitaphlaw35_Few (N : Nat) : SoundF Tryz.prog 4 [(.int .i64)] [(.sl tepitaphlaw35Act), (.int .i64)] (F_epitaphlaw35_Few N) [] := E_epitaphlaw35_Few N ▸ runF_sound mixed Tryz.func4 rfl
end Go.Proofs.Xq
set_option linter.unusedVariables false
set_option linter.unusedSimpArgs false
namespace Go.Xl
theorem iter_ok {σ R : Type} {f : (σ → Option R) → σ → Option R} {Q : R → Prop} (I : Nat → σ → Prop)
    (step : ∀ (n : Nat) (x : σ) (rec : σ → Option R), I n x → (∀ (m : Nat) (y : σ), m < n → I m y → ∃ r, rec y = some r ∧ Q r) → ∃ r, f rec x = some r ∧ Q r) :
    ∀ (N n : Nat) (x : σ), I n x → n < N → ∃ r, iter f N x = some r ∧ Q r
  | 0, n, x, _, h => absurd h (Nat.not_lt_zero _)
  | N + 1, n, x, hi, h => by
    simp only [iter]
    exact step n x _ hi fun m y hm hy => iter_ok I step N m y hy (by omega)
@[simp] theorem at?_nat {α : Type} (l : List α) (n : Nat) : at? l (n : Int) = l[n]? := rfl
theorem i64_succ {n : Nat} (h : n + 1 < 9223372036854775808) : IntKind.i64.wrap ((n : Int) + 1) = ((n + 1 : Nat) : Int) := by
  rw [IntWalk.i64_in _ (by omega)]; rfl
noncomputable def SAsc {α : Type} (lt : α → α → Bool) (l : List α) : Prop := l.Pairwise fun a b => lt a b = true
theorem SAsc.ext {α : Type} {lt : α → α → Bool} (ha : ∀ x y, lt x y = true → lt y x = false) : ∀ {l m : List α}, SAsc lt l → SAsc lt m → (∀ x, x ∈ l ↔ x ∈ m) → l = m
  | [], [], _, _, _ => rfl
  | [], b :: m, _, _, h => by have := (h b).2 List.mem_cons_self; simp at this
  | a :: l, [], _, _, h => by have := (h a).1 List.mem_cons_self; simp at this
  | a :: l, b :: m, hl, hm, h => by
    have hl' := hl
    have hm' := hm
    simp only [SAsc, List.pairwise_cons] at hl' hm'
    have irr : ∀ x, lt x x = false := by
      intro x
      cases hx : lt x x with
      | false => rfl
      | true => have := ha x x hx; rw [hx] at this; cases this
    have hab : a = b := by
      rcases List.mem_cons.1 ((h a).1 List.mem_cons_self) with e | e
      · exact e
      · rcases List.mem_cons.1 ((h b).2 List.mem_cons_self) with e' | e'
        · exact e'.symm
        · have h1 := hm'.1 a e
          have h2 := hl'.1 b e'
          rw [ha _ _ h1] at h2; cases h2
    subst hab
    congr 1
    refine SAsc.ext ha hl'.2 hm'.2 fun x => ?_
    have hx := h x
    simp only [List.mem_cons] at hx
    constructor
    · intro hxl
      rcases hx.1 (.inr hxl) with e | e
      · subst e
        have := hl'.1 x hxl
        rw [irr] at this; cases this
      · exact e
    · intro hxm
      rcases hx.2 (.inr hxm) with e | e
      · subst e
        have := hm'.1 x hxm
        rw [irr] at this; cases this
      · exact e
end Go.Xl
set_option linter.unusedVariables false
set_option linter.unusedSimpArgs false
namespace Go.Xl
theorem scan_some {X R : Type} (x : List X) (hx : x.length < 4611686018427387904) (f : ((Int × Unit) × Unit × Unit × Unit → Option R) → (Int × Unit) × Unit × Unit × Unit → Option R)
    (hs : ∀ (rec : (Int × Unit) × Unit × Unit × Unit → Option R) (k : Nat) (hk : k < x.length), (∃ r, f rec (((k : Int), ()), (), (), ()) = some r) ∨ f rec (((k : Int), ()), (), (), ()) = rec ((((k + 1 : Nat) : Int), ()), (), (), ()))
    (he : ∀ rec, ∃ r, f rec (((x.length : Int), ()), (), (), ()) = some r) (N : Nat) (hN : x.length < N) : ∃ r, iter f N (((0 : Int), ()), (), (), ()) = some r := by
  have := iter_ok (f := f) (Q := fun _ => True) (fun n z => ∃ k : Nat, z = (((k : Int), ()), (), (), ()) ∧ k ≤ x.length ∧ n = x.length - k) (by
    rintro n z rec ⟨k, rfl, h1, h2⟩ ih
    by_cases hk : k < x.length
    · rcases hs rec k hk with ⟨r, h⟩ | h
      · exact ⟨r, h, trivial⟩
      · rw [h]
        exact ih (x.length - (k + 1)) _ (by omega) ⟨k + 1, rfl, by omega, rfl⟩
    · have e : k = x.length := by omega
      subst e
      obtain ⟨r, h⟩ := he rec
      exact ⟨r, h, trivial⟩) N (x.length - 0) (((0 : Int), ()), (), (), ()) ⟨0, rfl, by omega, rfl⟩ (by omega)
  obtain ⟨r, h, _⟩ := this
  exact ⟨r, h⟩
end Go.Xl
set_option linter.unusedVariables false
set_option linter.unusedSimpArgs false
namespace Go.Proofs.Xq
open Go Go.Xl
abbrev Cx := List (Int × List (Int × Int))
abbrev Ev := (Int × Int) × UInt8 × Int × UInt8 × List UInt8 × List (Int × Int)
theorem few09 (x : Cx) (N : Nat) (hN : 40 ≤ N) : ∃ r, F_epitaphref09_Few N x = some r := by
  unfold F_epitaphref09_Few
  cases h : decide (30 < (x.length : Int)) with
  | true => exact ⟨_, rfl⟩
  | false =>
    have hl : x.length ≤ 30 := by have := of_decide_eq_false h; omega
    simp only [cond_false]
    refine scan_some x (by omega) _ (fun rec k hk => ?_) (fun rec => ?_) N (by omega)
    · have h1 : decide ((k : Int) < (x.length : Int)) = true := by simpa using hk
      simp only [h1, cond_true, at?_nat, List.getElem?_eq_getElem hk, Option.bind_some]
      cases h2 : decide (30 < (((x[k]).2.length : Nat) : Int)) with
      | true => exact .inl ⟨_, rfl⟩
      | false =>
        right
        rw [i64_succ (by omega)]
        rfl
    · simp
theorem few13 (x : List Ev) (m : Int) (hm : m ≤ 100) (N : Nat) (hN : 200 ≤ N) : ∃ r, F_epitaphref13_Few N x m = some r := by
  unfold F_epitaphref13_Few
  cases h : decide (m < (x.length : Int)) with
  | true => exact ⟨_, rfl⟩
  | false =>
    have hl : x.length ≤ 100 := by have := of_decide_eq_false h; omega
    simp only [cond_false]
    refine scan_some x (by omega) _ (fun rec k hk => ?_) (fun rec => ?_) N (by omega)
    · have h1 : decide ((k : Int) < (x.length : Int)) = true := by simpa using hk
      simp only [h1, cond_true, at?_nat, List.getElem?_eq_getElem hk, Option.bind_some]
      cases h2 : decide (300 < (((x[k]).2.2.2.2.2.length : Nat) : Int)) with
      | true => exact .inl ⟨_, rfl⟩
      | false =>
        simp only [cond_false]
        cases h3 : decide (200 < (((x[k]).2.2.2.2.1.length : Nat) : Int)) with
        | true => exact .inl ⟨_, rfl⟩
        | false =>
          right
          rw [i64_succ (by omega)]
          rfl
    · simp
theorem few20 (x : Cx × Cx × List Ev) (N : Nat) (hN : 200 ≤ N) : ∃ r, F_epitaphref20_Few N x = some r := by
  unfold F_epitaphref20_Few
  obtain ⟨a, ha⟩ := few09 x.1 N (by omega)
  obtain ⟨b, hb⟩ := few09 x.2.1 N (by omega)
  obtain ⟨c, hc⟩ := few13 x.2.2 30 (by omega) N hN
  rw [ha, hb, hc]
  cases a <;> cases b <;> exact ⟨_, rfl⟩
theorem few27 (x : UInt8 × UInt8 × Int × Int × Int × UInt8 × Cx × Cx × Cx × Cx × List Ev) (N : Nat) (hN : 200 ≤ N) : ∃ r, F_epitaphref27_Few N x = some r := by
  unfold F_epitaphref27_Few
  obtain ⟨a, ha⟩ := few09 x.2.2.2.2.2.2.1 N (by omega)
  obtain ⟨b, hb⟩ := few09 x.2.2.2.2.2.2.2.1 N (by omega)
  obtain ⟨c, hc⟩ := few20 x.2.2.2.2.2.2.2.2 N hN
  rw [ha, hb, hc]
  cases a <;> cases b <;> exact ⟨_, rfl⟩
theorem few35 (a : tepitaphlaw35Act.T) (N : Nat) (hN : 200 ≤ N) : ∃ r, F_epitaphlaw35_Few N [a] 1 = some r := by
  unfold F_epitaphlaw35_Few
  have h0 : decide ((1 : Int) < (([a] : List tepitaphlaw35Act.T).length : Int)) = false := rfl
  simp only [h0, cond_false]
  refine scan_some [a] (by simp) _ (fun rec k hk => ?_) (fun rec => ?_) N (by simp; omega)
  · have e : k = 0 := by simpa using hk
    subst e
    have h1 : decide (((0 : Nat) : Int) < (([a] : List tepitaphlaw35Act.T).length : Int)) = true := rfl
    obtain ⟨b, hb⟩ := few27 a.2.2.2.2 N hN
    simp only [h1, cond_true, at?_nat, List.getElem?_cons_zero, Option.bind_some]
    have hb' : F_epitaphref27_Few N a.2.2.2.2 = some b := hb
    cases b with
    | false => left; rw [hb']; exact ⟨0, rfl⟩
    | true => right; rw [hb']; simp only [Option.bind_some, Bool.not_true, cond_false]; rfl
  · exact ⟨1, rfl⟩
noncomputable def fewA (a : tepitaphlaw35Act.T) : Int := (F_epitaphlaw35_Few 200 [a] 1).getD 0
theorem fewA_eq (a : tepitaphlaw35Act.T) : F_epitaphlaw35_Few 200 [a] 1 = some (fewA a) := by
  obtain ⟨r, h⟩ := few35 a 200 (by omega)
  unfold fewA; rw [h]; rfl
noncomputable def F1 (l : List tepitaphlaw35Act.T) (m : Int) : Option Int :=
  match l, m with
  | [a], .ofNat 1 => some (fewA a)
  | _, _ => none
theorem F1_eq {l : List tepitaphlaw35Act.T} {m r : Int} (h : F1 l m = some r) : F_epitaphlaw35_Few 200 l m = some r := by
  unfold F1 at h
  split at h
  · rename_i a
    rw [← h]; exact fewA_eq a
  · cases h
theorem D_F1 : SoundF Tryz.prog 4 [(.int .i64)] [(.sl tepitaphlaw35Act), (.int .i64)] F1 [] := fun l m r h => D_epitaphlaw35_Few 200 l m r (F1_eq h)
noncomputable def e_F1 : Ent Tryz.prog := mkEnt 4 [(.sl tepitaphlaw35Act), (.int .i64)] [(.int .i64)] F1 (.mk' Tryz.func4 rfl (by decide)) D_F1
end Go.Proofs.Xq
set_option linter.unusedVariables false
set_option linter.unusedSimpArgs false
namespace Go.Xl
open Go.Ab
noncomputable def askOf (t : Nat) : List (Nat × Bool) → Option Bool
  | [] => none
  | p :: r => cond (Nat.beq p.1 t) (some p.2) (askOf t r)
section
variable (P : Program) (Γ : List (Ent P)) (own : List Nat) (nt : Nat)
noncomputable def execQ (N : Nat) (ask : List (Nat × Bool)) : Code → XSt → List (Bool × Bool) → Option (Exit × XSt × List (Bool × Bool))
  | .seq a b, st, l => match execQ N ask a st l with
    | some (.normal, s, l1) => execQ N ask b s l1
    | r => r
  | .cond c a b, st, l => match xeval st c with
    | some (.d (.b v)) => match c with
      | .tmp t => match askOf t ask with
        | some β => cond β (execQ N ask a st ((v, β) :: l)) (execQ N ask b st ((v, β) :: l))
        | none => cond v (execQ N ask a st l) (execQ N ask b st l)
      | _ => cond v (execQ N ask a st l) (execQ N ask b st l)
    | _ => none
  | c, st, l => match execU P Γ own nt N c false st with
    | some (e, s) => some (e, s, l)
    | none => none
end
noncomputable def heldL : List (Bool × Bool) → Prop
  | [] => True
  | p :: r => p.1 = p.2 ∧ heldL r
section
variable {P : Program} {Γ : List (Ent P)} {own : List Nat} {nt : Nat}
theorem execQ_held {N : Nat} {ask : List (Nat × Bool)} : ∀ (c : Code) (st s : XSt) (l l' : List (Bool × Bool)) (e : Exit), execQ P Γ own nt N ask c st l = some (e, s, l') → heldL l' → heldL l := by
  have other : ∀ (c : Code) (st s : XSt) (l l' : List (Bool × Bool)) (e : Exit), (match execU P Γ own nt N c false st with | some (e, s) => some (e, s, l) | none => none) = some (e, s, l') → heldL l' → heldL l := by
    intro c st s l l' e h hh
    split at h
    · simp only [Option.some.injEq, Prod.mk.injEq] at h
      obtain ⟨_, _, rfl⟩ := h; exact hh
    · cases h
  intro c
  induction c with
  | seq a b iha ihb =>
    intro st s l l' e h hh
    simp only [execQ] at h
    split at h
    · rename_i s1 l1 h1
      exact iha _ _ _ _ _ h1 (ihb _ _ _ _ _ h hh)
    · exact iha _ _ _ _ _ h hh
  | cond c a b iha ihb =>
    intro st s l l' e h hh
    have plain : ∀ v, cond v (execQ P Γ own nt N ask a st l) (execQ P Γ own nt N ask b st l) = some (e, s, l') → heldL l := by
      intro v h
      cases v with
      | true => exact iha _ _ _ _ _ h hh
      | false => exact ihb _ _ _ _ _ h hh
    simp only [execQ] at h
    split at h
    · rename_i v hv
      split at h
      · rename_i t
        split at h
        · rename_i β hβ
          cases β with
          | true => exact (iha _ _ _ _ _ h hh).2
          | false => exact (ihb _ _ _ _ _ h hh).2
        · exact plain v h
      · exact plain v h
    · cases h
  | _ => intro st s l l' e h hh; exact other _ _ _ _ _ _ (by simpa only [execQ] using h) hh
theorem execQ_sound (hm : P.follows .mixedOrders = true) {S : Sig} {N : Nat} {ask : List (Nat × Bool)} : ∀ (c : Code) (st s0 s : XSt) (l l' : List (Bool × Bool)) (e : Exit), InvU s0 st → execQ P Γ own S.N N ask c st l = some (e, s, l') → heldL l' →
    AWp P S c (fun e' s' => e' = e ∧ s' = s.im ∧ InvU s0 s) st.im := by
  have other : ∀ (c : Code) (st s0 s : XSt) (l l' : List (Bool × Bool)) (e : Exit), InvU s0 st → (match execU P Γ own S.N N c false st with | some (e, s) => some (e, s, l) | none => none) = some (e, s, l') → AWp P S c (fun e' s' => e' = e ∧ s' = s.im ∧ InvU s0 s) st.im := by
    intro c st s0 s l l' e hi h
    split at h
    · rename_i e1 s1 hx
      simp only [Option.some.injEq, Prod.mk.injEq] at h
      obtain ⟨rfl, rfl, _⟩ := h
      exact execU_sound hm c false st s0 _ _ hi hx
    · cases h
  intro c
  induction c with
  | seq a b iha ihb =>
    intro st s0 s l l' e hi h hh
    simp only [execQ] at h
    split at h
    · rename_i s1 l1 h1
      refine awp_seq (awp_mono (iha st s0 s1 l l1 .normal hi h1 (execQ_held b _ _ _ _ _ h hh)) ?_)
      rintro e' s' ⟨rfl, rfl, hi'⟩
      exact ihb s1 s0 s l1 l' e hi' h hh
    · rename_i hne
      refine awp_seq (awp_mono (iha st s0 s l l' e hi h hh) ?_)
      rintro e' s' ⟨rfl, rfl, hi'⟩
      cases e' with
      | normal => exact absurd h (hne s l')
      | _ => exact ⟨rfl, rfl, hi'⟩
  | cond c a b iha ihb =>
    intro st s0 s l l' e hi h hh
    simp only [execQ] at h
    split at h
    · rename_i v hv
      have plain : cond v (execQ P Γ own S.N N ask a st l) (execQ P Γ own S.N N ask b st l) = some (e, s, l') → AWp P S (.cond c a b) (fun e' s' => e' = e ∧ s' = s.im ∧ InvU s0 s) st.im := by
        intro h
        refine awp_cond (b := v) (xeval_sees hv) (fun hb => ?_) (fun hb => ?_)
        · subst hb; exact iha st s0 s l l' e hi h hh
        · subst hb; exact ihb st s0 s l l' e hi h hh
      split at h
      · rename_i t
        split at h
        · rename_i β hβ
          have hb : heldL ((v, β) :: l) := by
            cases β with
            | true => exact execQ_held a _ _ _ _ _ h hh
            | false => exact execQ_held b _ _ _ _ _ h hh
          have hvb : v = β := hb.1
          subst hvb
          refine awp_cond (b := v) (xeval_sees hv) (fun hb => ?_) (fun hb => ?_)
          · subst hb; exact iha st s0 s _ l' e hi h hh
          · subst hb; exact ihb st s0 s _ l' e hi h hh
        · exact plain h
      · exact plain h
    · cases h
  | _ => intro st s0 s l l' e hi h hh; exact other _ _ _ _ _ _ _ hi (by simpa only [execQ] using h)
end
section
variable (P : Program) (Γ : List (Ent P)) (fi : FI P) (N : Nat)
noncomputable def runQ (ask : List (Nat × Bool)) (gids : List Nat) (xs ys : List XV) : Option (List XV × List (Nat × XOb) × List Nat × Bool × List (Bool × Bool)) :=
  match fi.fn.body with
  | some c => cond (Nat.ble fi.fn.ntmps GB) (cond (Nat.ble xs.length fi.fn.ntmps) (match execQ P Γ fi.own fi.fn.ntmps N ask c ⟨envX 0 xs ++ glE gids ys, [], [], [], []⟩ [] with
    | some (e, s, l) => cond (isRet e) (match fzK (tmpsR fi.fn.results.toList) s fun s1 => endU (Nat.beq fi.hot 3) P fi.fn [] [] [] true (fgSt s1) with
      | some (rs, os, ls, u) => some (rs, os, ls, u, l)
      | none => none) none
    | none => none) none) none
  | none => none
end
theorem runQ_sound {P : Program} {Γ : List (Ent P)} {fi : FI P} {N : Nat} {ask : List (Nat × Bool)} {gids : List Nat} {xs ys : List XV} {rs : List XV} {os : List (Nat × XOb)} {ls : List Nat} {u : Bool} {l : List (Bool × Bool)}
    (hm : P.follows .mixedOrders = true) (h : runQ P Γ fi N ask gids xs ys = some (rs, os, ls, u, l)) (hh : heldL l) :
    DoesH P fi.id (asOf xs) (gids.zip (asOf ys)) ⟨[], []⟩ (tupX rs).a ⟨imObjs os, ls⟩ := by
  unfold runQ at h
  split at h
  rotate_left
  · cases h
  rename_i c hc
  obtain ⟨hG, h⟩ := c2 h
  obtain ⟨hn, h⟩ := c2 h
  split at h
  rotate_left
  · cases h
  rename_i e s l1 hex
  obtain ⟨hret, h⟩ := c2 h
  split at h
  rotate_left
  · cases h
  rename_i rs1 os1 ls1 u1 hfz
  simp only [Option.some.injEq, Prod.mk.injEq] at h
  obtain ⟨rfl, rfl, rfl, rfl, rfl⟩ := h
  exact (bodyI_sound (inO := []) (labs := []) rfl hc (Nat.le_of_ble_eq_true hG) (Nat.le_of_ble_eq_true hn) (by simp)
    (execQ_sound (S := ⟨fi.fn.ntmps, [], smallL_spec (l := []) rfl⟩) hm c ⟨envX 0 xs ++ glE gids ys, [], [], [], []⟩ ⟨envX 0 xs ++ glE gids ys, [], [], [], []⟩ s [] l1 e (.refl _) hex hh) hret hfz).1
end Go.Xl
set_option linter.unusedVariables false
set_option linter.unusedSimpArgs false
namespace Go.Xl
open Go.Ab
noncomputable def eqInts : List Int → List Int → Bool
  | [], [] => true
  | a :: r, b :: s => cond (decide (a = b)) (eqInts r s) false
  | _, _ => false
theorem eqInts_eq : ∀ {l m : List Int}, eqInts l m = true → l = m
  | [], [], _ => rfl
  | [], _ :: _, h => by simp [eqInts] at h
  | _ :: _, [], h => by simp [eqInts] at h
  | a :: r, b :: s, h => by
    simp only [eqInts] at h
    obtain ⟨h1, h2⟩ := cb2 h
    rw [of_decide_eq_true h1, eqInts_eq h2]
noncomputable def eqPa : XV → XV → Bool
  | .d (.pa (.int k) l), .d (.pa (.int k') l') => cond (decide (k = k')) (eqInts l l') false
  | _, _ => false
theorem eqPa_eq {a b : XV} (h : eqPa a b = true) : a = b := by
  unfold eqPa at h
  split at h
  · rename_i k l k' l'
    obtain ⟨h1, h2⟩ := cb2 h
    have h1 := of_decide_eq_true h1
    subst h1
    have h2 : l = l' := eqInts_eq h2
    subst h2
    rfl
  · cases h
noncomputable def eqPas : List XV → List XV → Bool
  | [], [] => true
  | a :: r, b :: s => cond (eqPa a b) (eqPas r s) false
  | _, _ => false
theorem eqPas_eq : ∀ {l m : List XV}, eqPas l m = true → l = m
  | [], [], _ => rfl
  | [], _ :: _, h => by simp [eqPas] at h
  | _ :: _, [], h => by simp [eqPas] at h
  | a :: r, b :: s, h => by
    simp only [eqPas] at h
    obtain ⟨h1, h2⟩ := cb2 h
    rw [eqPa_eq h1, eqPas_eq h2]
noncomputable def constRun (gids : List Nat) (ys : List XV) (res : XV) {R : Type} (o : Oper) (st : XSt) (vs : List XV) (K : Out → Option R) : Option R :=
  match vs with
  | [] => match xevals st (gops gids) with
    | some us => cond (eqPas us ys) (K (quietO st res ((gops gids).zip us))) none
    | none => none
  | _ => none
noncomputable def mkConst {P : Program} (f : FuncId) (gids : List Nat) (ys : List XV) (res : XV) (hf : CallI P f) (h : DoesG P f [] (gids.zip (asOf ys)) res.a) (hd : datL ys = true) (hr : isData res.a = true) : Ent P where
  id := f
  run := constRun gids ys res
  ok := by
    intro R o st args ts vs K r ho hv hrun
    unfold constRun at hrun
    split at hrun
    · split at hrun
      · rename_i us hus
        obtain ⟨he, hk⟩ := c2 hrun
        clear hrun
        have e := eqPas_eq he
        subst e
        have ha : args = #[] := by
          have := xevals_len hv
          exact Array.eq_empty_of_size_eq_zero (by simpa using this.symm)
        subst ha
        refine ⟨_, hk, quietO_ok (fun p hp => xevals_sees hus p hp) fun X => ?_⟩
        have := op_callG (P := P) (o := o) (X := X) (gids := gids) (xs := asOf us) (res := res.a) ho hf h (by simp) (datL_areData hd) hr
        rw [imRd_zip, gops_map]
        simpa using this
      · cases hrun
    · cases hrun
end Go.Xl
