import Derived.Test.YtncajhpecibcnaaGreatDoorZd
import Derived.Test.YtncajhpecibcnaaGreatDoorZb
import Derived.Test.YtncajhpecibcnaaGreatDoorZc
import Derived.Test.YtncajhpecibcnaaGreatDoorZa
import Derived.Laws.CopyRow
set_option linter.unusedVariables false
set_option linter.unusedSimpArgs false
set_option linter.unnecessarySimpa false
namespace Go.Xl
open Go.Ab
inductive An where
  | lf
  | seq (a b : An)
  | join (c : Cut) (a b : An)
  | cond (a b : An)
  | blk (a : An)
  | loop (c : Cut) (a : An)
  | stop
  | fg (a b : An)
  /-- between the two: the slices in these slots own their blocks no longer; they are data -/
  | fz (ts : List Nat) (a b : An)
noncomputable def An.l : An → An
  | .seq a _ => a
  | .cond a _ => a
  | .blk a => a
  | .join _ a _ => a
  | .loop _ a => a
  | .lf => .lf
  | .stop => .lf
  | .fg a _ => a
  | .fz _ a _ => a
noncomputable def An.r : An → An
  | .seq _ b => b
  | .cond _ b => b
  | .join _ _ b => b
  | _ => .lf
noncomputable def unstop {R : Type} : An → Option R → Option R
  | .stop, _ => none
  | _, x => x
theorem unstop_some {R : Type} {an : An} {x : Option R} {r : R} (h : unstop an x = some r) : x = some r := by
  cases an <;> first | exact h | cases h
noncomputable def iter {σ : Type} {R : Type} (f : (σ → Option R) → σ → Option R) : Nat → σ → Option R
  | 0, _ => none
  | n + 1, x => f (iter f n) x
noncomputable def joinAt {σ : Type} {R : Type} (k : σ → Option R) (f : (σ → Option R) → Option R) : Option R := f k
noncomputable def optCase {α β : Type} (x : Option α) (a : β) (f : α → β) : β :=
  match x with
  | none => a
  | some y => f y
noncomputable def caseOwn {R : Type} : (l : List (Tmp × Nat × Ty)) → OwnT l → (OwnT l → Option R) → Option R
  | [], u, K => K u
  | _ :: r, u, K => optCase u.1 (caseOwn r u.2 fun v => K (none, v)) (fun y => caseOwn r u.2 fun v => K (some y, v))
theorem caseOwn_eq {R : Type} : ∀ (l : List (Tmp × Nat × Ty)) (u : OwnT l) (K : OwnT l → Option R), caseOwn l u K = K u
  | [], u, K => rfl
  | p :: r, u, K => by
    obtain ⟨a, v⟩ := u
    unfold caseOwn
    cases a with
    | none => exact caseOwn_eq r v _
    | some y => exact caseOwn_eq r v _
noncomputable def fzK {R : Type} : List Nat → XSt → (XSt → Option R) → Option R
  | [], s, K => K s
  | t :: ts, s, K => match lk t s.env with
    | some (.os k ty a n) => match lk k s.objs with
      | some (.arr u l) => cond (u.eqb ty) (cond (Nat.ble 1000 k) (cond (Nat.ble (a + n) l.length)
          (fzK ts ⟨(t, .d (.sl u ((l.drop a).take n))) :: s.env, dropX k s.objs, s.live, t :: s.wl, k :: s.ol⟩ K) none) none) none
      | _ => none
    | _ => fzK ts s K
noncomputable def exitIs (i j : Nat) : Bool := Nat.beq i j
noncomputable def base (st : XSt) : XSt := ⟨st.env, st.objs, st.live, [], []⟩
noncomputable def relog (c : Cut) (st s : XSt) : XSt := ⟨s.env, s.objs, s.live, s.wl ++ ((slotsOf c.vars ++ ownSlots c.own) ++ st.wl), s.ol ++ ((namesOf c.objs ++ (ownNames c.own ++ arrNames c.arrs)) ++ st.ol)⟩
noncomputable def relog0 (st s : XSt) : XSt := ⟨s.env, s.objs, s.live, s.wl ++ st.wl, s.ol ++ st.ol⟩
section
variable (P : Program) (Γ : List (Ent P)) (own nm : List Nat) (nt N : Nat) {R : Type}
noncomputable def onNormal (f : XSt → Option R) (K : Exit → XSt → Option R) : Exit → XSt → Option R
  | .normal, s => f s
  | e, s => K e s
noncomputable def onBlock (id : Nat) (K : Exit → XSt → Option R) : Exit → XSt → Option R
  | .exit j, s => cond (exitIs j id) (K .normal s) (K (.exit j) s)
  | e, s => K e s
noncomputable def knowOp (x : Operand) (b : Bool) (st : XSt) : XSt :=
  match x with
  | .tmp t => knowSt t b st
  | _ => st
noncomputable def exec : Code → An → XSt → (Exit → XSt → Option R) → Option R
  | .skip, _, st, K => K .normal st
  | .label _, _, st, K => K .normal st
  | .exit id, _, st, K => K (.exit id) st
  | .ret, _, st, K => K .ret st
  | .region _ ops draw, _, st, K => xops P Γ own nt ops draw st.env (K .normal) ops.toList [] st
  | .seq a b, an, st, K =>
    match an with
    | .join c x y =>
      joinAt (fun z => caseOwn c.own z.2.2.1 fun u => exec b y (relog c st (gen (base st) c (z.1, z.2.1, u, z.2.2.2))) K)
        (fun k => exec a x (base st) (onNormal (fun s => Option.bind (proj nm (keepL (base st) c) c s) k) (fun e s => K e (relog0 st s))))
    | .fg x y => exec a x st (onNormal (fun s => exec b y (fgSt s) K) K)
    | .fz ts x y => exec a x st (onNormal (fun s => fzK ts s fun s' => exec b y s' K) K)
    | _ => exec a an.l st (onNormal (fun s => exec b an.r s K) K)
  | .cond c a b, an, st, K =>
    match xeval st c with
    | some (.d (.b v)) => cond v (unstop an.l (exec a an.l (knowOp c true st) K)) (unstop an.r (exec b an.r (knowOp c false st) K))
    | _ => none
  | .block id c, an, st, K => exec c an.l st (onBlock id K)
  | .loop b, an, st, K =>
    match an with
    | .loop c x => Option.bind (proj nm (keepL (base st) c) c (base st)) (iter (fun rec z => caseOwn c.own z.2.2.1 fun u => exec b x (gen (base st) c (z.1, z.2.1, u, z.2.2.2)) (onNormal (fun s => Option.bind (proj nm (keepL (base st) c) c s) rec) (fun e s => K e (relog c st s)))) N)
    | _ => none
  | _, _, _, _ => none
end
section
variable {P : Program} {Γ : List (Ent P)} {own nm : List Nat} {N : Nat} {R : Type}
noncomputable def PostE (s0 : XSt) (K : Exit → XSt → Option R) (r : R) : Exit → St → Prop := fun e s => ∃ st', s = st'.im ∧ Inv s0 st' ∧ K e st' = some r
theorem genVars_slot {t : Nat} {y : XV} : ∀ (l : List (Tmp × VK)) (x : VarsT l), (t, y) ∈ genVars l x → t ∈ slotsOf l
  | [], x, h => by simp [genVars] at h
  | p :: r, x, h => by
    simp only [genVars, List.mem_cons] at h
    simp only [slotsOf, List.mem_cons]
    rcases h with h | h
    · cases h; exact .inl rfl
    · exact .inr (genVars_slot r _ h)
theorem genOwnE_slot {t : Nat} {y : XV} : ∀ (l : List (Tmp × Nat × Ty)) (x : OwnT l), (t, y) ∈ genOwnE l x → t ∈ ownSlots l
  | [], x, h => by simp [genOwnE] at h
  | p :: r, x, h => by
    simp only [genOwnE, List.mem_cons] at h
    simp only [ownSlots, List.mem_cons]
    rcases h with h | h
    · cases h; exact .inl rfl
    · exact .inr (genOwnE_slot r _ h)
theorem genObjs_name {k : Nat} {y : XOb} : ∀ (l : List (Nat × List VK × Option TypeId)) (x : ObjsT l), (k, y) ∈ genObjs l x → k ∈ namesOf l
  | [], x, h => by simp [genObjs] at h
  | p :: r, x, h => by
    simp only [genObjs, List.mem_cons] at h
    simp only [namesOf, List.mem_cons]
    rcases h with h | h
    · cases h; exact .inl rfl
    · exact .inr (genObjs_name r _ h)
theorem lk_gen {s0 : XSt} {c : Cut} {x : c.T} {t : Nat} {y : XV} (h : lk t (gen s0 c x).env = some y) : t ∈ slotsOf c.vars ++ ownSlots c.own ∨ lk t s0.env = some y := by
  rcases List.mem_append.1 (lk_mem h) with hm | hm
  · exact .inl (List.mem_append_left _ (genVars_slot _ _ hm))
  · rcases List.mem_append.1 hm with hm | hm
    · exact .inl (List.mem_append_right _ (genOwnE_slot _ _ hm))
    · exact .inr (keepEnv_mem hm).2
theorem lk_genO {s0 : XSt} {c : Cut} {x : c.T} {t : Nat} {y : XOb} (h : lk t (gen s0 c x).objs = some y) : t ∈ namesOf c.objs ++ (ownNames c.own ++ arrNames c.arrs) ∨ lk t s0.objs = some y := by
  rcases List.mem_append.1 (lk_mem h) with hm | hm
  · exact .inl (List.mem_append_left _ (genObjs_name _ _ hm))
  · rcases List.mem_append.1 hm with hm | hm
    · exact .inl (List.mem_append_right _ (List.mem_append_left _ (genOwnO_arr hm).1))
    · rcases List.mem_append.1 hm with hm | hm
      · exact .inl (List.mem_append_right _ (List.mem_append_right _ (by rw [← genArrs_names]; exact List.mem_map_of_mem (f := (·.1)) hm)))
      · exact .inr (keepObjs_mem hm).2
theorem Inv.relog {s0 st s : XSt} {c : Cut} {x : c.T} (h : Inv s0 st) (h' : Inv (gen (base st) c x) s) : Inv s0 (relog c st s) := by
  refine ⟨fun t y ht hy => ?_, fun k y hk hy => ?_⟩
  · unfold Xl.relog at ht hy
    simp only at ht hy
    rw [List.mem_append, List.mem_append (s := slotsOf c.vars ++ ownSlots c.own), not_or, not_or] at ht
    have h1 := h'.env t y ht.1 hy
    rcases lk_gen h1 with h2 | h2
    · exact absurd h2 ht.2.1
    · exact h.env t y ht.2.2 h2
  · unfold Xl.relog at hk hy
    simp only at hk hy
    rw [List.mem_append, List.mem_append (s := namesOf c.objs ++ (ownNames c.own ++ arrNames c.arrs)), not_or, not_or] at hk
    have h1 := h'.objs k y hk.1 hy
    rcases lk_genO h1 with h2 | h2
    · exact absurd h2 hk.2.1
    · exact h.objs k y hk.2.2 h2
theorem Inv.relog0 {s0 st s : XSt} (h : Inv s0 st) (h' : Inv (base st) s) : Inv s0 (relog0 st s) := by
  refine ⟨fun t y ht hy => ?_, fun k y hk hy => ?_⟩
  · simp only [Xl.relog0, List.mem_append, not_or] at ht hy
    exact h.env t y ht.2 (h'.env t y ht.1 hy)
  · simp only [Xl.relog0, List.mem_append, not_or] at hk hy
    exact h.objs k y hk.2 (h'.objs k y hk.1 hy)
theorem Inv.fg {s0 s : XSt} (h : Inv s0 s) : Inv s0 (fgSt s) := by
  refine ⟨h.env, fun k x hk hx => ?_⟩
  simp only [fgSt, List.mem_append, not_or] at hk hx
  rw [lk_fg] at hx
  cases hl : lk k s.objs with
  | none => rw [hl] at hx; cases hx
  | some o =>
    rw [hl] at hx
    simp only [Option.map_some, Option.some.injEq] at hx
    cases hm : isMapt o with
    | true => exact absurd (fgNames_mem hl hm) hk.1
    | false =>
      rw [fgOb_plain hm] at hx
      subst hx
      exact h.objs k o hk.2 hl
theorem fzK_ok {S : Sig} {R : Type} {K : XSt → Option R} {r : R} {s0 : XSt} : ∀ (ts : List Nat) (s : XSt), Inv s0 s → fzK ts s K = some r →
    ∃ s', K s' = some r ∧ Inv s0 s' ∧ ∀ (B : Base) (g : Gh) (w : World) (a : Act), SR S B g w s.im a → ∃ g', SR S B g' w s'.im a
  | [], s, hi, h => ⟨s, h, hi, fun B g w a hs => ⟨g, hs⟩⟩
  | t :: ts, s, hi, h => by
    unfold fzK at h
    split at h
    · rename_i k ty a n ht
      split at h
      · rename_i u l hk
        cases h1 : u.eqb ty with
        | false => simp [h1] at h
        | true =>
        cases h2 : Nat.ble 1000 k with
        | false => simp [h1, h2] at h
        | true =>
        cases h3 : Nat.ble (a + n) l.length with
        | false => simp [h1, h2, h3] at h
        | true =>
          simp only [h1, h2, h3, cond_true] at h
          have e1 := Ty.eqb_eq h1
          subst e1
          have e2 := Nat.le_of_ble_eq_true h2
          have e3 := Nat.le_of_ble_eq_true h3
          have hi' : Inv s0 ⟨(t, .d (.sl u ((l.drop a).take n))) :: s.env, dropX k s.objs, s.live, t :: s.wl, k :: s.ol⟩ := by
            refine ⟨fun t' x ht' hx => ?_, fun k' x hk' hx => ?_⟩
            · simp only [List.mem_cons, not_or] at ht'
              rw [lk_cons_ne ht'.1] at hx
              exact hi.env t' x ht'.2 hx
            · simp only [List.mem_cons, not_or] at hk'
              exact hi.objs k' x hk'.2 (lk_dropX hx)
          obtain ⟨s', q1, q2, q3⟩ := fzK_ok ts _ hi' h
          refine ⟨s', q1, q2, fun B g w act hs => ?_⟩
          have hnm : k ∉ S.names := fun hm => by have := S.small k hm; omega
          have ho : s.im.X.objs.lookup k = some (.cells ((l.map u.ds).flatten.map .d) none) := lk_imA hk
          obtain ⟨f1, f2, f3⟩ := hs.hr.freeze (k := k) (sz := u.size) (es := l.map u.ds) hnm ho (by
            intro i cs hcs
            rw [List.getElem?_map, Option.map_eq_some_iff] at hcs
            obtain ⟨x, _, rfl⟩ := hcs
            exact u.ds_length x)
          have hX : Ab.dropObj k s.im.X = ⟨imObjs (dropX k s.objs), s.live⟩ := by
            rw [dropX_im]; rfl
          rw [hX] at f1
          refine q3 B _ w act ⟨hs.defers, hs.size, f1, ?_⟩
          intro t' x hx
          have hx : (imEnv ((t, .d (.sl u ((l.drop a).take n))) :: s.env)).lookup t' = some x := hx
          rw [im_env] at hx
          by_cases he : t' = t
          · subst he
            simp only [lk_cons, lk_nil, Nat.beq_refl, cond_true, Option.map_some, Option.some.injEq] at hx
            subst hx
            obtain ⟨v, hv, hr⟩ := hs.env t' (XV.os k u a n).a (by
              show (imEnv s.env).lookup t' = _
              rw [im_env, ht]; rfl)
            refine ⟨v, hv, ?_⟩
            have := f3 a n v (by simpa using e3) hr
            rw [← List.map_drop, ← List.map_take] at this
            exact this
          · rw [lk_cons_ne he, ← im_env] at hx
            obtain ⟨v, hv, hr⟩ := hs.env t' x hx
            exact ⟨v, hv, hr.mono f2 (.nil _)⟩
      · cases h
    · exact fzK_ok ts s hi h
theorem Inv.base (st : XSt) : Inv (base st) (Xl.base st) := .refl _
theorem knowOp_ok {S : Sig} {st : XSt} {x : Operand} {b : Bool} {s0 : XSt} (hx : xeval st x = some (.d (.b b))) (hi : Inv s0 st) :
    Inv s0 (knowOp x b st) ∧ ∀ (B : Base) (g : Gh) (w : World) (a : Act), SR S B g w st.im a → SR S B g w (knowOp x b st).im a := by
  cases x with
  | tmp t =>
    replace hx := (xeval_tmp hx).2
    exact ⟨hi.know hx, fun B g w a h => h.known (lk_sees hx)⟩
  | const v => exact ⟨hi, fun _ _ _ _ h => h⟩
  | func f => exact ⟨hi, fun _ _ _ _ h => h⟩
  | global g => exact ⟨hi, fun _ _ _ _ h => h⟩
theorem range_spec (ops : Array Oper) : ∀ (j : Nat) o, ops.toList[j]? = some o → ops[0 + j]? = some o := by
  intro j o h
  rw [Nat.zero_add]
  simpa using h
theorem awp_conseq {S : Sig} {c : Code} {Q Q' : Exit → St → Prop} {st : St} (h : AWp P S c Q st) (hq : ∀ e s, Q e s → ∀ (B : Base) (g : Gh) (w : World) (a : Act), SR S B g w s a → ∃ s' g', Q' e s' ∧ SR S B g' w s' a) : AWp P S c Q' st := by
  intro B g w a hs
  refine wp_mono (h B g w a hs) ?_
  rintro e a' w' ⟨s, g', q, hs'⟩
  exact hq e s q B g' w' a' hs'
theorem exec_sound (hm : P.follows .mixedOrders = true) {S : Sig} (hnm : S.names = nm) : ∀ (c : Code) (an : An) (st s0 : XSt) (K : Exit → XSt → Option R) (r : R), Inv s0 st →
    exec P Γ own nm S.N N c an st K = some r → AWp P S c (PostE s0 K r) st.im := by
  intro c
  induction c with
  | skip => intro an st s0 K r hi h; exact awp_skip ⟨st, rfl, hi, h⟩
  | label l => intro an st s0 K r hi h; exact awp_label ⟨st, rfl, hi, h⟩
  | exit id => intro an st s0 K r hi h; exact awp_exit ⟨st, rfl, hi, h⟩
  | ret => intro an st s0 K r hi h; exact awp_ret ⟨st, rfl, hi, h⟩
  | region id ops draw =>
    intro an st s0 K r hi h
    simp only [exec] at h
    cases draw with
    | false =>
      have := xops_rw (S := S) ops.toList 0 [] st (range_spec ops) hi h
      refine awp_rw (n := ops.toList.length) (by simp) ?_
      rw [List.range_eq_range']
      exact this
    | true =>
      have := xops_dw (S := S) ops.toList 0 [] st (range_spec ops) hi h
      exact awp_dw ops.toList.length hm this
  | seq a b iha ihb =>
    intro an st s0 K r hi h
    have plain : exec P Γ own nm S.N N a an.l st (onNormal (fun s => exec P Γ own nm S.N N b an.r s K) K) = some r → AWp P S (.seq a b) (PostE s0 K r) st.im := by
      intro h
      refine awp_seq (awp_mono (iha _ st s0 _ r hi h) ?_)
      rintro e s ⟨st', rfl, hi', hk⟩
      cases e with
      | normal => exact ihb _ st' s0 K r hi' hk
      | _ => exact ⟨st', rfl, hi', hk⟩
    unfold exec at h
    split at h
    · rename_i cut x y
      unfold joinAt at h
      refine awp_seq (awp_mono (iha x (base st) (base st) _ r (.refl _) h) ?_)
      rintro e s ⟨st', rfl, hi', hk⟩
      cases e with
      | normal =>
        simp only [onNormal, Option.bind_eq_some_iff] at hk
        obtain ⟨z, hz, hk⟩ := hk
        rw [caseOwn_eq] at hk
        intro B g w act hs
        obtain ⟨g', hs'⟩ := cut_sound (s0 := base st) hz (fun t _ => hi'.env t) (fun k _ => hi'.objs k) hs hnm
        refine ihb y (relog cut st (gen (base st) cut z)) s0 K r (hi.relog (.refl _)) hk B g' w act hs'
      | _ => exact ⟨relog0 st st', rfl, hi.relog0 hi', hk⟩
    · rename_i x y
      refine awp_seq (awp_mono (iha x st s0 _ r hi h) ?_)
      rintro e s ⟨st', rfl, hi', hk⟩
      cases e with
      | normal => exact fun B g w act hs => ihb y (fgSt st') s0 K r hi'.fg hk B g w act (SR.fg hs)
      | _ => exact ⟨st', rfl, hi', hk⟩
    · rename_i ts x y
      refine awp_seq (awp_mono (iha x st s0 _ r hi h) ?_)
      rintro e s ⟨st', rfl, hi', hk⟩
      cases e with
      | normal =>
        obtain ⟨s', q1, q2, q3⟩ := fzK_ok (S := S) ts st' hi' hk
        exact fun B g w act hs => let ⟨g', hs'⟩ := q3 B g w act hs; ihb y s' s0 K r q2 q1 B g' w act hs'
      | _ => exact ⟨st', rfl, hi', hk⟩
    · exact plain h
  | cond c a b iha ihb =>
    intro an st s0 K r hi h
    unfold exec at h
    split at h
    · rename_i v hv
      have hsees := xeval_sees hv
      refine awp_cond (b := v) hsees (fun hb => ?_) (fun hb => ?_)
      · subst hb
        simp only [cond_true] at h
        replace h := unstop_some h
        obtain ⟨k1, k2⟩ := knowOp_ok (S := S) hv hi
        intro B g w act hs
        exact iha _ _ s0 K r k1 h B g w act (k2 B g w act hs)
      · subst hb
        simp only [cond_false] at h
        replace h := unstop_some h
        obtain ⟨k1, k2⟩ := knowOp_ok (S := S) hv hi
        intro B g w act hs
        exact ihb _ _ s0 K r k1 h B g w act (k2 B g w act hs)
    · cases h
  | block id c ih =>
    intro an st s0 K r hi h
    simp only [exec] at h
    refine awp_block (awp_mono (ih _ st s0 _ r hi h) ?_)
    rintro e s ⟨st', rfl, hi', hk⟩
    cases e with
    | exit j =>
      simp only [onBlock, exitIs] at hk
      simp only [blockQ]
      cases hb : Nat.beq j id with
      | true =>
        simp only [hb, cond_true] at hk
        rw [if_pos (Nat.eq_of_beq_eq_true hb)]
        exact ⟨st', rfl, hi', hk⟩
      | false =>
        simp only [hb, cond_false] at hk
        rw [if_neg (Nat.ne_of_beq_eq_false hb)]
        exact ⟨st', rfl, hi', hk⟩
    | _ => exact ⟨st', rfl, hi', hk⟩
  | loop b ih =>
    intro an st s0 K r hi h
    unfold exec at h
    split at h
    · rename_i cut x
      obtain ⟨z0, hz0, h⟩ := Option.bind_eq_some_iff.1 h
      intro B g w act hs
      obtain ⟨g', hs'⟩ := cut_sound (s0 := base st) hz0 (fun _ _ _ _ h => h) (fun _ _ _ _ h => h) hs hnm
      generalize hf : (fun (rec : cut.T → Option R) (z : cut.T) => caseOwn cut.own z.2.2.1 fun u => exec P Γ own nm S.N N b x (gen (base st) cut (z.1, z.2.1, u, z.2.2.2)) (onNormal (fun s => Option.bind (proj nm (keepL (base st) cut) cut s) rec) (fun e s => K e (relog cut st s)))) = f at h
      have key : ∀ (n : Nat) (z : cut.T), iter f n z = some r → AWp P S (.loop b) (PostE s0 K r) (gen (base st) cut z).im := by
        intro n z hn
        refine awp_loop (fun n s => ∃ z, iter f n z = some r ∧ s = (gen (base st) cut z).im) n ⟨z, hn, rfl⟩ ?_
        rintro n s ⟨z, hn, rfl⟩
        cases n with
        | zero => simp [iter] at hn
        | succ n =>
          simp only [iter] at hn
          rw [← hf] at hn
          replace hn := (caseOwn_eq _ _ _).symm.trans hn
          refine awp_conseq (ih x _ (gen (base st) cut z) _ r (.refl _) hn) ?_
          rintro e s ⟨st', rfl, hi', hk⟩ B g w act hs
          cases e with
          | normal =>
            simp only [onNormal, Option.bind_eq_some_iff] at hk
            obtain ⟨z', hz', hk⟩ := hk
            obtain ⟨ap1, ap2⟩ := proj_apart hz'
            obtain ⟨g', hs'⟩ := cut_sound (s := st') (s0 := base st) hz' (fun t ht y hw hy => (lk_gen (hi'.env t y hw hy)).resolve_left (ap1 t ht)) (fun k hk y hw hy => (lk_genO (hi'.objs k y hw hy)).resolve_left (ap2 k hk)) hs hnm
            exact ⟨_, g', ⟨n, Nat.lt_succ_self n, z', by rw [hf] at hk; exact hk, rfl⟩, hs'⟩
          | _ => exact ⟨_, g, ⟨relog cut st st', rfl, hi.relog hi', hk⟩, hs⟩
      exact key N z0 h B g' w act hs'
    · cases h
  | _ =>
    intros
    simp_all [exec]
end
end Go.Xl
set_option linter.unusedVariables false
set_option linter.unusedSimpArgs false
set_option linter.unnecessarySimpa false
namespace Go.Xl
open Go.Ab
@[reducible] noncomputable def Fun : List Ty → Type → Type
  | [], R => R
  | t :: r, R => t.T → Fun r R
@[reducible] noncomputable def ResT : List Ty → Type
  | [] => Unit
  | [t] => t.T
  | t :: u :: r => t.T × ResT (u :: r)
noncomputable def resL : (ts : List Ty) → ResT ts → List XV
  | [], _ => []
  | [t], x => [.d (t.xv x)]
  | t :: u :: r, x => .d (t.xv x.1) :: resL (u :: r) x.2
noncomputable def tupX : List XV → XV
  | [x] => x
  | l => .tup l
noncomputable def resXV (ts : List Ty) (x : ResT ts) : XV := tupX (resL ts x)
theorem tupX_a (l : List XV) : (tupX l).a = tupled (asOf l) := by
  cases l with
  | nil => rfl
  | cons x r => cases r <;> rfl
noncomputable def decRes : (ts : List Ty) → List XV → Option (ResT ts)
  | [], [] => some ()
  | [t], [x] => decXVr t x
  | t :: u :: r, x :: xs => match decXVr t x, decRes (u :: r) xs with
    | some y, some ys => some (y, ys)
    | _, _ => none
  | _, _ => none
inductive AsLe : List AV → List AV → Prop
  | nil : AsLe [] []
  | cons {x y : AV} {r s : List AV} : ALe x y → AsLe r s → AsLe (x :: r) (y :: s)
theorem AsLe.length {a b : List AV} (h : AsLe a b) : a.length = b.length := by
  induction h with
  | nil => rfl
  | cons _ _ ih => simp [ih]
theorem AsLe.get {a b : List AV} (h : AsLe a b) : ∀ {i : Nat} {y : AV}, b[i]? = some y → ∃ x, a[i]? = some x ∧ ALe x y := by
  induction h with
  | nil => intro i y hy; simp at hy
  | cons h1 _ ih =>
    intro i y hy
    cases i with
    | zero => simp at hy; subst hy; exact ⟨_, rfl, h1⟩
    | succ i => simp at hy; simpa using ih hy
theorem AsLe.tup {a b : List AV} (h : AsLe a b) : ALe (.tup a) (.tup b) := by
  intro g w v hr
  cases hr with
  | tup _ vs hl hc =>
    refine .tup b vs (h.length ▸ hl) fun i c u hb hu => ?_
    obtain ⟨x, hx, hle⟩ := h.get hb
    exact hle _ _ _ (hc i x u hx hu)
theorem decRes_le : ∀ {ts : List Ty} {xs : List XV} {y : ResT ts}, decRes ts xs = some y → AsLe (asOf xs) (asOf (resL ts y))
  | [], xs, y, h => by
    cases xs with
    | nil => exact .nil
    | cons _ _ => simp [decRes] at h
  | [t], xs, y, h => by
    cases xs with
    | nil => simp [decRes] at h
    | cons x r =>
      cases r with
      | nil => exact .cons (decXVr_le h) .nil
      | cons _ _ => simp [decRes] at h
  | t :: u :: r, xs, y, h => by
    cases xs with
    | nil => simp [decRes] at h
    | cons x xs =>
      simp only [decRes] at h
      split at h
      · rename_i y1 ys h1 h2
        cases h
        exact .cons (decXVr_le h1) (decRes_le h2)
      · cases h
theorem resXV_le {ts : List Ty} {xs : List XV} {y : ResT ts} (h : decRes ts xs = some y) : ALe (tupX xs).a (resXV ts y).a := by
  have hl := decRes_le h
  unfold resXV
  rw [tupX_a, tupX_a]
  generalize asOf xs = a at hl
  generalize asOf (resL ts y) = b at hl
  cases hl with
  | nil => exact .refl _
  | cons h1 h2 =>
    cases h2 with
    | nil => exact h1
    | cons h3 h4 => exact (AsLe.cons h1 (.cons h3 h4)).tup
noncomputable def xres (P : Program) (st : XSt) : List ResultVar → Option (List XV)
  | [] => some []
  | .tmp t :: r => match xeval st (.tmp t), xres P st r with
    | some x, some l => some (x :: l)
    | _, _ => none
  | .cell a ty :: r => match xeval st (.tmp a), tyI P ty, xres P st r with
    | some (.nm k (.p off)), some (agg, sz), some l => match lk k st.objs with
      | some (.cells cs _) => cond agg (cond (Nat.ble (off + sz) cs.length) (some (xjoin ((cs.drop off).take sz) :: l)) none)
          (cond (Nat.beq sz 1) (match cs[off]? with
            | some v => some (v :: l)
            | none => none) none)
      | _ => none
    | _, _, _ => none
theorem xres_ok {P : Program} {st : XSt} : ∀ {rs : List ResultVar} {xs : List XV}, xres P st rs = some xs → RVs P st.im rs (asOf xs)
  | [], xs, h => by simp [xres] at h; subst h; exact .nil
  | .tmp t :: r, xs, h => by
    simp only [xres] at h
    split at h
    · rename_i x l hx hl
      cases h
      exact .cons _ _ _ _ (.tmp t _ (xeval_tmp hx).1 (.eq _ (lk_sees (xeval_tmp hx).2))) (xres_ok hl)
    · cases h
  | .cell a ty :: r, xs, h => by
    simp only [xres] at h
    split at h
    · rename_i k off agg sz l ha ht hl
      have hT := tyI_I ht
      split at h
      · rename_i cs oty hk
        have hk' := lk_im hk
        cases agg with
        | true =>
          simp only [cond_true] at h
          cases hb : Nat.ble (off + sz) cs.length with
          | false => simp [hb] at h
          | true =>
            simp only [hb, cond_true, Option.some.injEq] at h
            subst h
            simp only [asOf]
            refine .cons _ _ _ _ (.cell a ty k off _ (xeval_tmp ha).1 (.eq _ (lk_sees (xeval_tmp ha).2)) (.agg sz (asOf cs) oty _ hT hk' (by rw [asOf_length]; exact Nat.le_of_ble_eq_true hb) ?_)) (xres_ok hl)
            rw [xjoin_a, asOf_take, asOf_drop]
        | false =>
          simp only [cond_false] at h
          cases hb : Nat.beq sz 1 with
          | false => simp [hb] at h
          | true =>
            have := Nat.eq_of_beq_eq_true hb
            subst this
            simp only [hb, cond_true] at h
            split at h
            · rename_i v hv
              cases h
              exact .cons _ _ _ _ (.cell a ty k off _ (xeval_tmp ha).1 (.eq _ (lk_sees (xeval_tmp ha).2)) (.one (asOf cs) oty _ hT hk' (by rw [asOf_get, hv]; rfl))) (xres_ok hl)
            · cases h
      · cases h
    · cases h
noncomputable def envX : Nat → List XV → List (Nat × XV)
  | _, [] => []
  | n, x :: r => (n, x) :: envX (n + 1) r
theorem envX_im (n : Nat) (l : List XV) : imEnv (envX n l) = envOf n (asOf l) := by
  induction l generalizing n with
  | nil => rfl
  | cons x r ih => simp only [envX, imEnv, List.map_cons, asOf, envOf] at ih ⊢; rw [ih]
noncomputable def frz : List XV → List (Nat × XOb) → Option (List XV × List (Nat × XOb))
  | [], objs => some ([], objs)
  | .os k t a len :: r, objs => match lk k objs with
    | some (.arr u l) => cond (u.eqb t) (cond (Nat.ble (a + len) l.length) (match frz r (dropX k objs) with
      | some (ys, o) => some (.d (.sl u ((l.drop a).take len)) :: ys, o)
      | none => none) none) none
    | _ => none
  | x :: r, objs => match frz r objs with
    | some (ys, o) => some (x :: ys, o)
    | none => none
inductive AsTo (g : Gh) (g' : Gh) (w : World) : List XV → List XV → Prop
  | nil : AsTo g g' w [] []
  | cons {x y : XV} {r s : List XV} : (∀ v, RA g w x.a v → RA g' w y.a v) → AsTo g g' w r s → AsTo g g' w (x :: r) (y :: s)
theorem AsTo.pre {g g1 g' : Gh} {w : World} {l m : List XV} (h : AsTo g1 g' w l m) (ht : Trans [] g w g1 w) : AsTo g g' w l m := by
  induction h with
  | nil => exact .nil
  | cons h1 _ ih => exact .cons (fun v hv => h1 v (hv.mono ht (.nil _))) ih
theorem AsTo.post {g g1 g' : Gh} {w : World} {l m : List XV} (h : AsTo g g1 w l m) (ht : Trans [] g1 w g' w) : AsTo g g' w l m := by
  induction h with
  | nil => exact .nil
  | cons h1 _ ih => exact .cons (fun v hv => (h1 v hv).mono ht (.nil _)) ih
theorem AsTo.length {g g' : Gh} {w : World} {l m : List XV} (h : AsTo g g' w l m) : l.length = m.length := by
  induction h with
  | nil => rfl
  | cons _ _ ih => simp [ih]
theorem AsTo.get {g g' : Gh} {w : World} {l m : List XV} (h : AsTo g g' w l m) : ∀ {i : Nat} {y : XV}, m[i]? = some y → ∃ x, l[i]? = some x ∧ ∀ v, RA g w x.a v → RA g' w y.a v := by
  induction h with
  | nil => intro i y hy; simp at hy
  | cons h1 _ ih =>
    intro i y hy
    cases i with
    | zero => simp at hy; subst hy; exact ⟨_, rfl, h1⟩
    | succ i => simp at hy; simpa using ih hy
theorem AsTo.tupX {g g' : Gh} {w : World} {l m : List XV} (h : AsTo g g' w l m) {v : Value} (hr : RA g w (tupX l).a v) : RA g' w (tupX m).a v := by
  have tup : ∀ l m : List XV, AsTo g g' w l m → RA g w (.tup (asOf l)) v → RA g' w (.tup (asOf m)) v := by
    intro l m h hr
    cases hr with
    | tup _ vs hl hc =>
      refine .tup _ vs (by rw [asOf_length, ← h.length, ← asOf_length]; exact hl) fun i c u hb hu => ?_
      rw [asOf_get, Option.map_eq_some_iff] at hb
      obtain ⟨y, hy, rfl⟩ := hb
      obtain ⟨x, hx, hxy⟩ := h.get hy
      exact hxy u (hc i x.a u (by rw [asOf_get, hx]; rfl) hu)
  cases h with
  | nil => exact tup [] [] .nil hr
  | cons h1 h2 =>
    cases h2 with
    | nil => exact h1 v hr
    | cons h3 h4 => exact tup _ _ (.cons h1 (.cons h3 h4)) hr
theorem frz_ok {B : Base} {w : World} {live : List Nat} : ∀ {xs ys : List XV} {objs objs' : List (Nat × XOb)}, frz xs objs = some (ys, objs') → ∀ g, HR [] B g w ⟨imObjs objs, live⟩ →
    ∃ g', HR [] B g' w ⟨imObjs objs', live⟩ ∧ Trans [] g w g' w ∧ AsTo g g' w xs ys
  | [], ys, objs, objs', h, g, hr => by
    simp only [frz, Option.some.injEq, Prod.mk.injEq] at h
    obtain ⟨rfl, rfl⟩ := h
    exact ⟨g, hr, .refl _ _ _, .nil⟩
  | x :: r, ys, objs, objs', h, g, hr => by
    have other : (match frz r objs with | some (ys, o) => some (x :: ys, o) | none => none) = some (ys, objs') → ∃ g', HR [] B g' w ⟨imObjs objs', live⟩ ∧ Trans [] g w g' w ∧ AsTo g g' w (x :: r) ys := by
      intro h
      split at h
      · rename_i zs o hz
        cases h
        obtain ⟨g', h1, h2, h3⟩ := frz_ok hz g hr
        exact ⟨g', h1, h2, .cons (fun v hv => hv.mono h2 (.nil _)) h3⟩
      · cases h
    cases x with
    | os k t a len =>
      simp only [frz] at h
      split at h
      · rename_i u l hk
        cases h1 : u.eqb t with
        | false => simp [h1] at h
        | true =>
        cases h2 : Nat.ble (a + len) l.length with
        | false => simp [h1, h2] at h
        | true =>
          simp only [h1, h2, cond_true] at h
          split at h
          · rename_i zs o hz
            cases h
            have := Ty.eqb_eq h1
            subst this
            have ho := lk_imA hk
            obtain ⟨f1, f2, f3⟩ := hr.freeze (k := k) (sz := u.size) (es := l.map u.ds) (ty := none) (by simp) ho (by
              intro i cs hc
              rw [List.getElem?_map, Option.map_eq_some_iff] at hc
              obtain ⟨y, _, rfl⟩ := hc
              exact u.ds_length y)
            have e : Ab.dropObj k ⟨imObjs objs, live⟩ = ⟨imObjs (dropX k objs), live⟩ := by
              rw [dropX_im]; rfl
            rw [e] at f1
            obtain ⟨g', h3, h4, h5⟩ := frz_ok hz _ f1
            refine ⟨g', h3, f2.trans h4, .cons (fun v hv => ?_) (h5.pre f2)⟩
            have hle := Nat.le_of_ble_eq_true h2
            have := f3 a len v (by simpa using hle) hv
            have := this.mono h4 (.nil _)
            simp only [XV.a, XD.d]
            rw [List.map_take, List.map_drop]
            exact this
          · cases h
      · cases h
    | _ => exact other h
noncomputable def frzK {R : Type} : List XV → List (Nat × XOb) → (List XV → Option R) → Option R
  | [], _, K => K []
  | .os k t a len :: r, objs, K => match lk k objs with
    | some (.arr u l) => cond (u.eqb t) (cond (Nat.ble (a + len) l.length) (frzK r (dropX k objs) fun ys => K (.d (.sl u ((l.drop a).take len)) :: ys)) none) none
    | _ => none
  | x :: r, objs, K => frzK r objs fun ys => K (x :: ys)
theorem frzK_some {R : Type} {y : R} : ∀ {xs : List XV} {objs : List (Nat × XOb)} {K : List XV → Option R}, frzK xs objs K = some y → ∃ ys o, frz xs objs = some (ys, o) ∧ K ys = some y
  | [], objs, K, h => ⟨[], objs, rfl, h⟩
  | x :: r, objs, K, h => by
    have other : (frzK r objs fun ys => K (x :: ys)) = some y → ∃ ys o, (match frz r objs with | some (ys, o) => some (x :: ys, o) | none => none) = some (ys, o) ∧ K ys = some y := by
      intro h
      obtain ⟨ys, o, h1, h2⟩ := frzK_some h
      exact ⟨x :: ys, o, by rw [h1], h2⟩
    cases x with
    | os k t a len =>
      simp only [frzK] at h
      split at h
      · rename_i u l hk
        cases h1 : u.eqb t with
        | false => simp [h1] at h
        | true =>
        cases h2 : Nat.ble (a + len) l.length with
        | false => simp [h1, h2] at h
        | true =>
          simp only [h1, h2, cond_true] at h
          obtain ⟨ys, o, h3, h4⟩ := frzK_some h
          exact ⟨.d (.sl u ((l.drop a).take len)) :: ys, o, by simp only [frz, hk, h1, h2, h3, cond_true], h4⟩
      · cases h
    | _ => exact other h
noncomputable def finishL (P : Program) (fn : Func) (res : List Ty) (s : XSt) : Option (ResT res) :=
  match xres P s fn.results.toList with
  | some xs => frzK xs s.objs fun ys => decRes res ys
  | none => none
noncomputable def finish (P : Program) (fn : Func) (res : List Ty) : Exit → XSt → Option (ResT res)
  | .ret, s => finishL P fn res s
  | .normal, s => finishL P fn res s
  | _, _ => none
noncomputable def runB (P : Program) (Γ : List (Ent P)) (own : List Nat) (N : Nat) (fn : Func) (an : An) (res : List Ty) (xs : List XV) : Option (ResT res) :=
  match fn.body with
  | some c => cond (Nat.ble fn.ntmps GB) (exec P Γ own [] fn.ntmps N c an ⟨envX 0 xs, [], [], [], []⟩ (finish P fn res)) none
  | none => none
theorem Does.le {P : Program} {f : FuncId} {args : List AV} {X X' : Store} {res res' : AV} (h : Does P f args X res X') (hle : ALe res res') : Does P f args X res' X' := by
  intro g w vs hr hl ha
  exact (h g w vs hr hl ha).mono fun e w' ⟨g', v, h1, h2, h3⟩ => ⟨g', v, h1, hle g' w' v h2, h3⟩
theorem condG {α : Type} {n : Nat} {x : Option α} {y : α} (h : cond (Nat.ble n GB) x none = some y) : n ≤ GB ∧ x = some y := by
  cases hb : Nat.ble n GB with
  | false => simp [hb] at h
  | true => exact ⟨Nat.le_of_ble_eq_true hb, by simpa [hb] using h⟩
theorem runB_sound {P : Program} {Γ : List (Ent P)} {own : List Nat} {N : Nat} {f : FuncId} {fn : Func} {an : An} {res : List Ty} {xs : List XV} {y : ResT res} (hm : P.follows .mixedOrders = true) (hf : P.funcs[f]? = some fn)
    (hn : Nat.ble xs.length fn.ntmps = true) (h : runB P Γ own N fn an res xs = some y) : Does P f (asOf xs) X0 (resXV res y).a X0 := by
  unfold runB at h
  split at h
  · rename_i c hc
    obtain ⟨hG, h⟩ := condG h
    have hs := exec_sound (S := ⟨fn.ntmps, [], by simp⟩) hm rfl c an ⟨envX 0 xs, [], [], [], []⟩ ⟨envX 0 xs, [], [], [], []⟩ _ _ (.refl _) h
    have key : ∀ s', ∀ zs, xres P s' fn.results.toList = some zs → decRes res zs = some y → True := fun _ _ _ _ => trivial
    -- the result as it stands
    intro g w vs hr hl ha
    refine calls_of_wp hf hc (wp_mono (hs (Base.of g w X0) g w _ ?_) ?_)
    · refine ⟨rfl, ?_, hr, ?_⟩
      · have := Nat.le_of_ble_eq_true hn
        rw [asOf_length] at hl
        simp; omega
      · intro t x hx
        have hx' : (envOf 0 (asOf xs)).lookup t = some x := by rw [← envX_im]; exact hx
        obtain ⟨_, hx'⟩ := envOf_lookup hx'
        rw [Nat.sub_zero] at hx'
        have hlt : t < vs.size := by have := (List.getElem?_eq_some_iff.1 hx').1; omega
        refine ⟨vs[t], ?_, ha t x _ hx' (by simp [hlt])⟩
        have := Nat.le_of_ble_eq_true hn
        rw [asOf_length] at hl
        rw [slotV_tmp (by omega)]
        simp [Array.getElem?_append, hlt]
    · rintro e a' w' ⟨s, g', ⟨st', rfl, hi, hk⟩, hs'⟩
      have fin : finishL P fn res st' = some y →
          a'.defers = [] ∧ ∃ v, (results fn a'.tmps).run P w' = .ok v w' ∧ ∃ g' v_1, Ending.returned v = Ending.returned v_1 ∧ RA g' w' (resXV res y).a v_1 ∧ HR (X0.objs.map (·.1)) (Base.of g w X0) g' w' X0 := by
        intro h
        unfold finishL at h
        split at h
        · rename_i zs h1
          obtain ⟨ys, o, h2, h⟩ := frzK_some h
          · obtain ⟨v, hv, hra⟩ := run_results (xres_ok h1) hs'
            obtain ⟨g1, hr1, ht1, has⟩ := frz_ok h2 g' hs'.hr
            have hs1 : SR ⟨fn.ntmps, [], by simp⟩ (Base.of g w X0) g1 w' ⟨[], ⟨imObjs o, st'.live⟩⟩ a' := ⟨hs'.defers, hs'.size, hr1, by simp⟩
            have hw : Weak [] ⟨[], ⟨imObjs o, st'.live⟩⟩ ⟨[], X0⟩ := ⟨by simp, by simp [X0], by simp [X0], by simp⟩
            obtain ⟨g'', ht, hs''⟩ := hs1.weaken' hw
            rw [← tupX_a] at hra
            have hra' := (has.tupX hra).mono ht (.nil _)
            exact ⟨hs'.defers, v, hv, g'', v, rfl, resXV_le h g'' w' v hra', hs''.hr⟩
        · cases h
      cases e with
      | ret => exact fin hk
      | normal => exact fin hk
      | _ => simp [finish] at hk
  · cases h
noncomputable def bindArgs {α : Type} : (ts : List Ty) → (List XV → α) → List XV → Fun ts α
  | [], f, acc => f acc
  | t :: r, f, acc => fun x => bindArgs r f (acc ++ [.d (t.xv x)])
noncomputable def runF (P : Program) (Γ : List (Ent P)) (own : List Nat) (N : Nat) (fn : Func) (an : An) (args res : List Ty) : Fun args (Option (ResT res)) :=
  bindArgs args (fun xs => runB P Γ own N fn an res xs) []
noncomputable def SoundF (P : Program) (f : FuncId) (res : List Ty) : (args : List Ty) → Fun args (Option (ResT res)) → List XV → Prop
  | [], F, acc => ∀ y, F = some y → Does P f (asOf acc) X0 (resXV res y).a X0
  | t :: r, F, acc => ∀ x : t.T, SoundF P f res r (F x) (acc ++ [.d (t.xv x)])
theorem bindArgs_sound {P : Program} {Γ : List (Ent P)} {own : List Nat} {N : Nat} {f : FuncId} {fn : Func} {an : An} {res : List Ty} (hm : P.follows .mixedOrders = true) (hf : P.funcs[f]? = some fn) :
    ∀ (args : List Ty) (acc : List XV), Nat.ble (acc.length + args.length) fn.ntmps = true → SoundF P f res args (bindArgs args (fun xs => runB P Γ own N fn an res xs) acc) acc
  | [], acc, hn => fun y hy => runB_sound hm hf (by simpa using hn) hy
  | t :: r, acc, hn => fun x => bindArgs_sound hm hf r (acc ++ [.d (t.xv x)]) (by
      have := Nat.le_of_ble_eq_true hn
      refine Nat.ble_eq_true_of_le ?_
      simp at this ⊢; omega)
theorem runF_sound {P : Program} {Γ : List (Ent P)} {own : List Nat} {N : Nat} {f : FuncId} {fn : Func} {an : An} {args res : List Ty} (hm : P.follows .mixedOrders = true) (hf : P.funcs[f]? = some fn)
    (hn : Nat.ble args.length fn.ntmps = true) : SoundF P f res args (runF P Γ own N fn an args res) [] :=
  bindArgs_sound hm hf args [] (by simpa using hn)
noncomputable def appK {β R : Type} : (ts : List Ty) → Fun ts (Option β) → List Operand → List XV → List (Operand × XV) → (Option β → List (Operand × XV) → Option R) → Option R
  | [], F, [], [], acc, K => K F acc
  | t :: r, F, x :: ops, v :: vs, acc, K => match decXV t v with
    | some y => appK r (F y) ops vs (acc ++ [(x, .d (t.xv y))]) K
    | none => none
  | _, _, _, _, _, _ => none
noncomputable def callArgs (o : Oper) : List Operand :=
  match o.op with
  | .call c => c.args.toList
  | _ => []
noncomputable def dataRun {R : Type} (args res : List Ty) (F : Fun args (Option (ResT res))) (o : Oper) (st : XSt) (vs : List XV) (K : Out → Option R) : Option R :=
  appK args F (callArgs o) vs [] fun Fv rd => Option.bind Fv fun y => K (quietO st (resXV res y) rd)
theorem resL_data : ∀ (ts : List Ty) (y : ResT ts), areData (asOf (resL ts y)) = true
  | [], _ => rfl
  | [t], y => rfl
  | t :: u :: r, y => by simp only [resL, asOf, areData, resL_data (u :: r) y.2]; rfl
theorem resXV_data (ts : List Ty) (y : ResT ts) : isData (resXV ts y).a = true := by
  unfold resXV
  rw [tupX_a]
  have := resL_data ts y
  cases h : asOf (resL ts y) with
  | nil => rfl
  | cons x r =>
    rw [h] at this
    cases r with
    | nil => simp only [tupled]; simp only [areData, Bool.and_true] at this; exact this
    | cons z s => simp only [tupled, isData]; exact this
theorem xevals_cons {st : XSt} {x : Operand} {ops : List Operand} {v : XV} {vs : List XV} (h : xevals st (x :: ops) = some (v :: vs)) : xeval st x = some v ∧ xevals st ops = some vs := by
  simp only [xevals] at h
  split at h
  · rename_i a l ha hl; cases h; exact ⟨ha, hl⟩
  · cases h
theorem decXV_sees {st : XSt} {x : Operand} {v : XV} {t : Ty} {y : t.T} (h : xeval st x = some v) (hd : decXV t v = some y) : Sees st.im x (.d (t.dv y)) := by
  cases v with
  | d u => exact xeval_d h (t.decv_spec hd)
  | tip n u l ty => exact xd_sees (a := .sl u l) (by simp [xd, h, XV.asD]) (t.decv_spec hd)
  | _ => simp [decXV] at hd
theorem appK_ok {P : Program} {R : Type} {f : FuncId} {res : List Ty} {st : XSt} {K : Option (ResT res) → List (Operand × XV) → Option R} {r : R} : ∀ (ts : List Ty) (F : Fun ts (Option (ResT res))) (ops : List Operand) (vs : List XV) (acc : List (Operand × XV)) (aops : List Operand) (axs : List XV),
    SoundF P f res ts F axs → xevals st ops = some vs → acc = aops.zip axs → aops.length = axs.length → (∀ p ∈ imRd acc, Sees st.im p.1 p.2) → areData (asOf axs) = true → appK ts F ops vs acc K = some r →
    ∃ (Fv : Option (ResT res)) (xs : List XV), xs.length = (aops ++ ops).length ∧ (∀ y, Fv = some y → Does P f (asOf xs) X0 (resXV res y).a X0) ∧ areData (asOf xs) = true ∧
      (∀ p ∈ imRd ((aops ++ ops).zip xs), Sees st.im p.1 p.2) ∧ K Fv ((aops ++ ops).zip xs) = some r
  | [], F, ops, vs, acc, aops, axs, hs, hv, hacc, hlen, hsee, hda, h => by
    cases ops with
    | nil =>
      cases vs with
      | nil =>
        subst hacc
        exact ⟨F, axs, by simp [hlen], hs, hda, by simpa using hsee, by rw [List.append_nil]; exact h⟩
      | cons _ _ => simp [appK] at h
    | cons _ _ => simp [appK] at h
  | t :: ts, F, ops, vs, acc, aops, axs, hs, hv, hacc, hlen, hsee, hda, h => by
    cases ops with
    | nil => simp [appK] at h
    | cons x ops =>
      cases vs with
      | nil => simp [appK] at h
      | cons v vs =>
        simp only [appK] at h
        obtain ⟨hx, hvs⟩ := xevals_cons hv
        split at h
        · rename_i y hy
          have := appK_ok ts (F y) ops vs _ (aops ++ [x]) (axs ++ [.d (t.xv y)]) (hs y) hvs (by rw [hacc, List.zip_append hlen]; rfl) (by simp [hlen]) (by
            intro p hp
            rw [imRd_append] at hp
            rcases List.mem_append.1 hp with hp | hp
            · exact hsee p hp
            · simp only [imRd, List.map_cons, List.map_nil, List.mem_singleton] at hp
              subst hp
              exact decXV_sees hx hy) (by
            have : ∀ l : List AV, areData l = true → areData (l ++ [.d (t.dv y)]) = true := by
              intro l
              induction l with
              | nil => intro _; rfl
              | cons a r ih => intro h; simp only [areData, Bool.and_eq_true, List.cons_append] at h ⊢; exact ⟨h.1, ih h.2⟩
            rw [asOf_append]; exact this _ hda) h
          simpa using this
        · cases h
noncomputable def mkEnt {P : Program} (id : FuncId) (args res : List Ty) (F : Fun args (Option (ResT res))) (hc : CallI P id) (hs : SoundF P id res args F []) : Ent P where
  id := id
  run := dataRun args res F
  ok := by
    intro R o st aops ts vs K r ho hv h
    unfold dataRun at h
    have e : callArgs o = aops.toList := by simp [callArgs, ho]
    rw [e] at h
    obtain ⟨Fv, xs, h1, h2, h3, h4, h5⟩ := appK_ok (st := st) args F aops.toList vs [] [] [] hs hv rfl rfl (by simp [imRd]) rfl h
    obtain ⟨y, hy, hK⟩ := Option.bind_eq_some_iff.1 h5
    simp only [List.nil_append] at h1 h4 hK
    refine ⟨_, hK, quietO_ok h4 fun X => ?_⟩
    have := op_call (X := X) (xs := asOf xs) ho hc (h2 y hy) (by rw [asOf_length, h1]; simp) h3 (resXV_data res y)
    rw [imRd_zip]
    exact this
noncomputable def mkFn {P : Program} {Γ : List (Ent P)} {own : List Nat} {N : Nat} (id : FuncId) (fn : Func) (an : An) (args res : List Ty) (F : Fun args (Option (ResT res))) (hm : P.follows .mixedOrders = true) (hf : P.funcs[id]? = some fn)
    (hc : CallI P id) (hn : Nat.ble args.length fn.ntmps = true) (hE : runF P Γ own N fn an args res = F) : Ent P :=
  mkEnt id args res F hc (hE ▸ runF_sound hm hf hn)
end Go.Xl
set_option linter.unusedVariables false
set_option linter.unusedSimpArgs false
set_option linter.unnecessarySimpa false
namespace Go.Xl
open Go.Ab
noncomputable def GHold (g : Gh) (w : World) (gs : List (Nat × AV)) : Prop := ∀ p ∈ gs, RA g w p.2 (.pointer (some ⟨p.1, 0, none⟩))
noncomputable def DoesG (P : Program) (f : FuncId) (args : List AV) (gs : List (Nat × AV)) (res : AV) : Prop :=
  ∀ (g : Gh) (w : World) (vs : Array Value), HR [] (Base.of g w X0) g w X0 → GHold g w gs → args.length = vs.size →
    (∀ (i : Nat) x v, args[i]? = some x → vs[i]? = some v → RA g w x v) →
    Calls P f vs w fun e w' => ∃ g' v, e = .returned v ∧ RA g' w' res v ∧ HR [] (Base.of g w X0) g' w' X0
theorem DoesG.plain {P : Program} {f : FuncId} {args : List AV} {res : AV} (h : DoesG P f args [] res) : Does P f args X0 res X0 :=
  fun g w vs hr hl ha => h g w vs hr (by simp [GHold]) hl ha
theorem DoesG.use {P : Program} {X : Store} {f : FuncId} {xs : List AV} {gs : List (Nat × AV)} {res : AV} (hs : DoesG P f xs gs res) (hd : areData xs = true) (hg : areData (gs.map (·.2)) = true) (hdr : isData res = true) {nm : List Nat} {B : Base} {g : Gh} {w : World}
    (hr : HR nm B g w X) (hgs : GHold g w gs) {vs : Array Value} (hl : xs.length = vs.size) (hvs : ∀ (i : Nat) x v, xs[i]? = some x → vs[i]? = some v → RA g w x v) :
    Calls P f vs w fun e w' => ∃ v g', e = .returned v ∧ HR nm B g' w' X ∧ Trans [] g w g' w' ∧ RA g' w' res v := by
  have h0 : HR [] (Base.of { g with β := fun _ => none } w X0) { g with β := fun _ => none } w X0 :=
    ⟨by simp, hr.sane, Nat.le_refl _, ⟨rfl, rfl, rfl, Nat.le_refl _⟩, .refl _ _, fun b _ _ => ⟨rfl, rfl⟩, by simp [X0], by simp [X0], by simp [X0], by simp [X0], by simp [X0], by simp, by simp, by simp, by simp, .off fun _ => rfl⟩
  have hgs' : GHold { g with β := fun _ => none } w gs := by
    intro p hp
    obtain ⟨i, hi⟩ := List.getElem?_of_mem hp
    exact (hgs p hp).data (areData_get hg (i := i) (by rw [List.getElem?_map, hi]; rfl)) (.refl _ _)
  have := hs { g with β := fun _ => none } w vs h0 hgs' hl fun i x v hx hv => (hvs i x v hx hv).data (areData_get hd hx) (.refl _ _)
  refine this.mono ?_
  rintro e w' ⟨gc, v, rfl, hra, h1⟩
  obtain ⟨h2, h3⟩ := hr.pureCall (gc := gc) h1
  exact ⟨v, _, rfl, h2, h3, hra.data hdr (.refl _ _)⟩
theorem areData_take : ∀ {l : List AV} (n : Nat), areData l = true → areData (l.take n) = true
  | [], n, _ => by simp [areData]
  | x :: r, 0, _ => rfl
  | x :: r, n + 1, h => by
    simp only [areData, Bool.and_eq_true] at h
    simp only [List.take_succ_cons, areData, Bool.and_eq_true]
    exact ⟨h.1, areData_take n h.2⟩
theorem areData_drop : ∀ {l : List AV} (n : Nat), areData l = true → areData (l.drop n) = true
  | [], n, _ => by simp [areData]
  | x :: r, 0, h => h
  | x :: r, n + 1, h => by
    simp only [areData, Bool.and_eq_true] at h
    exact areData_drop n h.2
theorem areData_zip : ∀ {l : List AV} (ks : List Nat), areData l = true → areData ((ks.zip l).map (·.2)) = true
  | [], ks, _ => by cases ks <;> rfl
  | x :: r, [], _ => rfl
  | x :: r, k :: ks, h => by
    simp only [areData, Bool.and_eq_true] at h
    simp only [List.zip_cons_cons, List.map_cons, areData, Bool.and_eq_true]
    exact ⟨h.1, areData_zip ks h.2⟩
theorem op_callG {P : Program} {o : Oper} {X : Store} {f : FuncId} {args : Array Operand} {ts : Array TypeId} {gids : List Nat} {xs : List AV} {res : AV} (ho : o.op = .call { callee := .value (.func f), args := args, argTypes := ts }) (hf : CallI P f)
    (hs : DoesG P f (xs.take args.size) (gids.zip (xs.drop args.size)) res) (hl : args.size ≤ xs.length) (hd : areData xs = true) (hdr : isData res = true) :
    OpT P o ((args.toList ++ gids.map Operand.global).zip xs) X X [] res := by
  intro nm hsm B g w a hr hrd next Q hn
  have hz : (args.toList ++ gids.map Operand.global).zip xs = args.toList.zip (xs.take args.size) ++ (gids.map Operand.global).zip (xs.drop args.size) := by
    conv => lhs; rw [← List.take_append_drop args.size xs]
    rw [List.zip_append (by simp; omega)]
  rw [hz] at hrd
  unfold Oper.wp
  have : (execOp a.eval o).run P w = .ok (.enter f (args.map a.eval)) w := by
    simp only [execOp, ho, resolve]
    simp [Act.eval, Deferred.ofValue, invoke, run_callFunc hf]
  rw [this]
  have hG : GHold g w (gids.zip (xs.drop args.size)) := by
    intro p hp
    have h1 : (Operand.global p.1, p.2) ∈ (gids.map Operand.global).zip (xs.drop args.size) := by
      rw [List.zip_map_left, List.mem_map]
      exact ⟨p, hp, rfl⟩
    exact hrd _ (List.mem_append_right _ h1)
  refine (hs.use (areData_take _ hd) (areData_zip _ (areData_drop _ hd)) hdr hr hG (by simp; omega) (rds_args fun p hp => hrd p (List.mem_append_left _ hp))).mono ?_
  rintro e w' ⟨v, g', rfl, h1, h2, h3⟩
  exact hn g' w' v h1 h2 h3
noncomputable def glE : List Nat → List XV → List (Nat × XV)
  | k :: ks, x :: r => (GB + k, x) :: glE ks r
  | _, _ => []
theorem glE_mem : ∀ {gids : List Nat} {xs : List XV} {t : Nat} {x : AV}, (t, x) ∈ imEnv (glE gids xs) → ∃ k, t = GB + k ∧ (k, x) ∈ gids.zip (asOf xs)
  | [], xs, t, x, h => by simp [glE, imEnv] at h
  | k :: ks, [], t, x, h => by simp [glE, imEnv] at h
  | k :: ks, y :: r, t, x, h => by
    simp only [glE, imEnv, List.map_cons, List.mem_cons, Prod.mk.injEq] at h
    rcases h with ⟨rfl, rfl⟩ | h
    · exact ⟨k, rfl, by simp [asOf]⟩
    · obtain ⟨k', h1, h2⟩ := glE_mem (gids := ks) (xs := r) (t := t) (x := x) (by simpa [imEnv] using h)
      exact ⟨k', h1, by simp only [asOf, List.zip_cons_cons]; exact List.mem_cons_of_mem _ h2⟩
noncomputable def gops : List Nat → List Operand
  | [] => []
  | k :: r => .global k :: gops r
theorem gops_map (l : List Nat) : gops l = l.map Operand.global := by
  induction l with
  | nil => rfl
  | cons k r ih => simp [gops, ih]
end Go.Xl
set_option linter.unusedVariables false
set_option linter.unusedSimpArgs false
set_option linter.unnecessarySimpa false
namespace Go.Xl
open Go.Ab
mutual
noncomputable def XV.mp (f fl : Nat → Nat) : XV → XV
  | .d x => .d x
  | .nm k p => .nm (f k) p
  | .tip n t l ty => .tip (fl n) t l ty
  | .tup l => .tup (mpL f fl l)
  | .agg l => .agg (mpL f fl l)
  | .clo g l => .clo g (mpL f fl l)
  | .os k t a len => .os (f k) t a len
  | .el k t i fo => .el (f k) t i fo
  | .tpt n e x l => .tpt (fl n) e x l
noncomputable def mpL (f fl : Nat → Nat) : List XV → List XV
  | [] => []
  | x :: r => x.mp f fl :: mpL f fl r
end

mutual
theorem XV.mp_a (f fl : Nat → Nat) : ∀ x : XV, (x.mp f fl).a = mapL f fl x.a
  | .d x => rfl
  | .nm k p => rfl
  | .tip n t l ty => rfl
  | .tup l => by simp only [XV.mp, XV.a, mapL, mpL_a f fl l]
  | .agg l => by simp only [XV.mp, XV.a, mapL, mpL_a f fl l]
  | .clo g l => by simp only [XV.mp, XV.a, mapL, mpL_a f fl l]
  | .os k t a len => rfl
  | .el k t i fo => rfl
  | .tpt n e x l => rfl
theorem mpL_a (f fl : Nat → Nat) : ∀ l : List XV, asOf (mpL f fl l) = mapLs f fl (asOf l)
  | [] => rfl
  | x :: r => by simp only [mpL, asOf, mapLs, XV.mp_a f fl x, mpL_a f fl r]
end

theorem mpL_map (f fl : Nat → Nat) (l : List XV) : mpL f fl l = l.map (XV.mp f fl) := by
  induction l with
  | nil => rfl
  | cons x r ih => simp [mpL, ih]
mutual
noncomputable def XV.nms (ks ls : List Nat) : XV → Bool
  | .d _ => true
  | .nm k _ => inl k ks
  | .tip n _ _ _ => inl n ls
  | .tup l => nmsL ks ls l
  | .agg l => nmsL ks ls l
  | .clo _ l => nmsL ks ls l
  | .os k _ _ _ => inl k ks
  | .el k _ _ _ => inl k ks
  | .tpt n _ _ _ => inl n ls
noncomputable def nmsL (ks ls : List Nat) : List XV → Bool
  | [] => true
  | x :: r => cond (x.nms ks ls) (nmsL ks ls r) false
end

theorem inl_con {k : Nat} {l : List Nat} (h : inl k l = true) : l.contains k = true := List.contains_iff_mem.2 ((inl_eq k l).1 h)
mutual
theorem XV.nms_a {ks ls : List Nat} : ∀ {x : XV}, x.nms ks ls = true → namesL ks ls x.a = true
  | .d x, h => rfl
  | .nm k p, h => inl_con h
  | .tip n t l ty, h => inl_con h
  | .tup l, h => by simp only [XV.nms] at h; simp only [XV.a, namesL]; exact nmsL_a h
  | .agg l, h => by simp only [XV.nms] at h; simp only [XV.a, namesL]; exact nmsL_a h
  | .clo g l, h => by simp only [XV.nms] at h; simp only [XV.a, namesL]; exact nmsL_a h
  | .os k t a len, h => inl_con h
  | .el k t i fo, h => inl_con h
  | .tpt n e x l, h => inl_con h
theorem nmsL_a {ks ls : List Nat} : ∀ {l : List XV}, nmsL ks ls l = true → namesLs ks ls (asOf l) = true
  | [], h => rfl
  | x :: r, h => by
    simp only [nmsL] at h
    cases hx : x.nms ks ls with
    | false => simp [hx] at h
    | true =>
      simp only [hx, cond_true] at h
      simp only [asOf, namesLs, XV.nms_a hx, nmsL_a h, Bool.and_self]
end

noncomputable def XOb.mp (f fl : Nat → Nat) : XOb → XOb
  | .cells cs ty => .cells (mpL f fl cs) ty
  | .arr t l => .arr t l
  | .sit s p => .sit s p
  | .map kt vt es c => .map kt vt es c
  | .mit m a b c => .mit (f m) a b c
  | .mitn => .mitn
  | .bts e l => .bts e l
  | .mapt L kt vt es c => .mapt L kt vt es c
theorem mapLs_map_d (f fl : Nat → Nat) : ∀ l : List D, mapLs f fl (l.map .d) = l.map .d
  | [] => rfl
  | x :: r => by simp only [List.map_cons, mapLs, mapL, mapLs_map_d f fl r]
theorem XOb.mp_o (f fl : Nat → Nat) (o : XOb) : (o.mp f fl).o = mapObL f fl o.o := by
  cases o with
  | cells cs ty => simp only [XOb.mp, XOb.o, mapObL, mpL_a]
  | arr t l => simp only [XOb.mp, XOb.o, mapObL, mapLs_map_d]
  | bts e l => simp only [XOb.mp, XOb.o, mapObL, mapLs_map_d]
  | _ => rfl
noncomputable def XOb.nms (ks ls : List Nat) : XOb → Bool
  | .cells cs _ => nmsL ks ls cs
  | .mit m _ _ _ => inl m ks
  | .mapt _ _ _ _ _ => false
  | _ => true
theorem namesLs_map_d (ks ls : List Nat) : ∀ l : List D, namesLs ks ls (l.map .d) = true
  | [] => rfl
  | x :: r => by simp only [List.map_cons, namesLs, namesL, namesLs_map_d ks ls r, Bool.and_self]
theorem XOb.nms_o {ks ls : List Nat} {o : XOb} (h : o.nms ks ls = true) : namesObL ks ls o.o = true := by
  cases o with
  | cells cs ty => simp only [XOb.nms] at h; simp only [XOb.o, namesObL]; exact nmsL_a h
  | arr t l => simp only [XOb.o, namesObL]; exact namesLs_map_d _ _ _
  | bts e l => simp only [XOb.o, namesObL]; exact namesLs_map_d _ _ _
  | mit m a b c => exact inl_con h
  | mapt L kt vt es c => simp [XOb.nms] at h
  | _ => rfl
noncomputable def objsNms (ks ls : List Nat) : List (Nat × XOb) → Bool
  | [] => true
  | p :: r => cond (p.2.nms ks ls) (objsNms ks ls r) false
theorem objsNms_im {ks ls : List Nat} : ∀ {l : List (Nat × XOb)}, objsNms ks ls l = true → ((imObjs l).all fun p => namesObL ks ls p.2) = true
  | [], _ => rfl
  | p :: r, h => by
    simp only [objsNms] at h
    cases hx : p.2.nms ks ls with
    | false => simp [hx] at h
    | true =>
      simp only [hx, cond_true] at h
      have := objsNms_im h
      simp only [imObjs, List.map_cons, List.all_cons, XOb.nms_o hx, Bool.true_and] at this ⊢
      exact this
noncomputable def putXs (f fl : Nat → Nat) : List (Nat × XOb) → List (Nat × XOb) → List (Nat × XOb)
  | [], acc => acc
  | p :: r, acc => putXs f fl r (xset (f p.1) (p.2.mp f fl) acc)
theorem putXs_im (f fl : Nat → Nat) : ∀ (l acc : List (Nat × XOb)), imObjs (putXs f fl l acc) = putObjsL f fl (imObjs l) (imObjs acc)
  | [], acc => rfl
  | p :: r, acc => by
    have := putXs_im f fl r (xset (f p.1) (p.2.mp f fl) acc)
    rw [im_xset, XOb.mp_o] at this
    exact this
theorem putXs_other (f fl : Nat → Nat) : ∀ (l acc : List (Nat × XOb)) (j : Nat), (∀ p ∈ l, f p.1 ≠ j) → lk j (putXs f fl l acc) = lk j acc
  | [], acc, j, h => rfl
  | p :: r, acc, j, h => by
    simp only [putXs]
    rw [putXs_other f fl r _ j (fun q hq => h q (List.mem_cons_of_mem _ hq)), lk_xset _ _ _ _ (fun e => h p (List.mem_cons_self ..) e.symm)]
inductive ObLe : Ob → Ob → Prop
  | refl (o : Ob) : ObLe o o
  | cells {cs cs' : List AV} {ty ty' : Option TypeId} : cs.length = cs'.length → (∀ (i : Nat) x y, cs[i]? = some x → cs'[i]? = some y → ALe x y) → (ty' = ty ∨ ty' = none) → ObLe (.cells cs ty) (.cells cs' ty')
  | mapt (L sz : Nat) (l : List (Nat × Value × Bool × List (List D))) (c : Nat) : ObLe (.mapt L sz l c) (.map (plainL sz l) c)
theorem obRel_weak {g : Gh} {w : World} {b : Nat} {o o' : Ob} (h : ObRel g w b o) (hle : ObLe o o') : ObRel g w b o' := by
  cases hle with
  | refl => exact h
  | mapt L sz l c =>
    cases h with
    | mapt _ _ _ _ es a1 a2 a3 a4 a5 =>
      refine .map _ c es a1 (by simpa [plainL] using a2) ?_ ?_ ?_
      · intro i x e hx he
        simp only [plainL, List.getElem?_map, Option.map_eq_some_iff] at hx
        obtain ⟨y, hy, rfl⟩ := hx
        obtain ⟨b1, b2, b3, _⟩ := a3 i y e hy he
        exact ⟨b1, b2, b3⟩
      · intro q hq
        simp only [plainL, List.mem_map] at hq
        obtain ⟨y, hy, rfl⟩ := hq
        exact a4 y hy
      · simpa [plainL, List.map_map, Function.comp_def] using a5
  | cells hl hc ht =>
    cases h with
    | cells _ _ arr T h1 h2 h3 h4 =>
      refine .cells _ _ arr T h1 (hl ▸ h2) ?_ ?_
      · intro i y v hy hv
        have hlt := (List.getElem?_eq_some_iff.1 hy).1
        obtain ⟨x, hx⟩ : ∃ x, _ = some x := ⟨_, List.getElem?_eq_getElem (l := _) (i := i) (by rw [hl]; exact hlt)⟩
        exact hc i x y hx hy g w v (h3 i x v hx hv)
      · intro t hh
        rcases ht with e | e
        · exact h4 t (e ▸ hh)
        · rw [e] at hh; cases hh
theorem hr_weak {nm : List Nat} {B : Base} {g : Gh} {w : World} {X Y : Store} (h : HR nm B g w X) (hle : ∀ k o', Y.objs.lookup k = some o' → ∃ o, X.objs.lookup k = some o ∧ ObLe o o')
    (hk : ∀ k, (X.objs.lookup k).isSome → (Y.objs.lookup k).isSome) (hl : Y.live = X.live) : HR nm B g w Y where
  keep k hm := ⟨(h.keep k hm).1, hk k (h.keep k hm).2⟩
  sane := h.sane
  base := h.base
  io := h.io
  le := h.le
  frame := h.frame
  objs k o' ho := by obtain ⟨o, h1, h2⟩ := hle k o' ho; exact obRel_weak (h.objs k o h1) h2
  objγ k o' ho := by obtain ⟨o, h1, h2⟩ := hle k o' ho; exact h.objγ k o h1
  objinj k k' o o' ho ho' := by
    obtain ⟨_, h1, _⟩ := hle k o ho
    obtain ⟨_, h2, _⟩ := hle k' o' ho'
    exact h.objinj k k' _ _ h1 h2
  objnew k o' ho := by obtain ⟨o, h1, h2⟩ := hle k o' ho; exact h.objnew k o h1
  live n := by rw [hl]; exact h.live n
  tipinj := h.tipinj
  tipobj n b k o' hn ho := by obtain ⟨o, h1, h2⟩ := hle k o' ho; exact h.tipobj n b k o hn h1
  tipnew := h.tipnew
  tiplt := h.tiplt
  eta := h.eta.same (Nat.le_refl _) fun k o' ho => let ⟨o, h1, _⟩ := hle k o' ho; ⟨o, h1⟩
theorem opT_weak {P : Program} {o : Oper} {rd : List (Operand × AV)} {X Y X' : Store} {F : List Nat} {res : AV} (h : OpT P o rd Y X' F res) (hle : ∀ k o', Y.objs.lookup k = some o' → ∃ o, X.objs.lookup k = some o ∧ ObLe o o')
    (hk : ∀ k, (X.objs.lookup k).isSome → (Y.objs.lookup k).isSome) (hl : Y.live = X.live) : OpT P o rd X X' F res :=
  fun nm hsm B g w a hr => h nm hsm B g w a (hr_weak hr hle hk hl)
theorem op_call_f_lab {P : Program} {X : Store} {o : Oper} {fn : FuncId} {args : Array Operand} {ts : Array TypeId} {gids : List Nat} {xs ys : List AV} {res : AV} {Xc Xc' : Store} (f fl : Nat → Nat) (F : List Nat)
    (ho : o.op = .call { callee := .value (.func fn), args := args, argTypes := ts }) (hf : CallI P fn) (hs : DoesH P fn xs (gids.zip ys) Xc res Xc') (hc : LabCall X Xc Xc' f fl F)
    (hl : xs.length = args.size) (hd : namesLs (Xc.objs.map (·.1)) Xc.live xs = true) (hy : areData ys = true) (hdr : namesL (Xc'.objs.map (·.1)) Xc'.live res = true) :
    OpT P o (args.toList.zip (mapLs f fl xs) ++ (gids.map Operand.global).zip ys) X ⟨putObjsL f fl Xc'.objs X.objs, liveAfter fl X Xc Xc'⟩ F (mapL f fl res) := by
  intro nm hsm B g w a hr hrd next Q hn
  unfold Oper.wp
  have : (execOp a.eval o).run P w = .ok (.enter fn (args.map a.eval)) w := by
    simp only [execOp, ho, resolve]
    simp [Act.eval, Deferred.ofValue, invoke, run_callFunc hf]
  rw [this]
  have hG : GH g w (gids.zip ys) := by
    intro p hp
    have h1 : (Operand.global p.1, p.2) ∈ (gids.map Operand.global).zip ys := by
      rw [List.zip_map_left, List.mem_map]
      exact ⟨p, hp, rfl⟩
    exact hrd _ (List.mem_append_right _ h1)
  refine (hs.useLab (areData_zip _ hy) hc hd hdr hr hG (by simpa using hl) (rds_args fun p hp => hrd p (List.mem_append_left _ hp))).mono ?_
  rintro e w' ⟨v, g', rfl, h1, h2, h3⟩
  exact hn g' w' v h1 h2 h3
end Go.Xl
set_option linter.unusedVariables false
set_option linter.unusedSimpArgs false
set_option linter.unnecessarySimpa false
namespace Go.Xl
open Go.Ab
inductive AS where
  | d (t : Ty)
  | p (k off : Nat)
  | os (k : Nat) (t : Ty)
  | clo (f : Nat) (ps : List (Nat × Nat))
  /-- such a slice that begins at a place -/
  | oa (k a : Nat) (t : Ty)
  /-- what a package variable holds: behind all other ones -/
  | g (k : Nat) (t : Ty)
noncomputable def gidsOf : List AS → List Nat
  | [] => []
  | .g k _ :: r => k :: gidsOf r
  | _ :: r => gidsOf r
noncomputable def plainN : List AS → Nat
  | [] => 0
  | .g _ _ :: _ => 0
  | _ :: r => plainN r + 1
structure CSp where
  args : List AS
  objs : List (Nat × List VK × Option TypeId)
  arrs : List (Nat × OK)
  out : Cut
noncomputable def CSp.names (S : CSp) : List Nat := namesOf S.objs ++ arrNames S.arrs
noncomputable def CSp.labs (S : CSp) : List Nat := labsOfObjs S.objs
noncomputable def CSp.gids (S : CSp) : List Nat := gidsOf S.args
noncomputable def CSp.n (S : CSp) : Nat := plainN S.args
noncomputable def CSp.s0 (S : CSp) (xs : List XV) (objs : List (Nat × XOb)) : XSt := ⟨envX 0 (xs.take S.n) ++ glE S.gids (xs.drop S.n), objs, S.labs, [], []⟩
@[reducible] noncomputable def CurA : List AS → Type → Type
  | [], R => R
  | .d t :: r, R => t.T → CurA r R
  | .p _ _ :: r, R => CurA r R
  | .os _ _ :: r, R => Nat → CurA r R
  | .oa _ _ _ :: r, R => Nat → CurA r R
  | .clo _ _ :: r, R => CurA r R
  | .g _ t :: r, R => t.T → CurA r R
@[reducible] noncomputable def CurC : List VK → Type → Type
  | [], R => R
  | .d t :: r, R => t.T → CurC r R
  | .p _ _ :: r, R => CurC r R
  | .z _ _ :: r, R => Bool → CurC r R
  | .os _ _ :: r, R => Nat → CurC r R
  | .tip _ t _ :: r, R => List t.T → CurC r R
@[reducible] noncomputable def CurO : List (Nat × List VK × Option TypeId) → Type → Type
  | [], R => R
  | p :: r, R => CurC p.2.1 (CurO r R)
@[reducible] noncomputable def CurR : List (Nat × OK) → Type → Type
  | [], R => R
  | p :: r, R => p.2.T → CurR r R
@[reducible] noncomputable def CSp.Fun (S : CSp) (R : Type) : Type := CurA S.args (CurO S.objs (CurR S.arrs R))
section
variable (P : Program) (Γ : List (Ent P)) (own : List Nat) (N : Nat) (fn : Func) (an : An) (S : CSp)
end
noncomputable def smallL : List Nat → Bool
  | [] => true
  | n :: r => cond (Nat.blt n 1000) (smallL r) false
theorem smallL_spec : ∀ {l : List Nat}, smallL l = true → ∀ j ∈ l, j < 1000
  | [], _ => by simp
  | n :: r, h => by
    simp only [smallL] at h
    cases hb : Nat.blt n 1000 with
    | false => simp [hb] at h
    | true =>
      simp only [hb, cond_true] at h
      intro j hj
      rcases List.mem_cons.1 hj with rfl | hj
      · simpa [Nat.blt_eq] using hb
      · exact smallL_spec h j hj
theorem imObjs_names (l : List (Nat × XOb)) : (imObjs l).map (·.1) = l.map (·.1) := by simp [imObjs]
end Go.Xl
set_option linter.unusedVariables false
set_option linter.unusedSimpArgs false
set_option linter.unnecessarySimpa false
namespace Go.Xl
open Go.Ab
inductive ArgR (f fl : Nat → Nat) : List XV → List XV → Prop
  | nil : ArgR f fl [] []
  | dat {t : Ty} {v : XV} {y : t.T} {vs xs : List XV} : decXV t v = some y → ArgR f fl vs xs → ArgR f fl (v :: vs) (.d (t.xv y) :: xs)
  | same {v x : XV} {vs xs : List XV} : v = x.mp f fl → ArgR f fl vs xs → ArgR f fl (v :: vs) (x :: xs)
theorem ArgR.app {f fl : Nat → Nat} {a b c d : List XV} (h : ArgR f fl a b) (h' : ArgR f fl c d) : ArgR f fl (a ++ c) (b ++ d) := by
  induction h with
  | nil => exact h'
  | dat h1 _ ih => exact .dat h1 ih
  | same h1 _ ih => exact .same h1 ih
theorem ArgR.length {f fl : Nat → Nat} {a b : List XV} (h : ArgR f fl a b) : a.length = b.length := by
  induction h with
  | nil => rfl
  | dat _ _ ih => simp [ih]
  | same _ _ ih => simp [ih]
theorem ArgR.split {f fl : Nat → Nat} : ∀ {a c xs : List XV}, ArgR f fl (a ++ c) xs → ∃ b d, xs = b ++ d ∧ ArgR f fl a b ∧ ArgR f fl c d
  | [], c, xs, h => ⟨[], xs, rfl, .nil, h⟩
  | v :: a, c, xs, h => by
    rw [List.cons_append] at h
    cases h with
    | dat h1 h2 =>
      obtain ⟨b, d, rfl, h3, h4⟩ := ArgR.split h2
      exact ⟨_ :: b, d, rfl, .dat h1 h3, h4⟩
    | same h1 h2 =>
      obtain ⟨b, d, rfl, h3, h4⟩ := ArgR.split h2
      exact ⟨_ :: b, d, rfl, .same h1 h3, h4⟩
noncomputable def nmOnly : List XV → Bool
  | [] => true
  | .nm _ _ :: r => nmOnly r
  | _ :: _ => false
theorem ArgR.caps {f fl : Nat → Nat} : ∀ {cs xs : List XV}, ArgR f fl cs xs → nmOnly cs = true → cs = mpL f fl xs
  | [], xs, h, _ => by cases h; rfl
  | v :: cs, xs, h, hn => by
    cases v with
    | nm k p =>
      simp only [nmOnly] at hn
      cases h with
      | dat h1 h2 => simp [decXV] at h1
      | same h1 h2 => rw [h1, ArgR.caps h2 hn]; rfl
    | _ => simp [nmOnly] at hn
theorem ArgR.sees {f fl : Nat → Nat} {st : XSt} : ∀ {ops : List Operand} {vs xs : List XV}, xevals st ops = some vs → ArgR f fl vs xs → ∀ p ∈ imRd (ops.zip (mpL f fl xs)), Sees st.im p.1 p.2
  | [], vs, xs, hv, h => by simp [imRd]
  | x :: ops, [], xs, hv, h => by have := xevals_len hv; simp at this
  | x :: ops, v :: vs, xs, hv, h => by
    obtain ⟨hx, hvs⟩ := xevals_cons hv
    cases h with
    | dat h1 h2 =>
      intro p hp
      simp only [mpL, List.zip_cons_cons, imRd, List.map_cons, List.mem_cons] at hp
      rcases hp with rfl | hp
      · exact decXV_sees hx h1
      · exact ArgR.sees hvs h2 p hp
    | same h1 h2 =>
      intro p hp
      simp only [mpL, List.zip_cons_cons, imRd, List.map_cons, List.mem_cons] at hp
      rcases hp with rfl | hp
      · rw [← h1]; exact xeval_sees hx
      · exact ArgR.sees hvs h2 p hp
noncomputable def plainX : XD → Bool
  | .v _ => false
  | .ic _ _ _ => false
  | _ => true
noncomputable def plainXs : List XD → Bool
  | [] => true
  | x :: r => cond (plainX x) (plainXs r) false
theorem plainXs_cons {x : XD} {r : List XD} (h : plainXs (x :: r) = true) : plainX x = true ∧ plainXs r = true := by
  simp only [plainXs] at h
  cases hx : plainX x with
  | false => simp [hx] at h
  | true => simp only [hx, cond_true] at h; exact ⟨rfl, h⟩
theorem dec_plain : ∀ (t : Ty) {cs : List XD} {x : t.T} {r : List XD}, plainXs cs = true → t.dec cs = some (x, r) → dsOf cs = t.ds x ++ dsOf r ∧ plainXs r = true := by
  intro t
  induction t with
  | int k =>
    intro cs x r hp h
    simp only [Ty.dec] at h
    unfold decI at h
    split at h
    · rename_i k' n r'
      cases hk : kindB k' k with
      | false => simp [hk] at h
      | true =>
        have := kindB_eq hk
        subst this
        simp only [hk, cond_true, Option.some.injEq, Prod.mk.injEq] at h
        obtain ⟨rfl, rfl⟩ := h
        exact ⟨rfl, (plainXs_cons hp).2⟩
    · rename_i x' r'
      cases hk : kindB .u8 k with
      | false => simp [hk] at h
      | true =>
        have := kindB_eq hk
        subst this
        simp only [hk, cond_true, Option.some.injEq, Prod.mk.injEq] at h
        obtain ⟨rfl, rfl⟩ := h
        exact ⟨rfl, (plainXs_cons hp).2⟩
    · cases h
  | u8 =>
    intro cs x r hp h
    simp only [Ty.dec] at h
    unfold decU8 at h
    split at h
    · cases h; exact ⟨rfl, (plainXs_cons hp).2⟩
    · cases h
  | bool =>
    intro cs x r hp h
    simp only [Ty.dec] at h
    unfold decB at h
    split at h
    · cases h; exact ⟨rfl, (plainXs_cons hp).2⟩
    · cases h
  | str =>
    intro cs x r hp h
    simp only [Ty.dec] at h
    unfold decS at h
    split at h
    · cases h; exact ⟨rfl, (plainXs_cons hp).2⟩
    · cases h
  | sl t ih =>
    intro cs x r hp h
    simp only [Ty.dec] at h
    unfold decL at h
    split at h
    · rename_i t' l r'
      split at h
      · rename_i ht
        have e := Ty.eqb_eq ht
        subst e
        cases h
        exact ⟨rfl, (plainXs_cons hp).2⟩
      · cases h
    · simp [plainXs, plainX] at hp
    · simp [plainXs, plainX] at hp
    · cases h
  | unit =>
    intro cs x r hp h
    simp [Ty.dec] at h
    subst h
    exact ⟨rfl, hp⟩
  | pair a b iha ihb =>
    intro cs x r hp h
    unfold Ty.dec at h
    split at h
    · rename_i p hpa
      split at h
      · rename_i q hq
        cases h
        obtain ⟨h1, h2⟩ := iha (x := p.1) (r := p.2) hp hpa
        obtain ⟨h3, h4⟩ := ihb (x := q.1) (r := q.2) h2 hq
        exact ⟨by rw [h1, h3]; simp [Ty.ds], h4⟩
      · cases h
    · cases h
  | st1 a iha =>
    intro cs x r hp h
    exact iha hp h
  | tab t ih =>
    intro cs x r hp h
    simp only [Ty.dec] at h
    unfold decT at h
    split at h
    · rename_i t' l r'
      split at h
      · rename_i ht
        have e := Ty.eqb_eq ht
        subst e
        cases h
        exact ⟨rfl, (plainXs_cons hp).2⟩
      · cases h
    · cases h
  | err =>
    intro cs x r hp h
    simp only [Ty.dec] at h
    unfold decE at h
    split at h
    · cases h; exact ⟨rfl, (plainXs_cons hp).2⟩
    · simp [plainXs, plainX] at hp
    · simp [plainXs, plainX] at hp
    · cases h
  | ic t k =>
    intro cs x r hp h
    simp only [Ty.dec] at h
    unfold decIc at h
    split at h
    · simp [plainXs, plainX] at hp
    · simp [plainXs, plainX] at hp
    · cases h
  | ptr =>
    intro cs x r hp h
    simp only [Ty.dec] at h
    unfold decP at h
    split at h
    · cases h; exact ⟨rfl, (plainXs_cons hp).2⟩
    · simp [plainXs, plainX] at hp
    · cases h
noncomputable def CellR (f fl : Nat → Nat) (ex : Bool) (cs xs : List XV) : Prop := AsLe (asOf cs) (asOf (mpL f fl xs)) ∧ (ex = true → asOf cs = asOf (mpL f fl xs))
theorem AsLe.refl : ∀ (l : List AV), AsLe l l
  | [] => .nil
  | x :: r => .cons (.refl x) (AsLe.refl r)
theorem AsLe.append {a b c d : List AV} (h : AsLe a b) (h' : AsLe c d) : AsLe (a ++ c) (b ++ d) := by
  induction h with
  | nil => exact h'
  | cons h1 _ ih => exact .cons h1 ih
theorem mpL_append (f fl : Nat → Nat) (a b : List XV) : mpL f fl (a ++ b) = mpL f fl a ++ mpL f fl b := by simp [mpL_map]
theorem CellR.app {f fl : Nat → Nat} {ex : Bool} {a b c d : List XV} (h : CellR f fl ex a b) (h' : CellR f fl ex c d) : CellR f fl ex (a ++ c) (b ++ d) := by
  refine ⟨?_, fun e => ?_⟩
  · rw [asOf_append, mpL_append, asOf_append]; exact h.1.append h'.1
  · rw [asOf_append, mpL_append, asOf_append, h.2 e, h'.2 e]
theorem CellR.same {f fl : Nat → Nat} {ex : Bool} {v x : XV} (h : v = x.mp f fl) : CellR f fl ex [v] [x] := by
  subst h
  exact ⟨.refl _, fun _ => rfl⟩
theorem asOf_map_d (l : List XD) : asOf (l.map .d) = (dsOf l).map .d := by
  rw [asOf_map, dsOf_map]; simp [XV.a]
theorem mpL_map_d (f fl : Nat → Nat) (l : List XD) : mpL f fl (l.map .d) = l.map .d := by
  rw [mpL_map]; simp [XV.mp]
theorem DsLe.as {a b : List D} (h : DsLe a b) : AsLe (a.map .d) (b.map .d) := by
  induction h with
  | nil => exact .nil
  | cons h1 _ ih => exact .cons (ALe.d h1) ih
theorem CellR.data {f fl : Nat → Nat} {ex : Bool} {t : Ty} {ds : List XD} {y : t.T} (h : t.dec ds = some (y, [])) (hex : ex = true → plainXs ds = true) : CellR f fl ex (ds.map .d) ((t.enc y).map .d) := by
  refine ⟨?_, fun e => ?_⟩
  · obtain ⟨ds', h1, h2⟩ := t.dec_spec h
    rw [mpL_map_d, asOf_map_d, asOf_map_d, t.enc_ds]
    simp only [dsOf, List.append_nil] at h1
    rw [h1]
    exact h2.as
  · obtain ⟨h1, _⟩ := dec_plain t (hex e) h
    rw [mpL_map_d, asOf_map_d, asOf_map_d, t.enc_ds, h1]
    simp [dsOf]
theorem AsLe.obs {a b : List AV} {ty : Option TypeId} (h : AsLe a b) : ObLe (.cells a ty) (.cells b ty) := by
  refine .cells h.length (fun i x y hx hy => ?_) (.inl rfl)
  obtain ⟨x', hx', hle⟩ := h.get hy
  rw [hx] at hx'
  cases hx'
  exact hle
end Go.Xl
set_option linter.unusedVariables false
set_option linter.unusedSimpArgs false
set_option linter.unnecessarySimpa false
namespace Go.Xl
open Go.Ab
noncomputable def newOk (ns : List Nat) (f : Nat → Nat) (F : List Nat) (objs : List (Nat × XOb)) : List (Nat × XOb) → Bool
  | [] => true
  | p :: r => cond (cond (inl p.1 ns) true (cond (inl (f p.1) F) (match lk (f p.1) objs with
    | none => true
    | some _ => false) false)) (newOk ns f F objs r) false
theorem newOk_spec {ns : List Nat} {f : Nat → Nat} {F : List Nat} {objs : List (Nat × XOb)} : ∀ {l : List (Nat × XOb)}, newOk ns f F objs l = true → ∀ p ∈ l, p.1 ∈ ns ∨ (f p.1 ∈ F ∧ lk (f p.1) objs = none)
  | [], _ => by simp
  | q :: r, h => by
    simp only [newOk] at h
    have hr : newOk ns f F objs r = true ∧ (q.1 ∈ ns ∨ (f q.1 ∈ F ∧ lk (f q.1) objs = none)) := by
      cases h1 : inl q.1 ns with
      | true => simp only [h1, cond_true] at h; exact ⟨h, .inl ((inl_eq _ _).1 h1)⟩
      | false =>
        cases h2 : inl (f q.1) F with
        | false => simp [h1, h2] at h
        | true =>
          cases h3 : lk (f q.1) objs with
          | some _ => simp [h1, h2, h3] at h
          | none => simp only [h1, h2, h3, cond_true, cond_false] at h; exact ⟨h, .inr ⟨(inl_eq _ _).1 h2, rfl⟩⟩
    intro p hp
    rcases List.mem_cons.1 hp with rfl | hp
    · exact hr.2
    · exact newOk_spec hr.1 p hp
noncomputable def outNew (fl : Nat → Nat) (labs live : List Nat) : List Nat → Bool
  | [] => true
  | n :: r => cond (cond (inl (fl n) live) (inl (fl n) (labs.map fl)) true) (outNew fl labs live r) false
theorem outNew_spec {fl : Nat → Nat} {labs live : List Nat} : ∀ {l : List Nat}, outNew fl labs live l = true → ∀ n ∈ l, fl n ∈ live → fl n ∈ labs.map fl
  | [], _ => by simp
  | m :: r, h => by
    simp only [outNew] at h
    intro n hn hl
    cases h1 : inl (fl m) live with
    | false =>
      simp only [h1, cond_false, cond_true] at h
      rcases List.mem_cons.1 hn with rfl | hn
      · rw [(inl_eq _ _).2 hl] at h1; cases h1
      · exact outNew_spec h n hn hl
    | true =>
      cases h2 : inl (fl m) (labs.map fl) with
      | false => simp [h1, h2] at h
      | true =>
        simp only [h1, h2, cond_true] at h
        rcases List.mem_cons.1 hn with rfl | hn
        · exact (inl_eq _ _).1 h2
        · exact outNew_spec h n hn hl
structure CChk (S : CSp) (f fl : Nat → Nat) (F : List Nat) (st : XSt) (xs : List XV) (inO s1o : List (Nat × XOb)) (s1l : List Nat) (res : XV) : Prop where
  nd1 : S.names.Nodup
  nd2 : (S.names.map f).Nodup
  innm : objsNms S.names S.labs inO = true
  outnm : objsNms (s1o.map (·.1)) s1l s1o = true
  nd3 : (s1o.map fun p => f p.1).Nodup
  new : ∀ p ∈ s1o, p.1 ∈ S.names ∨ (f p.1 ∈ F ∧ lk (f p.1) st.objs = none)
  sub : ∀ x ∈ S.names, x ∈ s1o.map (·.1)
  free : objsFreeX F (putXs f fl inO st.objs) = true
  l1 : ∀ x ∈ S.labs.map fl, x ∈ st.live
  l2 : (S.labs.map fl).Nodup
  l3 : (s1l.map fl).Nodup
  l4 : ∀ x ∈ s1l.map fl, x ∈ F
  l5 : ∀ n ∈ s1l, fl n ∈ st.live → fl n ∈ S.labs.map fl
  xsn : nmsL S.names S.labs xs = true
  resn : res.nms (s1o.map (·.1)) s1l = true
theorem im_mem {l : List (Nat × XOb)} {p : Nat × Ob} (h : p ∈ imObjs l) : ∃ q ∈ l, p = (q.1, q.2.o) := by
  unfold imObjs at h
  obtain ⟨q, hq, rfl⟩ := List.mem_map.1 h
  exact ⟨q, hq, rfl⟩
theorem putObjsL_im_other {f fl : Nat → Nat} {l : List (Nat × XOb)} {acc : List (Nat × Ob)} {j : Nat} (h : ∀ p ∈ l, f p.1 ≠ j) : (putObjsL f fl (imObjs l) acc).lookup j = acc.lookup j := by
  refine putObjsL_other _ _ j fun p hp => ?_
  obtain ⟨q, hq, rfl⟩ := im_mem hp
  exact h q hq
theorem putObjsL_im_mem {f fl : Nat → Nat} {l : List (Nat × XOb)} {acc : List (Nat × Ob)} {p : Nat × XOb} (hn : (l.map fun p => f p.1).Nodup) (h : p ∈ l) : (putObjsL f fl (imObjs l) acc).lookup (f p.1) = some (p.2.mp f fl).o := by
  have := putObjsL_mem (f := f) (fl := fl) (imObjs l) acc (p.1, p.2.o) (by simpa [imObjs, Function.comp_def] using hn) (List.mem_map_of_mem (f := fun p : Nat × XOb => (p.1, p.2.o)) h)
  rw [XOb.mp_o]
  exact this
noncomputable def nmBase (o : Oper) : Nat := match o.dst with
  | some d => 1000000 + 1000 * d
  | none => 999000
noncomputable def isNilL {α : Type} : List α → Bool
  | [] => true
  | _ => false
noncomputable def datL : List XV → Bool
  | [] => true
  | .d _ :: r => datL r
  | _ => false
theorem datL_areData : ∀ {l : List XV}, datL l = true → areData (asOf l) = true
  | [], _ => rfl
  | .d x :: r, h => by
    have := datL_areData (l := r) h
    simp only [asOf, XV.a, areData, isData, this, Bool.and_self]
  | .nm _ _ :: _, h => by simp [datL] at h
  | .tip _ _ _ _ :: _, h => by simp [datL] at h
  | .tup _ :: _, h => by simp [datL] at h
  | .agg _ :: _, h => by simp [datL] at h
  | .clo _ _ :: _, h => by simp [datL] at h
  | .os _ _ _ _ :: _, h => by simp [datL] at h
  | .el _ _ _ _ :: _, h => by simp [datL] at h
  | .tpt _ _ _ _ :: _, h => by simp [datL] at h
noncomputable def calleeOp (o : Oper) : Operand :=
  match o.op with
  | .call c => match c.callee with
    | .value x => x
    | _ => .const undef
  | _ => .const undef
theorem isNilL_eq {α : Type} {l : List α} (h : isNilL l = true) : l = [] := by cases l <;> simp [isNilL] at h; rfl
end Go.Xl
set_option linter.unusedVariables false
set_option linter.unusedSimpArgs false
namespace Go.Ab
section
variable {P : Program} {o : Oper} {X : Store}
theorem op_slice_whole {t e n sz : Nat} {x : Operand} {k off : Nat} {cs : List AV} {ty : Option TypeId} (ho : o.op = .slice t x none none none) (ht : ArrI P t e n sz)
    (hk : X.objs.lookup k = some (.cells cs ty)) (hn : off + n * sz ≤ cs.length) :
    OpT P o [(x, .ptr k off)] X X [] (.osl k off n sz) :=
  .quiet fun _ _ g w ac hr hrd => by
    have h3 := rd0 hrd
    simp only at h3
    have hx := h3.ptr_inv
    obtain ⟨hu, i, hi', hsz⟩ := ht
    obtain ⟨T, c, hsh, hc⟩ : ∃ T c, w.shape? (g.ρ k) = some (T, c) ∧ off + n * sz ≤ c := by
      cases hr.objs k _ hk with
      | cells _ _ arr T hb hl hc h4 => exact ⟨T, arr.size, by simp [World.shape?, hb], by omega⟩
    have hsize : (sizeOf e).run P w = .ok sz w := by rw [run_sizeOf hi', hsz]
    by_cases hz : n = 0
    · refine ⟨.slice (some ⟨g.ρ k, off, none⟩) n n, ?_, ?_⟩
      · simp only [execOp, ho, hx]
        simp [Instr.sliceAt, Instr.sureAddr, Instr.sliceBounds, run_underlying hu, hsize, hz]
      · exact .nm _ _ _ ⟨n, off, Nat.le_refl _, rfl, .inr rfl, T, c, hsh, hc⟩
    · refine ⟨.slice (some ⟨g.ρ k, off, none⟩) n n, ?_, ?_⟩
      · simp only [execOp, ho, hx]
        simp [Instr.sliceAt, Instr.sureAddr, Instr.sliceBounds, run_underlying hu, hsize, hz, addr_add]
      · exact .nm _ _ _ ⟨n, off, Nat.le_refl _, rfl, .inr rfl, T, c, hsh, hc⟩
theorem op_append_obj {ty : Option TypeId} {ts : Array TypeId} {s x : Operand} {n sz k off : Nat} {es fs : List (List D)} {t u e e' : TypeId} {i : TypeInfo} {z : Value} {cs : List AV} {cty : Option TypeId} (m : Nat)
    (ho : o.op = .call { callee := .builtin .append, args := #[s, x], argTypes := ts }) (h0 : ts[0]? = some t) (h1 : ts[1]? = some u) (hu : P.underlying u = some (.slice e'))
    (ht : P.underlying t = some (.slice e)) (hi : P.info? e = some i) (hz : i.zero = some z) (hzs : z.cells.size = sz) (hsz : i.size = sz) (hn : n ∈ X.live) (hm : m ∉ X.live.filter (· != n)) (hX : objsFree [m] X = true)
    (hone : ∀ cs ∈ fs, ∀ c ∈ cs, oneD c = true) (hbig : (es.length + fs.length) * i.bytes ≤ 140737488355328) (hlen : es.length + fs.length ≤ 4611686018427387904)
    (hty : ∀ e', ty = some e' → e' = e) (hk : X.objs.lookup k = some (.cells cs cty)) (hfs : ∀ (i : Nat) (c : List D), fs[i]? = some c → c.length = sz)
    (hin : off + fs.length * sz ≤ cs.length) (hcs : ∀ (i j : Nat) (c : List D) d, fs[i]? = some c → c[j]? = some d → cs[off + (i * sz + j)]? = some (.d d)) :
    OpT P o [(s, .tip n sz es ty), (x, .osl k off fs.length sz)] X ⟨X.objs, m :: X.live.filter (· != n)⟩ [m] (.tip m sz (es ++ fs) ty) :=
  op_append_src m ho h0 h1 hu ht hi hz hzs hsz hn hm hX hone hbig hlen hty _ fun {nm B g w v} hr e => by
    cases e with
    | nm _ _ _ e =>
      obtain ⟨cap, o', hle, rfl, hor, T, c, hsh, hc⟩ := e
      cases hr.objs k _ hk with
      | cells _ _ arr T' hb hl hcc h4 =>
        have hoff : fs.length = 0 ∨ o' = off := by
          rcases hor with h | h
          · left; omega
          · exact .inr h
        have hcell : ∀ w' : World, w'.heap = w.heap → ∀ j, j < fs.length * sz → w'.cell? ⟨g.ρ k, o' + j, none⟩ = some ((arr[off + j]?).getD undef) := by
          intro w' hw' j hj
          rcases hoff with h | h
          · rw [h] at hj; simp at hj
          · rw [h, cell?_cells (w := w') (by rw [hw']; exact hb)]
            have : off + j < arr.size := by omega
            simp [this]
        have hrun : ∀ w' : World, w'.heap = w.heap → (Builtin.firstCells sz fs.length (.slice (some ⟨g.ρ k, o', none⟩) fs.length cap)).run P w' = .ok ((List.range (fs.length * sz)).map fun j => (arr[off + j]?).getD undef).toArray w' := by
          intro w' hw'
          refine run_firstCells_some w' sz fs.length _ _ _ _ (by simp) ?_
          intro j u hu
          rw [List.getElem?_map, Option.map_eq_some_iff] at hu
          obtain ⟨q, hq, rfl⟩ := hu
          have hlt : j < fs.length * sz := by have := (List.getElem?_eq_some_iff.1 hq).1; simpa using this
          have : q = j := by rw [List.getElem?_range hlt] at hq; simpa using hq.symm
          subst this
          rw [addr_add]
          exact hcell w' hw' q hlt
        refine ⟨some ⟨g.ρ k, o', none⟩, cap, rfl, hfs, (List.range (fs.length * sz)).map fun j => (arr[off + j]?).getD undef, by simp, hrun w rfl, hrun w.drew rfl, ?_⟩
        intro p q c' d u hp hq hu
        have h1 : p < fs.length := (List.getElem?_eq_some_iff.1 hp).1
        have h2 : q < c'.length := (List.getElem?_eq_some_iff.1 hq).1
        rw [hfs p c' hp] at h2
        have hlt := lt_slot h1 h2
        rw [List.getElem?_map, List.getElem?_range hlt] at hu
        simp only [Option.map_some, Option.some.injEq] at hu
        have h3 := hcs p q c' d hp hq
        have hb' : off + (p * sz + q) < arr.size := by omega
        have h5 : arr[off + (p * sz + q)]? = some arr[off + (p * sz + q)] := by simp [hb']
        rw [h5] at hu
        simp only [Option.getD_some] at hu
        subst hu
        cases hcc _ _ _ h3 h5 with
        | d _ _ h => exact h
theorem op_copy_obj {ts : Array TypeId} {x y : Operand} {dT sT e : TypeId} {i : TypeInfo} {k off : Nat} {fs : List D} {cs : List AV} {ty : Option TypeId} (ho : o.op = .call { callee := .builtin .copy, args := #[x, y], argTypes := ts }) (hts : ts = #[dT, sT])
    (hu : P.underlying dT = some (.slice e)) (hi : P.info? e = some i) (hsz : i.size = 1) (hk : X.objs.lookup k = some (.cells cs ty)) (hin : off + fs.length ≤ cs.length) (hne : fs ≠ []) (hone : ∀ d ∈ fs, oneD d = true) :
    OpT P o [(x, .osl k off fs.length 1), (y, .d (.sl 1 (fs.map fun d => [d])))] X ⟨setObj k (.cells (splice cs off (fs.map .d)) ty) X.objs, X.live⟩ [] (.d (.sc (.int .i64 fs.length))) := by
  subst hts
  intro nm hsm B g w a hr hrd next Q hn
  have h1 := (rd0 hrd).osl_inv
  have h2 := rd1 hrd
  simp only at h1 h2
  obtain ⟨cap, q, hcap, hv, hq, T, c, hsh, hc⟩ := h1
  have hpos : 0 < fs.length := List.length_pos_iff.2 hne
  have hq : q = off := by
    rcases hq with h | h
    · omega
    · exact h
  subst hq
  generalize hy : a.eval y = vy at h2
  cases h2 with
  | d _ _ h2 =>
  generalize hes : fs.map (fun d => [d]) = es at h2
  have hel : es.length = fs.length := by rw [← hes, List.length_map]
  cases h2 with
  | nil _ a' cap' h0 =>
    exact absurd (List.map_eq_nil_iff.1 hes) hne
  | sl _ _ b off' len' cap' hl' hγ hcap' hsz' hc' =>
  rw [hel] at hl' hγ hcap'
  subst hl'
  cases hr.objs k _ hk with
  | cells _ _ arr T' hb hlen hcc hty =>
  rw [shape_cells hb] at hsh
  simp only [Option.some.injEq, Prod.mk.injEq] at hsh
  obtain ⟨rfl, rfl⟩ := hsh
  have hex : ∀ j, j < fs.length → ∃ u, w.cell? ⟨b, off' + j, none⟩ = some u := fun j hj => Option.isSome_iff_exists.1 (hr.sane b (off' + j) (by omega))
  have hget : ∀ j, j < fs.length → w.cell? ⟨b, off' + j, none⟩ = some ((w.cell? ⟨b, off' + j, none⟩).getD undef) := fun j hj => by
    obtain ⟨u, hu⟩ := hex j hj; rw [hu]; rfl
  generalize hnews : (List.range fs.length).map (fun j => (w.cell? ⟨b, off' + j, none⟩).getD undef) = news
  have hnl : news.length = fs.length := by rw [← hnews]; simp
  have hng : ∀ (j : Nat) (u : Value), news[j]? = some u → j < fs.length ∧ w.cell? ⟨b, off' + j, none⟩ = some u := by
    intro j u hu
    have hj : j < fs.length := by have := (List.getElem?_eq_some_iff.1 hu).1; omega
    rw [← hnews, List.getElem?_map, List.getElem?_range hj] at hu
    simp only [Option.map_some, Option.some.injEq] at hu
    refine ⟨hj, ?_⟩
    rw [hget j hj, hu]
  have hrd' : ∀ (j : Nat) (u : Value) (d : D), fs[j]? = some d → news[j]? = some u → RD g.γ w d u := by
    intro j u d hd hu
    obtain ⟨hj, hcell⟩ := hng j u hu
    refine hc' j [d] 0 d u (by rw [← hes, List.getElem?_map, hd]; rfl) rfl ?_
    rw [Nat.mul_one, Nat.add_zero]; exact hcell
  have hone' : ∀ v ∈ news, v.oneCell' = true := by
    intro v hv
    obtain ⟨j, hj⟩ := List.mem_iff_getElem?.1 hv
    have hlt := (hng j v hj).1
    exact oneD_val (hrd' j v fs[j] (by simp [hlt]) hj) (hone _ (List.getElem_mem hlt))
  have hrun := run_copy_row (P := P) w dT sT o.type e (g.ρ k) q fs.length cap ⟨b, off', none⟩ fs.length cap' arr T' news hu (by rw [hi]; simp [hsz]) hb (by rw [hnl]; simp [Nat.min_def]) (by
    intro j v hj
    rw [addr_add]
    exact (hng j v hj).2) (by omega) hone'
  rw [hnl] at hrun
  generalize hY : (arr.toList.take q ++ news ++ arr.toList.drop (q + fs.length)).toArray = Y at hrun
  have hb' : (w.setRow (g.ρ k) Y).heap[g.ρ k]? = some (.cells Y T' (0, 0)) := setRow_heap _ _ arr _ T' (0, 0) hb
  have hYs : Y.size = arr.size := by
    rw [← hY]
    simp [hnl]
    omega
  obtain ⟨r1, r2⟩ := hr.write (w' := w.setRow (g.ρ k) Y) hk (o' := .cells (splice cs q (fs.map .d)) ty) (by simp) ⟨rfl, rfl, rfl, Nat.le_refl _⟩ (fun b hb2 => setRow_other _ _ _ _ hb2) (by
    intro ht'
    refine .cells _ ty Y T' hb' (by rw [splice_length (by rw [List.length_map]; exact hin), hYs]; omega) ?_ hty
    intro j z u hz hu
    rw [splice_get (by rw [List.length_map]; exact hin)] at hz
    rw [← hY] at hu
    simp only [List.getElem?_toArray] at hu
    rw [List.length_map] at hz
    by_cases hin2 : q ≤ j ∧ j < q + fs.length
    · rw [if_pos hin2] at hz
      rw [List.getElem?_map, Option.map_eq_some_iff] at hz
      obtain ⟨d, hd, rfl⟩ := hz
      rw [List.getElem?_append_left (by simp [hnl]; omega), List.getElem?_append_right (by simp; omega)] at hu
      refine (RA.d _ _ (hrd' (j - q) u d hd ?_)).mono ht' (.nil _)
      rw [← hu]; congr 1; simp; omega
    · rw [if_neg hin2] at hz
      refine (hcc j z u hz ?_).mono ht' (.nil _)
      rw [← hu]
      by_cases hlt : j < q
      · rw [List.getElem?_append_left (by simp [hnl]; omega), List.getElem?_append_left (by simp; omega), List.getElem?_take_of_lt hlt]
        simp
      · rw [List.getElem?_append_right (by simp [hnl]; omega), List.getElem?_drop]
        simp only [List.length_append, List.length_take, Array.length_toList, hnl]
        have : q + fs.length + (j - (min q arr.size + fs.length)) = j := by omega
        rw [this]; simp) (by
      intro sh hs0
      rw [shape_cells hb] at hs0
      rw [shape_cells hb', hYs]
      exact hs0)
  unfold Oper.wp
  have : (execOp a.eval o).run P w = .ok (.value (goInt fs.length)) (w.setRow (g.ρ k) Y) := by
    simp [execOp, ho, resolve, hv, hy, invoke, builtin, hrun]
  rw [this]
  exact hn _ _ _ r1 r2 (.ofSc _ _ _)
theorem op_build_arr {t e n sz : Nat} {parts : Array (Nat × Operand)} {zs out : List AV} {xs : List AV} (ho : o.op = .build t parts) (ht : ArrI P t e n sz) (hz : ZeroI P t zs)
    (hx : xs.length = parts.size) (hok : xs.all okSc = true) (hf : fillA (fun i => some (i * sz, sz)) zs ((parts.toList.map (·.1)).zip xs) = some out) :
    OpT P o ((parts.toList.map (·.2)).zip xs) X X [] (joinAgg out) :=
  .quiet fun _ _ g w ac hr hrd => by
    obtain ⟨hu, i0, hi0, hsz⟩ := ht
    obtain ⟨i, z, hi, hzz, hzc⟩ := hz.is
    obtain ⟨z1, z2⟩ := hzc.ra g w
    obtain ⟨arr', hfill, hl, hc⟩ := fill_run (g := g) (w := w) (place := fun i => some (i * sz, sz)) ((parts.toList.map (·.1)).zip xs) (parts.toList.map fun p => (p.1, ac.eval p.2)) zs z.cells out (by simp [hx]) (by
      intro j p q hp hq
      rw [List.getElem?_map, Option.map_eq_some_iff] at hq
      obtain ⟨pt, hpt, rfl⟩ := hq
      rw [List.getElem?_zip_eq_some] at hp
      obtain ⟨hp1, hp2⟩ := hp
      rw [List.getElem?_map, hpt] at hp1
      simp at hp1
      refine ⟨hp1.symm, ?_⟩
      have := hrd (pt.2, p.2) (List.mem_of_getElem? (i := j) (by
        rw [List.getElem?_zip_eq_some]
        exact ⟨by rw [List.getElem?_map, hpt]; rfl, hp2⟩))
      exact this) (by
      rw [List.all_eq_true] at hok ⊢
      intro p hp
      exact hok _ (List.of_mem_zip hp).2) (by simpa using z1) (fun i x v hx hv => z2 i x v hx (by simpa using hv)) hf
    refine ⟨.agg arr', ?_, RA.join hl hc⟩
    simp only [execOp, ho, Instr.build]
    have hfill' : Instr.fill (fun i => some (i * sz, sz)) z.cells (List.map (fun x => (x.1, ac.eval x.2)) parts.toList) = some arr' := hfill
    have hsize : (sizeOf e).run P w = .ok sz w := by rw [run_sizeOf hi0, hsz]
    simp [zeroValue, typeInfo, hi, hzz, run_underlying hu, hsize, hfill']
theorem fillA_mono {f g : Nat → Option (Nat × Nat)} (h : ∀ i p, f i = some p → g i = some p) : ∀ (parts : List (Nat × AV)) (cs out : List AV), fillA f cs parts = some out → fillA g cs parts = some out
  | [], cs, out, hf => hf
  | (i, x) :: r, cs, out, hf => by
    unfold fillA at hf ⊢
    cases hi : f i with
    | none => rw [hi] at hf; cases hf
    | some p =>
      obtain ⟨off, sz⟩ := p
      rw [hi] at hf
      rw [h i _ hi]
      simp only at hf ⊢
      split at hf
      · rename_i hc
        rw [if_pos hc]
        exact fillA_mono h r _ _ hf
      · cases hf
end
end Go.Ab
set_option linter.unusedVariables false
set_option linter.unusedSimpArgs false
namespace Go.Xl
open Go.Ab
noncomputable def intsOf (kd : IntKind) : List XV → Option (List Int)
  | [] => some []
  | .d (.i k n) :: r => cond (kindB k kd) (match intsOf kd r with
    | some l => some (n :: l)
    | none => none) none
  | _ :: _ => none
theorem intsOf_ok {kd : IntKind} : ∀ {l : List XV} {m : List Int}, intsOf kd l = some m → l = m.map fun n => XV.d (.i kd n)
  | [], m, h => by simp only [intsOf, Option.some.injEq] at h; subst h; rfl
  | x :: r, m, h => by
    unfold intsOf at h
    split at h
    · rename_i hx; cases hx
    · rename_i k n r' hx
      simp only [List.cons.injEq] at hx
      obtain ⟨rfl, rfl⟩ := hx
      cases hk : kindB k kd with
      | false => simp [hk] at h
      | true =>
        simp only [hk, cond_true] at h
        split at h
        · rename_i l' hl
          simp only [Option.some.injEq] at h
          subst h
          rw [List.map_cons, ← intsOf_ok hl, kindB_eq hk]
        · cases h
    · cases h
theorem o2 {α : Type} {b : Bool} {x : Option α} {r : α} (h : cond b x none = some r) : b = true ∧ x = some r := by
  cases b with
  | true => exact ⟨rfl, h⟩
  | false => cases h
noncomputable def kindAt (cs : List XV) (off : Nat) : Option IntKind :=
  match cs[off]? with
  | some (.d (.i k _)) => some k
  | _ => none
noncomputable def xSliceO (P : Program) (st : XSt) (t : TypeId) (x : Operand) : Option Out :=
  match arrOfT P t, xeval st x with
  | some (_, n, 1), some (.nm k (.p off)) => match lk k st.objs with
    | some (.cells cs ty) => match kindAt cs off with
      | some kd => cond (Nat.ble (off + n) cs.length) (some ⟨.look [k], .os k (.int kd) off n, [(x, .nm k (.p off))], st.objs, st.live, [], []⟩) none
      | none => none
    | _ => none
  | _, _ => none
theorem xSliceO_ok {P : Program} {o : Oper} {st : XSt} {t : TypeId} {x : Operand} {out : Out} (ho : o.op = .slice t x none none none) (h : xSliceO P st t x = some out) : OpOk P o st out := by
  unfold xSliceO at h
  split at h
  · rename_i e n k off hat hx
    split at h
    · rename_i cs ty hk
      split at h
      · rename_i kd hkd
        cases hb : Nat.ble (off + n) cs.length with
        | false => simp [hb] at h
        | true =>
          simp only [hb, cond_true, Option.some.injEq] at h
          subst h
          refine ⟨sees1v hx, ⟨rfl, rfl, rfl, fun X hX => ?_⟩, fun _ _ _ h => h⟩
          have hkX : X.objs.lookup k = some (.cells (asOf cs) ty) := by
            rw [hX k (by simp)]; exact (by show (imObjs st.objs).lookup k = _; rw [im_objs, hk]; rfl)
          have := op_slice_whole (P := P) (X := X) ho (arrOfT_I hat) hkX (off := off) (by
            rw [asOf_length]
            have := Nat.le_of_ble_eq_true hb
            omega)
          show OpT P o [(x, .ptr k off)] X X [] (.osl k (off * 1) n 1)
          rw [Nat.mul_one]
          exact this
      · cases h
    · cases h
  · cases h
noncomputable def xAppObj (P : Program) (st : XSt) (o : Oper) (ts : Array TypeId) (s x : Operand) : Option Out :=
  match ts[0]?, ts[1]?, newLab o with
  | some t, some u, some m =>
    match sliceOfT P t, sliceOfT P u, xeval st s, xeval st x with
    | some (e, sz, bytes), some _, some (.tip n (.int kd) l oty), some (.os k (.int kd') a len) => match lk k st.objs with
      | some (.cells cs cty) => match intsOf kd ((cs.drop a).take len) with
        | some l' => cond (kindB kd' kd) (cond (Nat.beq 1 sz) (cond (inl n st.live) (cond (freshL m (without n st.live) st) (cond (tyOpt oty e)
            (cond (fitsB (l.length + l'.length) bytes) (cond (Nat.beq l'.length len) (cond (Nat.ble (a + len) cs.length) (some ⟨.lab, .tip m (.int kd) (l ++ l') oty, [(s, .tip n (.int kd) l oty), (x, .os k (.int kd') a len)], st.objs, m :: without n st.live, [m], []⟩) none) none) none) none) none) none) none) none
        | none => none
      | _ => none
    | _, _, _, _ => none
  | _, _, _ => none
theorem xAppObj_ok {P : Program} {o : Oper} {st : XSt} {ts : Array TypeId} {s x : Operand} {out : Out} (ho : o.op = .call { callee := .builtin .append, args := #[s, x], argTypes := ts }) (h : xAppObj P st o ts s x = some out) : OpOk P o st out := by
  unfold xAppObj at h
  split at h
  · rename_i t u m ht hu hm
    split at h
    · rename_i e sz bytes q n kd l oty k kd' a len hsl hsu hs hx
      split at h
      · rename_i cs cty hk
        split at h
        · rename_i l' hl'
          obtain ⟨h0, h⟩ := o2 h
          obtain ⟨h1, h⟩ := o2 h
          obtain ⟨h2, h⟩ := o2 h
          obtain ⟨h3, h⟩ := o2 h
          obtain ⟨h4, h⟩ := o2 h
          obtain ⟨h5, h⟩ := o2 h
          obtain ⟨h6, h⟩ := o2 h
          obtain ⟨h7, h⟩ := o2 h
          have h7 := Nat.le_of_ble_eq_true h7
          simp only [Option.some.injEq] at h
          subst h
          have e0 := kindB_eq h0
          subst e0
          have e1 := Nat.eq_of_beq_eq_true h1
          subst e1
          have e6 := Nat.eq_of_beq_eq_true h6
          subst e6
          obtain ⟨f1, f2⟩ := freshL_ok h3
          obtain ⟨b1, b2⟩ := fitsB_iff h5
          obtain ⟨q1, q2, q3⟩ := q
          have hcl := intsOf_ok hl'
          have hget : ∀ i, i < l'.length → cs[a + i]? = some (.d (.i kd' (l'[i]!))) := by
            intro i hi
            have h7 : ((cs.drop a).take l'.length)[i]? = some (XV.d (.i kd' (l'[i]!))) := by
              rw [hcl, List.getElem?_map, List.getElem?_eq_getElem hi]
              simp [hi]
            rw [List.getElem?_take_of_lt hi, List.getElem?_drop] at h7
            exact h7
          refine ⟨?_, ⟨rfl, ?_⟩, fun _ _ _ h => h⟩
          · intro p hp
            simp only [imRd, List.map_cons, List.map_nil, List.mem_cons, List.not_mem_nil, or_false] at hp
            rcases hp with rfl | rfl
            · exact xeval_sees hs
            · exact xeval_sees hx
          · have hs1 := sliceOfT_I hsl
            have hu1 := sliceOfT_I hsu
            obtain ⟨hu', i', z, hi, hsz, hb, hz, hzs⟩ := hs1
            subst hb
            have := op_append_obj (P := P) (o := o) (X := st.X) (s := s) (x := x) (n := n) (sz := 1) (k := k) (off := a) (es := l.map (Ty.int kd').ds) (fs := l'.map (Ty.int kd').ds) (ty := oty) (cs := asOf cs) (cty := cty) m ho ht hu hu1.und hu' hi hz hzs hsz ((inl_eq _ _).1 h2) f1 f2
              (by intro cs hcs c hc; obtain ⟨y, _, rfl⟩ := List.mem_map.1 hcs; exact (Ty.int kd').ds_one y c hc) (by simpa using b1) (by simpa using b2) (by
                intro e1 h1; subst h1; simpa using tyOpt_ok h4) (lk_imA hk) (by
                intro i c hc
                rw [List.getElem?_map, Option.map_eq_some_iff] at hc
                obtain ⟨z, _, rfl⟩ := hc
                rfl) (by
                rw [asOf_length, List.length_map]
                omega) (by
                intro i j c d hc hd
                rw [List.getElem?_map, Option.map_eq_some_iff] at hc
                obtain ⟨z, hz1, rfl⟩ := hc
                have hi1 : i < l'.length := (List.getElem?_eq_some_iff.1 hz1).1
                cases j with
                | succ j => simp [Ty.ds] at hd
                | zero =>
                  simp only [Ty.ds, List.getElem?_cons_zero, Option.some.injEq] at hd
                  subst hd
                  rw [Nat.mul_one, Nat.add_zero, asOf_get, hget i hi1]
                  have : l'[i]! = z := by simp [List.getElem!_eq_getElem?_getD, hz1]
                  rw [this]; rfl)
            rw [← List.map_append, List.length_map] at this
            show OpT P o [(s, .tip n 1 (l.map (Ty.int kd').ds) oty), (x, .osl k (a * 1) l'.length 1)] st.X _ _ _
            rw [Nat.mul_one]
            exact this
        · cases h
      · cases h
    · cases h
  · cases h
noncomputable def xCopyObj (P : Program) (st : XSt) (ts : Array TypeId) (x y : Operand) : Option Out :=
  match ts.toList with
  | [dT, _] => match sliceOfT P dT, xeval st x, xd st y with
    | some (e, 1, _), some (.os k (.int kd') a len), some (.sl (.int kd) l) => match lk k st.objs with
      | some (.cells cs ty) => cond (Nat.beq l.length len) (cond (Nat.ble 1 len) (cond (Nat.ble (a + len) cs.length)
          (some ⟨.put k (.cells (cs.take a ++ l.map (fun n => XV.d (.i kd n)) ++ cs.drop (a + len)) ty), .d (.i .i64 len), [(x, .os k (.int kd') a len), (y, .d (.sl (.int kd) l))], xset k (.cells (cs.take a ++ l.map (fun n => XV.d (.i kd n)) ++ cs.drop (a + len)) ty) st.objs, st.live, [], [k]⟩) none) none) none
      | _ => none
    | _, _, _ => none
  | _ => none
theorem xCopyObj_ok {P : Program} {o : Oper} {st : XSt} {ts : Array TypeId} {x y : Operand} {out : Out} (ho : o.op = .call { callee := .builtin .copy, args := #[x, y], argTypes := ts }) (h : xCopyObj P st ts x y = some out) : OpOk P o st out := by
  unfold xCopyObj at h
  split at h
  · rename_i dT sT hts
    have hts : ts = #[dT, sT] := by rw [← Array.toArray_toList (xs := ts), hts]
    split at h
    · rename_i e bytes k kd' a len kd l hsl hx hy
      split at h
      · rename_i cs ty hk
        obtain ⟨h1, h⟩ := o2 h
        obtain ⟨h2, h⟩ := o2 h
        obtain ⟨h3, h⟩ := o2 h
        simp only [Option.some.injEq] at h
        subst h
        have h1 := Nat.eq_of_beq_eq_true h1
        have h2 := Nat.le_of_ble_eq_true h2
        have h3 := Nat.le_of_ble_eq_true h3
        subst h1
        refine ⟨?_, ⟨rfl, rfl, rfl, fun X hX => ?_⟩, fun j z hj hz => ?_⟩
        · intro p hp
          simp only [imRd, List.map_cons, List.map_nil, List.mem_cons, List.not_mem_nil, or_false] at hp
          rcases hp with rfl | rfl
          · exact xeval_sees hx
          · exact xd_at hy
        · obtain ⟨hu', i', z, hi, hsz, hb, hz, hzs⟩ := sliceOfT_I hsl
          have := op_copy_obj (P := P) (X := X) (k := k) (off := a) (fs := l.map fun n => D.int kd n) (cs := asOf cs) (ty := ty) ho hts hu' hi hsz (hX.trans (lk_imA hk)) (by
            rw [asOf_length, List.length_map]; exact h3) (by
            intro hh
            have := congrArg List.length hh
            simp at this
            rw [this] at h2
            simp at h2) (by
            intro d hd
            obtain ⟨n, _, rfl⟩ := List.mem_map.1 hd
            rfl)
          rw [List.length_map, List.map_map] at this
          have es : (XOb.cells (cs.take a ++ l.map (fun n => XV.d (.i kd n)) ++ cs.drop (a + l.length)) ty).o = .cells (splice (asOf cs) a ((l.map fun n => D.int kd n).map .d)) ty := by
            show Ob.cells _ _ = _
            congr 1
            rw [asOf_append, asOf_append, asOf_take, asOf_drop]
            unfold splice
            rw [List.length_map, List.length_map]
            congr 2
            rw [asOf_map, List.map_map, List.map_map]
            rfl
          rw [es]
          show OpT P o [(x, .osl k (a * 1) l.length 1), (y, .d (.sl 1 (l.map (Ty.int kd).ds)))] X _ [] _
          rw [Nat.mul_one]
          exact this
        · simp only [List.mem_singleton] at hj
          rwa [lk_xset _ _ _ _ hj] at hz
      · cases h
    · cases h
  · cases h
noncomputable def placesA (n sz : Nat) : List (Nat × Nat) := (List.range n).map fun i => (i * sz, sz)
noncomputable def xBuildA (P : Program) (st : XSt) (t : TypeId) (parts : Array (Nat × Operand)) : Option Out :=
  match arrOfT P t, zeroOf P t, xevals st (parts.toList.map (·.2)) with
  | some (_, n, sz), some zs, some vs =>
    cond (allNotAgg vs) (match xfill (placesA n sz) zs ((parts.toList.map (·.1)).zip vs) with
      | some out => some (quietO st (xjoin out) ((parts.toList.map (·.2)).zip vs))
      | none => none) none
  | _, _, _ => none
theorem xBuildA_ok {P : Program} {o : Oper} {st : XSt} {t : TypeId} {parts : Array (Nat × Operand)} {out : Out} (ho : o.op = .build t parts) (h : xBuildA P st t parts = some out) : OpOk P o st out := by
  unfold xBuildA at h
  split at h
  · rename_i e n sz zs vs hpl hz hvs
    obtain ⟨hn, h⟩ := o2 h
    split at h
    · rename_i out' hout
      simp only [Option.some.injEq] at h
      subst h
      refine quietO_ok (xevals_sees hvs) fun X => ?_
      have hl := xevals_len hvs
      have hf := xfill_a hout
      rw [zip_a] at hf
      have hf := fillA_mono (g := fun i => some (i * sz, sz)) (by
        intro i p hp
        unfold placesA at hp
        rw [List.getElem?_map, Option.map_eq_some_iff] at hp
        obtain ⟨j, hj, rfl⟩ := hp
        have := (List.getElem?_eq_some_iff.1 hj)
        obtain ⟨h1, h2⟩ := this
        rw [List.getElem_range] at h2
        subst h2
        rfl) _ _ _ hf
      have := op_build_arr (P := P) (X := X) (xs := asOf vs) ho (arrOfT_I hpl) (zeroOf_I hz) (by rw [asOf_length, hl]; simp) (allNotAgg_a hn) hf
      rw [imRd_zip, xjoin_a]
      exact this
    · cases h
  · cases h
end Go.Xl
set_option linter.unusedVariables false
set_option linter.unusedSimpArgs false
set_option linter.unnecessarySimpa false
namespace Go.Ab
section
variable {P : Program} {o : Oper} {X : Store}
theorem repl_flat {α : Type} (zs : List α) : ∀ (n : Nat) (j : Nat), j < n * zs.length → ((List.replicate n zs).flatten)[j]? = zs[j % zs.length]?
  | 0, j, h => by omega
  | n + 1, j, h => by
    rw [List.replicate_succ, List.flatten_cons, List.getElem?_append]
    split
    · rename_i hlt; rw [Nat.mod_eq_of_lt hlt]
    · rename_i hge
      rw [repl_flat zs n (j - zs.length) (by rw [Nat.succ_mul] at h; omega)]
      congr 1
      exact (Nat.mod_eq_sub_mod (by omega)).symm
theorem op_buildSlice_av (m : Nat) {t e : TypeId} {n : Nat} {parts : Array (Nat × Operand)} {zs out xs : List AV} {i : TypeInfo} {z : Value} (ho : o.op = .buildSlice t n parts) (ht : P.underlying t = some (.slice e))
    (hi : P.info? e = some i) (hz : i.zero = some z) (hzs : ZCells zs z.cells.toList) (hzl : z.cells.size = i.size) (hx : xs.length = parts.size) (hok : xs.all okSc = true)
    (hf : fillA (fun j => some (j * i.size, i.size)) ((List.replicate n zs).flatten) ((parts.toList.map (·.1)).zip xs) = some out)
    (hbig : n * i.size ≤ 16777216) (hk : X.objs.lookup m = none) (hX : objsFree [m] X = true) (hfr : areFree [m] out = true) :
    OpT P o ((parts.toList.map (·.2)).zip xs) X ⟨(m, .cells out (some e)) :: X.objs, X.live⟩ [m] (.nm m (.s 0 n i.size)) := by
  intro nm hsm B g w a hr hrd next Q hn
  unfold Oper.wp
  have hzsl : zs.length = i.size := by
    have h1 : zs.length = z.cells.toList.length := (hzs.ra g w).1
    rw [h1, Array.length_toList, hzl]
  generalize harr0 : ((Array.range (n * i.size)).map fun x => (if n * i.size = 0 then #[] else z.cells)[x % (if n * i.size = 0 then #[] else z.cells).size]!) = arr0
  have harr0s : arr0.size = n * i.size := by subst harr0; simp
  have hfl : ((List.replicate n zs).flatten).length = n * i.size := by simp [hzsl]
  obtain ⟨arr', hfill, hs', hc'⟩ := fill_run (g := g) (w := w) (place := fun j => some (j * i.size, i.size)) ((parts.toList.map (·.1)).zip xs) (parts.toList.map fun p => (p.1, a.eval p.2)) ((List.replicate n zs).flatten) arr0 out
    (by simp [hx]) (by
      intro j p q hp hq
      rw [List.getElem?_map, Option.map_eq_some_iff] at hq
      obtain ⟨r, hr', rfl⟩ := hq
      rw [List.getElem?_zip_eq_some] at hp
      obtain ⟨h1, h2⟩ := hp
      rw [List.getElem?_map, hr'] at h1
      refine ⟨by simpa using h1.symm, ?_⟩
      exact hrd (r.2, p.2) (List.mem_of_getElem? (i := j) (by
        rw [List.getElem?_zip_eq_some]
        exact ⟨by rw [List.getElem?_map, hr']; rfl, h2⟩))) (by
      rw [List.all_eq_true]
      intro p hp
      exact List.all_eq_true.1 hok p.2 (List.of_mem_zip hp).2) (by rw [hfl, harr0s]) (by
      intro j x v hx' hv
      have hlt : j < n * i.size := by have := (List.getElem?_eq_some_iff.1 hx').1; omega
      have h0 : ¬ (n * i.size = 0) := by omega
      have hpos : 0 < i.size := by
        rcases Nat.eq_zero_or_pos i.size with h | h
        · rw [h] at hlt; simp at hlt
        · exact h
      rw [repl_flat zs n j (by rw [hzsl]; exact hlt)] at hx'
      rw [← harr0, Array.getElem?_map] at hv
      simp only [h0, if_false] at hv
      rw [Array.getElem?_range, if_pos hlt] at hv
      simp only [Option.map_some, Option.some.injEq] at hv
      have hm : j % z.cells.size < z.cells.size := Nat.mod_lt _ (by omega)
      refine (hzs.ra g w).2 (j % zs.length) x v hx' ?_
      rw [Array.getElem?_toList, hzsl, ← hzl, ← hv]
      rw [getElem!_pos z.cells _ hm]
      simp [hm]) hf
  have hrun : (execOp a.eval o).run P w = .ok (.value (.slice (some ⟨w.heap.size, 0, none⟩) n n)) (w.alloc (.cells arr' e)) := by
    simp only [execOp, ho, Instr.buildSlice]
    have h24 : ¬ (n * i.size > 2 ^ 24) := by omega
    by_cases h0 : n * i.size = 0
    · have e0 : arr0 = #[] := Array.eq_empty_of_size_eq_zero (by omega)
      subst e0
      have hfill' : Instr.fill (fun j => some (j * i.size, i.size)) #[] (parts.toList.map fun p => (p.1, a.eval p.2)) = some arr' := hfill
      simp only [Sem.run_bind, run_underlying ht, Result.andThen_ok, run_sizeOf hi, h0, if_true]
      simp [Array.range_zero', hfill', Go.newRow]
    · simp only [h0, if_false] at harr0
      have hfill' : Instr.fill (fun j => some (j * i.size, i.size)) arr0 (parts.toList.map fun p => (p.1, a.eval p.2)) = some arr' := hfill
      simp only [Sem.run_bind, run_underlying ht, Result.andThen_ok, run_sizeOf hi, h24, if_false, h0]
      simp [zeroValue, typeInfo, hi, hz, harr0, hfill', Go.newRow]
  have hlen : ∀ (parts : List (Nat × AV)) (cs out : List AV), fillA (fun j => some (j * i.size, i.size)) cs parts = some out → out.length = cs.length := by
    intro parts
    induction parts with
    | nil => intro cs out h; simp [fillA] at h; rw [h]
    | cons p r ih =>
      intro cs out h
      simp only [fillA] at h
      split at h
      · rename_i hc
        rw [ih _ _ h, splice_length (by omega)]
      · cases h
  have houtl := hlen _ _ _ hf
  rw [hfl] at houtl
  obtain ⟨hr2, ht2⟩ := hr.newObj (k := m) hk hX (.cells arr' e) (.cells out (some e)) (by
    intro g' w' ht' hw'
    exact .cells _ _ arr' e hw' (Nat.le_of_eq hs') (fun j y v hy hv => (hc' j y v hy hv).mono ht' (free_of (areFree_get hfr hy))) (fun _ e => (Option.some.inj e).symm))
  rw [hrun]
  refine hn _ _ _ hr2 ht2 (.nm _ _ _ ?_)
  simp only [upd_same]
  exact ⟨n, 0, Nat.le_refl _, rfl, .inr rfl, e, arr'.size, by unfold World.shape?; rw [heap_alloc_new], by omega⟩
theorem op_append_str_nil {ts : Array TypeId} {s x : Operand} {l : List UInt8} {fs : List (List D)} {t u e : TypeId} {i : TypeInfo} {z : Value} {ty : Option TypeId} (m : Nat)
    (ho : o.op = .call { callee := .builtin .append, args := #[s, x], argTypes := ts }) (h0 : ts[0]? = some t) (h1 : ts[1]? = some u) (hu : P.underlying u = some .string)
    (ht : P.underlying t = some (.slice e)) (hi : P.info? e = some i) (hz : i.zero = some z) (hzs : z.cells.size = i.size) (hs1 : i.size = 1) (hfs : fs = strDs l) (hm : m ∉ X.live) (hX : objsFree [m] X = true)
    (hone : ∀ cs ∈ fs, ∀ c ∈ cs, oneD c = true) (hbig : fs.length * i.bytes ≤ 140737488355328) (hlen : fs.length ≤ 4611686018427387904) (hty : ∀ e', ty = some e' → e' = e) :
    OpT P o [(s, .d (.sc (.slice none 0 0))), (x, .d (.bs l))] X ⟨X.objs, m :: X.live⟩ [m] (.tip m i.size fs ty) := by
  intro nm hsm B g w a hr hrd next Q hn
  have e1 := (rd0 hrd).sc_inv
  have e2 := rd1 hrd
  simp only at e1 e2
  obtain ⟨h2, h3⟩ := hr.addTip hm none hX (by simp)
  have hap := op_append_str (P := P) (o := o) (X := ⟨X.objs, m :: X.live⟩) (n := m) (sz := i.size) (es := []) (fs := fs) (l := l) (ty := ty) m ho h0 h1 hu ht hi hz hzs rfl hs1 hfs List.mem_cons_self
    (by simp only [filter_ne hm]; exact hm) hX hone (by simpa using hbig) (by simpa using hlen) hty
  refine hap nm hsm B _ w a h2 ?_ next Q ?_
  · intro p hp
    simp only [List.mem_cons, List.not_mem_nil, or_false] at hp
    rcases hp with rfl | rfl
    · simp only [e1]
      exact .tip m i.size [] ty _ (.nil i.size none 0 fun _ => rfl) trivial
    · exact e2.mono h3 (.d _)
  · intro g' w' v hr' ht' hra
    simp only [filter_ne hm] at hr'
    exact hn g' w' v hr' ((h3.trans ht').sub (by simp)) (by simpa using hra)
theorem op_indexAddr_arrq {t e n sz : Nat} {x y : Operand} {j off : Nat} {k : IntKind} {i : Int} (ho : o.op = .indexAddr t x y)
    (ht : ArrI P t e n sz) (h0 : 0 ≤ i) (h1 : i < n) :
    OpT P o [(x, .ptr j off), (y, .d (.sc (.int k i)))] X X [] (.ptr j (off + i.toNat * sz)) :=
  .quiet fun _ _ g w ac _ hrd => by
    have e1 := (rd0 hrd).ptr_inv
    have e2 := (rd1 hrd).sc_inv
    simp only at e1 e2
    obtain ⟨hu, info, hi, hs⟩ := ht
    refine ⟨.pointer (some ⟨g.ρ j, off + i.toNat * sz, none⟩), ?_, .ptr _ _⟩
    simp only [execOp, ho, e1, e2]
    simp [Instr.indexAt, Instr.sureAddr, asIntOf, run_underlying hu, h0, h1, sizeOf, typeInfo, hi, hs, addr_add]
theorem op_append_nn {ts : Array TypeId} {s x : Operand} {t u e e' : TypeId} {i : TypeInfo} (ho : o.op = .call { callee := .builtin .append, args := #[s, x], argTypes := ts }) (h0 : ts[0]? = some t) (h1 : ts[1]? = some u)
    (hu : P.underlying u = some (.slice e')) (ht : P.underlying t = some (.slice e)) (hi : P.info? e = some i) :
    OpT P o [(s, .d (.sc (.slice none 0 0))), (x, .d (.sc (.slice none 0 0)))] X X [] (.d (.sc (.slice none 0 0))) :=
  .quiet fun _ _ g w ac _ hrd => by
    have e1 := (rd0 hrd).sc_inv
    have e2 := (rd1 hrd).sc_inv
    simp only at e1 e2
    refine ⟨.slice none 0 0, ?_, .ofSc _ _ _⟩
    have hrn := run_append_fits' (P := P) (w := w) (w' := w) (ty := o.type) h0 h1 hu ht hi (base := none) (xb := none) (len := 0) (cap := 0) (n := 0) (xc := 0) (news := []) (by simp [Builtin.firstCells]) (by omega) (.inl ⟨rfl, rfl⟩)
    simp only [execOp, ho, resolve]
    simp [invoke, builtin, e1, e2, hrn]
theorem op_makeSlice_tip (m : Nat) {t e : TypeId} {x y : Operand} {kl kc : IntKind} {n : Nat} {i : TypeInfo} {z : Value} (ho : o.op = .makeSlice t x y) (ht : P.underlying t = some (.slice e))
    (hi : P.info? e = some i) (hz : i.zero = some z) (hzs : z.cells.size = i.size) (hbig : i.bytes * n ≤ 281474976710656) (h63 : n ≤ 9223372036854775807) (hm : m ∉ X.live) (hX : objsFree [m] X = true) :
    OpT P o [(x, .d (.sc (.int kl 0))), (y, .d (.sc (.int kc n)))] X ⟨X.objs, m :: X.live⟩ [m] (.tip m i.size [] (some e)) := by
  intro nm hsm B g w a hr hrd next Q hn
  have h1 := (rd0 hrd).sc_inv
  have h2 := (rd1 hrd).sc_inv
  simp only at h1 h2
  have hrun := run_make (P := P) w t e i z ht hi hz kl kc 0 (n : Int) (Int.le_refl _) (by omega) (by rw [← Int.natCast_mul]; generalize i.bytes * n = q at hbig ⊢; omega) (by omega)
  rw [Int.toNat_natCast] at hrun
  generalize harr : madeCells z.cells (n * i.size) = arr at hrun
  have hars : arr.size = n * i.size := by rw [← harr, size_madeCells]
  obtain ⟨hr2, ht2⟩ := hr.newRow arr e 0 (Nat.zero_le _)
  obtain ⟨hr3, ht3⟩ := hr2.addTip (m := m) hm (some w.heap.size) hX (by
    intro b' hb'; cases hb'
    refine ⟨by simp, .inl hr.base, fun k p hk => ?_, fun n' hn' => ?_, hr.eta.ltN (Nat.le_refl _)⟩
    · have := obRel_lt (hr.objs k p hk); simp only at this ⊢; omega
    · have := hr.tiplt n' _ hn'; omega)
  have hT := ht2.trans ht3
  unfold Oper.wp
  have : (execOp a.eval o).run P w = .ok (.value (.slice (some ⟨w.heap.size, 0, none⟩) 0 n)) (w.alloc (.cells arr e)) := by
    simp [execOp, ho, h1, h2, hrun]
  rw [this]
  refine hn _ _ _ hr3 hT (.tip m i.size _ _ _ (.nil i.size _ n (by simp)) ?_)
  intro ob' hob'
  simp only [upd_same, Option.some.injEq] at hob'
  subst hob'
  refine ⟨rfl, rfl, by simp only [upd_same]; omega, ?_, ?_⟩
  · intro p h3 h4
    simp only [Nat.zero_mul, Nat.zero_add, Nat.add_zero] at h3 h4
    have hnewc : (w.alloc (.cells arr e)).cell? ⟨w.heap.size, p, none⟩ = arr[p]? := cell?_cells (heap_alloc_new w (.cells arr e)) p
    refine ⟨by rw [hnewc]; simp; omega, ?_⟩
    exact frozen_of_row _ _ _ arr e (heap_alloc_new w (.cells arr e))
  · intro e1 he1
    cases he1
    refine ⟨rfl, arr.size, ?_⟩
    simp only [World.shape?]
    rw [heap_alloc_new]
noncomputable def pureS {α : Type} (P : Program) : Sem α → Option α
  | .pure a => some a
  | .program k => pureS P (k P)
  | .mark _ k => pureS P k
  | _ => none
theorem pureS_run {α : Type} {P : Program} {w : World} : ∀ (s : Sem α) {a : α}, pureS P s = some a → s.run P w = .ok a w
  | .pure a, b, h => by simp only [pureS, Option.some.injEq] at h; subst h; rfl
  | .program k, b, h => by
    simp only [pureS] at h
    exact pureS_run (k P) h
  | .mark m k, b, h => by
    simp only [pureS] at h
    exact pureS_run k h
  | .load _ _ _, _, h => by simp [pureS] at h
  | .store _ _ _ _, _, h => by simp [pureS] at h
  | .new _ _, _, h => by simp [pureS] at h
  | .shape _ _, _, h => by simp [pureS] at h
  | .freeze _ _ _, _, h => by simp [pureS] at h
  | .frozen _ _, _, h => by simp [pureS] at h
  | .getObj _ _, _, h => by simp [pureS] at h
  | .setObj _ _ _, _, h => by simp [pureS] at h
  | .choose _ _, _, h => by simp [pureS] at h
  | .sys _ _, _, h => by simp [pureS] at h
  | .halt _, _, h => by simp [pureS] at h
theorem op_pure1 {x : Operand} {u : Value} {f : Value → Sem Value} {v : Value} (ho : ∀ ρ, execOp ρ o = (do pure (.value (← f (ρ x))))) (h : pureS P (f u) = some v) : OpT P o [(x, .d (.sc u))] X X [] (.d (.sc v)) :=
  .quiet fun _ _ g w ac _ hrd => by
    have e1 := (rd0 hrd).sc_inv
    simp only at e1
    refine ⟨v, ?_, .ofSc _ _ _⟩
    rw [ho, e1, Sem.run_bind, pureS_run _ h]
    rfl
theorem op_pure2 {x y : Operand} {u v : Value} {f : Value → Value → Sem Value} {r : Value} (ho : ∀ ρ, execOp ρ o = (do pure (.value (← f (ρ x) (ρ y))))) (h : pureS P (f u v) = some r) : OpT P o [(x, .d (.sc u)), (y, .d (.sc v))] X X [] (.d (.sc r)) :=
  .quiet fun _ _ g w ac _ hrd => by
    have e1 := (rd0 hrd).sc_inv
    have e2 := (rd1 hrd).sc_inv
    simp only at e1 e2
    refine ⟨r, ?_, .ofSc _ _ _⟩
    rw [ho, e1, e2, Sem.run_bind, pureS_run _ h]
    rfl
noncomputable def constsOf (args : Array Operand) : Array Bool := args.map fun | .const _ => true | _ => false
theorem op_pureB {b : Builtin} {args : Array Operand} {ts : Array TypeId} {us : List Value} {v : Value} (ho : o.op = .call { callee := .builtin b, args := args, argTypes := ts }) (hl : us.length = args.size)
    (h : pureS P (builtin b ts o.type (constsOf args) us.toArray) = some (.value v)) : OpT P o (args.toList.zip (us.map fun u => .d (.sc u))) X X [] (.d (.sc v)) :=
  .quiet fun _ _ g w ac _ hrd => by
    have hargs : args.map ac.eval = us.toArray := by
      apply Array.ext
      · simp [hl]
      · intro i h1 h2
        have hi : i < args.size := by simpa using h1
        have hi' : i < us.length := by omega
        have := (hrd (args[i], .d (.sc us[i])) (List.mem_of_getElem? (i := i) (by
          rw [List.getElem?_zip_eq_some]
          exact ⟨by simp [hi], by simp [hi']⟩))).sc_inv
        simpa using this
    refine ⟨v, ?_, .ofSc _ _ _⟩
    have := pureS_run (w := w) _ h
    simp only [execOp, ho, resolve, Sem.run_bind, Sem.run_pure, Result.andThen_ok, invoke]
    rw [hargs]
    exact this
theorem op_slice_nilv {t e : TypeId} {x : Operand} {lo hi : Option Operand} {rd : List (Operand × AV)} {i : TypeInfo} (ho : o.op = .slice t x lo hi none) (ht : P.underlying t = some (.slice e)) (hi' : P.info? e = some i)
    (hlo : match lo with | some y => ∃ j, (y, AV.d (.int j 0)) ∈ rd | none => True) (hhi : match hi with | some y => ∃ j, (y, AV.d (.int j 0)) ∈ rd | none => True) :
    OpT P o ((x, .d (.sc (.slice none 0 0))) :: rd) X X [] (.d (.sc (.slice none 0 0))) :=
  .quiet fun _ _ g w ac _ hrd => by
    have hx := (hrd (x, .d (.sc (.slice none 0 0))) List.mem_cons_self).sc_inv
    simp only at hx
    refine ⟨.slice none 0 0, ?_, .ofSc _ _ _⟩
    have hsa : ∀ lo hi, (Instr.sliceAt t (.slice none 0 0) lo hi none).run P w = (Instr.slice t (.slice none 0 0) lo hi none).run P w := by
      intro lo hi
      simp [Instr.sliceAt, run_underlying ht]
    have hsize : (sizeOf e).run P w = .ok i.size w := run_sizeOf hi' w
    have b0 : ∀ (c : BoundsCode) (k : IntKind), (Instr.sliceBound (.int k 0) 0 c).run P w = .ok 0 w := by
      intro c k
      simp [Instr.sliceBound, asIntOf]
    simp only [execOp, ho, hx]
    cases hi with
    | none =>
      cases lo with
      | none => simp [hsa, Instr.slice, Instr.sliceBounds, run_underlying ht, hsize]
      | some y =>
        obtain ⟨j, hj⟩ := hlo
        have e1 := (hrd _ (List.mem_cons_of_mem _ hj)).sc_inv
        simp only at e1
        simp [hsa, Instr.slice, Instr.sliceBounds, run_underlying ht, hsize, e1, b0]
    | some y' =>
      obtain ⟨j', hj'⟩ := hhi
      have e2 := (hrd _ (List.mem_cons_of_mem _ hj')).sc_inv
      simp only at e2
      cases lo with
      | none => simp [hsa, Instr.slice, Instr.sliceBounds, run_underlying ht, hsize, e2, b0]
      | some y =>
        obtain ⟨j, hj⟩ := hlo
        have e1 := (hrd _ (List.mem_cons_of_mem _ hj)).sc_inv
        simp only at e1
        simp [hsa, Instr.slice, Instr.sliceBounds, run_underlying ht, hsize, e1, e2, b0]
end
end Go.Ab
namespace Go.Xl
open Go.Ab
section
variable {P : Program}
theorem c2 {α : Type} {b : Bool} {x : Option α} {y : α} (h : cond b x none = some y) : b = true ∧ x = some y := by
  cases b <;> simp at h ⊢; exact h
noncomputable def repX (n : Nat) (zs : List XV) : List XV := match n with
  | 0 => []
  | n + 1 => zs ++ repX n zs
theorem repX_a (zs : List XV) : ∀ n, asOf (repX n zs) = (List.replicate n (asOf zs)).flatten
  | 0 => rfl
  | n + 1 => by simp only [repX, asOf_append, repX_a zs n, List.replicate_succ, List.flatten_cons]
noncomputable def plN (sz : Nat) : Nat → Nat → List (Nat × Nat)
  | _, 0 => []
  | j, n + 1 => (j * sz, sz) :: plN sz (j + 1) n
theorem plN_get (sz : Nat) : ∀ (n j k : Nat) p, (plN sz j n)[k]? = some p → p = ((j + k) * sz, sz)
  | 0, j, k, p, h => by simp [plN] at h
  | n + 1, j, k, p, h => by
    cases k with
    | zero => simp [plN] at h; rw [← h]; rfl
    | succ k =>
      simp only [plN, List.getElem?_cons_succ] at h
      rw [plN_get sz n (j + 1) k p h]
      congr 2; omega
theorem fillA_le {f g : Nat → Option (Nat × Nat)} (h : ∀ i p, f i = some p → g i = some p) : ∀ (parts : List (Nat × AV)) (cs out : List AV), fillA f cs parts = some out → fillA g cs parts = some out
  | [], cs, out, hf => hf
  | p :: r, cs, out, hf => by
    simp only [fillA] at hf ⊢
    cases hp : f p.1 with
    | none => rw [hp] at hf; cases hf
    | some q =>
      rw [hp] at hf
      rw [h _ _ hp]
      simp only at hf ⊢
      split at hf
      · rename_i hc
        rw [if_pos hc]
        exact fillA_le h r _ _ hf
      · cases hf
noncomputable def xBuildN (P : Program) (st : XSt) (o : Oper) (t : TypeId) (n : Nat) (parts : Array (Nat × Operand)) : Option Out :=
  match P.underlying t with
  | some (.slice e) => match P.info? e with
    | some i => match i.zero with
      | some z => match newName o, xevals st (parts.toList.map (·.2)) with
        | some m, some vs =>
          cond (Nat.beq z.cells.size i.size) (cond (allNotAgg vs) (match xfill (plN i.size 0 n) (repX n (z.cells.toList.map fun v => .d (constX v))) ((parts.toList.map (·.1)).zip vs) with
            | some out => cond (Nat.ble (n * i.size) 16777216) (cond (fresh m st) (cond (areFree [m] (asOf out)) (some ⟨.all, .nm m (.s 0 n i.size), (parts.toList.map (·.2)).zip vs, (m, .cells out (some e)) :: st.objs, st.live, [m], [m]⟩) none) none) none
            | none => none) none) none
        | _, _ => none
      | none => none
    | none => none
  | _ => none
theorem xBuildN_ok {o : Oper} {st : XSt} {t : TypeId} {n : Nat} {parts : Array (Nat × Operand)} {out : Out} (ho : o.op = .buildSlice t n parts) (h : xBuildN P st o t n parts = some out) : OpOk P o st out := by
  unfold xBuildN at h
  split at h
  · rename_i e ht
    split at h
    · rename_i i hi
      split at h
      · rename_i z hz
        split at h
        · rename_i m vs hm hvs
          cases h1 : Nat.beq z.cells.size i.size with
          | false => simp [h1] at h
          | true =>
          cases h2 : allNotAgg vs with
          | false => simp [h1, h2] at h
          | true =>
          simp only [h1, h2, cond_true] at h
          split at h
          · rename_i cs hcs
            cases h3 : Nat.ble (n * i.size) 16777216 with
            | false => simp [h3] at h
            | true =>
            cases h4 : fresh m st with
            | false => simp [h3, h4] at h
            | true =>
            cases h5 : areFree [m] (asOf cs) with
            | false => simp [h3, h4, h5] at h
            | true =>
            simp only [h3, h4, h5, cond_true, Option.some.injEq] at h
            subst h
            obtain ⟨f1, f2⟩ := fresh_ok h4
            refine ⟨xevals_sees hvs, ?_, fun j z hj hz => ?_⟩
            · have hf := xfill_a hcs
              rw [zip_a, repX_a] at hf
              have := op_buildSlice_av (P := P) (X := st.X) (xs := asOf vs) m ho ht hi hz (zcells z.cells.toList) (Nat.eq_of_beq_eq_true h1) (by rw [asOf_length, xevals_len hvs]; simp) (allNotAgg_a h2)
                (fillA_le (fun j p hp => by have := plN_get _ _ _ _ _ hp; rw [Nat.zero_add] at this; rw [this]) _ _ _ hf) (Nat.le_of_ble_eq_true h3) (fresh_im f1) f2 h5
              rw [imRd_zip]
              exact this
            · rw [lk_cons_ne (by simpa using hj)] at hz; exact hz
          · cases h
        · cases h
      · cases h
    · cases h
  · cases h

-- len, elements, cuts
noncomputable def xLenN (P : Program) (st : XSt) (ts : Array TypeId) (x : Operand) : Option Out :=
  match xeval st x with
  | some (.nm k (.s off len sz)) => match ts[0]? with
    | some t => match P.underlying t with
      | some (.slice _) => some (quietO st (.d (.i .i64 (len : Int))) [(x, .nm k (.s off len sz))])
      | _ => none
    | none => none
  | _ => none
theorem xLenN_ok {o : Oper} {st : XSt} {ts : Array TypeId} {x : Operand} {out : Out} (ho : o.op = .call { callee := .builtin .len, args := #[x], argTypes := ts }) (h : xLenN P st ts x = some out) : OpOk P o st out := by
  unfold xLenN at h
  split at h
  · rename_i k off len sz hx
    split at h
    · rename_i t ht0
      split at h
      · rename_i e ht
        cases h
        exact quietO_ok (sees1v hx) fun X => op_len_osl ho ht0 ht
      · cases h
    · cases h
  · cases h
noncomputable def xIndexN (P : Program) (st : XSt) (t : TypeId) (x y : Operand) : Option Out :=
  match xeval st x with
  | some (.nm k (.s off len sz)) => match sliceOfT P t, xd st y, xnum st y with
    | some (_, sz', _), some b, some n => cond (Nat.beq sz' sz) (cond (decide (0 ≤ n ∧ n < (len : Int))) (some (quietO st (.nm k (.p (off + n.toNat * sz))) [(x, .nm k (.s off len sz)), (y, .d b)])) none) none
    | _, _, _ => none
  | _ => none
theorem xIndexN_ok {o : Oper} {st : XSt} {t : TypeId} {x y : Operand} {out : Out} (ho : o.op = .indexAddr t x y) (h : xIndexN P st t x y = some out) : OpOk P o st out := by
  unfold xIndexN at h
  split at h
  · rename_i k off len sz hx
    split at h
    · rename_i e sz' by0 b n hs hb hn
      cases h1 : Nat.beq sz' sz with
      | false => simp [h1] at h
      | true =>
      cases h2 : decide (0 ≤ n ∧ n < (len : Int)) with
      | false => simp [h1, h2] at h
      | true =>
      simp only [h1, h2, cond_true, Option.some.injEq] at h
      subst h
      have e1 := Nat.eq_of_beq_eq_true h1
      subst e1
      obtain ⟨c0, c1⟩ := of_decide_eq_true h2
      obtain ⟨a, kk, ha, had⟩ := xnum_sees hn
      rw [hb] at ha
      cases ha
      refine quietO_ok ?_ fun X => ?_
      · intro p hp
        simp only [imRd, List.map_cons, List.map_nil, List.mem_cons, List.not_mem_nil, or_false] at hp
        rcases hp with rfl | rfl
        · exact xeval_sees hx
        · exact xd_at hb
      · have := op_indexAddr_osl (P := P) (X := X) (k := k) (off := off) (j := kk) ho (sliceOfT_I hs) c0 c1
        simp only [imRd, List.map_cons, List.map_nil, XV.a, had]
        exact this
    · cases h
  · cases h
noncomputable def xSliceN (P : Program) (st : XSt) (t : TypeId) (x : Operand) (lo hi : Option Operand) : Option Out :=
  match xeval st x with
  | some (.nm k (.s off len sz)) => match sliceOfT P t, cutBound st 0 lo, cutBound st len hi with
    | some (_, sz', _), some (l, r1), some (h, r2) => cond (Nat.beq sz sz') (cond (cutOk l h len) (some (quietO st (.nm k (.s (off + l.toNat * sz) (h.toNat - l.toNat) sz)) ((x, .nm k (.s off len sz)) :: (r1 ++ r2)))) none) none
    | _, _, _ => none
  | _ => none
theorem xSliceN_ok {o : Oper} {st : XSt} {t : TypeId} {x : Operand} {lo hi : Option Operand} {out : Out} (ho : o.op = .slice t x lo hi none) (h : xSliceN P st t x lo hi = some out) : OpOk P o st out := by
  unfold xSliceN at h
  split at h
  · rename_i k off len sz hx
    split at h
    · rename_i e sz' by0 l r1 hh r2 ht hlo hhi
      cases hb : Nat.beq sz sz' with
      | false => simp [hb] at h
      | true =>
      cases hc : cutOk l hh len with
      | false => simp [hb, hc] at h
      | true =>
        simp only [hb, hc, cond_true, Option.some.injEq] at h
        subst h
        have e1 := Nat.eq_of_beq_eq_true hb
        subst e1
        obtain ⟨c0, c1, c2⟩ := cutOk_iff hc
        obtain ⟨s1, m1, f1⟩ := cutBound_sees hlo
        obtain ⟨s2, m2, f2⟩ := cutBound_sees hhi
        obtain ⟨hu, i, z, hi', hs', hb', hz', hzs'⟩ := sliceOfT_I ht
        refine quietO_ok (sees_cutv hx s1 s2) fun X => ?_
        exact op_slice_osl (P := P) (X := X) (k := k) (off := off) (len := len) (rd := imRd (r1 ++ r2)) (l := l) (h := hh) ho hu hi' hs' c0 c1 c2 (by
          cases lo with
          | none => exact m1
          | some y => obtain ⟨j, hj⟩ := m1; exact ⟨j, by rw [imRd_append]; exact List.mem_append_left _ hj⟩) (by
          cases hi with
          | none => exact m2
          | some y => obtain ⟨j, hj⟩ := m2; exact ⟨j, by rw [imRd_append]; exact List.mem_append_right _ hj⟩)
    · cases h
  · cases h
noncomputable def xSliceZ (P : Program) (st : XSt) (t : TypeId) (x : Operand) (lo hi : Option Operand) : Option Out :=
  match xeval st x with
  | some (.d (.v (.slice none 0 0))) => match sliceOfT P t, cutBound st 0 lo, cutBound st 0 hi with
    | some _, some (l, r1), some (h, r2) => cond (decide (l = 0)) (cond (decide (h = 0)) (some (quietO st (.d (.v (.slice none 0 0))) ((x, .d (.v (.slice none 0 0))) :: (r1 ++ r2)))) none) none
    | _, _, _ => none
  | _ => none
theorem xSliceZ_ok {o : Oper} {st : XSt} {t : TypeId} {x : Operand} {lo hi : Option Operand} {out : Out} (ho : o.op = .slice t x lo hi none) (h : xSliceZ P st t x lo hi = some out) : OpOk P o st out := by
  unfold xSliceZ at h
  split at h
  · rename_i hx
    split at h
    · rename_i q l r1 hh r2 ht hlo hhi
      cases h1 : decide (l = 0) with
      | false => simp [h1] at h
      | true =>
      cases h2 : decide (hh = 0) with
      | false => simp [h1, h2] at h
      | true =>
        simp only [h1, h2, cond_true, Option.some.injEq] at h
        subst h
        have e1 := of_decide_eq_true h1
        have e2 := of_decide_eq_true h2
        subst e1; subst e2
        obtain ⟨s1, m1, f1⟩ := cutBound_sees hlo
        obtain ⟨s2, m2, f2⟩ := cutBound_sees hhi
        obtain ⟨hu, i, z, hi', hs', hb', hz', hzs'⟩ := sliceOfT_I (e := q.1) (sz := q.2.1) (bytes := q.2.2) ht
        refine quietO_ok (sees_cutv hx s1 s2) fun X => ?_
        exact op_slice_nilv (P := P) (X := X) (rd := imRd (r1 ++ r2)) ho hu hi' (by
          cases lo with
          | none => trivial
          | some y => obtain ⟨j, hj⟩ := m1; exact ⟨j, by rw [imRd_append]; exact List.mem_append_left _ hj⟩) (by
          cases hi with
          | none => trivial
          | some y => obtain ⟨j, hj⟩ := m2; exact ⟨j, by rw [imRd_append]; exact List.mem_append_right _ hj⟩)
    · cases h
  · cases h
noncomputable def xAppStrZ (P : Program) (st : XSt) (o : Oper) (ts : Array TypeId) (s x : Operand) : Option Out :=
  match ts[0]?, newLab o with
  | some t, some m =>
    match sliceOfT P t, xeval st s, xd st x with
    | some (e, sz, bytes), some (.d (.v (.slice none 0 0))), some (.s l') =>
        cond (Nat.beq sz 1) (cond (freshL m st.live st) (cond (fitsB l'.length bytes) (some ⟨.lab, .tip m .u8 l' (some e), [(s, .d (.v (.slice none 0 0))), (x, .d (.s l'))], st.objs, m :: st.live, [m], []⟩) none) none) none
    | _, _, _ => none
  | _, _ => none
theorem xAppStrZ_ok {o : Oper} {st : XSt} {ts : Array TypeId} {s x : Operand} {out : Out} (ho : o.op = .call { callee := .builtin .append, args := #[s, x], argTypes := ts }) (hb : appStrB P ts = true) (h : xAppStrZ P st o ts s x = some out) : OpOk P o st out := by
  have hu : ∃ u, ts[1]? = some u ∧ P.underlying u = some .string := by
    unfold appStrB at hb
    split at hb
    · rename_i u h1
      split at hb
      · rename_i h2; exact ⟨u, h1, h2⟩
      · cases hb
    · cases hb
  obtain ⟨u, hu1, hu2⟩ := hu
  unfold xAppStrZ at h
  split at h
  · rename_i t m ht hm
    split at h
    · rename_i e sz bytes l' hsl hs hx
      cases h1 : Nat.beq sz 1 with
      | false => simp [h1] at h
      | true =>
      cases h3 : freshL m st.live st with
      | false => simp [h1, h3] at h
      | true =>
      cases h5 : fitsB l'.length bytes with
      | false => simp [h1, h3, h5] at h
      | true =>
        simp only [h1, h3, h5, cond_true, Option.some.injEq] at h
        subst h
        have e1 := Nat.eq_of_beq_eq_true h1
        subst e1
        obtain ⟨f1, f2⟩ := freshL_ok h3
        obtain ⟨b1, b2⟩ := fitsB_iff h5
        obtain ⟨hte, i, z, hi, hsz, hby, hz, hzs⟩ := sliceOfT_I hsl
        refine ⟨?_, ?_, fun _ _ _ h => h⟩
        · intro p hp
          simp only [imRd, List.map_cons, List.map_nil, List.mem_cons, List.not_mem_nil, or_false] at hp
          rcases hp with rfl | rfl
          · exact xeval_sees hs
          · exact xd_at hx
        · have := op_append_str_nil (P := P) (X := st.X) (s := s) (x := x) (fs := strDs l') (l := l') (ty := some e) m ho ht hu1 hu2 hte hi hz (by rw [hzs, hsz]) hsz rfl f1 f2
              (by intro cs hcs c hc; rw [strDs] at hcs; obtain ⟨y, _, rfl⟩ := List.mem_map.1 hcs; exact Ty.u8.ds_one y c hc) (by rw [strDs, List.length_map, hby]; exact b1) (by rw [strDs, List.length_map]; exact b2) (fun e' he => (Option.some.inj he).symm)
          rw [hsz] at this
          exact ⟨rfl, this⟩
    · cases h
  · cases h
noncomputable def xIndexQ (P : Program) (st : XSt) (t : TypeId) (x y : Operand) : Option Out :=
  match xeval st x with
  | some (.nm k (.p off)) => match arrOfT P t, xd st y, xnum st y with
    | some (_, m, sz), some b, some n => cond (inB n m) (some (quietO st (.nm k (.p (off + n.toNat * sz))) [(x, .nm k (.p off)), (y, .d b)])) none
    | _, _, _ => none
  | _ => none
theorem xIndexQ_ok {o : Oper} {st : XSt} {t : TypeId} {x y : Operand} {out : Out} (ho : o.op = .indexAddr t x y) (h : xIndexQ P st t x y = some out) : OpOk P o st out := by
  unfold xIndexQ at h
  split at h
  · rename_i k off hx
    split at h
    · rename_i e0 m sz b n har hy hn
      cases hc : inB n m with
      | false => simp [hc] at h
      | true =>
        simp only [hc, cond_true, Option.some.injEq] at h
        subst h
        obtain ⟨h0, h1⟩ := inB_iff hc
        obtain ⟨z, j, ha, had⟩ := xnum_sees hn
        rw [hy] at ha
        cases ha
        refine quietO_ok (sees_os hx hy) fun X => ?_
        have := op_indexAddr_arrq (P := P) (X := X) (x := x) (y := y) (k := j) (i := n) (j := k) (off := off) ho (arrOfT_I har) h0 h1
        show OpT P o [(x, .nm k (.p off)), (y, .d b.d)] X X [] (.nm k (.p (off + n.toNat * sz)))
        rw [had]
        exact this
    · cases h
  · cases h
noncomputable def xAppNil (P : Program) (st : XSt) (o : Oper) (ts : Array TypeId) (s x : Operand) : Option Out :=
  match ts[0]?, ts[1]?, newLab o with
  | some t, some u, some m =>
    match sliceOfT P t, sliceOfT P u, xeval st s, xeval st x with
    | some (e, sz, bytes), some _, some (.tip n ty l oty), some (.d (.v (.slice none 0 0))) =>
        cond (Nat.beq ty.size sz) (cond (inl n st.live) (cond (freshL m (without n st.live) st) (cond (tyOpt oty e)
          (cond (fitsB l.length bytes) (some ⟨.lab, .tip m ty l oty, [(s, .tip n ty l oty), (x, .d (.v (.slice none 0 0)))], st.objs, m :: without n st.live, [m], []⟩) none) none) none) none) none
    | some (e, sz, bytes), some _, some (.d (.v (.slice none 0 0))), some (.d (.v (.slice none 0 0))) =>
        some (quietO st (.d (.v (.slice none 0 0))) [(s, .d (.v (.slice none 0 0))), (x, .d (.v (.slice none 0 0)))])
    | _, _, _, _ => none
  | _, _, _ => none
theorem xAppNil_ok {o : Oper} {st : XSt} {ts : Array TypeId} {s x : Operand} {out : Out} (ho : o.op = .call { callee := .builtin .append, args := #[s, x], argTypes := ts }) (h : xAppNil P st o ts s x = some out) : OpOk P o st out := by
  unfold xAppNil at h
  split at h
  · rename_i t u m ht hu hm
    split at h
    · rename_i e sz bytes q n ty l oty hsl hsu hs hx
      cases h1 : Nat.beq ty.size sz with
      | false => simp [h1] at h
      | true =>
      cases h2 : inl n st.live with
      | false => simp [h1, h2] at h
      | true =>
      cases h3 : freshL m (without n st.live) st with
      | false => simp [h1, h2, h3] at h
      | true =>
      cases h4 : tyOpt oty e with
      | false => simp [h1, h2, h3, h4] at h
      | true =>
      cases h5 : fitsB l.length bytes with
      | false => simp [h1, h2, h3, h4, h5] at h
      | true =>
        simp only [h1, h2, h3, h4, h5, cond_true, Option.some.injEq] at h
        subst h
        have e1 := Nat.eq_of_beq_eq_true h1
        subst e1
        obtain ⟨f1, f2⟩ := freshL_ok h3
        obtain ⟨b1, b2⟩ := fitsB_iff h5
        obtain ⟨q1, q2, q3⟩ := q
        refine ⟨?_, ?_, fun _ _ _ h => h⟩
        · intro p hp
          simp only [imRd, List.map_cons, List.map_nil, List.mem_cons, List.not_mem_nil, or_false] at hp
          rcases hp with rfl | rfl
          · exact xeval_sees hs
          · exact xeval_sees hx
        · have := o_append (P := P) (X := st.X) (s := s) (x := x) (n := n) (es := l.map ty.ds) (fs := []) (ty := oty) m ho ht hu (sliceOfT_I hsu) (sliceOfT_I hsl) ((inl_eq _ _).1 h2) f1 f2
              (by simp) (by simpa using b1) (by simpa using b2) (tyOpt_ok h4)
          rw [List.append_nil] at this
          refine ⟨rfl, ?_⟩
          intro nm hsm B g w a hr hrd next Q hn
          refine this nm hsm B g w a hr ?_ next Q hn
          intro p hp
          simp only [List.mem_cons, List.not_mem_nil, or_false] at hp
          rcases hp with rfl | rfl
          · exact hrd (s, .tip n ty.size (l.map ty.ds) oty) List.mem_cons_self
          · have := hrd (x, .d (.sc (.slice none 0 0))) (List.mem_cons_of_mem _ List.mem_cons_self)
            exact ALe.d (DLe.nil ty.size) g w _ this
    · rename_i e sz bytes q hsl hsu hs hx
      cases h
      obtain ⟨q1, q2, q3⟩ := q
      obtain ⟨a1, i, z, a2, a3, a4, a5, a6⟩ := sliceOfT_I hsl
      obtain ⟨c1, _⟩ := sliceOfT_I hsu
      refine quietO_ok ?_ fun X => op_append_nn ho ht hu c1 a1 a2
      intro p hp
      simp only [imRd, List.map_cons, List.map_nil, List.mem_cons, List.not_mem_nil, or_false] at hp
      rcases hp with rfl | rfl
      · exact xeval_sees hs
      · exact xeval_sees hx
    · cases h
  · cases h
noncomputable def xMakeN (P : Program) (st : XSt) (o : Oper) (t : TypeId) (x y : Operand) : Option Out :=
  match P.underlying t with
  | some (.slice e) => match P.info? e, tyOf P 9 e, newLab o, xd st x, xd st y with
    | some i, some ty, some m, some (.i kl n0), some (.i kc n) => match i.zero with
      | some z => cond (Nat.beq z.cells.size i.size) (cond (Nat.beq ty.size i.size) (cond (decide (n0 = 0)) (cond (decide (0 ≤ n)) (cond (decide (i.bytes * n.toNat ≤ 281474976710656)) (cond (decide (n.toNat ≤ 9223372036854775807)) (cond (freshL m st.live st)
          (some ⟨.lab, .tip m ty [] (some e), [(x, .d (.i kl n0)), (y, .d (.i kc n))], st.objs, m :: st.live, [m], []⟩) none) none) none) none) none) none) none
      | none => none
    | _, _, _, _, _ => none
  | _ => none
theorem xMakeN_ok {o : Oper} {st : XSt} {t : TypeId} {x y : Operand} {out : Out} (ho : o.op = .makeSlice t x y) (h : xMakeN P st o t x y = some out) : OpOk P o st out := by
  unfold xMakeN at h
  split at h
  · rename_i e ht
    split at h
    · rename_i i ty m kl n0 kc n hi hty hm hx hy
      split at h
      · rename_i z hz
        obtain ⟨h1, h⟩ := c2 h
        obtain ⟨h2, h⟩ := c2 h
        obtain ⟨h3, h⟩ := c2 h
        obtain ⟨h4, h⟩ := c2 h
        obtain ⟨h5, h⟩ := c2 h
        obtain ⟨h6, h⟩ := c2 h
        obtain ⟨h7, h⟩ := c2 h
        · simp only [Option.some.injEq] at h
          subst h
          have e3 := of_decide_eq_true h3
          subst e3
          obtain ⟨k, rfl⟩ := Int.eq_ofNat_of_zero_le (of_decide_eq_true h4)
          have e5 := of_decide_eq_true h5
          have e6 := of_decide_eq_true h6
          rw [Int.toNat_natCast] at e5 e6
          obtain ⟨f1, f2⟩ := freshL_ok h7
          have := op_makeSlice_tip (P := P) (X := st.X) (x := x) (y := y) (kl := kl) (kc := kc) (n := k) m ho ht hi hz (Nat.eq_of_beq_eq_true h1) e5 e6 f1 f2
          rw [← Nat.eq_of_beq_eq_true h2] at this
          exact ⟨sees2 hx hy, ⟨rfl, this⟩, fun _ _ _ h => h⟩
      · cases h
    · cases h
  · cases h
noncomputable def xval : XD → Option Value
  | .i k n => some (.int k n)
  | .u8 b => some (.int .u8 (b.toNat : Int))
  | .b b => some (.bool b)
  | .s l => some (.string ⟨l.toArray⟩)
  | .v u => some u
  | _ => none
theorem xval_d {x : XD} {u : Value} (h : xval x = some u) : x.d = .sc u := by
  cases x <;> simp [xval] at h <;> subst h <;> rfl
noncomputable def xPure1 (P : Program) (st : XSt) (x : Operand) (f : Value → Sem Value) : Option Out :=
  match xd st x with
  | some a => match xval a with
    | some u => match pureS P (f u) with
      | some v => some (quietO st (.d (constX v)) [(x, .d a)])
      | none => none
    | none => none
  | none => none
theorem xPure1_ok {o : Oper} {st : XSt} {x : Operand} {f : Value → Sem Value} {out : Out} (ho : ∀ ρ, execOp ρ o = (do pure (.value (← f (ρ x))))) (h : xPure1 P st x f = some out) : OpOk P o st out := by
  unfold xPure1 at h
  split at h
  · rename_i a hx
    split at h
    · rename_i u hu
      split at h
      · rename_i v hv
        cases h
        refine quietO_ok (sees1 hx) fun X => ?_
        have := op_pure1 (P := P) (X := X) ho hv
        show OpT P o [(x, .d a.d)] X X [] (.d (constX v).d)
        rw [xval_d hu, constX_d]
        exact this
      · cases h
    · cases h
  · cases h
noncomputable def xPure2 (P : Program) (st : XSt) (x y : Operand) (f : Value → Value → Sem Value) : Option Out :=
  match xd st x, xd st y with
  | some a, some b => match xval a, xval b with
    | some u, some v => match pureS P (f u v) with
      | some r => some (quietO st (.d (constX r)) [(x, .d a), (y, .d b)])
      | none => none
    | _, _ => none
  | _, _ => none
theorem xPure2_ok {o : Oper} {st : XSt} {x y : Operand} {f : Value → Value → Sem Value} {out : Out} (ho : ∀ ρ, execOp ρ o = (do pure (.value (← f (ρ x) (ρ y))))) (h : xPure2 P st x y f = some out) : OpOk P o st out := by
  unfold xPure2 at h
  split at h
  · rename_i a b hx hy
    split at h
    · rename_i u v hu hv
      split at h
      · rename_i r hr
        cases h
        refine quietO_ok (sees2 hx hy) fun X => ?_
        have := op_pure2 (P := P) (X := X) ho hr
        show OpT P o [(x, .d a.d), (y, .d b.d)] X X [] (.d (constX r).d)
        rw [xval_d hu, xval_d hv, constX_d]
        exact this
      · cases h
    · cases h
  · cases h
noncomputable def xdVals (st : XSt) : List Operand → Option (List (XD × Value))
  | [] => some []
  | x :: r => match xd st x, xdVals st r with
    | some a, some l => match xval a with
      | some u => some ((a, u) :: l)
      | none => none
    | _, _ => none
theorem xdVals_spec {st : XSt} : ∀ {l : List Operand} {vs : List (XD × Value)}, xdVals st l = some vs → vs.length = l.length ∧ (∀ p ∈ imRd (l.zip (vs.map fun p => XV.d p.1)), Sees st.im p.1 p.2) ∧ imRd (l.zip (vs.map fun p => XV.d p.1)) = l.zip ((vs.map (·.2)).map fun u => .d (.sc u))
  | [], vs, h => by simp [xdVals] at h; subst h; exact ⟨rfl, by simp [imRd], rfl⟩
  | x :: r, vs, h => by
    simp only [xdVals] at h
    split at h
    · rename_i a l ha hl
      split at h
      · rename_i u hu
        cases h
        obtain ⟨h1, h2, h3⟩ := xdVals_spec hl
        refine ⟨by simp [h1], ?_, ?_⟩
        · intro p hp
          simp only [List.map_cons, List.zip_cons_cons, imRd, List.mem_cons] at hp
          rcases hp with rfl | hp
          · exact xd_at ha
          · exact h2 p hp
        · simp only [imRd, List.map_cons, List.zip_cons_cons] at h3 ⊢
          rw [h3]
          simp only [XV.a, xval_d hu]
      · cases h
    · cases h
noncomputable def xPureB (P : Program) (st : XSt) (o : Oper) (b : Builtin) (args : Array Operand) (ts : Array TypeId) : Option Out :=
  match xdVals st args.toList with
  | some vs => match pureS P (builtin b ts o.type (constsOf args) (vs.map (·.2)).toArray) with
    | some (.value v) => some (quietO st (.d (constX v)) (args.toList.zip (vs.map fun p => XV.d p.1)))
    | _ => none
  | none => none
theorem xPureB_ok {o : Oper} {st : XSt} {b : Builtin} {args : Array Operand} {ts : Array TypeId} {out : Out} (ho : o.op = .call { callee := .builtin b, args := args, argTypes := ts }) (h : xPureB P st o b args ts = some out) : OpOk P o st out := by
  unfold xPureB at h
  split at h
  · rename_i vs hvs
    split at h
    · rename_i v hv
      cases h
      obtain ⟨h1, h2, h3⟩ := xdVals_spec hvs
      refine quietO_ok h2 fun X => ?_
      rw [h3]
      show OpT P o _ X X [] (.d (constX v).d)
      rw [constX_d]
      exact op_pureB ho (by rw [List.length_map, h1]; simp) hv
    · cases h
  · cases h
noncomputable def orE {α : Type} : Option α → Option α → Option α
  | some x, _ => some x
  | none, y => y
theorem orE_or {α : Type} {a b : Option α} {x : α} (h : orE a b = some x) : a = some x ∨ b = some x := by
  cases a with
  | some y => exact .inl h
  | none => exact .inr h
structure XG where
  run : Program → Oper → XSt → Option Out
noncomputable def xopNA (op : Op) : XG :=
  match op with
  | .buildSlice t n ps => ⟨fun P o st => xBuildN P st o t n ps⟩
  | .build t ps => ⟨fun P o st => xBuildA P st t ps⟩
  | .indexAddr t x y => ⟨fun P o st => orE (xIndexN P st t x y) (xIndexQ P st t x y)⟩
  | .unOp op t x => ⟨fun P o st => xPure1 P st x (Op.unary op)⟩
  | .binOp op t x y _ => ⟨fun P o st => xPure2 P st x y fun a b => do eqGuard op t x y a b; binOp op t a b⟩
  | .convert s d x => ⟨fun P o st => xPure1 P st x (convert s d)⟩
  | .makeSlice t x y => ⟨fun P o st => xMakeN P st o t x y⟩
  | .slice t x lo hi none => ⟨fun P o st => orE (xSliceN P st t x lo hi) (orE (xSliceZ P st t x lo hi) (match lo, hi with | none, none => xSliceO P st t x | _, _ => none))⟩
  | .call c => ⟨fun P o st => match c.callee with
    | .builtin .len => match c.args.toList with
      | [x] => xLenN P st c.argTypes x
      | _ => none
    | .builtin .append => match c.args.toList with
      | [x, y] => cond (appStrB P c.argTypes) (xAppStrZ P st o c.argTypes x y) (orE (xAppNil P st o c.argTypes x y) (xAppObj P st o c.argTypes x y))
      | _ => none
    | .builtin .copy => match c.args.toList with
      | [x, y] => xCopyObj P st c.argTypes x y
      | _ => none
    | .builtin .max => xPureB P st o .max c.args c.argTypes
    | .builtin .min => xPureB P st o .min c.args c.argTypes
    | _ => none⟩
  | _ => ⟨fun P o st => none⟩
noncomputable def xopN (P : Program) (o : Oper) (st : XSt) : Option Out := (xopNA o.op).run P o st
theorem xopN_ok {o : Oper} {st : XSt} {out : Out} (h : xopN P o st = some out) : OpOk P o st out := by
  unfold xopN xopNA at h
  split at h <;> rename_i ho <;> dsimp only at h
  · exact xBuildN_ok ho h
  · exact xBuildA_ok ho h
  · rcases orE_or h with h | h
    · exact xIndexN_ok ho h
    · exact xIndexQ_ok ho h
  · exact xPure1_ok (fun ρ => by simp only [execOp, ho]) h
  · exact xPure2_ok (fun ρ => by simp only [execOp, ho]) h
  · exact xPure1_ok (fun ρ => by simp only [execOp, ho]) h
  · exact xMakeN_ok ho h
  · rcases orE_or h with h | h
    · exact xSliceN_ok ho h
    · rcases orE_or h with h | h
      · exact xSliceZ_ok ho h
      · split at h
        · exact xSliceO_ok ho h
        · cases h
  · rename_i c
    obtain ⟨cal, args, ts⟩ := c
    simp only at h
    split at h
    · split at h
      · rename_i x hl
        have := args_eq (c := ⟨.builtin .len, args, ts⟩) hl
        simp only at this
        subst this
        exact xLenN_ok ho h
      · cases h
    · split at h
      · rename_i x y hl
        have := args_eq (c := ⟨.builtin .len, args, ts⟩) hl
        simp only at this
        subst this
        cases hb : appStrB P ts with
        | false =>
          simp only [hb, cond_false] at h
          rcases orE_or h with h | h
          · exact xAppNil_ok ho h
          · exact xAppObj_ok ho h
        | true =>
          simp only [hb, cond_true] at h
          exact xAppStrZ_ok ho hb h
      · cases h
    · split at h
      · rename_i x y hl
        have := args_eq (c := ⟨.builtin .len, args, ts⟩) hl
        simp only at this
        subst this
        exact xCopyObj_ok ho h
      · cases h
    · exact xPureB_ok ho h
    · exact xPureB_ok ho h
    · cases h
  · cases h
end
end Go.Xl
set_option linter.unusedVariables false
set_option linter.unusedSimpArgs false
namespace Go.Xl
open Go.Ab
section
variable {P : Program}
noncomputable def findB {kt vt : Ty} (b : Nat) : Ents kt vt → Option (Nat × kt.T × vt.T)
  | [] => none
  | e :: r => cond (Nat.beq e.1 b) (some e) (findB b r)
theorem findB_mem {kt vt : Ty} {b : Nat} {e : Nat × kt.T × vt.T} : ∀ {l : Ents kt vt}, findB b l = some e → e.1 = b ∧ ∃ i : Nat, l[i]? = some e
  | [], h => by simp [findB] at h
  | x :: r, h => by
    simp only [findB] at h
    cases hb : Nat.beq x.1 b with
    | true =>
      simp only [hb, cond_true, Option.some.injEq] at h
      subst h
      exact ⟨Nat.eq_of_beq_eq_true hb, 0, rfl⟩
    | false =>
      simp only [hb, cond_false] at h
      obtain ⟨h1, i, h2⟩ := findB_mem h
      exact ⟨h1, i + 1, by simpa using h2⟩
noncomputable def lastN : List Nat → Option (List Nat × Nat)
  | [] => none
  | [b] => some ([], b)
  | a :: r => match lastN r with
    | some (p, b) => some (a :: p, b)
    | none => none
theorem lastN_eq : ∀ {l p : List Nat} {b : Nat}, lastN l = some (p, b) → l = p ++ [b]
  | [], p, b, h => by simp [lastN] at h
  | [x], p, b, h => by
    simp only [lastN, Option.some.injEq, Prod.mk.injEq] at h
    obtain ⟨rfl, rfl⟩ := h; rfl
  | a :: c :: r, p, b, h => by
    simp only [lastN] at h
    split at h
    · rename_i p' b' h'
      simp only [Option.some.injEq, Prod.mk.injEq] at h
      obtain ⟨rfl, rfl⟩ := h
      have := lastN_eq (l := c :: r) h'
      rw [this]; rfl
    · cases h
theorem run_entry' {w : World} {m it : Nat} {es : Array MapEntry} {clock since : Nat} {seen : List Nat} {e : MapEntry} (hm : w.heap[m]? = some (.map es clock)) (hi : w.heap[it]? = some (.mapIter (some m) since (seen ++ [e.born]).toArray clock)) (he : e ∈ es) (hnd : (es.toList.map (·.born)).Nodup) :
    (Instr.entry (.pointer (some ⟨it, 0, none⟩))).run P w = .ok (.tuple #[e.key, e.val]) w := by
  have hg := run_getObj_mit (P := P) hi
  have hgm := MapKept.run_getObj_map (P := P) hm
  have hf : es.find? (fun x => x.born == e.born) = some e := by
    rw [← Array.find?_toList]
    have : ∀ l : List MapEntry, (l.map (·.born)).Nodup → e ∈ l → l.find? (fun x => x.born == e.born) = some e := by
      intro l
      induction l with
      | nil => intro _ h; simp at h
      | cons x r ih =>
        intro hn hm
        simp only [List.map_cons, List.nodup_cons] at hn
        rw [List.find?_cons]
        rcases List.mem_cons.1 hm with rfl | hm
        · simp
        · have hne : (x.born == e.born) = false := by
            simp only [beq_eq_false_iff_ne]
            intro hx
            exact hn.1 (hx ▸ List.mem_map_of_mem (f := (·.born)) hm)
          rw [hne]; exact ih hn.2 hm
    exact this _ hnd (by simpa using he)
  simp only [Instr.entry, Sem.run_bind, hg, Result.andThen_ok]
  simp [hf, hgm, Result.andThen]
theorem op_entry_map {o : Oper} {X : Store} {kt vt : Ty} {x : Operand} {m k since clock : Nat} {seen : List Nat} {es : Ents kt vt} {e : Nat × kt.T × vt.T} {i : Nat} (ho : o.op = .entry x) (hkey : kt.key = true)
    (hm : X.objs.lookup m = some (.mit k since (seen ++ [e.1]).toArray clock)) (hk : X.objs.lookup k = some (mapO kt vt es clock)) (he : es[i]? = some e) :
    OpT P o [(x, .ptr m 0)] X X [] (.tup [.d (kt.dv e.2.1), .d (vt.dv e.2.2)]) :=
  .quiet fun _ _ g w ac hr hrd => by
    have e1 := (rd0 hrd).ptr_inv
    simp only at e1
    have hb := mit_block (hr.objs m _ hm)
    obtain ⟨as, hw⟩ := mapW_of hkey (hr.objs k _ hk)
    have hi : i < as.size := by
      have := (List.getElem?_eq_some_iff.1 he).1
      rw [hw.len] at this; exact this
    obtain ⟨q1, q2, q3⟩ := hw.at' i e as[i] he (by simp [hi])
    have hnd : (as.toList.map (·.born)).Nodup := by
      have : as.toList.map (·.born) = es.map (·.1) := by
        apply List.ext_getElem?
        intro j
        simp only [List.getElem?_map]
        cases h1 : es[j]? with
        | none =>
          have : as.size ≤ j := by
            have := List.getElem?_eq_none_iff.1 h1
            rw [hw.len] at this; exact this
          rw [List.getElem?_eq_none (by simpa using this)]; rfl
        | some y =>
          have hj : j < as.size := by
            have := (List.getElem?_eq_some_iff.1 h1).1
            rw [hw.len] at this; exact this
          have := (hw.at' j y as[j] h1 (by simp [hj])).1
          simp [hj, this]
      rw [this]; exact hw.nodup
    refine ⟨.tuple #[as[i].key, as[i].val], ?_, ?_⟩
    · have := run_entry' (P := P) (e := as[i]) (seen := seen) hw.heap (by rw [q1]; exact hb) (Array.getElem_mem hi) hnd
      simp only [execOp, ho, e1, this, Sem.run_bind, Result.andThen_ok, Sem.run_pure]
    · refine .tup _ _ rfl fun i c u hc hu => ?_
      rcases i with _ | _ | i
      · simp at hc hu; subst hc; subst hu
        refine .d _ _ ?_
        rw [q2]; exact kt.kval_rd _ hkey
      · simp at hc hu; subst hc; subst hu; exact .d _ _ q3
      · simp at hc
noncomputable def xEntry (st : XSt) (x : Operand) : Option Out :=
  match xeval st x with
  | some (.nm m (.p 0)) => match lk m st.objs with
    | some (.mit k since seen last) => match lk k st.objs, lastN seen with
      | some (.map kt vt es clock), some (p, b) => cond kt.key (cond (Nat.beq clock last) (match findB b es with
        | some e => some ⟨.look [m, k], .tup [.d (kt.xv e.2.1), .d (vt.xv e.2.2)], [(x, .nm m (.p 0))], st.objs, st.live, [], []⟩
        | none => none) none) none
      | _, _ => none
    | _ => none
  | _ => none
theorem xEntry_ok {o : Oper} {st : XSt} {x : Operand} {out : Out} (ho : o.op = .entry x) (h : xEntry st x = some out) : OpOk P o st out := by
  unfold xEntry at h
  split at h
  rotate_left
  · cases h
  rename_i m hx
  split at h
  rotate_left
  · cases h
  rename_i k since seen last hm
  split at h
  rotate_left
  · cases h
  rename_i kt vt es clock p b hk hl
  obtain ⟨hkey, h1⟩ := c2 h
  clear h
  obtain ⟨hcl, h⟩ := c2 h1
  clear h1
  replace hcl := Nat.eq_of_beq_eq_true hcl
  subst hcl
  cases he : findB b es with
  | none => rw [he] at h; cases h
  | some e =>
  rw [he] at h
  simp only [Option.some.injEq] at h
  subst h
  obtain ⟨e1, i, e2⟩ := findB_mem he
  have hs := lastN_eq hl
  rw [← e1] at hs
  refine ⟨sees1v hx, ⟨rfl, rfl, rfl, fun X hX => ?_⟩, fun _ _ _ h => h⟩
  refine op_entry_map (k := k) (i := i) (seen := p) (since := since) (clock := clock) (es := es) ho hkey ?_ ?_ e2
  · rw [← hs]
    exact (hX m (by simp)).trans (lk_imM hm)
  · exact (hX k (by simp)).trans (lk_imA hk)
end
end Go.Xl
set_option linter.unusedVariables false
set_option linter.unusedSimpArgs false
namespace Go.Xl
open Go.Ab
noncomputable def nth (l : List Nat) (i : Nat) : Nat :=
  List.rec (motive := fun _ => Nat → Nat) (fun _ => 0) (fun a _ ih i => Nat.rec (motive := fun _ => Nat) a (fun j _ => ih j) i) l i
theorem nth_eq : ∀ (l : List Nat) (i : Nat), nth l i = l.getD i 0
  | [], i => by simp [nth]
  | a :: r, 0 => rfl
  | a :: r, i + 1 => by rw [show nth (a :: r) (i + 1) = nth r i from rfl, nth_eq r i]; simp
noncomputable def tbit (m n : Nat) : Bool := Nat.beq (Nat.land 1 (Nat.shiftRight m n)) 1
theorem tbit_eq (m n : Nat) : tbit m n = m.testBit n := by
  have e : Nat.land 1 (Nat.shiftRight m n) = (m >>> n) % 2 := by
    show 1 &&& (m >>> n) = _
    rw [Nat.and_comm, Nat.and_one_is_mod]
  unfold tbit
  rw [e, Nat.testBit, Nat.and_comm, Nat.and_one_is_mod]
  rcases Nat.mod_two_eq_zero_or_one (m >>> n) with h | h <;> rw [h] <;> rfl
noncomputable def ordd (bs : List Nat) (i k : Nat) : Bool := cond (Nat.blt k i) (tbit (nth bs i) k) (tbit (nth bs k) i)
theorem ordd_ok {bs : List Nat} {i k : Nat} (h : ordd bs i k = true) : (k < i → (bs.getD i 0).testBit k = true) ∧ (i < k → (bs.getD k 0).testBit i = true) := by
  unfold ordd at h
  cases hb : Nat.blt k i with
  | true =>
    rw [hb] at h
    simp only [cond_true] at h
    rw [tbit_eq, nth_eq] at h
    have : k < i := by simpa [Nat.blt_eq] using hb
    exact ⟨fun _ => h, fun h' => by omega⟩
  | false =>
    rw [hb] at h
    simp only [cond_false] at h
    rw [tbit_eq, nth_eq] at h
    have : ¬ k < i := by
      intro hlt
      have h2 : Nat.blt k i = true := by rw [Nat.blt_eq]; exact hlt
      rw [h2] at hb; cases hb
    exact ⟨fun h' => absurd h' this, fun _ => h⟩
noncomputable def wrs (ops : List Oper) (i : Nat) : List (Nat × Nat) :=
  List.rec (motive := fun _ => Nat → List (Nat × Nat)) (fun _ => []) (fun o _ ih i => match o.dst with
    | some d => (d, i) :: ih (i + 1)
    | none => ih (i + 1)) ops i
theorem wrs_mem : ∀ {ops : List Oper} {i m d : Nat} {o : Oper}, ops[m]? = some o → o.dst = some d → (d, i + m) ∈ wrs ops i
  | [], i, m, d, o, h, _ => by simp at h
  | a :: r, i, m, d, o, h, hd => by
    have e : wrs (a :: r) i = match a.dst with
      | some d => (d, i) :: wrs r (i + 1)
      | none => wrs r (i + 1) := rfl
    rw [e]
    cases m with
    | zero =>
      simp only [List.getElem?_cons_zero, Option.some.injEq] at h
      subst h
      rw [hd]; simp
    | succ m =>
      have := wrs_mem (i := i + 1) (m := m) (by simpa using h) hd
      rw [show i + (m + 1) = i + 1 + m by omega]
      split
      · exact List.mem_cons_of_mem _ this
      · exact this
noncomputable def seeF (w : List (Nat × Nat)) (bs : List Nat) (i d : Nat) : Bool :=
  match lk d w with
  | none => true
  | some k => cond (Nat.beq k i) true (ordd bs i k)
noncomputable def acyF (ops : List Oper) (i : Nat) : Bool :=
  List.rec (motive := fun _ => Nat → Bool) (fun _ => true) (fun o _ ih i => cond (o.after.toList.all fun e => !Region.binds .any e || Nat.blt e.on i) (ih (i + 1)) false) ops i
theorem acyF_ok : ∀ {ops : List Oper} {i : Nat}, acyF ops i = true → ∀ (m : Nat) o, ops[m]? = some o → ∀ e ∈ o.after.toList, Region.binds .any e = true → e.on < i + m
  | [], i, _, m, o, h, _, _, _ => by simp at h
  | a :: r, i, hF, m, o, h, e, he, hb => by
    have e1 : acyF (a :: r) i = cond (a.after.toList.all fun e => !Region.binds .any e || Nat.blt e.on i) (acyF r (i + 1)) false := rfl
    rw [e1] at hF
    obtain ⟨h1, h2⟩ := c2' hF
    cases m with
    | zero =>
      simp only [List.getElem?_cons_zero, Option.some.injEq] at h
      subst h
      have := List.all_eq_true.1 h1 e he
      rw [hb] at this
      simpa [Nat.blt_eq] using this
    | succ m =>
      have := acyF_ok h2 m o (by simpa using h) e he hb
      omega
where
  c2' {a b : Bool} (h : cond a b false = true) : a = true ∧ b = true := by
    cases a with
    | true => exact ⟨rfl, h⟩
    | false => cases h
noncomputable def guaF (ops : Array Oper) (w : List (Nat × Nat)) (bs : List Nat) (l : List Oper) (i : Nat) : Bool :=
  List.rec (motive := fun _ => Nat → Bool) (fun _ => true) (fun o _ ih i => cond (match o.guard with
    | none => true
    | some (j, _) => match (ops[j]?).bind (·.dst) with
      | none => true
      | some d => seeF w bs i d) (ih (i + 1)) false) l i
theorem guaF_ok {ops : Array Oper} {w : List (Nat × Nat)} {bs : List Nat} : ∀ {l : List Oper} {i : Nat}, guaF ops w bs l i = true → ∀ (m : Nat) o, l[m]? = some o → ∀ j b d, o.guard = some (j, b) → (ops[j]?).bind (·.dst) = some d → seeF w bs (i + m) d = true
  | [], i, _, m, o, h, _, _, _, _, _ => by simp at h
  | a :: r, i, hF, m, o, h, j, b, d, hg, hd => by
    have e1 : guaF ops w bs (a :: r) i = cond (match a.guard with
      | none => true
      | some (j, _) => match (ops[j]?).bind (·.dst) with
        | none => true
        | some d => seeF w bs i d) (guaF ops w bs r (i + 1)) false := rfl
    rw [e1] at hF
    obtain ⟨h1, h2⟩ := acyF_ok.c2' hF
    cases m with
    | zero =>
      simp only [List.getElem?_cons_zero, Option.some.injEq] at h
      subst h
      rw [hg] at h1
      simp only [hd] at h1
      exact h1
    | succ m =>
      have := guaF_ok h2 m o (by simpa using h) j b d hg hd
      rw [show i + (m + 1) = i + 1 + m by omega]; exact this
noncomputable def statF (ops : Array Oper) : Bool :=
  cond (nodupL ((wrs ops.toList 0).map (·.1))) (cond (acyF ops.toList 0) (guaF ops (wrs ops.toList 0) (befs ops.toList) ops.toList 0) false) false
noncomputable def rdF (w : List (Nat × Nat)) (bs : List Nat) (i : Nat) (rd : List (Operand × AV)) : Bool :=
  List.rec (motive := fun _ => Bool) true (fun p _ ih => match p.1 with
    | .tmp t => cond (seeF w bs i t) ih false
    | .global k => cond (seeF w bs i (GB + k)) ih false
    | _ => ih) rd
theorem rdF_ok {w : List (Nat × Nat)} {bs : List Nat} {i : Nat} : ∀ {rd : List (Operand × AV)}, rdF w bs i rd = true → ∀ d ∈ rd.filterMap (fun p => match p.1 with | .tmp t => some t | .global k => some (GB + k) | _ => none), seeF w bs i d = true
  | [], _, d, hd => by simp at hd
  | p :: r, h, d, hd => by
    have e1 : rdF w bs i (p :: r) = match p.1 with
      | .tmp t => cond (seeF w bs i t) (rdF w bs i r) false
      | .global k => cond (seeF w bs i (GB + k)) (rdF w bs i r) false
      | _ => rdF w bs i r := rfl
    rw [e1] at h
    obtain ⟨x, v⟩ := p
    cases x with
    | tmp t =>
      simp only at h
      obtain ⟨h1, h2⟩ := acyF_ok.c2' h
      simp only [List.filterMap_cons, List.mem_cons] at hd
      rcases hd with rfl | hd
      · exact h1
      · exact rdF_ok h2 d hd
    | global k =>
      simp only at h
      obtain ⟨h1, h2⟩ := acyF_ok.c2' h
      simp only [List.filterMap_cons, List.mem_cons] at hd
      rcases hd with rfl | hd
      · exact h1
      · exact rdF_ok h2 d hd
    | const u => simp only [List.filterMap_cons] at hd; exact rdF_ok h d hd
    | func f => simp only [List.filterMap_cons] at hd; exact rdF_ok h d hd
noncomputable def readsF (w : List (Nat × Nat)) (bs : List Nat) (its : List It) (i : Nat) : Bool :=
  List.rec (motive := fun _ => Nat → Bool) (fun _ => true) (fun it _ ih i => cond (rdF w bs i it.rd) (ih (i + 1)) false) its i
theorem readsF_ok {w : List (Nat × Nat)} {bs : List Nat} : ∀ {its : List It} {i : Nat}, readsF w bs its i = true → ∀ (m : Nat) it, its[m]? = some it → rdF w bs (i + m) it.rd = true
  | [], i, _, m, it, h => by simp at h
  | a :: r, i, hF, m, it, h => by
    have e1 : readsF w bs (a :: r) i = cond (rdF w bs i a.rd) (readsF w bs r (i + 1)) false := rfl
    rw [e1] at hF
    obtain ⟨h1, h2⟩ := acyF_ok.c2' hF
    cases m with
    | zero => simp only [List.getElem?_cons_zero, Option.some.injEq] at h; subst h; exact h1
    | succ m =>
      have := readsF_ok h2 m it (by simpa using h)
      rw [show i + (m + 1) = i + 1 + m by omega]; exact this
noncomputable def effL (its : List It) (i : Nat) : List (Nat × Eff) :=
  List.rec (motive := fun _ => Nat → List (Nat × Eff)) (fun _ => []) (fun it _ ih i => match it.eff with
    | .none => ih (i + 1)
    | e => (i, e) :: ih (i + 1)) its i
theorem effL_mem : ∀ {its : List It} {i m : Nat} {it : It}, its[m]? = some it → it.eff ≠ .none → (i + m, it.eff) ∈ effL its i
  | [], i, m, it, h, _ => by simp at h
  | a :: r, i, m, it, h, hn => by
    have e1 : effL (a :: r) i = match a.eff with
      | .none => effL r (i + 1)
      | e => (i, e) :: effL r (i + 1) := rfl
    rw [e1]
    cases m with
    | zero =>
      simp only [List.getElem?_cons_zero, Option.some.injEq] at h
      subst h
      cases he : a.eff with
      | none => exact absurd he hn
      | _ => simp
    | succ m =>
      have := effL_mem (i := i + 1) (m := m) (by simpa using h) hn
      rw [show i + (m + 1) = i + 1 + m by omega]
      cases he : a.eff with
      | none => exact this
      | _ => exact List.mem_cons_of_mem _ this
noncomputable def clF (bs : List Nat) (p : Nat × Eff) (l : List (Nat × Eff)) : Bool :=
  List.rec (motive := fun _ => Bool) true (fun q _ ih => cond (p.2.clash q.2) (cond (Nat.beq p.1 q.1) ih (cond (ordd bs p.1 q.1) ih false)) ih) l
theorem clF_ok {bs : List Nat} {p : Nat × Eff} : ∀ {l : List (Nat × Eff)}, clF bs p l = true → ∀ q ∈ l, p.2.clash q.2 = true → p.1 ≠ q.1 → ordd bs p.1 q.1 = true
  | [], _, q, hq, _, _ => by simp at hq
  | a :: r, h, q, hq, hc, hne => by
    have e1 : clF bs p (a :: r) = cond (p.2.clash a.2) (cond (Nat.beq p.1 a.1) (clF bs p r) (cond (ordd bs p.1 a.1) (clF bs p r) false)) (clF bs p r) := rfl
    rw [e1] at h
    have hr : clF bs p r = true := by
      revert h
      cases p.2.clash a.2 <;> cases Nat.beq p.1 a.1 <;> cases ordd bs p.1 a.1 <;> simp
    rcases List.mem_cons.1 hq with rfl | hq
    · rw [hc, nbF hne] at h
      simp only [cond_true, cond_false] at h
      exact (acyF_ok.c2' h).1
    · exact clF_ok hr q hq hc hne
noncomputable def clsF (bs : List Nat) (l all : List (Nat × Eff)) : Bool :=
  List.rec (motive := fun _ => Bool) true (fun p _ ih => cond (clF bs p all) ih false) l
theorem clsF_ok {bs : List Nat} {all : List (Nat × Eff)} : ∀ {l : List (Nat × Eff)}, clsF bs l all = true → ∀ p ∈ l, clF bs p all = true
  | [], _, p, hp => by simp at hp
  | a :: r, h, p, hp => by
    have e1 : clsF bs (a :: r) all = cond (clF bs a all) (clsF bs r all) false := rfl
    rw [e1] at h
    obtain ⟨h1, h2⟩ := acyF_ok.c2' h
    rcases List.mem_cons.1 hp with rfl | hp
    · exact h1
    · exact clsF_ok h2 p hp
noncomputable def freO (bs : List Nat) (F : List Nat) (i : Nat) (all : List It) (k : Nat) : Bool :=
  List.rec (motive := fun _ => Nat → Bool) (fun _ => true) (fun jt _ ih k => cond (Nat.beq k i) (ih (k + 1)) (cond (tbit (nth bs k) i) (ih (k + 1)) (cond (isFree F jt.res) (ih (k + 1)) false))) all k
theorem freO_ok {bs F : List Nat} {i : Nat} : ∀ {all : List It} {k : Nat}, freO bs F i all k = true → ∀ (m : Nat) jt, all[m]? = some jt → i ≠ k + m → (bs.getD (k + m) 0).testBit i = true ∨ isFree F jt.res = true
  | [], k, _, m, jt, h, _ => by simp at h
  | a :: r, k, hF, m, jt, h, hne => by
    have e1 : freO bs F i (a :: r) k = cond (Nat.beq k i) (freO bs F i r (k + 1)) (cond (tbit (nth bs k) i) (freO bs F i r (k + 1)) (cond (isFree F a.res) (freO bs F i r (k + 1)) false)) := rfl
    rw [e1] at hF
    have hr : freO bs F i r (k + 1) = true := by
      revert hF
      cases Nat.beq k i <;> cases tbit (nth bs k) i <;> cases isFree F a.res <;> simp
    cases m with
    | zero =>
      simp only [List.getElem?_cons_zero, Option.some.injEq] at h
      subst h
      rw [nbF (fun e => hne (by omega))] at hF
      simp only [cond_false] at hF
      cases hb : tbit (nth bs k) i with
      | true => left; rw [tbit_eq, nth_eq] at hb; exact hb
      | false =>
        rw [hb] at hF
        right
        exact (acyF_ok.c2' hF).1
    | succ m =>
      have := freO_ok hr m jt (by simpa using h) (by omega)
      rw [show k + (m + 1) = k + 1 + m by omega]; exact this
noncomputable def freF (bs : List Nat) (env0 : List (Nat × XV)) (all its : List It) (i : Nat) : Bool :=
  List.rec (motive := fun _ => Nat → Bool) (fun _ => true) (fun it _ ih i => match it.F with
    | [] => ih (i + 1)
    | a :: F => cond (envFree (a :: F) (imEnv env0)) (cond (freO bs (a :: F) i all 0) (ih (i + 1)) false) false) its i
theorem freF_ok {bs : List Nat} {env0 : List (Nat × XV)} {all : List It} : ∀ {its : List It} {i : Nat}, freF bs env0 all its i = true → ∀ (m : Nat) it, its[m]? = some it → envFree it.F (imEnv env0) = true ∧ (it.F = [] ∨ freO bs it.F (i + m) all 0 = true)
  | [], i, _, m, it, h => by simp at h
  | a :: r, i, hF, m, it, h => by
    have e1 : freF bs env0 all (a :: r) i = match a.F with
      | [] => freF bs env0 all r (i + 1)
      | b :: F => cond (envFree (b :: F) (imEnv env0)) (cond (freO bs (b :: F) i all 0) (freF bs env0 all r (i + 1)) false) false := rfl
    rw [e1] at hF
    have hr : freF bs env0 all r (i + 1) = true := by
      split at hF
      · exact hF
      · exact (acyF_ok.c2' (acyF_ok.c2' hF).2).2
    cases m with
    | zero =>
      simp only [List.getElem?_cons_zero, Option.some.injEq] at h
      subst h
      cases hf : a.F with
      | nil => exact ⟨rfl, .inl rfl⟩
      | cons b F =>
        rw [hf] at hF
        simp only at hF
        obtain ⟨h1, h2⟩ := acyF_ok.c2' hF
        exact ⟨h1, .inr (acyF_ok.c2' h2).1⟩
    | succ m =>
      have := freF_ok hr m it (by simpa using h)
      rw [show i + (m + 1) = i + 1 + m by omega]; exact this
noncomputable def lenR {α : Type} (l : List α) : Nat := List.rec (motive := fun _ => Nat) 0 (fun _ _ ih => Nat.add ih 1) l
theorem lenR_eq {α : Type} : ∀ l : List α, lenR l = l.length
  | [] => rfl
  | a :: r => by show Nat.add (lenR r) 1 = _; rw [lenR_eq r]; rfl
noncomputable def drawF (ops : Array Oper) (env0 : List (Nat × XV)) (its : List It) : Bool :=
  cond (statF ops) (cond (Nat.beq ops.size (lenR its)) (cond (readsF (wrs ops.toList 0) (befs ops.toList) its 0) (cond (clsF (befs ops.toList) (effL its 0) (effL its 0))
    (freF (befs ops.toList) env0 its its 0) false) false) false) false
theorem drawF_ok {ops : Array Oper} {env0 : List (Nat × XV)} {its : List It} (h : drawF ops env0 its = true) (hl : Linked ops its) : DOk ops (imEnv env0) its := by
  unfold drawF at h
  obtain ⟨hst, h⟩ := acyF_ok.c2' h
  obtain ⟨hsz, h⟩ := acyF_ok.c2' h
  obtain ⟨hrd, h⟩ := acyF_ok.c2' h
  obtain ⟨hcl, hfr⟩ := acyF_ok.c2' h
  unfold statF at hst
  obtain ⟨hnd, hst⟩ := acyF_ok.c2' hst
  obtain ⟨hac, hgu⟩ := acyF_ok.c2' hst
  have hnd := nodupL_spec hnd
  have hln : ∀ (m : Nat) it, its[m]? = some it → ops.toList[m]? = some it.o := by
    intro m it hm
    have := hl m it hm
    simpa using this
  have wr : ∀ (m d : Nat) it, its[m]? = some it → it.o.dst = some d → lk d (wrs ops.toList 0) = some m := by
    intro m d it hm hd
    have h1 := wrs_mem (i := 0) (hln m it hm) hd
    rw [Nat.zero_add] at h1
    rw [lk_eq]
    exact lookup_of_mem hnd h1
  have see : ∀ (i k d : Nat) jt, its[k]? = some jt → jt.o.dst = some d → i ≠ k → seeF (wrs ops.toList 0) (befs ops.toList) i d = true → ordd (befs ops.toList) i k = true := by
    intro i k d jt hk hd hne hs
    unfold seeF at hs
    rw [wr k d jt hk hd] at hs
    simp only at hs
    rw [nbF (fun e => hne e.symm)] at hs
    exact hs
  refine ⟨?_, ?_, ?_, ?_, ?_, ?_⟩
  · have := Nat.eq_of_beq_eq_true hsz
    rw [this, lenR_eq]
  · intro i it hi
    exact (freF_ok hfr i it hi).1
  · intro i it hi e he hb
    have := acyF_ok hac i it.o (hln i it hi) e he hb
    omega
  · intro i k it jt d hi hk hne hd hor
    have key : ordd (befs ops.toList) i k = true := by
      rcases hor with hm | hm
      · unfold looks at hm
        rcases List.mem_append.1 hm with hm | hm
        · have h1 := readsF_ok hrd i it hi
          rw [Nat.zero_add] at h1
          exact see i k d jt hk hd hne (rdF_ok h1 d hm)
        · split at hm
          · rename_i j b hg
            have h2 : (ops[j]?).bind (·.dst) = some d := by simpa [Option.mem_toList] using hm
            have h1 := guaF_ok hgu i it.o (hln i it hi) j b d hg h2
            rw [Nat.zero_add] at h1
            exact see i k d jt hk hd hne h1
          · simp at hm
      · have h1 := wr i d it hi hm
        have h2 := wr k d jt hk hd
        rw [h1] at h2
        exact absurd (by simpa using h2) hne
    exact ordd_ok key
  · intro i k it jt hi hk hne hc
    have n1 : it.eff ≠ .none := by
      intro e; rw [e] at hc; simp [Eff.clash] at hc
    have n2 : jt.eff ≠ .none := by
      intro e; rw [e] at hc
      cases it.eff <;> simp [Eff.clash] at hc
    have m1 := effL_mem (i := 0) hi n1
    have m2 := effL_mem (i := 0) hk n2
    rw [Nat.zero_add] at m1 m2
    exact ordd_ok (clF_ok (clsF_ok hcl _ m1) _ m2 hc hne)
  · intro i k it jt hi hk hne
    rcases (freF_ok hfr i it hi).2 with h1 | h1
    · exact .inl h1
    · rw [Nat.zero_add] at h1
      have := freO_ok h1 k jt hk (by omega)
      rw [Nat.zero_add] at this
      exact .inr this
end Go.Xl
set_option linter.unusedVariables false
set_option linter.unusedSimpArgs false
set_option linter.unnecessarySimpa false
namespace Go.Xl
open Go.Ab
noncomputable def reD (o : Oper) (d : Nat) : Oper := { o with dst := some d }
theorem execOp_reD (ρ : Operand → Value) (o : Oper) (d : Nat) : execOp ρ (reD o d) = execOp ρ o := by
  cases o; rfl
theorem opT_dst {P : Program} {o : Oper} {d d' : Nat} {rd : List (Operand × AV)} {X X' : Store} {F : List Nat} {res : AV} (hd : o.dst = some d) (h : OpT P (reD o d') rd X X' F res) : OpT P o rd X X' F res := by
  intro nm hsm B g w a hr hrd next Q hn
  have hev : ∀ x, Act.eval { a with tmps := a.tmps ++ Array.replicate (d' + 1) undef } x = a.eval x := by
    intro x
    cases x with
    | tmp t =>
      show (a.tmps ++ Array.replicate (d' + 1) undef).getD t undef = a.tmps.getD t undef
      simp only [Array.getD_eq_getD_getElem?, Array.getElem?_append]
      split
      · rfl
      · rename_i hlt
        rw [Array.getElem?_eq_none (by omega : a.tmps.size ≤ t), Array.getElem?_replicate]
        split <;> rfl
    | _ => rfl
  have hput : ∀ v, ((Act.put { a with tmps := a.tmps ++ Array.replicate (d' + 1) undef } (some d') v).tmps.getD d' undef) = v := by
    intro v
    simp only [Act.put, Array.getD_eq_getD_getElem?]
    rw [Array.getElem?_setIfInBounds_self_of_lt (by simp; omega)]
    rfl
  have h1 := h nm hsm B g w { a with tmps := a.tmps ++ Array.replicate (d' + 1) undef } hr (fun p hp => by rw [hev]; exact hrd p hp)
    (fun b w' => next ({ a with defers := b.defers }.put (some d) (b.tmps.getD d' undef)) w') (fun e _ w' => Q e a w') (by
      intro g' w' v h2 h3 h4
      have := hn g' w' v h2 h3 h4
      rw [hd] at this
      simp only [reD, hput]
      exact this)
  unfold Oper.wp at h1 ⊢
  have e : execOp (Act.eval { a with tmps := a.tmps ++ Array.replicate (d' + 1) undef }) (reD o d') = execOp a.eval o := by
    rw [execOp_reD]; congr 1; exact funext hev
  rw [e] at h1
  generalize (execOp a.eval o).run P w = r at h1
  cases r with
  | ok n w' =>
    cases n with
    | value v =>
      rw [Oper.upon_value] at h1 ⊢
      simp only [reD, hput] at h1
      rw [hd]; exact h1
    | skip =>
      rw [Oper.upon_skip] at h1 ⊢
      simp only [reD, hput] at h1
      rw [hd]; exact h1
    | defer dd =>
      rw [Oper.upon_defer] at h1 ⊢
      simp only [reD] at h1
      rw [hd]
      have e2 : ((Act.put { a with tmps := a.tmps ++ Array.replicate (d' + 1) undef, defers := dd :: a.defers } (some d') undef).tmps.getD d' undef) = undef := hput undef
      rw [e2] at h1
      exact h1
    | enter f args =>
      rw [Oper.upon_enter] at h1 ⊢
      refine h1.mono ?_
      intro en w'' h2
      cases en with
      | returned v =>
        simp only [reD, hput] at h2
        simp only [hd]; exact h2
      | panicked chain => exact h2
      | outgrown => obtain ⟨_, w3, h3⟩ := h2; exact ⟨a, w3, h3⟩
    | row row args =>
      rw [Oper.upon_row] at h1 ⊢
      refine h1.mono ?_
      intro v w'' h2
      simp only [reD, hput] at h2
      rw [hd]; exact h2
    | _ => exact h1
  | halt hh w' =>
    cases hh with
    | panic v => exact h1
    | _ => exact h1
theorem OpOk.re {P : Program} {o : Oper} {st : XSt} {out : Out} {d d' : Nat} (hd : o.dst = some d) (h : OpOk P (reD o d') st out) : OpOk P o st out := by
  refine ⟨h.sees, ?_, h.ol⟩
  have := h.op
  show match out.eff with | .none => _ | .look ks => _ | .put k c => _ | .all => _ | .lab => _ | .putl k c => _ | .new os => _
  cases he : out.eff with
  | none => rw [he] at this; exact ⟨this.1, this.2.1, this.2.2.1, fun X => opT_dst hd (this.2.2.2 X)⟩
  | look ks => rw [he] at this; exact ⟨this.1, this.2.1, this.2.2.1, fun X hX => opT_dst hd (this.2.2.2 X hX)⟩
  | put k c => rw [he] at this; exact ⟨this.1, this.2.1, this.2.2.1, fun X hX => opT_dst hd (this.2.2.2 X hX)⟩
  | all => rw [he] at this; exact opT_dst hd this
  | lab => rw [he] at this; exact ⟨this.1, opT_dst hd this.2⟩
  | putl k c => rw [he] at this; exact ⟨this.1, opT_dst hd this.2⟩
  | new os => rw [he] at this; exact ⟨this.1, opT_dst hd this.2⟩
noncomputable def envP (F : List Nat) : List (Nat × XV) → List Nat → List (Nat × XV)
  | [], _ => []
  | p :: r, dead => cond (inl p.1 dead) (envP F r dead) (cond (isFree F p.2.a) (p :: envP F r (p.1 :: dead)) (envP F r (p.1 :: dead)))
theorem envP_lk {F : List Nat} {t : Nat} {x : XV} : ∀ {env : List (Nat × XV)} {dead : List Nat}, lk t (envP F env dead) = some x → t ∉ dead ∧ lk t env = some x ∧ isFree F x.a = true
  | [], dead, h => by simp [envP, lk_cons, lk_nil] at h
  | p :: r, dead, h => by
    simp only [envP] at h
    cases hd : inl p.1 dead with
    | true =>
      simp only [hd, cond_true] at h
      obtain ⟨h1, h2, h3⟩ := envP_lk h
      have hne : t ≠ p.1 := by rintro rfl; exact h1 ((inl_eq _ _).1 hd)
      exact ⟨h1, by rw [lk_cons_ne hne]; exact h2, h3⟩
    | false =>
      simp only [hd, cond_false] at h
      have hnd : p.1 ∉ dead := by intro hm; rw [(inl_eq _ _).2 hm] at hd; cases hd
      cases hf : isFree F p.2.a with
      | true =>
        simp only [hf, cond_true] at h
        by_cases he : t = p.1
        · subst he
          simp only [lk_cons, lk_nil, Nat.beq_refl, cond_true, Option.some.injEq] at h
          subst h
          exact ⟨hnd, by simp [lk_cons, lk_nil], hf⟩
        · rw [lk_cons_ne he] at h
          obtain ⟨h1, h2, h3⟩ := envP_lk h
          exact ⟨fun hm => h1 (List.mem_cons_of_mem _ hm), by rw [lk_cons_ne he]; exact h2, h3⟩
      | false =>
        simp only [hf, cond_false] at h
        obtain ⟨h1, h2, h3⟩ := envP_lk h
        have hne : t ≠ p.1 := by rintro rfl; exact h1 List.mem_cons_self
        exact ⟨fun hm => h1 (List.mem_cons_of_mem _ hm), by rw [lk_cons_ne hne]; exact h2, h3⟩
noncomputable def Out.stU (out : Out) (o : Oper) (st : XSt) : XSt :=
  match out.F with
  | [] => out.st o st
  | k :: F => ⟨putX o.dst out.res (envP (k :: F) st.env []), out.objs, out.live, logW o.dst st.wl, out.ol ++ st.ol⟩
theorem SR.putF {S : Sig} {B : Base} {F : List Nat} {g g' : Gh} {w w' : World} {st : St} {a : Act} (h : SR S B g w st a) (ht : Trans F g w g' w') (hF : ∀ t x, st.env.lookup t = some x → isFree F x = true)
    {X' : Store} (hX : HR S.names B g' w' X') {dst : Option Tmp} (hd : dstOk S.N dst = true) {x : AV} {v : Value} (hv : RA g' w' x v) : SR S B g' w' ⟨putEnv dst x st.env, X'⟩ (a.put dst v) := by
  cases dst with
  | none =>
    refine ⟨h.defers, h.size, hX, ?_⟩
    intro t y hy
    obtain ⟨u, hu, hr⟩ := h.env t y hy
    exact ⟨u, hu, hr.mono ht (free_of (hF t y hy))⟩
  | some d =>
    have hdlt : d < S.N ∧ d < GB := by simpa [dstOk] using hd
    refine ⟨h.defers, by simp [Act.put, h.size], hX, ?_⟩
    intro t y hy
    simp only [putEnv, List.lookup_cons] at hy
    by_cases he : t = d
    · subst he
      simp at hy
      subst hy
      exact ⟨v, slotV_same (h.size ▸ hdlt.1) hdlt.2, hv⟩
    · have hb : (t == d) = false := by simpa using he
      rw [hb] at hy
      obtain ⟨u, hu, hr⟩ := h.env t y hy
      exact ⟨u, (slotV_put he).trans hu, hr.mono ht (free_of (hF t y hy))⟩
structure InvU (s0 s : XSt) : Prop where
  objs : ∀ k x, k ∉ s.ol → lk k s.objs = some x → lk k s0.objs = some x
theorem InvU.refl (s : XSt) : InvU s s := ⟨fun _ _ _ h => h⟩
theorem InvU.toInv {s0 s : XSt} (h : InvU s0 s) : Inv ⟨s.env, s0.objs, s0.live, s0.wl, s0.ol⟩ s := ⟨fun _ _ _ h => h, h.objs⟩
theorem InvU.op {P : Program} {s0 st : XSt} {o : Oper} {out : Out} (h : InvU s0 st) (hok : OpOk P o st out) : InvU s0 (out.st o st) :=
  ⟨(h.toInv.op hok).objs⟩
theorem InvU.dem {s0 st : XSt} {o : Oper} {out : Out} (h : InvU s0 st) (ol : ∀ k x, k ∉ out.ol → lk k out.objs = some x → lk k st.objs = some x) : InvU s0 (out.st o st) :=
  ⟨(h.toInv.dem ol).objs⟩
theorem InvU.skip {s0 st : XSt} {o : Oper} (h : InvU s0 st) : InvU s0 (skipSt o st) := ⟨h.objs⟩
theorem InvU.fg {s0 s : XSt} (h : InvU s0 s) : InvU s0 (fgSt s) := ⟨h.toInv.fg.objs⟩
section
variable {P : Program}
theorem Rw.opF {S : Sig} {ops : Array Oper} {i : Nat} {rest : List Nat} {K : St → Prop} {o : Oper} {st : XSt} {out : Out} (ho : ops[i]? = some o) (hg : Guard ops st.im o.guard true) (ht : OpOk P o st out) (hd : dstOk S.N o.dst = true)
    (h : Rw P S ops rest (out.stU o st).im K) : Rw P S ops (i :: rest) st.im K := by
  unfold Out.stU at h
  split at h
  · rename_i hF
    rw [Out.st_im] at h
    exact Rw.opg ho hg ht.opT (sees_all ht.sees) (by rw [hF]; rfl) hd h
  · rename_i k F hF
    intro B g w a Q hsr hq
    unfold wpOps
    simp only [ho, hg.wanted hsr, if_true]
    have hop := ht.opT
    rw [hF] at hop
    refine .inl (hop S.names S.small B g w a hsr.hr (fun p hp => (ht.sees p hp).ra hsr) _ Q ?_)
    intro g' w' v hX htr hv
    have hsub : ∀ t x, (imEnv (envP (k :: F) st.env [])).lookup t = some x → st.im.env.lookup t = some x ∧ isFree (k :: F) x = true := by
      intro t x hx
      rw [im_env, Option.map_eq_some_iff] at hx
      obtain ⟨y, hy, rfl⟩ := hx
      obtain ⟨_, h2, h3⟩ := envP_lk hy
      exact ⟨by show (imEnv st.env).lookup t = _; rw [im_env, h2]; rfl, h3⟩
    have hs' : SR S B g w ⟨imEnv (envP (k :: F) st.env []), st.im.X⟩ a := ⟨hsr.defers, hsr.size, hsr.hr, fun t x hx => hsr.env t x (hsub t x hx).1⟩
    have := Go.Xl.SR.putF hs' htr (fun t x hx => (hsub t x hx).2) hX hd hv
    have e : (⟨putX o.dst out.res (envP (k :: F) st.env []), out.objs, out.live, logW o.dst st.wl, out.ol ++ st.ol⟩ : XSt).im = ⟨putEnv o.dst out.res.a (imEnv (envP (k :: F) st.env [])), out.X⟩ := by
      simp only [XSt.im, XSt.X, im_put, Out.X]
    rw [e] at h
    exact h B g' w' _ Q this hq
theorem InvU.opU {s0 st : XSt} {o : Oper} {out : Out} (h : InvU s0 st) (hok : OpOk P o st out) : InvU s0 (out.stU o st) := by
  unfold Out.stU
  split
  · exact h.op hok
  · refine ⟨fun k x hk hx => ?_⟩
    simp only [List.mem_append, not_or] at hk hx
    exact h.objs k x hk.2 (hok.ol k x hk.1 hx)
end
noncomputable def setD (d : Nat) (x : XV) (env : List (Nat × XV)) : List (Nat × XV) :=
  List.rec (motive := fun _ => List (Nat × XV)) [(d, x)] (fun p r ih => Bool.rec (motive := fun _ => List (Nat × XV)) (p :: ih) ((d, x) :: r) (Nat.beq p.1 d)) env
theorem lk_setD (d : Nat) (x : XV) (t : Nat) : ∀ env : List (Nat × XV), lk t (setD d x env) = cond (Nat.beq d t) (some x) (lk t env)
  | [] => by rw [show setD d x [] = [(d, x)] from rfl, lk_cons]
  | p :: r => by
    have e : setD d x (p :: r) = cond (Nat.beq p.1 d) ((d, x) :: r) (p :: setD d x r) := by
      unfold setD; cases h : Nat.beq p.1 d <;> simp [h]
    rw [e]
    cases h : Nat.beq p.1 d with
    | true =>
      have := Nat.eq_of_beq_eq_true h
      subst this
      simp only [cond_true, lk_cons]
      cases Nat.beq p.1 t <;> rfl
    | false =>
      simp only [cond_false, lk_cons, lk_setD d x t r]
      cases h1 : Nat.beq p.1 t with
      | false => rfl
      | true =>
        cases h2 : Nat.beq d t with
        | false => rfl
        | true =>
          rw [Nat.eq_of_beq_eq_true h2, h1] at h
          cases h
noncomputable def mergeN (n : Nat) (env : List (Nat × XV)) : List (Nat × XV) :=
  Nat.rec (motive := fun _ => List (Nat × XV) → List (Nat × XV)) (fun e => e) (fun _ ih e => List.rec (motive := fun _ => List (Nat × XV)) [] (fun p r _ => setD p.1 p.2 (ih r)) e) n env
theorem lk_mergeN (t : Nat) : ∀ (n : Nat) (env : List (Nat × XV)), lk t (mergeN n env) = lk t env
  | 0, env => rfl
  | n + 1, [] => rfl
  | n + 1, p :: r => by
    rw [show mergeN (n + 1) (p :: r) = setD p.1 p.2 (mergeN n r) from rfl, lk_setD, lk_mergeN t n r, lk_cons]
noncomputable def hdN (l : List Nat) : Nat := List.rec (motive := fun _ => Nat) 0 (fun n _ _ => n) l
noncomputable def tidy (lp : Bool) (n c : Nat) (s : XSt) : XSt := ⟨cond lp (mergeN n s.env) s.env, s.objs, s.live, [c], s.ol⟩
theorem tidy_lk (lp : Bool) (n c : Nat) (s : XSt) (t : Nat) : lk t (tidy lp n c s).env = lk t s.env := by
  unfold tidy
  cases lp with
  | true => exact lk_mergeN t n s.env
  | false => rfl
theorem InvU.tidy {s0 s : XSt} {lp : Bool} {n c : Nat} (h : InvU s0 s) : InvU s0 (tidy lp n c s) := ⟨h.objs⟩
theorem SR.tidy {S : Sig} {B : Base} {g : Gh} {w : World} {s : XSt} {a : Act} {lp : Bool} {n c : Nat} (h : SR S B g w s.im a) : SR S B g w (tidy lp n c s).im a := by
  refine ⟨h.defers, h.size, h.hr, fun t x hx => h.env t x ?_⟩
  have h1 : (imEnv (Xl.tidy lp n c s).env).lookup t = some x := hx
  show (imEnv s.env).lookup t = some x
  rw [im_env, tidy_lk] at h1
  rw [im_env]; exact h1
theorem awp_tidy {P : Program} {S : Sig} {c : Code} {st : St} {s0 s : XSt} {e : Exit} {lp : Bool} {n k : Nat} (h : AWp P S c (fun e' s' => e' = e ∧ s' = s.im ∧ InvU s0 s) st) : AWp P S c (fun e' s' => e' = e ∧ s' = (tidy lp n k s).im ∧ InvU s0 (tidy lp n k s)) st := by
  intro B g w a hs
  refine wp_mono (h B g w a hs) ?_
  rintro e' a' w' ⟨st', g', ⟨rfl, rfl, hi⟩, hs'⟩
  exact ⟨_, g', ⟨rfl, rfl, hi.tidy⟩, SR.tidy hs'⟩
noncomputable def xNextC (st : XSt) (x : Operand) : Option Out :=
  match xeval st x with
  | some (.nm m (.p 0)) => match lk m st.objs with
    | some (.mit k since seen last) => match lk k st.objs with
      | some (.map kt vt es clock) => cond kt.key (cond (oldB since last es)
          (match unseen seen es with
            | [] => some ⟨.look [m, k], .tup [.d (.b false)], [(x, .nm m (.p 0))], st.objs, st.live, [], []⟩
            | [e] => some (nextO st x m k since clock seen kt vt e)
            | _ => none) none) none
      | _ => none
    | some .mitn => some ⟨.look [m], .tup [.d (.b false)], [(x, .nm m (.p 0))], st.objs, st.live, [], []⟩
    | _ => none
  | _ => none
theorem xNextC_M {st : XSt} {x : Operand} {out : Out} (h : xNextC st x = some out) : xNextM st x some = some out := by
  unfold xNextC at h
  unfold xNextM
  split at h
  · rename_i m hx
    rw [hx]
    simp only
    split at h
    · rename_i k since seen last hm
      rw [hm]
      simp only
      split at h
      · rename_i kt vt es clock hk
        rw [hk]
        simp only
        cases hkey : kt.key with
        | false => simp [hkey] at h
        | true =>
        cases hold : oldB since last es with
        | false => simp [hkey, hold] at h
        | true =>
          simp only [hkey, hold, cond_true] at h ⊢
          split at h
          · rename_i hu
            rw [hu, demon_nil]; exact h
          · rename_i e hu
            rw [hu]
            exact demon_of (by simp) (by simpa using h)
          · cases h
      · cases h
    · rename_i hm
      rw [hm]
      exact h
    · cases h
  · cases h
section
variable (P : Program) (Γ : List (Ent P)) (own : List Nat) (nt : Nat)
noncomputable def seedD (n : Nat) (d : Nat) : Nat := 10000000 + 4000 * n + d
structure SF where
  run : (P : Program) → List (Ent P) → List Nat → Bool → Nat → Oper → XSt → Option Out
noncomputable def stepA (op : Op) (dst : Option Nat) : SF :=
  match op with
  | .next x false => ⟨fun P Γ own draw n o st => cond draw none (xNextC st x)⟩
  | .entry x => ⟨fun P Γ own draw n o st => xEntry st x⟩
  | op => match dst with
    | some d => ⟨fun P Γ own draw n o st => orE ((xopA op).run P Out Γ (cond (inl d own) [seedD n d] []) (reD o (seedD n d)) st some) ((xopNA op).run P (reD o (seedD n d)) st)⟩
    | none => ⟨fun P Γ own draw n o st => orE ((xopA op).run P Out Γ [] o st some) ((xopNA op).run P o st)⟩
noncomputable def stepU (draw : Bool) (n : Nat) (o : Oper) (st : XSt) : Option Out := (stepA o.op o.dst).run P Γ own draw n o st
theorem stepU_eq (draw : Bool) (n : Nat) (o : Oper) (st : XSt) : stepU P Γ own draw n o st = match o.op with
  | .next x false => cond draw none (xNextC st x)
  | .entry x => xEntry st x
  | _ => match o.dst with
    | some d => orE (xop P Γ (cond (inl d own) [seedD n d] []) (reD o (seedD n d)) st some) (xopN P (reD o (seedD n d)) st)
    | none => orE (xop P Γ [] o st some) (xopN P o st) := by
  obtain ⟨dst, op, ty, pos, aft, guard⟩ := o
  unfold stepU stepA
  dsimp only
  split <;> try rfl
  cases dst <;> rfl
noncomputable def guardU (ops : Array Oper) (o : Oper) (st : XSt) : Option Bool :=
  match o.guard with
  | none => some true
  | some (j, want) => match guardSlot ops j with
    | none => none
    | some d => match lk d st.env with
      | some (.d (.b b)) => some (b == want)
      | some v => cond (isUndef v) (some false) none
      | none => none
noncomputable def gd {α : Type} (c : Bool) (x : Option α) : Option α := Bool.rec (motive := fun _ => Option α) none x c
noncomputable def ob {α β : Type} (x : Option α) (f : α → Option β) : Option β := Option.rec (motive := fun _ => Option β) none f x
noncomputable def bsel {α : Type} (c : Bool) (x y : α) : α := Bool.rec (motive := fun _ => α) y x c
theorem gd_some {α : Type} {c : Bool} {x : Option α} {r : α} (h : gd c x = some r) : c = true ∧ x = some r := by
  cases c with
  | true => exact ⟨rfl, h⟩
  | false => cases h
theorem ob_some {α β : Type} {x : Option α} {f : α → Option β} {r : β} (h : ob x f = some r) : ∃ a, x = some a ∧ f a = some r := by
  cases x with
  | some a => exact ⟨a, rfl, h⟩
  | none => cases h
structure OF where
  run : (P : Program) → List (Ent P) → List Nat → Nat → Array Oper → Bool → List (Nat × XV) → Nat → List It → XSt → Option XSt
noncomputable def xopsA : List Oper → OF
  | [] => ⟨fun P Γ own nt ops draw env0 n its st => bsel draw (gd (drawF ops env0 its) (some st)) (some st)⟩
  | o :: rest => match o.guard with
    | none => ⟨fun P Γ own nt ops draw env0 n its st => gd (dstOk nt o.dst) (ob (stepU P Γ own draw n o st) fun out => (xopsA rest).run P Γ own nt ops draw env0 (n + 1) (its ++ [out.it o]) (bsel draw (out.st o st) (out.stU o st)))⟩
    | some g => ⟨fun P Γ own nt ops draw env0 n its st => gd (dstOk nt o.dst) (ob (guardU ops o st) fun b => bsel b
        (ob (stepU P Γ own draw n o st) fun out => (xopsA rest).run P Γ own nt ops draw env0 (n + 1) (its ++ [out.it o]) (bsel draw (out.st o st) (out.stU o st)))
        ((xopsA rest).run P Γ own nt ops draw env0 (n + 1) (its ++ [skipIt o]) (skipSt o st)))⟩
noncomputable def xopsU (ops : Array Oper) (draw : Bool) (env0 : List (Nat × XV)) (l : List Oper) (n : Nat) (its : List It) (st : XSt) : Option XSt := (xopsA l).run P Γ own nt ops draw env0 n its st
theorem xopsU_nil (ops : Array Oper) (draw : Bool) (env0 : List (Nat × XV)) (n : Nat) (its : List It) (st : XSt) : xopsU P Γ own nt ops draw env0 [] n its st = bsel draw (gd (drawF ops env0 its) (some st)) (some st) := rfl
theorem xopsU_cons (ops : Array Oper) (draw : Bool) (env0 : List (Nat × XV)) (o : Oper) (rest : List Oper) (n : Nat) (its : List It) (st : XSt) : xopsU P Γ own nt ops draw env0 (o :: rest) n its st =
    gd (dstOk nt o.dst) (ob (guardU ops o st) fun b => bsel b
        (ob (stepU P Γ own draw n o st) fun out => xopsU P Γ own nt ops draw env0 rest (n + 1) (its ++ [out.it o]) (bsel draw (out.st o st) (out.stU o st)))
        (xopsU P Γ own nt ops draw env0 rest (n + 1) (its ++ [skipIt o]) (skipSt o st))) := by
  unfold xopsU
  conv => lhs; unfold xopsA
  cases hg : o.guard with
  | none =>
    have : guardU ops o st = some true := by unfold guardU; rw [hg]
    rw [this]; rfl
  | some g => rfl
noncomputable def loopU (f : XSt → Option (Exit × XSt)) (n : Nat) : XSt → Option (Exit × XSt) :=
  Nat.rec (motive := fun _ => XSt → Option (Exit × XSt)) (fun _ => none) (fun _ ih st => match f st with
    | some (.normal, s) => ih s
    | r => r) n
theorem loopU_zero (f : XSt → Option (Exit × XSt)) (st : XSt) : loopU f 0 st = none := rfl
theorem loopU_succ (f : XSt → Option (Exit × XSt)) (n : Nat) (st : XSt) : loopU f (n + 1) st = (match f st with
    | some (.normal, s) => loopU f n s
    | r => r) := rfl
structure CF where
  run : (P : Program) → List (Ent P) → List Nat → Nat → Nat → Bool → XSt → Option (Exit × XSt)
noncomputable def execA : Code → CF
  | .skip => ⟨fun P Γ own nt N lp st => some (.normal, st)⟩
  | .label _ => ⟨fun P Γ own nt N lp st => some (.normal, st)⟩
  | .exit id => ⟨fun P Γ own nt N lp st => some (.exit id, st)⟩
  | .ret => ⟨fun P Γ own nt N lp st => some (.ret, st)⟩
  | .region _ ops draw => ⟨fun P Γ own nt N lp st => ob ((xopsA ops.toList).run P Γ own nt ops draw st.env (hdN st.wl) [] st) fun s => some (.normal, tidy lp ops.size (hdN st.wl + ops.size) s)⟩
  | .seq a b => ⟨fun P Γ own nt N lp st => match (execA a).run P Γ own nt N lp st with
    | some (.normal, s) => (execA b).run P Γ own nt N lp s
    | r => r⟩
  | .cond c a b => ⟨fun P Γ own nt N lp st => match xeval st c with
    | some (.d (.b v)) => bsel v ((execA a).run P Γ own nt N lp st) ((execA b).run P Γ own nt N lp st)
    | _ => none⟩
  | .block id c => ⟨fun P Γ own nt N lp st => match (execA c).run P Γ own nt N lp st with
    | some (.exit j, s) => bsel (exitIs j id) (some (.normal, s)) (some (.exit j, s))
    | r => r⟩
  | .loop b => ⟨fun P Γ own nt N lp st => loopU ((execA b).run P Γ own nt N true) N st⟩
  | _ => ⟨fun P Γ own nt N lp st => none⟩
noncomputable def execU (N : Nat) (c : Code) (lp : Bool) (st : XSt) : Option (Exit × XSt) := (execA c).run P Γ own nt N lp st
end
theorem xNextC_F {st : XSt} {x : Operand} {out : Out} (h : xNextC st x = some out) : out.F = [] ∧ ∀ k y, k ∉ out.ol → lk k out.objs = some y → lk k st.objs = some y := by
  unfold xNextC at h
  split at h
  · rename_i m hx
    split at h
    · rename_i k since seen last hm
      split at h
      · rename_i kt vt es clock hk
        cases hkey : kt.key with
        | false => simp [hkey] at h
        | true =>
        cases hold : oldB since last es with
        | false => simp [hkey, hold] at h
        | true =>
          simp only [hkey, hold, cond_true] at h
          split at h
          · cases h; exact ⟨rfl, fun _ _ _ h => h⟩
          · cases h
            refine ⟨rfl, fun j z hj hz => ?_⟩
            simp only [nextO, List.mem_cons, List.not_mem_nil, or_false] at hj hz
            rwa [lk_xset _ _ _ _ hj] at hz
          · cases h
      · cases h
    · cases h; exact ⟨rfl, fun _ _ _ h => h⟩
    · cases h
  · cases h
section
variable {P : Program} {Γ : List (Ent P)} {own : List Nat}
theorem stepU_ok {draw : Bool} {n : Nat} {o : Oper} {st : XSt} {out : Out} (h : stepU P Γ own draw n o st = some out) : OpOk P o st out ∨ (draw = false ∧ ∃ rd, DemOk P o st rd [out]) := by
  rw [stepU_eq] at h
  split at h
  · rename_i x ho
    cases draw with
    | true => cases h
    | false =>
      simp only [cond_false] at h
      rcases xNextM_ok (P := P) ho (xNextC_M h) with ⟨out', h1, h2⟩ | ⟨rd, outs, h1, h2⟩
      · cases h1; exact .inl h2
      · right
        obtain ⟨f1, f2⟩ := xNextC_F h
        have hall : ∀ o' ∈ outs, o' = out := fun o' ho' => by have := h1 o' ho'; simpa using this
        refine ⟨rfl, rd, h2.sees, ?_, ?_, ?_⟩
        · intro o' ho'
          simp only [List.mem_singleton] at ho'
          subst ho'; exact f1
        · intro nm hsm B g w a hr hrd next Q hn
          refine h2.op nm hsm B g w a hr hrd next Q fun p hp g' w' v a1 a2 a3 => ?_
          obtain ⟨o', ho', rfl⟩ := List.mem_map.1 hp
          rw [hall o' ho'] at a1 a3
          exact hn _ (by simp) g' w' v a1 a2 a3
        · intro o' ho'
          simp only [List.mem_singleton] at ho'
          subst ho'; exact f2
  · rename_i x ho
    exact .inl (xEntry_ok ho h)
  · split at h
    · rename_i d hd
      rcases orE_or h with h | h
      · obtain ⟨out', h1, h2⟩ := xop_ok P Γ _ h
        cases h1
        exact .inl (h2.re hd)
      · exact .inl ((xopN_ok h).re hd)
    · rcases orE_or h with h | h
      · obtain ⟨out', h1, h2⟩ := xop_ok P Γ _ h
        cases h1
        exact .inl h2
      · exact .inl (xopN_ok h)
theorem guardU_ok {ops : Array Oper} {o : Oper} {st : XSt} {b : Bool} (h : guardU ops o st = some b) : Guard ops st.im o.guard b := by
  unfold guardU at h
  split at h
  · rename_i hg
    cases h; rw [hg]; exact .none
  · rename_i j want hg
    rw [hg]
    unfold guardSlot at h
    split at h
    · cases h
    · rename_i d hgs
      split at hgs
      · rename_i oj hoj
        split at h
        · rename_i b' hb
          cases h
          exact .some j d oj want b' hoj hgs (lk_sees hb)
        · rename_i v hv hlk
          cases hu : isUndef v with
          | false => simp [hu] at h
          | true =>
            simp only [hu, cond_true, Option.some.injEq] at h
            subst h
            have := lk_sees hlk
            rw [isUndef_eq hu] at this
            exact .undef j d oj want hoj hgs this
        · cases h
      · cases hgs
theorem xopsU_rw {S : Sig} {ops : Array Oper} {env0 : List (Nat × XV)} {s0 s : XSt} : ∀ (l : List Oper) (i : Nat) (n : Nat) (its : List It) (st : XSt), (∀ (j : Nat) o, l[j]? = some o → ops[i + j]? = some o) →
    InvU s0 st → xopsU P Γ own S.N ops false env0 l n its st = some s → Rw P S ops (List.range' i l.length) st.im (fun s' => s' = s.im ∧ InvU s0 s)
  | [], i, n, its, st, hl, hi, h => by
    rw [xopsU_nil] at h
    have h : st = s := by simpa [bsel] using h
    subst h
    exact Rw.done ⟨rfl, hi⟩
  | o :: rest, i, n, its, st, hl, hi, h => by
    have ho : ops[i]? = some o := hl 0 o rfl
    have hrest : ∀ (j : Nat) o, rest[j]? = some o → ops[i + 1 + j]? = some o := by
      intro j o' hj
      have := hl (j + 1) o' (by simpa using hj)
      rw [show i + 1 + j = i + (j + 1) by omega]; exact this
    rw [xopsU_cons] at h
    obtain ⟨hd, h⟩ := gd_some h
    obtain ⟨gb, hg, h⟩ := ob_some h
    simp only [List.length_cons, List.range'_succ]
    cases gb with
    | true =>
      replace h : (ob (stepU P Γ own false n o st) fun out => xopsU P Γ own S.N ops false env0 rest (n + 1) (its ++ [out.it o]) (out.stU o st)) = some s := h
      obtain ⟨out, hout, h⟩ := ob_some h
      rcases stepU_ok hout with hok | ⟨_, rd, hok⟩
      · exact Rw.opF ho (guardU_ok hg) hok hd (xopsU_rw rest (i + 1) _ _ _ hrest (hi.opU hok) h)
      · have hF := hok.F out (by simp)
        have e : out.stU o st = out.st o st := by unfold Out.stU; rw [hF]
        rw [e] at h
        refine Rw.demon ho (guardU_ok hg) hok.op (sees_all hok.sees) hd ?_
        intro p hp
        simp only [List.map_cons, List.map_nil, List.mem_singleton] at hp
        subst hp
        show Rw P S ops _ ⟨putEnv o.dst out.res.a st.im.env, out.X⟩ _
        rw [← Out.st_im]
        exact xopsU_rw rest (i + 1) _ _ _ hrest (hi.dem (fun k x => hok.ol out (by simp) k x)) h
    | false =>
      replace h : xopsU P Γ own S.N ops false env0 rest (n + 1) (its ++ [skipIt o]) (skipSt o st) = some s := h
      refine Rw.skip ho (guardU_ok hg) hd ?_
      have := xopsU_rw rest (i + 1) _ _ _ hrest hi.skip h
      rw [skipSt_im] at this
      exact this
theorem xopsU_dw {S : Sig} {ops : Array Oper} {env0 : List (Nat × XV)} {s0 s : XSt} {K : St → Prop} (hK : InvU s0 s → K s.im) : ∀ (l : List Oper) (i : Nat) (n : Nat) (its : List It) (st : XSt), (∀ (j : Nat) o, l[j]? = some o → ops[i + j]? = some o) →
    InvU s0 st → xopsU P Γ own S.N ops true env0 l n its st = some s → Dw P S ops i l.length st.im its (imEnv env0) K
  | [], i, n, its, st, hl, hi, h => by
    rw [xopsU_nil] at h
    obtain ⟨hd, h⟩ := gd_some (show gd (drawF ops env0 its) (some st) = some s from h)
    cases h
    exact Dw.fin (drawF_ok hd) (hK hi)
  | o :: rest, i, n, its, st, hl, hi, h => by
    have ho : ops[i]? = some o := hl 0 o rfl
    have hrest : ∀ (j : Nat) o, rest[j]? = some o → ops[i + 1 + j]? = some o := by
      intro j o' hj
      have := hl (j + 1) o' (by simpa using hj)
      rw [show i + 1 + j = i + (j + 1) by omega]; exact this
    rw [xopsU_cons] at h
    obtain ⟨hd, h⟩ := gd_some h
    obtain ⟨gb, hg, h⟩ := ob_some h
    simp only [List.length_cons]
    cases gb with
    | true =>
          replace h : (ob (stepU P Γ own true n o st) fun out => xopsU P Γ own S.N ops true env0 rest (n + 1) (its ++ [out.it o]) (out.st o st)) = some s := h
          obtain ⟨out, hout, h⟩ := ob_some h
          have hok : OpOk P o st out := by
            rcases stepU_ok hout with hok | ⟨hf, _⟩
            · exact hok
            · cases hf
          replace hg := guardU_ok hg
          have ih := xopsU_dw hK rest (i + 1) _ _ _ hrest (hi.op hok) h
          rw [Out.st_im] at ih
          have hop := hok.op
          split at hop
          · rename_i he
            obtain ⟨a1, a2, a3, a4⟩ := hop
            refine Dw.op ho hg a4 (sees_all hok.sees) hd ?_
            have e : out.it o = ⟨o, true, imRd out.rd, .none, [], out.res.a⟩ := by simp only [Out.it, he, XEff.e, a3]
            rw [e] at ih
            have e2 : out.X = st.im.X := by simp only [Out.X, XSt.im, XSt.X, a1, a2]
            rw [e2] at ih
            exact ih
          · rename_i ks he
            obtain ⟨a1, a2, a3, a4⟩ := hop
            refine Dw.look (ks := ks) ho hg a4 (sees_all hok.sees) hd ?_
            have e : out.it o = ⟨o, true, imRd out.rd, .look ks, [], out.res.a⟩ := by simp only [Out.it, he, XEff.e, a3]
            rw [e] at ih
            have e2 : out.X = st.im.X := by simp only [Out.X, XSt.im, XSt.X, a1, a2]
            rw [e2] at ih
            exact ih
          · rename_i k c he
            obtain ⟨a1, a2, a3, a4⟩ := hop
            refine Dw.put (k := k) (c := c.o) ho hg a4 (sees_all hok.sees) hd ?_
            have e : out.it o = ⟨o, true, imRd out.rd, .put k c.o, [], out.res.a⟩ := by simp only [Out.it, he, XEff.e, a3]
            rw [e] at ih
            have e2 : out.X = ⟨Ab.setObj k c.o st.im.X.objs, st.im.X.live⟩ := by simp only [Out.X, XSt.im, XSt.X, a1, a2, im_xset]
            rw [e2] at ih
            exact ih
          · rename_i he
            refine Dw.eff ho hg hop (sees_all hok.sees) hd ?_
            have e : out.it o = ⟨o, true, imRd out.rd, .all out.X, out.F, out.res.a⟩ := by simp only [Out.it, he, XEff.e]
            rw [e] at ih
            exact ih
          · rename_i he
            obtain ⟨a1, a4⟩ := hop
            have e2 : out.X = ⟨st.im.X.objs, out.live⟩ := by simp only [Out.X, XSt.im, XSt.X, a1]
            rw [e2] at a4 ih
            refine Dw.lab (L := out.live) ho hg a4 (sees_all hok.sees) hd ?_
            have e : out.it o = ⟨o, true, imRd out.rd, .lab out.live, out.F, out.res.a⟩ := by simp only [Out.it, he, XEff.e, Out.X]
            rw [e] at ih
            exact ih
          · rename_i k c he
            obtain ⟨a1, a4⟩ := hop
            have e2 : out.X = ⟨Ab.setObj k c.o st.im.X.objs, out.live⟩ := by simp only [Out.X, XSt.im, XSt.X, a1, im_xset]
            rw [e2] at a4 ih
            refine Dw.putl (L := out.live) ho hg a4 (sees_all hok.sees) hd ?_
            have e : out.it o = ⟨o, true, imRd out.rd, .putl k c.o out.live, out.F, out.res.a⟩ := by simp only [Out.it, he, XEff.e, Out.X]
            rw [e] at ih
            exact ih
          · rename_i os he
            obtain ⟨a1, a4⟩ := hop
            have e2 : out.X = ⟨imObjs os ++ st.im.X.objs, out.live⟩ := by simp only [Out.X, XSt.im, XSt.X, a1, imObjs, List.map_append]
            rw [e2] at a4 ih
            refine Dw.new (L := out.live) ho hg a4 (sees_all hok.sees) hd ?_
            have e : out.it o = ⟨o, true, imRd out.rd, .new (imObjs os) out.live, out.F, out.res.a⟩ := by simp only [Out.it, he, XEff.e, Out.X]
            rw [e] at ih
            exact ih
    | false =>
        replace h : xopsU P Γ own S.N ops true env0 rest (n + 1) (its ++ [skipIt o]) (skipSt o st) = some s := h
        refine Dw.skip ho (guardU_ok hg) hd ?_
        have := xopsU_dw hK rest (i + 1) _ _ _ hrest hi.skip h
        rw [skipSt_im] at this
        exact this
theorem execU_sound (hm : P.follows .mixedOrders = true) {S : Sig} {N : Nat} : ∀ (c : Code) (lp : Bool) (st s0 s : XSt) (e : Exit), InvU s0 st → execU P Γ own S.N N c lp st = some (e, s) →
    AWp P S c (fun e' s' => e' = e ∧ s' = s.im ∧ InvU s0 s) st.im := by
  intro c
  induction c with
  | skip => intro lp st s0 s e hi h; simp only [execU, execA, Option.some.injEq, Prod.mk.injEq] at h; obtain ⟨rfl, rfl⟩ := h; exact awp_skip ⟨rfl, rfl, hi⟩
  | label l => intro lp st s0 s e hi h; simp only [execU, execA, Option.some.injEq, Prod.mk.injEq] at h; obtain ⟨rfl, rfl⟩ := h; exact awp_label ⟨rfl, rfl, hi⟩
  | exit id => intro lp st s0 s e hi h; simp only [execU, execA, Option.some.injEq, Prod.mk.injEq] at h; obtain ⟨rfl, rfl⟩ := h; exact awp_exit ⟨rfl, rfl, hi⟩
  | ret => intro lp st s0 s e hi h; simp only [execU, execA, Option.some.injEq, Prod.mk.injEq] at h; obtain ⟨rfl, rfl⟩ := h; exact awp_ret ⟨rfl, rfl, hi⟩
  | region id ops draw =>
    intro lp st s0 s e hi h
    simp only [execU, execA] at h
    · obtain ⟨s', hs, h⟩ := ob_some h
      simp only [Option.some.injEq, Prod.mk.injEq] at h
      obtain ⟨rfl, rfl⟩ := h
      refine awp_tidy ?_
      cases draw with
      | false =>
        have := xopsU_rw (S := S) ops.toList 0 _ [] st (range_spec ops) hi hs
        refine awp_rw (n := ops.toList.length) (by simp) ?_
        rw [List.range_eq_range']
        intro B g w a Q h1 h2
        exact this B g w a Q h1 fun g' w' a' st' hk => h2 g' w' a' st' ⟨rfl, hk.1, hk.2⟩
      | true =>
        have := xopsU_dw (S := S) (K := fun s'' => Exit.normal = Exit.normal ∧ s'' = s'.im ∧ InvU s0 s') (fun hi => ⟨rfl, rfl, hi⟩) ops.toList 0 _ [] st (range_spec ops) hi hs
        exact awp_dw (Q := fun e s'' => e = .normal ∧ s'' = s'.im ∧ InvU s0 s') ops.toList.length hm this
  | seq a b iha ihb =>
    intro lp st s0 s e hi h
    simp only [execU, execA] at h
    split at h
    · rename_i s1 h1
      refine awp_seq (awp_mono (iha lp st s0 s1 .normal hi h1) ?_)
      rintro e' s' ⟨rfl, rfl, hi'⟩
      exact ihb lp s1 s0 s e hi' h
    · rename_i hne
      refine awp_seq (awp_mono (iha lp st s0 s e hi h) ?_)
      rintro e' s' ⟨rfl, rfl, hi'⟩
      cases e' with
      | normal => exact absurd h (hne s)
      | _ => exact ⟨rfl, rfl, hi'⟩
  | cond c a b iha ihb =>
    intro lp st s0 s e hi h
    simp only [execU, execA] at h
    split at h
    · rename_i v hv
      refine awp_cond (b := v) (xeval_sees hv) (fun hb => ?_) (fun hb => ?_)
      · subst hb
        exact iha lp st s0 s e hi h
      · subst hb
        exact ihb lp st s0 s e hi h
    · cases h
  | block id c ih =>
    intro lp st s0 s e hi h
    simp only [execU, execA] at h
    split at h
    · rename_i j s1 h1
      refine awp_block (awp_mono (ih lp st s0 s1 (.exit j) hi h1) ?_)
      rintro e' s' ⟨rfl, rfl, hi'⟩
      simp only [exitIs] at h
      simp only [blockQ]
      cases hb : Nat.beq j id with
      | true =>
        simp only [hb, cond_true, Option.some.injEq, Prod.mk.injEq] at h
        obtain ⟨rfl, rfl⟩ := h
        rw [if_pos (Nat.eq_of_beq_eq_true hb)]
        exact ⟨rfl, rfl, hi'⟩
      | false =>
        simp only [hb, cond_false, Option.some.injEq, Prod.mk.injEq] at h
        obtain ⟨rfl, rfl⟩ := h
        rw [if_neg (Nat.ne_of_beq_eq_false hb)]
        exact ⟨rfl, rfl, hi'⟩
    · rename_i hne
      refine awp_block (awp_mono (ih lp st s0 s e hi h) ?_)
      rintro e' s' ⟨rfl, rfl, hi'⟩
      cases e' with
      | exit j => exact absurd h (hne j s)
      | _ => exact ⟨rfl, rfl, hi'⟩
  | loop b ih =>
    intro lp st s0 s e hi h
    simp only [execU, execA] at h
    refine awp_loop (fun n s' => ∃ st', s' = st'.im ∧ InvU s0 st' ∧ loopU (execU P Γ own S.N N b true) n st' = some (e, s)) N ⟨st, rfl, hi, h⟩ ?_
    rintro n s' ⟨st', rfl, hi', hn⟩
    cases n with
    | zero => simp [loopU_zero] at hn
    | succ n =>
      simp only [loopU_succ] at hn
      split at hn
      · rename_i s1 h1
        refine awp_mono (ih true st' s0 s1 .normal hi' h1) ?_
        rintro e' s' ⟨rfl, rfl, hi1⟩
        exact ⟨n, Nat.lt_succ_self n, s1, rfl, hi1, hn⟩
      · rename_i hne
        refine awp_mono (ih true st' s0 s e hi' hn) ?_
        rintro e' s' ⟨rfl, rfl, hi1⟩
        cases e' with
        | normal => exact absurd hn (hne s)
        | _ => exact ⟨rfl, rfl, hi1⟩
  | _ =>
    intros
    simp_all [execU, execA]
end
end Go.Xl
