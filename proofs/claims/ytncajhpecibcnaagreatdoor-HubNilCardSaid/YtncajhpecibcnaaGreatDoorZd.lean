import Derived.Test.YtncajhpecibcnaaGreatDoorZc
set_option linter.unusedVariables false
set_option linter.unusedSimpArgs false
set_option linter.unnecessarySimpa false
namespace Go.Xl
open Go.Ab
noncomputable abbrev Ents (kt vt : Ty) : Type := List (Nat × kt.T × vt.T)
noncomputable def mget {kt vt : Ty} (a : kt.T) : Ents kt vt → Option vt.T
  | [] => none
  | e :: r => bif kt.eqv a e.2.1 then some e.2.2 else mget a r
noncomputable def mput {kt vt : Ty} (a : kt.T) (v : vt.T) (clock : Nat) : Ents kt vt → Ents kt vt
  | [] => [(clock, a, v)]
  | e :: r => bif kt.eqv a e.2.1 then (e.1, a, v) :: r else e :: mput a v clock r
noncomputable def mclk {kt vt : Ty} (a : kt.T) (es : Ents kt vt) (clock : Nat) : Nat := match mget a es with | some _ => clock | none => clock + 1
noncomputable def mdel {kt vt : Ty} (a : kt.T) : Ents kt vt → Ents kt vt
  | [] => []
  | e :: r => bif kt.eqv a e.2.1 then r else e :: mdel a r
section
variable {kt vt : Ty}
theorem mget_kidx (a : kt.T) : ∀ es : Ents kt vt, mget a es = (kidx kt a (es.map (·.2.1))).bind fun j => es[j]?.map (·.2.2)
  | [] => rfl
  | e :: r => by
    simp only [mget, List.map_cons, kidx]
    cases kt.eqv a e.2.1 with
    | true => rfl
    | false =>
      simp only [cond_false, Bool.false_eq_true, if_false, mget_kidx a r]
      cases kidx kt a (r.map (·.2.1)) <;> simp
theorem mput_none {a : kt.T} {v : vt.T} {clock : Nat} : ∀ {es : Ents kt vt}, kidx kt a (es.map (·.2.1)) = none → mput a v clock es = es ++ [(clock, a, v)]
  | [], _ => rfl
  | e :: r, h => by
    simp only [List.map_cons, kidx] at h
    split at h
    · cases h
    · rename_i hq
      simp only [Option.map_eq_none_iff] at h
      simp only [mput, Bool.not_eq_true] at hq ⊢
      rw [hq, cond_false, mput_none h]; rfl
theorem mput_some {a : kt.T} {v : vt.T} {clock : Nat} : ∀ {es : Ents kt vt} {j : Nat}, kidx kt a (es.map (·.2.1)) = some j → mput a v clock es = es.modify j fun e => (e.1, a, v)
  | [], j, h => by simp [kidx] at h
  | e :: r, j, h => by
    simp only [List.map_cons, kidx] at h
    split at h
    · rename_i hq
      cases h
      simp only [mput, hq, cond_true]; rfl
    · rename_i hq
      obtain ⟨i, hi, rfl⟩ := Option.map_eq_some_iff.1 h
      simp only [mput, Bool.not_eq_true] at hq ⊢
      rw [hq, cond_false, mput_some hi]; rfl
theorem mdel_none {a : kt.T} : ∀ {es : Ents kt vt}, kidx kt a (es.map (·.2.1)) = none → mdel a es = es
  | [], _ => rfl
  | e :: r, h => by
    simp only [List.map_cons, kidx] at h
    split at h
    · cases h
    · rename_i hq
      simp only [Option.map_eq_none_iff] at h
      simp only [mdel, Bool.not_eq_true] at hq ⊢
      rw [hq, cond_false, mdel_none h]
theorem mdel_some {a : kt.T} : ∀ {es : Ents kt vt} {j : Nat}, kidx kt a (es.map (·.2.1)) = some j → mdel a es = es.eraseIdx j
  | [], j, h => by simp [kidx] at h
  | e :: r, j, h => by
    simp only [List.map_cons, kidx] at h
    split at h
    · rename_i hq
      cases h
      simp only [mdel, hq, cond_true]; rfl
    · rename_i hq
      obtain ⟨i, hi, rfl⟩ := Option.map_eq_some_iff.1 h
      simp only [mdel, Bool.not_eq_true] at hq ⊢
      rw [hq, cond_false, mdel_some hi]; rfl
theorem mclk_kidx (a : kt.T) (es : Ents kt vt) (clock : Nat) : mclk a es clock = match kidx kt a (es.map (·.2.1)) with | some _ => clock | none => clock + 1 := by
  unfold mclk
  rw [mget_kidx]
  cases h : kidx kt a (es.map (·.2.1)) with
  | none => rfl
  | some j =>
    have hj := kidx_lt h
    simp only [List.length_map] at hj
    simp [hj]
noncomputable abbrev mapO (kt vt : Ty) (es : Ents kt vt) (clock : Nat) : Ob := (XOb.map kt vt es clock).o
structure MapW (kt vt : Ty) (g : Gh) (w : World) (b : Nat) (es : Ents kt vt) (clock : Nat) (as : Array MapEntry) : Prop where
  heap : w.heap[b]? = some (.map as clock)
  len : es.length = as.size
  keys : as.toList.map (·.key) = (es.map (·.2.1)).map kt.kval
  at' : ∀ (i : Nat) x e, es[i]? = some x → as[i]? = some e → e.born = x.1 ∧ e.key = kt.kval x.2.1 ∧ RD g.γ w (vt.dv x.2.2) e.val
  lt : ∀ p ∈ es, p.1 < clock
  nodup : (es.map (·.1)).Nodup
theorem mapW_of {g : Gh} {w : World} {b : Nat} {es : Ents kt vt} {clock : Nat} (hk : kt.key = true) (h : ObRel g w b (mapO kt vt es clock)) : ∃ as, MapW kt vt g w b es clock as := by
  cases h with
  | map l c as h1 h2 h3 h4 h5 =>
    have hat : ∀ (i : Nat) x e, es[i]? = some x → as[i]? = some e → e.born = x.1 ∧ e.key = kt.kval x.2.1 ∧ RD g.γ w (vt.dv x.2.2) e.val := by
      intro i x e hx he
      have := h3 i (x.1, dval (kt.dv x.2.1), vt.dv x.2.2) e (by rw [List.getElem?_map, hx]; rfl) he
      rw [kt.kval_dv _ hk] at this
      exact this
    have hlen : es.length = as.size := by simpa using h2
    refine ⟨as, h1, hlen, ?_, hat, ?_, ?_⟩
    · apply List.ext_getElem?
      intro i
      rw [List.getElem?_map, List.getElem?_map, List.getElem?_map, Array.getElem?_toList]
      by_cases hi : i < as.size
      · have hi' : i < es.length := by omega
        rw [Array.getElem?_eq_getElem hi, List.getElem?_eq_getElem hi']
        have := (hat i es[i] as[i] (by simp [hi']) (by simp [hi])).2.1
        simp [this]
      · rw [Array.getElem?_eq_none (by omega), List.getElem?_eq_none (by omega)]; rfl
    · intro p hp
      exact h4 (p.1, dval (kt.dv p.2.1), vt.dv p.2.2) (List.mem_map_of_mem (f := fun e : Nat × kt.T × vt.T => (e.1, dval (kt.dv e.2.1), vt.dv e.2.2)) hp)
    · simpa [List.map_map, Function.comp_def] using h5
theorem MapW.rel {g : Gh} {w : World} {b : Nat} {es : Ents kt vt} {clock : Nat} {as : Array MapEntry} (hk : kt.key = true) (h : MapW kt vt g w b es clock as) : ObRel g w b (mapO kt vt es clock) := by
  refine .map _ clock as h.heap (by simpa using h.len) ?_ ?_ ?_
  · intro i x e hx he
    rw [List.getElem?_map, Option.map_eq_some_iff] at hx
    obtain ⟨y, hy, rfl⟩ := hx
    have := h.at' i y e hy he
    simp only [kt.kval_dv _ hk]
    exact this
  · intro p hp
    rw [List.mem_map] at hp
    obtain ⟨y, hy, rfl⟩ := hp
    exact h.lt y hy
  · simpa [List.map_map, Function.comp_def] using h.nodup
end
section
variable {P : Program} {o : Oper} {X : Store} {kt vt : Ty}
theorem op_makeMap {t : TypeId} (k : Nat) (ho : o.op = .makeMap t none) (hk : X.objs.lookup k = none) (hX : objsFree [k] X = true) :
    OpT P o [] X ⟨(k, mapO kt vt [] 0) :: X.objs, X.live⟩ [k] (.mp k) := by
  intro nm hsm B g w a hr hrd next Q hn
  obtain ⟨h1, h2⟩ := hr.newObj hk hX (.map #[] 0) (mapO kt vt [] 0) (by
    intro g' w' _ hw
    exact .map [] 0 #[] hw rfl (by simp) (by simp) (by simp))
  unfold Oper.wp
  have : (execOp a.eval o).run P w = .ok (.value (.map (some w.heap.size))) (w.alloc (.map #[] 0)) := by
    simp [execOp, ho, Instr.makeMap]
  rw [this]
  refine hn _ _ _ h1 h2 (.nm _ _ _ ?_)
  show Value.map (some w.heap.size) = .map (some (upd g.ρ k w.heap.size k))
  rw [upd_same]
structure MapI (P : Program) (t : TypeId) (kt vt : Ty) (e : TypeId) : Prop where
  und : ∃ k, P.underlying t = some (.map k e) ∧ KeyI P k kt
theorem MapW.find {g : Gh} {w : World} {b : Nat} {es : Ents kt vt} {clock : Nat} {as : Array MapEntry} {k : TypeId} (h : MapW kt vt g w b es clock as) (hk : KeyI P k kt) (a : kt.T) :
    (Instr.findKey k (kt.kval a) as.toList).run P w = .ok ((kidx kt a (es.map (·.2.1))).bind fun j => as[j]?.map fun e => (j, e.val)) w := by
  have := hk.find a w (es.map (·.2.1)) as.toList h.keys
  simpa [Array.getElem?_toList] using this
noncomputable def isAggV : Value → Bool
  | .agg _ => true
  | _ => false
theorem zero_rd {e : TypeId} {l : List Value} {z : vt.T} {i : TypeInfo} {zv : Value} {γ : Nat → Nat} {w : World} (h : zeroT P e vt = some (l, z)) (hi : P.info? e = some i) (hz : i.zero = some zv) (hg : isAggV zv = vt.agg) : RD γ w (vt.dv z) zv := by
  obtain ⟨h1, h2⟩ := zeroT_ok h
  obtain ⟨i', zv', e1, e2, e3⟩ := zeroVs_parts h1
  rw [hi] at e1
  cases e1
  rw [hz] at e2
  cases e2
  cases hv : vt.agg with
  | true =>
    rw [vt.dv_agg z hv]
    rw [hv] at hg
    cases zv with
    | agg vs =>
      have e4 : vs.toList = l := e3
      have hl := h2.length
      refine .agg _ vs ?_ fun j c u hc hu => ?_
      · rw [← hl, List.length_map, ← e4, Array.length_toList]
      · obtain ⟨x, hx, hle⟩ := h2.get hc
        rw [List.getElem?_map, ← e4, Array.getElem?_toList, hu] at hx
        simp only [Option.map_some, Option.some.injEq] at hx
        subst hx
        exact hle _ _ _ (.sc u)
    | _ => simp [isAggV] at hg
  | false =>
    rw [hv] at hg
    have hc : zv.cells = #[zv] := cells_of_notAgg fun cs he => by subst he; simp [isAggV] at hg
    rw [hc] at e3
    have e4 : l = [zv] := by simpa using e3.symm
    subst e4
    have h3 := vt.dv_one z hv
    rw [h3] at h2
    cases h2 with
    | cons h4 _ => exact h4 _ _ _ (.sc zv)
noncomputable def lookRes {vt : Ty} (ok : Bool) (x : Option vt.T) (z : vt.T) : AV := match x with
  | some v => if ok then .tup [.d (vt.dv v), .d (.bool true)] else .d (vt.dv v)
  | none => if ok then .tup [.d (vt.dv z), .d (.bool false)] else .d (vt.dv z)
theorem lookRes_ra {g : Gh} {w : World} {ok : Bool} {v : vt.T} {u : Value} {b : Bool} (h : RD g.γ w (vt.dv v) u) : RA g w (if ok then .tup [.d (vt.dv v), .d (.bool b)] else .d (vt.dv v)) (if ok then .tuple #[u, .bool b] else u) := by
  cases ok with
  | false => exact .d _ _ h
  | true =>
    refine .tup _ _ rfl fun i c x hc hx => ?_
    rcases i with _ | _ | i
    · simp at hc hx; subst hc; subst hx; exact .d _ _ h
    · simp at hc hx; subst hc; subst hx; exact .ofSc _ _ _
    · simp at hc
theorem op_lookup {t e : TypeId} {x y : Operand} {ok : Bool} {k : Nat} {es : Ents kt vt} {clock : Nat} {a : kt.T} {l : List Value} {z : vt.T} {i : TypeInfo} {zv : Value} (ho : o.op = .lookup t x y ok) (hm : MapI P t kt vt e)
    (hz : zeroT P e vt = some (l, z)) (hi : P.info? e = some i) (hzv : i.zero = some zv) (hg : isAggV zv = vt.agg) (hk : X.objs.lookup k = some (mapO kt vt es clock)) :
    OpT P o [(x, .mp k), (y, .d (kt.dv a))] X X [] (lookRes ok (mget a es) z) :=
  .quiet fun _ _ g w ac hr hrd => by
    obtain ⟨kty, hu, hK⟩ := hm.und
    have h1 := (rd0 hrd).mp_inv
    have h2 : ac.eval y = kt.kval a := by
      have := rd1 hrd
      cases this with
      | d _ _ h => exact kt.kval_inv hK.key h
    simp only at h1
    obtain ⟨as, hw⟩ := mapW_of hK.key (hr.objs k _ hk)
    have hf := hw.find hK a
    have hc := hK.check as.isEmpty 9998 a w
    have hget := MapKept.run_getObj_map (P := P) hw.heap
    rw [mget_kidx]
    cases hj : kidx kt a (es.map (·.2.1)) with
    | none =>
      rw [hj] at hf
      simp only [Option.bind_none] at hf
      refine ⟨if ok then .tuple #[zv, .bool false] else zv, ?_, lookRes_ra (zero_rd hz hi hzv hg)⟩
      simp only [execOp, ho, h1, h2, Instr.lookup, Sem.run_bind, run_underlying hu, Result.andThen_ok, Sem.run_pure, hget, hc, hf]
      simp [zeroValue, typeInfo, hi, hzv]
    | some j =>
      have hj' := kidx_lt hj
      rw [List.length_map] at hj'
      have hja : j < as.size := by rw [← hw.len]; exact hj'
      rw [hj] at hf
      simp only [Option.bind_some, Array.getElem?_eq_getElem hja, Option.map_some] at hf
      simp only [Option.bind_some, List.getElem?_eq_getElem hj', Option.map_some]
      refine ⟨if ok then .tuple #[as[j].val, .bool true] else as[j].val, ?_, lookRes_ra (hw.at' j es[j] as[j] (by simp [hj']) (by simp [hja])).2.2⟩
      simp [execOp, ho, h1, h2, Instr.lookup, Sem.run_bind, run_underlying hu, Result.andThen_ok, Sem.run_pure, hget, hc, hf]
theorem MapW.mono {g g' : Gh} {w w' : World} {b : Nat} {es : Ents kt vt} {clock : Nat} {as : Array MapEntry} (h : MapW kt vt g w b es clock as) (hb : w'.heap[b]? = w.heap[b]?) (hle : LeD g.γ w g'.γ w') : MapW kt vt g' w' b es clock as :=
  ⟨hb.trans h.heap, h.len, h.keys, fun i x e hx he => ⟨(h.at' i x e hx he).1, (h.at' i x e hx he).2.1, (h.at' i x e hx he).2.2.mono hle⟩, h.lt, h.nodup⟩
theorem run_setObj_m {w : World} {b : Nat} {as : Array MapEntry} {clock : Nat} (hb : w.heap[b]? = some (.map as clock)) (ob : Obj) : (setObj b ob).run P w = .ok () { w with heap := w.heap.setIfInBounds b ob } := MapKept.run_setObj_map ob hb
theorem HR.writeMap {nm : List Nat} {B : Base} {g : Gh} {w : World} {X : Store} (hr : HR nm B g w X) {k : Nat} {es es' : Ents kt vt} {clock clock' : Nat} {as as' : Array MapEntry} (hkey : kt.key = true) (hk : X.objs.lookup k = some (mapO kt vt es clock))
    (hw : MapW kt vt g w (g.ρ k) es clock as)
    (hn : ∀ w', Trans [] g w g w' → w'.heap[g.ρ k]? = some (.map as' clock') → MapW kt vt g w' (g.ρ k) es' clock' as') :
    HR nm B g { w with heap := w.heap.setIfInBounds (g.ρ k) (.map as' clock') } ⟨Ab.setObj k (mapO kt vt es' clock') X.objs, X.live⟩ ∧ Trans [] g w g { w with heap := w.heap.setIfInBounds (g.ρ k) (.map as' clock') } := by
  have hlt : g.ρ k < w.heap.size := (Array.getElem?_eq_some_iff.1 hw.heap).1
  exact hr.write (w' := { w with heap := w.heap.setIfInBounds (g.ρ k) (.map as' clock') }) (o' := mapO kt vt es' clock') hk (by simp) ⟨rfl, rfl, rfl, Nat.le_refl _⟩
    (by intro b hb'; simp [Array.getElem?_setIfInBounds, Ne.symm hb']) (fun ht => (hn _ ht (by simp [Array.getElem?_setIfInBounds, hlt])).rel hkey) (by
      intro sh hsh
      simp [World.shape?, hw.heap] at hsh)
theorem eraseIdx_map' {α β : Type} (f : α → β) : ∀ (l : List α) (k : Nat), (l.map f).eraseIdx k = (l.eraseIdx k).map f
  | [], k => by cases k <;> rfl
  | x :: r, 0 => rfl
  | x :: r, k + 1 => by simp [eraseIdx_map' f r k]
theorem nodup_modify {α : Type} (f : α → Nat) (g : α → α) (hfg : ∀ x, f (g x) = f x) : ∀ (l : List α) (j : Nat), ((l.modify j g).map f) = l.map f
  | [], j => by cases j <;> rfl
  | x :: r, 0 => by simp [hfg]
  | x :: r, j + 1 => by simp [nodup_modify f g hfg r j]
theorem op_mapUpdate {t e : TypeId} {x y u : Operand} {k : Nat} {es : Ents kt vt} {clock : Nat} {a : kt.T} {v : vt.T} (ho : o.op = .mapUpdate t x y u ∨ o.op = .insert t x y u) (hm : MapI P t kt vt e)
    (hk : X.objs.lookup k = some (mapO kt vt es clock)) :
    OpT P o [(x, .mp k), (y, .d (kt.dv a)), (u, .d (vt.dv v))] X ⟨Ab.setObj k (mapO kt vt (mput a v clock es) (mclk a es clock)) X.objs, X.live⟩ [] (.d (.sc undef)) := by
  intro nm hsm B g w ac hr hrd next Q hn
  obtain ⟨kty, hu, hK⟩ := hm.und
  have h1 := (rd0 hrd).mp_inv
  have h2 : ac.eval y = kt.kval a := by
    have := rd1 hrd
    cases this with
    | d _ _ h => exact kt.kval_inv hK.key h
  have h3 : RD g.γ w (vt.dv v) (ac.eval u) := by
    have := rd2 hrd
    cases this with
    | d _ _ h => exact h
  simp only at h1
  obtain ⟨as, hw⟩ := mapW_of hK.key (hr.objs k _ hk)
  have hf := hw.find hK a
  have hc := hK.check false 9998 a w
  have hst := hK.stays a w
  have hget := MapKept.run_getObj_map (P := P) hw.heap
  have hset := run_setObj_m (P := P) hw.heap
  have hrun : ∀ w', (Instr.mapUpdate t (ac.eval x) (ac.eval y) (ac.eval u)).run P w = .ok () w' → (execOp ac.eval o).run P w = .ok .skip w' := by
    intro w' h
    rcases ho with ho | ho <;> simp [execOp, ho, h]
  unfold Oper.wp
  have ec := mclk_kidx a es clock
  cases hj : kidx kt a (es.map (·.2.1)) with
  | none =>
    rw [hj] at hf
    simp only [Option.bind_none] at hf
    rw [hj] at ec
    simp only at ec
    rw [ec, mput_none hj] at hn
    obtain ⟨r1, r2⟩ := HR.writeMap hr (es' := es ++ [(clock, a, v)]) (clock' := clock + 1) (as' := as.push { key := kt.kval a, val := ac.eval u, born := clock }) hK.key hk hw (by
      intro w' ht hb'
      refine ⟨hb', by simp [hw.len], by simp [hw.keys], ?_, ?_, ?_⟩
      · intro i q m hq hm'
        by_cases hi : i < es.length
        · rw [List.getElem?_append_left hi] at hq
          rw [Array.getElem?_push, if_neg (by rw [← hw.len]; omega)] at hm'
          have := hw.at' i q m hq hm'
          exact ⟨this.1, this.2.1, this.2.2.mono ht.le⟩
        · rw [List.getElem?_append_right (by omega)] at hq
          have hi0 : i = es.length := by
            by_cases h0 : i - es.length = 0
            · omega
            · rw [List.getElem?_eq_none (by simp; omega)] at hq; cases hq
          subst hi0
          simp at hq
          rw [hw.len] at hm'
          simp at hm'
          subst hq; subst hm'
          exact ⟨rfl, rfl, h3.mono ht.le⟩
      · intro p hp
        rcases List.mem_append.1 hp with hp | hp
        · have := hw.lt p hp; omega
        · simp at hp; subst hp; exact Nat.lt_succ_self _
      · rw [List.map_append, List.nodup_append]
        refine ⟨hw.nodup, by simp, ?_⟩
        intro p hp q hq
        simp at hq
        subst hq
        obtain ⟨y', hy', rfl⟩ := List.mem_map.1 hp
        have := hw.lt y' hy'
        omega)
    have e1 : (Instr.mapUpdate t (ac.eval x) (ac.eval y) (ac.eval u)).run P w = .ok () { w with heap := w.heap.setIfInBounds (g.ρ k) (.map (as.push { key := kt.kval a, val := ac.eval u, born := clock }) (clock + 1)) } := by
      simp only [Instr.mapUpdate, h1, h2, Sem.run_bind, run_underlying hu, Result.andThen_ok, hget, hc, hf, hset]
    rw [hrun _ e1]
    exact hn g _ undef r1 r2 (.ofSc _ _ _)
  | some j =>
    have hj' := kidx_lt hj
    rw [List.length_map] at hj'
    have hja : j < as.size := by rw [← hw.len]; exact hj'
    have hat := kidx_at hK.key hj
    rw [List.getElem?_map, List.getElem?_eq_getElem hj'] at hat
    simp only [Option.map_some, Option.some.injEq] at hat
    have hkj : as[j].key = kt.kval a := by rw [(hw.at' j es[j] as[j] (by simp [hj']) (by simp [hja])).2.1, hat]
    rw [hj] at hf
    simp only [Option.bind_some, Array.getElem?_eq_getElem hja, Option.map_some] at hf
    rw [hj] at ec
    simp only at ec
    rw [ec, mput_some hj] at hn
    obtain ⟨r1, r2⟩ := HR.writeMap hr (es' := es.modify j fun q => (q.1, a, v)) (clock' := clock) (as' := as.modify j fun q => { q with key := kt.kval a, val := ac.eval u }) hK.key hk hw (by
      intro w' ht hb'
      have hent : ∀ (i : Nat) q m, (es.modify j fun q => (q.1, a, v))[i]? = some q → (as.modify j fun q => { q with key := kt.kval a, val := ac.eval u })[i]? = some m → m.born = q.1 ∧ m.key = kt.kval q.2.1 ∧ RD g.γ w' (vt.dv q.2.2) m.val := by
        intro i q m hq hm'
        rw [List.getElem?_modify] at hq
        rw [Array.getElem?_modify] at hm'
        by_cases hij : j = i
        · subst hij
          rw [List.getElem?_eq_getElem hj'] at hq
          rw [Array.getElem?_eq_getElem hja] at hm'
          simp at hq hm'
          subst hq; subst hm'
          exact ⟨(hw.at' j es[j] as[j] (by simp [hj']) (by simp [hja])).1, rfl, h3.mono ht.le⟩
        · rw [if_neg hij] at hm'
          simp only [hij, if_false] at hq
          have := hw.at' i q m (by simpa using hq) hm'
          exact ⟨this.1, this.2.1, this.2.2.mono ht.le⟩
      refine ⟨hb', by simp [hw.len], ?_, hent, ?_, ?_⟩
      · apply List.ext_getElem?
        intro i
        rw [List.getElem?_map, List.getElem?_map, List.getElem?_map, Array.getElem?_toList]
        by_cases hi : i < as.size
        · have hi' : i < es.length := by rw [hw.len]; exact hi
          have hA : i < (as.modify j fun q => { q with key := kt.kval a, val := ac.eval u }).size := by simpa using hi
          have hE : i < (es.modify j fun q => (q.1, a, v)).length := by simpa using hi'
          rw [Array.getElem?_eq_getElem hA, List.getElem?_eq_getElem hE]
          have := (hent i _ _ (List.getElem?_eq_getElem hE) (Array.getElem?_eq_getElem hA)).2.1
          simp only [Option.map_some, this]
        · rw [Array.getElem?_eq_none (by simpa using hi), List.getElem?_eq_none (by simp [hw.len]; omega)]; rfl
      · intro p hp
        have h5 : p.1 ∈ ((es.modify j fun q => (q.1, a, v)).map (·.1)) := List.mem_map_of_mem (f := (·.1)) hp
        rw [nodup_modify (fun q : Nat × kt.T × vt.T => q.1) (fun q : Nat × kt.T × vt.T => (q.1, a, v)) (fun _ => rfl) es j] at h5
        obtain ⟨q, hq, he⟩ := List.mem_map.1 h5
        rw [← he]; exact hw.lt q hq
      · rw [nodup_modify (fun q : Nat × kt.T × vt.T => q.1) (fun q : Nat × kt.T × vt.T => (q.1, a, v)) (fun _ => rfl) es j]; exact hw.nodup)
    have e1 : (Instr.mapUpdate t (ac.eval x) (ac.eval y) (ac.eval u)).run P w = .ok () { w with heap := w.heap.setIfInBounds (g.ρ k) (.map (as.modify j fun q => { q with key := kt.kval a, val := ac.eval u }) clock) } := by
      simp only [Instr.mapUpdate, h1, h2, Sem.run_bind, run_underlying hu, Result.andThen_ok, hget, hc, hf, Array.getElem?_eq_getElem hja, Option.map_some, Option.getD_some, hkj, hst, hset]
    rw [hrun _ e1]
    exact hn g _ undef r1 r2 (.ofSc _ _ _)
theorem op_delete {ts : Array TypeId} {t e : TypeId} {x y : Operand} {k : Nat} {es : Ents kt vt} {clock : Nat} {a : kt.T} (ho : o.op = .call { callee := .builtin .delete, args := #[x, y], argTypes := ts }) (h0 : ts[0]? = some t) (hm : MapI P t kt vt e)
    (hk : X.objs.lookup k = some (mapO kt vt es clock)) :
    OpT P o [(x, .mp k), (y, .d (kt.dv a))] X ⟨Ab.setObj k (mapO kt vt (mdel a es) clock) X.objs, X.live⟩ [] (.tup []) := by
  intro nm hsm B g w ac hr hrd next Q hn
  obtain ⟨kty, hu, hK⟩ := hm.und
  have h1 := (rd0 hrd).mp_inv
  have h2 : ac.eval y = kt.kval a := by
    have := rd1 hrd
    cases this with
    | d _ _ h => exact kt.kval_inv hK.key h
  simp only at h1
  obtain ⟨as, hw⟩ := mapW_of hK.key (hr.objs k _ hk)
  have hf := hw.find hK a
  have hc := hK.check as.isEmpty 9998 a w
  have hget := MapKept.run_getObj_map (P := P) hw.heap
  have hset := run_setObj_m (P := P) hw.heap
  have hrun : ∀ w', (Builtin.delete_ ts o.type #[ac.eval x, ac.eval y]).run P w = .ok (.tuple #[]) w' → (execOp ac.eval o).run P w = .ok (.value (.tuple #[])) w' := by
    intro w' h
    simp [execOp, ho, resolve, invoke, builtin, h]
  unfold Oper.wp
  cases hj : kidx kt a (es.map (·.2.1)) with
  | none =>
    rw [hj] at hf
    simp only [Option.bind_none] at hf
    rw [mdel_none hj] at hn
    obtain ⟨r1, r2⟩ := HR.writeMap hr (es' := es) (clock' := clock) (as' := as) hK.key hk hw (by
      intro w' ht hb'
      exact hw.mono (hb'.trans hw.heap.symm) ht.le)
    have e1 : (Builtin.delete_ ts o.type #[ac.eval x, ac.eval y]).run P w = .ok (.tuple #[]) { w with heap := w.heap.setIfInBounds (g.ρ k) (.map as clock) } := by
      simp only [Builtin.delete_, h0, h1, h2, List.getElem?_toArray, List.getElem?_cons_zero, List.getElem?_cons_succ, Sem.run_bind, run_underlying hu, Result.andThen_ok, hget, hc, hf, hset, Sem.run_pure]
    rw [hrun _ e1]
    exact hn g _ _ r1 r2 (.tup [] #[] rfl (by simp))
  | some j =>
    have hj' := kidx_lt hj
    rw [List.length_map] at hj'
    have hja : j < as.size := by rw [← hw.len]; exact hj'
    rw [hj] at hf
    simp only [Option.bind_some, Array.getElem?_eq_getElem hja, Option.map_some] at hf
    rw [mdel_some hj] at hn
    have hE : (as.eraseIdxIfInBounds j).toList = as.toList.eraseIdx j := by
      simp [Array.eraseIdxIfInBounds, hja]
    obtain ⟨r1, r2⟩ := HR.writeMap hr (es' := es.eraseIdx j) (clock' := clock) (as' := as.eraseIdxIfInBounds j) hK.key hk hw (by
      intro w' ht hb'
      refine ⟨hb', ?_, ?_, ?_, ?_, ?_⟩
      · have := congrArg List.length hE
        simp only [Array.length_toList] at this
        rw [this, List.length_eraseIdx, List.length_eraseIdx]
        have := hw.len
        simp only [Array.length_toList, this]
      · rw [hE, show (as.toList.eraseIdx j).map (·.key) = (as.toList.map (·.key)).eraseIdx j from (eraseIdx_map' ..).symm, hw.keys, eraseIdx_map', eraseIdx_map']
      · intro i q m hq hm'
        rw [← Array.getElem?_toList, hE] at hm'
        rw [List.getElem?_eraseIdx] at hq hm'
        split at hq
        · rw [if_pos ‹_›, Array.getElem?_toList] at hm'
          have := hw.at' i q m hq hm'
          exact ⟨this.1, this.2.1, this.2.2.mono ht.le⟩
        · rw [if_neg ‹_›, Array.getElem?_toList] at hm'
          have := hw.at' (i + 1) q m hq hm'
          exact ⟨this.1, this.2.1, this.2.2.mono ht.le⟩
      · intro p hp; exact hw.lt p (List.mem_of_mem_eraseIdx hp)
      · rw [← eraseIdx_map']; exact hw.nodup.sublist (List.eraseIdx_sublist _ _))
    have e1 : (Builtin.delete_ ts o.type #[ac.eval x, ac.eval y]).run P w = .ok (.tuple #[]) { w with heap := w.heap.setIfInBounds (g.ρ k) (.map (as.eraseIdxIfInBounds j) clock) } := by
      simp only [Builtin.delete_, h0, h1, h2, List.getElem?_toArray, List.getElem?_cons_zero, List.getElem?_cons_succ, Sem.run_bind, run_underlying hu, Result.andThen_ok, hget, hc, hf, hset, Sem.run_pure]
    rw [hrun _ e1]
    exact hn g _ _ r1 r2 (.tup [] #[] rfl (by simp))
theorem op_len_map {ts : Array TypeId} {t e : TypeId} {x : Operand} {k : Nat} {es : Ents kt vt} {clock : Nat} (ho : o.op = .call { callee := .builtin .len, args := #[x], argTypes := ts }) (h0 : ts[0]? = some t) (hm : MapI P t kt vt e)
    (hk : X.objs.lookup k = some (mapO kt vt es clock)) : OpT P o [(x, .mp k)] X X [] (.d (.sc (.int .i64 es.length))) :=
  .quiet fun _ _ g w ac hr hrd => by
    obtain ⟨kty, hu, hK⟩ := hm.und
    have h1 := (rd0 hrd).mp_inv
    simp only at h1
    obtain ⟨as, hw⟩ := mapW_of hK.key (hr.objs k _ hk)
    have hget := MapKept.run_getObj_map (P := P) hw.heap
    refine ⟨.int .i64 es.length, ?_, .ofSc _ _ _⟩
    simp only [execOp, ho, resolve]
    simp [h1, invoke, builtin, Builtin.len_, h0, run_underlying hu, hget, goInt, hw.len]
theorem op_range_map {t e : TypeId} {x : Operand} {k m : Nat} {es : Ents kt vt} {clock : Nat} (ho : o.op = .range t x) (hm : MapI P t kt vt e) (hk : X.objs.lookup k = some (mapO kt vt es clock)) (hmn : X.objs.lookup m = none) (hX : objsFree [m] X = true) (hne : k ≠ m) :
    OpT P o [(x, .mp k)] X ⟨(m, .mit k clock #[] clock) :: X.objs, X.live⟩ [m] (.ptr m 0) := by
  intro nm hsm B g w ac hr hrd next Q hn
  obtain ⟨kty, hu, hK⟩ := hm.und
  have h1 := (rd0 hrd).mp_inv
  simp only at h1
  obtain ⟨as, hw⟩ := mapW_of hK.key (hr.objs k _ hk)
  have hget := MapKept.run_getObj_map (P := P) hw.heap
  obtain ⟨r1, r2⟩ := hr.newObj hmn hX (.mapIter (some (g.ρ k)) clock #[] clock) (.mit k clock #[] clock) (by
    intro g' w' ht hw'
    refine .mit k clock #[] clock ?_
    rw [hw', ht.names k (by simpa using hne)])
  unfold Oper.wp
  have : (execOp ac.eval o).run P w = .ok (.value (.pointer (some ⟨w.heap.size, 0, none⟩))) (w.alloc (.mapIter (some (g.ρ k)) clock #[] clock)) := by
    simp only [execOp, ho, h1]
    simp [Instr.range, run_underlying hu, hget]
  rw [this]
  refine hn _ _ _ r1 r2 ?_
  have := RA.ptr (g := { g with ρ := upd g.ρ m w.heap.size }) (w := w.alloc (.mapIter (some (g.ρ k)) clock #[] clock)) m 0
  simpa [upd_same] using this
end
end Go.Xl
set_option linter.unusedVariables false
set_option linter.unusedSimpArgs false
set_option linter.unnecessarySimpa false
namespace Go.Xl
open Go.Ab
section
variable {P : Program} {R : Type}
noncomputable def mapTys (P : Program) (t : TypeId) : Option (Ty × Ty) :=
  match P.underlying t with
  | some (.map k e) => match tyOf P 9 k, tyOf P 9 e with
    | some kt, some vt => cond (keyChk P k kt) (some (kt, vt)) none
    | _, _ => none
  | _ => none
noncomputable def mapChk (P : Program) (t : TypeId) (kt : Ty) : Option TypeId :=
  match P.underlying t with
  | some (.map k e) => cond (keyChk P k kt) (some e) none
  | _ => none
theorem mapChk_I {t e : TypeId} {kt vt : Ty} (h : mapChk P t kt = some e) : MapI P t kt vt e := by
  unfold mapChk at h
  split at h
  · rename_i k e' hu
    cases hk : keyChk P k kt with
    | false => simp [hk] at h
    | true =>
      simp only [hk, cond_true, Option.some.injEq] at h
      subst h
      exact ⟨_, hu, keyChk_I hk⟩
  · cases h
theorem lk_imM {objs : List (Nat × XOb)} {k : Nat} {y : XOb} (h : lk k objs = some y) : (imObjs objs).lookup k = some y.o := by rw [im_objs, h]; rfl
noncomputable def zeroV (P : Program) (e : TypeId) (vt : Ty) : Option vt.T :=
  match P.info? e with
  | some i => match i.zero with
    | some zv => match zeroT P e vt with
      | some lz => cond (isAggV zv) (cond vt.agg (some lz.2) none) (cond vt.agg none (some lz.2))
      | none => none
    | none => none
  | none => none
theorem zeroV_ok {e : TypeId} {vt : Ty} {z : vt.T} (h : zeroV P e vt = some z) : ∃ l i zv, zeroT P e vt = some (l, z) ∧ P.info? e = some i ∧ i.zero = some zv ∧ isAggV zv = vt.agg := by
  unfold zeroV at h
  split at h
  · rename_i i hi
    split at h
    · rename_i zv hz
      split at h
      · rename_i lz hl
        refine ⟨lz.1, i, zv, ?_, hi, hz, ?_⟩
        · cases ha : isAggV zv <;> cases hg : vt.agg <;> simp [ha, hg] at h <;> (subst h; exact hl)
        · cases ha : isAggV zv <;> cases hg : vt.agg <;> simp [ha, hg] at h <;> rfl
      · cases h
    · cases h
  · cases h
noncomputable def xMakeMap (P : Program) (st : XSt) (o : Oper) (t : TypeId) (r : Option Operand) (K : Out → Option R) : Option R :=
  match r with
  | none => match mapTys P t, newName o with
    | some ts, some m => cond (fresh m st) (K ⟨.new [(m, .map ts.1 ts.2 [] 0)], .nm m .m, [], (m, .map ts.1 ts.2 [] 0) :: st.objs, st.live, [m], [m]⟩) none
    | _, _ => none
  | some _ => none
theorem xMakeMap_ok {o : Oper} {st : XSt} {t : TypeId} {rs : Option Operand} {K : Out → Option R} {r : R} (ho : o.op = .makeMap t rs) (h : xMakeMap P st o t rs K = some r) : ∃ out, K out = some r ∧ OpOk P o st out := by
  unfold xMakeMap at h
  split at h
  · split at h
    · rename_i ts m hm hn
      cases hf : fresh m st with
      | false => simp [hf] at h
      | true =>
        simp only [hf, cond_true] at h
        obtain ⟨h1, h2⟩ := fresh_ok hf
        refine ⟨_, h, ⟨by simp [imRd], ?_, fun j z hj hz => ?_⟩⟩
        · exact ⟨rfl, op_makeMap (kt := ts.1) (vt := ts.2) m ho (fresh_im h1) h2⟩
        · rw [lk_cons_ne (by simpa using hj)] at hz; exact hz
    · cases h
  · cases h
noncomputable def lookX {vt : Ty} (ok : Bool) (x : Option vt.T) (z : vt.T) : XV := cond ok (.tup [.d (vt.xv (x.getD z)), .d (.b x.isSome)]) (.d (vt.xv (x.getD z)))
theorem lookX_a {vt : Ty} (ok : Bool) (x : Option vt.T) (z : vt.T) : (lookX ok x z).a = lookRes ok x z := by
  cases ok <;> cases x <;> rfl
theorem op_lookup_nil {o : Oper} {X : Store} {t e : TypeId} {kt vt : Ty} {x y : Operand} {ok : Bool} {a : kt.T} {l : List Value} {z : vt.T} {i : TypeInfo} {zv : Value} (ho : o.op = .lookup t x y ok) (hm : MapI P t kt vt e)
    (hz : zeroT P e vt = some (l, z)) (hi : P.info? e = some i) (hzv : i.zero = some zv) (hg : isAggV zv = vt.agg) :
    OpT P o [(x, .d (.sc (.map none))), (y, .d (kt.dv a))] X X [] (lookRes ok (none : Option vt.T) z) :=
  .quiet fun _ _ g w ac hr hrd => by
    obtain ⟨kty, hu, hK⟩ := hm.und
    have h1 := (rd0 hrd).sc_inv
    have h2 : ac.eval y = kt.kval a := by
      have := rd1 hrd
      cases this with
      | d _ _ h => exact kt.kval_inv hK.key h
    simp only at h1
    have hf := hK.find a w [] [] rfl
    have hc := hK.check true 9998 a w
    simp only [kidx, Option.bind_none] at hf
    refine ⟨if ok then .tuple #[zv, .bool false] else zv, ?_, lookRes_ra (zero_rd hz hi hzv hg)⟩
    simp [execOp, ho, h1, h2, Instr.lookup, Sem.run_bind, run_underlying hu, Result.andThen_ok, Sem.run_pure, hc, hf, zeroValue, typeInfo, hi, hzv]
noncomputable def xLookup (P : Program) (st : XSt) (t : TypeId) (x y : Operand) (ok : Bool) (K : Out → Option R) : Option R :=
  match xeval st x with
  | some (.nm k .m) => match lk k st.objs with
    | some (.map kt vt es c) => match mapChk P t kt, xd st y with
      | some e, some a => match kt.decv a, zeroV P e vt with
        | some a, some z => K ⟨.look [k], lookX ok (mget a es) z, [(x, .nm k .m), (y, .d (kt.xv a))], st.objs, st.live, [], []⟩
        | _, _ => none
      | _, _ => none
    | _ => none
  | some (.d (.v (.map none))) => match mapTys P t, xd st y with
    | some ts, some a => match mapChk P t ts.1 with
      | some e => match ts.1.decv a, zeroV P e ts.2 with
        | some a, some z => K (quietO st (lookX ok none z) [(x, .d (.v (.map none))), (y, .d (ts.1.xv a))])
        | _, _ => none
      | none => none
    | _, _ => none
  | _ => none
theorem sees_dec {st : XSt} {y : Operand} {x : XD} {kt : Ty} {a : kt.T} (h : xd st y = some x) (hd : kt.decv x = some a) : Sees st.im y (.d (kt.dv a)) := xd_sees h (kt.decv_spec hd)
theorem xLookup_ok {o : Oper} {st : XSt} {t : TypeId} {x y : Operand} {ok : Bool} {K : Out → Option R} {r : R} (ho : o.op = .lookup t x y ok) (h : xLookup P st t x y ok K = some r) : ∃ out, K out = some r ∧ OpOk P o st out := by
  unfold xLookup at h
  split at h
  · rename_i k hx
    split at h
    · rename_i kt vt es c hk
      split at h
      · rename_i e a0 hm hy
        split at h
        · rename_i a z ha hz
          obtain ⟨l, i, zv, z1, z2, z3, z4⟩ := zeroV_ok hz
          refine ⟨_, h, ⟨?_, ⟨rfl, rfl, rfl, fun X hX => ?_⟩, fun _ _ _ h => h⟩⟩
          · intro p hp
            simp only [imRd, List.map_cons, List.map_nil, List.mem_cons, List.not_mem_nil, or_false] at hp
            rcases hp with rfl | rfl
            · exact xeval_sees hx
            · exact sees_dec hy ha
          · have := op_lookup (P := P) (X := X) (k := k) (es := es) (clock := c) (a := a) ho (mapChk_I hm) z1 z2 z3 z4 ((hX k (by simp)).trans (lk_imM hk))
            rw [lookX_a]
            exact this
        · cases h
      · cases h
    · cases h
  · rename_i hx
    split at h
    · rename_i ts a0 hm hy
      split at h
      · rename_i e he
        split at h
        · rename_i a z ha hz
          obtain ⟨l, i, zv, z1, z2, z3, z4⟩ := zeroV_ok hz
          refine ⟨_, h, quietO_ok ?_ fun X => ?_⟩
          · intro p hp
            simp only [imRd, List.map_cons, List.map_nil, List.mem_cons, List.not_mem_nil, or_false] at hp
            rcases hp with rfl | rfl
            · exact xeval_sees hx
            · exact sees_dec hy ha
          · rw [lookX_a]
            exact op_lookup_nil (a := a) ho (mapChk_I he) z1 z2 z3 z4
        · cases h
      · cases h
    · cases h
  · cases h
noncomputable def xMapUpdate (P : Program) (st : XSt) (t : TypeId) (x y u : Operand) (K : Out → Option R) : Option R :=
  match xeval st x with
  | some (.nm k .m) => match lk k st.objs with
    | some (.map kt vt es c) => match mapChk P t kt, xd st y, xd st u with
      | some e, some a, some v => match kt.decv a, vt.decv v with
        | some a, some v => K ⟨.put k (.map kt vt (mput a v c es) (mclk a es c)), .d (.v undef), [(x, .nm k .m), (y, .d (kt.xv a)), (u, .d (vt.xv v))], xset k (.map kt vt (mput a v c es) (mclk a es c)) st.objs, st.live, [], [k]⟩
        | _, _ => none
      | _, _, _ => none
    | _ => none
  | _ => none
theorem xMapUpdate_ok {o : Oper} {st : XSt} {t : TypeId} {x y u : Operand} {K : Out → Option R} {r : R} (ho : o.op = .mapUpdate t x y u ∨ o.op = .insert t x y u) (h : xMapUpdate P st t x y u K = some r) : ∃ out, K out = some r ∧ OpOk P o st out := by
  unfold xMapUpdate at h
  split at h
  · rename_i k hx
    split at h
    · rename_i kt vt es c hk
      split at h
      · rename_i e a0 v0 hm hy hu
        split at h
        · rename_i a v ha hv
          refine ⟨_, h, ⟨?_, ⟨rfl, rfl, rfl, fun X hX => ?_⟩, fun j z hj hz => ?_⟩⟩
          · intro p hp
            simp only [imRd, List.map_cons, List.map_nil, List.mem_cons, List.not_mem_nil, or_false] at hp
            rcases hp with rfl | rfl | rfl
            · exact xeval_sees hx
            · exact sees_dec hy ha
            · exact sees_dec hu hv
          · exact op_mapUpdate (P := P) (X := X) (k := k) (es := es) (clock := c) (a := a) (v := v) ho (mapChk_I (vt := vt) hm) (hX.trans (lk_imM hk))
          · simp only [List.mem_cons, List.not_mem_nil, or_false] at hj
            rwa [lk_xset _ _ _ _ hj] at hz
        · cases h
      · cases h
    · cases h
  · cases h
noncomputable def xDelete (P : Program) (st : XSt) (ts : Array TypeId) (x y : Operand) (K : Out → Option R) : Option R :=
  match ts[0]? with
  | some t => match xeval st x with
    | some (.nm k .m) => match lk k st.objs with
      | some (.map kt vt es c) => match mapChk P t kt, xd st y with
        | some e, some a => match kt.decv a with
          | some a => K ⟨.put k (.map kt vt (mdel a es) c), .tup [], [(x, .nm k .m), (y, .d (kt.xv a))], xset k (.map kt vt (mdel a es) c) st.objs, st.live, [], [k]⟩
          | none => none
        | _, _ => none
      | _ => none
    | some (.d (.v (.map none))) => match mapTys P t, xd st y with
      | some ks, some a => match mapChk P t ks.1, ks.1.decv a with
        | some e, some a => K (quietO st (.tup []) [(x, .d (.v (.map none))), (y, .d (ks.1.xv a))])
        | _, _ => none
      | _, _ => none
    | _ => none
  | none => none
theorem op_delete_nil {o : Oper} {X : Store} {ts : Array TypeId} {t e : TypeId} {kt vt : Ty} {x y : Operand} {a : kt.T} (ho : o.op = .call { callee := .builtin .delete, args := #[x, y], argTypes := ts }) (h0 : ts[0]? = some t) (hm : MapI P t kt vt e) :
    OpT P o [(x, .d (.sc (.map none))), (y, .d (kt.dv a))] X X [] (.tup []) :=
  .quiet fun _ _ g w ac hr hrd => by
    obtain ⟨kty, hu, hK⟩ := hm.und
    have h1 := (rd0 hrd).sc_inv
    have h2 : ac.eval y = kt.kval a := by
      have := rd1 hrd
      cases this with
      | d _ _ h => exact kt.kval_inv hK.key h
    simp only at h1
    have hc := hK.check true 9998 a w
    refine ⟨.tuple #[], ?_, .tup [] #[] rfl (by simp)⟩
    simp [execOp, ho, resolve, invoke, builtin, Builtin.delete_, h0, h1, h2, run_underlying hu, hc]
theorem xDelete_ok {o : Oper} {st : XSt} {ts : Array TypeId} {x y : Operand} {K : Out → Option R} {r : R} (ho : o.op = .call { callee := .builtin .delete, args := #[x, y], argTypes := ts }) (h : xDelete P st ts x y K = some r) : ∃ out, K out = some r ∧ OpOk P o st out := by
  unfold xDelete at h
  split at h
  · rename_i t h0
    split at h
    · rename_i k hx
      split at h
      · rename_i kt vt es c hk
        split at h
        · rename_i e a0 hm hy
          split at h
          · rename_i a ha
            refine ⟨_, h, ⟨?_, ⟨rfl, rfl, rfl, fun X hX => ?_⟩, fun j z hj hz => ?_⟩⟩
            · intro p hp
              simp only [imRd, List.map_cons, List.map_nil, List.mem_cons, List.not_mem_nil, or_false] at hp
              rcases hp with rfl | rfl
              · exact xeval_sees hx
              · exact sees_dec hy ha
            · exact op_delete (P := P) (X := X) (k := k) (es := es) (clock := c) (a := a) ho h0 (mapChk_I (vt := vt) hm) (hX.trans (lk_imM hk))
            · simp only [List.mem_cons, List.not_mem_nil, or_false] at hj
              rwa [lk_xset _ _ _ _ hj] at hz
          · cases h
        · cases h
      · cases h
    · rename_i hx
      split at h
      · rename_i ks a0 hm hy
        split at h
        · rename_i e a he ha
          refine ⟨_, h, quietO_ok ?_ fun X => ?_⟩
          · intro p hp
            simp only [imRd, List.map_cons, List.map_nil, List.mem_cons, List.not_mem_nil, or_false] at hp
            rcases hp with rfl | rfl
            · exact xeval_sees hx
            · exact sees_dec hy ha
          · exact op_delete_nil (a := a) ho h0 (mapChk_I (vt := ks.2) he)
        · cases h
      · cases h
    · cases h
  · cases h
noncomputable def isMapV : XV → Bool
  | .nm _ .m => true
  | .d (.v (.map none)) => true
  | _ => false
noncomputable def xLenMap (P : Program) (st : XSt) (ts : Array TypeId) (x : Operand) (K : Out → Option R) : Option R :=
  match ts[0]? with
  | some t => match xeval st x with
    | some (.nm k .m) => match lk k st.objs with
      | some (.map kt vt es c) => match mapChk P t kt with
        | some e => K ⟨.look [k], .d (.i .i64 es.length), [(x, .nm k .m)], st.objs, st.live, [], []⟩
        | none => none
      | _ => none
    | some (.d (.v (.map none))) => match mapTys P t with
      | some ks => K (quietO st (.d (.i .i64 0)) [(x, .d (.v (.map none)))])
      | none => none
    | _ => none
  | none => none
theorem mapTys_und {t : TypeId} {ks : Ty × Ty} (h : mapTys P t = some ks) : ∃ k e, P.underlying t = some (.map k e) := by
  unfold mapTys at h
  split at h
  · rename_i k e hu; exact ⟨k, e, hu⟩
  · cases h
theorem xLenMap_ok {o : Oper} {st : XSt} {ts : Array TypeId} {x : Operand} {K : Out → Option R} {r : R} (ho : o.op = .call { callee := .builtin .len, args := #[x], argTypes := ts }) (h : xLenMap P st ts x K = some r) : ∃ out, K out = some r ∧ OpOk P o st out := by
  unfold xLenMap at h
  split at h
  · rename_i t h0
    split at h
    · rename_i k hx
      split at h
      · rename_i kt vt es c hk
        split at h
        · rename_i e hm
          refine ⟨_, h, ⟨sees1v hx, ⟨rfl, rfl, rfl, fun X hX => ?_⟩, fun _ _ _ h => h⟩⟩
          exact op_len_map (P := P) (X := X) (k := k) (es := es) (clock := c) ho h0 (mapChk_I (vt := vt) hm) ((hX k (by simp)).trans (lk_imM hk))
        · cases h
      · cases h
    · rename_i hx
      split at h
      · rename_i ks hm
        obtain ⟨kk, e, hu⟩ := mapTys_und hm
        refine ⟨_, h, quietO_ok (sees1v hx) fun X => ?_⟩
        refine .quiet fun _ _ g w ac hr hrd => ?_
        have h1 := (rd0 hrd).sc_inv
        simp only at h1
        refine ⟨.int .i64 0, ?_, .ofSc _ _ _⟩
        simp [execOp, ho, resolve, invoke, builtin, Builtin.len_, h0, h1, run_underlying hu, goInt]
      · cases h
    · cases h
  · cases h
noncomputable def xRangeMap (P : Program) (st : XSt) (o : Oper) (t : TypeId) (x : Operand) (K : Out → Option R) : Option R :=
  match xeval st x, newName o with
  | some (.nm k .m), some m => match lk k st.objs with
    | some (.map kt vt es c) => match mapChk P t kt with
      | some e => cond (Nat.beq k m) none (cond (fresh m st) (K ⟨.all, .nm m (.p 0), [(x, .nm k .m)], (m, .mit k c [] c) :: st.objs, st.live, [m], [m]⟩) none)
      | none => none
    | _ => none
  | some (.d (.v (.map none))), some m => match mapTys P t with
    | some ks => cond (fresh m st) (K ⟨.all, .nm m (.p 0), [(x, .d (.v (.map none)))], (m, .mitn) :: st.objs, st.live, [m], [m]⟩) none
    | none => none
  | _, _ => none
theorem xRangeMap_ok {o : Oper} {st : XSt} {t : TypeId} {x : Operand} {K : Out → Option R} {r : R} (ho : o.op = .range t x) (h : xRangeMap P st o t x K = some r) : ∃ out, K out = some r ∧ OpOk P o st out := by
  unfold xRangeMap at h
  split at h
  · rename_i k m hx hm
    split at h
    · rename_i kt vt es c hk
      split at h
      · rename_i e he
        cases hne : Nat.beq k m with
        | true => simp [hne] at h
        | false =>
        cases hf : fresh m st with
        | false => simp [hne, hf] at h
        | true =>
          simp only [hne, hf, cond_true, cond_false] at h
          obtain ⟨h1, h2⟩ := fresh_ok hf
          refine ⟨_, h, ⟨sees1v hx, ?_, fun j z hj hz => ?_⟩⟩
          · exact op_range_map (P := P) (X := st.X) (k := k) (m := m) (es := es) (clock := c) ho (mapChk_I (vt := vt) he) (lk_imM hk) (fresh_im h1) h2 (Nat.ne_of_beq_eq_false hne)
          · rw [lk_cons_ne (by simpa using hj)] at hz; exact hz
      · cases h
    · cases h
  · rename_i m hx hm
    split at h
    · rename_i ks hks
      cases hf : fresh m st with
      | false => simp [hf] at h
      | true =>
        simp only [hf, cond_true] at h
        obtain ⟨h1, h2⟩ := fresh_ok hf
        obtain ⟨kk, e, hu⟩ := mapTys_und hks
        refine ⟨_, h, ⟨sees1v hx, ?_, fun j z hj hz => ?_⟩⟩
        · intro nm hsm B g w ac hr hrd next Q hn
          have e1 := (rd0 hrd).sc_inv
          simp only at e1
          obtain ⟨r1, r2⟩ := hr.newObj (fresh_im h1) h2 (.mapIter none 0 #[] 0) .mitn (by
            intro g' w' _ hw
            exact .mitn hw)
          unfold Oper.wp
          have : (execOp ac.eval o).run P w = .ok (.value (.pointer (some ⟨w.heap.size, 0, none⟩))) (w.alloc (.mapIter none 0 #[] 0)) := by
            simp only [execOp, ho, e1]
            simp [Instr.range, run_underlying hu]
          rw [this]
          refine hn _ _ _ r1 r2 ?_
          show RA _ _ (.ptr m 0) _
          have := RA.ptr (g := { g with ρ := upd g.ρ m w.heap.size }) (w := w.alloc (.mapIter none 0 #[] 0)) m 0
          simpa [upd_same] using this
        · rw [lk_cons_ne (by simpa using hj)] at hz; exact hz
    · cases h
  · cases h
noncomputable def demon {α R : Type} (l : List α) (z : Option R) (f : α → Option R) : Option R :=
  open Classical in if l = [] then z else if h : ∃ r, ∀ x ∈ l, f x = some r then some h.choose else none
theorem demon_nil {α R : Type} (z : Option R) (f : α → Option R) : demon [] z f = z := by simp [demon]
theorem demon_some {α R : Type} {l : List α} {z : Option R} {f : α → Option R} {r : R} (h : demon l z f = some r) : (l = [] ∧ z = some r) ∨ (l ≠ [] ∧ ∀ x ∈ l, f x = some r) := by
  unfold demon at h
  split at h
  · rename_i hl; exact .inl ⟨hl, h⟩
  · rename_i hl
    split at h
    · rename_i hx
      right
      refine ⟨hl, ?_⟩
      have := hx.choose_spec
      cases h
      exact this
    · cases h
theorem demon_of {α R : Type} {l : List α} {z : Option R} {f : α → Option R} {r : R} (hl : l ≠ []) (h : ∀ x ∈ l, f x = some r) : demon l z f = some r := by
  unfold demon
  rw [if_neg hl]
  have hx : ∃ r, ∀ x ∈ l, f x = some r := ⟨r, h⟩
  rw [dif_pos hx]
  obtain ⟨a, ha⟩ := List.exists_mem_of_ne_nil l hl
  have h1 := hx.choose_spec a ha
  rw [h a ha] at h1
  exact h1.symm
noncomputable def OpD (P : Program) (o : Oper) (rd : List (Operand × AV)) (X : Store) (outs : List (AV × Store)) : Prop :=
  ∀ (nm : List Nat), (∀ j ∈ nm, j < 1000) → ∀ (B : Base) (g : Gh) (w : World) (a : Act), HR nm B g w X → (∀ p ∈ rd, RA g w p.2 (a.eval p.1)) →
    ∀ (next : Act → World → Prop) (Q : Exit → Act → World → Prop),
      (∀ p ∈ outs, ∀ g' w' v, HR nm B g' w' p.2 → Trans [] g w g' w' → RA g' w' p.1 v → next (a.put o.dst v) w') → o.wp P a w next Q
theorem Rw.demon {S : Sig} {ops : Array Oper} {i : Nat} {rest : List Nat} {st : St} {K : St → Prop} {o : Oper} {rd : List (Operand × AV)} {outs : List (AV × Store)} (ho : ops[i]? = some o) (hg : Guard ops st o.guard true) (ht : OpD P o rd st.X outs) (hs : SeesAll st rd) (hd : dstOk S.N o.dst = true)
    (h : ∀ p ∈ outs, Rw P S ops rest ⟨putEnv o.dst p.1 st.env, p.2⟩ K) : Rw P S ops (i :: rest) st K := by
  intro B g w a Q hsr hq
  unfold wpOps
  simp only [ho, hg.wanted hsr, if_true]
  refine .inl (ht S.names S.small B g w a hsr.hr (fun p hp => (hs.all p hp).ra hsr) _ Q ?_)
  intro p hp g' w' v hX htr hv
  exact h p hp B g' w' _ Q (hsr.put htr rfl hX hd hv) hq
noncomputable def unseen {α : Type} (seen : List Nat) (es : List (Nat × α)) : List (Nat × α) := es.filter fun e => !seen.contains e.1
noncomputable def oldB {α : Type} (since last : Nat) (es : List (Nat × α)) : Bool := es.all fun e => decide (e.1 < since) && decide (e.1 < last)
section
variable {o : Oper} {X : Store} {kt vt : Ty}
theorem run_getObj_mit {w : World} {r : Nat} {x : Option Nat} {a c : Nat} {s : Array Nat} (hr : w.heap[r]? = some (.mapIter x a s c)) : (getObj r).run P w = .ok (.mapIter x a s c) w := by
  simp [getObj, Sem.run, hr]
theorem run_setObj_mit {w : World} {r : Nat} {x : Option Nat} {a c : Nat} {s : Array Nat} (hr : w.heap[r]? = some (.mapIter x a s c)) (o' : Obj) : (setObj r o').run P w = .ok () { w with heap := w.heap.setIfInBounds r o' } := by
  simp [setObj, Sem.run, hr]
theorem mit_block {g : Gh} {w : World} {b k since last : Nat} {seen : Array Nat} (h : ObRel g w b (.mit k since seen last)) : w.heap[b]? = some (.mapIter (some (g.ρ k)) since seen last) := by
  cases h with
  | mit _ _ _ _ h => exact h
theorem left_spec {g : Gh} {w : World} {b : Nat} {es : Ents kt vt} {clock : Nat} {as : Array MapEntry} {since last : Nat} {seen : List Nat} (hw : MapW kt vt g w b es clock as) (hold : oldB since last es = true) :
    (as.filter fun e => !(seen.toArray.contains e.born)).size = (unseen seen es).length ∧
    (∀ (i : Nat) x e, (unseen seen es)[i]? = some x → (as.filter fun e => !(seen.toArray.contains e.born))[i]? = some e → e.born = x.1 ∧ e.key = kt.kval x.2.1 ∧ RD g.γ w (vt.dv x.2.2) e.val) ∧
    (∀ e ∈ as, e.born < since ∧ e.born < last) := by
  have hb : ∀ e ∈ as.toList, ∃ x ∈ es, e.born = x.1 ∧ e.key = kt.kval x.2.1 ∧ RD g.γ w (vt.dv x.2.2) e.val := by
    intro e he
    obtain ⟨i, hi⟩ := List.mem_iff_getElem?.1 he
    have hlt : i < es.length := by
      have := (List.getElem?_eq_some_iff.1 hi).1
      rw [hw.len]; simpa using this
    exact ⟨es[i], List.getElem_mem hlt, hw.at' i es[i] e (by simp [hlt]) (by simpa using hi)⟩
  have hall : ∀ e ∈ as, e.born < since ∧ e.born < last := by
    intro e he
    obtain ⟨x, hx, h1, _⟩ := hb e (by simpa using he)
    have := List.all_eq_true.1 hold x hx
    simp only [Bool.and_eq_true, decide_eq_true_eq] at this
    rw [h1]; exact this
  have pairs : ∀ (l : List MapEntry) (m : List (Nat × kt.T × vt.T)), l.length = m.length → (∀ (i : Nat) x e, m[i]? = some x → l[i]? = some e → e.born = x.1 ∧ e.key = kt.kval x.2.1 ∧ RD g.γ w (vt.dv x.2.2) e.val) →
      (l.filter fun e => !(seen.toArray.contains e.born)).length = (unseen seen m).length ∧
      ∀ (i : Nat) x e, (unseen seen m)[i]? = some x → (l.filter fun e => !(seen.toArray.contains e.born))[i]? = some e → e.born = x.1 ∧ e.key = kt.kval x.2.1 ∧ RD g.γ w (vt.dv x.2.2) e.val := by
    intro l
    induction l with
    | nil =>
      intro m hm _
      cases m with
      | nil => exact ⟨rfl, by simp [unseen]⟩
      | cons _ _ => simp at hm
    | cons e l ih =>
      intro m hm hr
      cases m with
      | nil => simp at hm
      | cons x m =>
        obtain ⟨i1, i2⟩ := ih m (by simpa using hm) (fun i y q h1 h2 => hr (i + 1) y q (by simpa using h1) (by simpa using h2))
        have h0 := hr 0 x e rfl rfl
        have hc : seen.toArray.contains e.born = seen.contains x.1 := by rw [h0.1]; simp
        unfold unseen
        rw [List.filter_cons, List.filter_cons, hc]
        cases seen.contains x.1 with
        | true => simpa [unseen] using And.intro i1 i2
        | false =>
          simp only [Bool.not_false, if_true, List.length_cons]
          refine ⟨by simpa [unseen] using i1, ?_⟩
          intro i y q h1 h2
          cases i with
          | zero => simp at h1 h2; subst h1; subst h2; exact h0
          | succ i => exact i2 i y q (by simpa [unseen] using h1) (by simpa using h2)
  obtain ⟨p1, p2⟩ := pairs as.toList es (by simpa using hw.len.symm) (fun i x e hx he => hw.at' i x e hx (by simpa using he))
  refine ⟨?_, ?_, hall⟩
  · rw [← p1, ← Array.length_toList, Array.toList_filter]
  · intro i x e hx he
    refine p2 i x e hx ?_
    rw [← Array.getElem?_toList, Array.toList_filter] at he
    exact he
theorem op_next_map {x : Operand} {m k since last clock : Nat} {seen : List Nat} {es : Ents kt vt} (ho : o.op = .next x false) (hkey : kt.key = true) (hm : X.objs.lookup m = some (.mit k since seen.toArray last)) (hk : X.objs.lookup k = some (mapO kt vt es clock))
    (hold : oldB since last es = true) (hne : unseen seen es ≠ []) :
    OpD P o [(x, .ptr m 0)] X ((unseen seen es).map fun e => (.tup [.d (.sc (.bool true)), .d (kt.dv e.2.1), .d (vt.dv e.2.2)], ⟨Ab.setObj m (.mit k since (seen ++ [e.1]).toArray clock) X.objs, X.live⟩)) := by
  intro nm hsm B g w ac hr hrd next Q hn
  have e1 := (rd0 hrd).ptr_inv
  simp only at e1
  have hb := mit_block (hr.objs m _ hm)
  obtain ⟨as, hw⟩ := mapW_of hkey (hr.objs k _ hk)
  obtain ⟨f1, f2, f3⟩ := left_spec (seen := seen) hw hold
  have hget := run_getObj_mit (P := P) hb
  have hgetm := MapKept.run_getObj_map (P := P) hw.heap
  have hset := run_setObj_mit (P := P) hb
  have hlt : g.ρ m < w.heap.size := (Array.getElem?_eq_some_iff.1 hb).1
  obtain ⟨L, hL⟩ : ∃ L, L = as.filter fun e => !(seen.toArray.contains e.born) := ⟨_, rfl⟩
  rw [← hL] at f1 f2
  have hLpos : 0 < L.size := by rw [f1]; exact List.length_pos_iff.2 hne
  have hLold : L.filter (fun e => decide (e.born < since)) = L := by
    rw [Array.filter_eq_self]
    intro e he
    rw [hL] at he
    exact decide_eq_true (f3 e (Array.mem_filter.1 he).1).1
  have hLnew : L.filter (fun e => decide (e.born ≥ since)) = #[] := by
    rw [Array.filter_eq_empty_iff]
    intro e he
    rw [hL] at he
    have := (f3 e (Array.mem_filter.1 he).1).1
    simp; omega
  have hspo : (!seen.toArray.isEmpty && !as.isEmpty && as.all fun e => decide (e.born ≥ last)) = false := by
    cases hae : as.isEmpty with
    | true => simp
    | false =>
      have hpos : 0 < as.size := by
        cases hs : as.size with
        | zero =>
          have : as = #[] := Array.eq_empty_of_size_eq_zero hs
          subst this; simp at hae
        | succ n => omega
      have : (as.all fun e => decide (e.born ≥ last)) = false := by
        rw [Bool.eq_false_iff]
        intro h
        have h2 := Array.all_eq_true.1 h 0 hpos
        have h3 := (f3 as[0] (Array.getElem_mem hpos)).2
        simp at h2; omega
      rw [this]; simp
  -- whichever is chosen
  have pick : ∀ (j : Nat) (hj : j < L.size) (w1 : World), (HR nm B g w1 X ∧ Trans [] g w g w1 ∧ w1.heap = w.heap) → 
      ∀ (hrun : (execOp ac.eval o).run P w = .ok (.value (.tuple #[.bool true, L[j].key, L[j].val])) { w1 with heap := w1.heap.setIfInBounds (g.ρ m) (.mapIter (some (g.ρ k)) since (seen.toArray.push L[j].born) clock) }), Oper.upon P o ac next Q ((execOp ac.eval o).run P w) := by
    intro j hj w1 ⟨hr1, ht1, hh⟩ hrun
    have hju : j < (unseen seen es).length := by rw [← f1]; exact hj
    obtain ⟨q1, q2, q3⟩ := f2 j (unseen seen es)[j] L[j] (by simp [hju]) (by simp [hj])
    have hb1 : w1.heap[g.ρ m]? = some (.mapIter (some (g.ρ k)) since seen.toArray last) := by rw [hh]; exact hb
    obtain ⟨r1, r2⟩ := hr1.write (w' := { w1 with heap := w1.heap.setIfInBounds (g.ρ m) (.mapIter (some (g.ρ k)) since (seen.toArray.push L[j].born) clock) }) (o' := .mit k since (seen ++ [(unseen seen es)[j].1]).toArray clock) hm (by simp) ⟨rfl, rfl, rfl, Nat.le_refl _⟩
      (by intro b hb'; simp [Array.getElem?_setIfInBounds, Ne.symm hb']) (fun _ => .mit _ _ _ _ (by simp [Array.getElem?_setIfInBounds, hh, hlt, q1])) (by
        intro sh hsh
        simp [World.shape?, hb1] at hsh)
    rw [hrun]
    refine hn _ (List.mem_map_of_mem (f := fun e : Nat × kt.T × vt.T => ((.tup [.d (.sc (.bool true)), .d (kt.dv e.2.1), .d (vt.dv e.2.2)], ⟨Ab.setObj m (.mit k since (seen ++ [e.1]).toArray clock) X.objs, X.live⟩) : AV × Store)) (List.getElem_mem hju)) g _ _ r1 (ht1.trans r2) ?_
    have hle := (ht1.trans r2).le
    refine .tup _ _ rfl fun i c u hc hu => ?_
    rcases i with _ | _ | _ | i
    · simp at hc hu; subst hc; subst hu; exact .ofSc _ _ _
    · simp at hc hu; subst hc; subst hu
      refine .d _ _ ?_
      rw [q2]; exact kt.kval_rd _ hkey
    · simp at hc hu; subst hc; subst hu; exact .d _ _ (q3.mono hle)
    · simp at hc
  have hsome : ∀ (j : Nat) (hj : j < L.size), ((#[] : Array (Option MapEntry)) ++ (L ++ #[]).map some)[j]? = some (some L[j]) := by
    intro j hj
    simp [hj]
  have hne0 : L.isEmpty = false := by
    cases h : L.isEmpty with
    | false => rfl
    | true =>
      have : L = #[] := by simpa using h
      rw [this] at hLpos; simp at hLpos
  unfold Oper.wp
  have hbase : ∀ (w1 : World) (j : Nat) (hj : j < L.size), w1.heap = w.heap → (choose (.mapNext L.size)).run P w = .ok j w1 →
      (execOp ac.eval o).run P w = .ok (.value (.tuple #[.bool true, L[j].key, L[j].val])) { w1 with heap := w1.heap.setIfInBounds (g.ρ m) (.mapIter (some (g.ρ k)) since (seen.toArray.push L[j].born) clock) } := by
    intro w1 j hj hh hch
    have hset1 := run_setObj_mit (P := P) (w := w1) (r := g.ρ m) (by rw [hh]; exact hb)
    simp only [execOp, ho, e1, Instr.next, Sem.run_bind, hget, hgetm, Result.andThen_ok, hspo, ← hL, hLold, hLnew, hne0, Bool.false_eq_true, if_false, Sem.run_pure]
    have hsz : ((#[] : Array (Option MapEntry)) ++ (L ++ #[]).map some).size = L.size := by simp
    rw [hsz, hch]
    simp only [Result.andThen_ok, hsome j hj, Sem.run_bind, hset1, Sem.run_pure]
  have hch := run_choose_drew P w (.mapNext L.size)
  by_cases hf : (Question.mapNext L.size).forced = true
  · rw [if_pos hf] at hch
    exact pick 0 hLpos w ⟨hr, .refl _ _ _, rfl⟩ (hbase w 0 hLpos rfl hch)
  · rw [if_neg hf] at hch
    have hj : (Question.mapNext L.size).cut (w.tape w.drawn (.mapNext L.size)) < L.size := Nat.mod_lt _ hLpos
    obtain ⟨d1, d2⟩ := hr.drew
    exact pick _ hj w.drew ⟨d1, d2, rfl⟩ (hbase w.drew _ hj rfl hch)
theorem op_next_done {x : Operand} {m k since last clock : Nat} {seen : List Nat} {es : Ents kt vt} (ho : o.op = .next x false) (hkey : kt.key = true) (hm : X.objs.lookup m = some (.mit k since seen.toArray last)) (hk : X.objs.lookup k = some (mapO kt vt es clock))
    (hold : oldB since last es = true) (hne : unseen seen es = []) : OpT P o [(x, .ptr m 0)] X X [] (.tup [.d (.sc (.bool false))]) :=
  .quiet fun _ _ g w ac hr hrd => by
    have e1 := (rd0 hrd).ptr_inv
    simp only at e1
    have hb := mit_block (hr.objs m _ hm)
    obtain ⟨as, hw⟩ := mapW_of hkey (hr.objs k _ hk)
    obtain ⟨f1, f2, f3⟩ := left_spec (seen := seen) hw hold
    have hget := run_getObj_mit (P := P) hb
    have hgetm := MapKept.run_getObj_map (P := P) hw.heap
    have hL : (as.filter fun e => !(seen.toArray.contains e.born)) = #[] := Array.eq_empty_of_size_eq_zero (by rw [f1, hne]; rfl)
    have hspo : (!seen.toArray.isEmpty && !as.isEmpty && as.all fun e => decide (e.born ≥ last)) = false := by
      cases hae : as.isEmpty with
      | true => simp
      | false =>
        have hpos : 0 < as.size := by
          cases hs : as.size with
          | zero =>
            have : as = #[] := Array.eq_empty_of_size_eq_zero hs
            subst this; simp at hae
          | succ n => omega
        have : (as.all fun e => decide (e.born ≥ last)) = false := by
          rw [Bool.eq_false_iff]
          intro h
          have h2 := Array.all_eq_true.1 h 0 hpos
          have h3 := (f3 as[0] (Array.getElem_mem hpos)).2
          simp at h2; omega
        rw [this]; simp
    refine ⟨.tuple #[.bool false], ?_, ?_⟩
    · simp only [execOp, ho, e1, Instr.next, Sem.run_bind, hget, hgetm, Result.andThen_ok, hspo, hL, Bool.false_eq_true, if_false, Sem.run_pure]
      have hch := run_choose_drew P w (.mapNext 1)
      rw [if_pos (by rfl)] at hch
      simp [hch, Question.forced]
    · refine .tup _ _ rfl fun i c u hc hu => ?_
      rcases i with _ | i
      · simp at hc hu; subst hc; subst hu; exact .ofSc _ _ _
      · simp at hc
theorem op_next_nil {x : Operand} {m : Nat} (ho : o.op = .next x false) (hm : X.objs.lookup m = some .mitn) : OpT P o [(x, .ptr m 0)] X X [] (.tup [.d (.sc (.bool false))]) :=
  .quiet fun _ _ g w ac hr hrd => by
    have e1 := (rd0 hrd).ptr_inv
    simp only at e1
    have hb : w.heap[g.ρ m]? = some (.mapIter none 0 #[] 0) := by
      cases hr.objs m _ hm with
      | mitn h => exact h
    have hget := run_getObj_mit (P := P) hb
    refine ⟨.tuple #[.bool false], ?_, ?_⟩
    · simp only [execOp, ho, e1, Instr.next, Sem.run_bind, hget, Result.andThen_ok, Sem.run_pure]
    · refine .tup _ _ rfl fun i c u hc hu => ?_
      rcases i with _ | i
      · simp at hc hu; subst hc; subst hu; exact .ofSc _ _ _
      · simp at hc
end
noncomputable def nextO (st : XSt) (x : Operand) (m k since clock : Nat) (seen : List Nat) (kt vt : Ty) (e : Nat × kt.T × vt.T) : Out :=
  ⟨.all, .tup [.d (.b true), .d (kt.xv e.2.1), .d (vt.xv e.2.2)], [(x, .nm m (.p 0))], xset m (.mit k since (seen ++ [e.1]) clock) st.objs, st.live, [], [m]⟩
noncomputable def xNextM (st : XSt) (x : Operand) (K : Out → Option R) : Option R :=
  match xeval st x with
  | some (.nm m (.p 0)) => match lk m st.objs with
    | some (.mit k since seen last) => match lk k st.objs with
      | some (.map kt vt es clock) => cond kt.key (cond (oldB since last es)
          (demon (unseen seen es) (K ⟨.look [m, k], .tup [.d (.b false)], [(x, .nm m (.p 0))], st.objs, st.live, [], []⟩) fun e => K (nextO st x m k since clock seen kt vt e)) none) none
      | _ => none
    | some .mitn => K ⟨.look [m], .tup [.d (.b false)], [(x, .nm m (.p 0))], st.objs, st.live, [], []⟩
    | _ => none
  | _ => none
structure DemOk (P : Program) (o : Oper) (st : XSt) (rd : List (Operand × XV)) (outs : List Out) : Prop where
  sees : ∀ p ∈ imRd rd, Sees st.im p.1 p.2
  F : ∀ out ∈ outs, out.F = []
  op : OpD P o (imRd rd) st.X (outs.map fun out => (out.res.a, out.X))
  ol : ∀ out ∈ outs, ∀ k x, k ∉ out.ol → lk k out.objs = some x → lk k st.objs = some x
theorem xNextM_ok {o : Oper} {st : XSt} {x : Operand} {K : Out → Option R} {r : R} (ho : o.op = .next x false) (h : xNextM st x K = some r) : (∃ out, K out = some r ∧ OpOk P o st out) ∨ ∃ rd outs, (∀ out ∈ outs, K out = some r) ∧ DemOk P o st rd outs := by
  unfold xNextM at h
  split at h
  · rename_i m hx
    split at h
    · rename_i k since seen last hm
      split at h
      · rename_i kt vt es clock hk
        cases hkey : kt.key with
        | false => simp [hkey] at h
        | true =>
        cases hold : oldB since last es with
        | false => simp [hkey, hold] at h
        | true =>
          simp only [hkey, hold, cond_true] at h
          have hm' : st.X.objs.lookup m = some (.mit k since seen.toArray last) := lk_imM hm
          have hk' : st.X.objs.lookup k = some (mapO kt vt es clock) := lk_imM hk
          rcases demon_some h with ⟨hl, hz⟩ | ⟨hl, hf⟩
          · left
            refine ⟨_, hz, ⟨sees1v hx, ⟨rfl, rfl, rfl, fun X hX => ?_⟩, fun _ _ _ h => h⟩⟩
            exact op_next_done ho hkey ((hX m (by simp)).trans hm') ((hX k (by simp)).trans hk') hold hl
          · right
            refine ⟨[(x, .nm m (.p 0))], (unseen seen es).map (nextO st x m k since clock seen kt vt), ?_, ⟨sees1v hx, ?_, ?_, ?_⟩⟩
            · intro out hout
              obtain ⟨e, he, rfl⟩ := List.mem_map.1 hout
              exact hf e he
            · intro out hout
              obtain ⟨e, he, rfl⟩ := List.mem_map.1 hout
              rfl
            · have := op_next_map (P := P) ho hkey hm' hk' hold hl
              rw [List.map_map]
              have e2 : (fun e : Nat × kt.T × vt.T => (((nextO st x m k since clock seen kt vt e).res.a, (nextO st x m k since clock seen kt vt e).X) : AV × Store)) = fun e => (.tup [.d (.sc (.bool true)), .d (kt.dv e.2.1), .d (vt.dv e.2.2)], ⟨Ab.setObj m (.mit k since (seen ++ [e.1]).toArray clock) st.X.objs, st.X.live⟩) := by
                funext e
                simp only [nextO, Out.X, im_xset]
                rfl
              show OpD P o _ st.X ((unseen seen es).map fun e => ((nextO st x m k since clock seen kt vt e).res.a, (nextO st x m k since clock seen kt vt e).X))
              rw [e2]
              exact this
            · intro out hout j z hj hz
              obtain ⟨e, he, rfl⟩ := List.mem_map.1 hout
              simp only [nextO, List.mem_cons, List.not_mem_nil, or_false] at hj hz
              rwa [lk_xset _ _ _ _ hj] at hz
      · cases h
    · rename_i hm
      left
      refine ⟨_, h, ⟨sees1v hx, ⟨rfl, rfl, rfl, fun X hX => ?_⟩, fun _ _ _ h => h⟩⟩
      exact op_next_nil ho ((hX m (by simp)).trans (lk_imM hm))
    · cases h
  · cases h
end
end Go.Xl
set_option linter.unusedVariables false
set_option linter.unusedSimpArgs false
namespace Go.Ab
theorem EtaOk.sub {B : Base} {g g' : Gh} {w w' : World} {X X' : Store} (h : EtaOk B g w X)
    (hη : ∀ L i b, (g'.β L).isSome → g'.η L i = some b → (g.β L).isSome ∧ g.η L i = some b) (hs : w.heap.size ≤ w'.heap.size)
    (htip : ∀ n b, g'.β n = some (some b) → g.β n = some (some b))
    (hobj : ∀ k o, X'.objs.lookup k = some o → ∃ o', X.objs.lookup k = some o' ∧ g'.ρ k = g.ρ k) : EtaOk B g' w' X' := by
  refine ⟨?_, ?_, ?_, ?_, ?_⟩
  · intro L L' i i' b hL hL' hb hb'
    obtain ⟨a1, a2⟩ := hη L i b hL hb
    obtain ⟨a3, a4⟩ := hη L' i' b hL' hb'
    exact h.inj L L' i i' b a1 a3 a2 a4
  · intro L i b n hL hb hn
    obtain ⟨a1, a2⟩ := hη L i b hL hb
    exact h.tip L i b n a1 a2 (htip n b hn)
  · intro L i b k o hL hb hk he
    obtain ⟨a1, a2⟩ := hη L i b hL hb
    obtain ⟨o', h1, h2⟩ := hobj k o hk
    exact h.obj L i b k o' a1 a2 h1 (he.trans h2)
  · intro L i b hL hb
    obtain ⟨a1, a2⟩ := hη L i b hL hb
    exact h.new L i b a1 a2
  · intro L i b hL hb
    obtain ⟨a1, a2⟩ := hη L i b hL hb
    exact Nat.lt_of_lt_of_le (h.lt L i b a1 a2) hs
def restFree (k L : Nat) (X : Store) : Prop := ∀ j o, j ≠ k → X.objs.lookup j = some o → obFree [L] o = true
theorem setObj_some {k : Nat} {o o' : Ob} {l : List (Nat × Ob)} (hk : l.lookup k = some o) {j : Nat} {p : Ob} (hj : (setObj k o' l).lookup j = some p) : ∃ q, l.lookup j = some q := by
  rw [lookup_setObj] at hj
  split at hj
  · rename_i he; subst he; exact ⟨o, hk⟩
  · exact ⟨p, hj⟩
theorem HR.etaSet {nm : List Nat} {B : Base} {g : Gh} {w : World} {X : Store} (h : HR nm B g w X) {k L : Nat} {o o' : Ob} (hk : X.objs.lookup k = some o) (hfree : restFree k L X) (e : Nat → Option Nat)
    (hE : EtaOk B { g with η := upd g.η L e } w ⟨setObj k o' X.objs, X.live⟩)
    (hnew : Trans [L] g w { g with η := upd g.η L e } w → ObRel { g with η := upd g.η L e } w (g.ρ k) o') :
    HR nm B { g with η := upd g.η L e } w ⟨setObj k o' X.objs, X.live⟩ ∧ Trans [L] g w { g with η := upd g.η L e } w := by
  have ht : Trans [L] g w { g with η := upd g.η L e } w := ⟨.refl _ _, fun _ _ => rfl, fun n ob _ he => ⟨he, fun _ _ => ⟨rfl, rfl⟩⟩, fun L' hL' _ => ⟨upd_other _ _ (by simpa using hL'), fun _ _ _ => ⟨rfl, rfl⟩⟩⟩
  have hsome : ∀ j p, (setObj k o' X.objs).lookup j = some p → ∃ q, X.objs.lookup j = some q := fun j p hj => setObj_some hk hj
  refine ⟨⟨?_, h.sane, h.base, h.io, h.le, h.frame, ?_, ?_, ?_, ?_, h.live, h.tipinj, ?_, h.tipnew, h.tiplt, hE⟩, ht⟩
  · intro j hj
    obtain ⟨h1, h2⟩ := h.keep j hj
    refine ⟨h1, ?_⟩
    simp only [lookup_setObj]
    split
    · rfl
    · exact h2
  · intro j p hj
    simp only [lookup_setObj] at hj
    split at hj
    · rename_i he
      cases hj
      subst he
      exact hnew ht
    · rename_i he
      exact (h.objs j p hj).keep ht rfl (.inr (hfree j p he hj))
  · intro j p hj; obtain ⟨q, hq⟩ := hsome j p hj; exact h.objγ j q hq
  · intro j j' p p' hj hj' he
    obtain ⟨q, hq⟩ := hsome j p hj
    obtain ⟨q', hq'⟩ := hsome j' p' hj'
    exact h.objinj j j' q q' hq hq' he
  · intro j p hj; obtain ⟨q, hq⟩ := hsome j p hj; exact h.objnew j q hq
  · intro n b j p hn hj; obtain ⟨q, hq⟩ := hsome j p hj; exact h.tipobj n b j q hn hq
theorem TipE.eta {g : Gh} {w : World} {L i sz : Nat} {v : Value} {e : Nat → Option Nat} (h : TipE g w L i sz v) (he : e i = g.η L i) : TipE { g with η := upd g.η L e } w L i sz v := by
  unfold TipE at h ⊢
  split at h
  · exact ⟨h.1, by simp only [upd_same, he]; exact h.2.1, h.2.2⟩
  · trivial
abbrev MapE : Type := Nat × Value × Bool × List (List D)
abbrev MapL : Type := List MapE
def SameL (l l' : MapL) : Prop := l'.length = l.length ∧ ∀ (j : Nat) (x' : MapE), l'[j]? = some x' → ∃ x : MapE, l[j]? = some x ∧ x'.1 = x.1 ∧ x'.2.1 = x.2.1 ∧ x'.2.2.2 = x.2.2.2
theorem SameL.births {l l' : MapL} (h : SameL l l') : l'.map (·.1) = l.map (·.1) := by
  apply List.ext_getElem?
  intro i
  rw [List.getElem?_map, List.getElem?_map]
  by_cases hi : i < l'.length
  · obtain ⟨x, h1, h2, _⟩ := h.2 i l'[i] (by simp [hi])
    rw [h1, List.getElem?_eq_getElem hi]
    simp [h2]
  · rw [List.getElem?_eq_none (by omega), List.getElem?_eq_none (by have := h.1; omega)]
theorem HR.takeE {nm : List Nat} {B : Base} {g : Gh} {w : World} {X : Store} (h : HR nm B g w X) {k L sz i c : Nat} {l l' : MapL} (hk : X.objs.lookup k = some (.mapt L sz l c)) (hfree : restFree k L X)
    (hs : SameL l l') (hl' : ∀ (j : Nat) (x' x : MapE), l'[j]? = some x' → l[j]? = some x → x'.2.2.1 = true → x.2.2.1 = true ∧ x.1 ≠ i) :
    HR nm B { g with η := upd g.η L (upd (g.η L) i none) } w ⟨setObj k (.mapt L sz l' c) X.objs, X.live⟩ ∧ Trans [L] g w { g with η := upd g.η L (upd (g.η L) i none) } w := by
  refine h.etaSet hk hfree _ (h.eta.sub ?_ (Nat.le_refl _) (fun n b hn => hn) ?_) ?_
  · intro L' i' b hL hb
    refine ⟨hL, ?_⟩
    simp only at hb
    by_cases he : L' = L
    · subst he
      rw [upd_same] at hb
      by_cases hi : i' = i
      · subst hi; rw [upd_same] at hb; cases hb
      · rwa [upd_other _ _ hi] at hb
    · rwa [upd_other _ _ he] at hb
  · intro j o hj
    obtain ⟨q, hq⟩ := setObj_some hk hj
    exact ⟨q, hq, rfl⟩
  · intro ht
    have h0 := h.objs k _ hk
    cases h0 with
    | mapt _ _ _ _ es h1 h2 h3 h4 h5 =>
      refine .mapt L sz l' c es h1 (hs.1.trans h2) ?_ ?_ (by rw [hs.births]; exact h5)
      · intro j x' e hx he
        obtain ⟨x, hx0, a1, a2, a3⟩ := hs.2 j x' hx
        obtain ⟨b1, b2, b3, b4⟩ := h3 j x e hx0 he
        refine ⟨b1.trans a1.symm, b2.trans a2.symm, by rw [a3]; exact b3, fun hf hL => ?_⟩
        obtain ⟨c1, c2⟩ := hl' j x' x hx hx0 hf
        rw [a1]
        exact (b4 c1 hL).eta (upd_other _ _ c2)
      · intro p hp
        have : p.1 ∈ l.map (·.1) := by rw [← hs.births]; exact List.mem_map_of_mem (f := (·.1)) hp
        obtain ⟨q, hq, he⟩ := List.mem_map.1 this
        rw [← he]; exact h4 q hq
def FreeB (B : Base) (g : Gh) (w : World) (X : Store) (b : Nat) : Prop :=
  b < w.heap.size ∧ (B.n0 ≤ b ∨ B.allowed b) ∧ (∀ k o, X.objs.lookup k = some o → b ≠ g.ρ k) ∧ (∀ n, g.β n ≠ some (some b)) ∧ ∀ L i, (g.β L).isSome → g.η L i ≠ some b
theorem HR.giveE {nm : List Nat} {B : Base} {g : Gh} {w : World} {X : Store} (h : HR nm B g w X) {k L sz i c : Nat} {ob : Option Nat} {l l' : MapL} (hk : X.objs.lookup k = some (.mapt L sz l c)) (hfree : restFree k L X)
    (hb : ∀ b, ob = some b → FreeB B g w X b)
    (hs : SameL l l') (hl' : ∀ (j : Nat) (x' x : MapE), l'[j]? = some x' → l[j]? = some x → x'.2.2.1 = true → (x.2.2.1 = true ∧ x.1 ≠ i) ∨ (x.1 = i ∧ ∀ as e, w.heap[g.ρ k]? = some (.map as c) → as[j]? = some e → TipE { g with η := upd g.η L (upd (g.η L) i ob) } w L i sz e.val)) :
    HR nm B { g with η := upd g.η L (upd (g.η L) i ob) } w ⟨setObj k (.mapt L sz l' c) X.objs, X.live⟩ ∧ Trans [L] g w { g with η := upd g.η L (upd (g.η L) i ob) } w := by
  have old : ∀ L' i' b, upd g.η L (upd (g.η L) i ob) L' i' = some b → (L' = L ∧ i' = i ∧ ob = some b) ∨ (¬ (L' = L ∧ i' = i) ∧ g.η L' i' = some b) := by
    intro L' i' b he
    by_cases hL : L' = L
    · subst hL
      rw [upd_same] at he
      by_cases hi : i' = i
      · subst hi; rw [upd_same] at he; exact .inl ⟨rfl, rfl, he⟩
      · rw [upd_other _ _ hi] at he; exact .inr ⟨fun hh => hi hh.2, he⟩
    · rw [upd_other _ _ hL] at he; exact .inr ⟨fun hh => hL hh.1, he⟩
  refine h.etaSet hk hfree _ ⟨?_, ?_, ?_, ?_, ?_⟩ ?_
  · intro L1 L2 i1 i2 b h1 h2 e1 e2
    rcases old L1 i1 b e1 with ⟨a1, a2, a3⟩ | ⟨a1, a2⟩ <;> rcases old L2 i2 b e2 with ⟨c1, c2, c3⟩ | ⟨c1, c2⟩
    · exact ⟨a1.trans c1.symm, a2.trans c2.symm⟩
    · exact ((hb b a3).2.2.2.2 L2 i2 h2 c2).elim
    · exact ((hb b c3).2.2.2.2 L1 i1 h1 a2).elim
    · exact h.eta.inj L1 L2 i1 i2 b h1 h2 a2 c2
  · intro L1 i1 b n h1 e1 hn
    rcases old L1 i1 b e1 with ⟨a1, a2, a3⟩ | ⟨a1, a2⟩
    · exact (hb b a3).2.2.2.1 n hn
    · exact h.eta.tip L1 i1 b n h1 a2 hn
  · intro L1 i1 b j o h1 e1 hj
    obtain ⟨q, hq⟩ := setObj_some hk hj
    rcases old L1 i1 b e1 with ⟨a1, a2, a3⟩ | ⟨a1, a2⟩
    · exact (hb b a3).2.2.1 j q hq
    · exact h.eta.obj L1 i1 b j q h1 a2 hq
  · intro L1 i1 b h1 e1
    rcases old L1 i1 b e1 with ⟨a1, a2, a3⟩ | ⟨a1, a2⟩
    · exact (hb b a3).2.1
    · exact h.eta.new L1 i1 b h1 a2
  · intro L1 i1 b h1 e1
    rcases old L1 i1 b e1 with ⟨a1, a2, a3⟩ | ⟨a1, a2⟩
    · exact (hb b a3).1
    · exact h.eta.lt L1 i1 b h1 a2
  · intro ht
    have h0 := h.objs k _ hk
    cases h0 with
    | mapt _ _ _ _ es h1 h2 h3 h4 h5 =>
      refine .mapt L sz l' c es h1 (hs.1.trans h2) ?_ ?_ (by rw [hs.births]; exact h5)
      · intro j x' e hx he
        obtain ⟨x, hx0, a1, a2, a3⟩ := hs.2 j x' hx
        obtain ⟨b1, b2, b3, b4⟩ := h3 j x e hx0 he
        refine ⟨b1.trans a1.symm, b2.trans a2.symm, by rw [a3]; exact b3, fun hf hL => ?_⟩
        rw [a1]
        rcases hl' j x' x hx hx0 hf with ⟨c1, c2⟩ | ⟨c1, c2⟩
        · exact (b4 c1 hL).eta (upd_other _ _ c2)
        · rw [c1]; exact c2 es e h1 he
      · intro p hp
        have : p.1 ∈ l.map (·.1) := by rw [← hs.births]; exact List.mem_map_of_mem (f := (·.1)) hp
        obtain ⟨q, hq, he⟩ := List.mem_map.1 this
        rw [← he]; exact h4 q hq
def plainL (sz : Nat) (l : MapL) : List (Nat × Value × D) := l.map fun e => (e.1, e.2.1, .sl sz e.2.2.2)
theorem HR.plain {nm : List Nat} {B : Base} {g : Gh} {w : World} {X X' : Store} (h : HR nm B g w X) (hlive : X'.live = X.live) (hin : ∀ k, (X.objs.lookup k).isSome → (X'.objs.lookup k).isSome)
    (hob : ∀ k o', X'.objs.lookup k = some o' → X.objs.lookup k = some o' ∨ ∃ L sz l c, X.objs.lookup k = some (.mapt L sz l c) ∧ o' = .map (plainL sz l) c) : HR nm B g w X' := by
  have hsome : ∀ j p, X'.objs.lookup j = some p → ∃ q, X.objs.lookup j = some q := by
    intro j p hj
    rcases hob j p hj with h1 | ⟨L, sz, l, c, h1, _⟩ <;> exact ⟨_, h1⟩
  refine ⟨?_, h.sane, h.base, h.io, h.le, h.frame, ?_, ?_, ?_, ?_, by rw [hlive]; exact h.live, h.tipinj, ?_, h.tipnew, h.tiplt, h.eta.same (Nat.le_refl _) fun j p hj => hsome j p hj⟩
  · intro j hj
    obtain ⟨h1, h2⟩ := h.keep j hj
    exact ⟨h1, hin j h2⟩
  · intro j p hj
    rcases hob j p hj with h1 | ⟨L, sz, l, c, h1, rfl⟩
    · exact h.objs j p h1
    · have h0 := h.objs j _ h1
      cases h0 with
      | mapt _ _ _ _ es a1 a2 a3 a4 a5 =>
        refine .map _ c es a1 (by simpa [plainL] using a2) ?_ ?_ ?_
        · intro i x e hx he
          simp only [plainL, List.getElem?_map, Option.map_eq_some_iff] at hx
          obtain ⟨y, hy, rfl⟩ := hx
          obtain ⟨b1, b2, b3, _⟩ := a3 i y e hy he
          exact ⟨b1, b2, b3⟩
        · intro q hq
          simp only [plainL, List.mem_map] at hq
          obtain ⟨y, hy, rfl⟩ := hq
          exact a4 y hy
        · simpa [plainL, List.map_map, Function.comp_def] using a5
  · intro j p hj; obtain ⟨q, hq⟩ := hsome j p hj; exact h.objγ j q hq
  · intro j j' p p' hj hj' he
    obtain ⟨q, hq⟩ := hsome j p hj
    obtain ⟨q', hq'⟩ := hsome j' p' hj'
    exact h.objinj j j' q q' hq hq' he
  · intro j p hj; obtain ⟨q, hq⟩ := hsome j p hj; exact h.objnew j q hq
  · intro n b j p hn hj; obtain ⟨q, hq⟩ := hsome j p hj; exact h.tipobj n b j q hn hq
end Go.Ab
set_option linter.unusedVariables false
set_option linter.unusedSimpArgs false
set_option linter.unnecessarySimpa false
namespace Go.Xl
open Go.Ab
noncomputable abbrev EntE (kt vt : Ty) : Type := Nat × kt.T × Bool × List vt.T
noncomputable abbrev EntT (kt vt : Ty) : Type := List (EntE kt vt)
noncomputable def fgT {kt vt : Ty} (es : EntT kt vt) : Ents kt (.sl vt) := es.map fun e => (e.1, e.2.1, e.2.2.2)
noncomputable def tget {kt vt : Ty} (a : kt.T) : EntT kt vt → Option (Nat × Bool × List vt.T)
  | [] => none
  | e :: r => bif kt.eqv a e.2.1 then some (e.1, e.2.2) else tget a r
noncomputable def tput {kt vt : Ty} (a : kt.T) (v : List vt.T) (f : Bool) (clock : Nat) : EntT kt vt → EntT kt vt
  | [] => [(clock, a, f, v)]
  | e :: r => bif kt.eqv a e.2.1 then (e.1, a, f, v) :: r else e :: tput a v f clock r
noncomputable def toff {kt vt : Ty} (a : kt.T) : EntT kt vt → EntT kt vt
  | [] => []
  | e :: r => bif kt.eqv a e.2.1 then (e.1, e.2.1, false, e.2.2.2) :: r else e :: toff a r
noncomputable def tval {kt vt : Ty} (a : kt.T) (es : EntT kt vt) : List vt.T := match tget a es with | some e => e.2.2 | none => []
noncomputable def tflag {kt vt : Ty} (a : kt.T) (es : EntT kt vt) : Bool := match tget a es with | some e => e.2.1 | none => true
noncomputable def thas {kt vt : Ty} (a : kt.T) (es : EntT kt vt) : Bool := match tget a es with | some _ => true | none => false
noncomputable def tborn {kt vt : Ty} (a : kt.T) (es : EntT kt vt) (clock : Nat) : Nat := match tget a es with | some e => e.1 | none => clock
section
variable {kt vt : Ty}
theorem fgT_keys (es : EntT kt vt) : (fgT es).map (·.2.1) = es.map (·.2.1) := by simp [fgT, List.map_map, Function.comp_def]
theorem fgT_put (a : kt.T) (v : List vt.T) (f : Bool) (c : Nat) : ∀ es : EntT kt vt, fgT (tput a v f c es) = mput a (vt := .sl vt) v c (fgT es)
  | [] => rfl
  | e :: r => by
    have ih := fgT_put a v f c r
    simp only [tput, fgT, List.map_cons, mput] at ih ⊢
    cases kt.eqv a e.2.1 with
    | true => rfl
    | false => simp only [cond_false, List.map_cons, ih]
theorem tget_kidx (a : kt.T) : ∀ es : EntT kt vt, tget a es = (kidx kt a (es.map (·.2.1))).bind fun j => es[j]?.map fun e => (e.1, e.2.2)
  | [] => rfl
  | e :: r => by
    simp only [tget, List.map_cons, kidx]
    cases kt.eqv a e.2.1 with
    | true => rfl
    | false =>
      simp only [cond_false, Bool.false_eq_true, if_false, tget_kidx a r]
      cases kidx kt a (r.map (·.2.1)) <;> simp
noncomputable def tidx (a : kt.T) (es : EntT kt vt) : Nat := (kidx kt a (es.map (·.2.1))).getD es.length
theorem tidx_cons (a : kt.T) (e : Nat × kt.T × Bool × List vt.T) (r : EntT kt vt) : tidx a (e :: r) = bif kt.eqv a e.2.1 then 0 else tidx a r + 1 := by
  simp only [tidx, List.map_cons, kidx]
  cases kt.eqv a e.2.1 with
  | true => rfl
  | false =>
    simp only [Bool.false_eq_true, if_false, cond_false, List.length_cons]
    cases kidx kt a (r.map (·.2.1)) <;> simp
theorem toff_at (a : kt.T) : ∀ es : EntT kt vt, (toff a es).length = es.length ∧ ∀ (j : Nat) (x' : EntE kt vt), (toff a es)[j]? = some x' → ∃ x : EntE kt vt, es[j]? = some x ∧ x'.1 = x.1 ∧ x'.2.1 = x.2.1 ∧ x'.2.2.2 = x.2.2.2 ∧ (x'.2.2.1 = true → x.2.2.1 = true ∧ j ≠ tidx a es)
  | [] => ⟨rfl, by simp [toff]⟩
  | e :: r => by
    obtain ⟨i1, i2⟩ := toff_at a r
    rw [tidx_cons]
    simp only [toff]
    cases kt.eqv a e.2.1 with
    | true =>
      simp only [cond_true, List.length_cons, true_and]
      intro j x' hx
      cases j with
      | zero => simp at hx; subst hx; exact ⟨e, rfl, rfl, rfl, rfl, by simp⟩
      | succ j => simp at hx; exact ⟨x', by simpa using hx, rfl, rfl, rfl, fun h => ⟨h, by omega⟩⟩
    | false =>
      simp only [cond_false, List.length_cons, i1, true_and]
      intro j x' hx
      cases j with
      | zero => simp at hx; subst hx; exact ⟨e, rfl, rfl, rfl, rfl, fun h => ⟨h, by omega⟩⟩
      | succ j =>
        obtain ⟨x, a1, a2, a3, a4, a5⟩ := i2 j x' (by simpa using hx)
        exact ⟨x, by simpa using a1, a2, a3, a4, fun h => ⟨(a5 h).1, by have := (a5 h).2; omega⟩⟩
theorem tput_at (a : kt.T) (v : List vt.T) (f : Bool) (c : Nat) : ∀ (es : EntT kt vt) (j : Nat) (x : EntE kt vt), (tput a v f c es)[j]? = some x → (j = tidx a es ∧ x.2.2.1 = f ∧ x.1 = tborn a es c) ∨ (j ≠ tidx a es ∧ es[j]? = some x)
  | [], j, x, h => by
    cases j with
    | zero => simp [tput] at h; subst h; exact .inl ⟨rfl, rfl, rfl⟩
    | succ j => simp [tput] at h
  | e :: r, j, x, h => by
    rw [tidx_cons]
    simp only [tput] at h
    cases he : kt.eqv a e.2.1 with
    | true =>
      rw [he] at h
      simp only [cond_true] at h ⊢
      cases j with
      | zero => simp at h; subst h; exact .inl ⟨rfl, rfl, by simp [tborn, tget, he]⟩
      | succ j => exact .inr ⟨by omega, by simpa using h⟩
    | false =>
      rw [he] at h
      simp only [cond_false] at h ⊢
      have hb : tborn a (e :: r) c = tborn a r c := by simp [tborn, tget, he]
      rw [hb]
      cases j with
      | zero => exact .inr ⟨by omega, by simpa using h⟩
      | succ j =>
        rcases tput_at a v f c r j x (by simpa using h) with ⟨h1, h2, h3⟩ | ⟨h1, h2⟩
        · exact .inl ⟨by omega, h2, h3⟩
        · exact .inr ⟨by omega, by simpa using h2⟩
theorem tput_same (a : kt.T) (v : List vt.T) (f f' : Bool) (c : Nat) : ∀ es : EntT kt vt, (tput a v f' c es).length = (tput a v f c es).length ∧ ∀ (j : Nat) (x' : EntE kt vt), (tput a v f' c es)[j]? = some x' → ∃ x : EntE kt vt, (tput a v f c es)[j]? = some x ∧ x'.1 = x.1 ∧ x'.2.1 = x.2.1 ∧ x'.2.2.2 = x.2.2.2
  | [] => by
    refine ⟨rfl, fun j x' h => ?_⟩
    cases j with
    | zero => simp [tput] at h; subst h; exact ⟨_, rfl, rfl, rfl, rfl⟩
    | succ j => simp [tput] at h
  | e :: r => by
    obtain ⟨i1, i2⟩ := tput_same a v f f' c r
    simp only [tput]
    cases kt.eqv a e.2.1 with
    | true =>
      simp only [cond_true, List.length_cons, true_and]
      intro j x' h
      cases j with
      | zero => simp at h; subst h; exact ⟨_, rfl, rfl, rfl, rfl⟩
      | succ j => simp at h; exact ⟨x', by simpa using h, rfl, rfl, rfl⟩
    | false =>
      simp only [cond_false, List.length_cons, i1, true_and]
      intro j x' h
      cases j with
      | zero => simp at h; subst h; exact ⟨_, rfl, rfl, rfl, rfl⟩
      | succ j =>
        obtain ⟨x, a1, a2⟩ := i2 j x' (by simpa using h)
        exact ⟨x, by simpa using a1, a2⟩
theorem born_ne {a : kt.T} {es : EntT kt vt} {clock j : Nat} {x : Nat × kt.T × Bool × List vt.T} (hx : es[j]? = some x) (hj : j ≠ tidx a es) (hlt : ∀ p ∈ es, p.1 < clock) (hnd : (es.map (·.1)).Nodup) : x.1 ≠ tborn a es clock := by
  unfold tborn
  rw [tget_kidx]
  unfold tidx at hj
  cases hk : kidx kt a (es.map (·.2.1)) with
  | none =>
    have := hlt x (List.mem_of_getElem? hx)
    simp only [Option.bind_none]
    omega
  | some i =>
    rw [hk] at hj
    simp only [Option.getD_some] at hj
    have hi := kidx_lt hk
    rw [List.length_map] at hi
    simp only [Option.bind_some, List.getElem?_eq_getElem hi, Option.map_some]
    intro he
    obtain ⟨hjl, hje⟩ := List.getElem?_eq_some_iff.1 hx
    have hp := List.pairwise_iff_getElem.1 hnd
    rcases Nat.lt_trichotomy j i with h1 | h1 | h1
    · have := hp j i (by simpa using hjl) (by simpa using hi) h1
      simp [hje, he] at this
    · exact hj h1
    · have := hp i j (by simpa using hi) (by simpa using hjl) h1
      simp [hje, he] at this
noncomputable abbrev maptO (L : Nat) (kt vt : Ty) (es : EntT kt vt) (clock : Nat) : Ob := (XOb.mapt L kt vt es clock).o
noncomputable def lT (es : EntT kt vt) : MapL := es.map fun e => (e.1, dval (kt.dv e.2.1), e.2.2.1, e.2.2.2.map vt.ds)
structure MapT (kt vt : Ty) (L : Nat) (g : Gh) (w : World) (b : Nat) (es : EntT kt vt) (clock : Nat) (as : Array MapEntry) : Prop where
  m : MapW kt (.sl vt) g w b (fgT es) clock as
  t : ∀ (j : Nat) x e, es[j]? = some x → as[j]? = some e → x.2.2.1 = true → (g.β L).isSome → TipE g w L x.1 vt.size e.val
theorem mapt_of {L : Nat} {g : Gh} {w : World} {b : Nat} {es : EntT kt vt} {clock : Nat} (hk : kt.key = true) (h : ObRel g w b (maptO L kt vt es clock)) : ∃ as, MapT kt vt L g w b es clock as := by
  cases h with
  | mapt _ _ l c as h1 h2 h3 h4 h5 =>
    have hget : ∀ (i : Nat) x, es[i]? = some x → (es.map fun e => (e.1, dval (kt.dv e.2.1), e.2.2.1, e.2.2.2.map vt.ds))[i]? = some (x.1, dval (kt.dv x.2.1), x.2.2.1, x.2.2.2.map vt.ds) := fun i x hx => by rw [List.getElem?_map, hx]; rfl
    have hat : ∀ (i : Nat) x e, es[i]? = some x → as[i]? = some e → e.born = x.1 ∧ e.key = kt.kval x.2.1 ∧ RD g.γ w (.sl vt.size (x.2.2.2.map vt.ds)) e.val := by
      intro i x e hx he
      obtain ⟨a1, a2, a3, _⟩ := h3 i _ e (hget i x hx) he
      rw [kt.kval_dv _ hk] at a2
      exact ⟨a1, a2, a3⟩
    have hlen : es.length = as.size := by simpa using h2
    refine ⟨as, ⟨h1, by simpa [fgT] using hlen, ?_, ?_, ?_, ?_⟩, ?_⟩
    · rw [fgT_keys]
      apply List.ext_getElem?
      intro i
      rw [List.getElem?_map, List.getElem?_map, List.getElem?_map, Array.getElem?_toList]
      by_cases hi : i < as.size
      · have hi' : i < es.length := by omega
        rw [Array.getElem?_eq_getElem hi, List.getElem?_eq_getElem hi']
        have := (hat i es[i] as[i] (by simp [hi']) (by simp [hi])).2.1
        simp [this]
      · rw [Array.getElem?_eq_none (by omega), List.getElem?_eq_none (by omega)]; rfl
    · intro i x e hx he
      simp only [fgT, List.getElem?_map, Option.map_eq_some_iff] at hx
      obtain ⟨y, hy, rfl⟩ := hx
      exact hat i y e hy he
    · intro p hp
      simp only [fgT, List.mem_map] at hp
      obtain ⟨y, hy, rfl⟩ := hp
      exact h4 _ (List.mem_map_of_mem (f := fun e : Nat × kt.T × Bool × List vt.T => (e.1, dval (kt.dv e.2.1), e.2.2.1, e.2.2.2.map vt.ds)) hy)
    · simpa [fgT, List.map_map, Function.comp_def] using h5
    · intro j x e hx he hf hL
      exact (h3 j _ e (hget j x hx) he).2.2.2 hf hL
theorem MapT.rel {L : Nat} {g : Gh} {w : World} {b : Nat} {es : EntT kt vt} {clock : Nat} {as : Array MapEntry} (hk : kt.key = true) (h : MapT kt vt L g w b es clock as) : ObRel g w b (maptO L kt vt es clock) := by
  have hf : ∀ (i : Nat) x, es[i]? = some x → (fgT es)[i]? = some (x.1, x.2.1, x.2.2.2) := fun i x hx => by simp [fgT, hx]
  refine .mapt L vt.size _ clock as h.m.heap (by have := h.m.len; simpa [fgT] using this) ?_ ?_ ?_
  · intro i x e hx he
    rw [List.getElem?_map, Option.map_eq_some_iff] at hx
    obtain ⟨y, hy, rfl⟩ := hx
    obtain ⟨a1, a2, a3⟩ := h.m.at' i _ e (hf i y hy) he
    simp only [kt.kval_dv _ hk]
    exact ⟨a1, a2, a3, fun h1 h2 => h.t i y e hy he h1 h2⟩
  · intro p hp
    rw [List.mem_map] at hp
    obtain ⟨y, hy, rfl⟩ := hp
    exact h.m.lt _ (List.mem_map_of_mem (f := fun e : Nat × kt.T × Bool × List vt.T => (e.1, e.2.1, e.2.2.2)) hy)
  · have := h.m.nodup
    simpa [fgT, List.map_map, Function.comp_def] using this
theorem MapT.lt {L : Nat} {g : Gh} {w : World} {b : Nat} {es : EntT kt vt} {clock : Nat} {as : Array MapEntry} (h : MapT kt vt L g w b es clock as) : ∀ p ∈ es, p.1 < clock := fun y hy => h.m.lt _ (List.mem_map_of_mem (f := fun e : Nat × kt.T × Bool × List vt.T => (e.1, e.2.1, e.2.2.2)) hy)
theorem MapT.nodup {L : Nat} {g : Gh} {w : World} {b : Nat} {es : EntT kt vt} {clock : Nat} {as : Array MapEntry} (h : MapT kt vt L g w b es clock as) : (es.map (·.1)).Nodup := by
  have := h.m.nodup
  simpa [fgT, List.map_map, Function.comp_def] using this
theorem sameL_of {es es' : EntT kt vt} (hl : es'.length = es.length) (h : ∀ (j : Nat) (x' : EntE kt vt), es'[j]? = some x' → ∃ x : EntE kt vt, es[j]? = some x ∧ x'.1 = x.1 ∧ x'.2.1 = x.2.1 ∧ x'.2.2.2 = x.2.2.2) : SameL (lT es) (lT es') := by
  refine ⟨by simp [lT, hl], fun j x' hx => ?_⟩
  simp only [lT, List.getElem?_map, Option.map_eq_some_iff] at hx
  obtain ⟨y, hy, rfl⟩ := hx
  obtain ⟨x, a1, a2, a3, a4⟩ := h j y hy
  refine ⟨(x.1, dval (kt.dv x.2.1), x.2.2.1, x.2.2.2.map vt.ds), by simp [lT, a1], a2, ?_, ?_⟩
  · simp only [a3]
  · simp only [a4]
end
section
variable {P : Program} {o : Oper} {X : Store} {kt vt : Ty}
theorem op_makeMapT {t : TypeId} (k L : Nat) (ho : o.op = .makeMap t none) (hk : X.objs.lookup k = none) (hX : objsFree [k] X = true) (hL : L ∉ X.live) (hXL : objsFree [L] X = true) :
    OpT P o [] X ⟨(k, maptO L kt vt [] 0) :: X.objs, L :: X.live⟩ [L, k] (.mp k) := by
  intro nm hsm B g w a hr hrd next Q hn
  obtain ⟨hr1, ht1⟩ := hr.addTip hL none hXL (by simp)
  obtain ⟨h1, h2⟩ := hr1.newObj (k := k) hk hX (.map #[] 0) (maptO L kt vt [] 0) (by
    intro g' w' _ hw
    exact .mapt L vt.size [] 0 #[] hw rfl (by simp) (by simp) (by simp))
  unfold Oper.wp
  have : (execOp a.eval o).run P w = .ok (.value (.map (some w.heap.size))) (w.alloc (.map #[] 0)) := by
    simp [execOp, ho, Instr.makeMap]
  rw [this]
  refine hn _ _ _ h1 (ht1.trans h2) (.nm _ _ _ ?_)
  show Value.map (some w.heap.size) = .map (some (upd g.ρ k w.heap.size k))
  rw [upd_same]
noncomputable def tipRes {vt : Ty} (ok : Bool) (n : Nat) (l : List vt.T) (b : Bool) : AV := if ok then .tup [.tip n vt.size (l.map vt.ds), .d (.bool b)] else .tip n vt.size (l.map vt.ds)
theorem tipRes_ra {g : Gh} {w : World} {ok : Bool} {n : Nat} {l : List vt.T} {u : Value} {b : Bool} (h : RA g w (.tip n vt.size (l.map vt.ds)) u) : RA g w (tipRes ok n l b) (if ok then .tuple #[u, .bool b] else u) := by
  cases ok with
  | false => exact h
  | true =>
    refine .tup _ _ rfl fun i c x hc hx => ?_
    rcases i with _ | _ | i
    · simp at hc hx; subst hc; subst hx; exact h
    · simp at hc hx; subst hc; subst hx; exact .ofSc _ _ _
    · simp at hc
noncomputable def blkOf : Value → Option Nat
  | .slice (some a) _ _ => some a.block
  | _ => none
theorem op_lookupT {t e : TypeId} {x y : Operand} {ok : Bool} {k L n : Nat} {es : EntT kt vt} {clock : Nat} {a : kt.T} {i : TypeInfo} (ho : o.op = .lookup t x y ok) (hm : MapI P t kt (.sl vt) e) (hi : P.info? e = some i) (hz : i.zero = some (.slice none 0 0))
    (hk : X.objs.lookup k = some (maptO L kt vt es clock)) (hfree : restFree k L X) (hf : tflag a es = true) (hn : n ∉ X.live) (hnX : objsFree [n] ⟨Ab.setObj k (maptO L kt vt (toff a es) clock) X.objs, X.live⟩ = true) (hL : L ∈ X.live) :
    OpT P o [(x, .mp k), (y, .d (kt.dv a))] X ⟨Ab.setObj k (maptO L kt vt (toff a es) clock) X.objs, n :: X.live⟩ [L, n] (tipRes ok n (tval a es) (thas a es)) := by
  intro nm hsm B g w ac hr hrd next Q hnext
  obtain ⟨kty, hu, hK⟩ := hm.und
  have h1 := (rd0 hrd).mp_inv
  have h2 : ac.eval y = kt.kval a := by
    have := rd1 hrd
    cases this with
    | d _ _ h => exact kt.kval_inv hK.key h
  simp only at h1
  obtain ⟨as, hw⟩ := mapt_of hK.key (hr.objs k _ hk)
  have hLs : (g.β L).isSome := (hr.live L).1 hL
  have hfd := hw.m.find hK a
  have hc := hK.check as.isEmpty 9998 a w
  have hget := MapKept.run_getObj_map (P := P) hw.m.heap
  have hlen : es.length = as.size := by have := hw.m.len; simpa [fgT] using this
  -- what is found
  obtain ⟨val, hrun, hval, htip⟩ : ∃ val, (execOp ac.eval o).run P w = .ok (.value (if ok then .tuple #[val, .bool (thas a es)] else val)) w ∧ RD g.γ w (.sl vt.size ((tval a es).map vt.ds)) val ∧ TipE g w L (tborn a es clock) vt.size val := by
    rw [fgT_keys] at hfd
    have hth := tget_kidx a es
    cases hj : kidx kt a (es.map (·.2.1)) with
    | none =>
      rw [hj] at hfd hth
      simp only [Option.bind_none] at hfd hth
      refine ⟨.slice none 0 0, ?_, ?_, trivial⟩
      · simp only [execOp, ho, h1, h2, Instr.lookup, Sem.run_bind, run_underlying hu, Result.andThen_ok, Sem.run_pure, hget, hc, hfd]
        simp [zeroValue, typeInfo, hi, hz, thas, hth]
      · simp only [tval, hth, List.map_nil]
        exact .nil _ _ _ fun _ => rfl
    | some j =>
      have hj' := kidx_lt hj
      rw [List.length_map] at hj'
      have hja : j < as.size := by omega
      rw [hj] at hfd hth
      simp only [Option.bind_some, Array.getElem?_eq_getElem hja, Option.map_some] at hfd
      simp only [Option.bind_some, List.getElem?_eq_getElem hj', Option.map_some] at hth
      refine ⟨as[j].val, ?_, ?_, ?_⟩
      · simp only [execOp, ho, h1, h2, Instr.lookup, Sem.run_bind, run_underlying hu, Result.andThen_ok, Sem.run_pure, hget, hc, hfd]
        simp [thas, hth]
      · have := (hw.m.at' j (es[j].1, es[j].2.1, es[j].2.2.2) as[j] (by simp [fgT, hj']) (by simp [hja])).2.2
        simp only [tval, hth]
        exact this
      · have hfl : es[j].2.2.1 = true := by simpa [tflag, hth] using hf
        have := hw.t j es[j] as[j] (by simp [hj']) (by simp [hja]) hfl hLs
        simp only [tborn, hth]
        exact this
  -- taken out
  have hoff := toff_at a es
  obtain ⟨hr1, ht1⟩ := hr.takeE (i := tborn a es clock) (l := lT es) (l' := lT (toff a es)) hk hfree (sameL_of hoff.1 fun j x' hx => by
      obtain ⟨x, a1, a2, a3, a4, _⟩ := hoff.2 j x' hx
      exact ⟨x, a1, a2, a3, a4⟩) (by
    intro j x' x hx' hx hflag
    simp only [lT, List.getElem?_map, Option.map_eq_some_iff] at hx hx'
    obtain ⟨y', hy', rfl⟩ := hx'
    obtain ⟨y0, hy, rfl⟩ := hx
    obtain ⟨x, a1, a2, a3, a4, a5⟩ := hoff.2 j y' hy'
    rw [hy] at a1
    cases a1
    obtain ⟨b1, b2⟩ := a5 hflag
    exact ⟨b1, born_ne hy b2 hw.lt hw.nodup⟩)
  obtain ⟨hr2, ht2⟩ := hr1.addTip (m := n) hn (blkOf val) hnX (by
    intro b hb
    cases val with
    | slice ad len cap =>
      cases ad with
      | none => simp [blkOf] at hb
      | some ad =>
        simp only [blkOf, Option.some.injEq] at hb
        subst hb
        obtain ⟨q1, q2, q3, q4⟩ := htip
        refine ⟨hr.eta.lt L _ _ hLs q2, hr.eta.new L _ _ hLs q2, fun j p hj => ?_, fun m hm => hr.eta.tip L _ _ m hLs q2 hm, fun L' i' hL' he => ?_⟩
        · obtain ⟨q, hq⟩ := setObj_some hk hj
          exact hr.eta.obj L _ _ j q hLs q2 hq
        · simp only at he hL'
          by_cases hl : L' = L
          · subst hl
            rw [upd_same] at he
            by_cases hi' : i' = tborn a es clock
            · subst hi'; rw [upd_same] at he; cases he
            · rw [upd_other _ _ hi'] at he
              exact hi' (hr.eta.inj _ _ _ _ _ hLs hLs he q2).2
          · rw [upd_other _ _ hl] at he
            exact hl (hr.eta.inj _ _ _ _ _ hL' hLs he q2).1
    | _ => simp [blkOf] at hb)
  unfold Oper.wp
  rw [hrun]
  refine hnext _ w _ hr2 (ht1.trans ht2) (tipRes_ra (.tip n vt.size _ none _ hval ?_))
  cases val with
  | slice ad len cap =>
    cases ad with
    | none => trivial
    | some ad =>
      obtain ⟨q1, q2, q3, q4⟩ := htip
      intro ob' hob'
      simp only [upd_same, Option.some.injEq] at hob'
      exact ⟨q1, hob'.symm, q3, q4, by simp⟩
  | _ => trivial
theorem setObj_setObj (k : Nat) (o o' : Ob) : ∀ l : List (Nat × Ob), Ab.setObj k o (Ab.setObj k o' l) = Ab.setObj k o l
  | [] => by simp [Ab.setObj]
  | (j, p) :: r => by
    simp only [Ab.setObj]
    by_cases h : j = k
    · simp [h, Ab.setObj]
    · simp only [if_neg h, Ab.setObj, setObj_setObj k o o' r]
theorem MapW.update {g : Gh} {w : World} {b : Nat} {es : Ents kt vt} {clock : Nat} {as : Array MapEntry} {t e kty : TypeId} (hw : MapW kt vt g w b es clock as) (hu : P.underlying t = some (.map kty e)) (hK : KeyI P kty kt) (a : kt.T) (v : vt.T) (val : Value) (h3 : RD g.γ w (vt.dv v) val) :
    ∃ as', (Instr.mapUpdate t (.map (some b)) (kt.kval a) val).run P w = .ok () { w with heap := w.heap.setIfInBounds b (.map as' (mclk a es clock)) } ∧
      (∀ w', w'.heap[b]? = some (.map as' (mclk a es clock)) → LeD g.γ w g.γ w' → MapW kt vt g w' b (mput a v clock es) (mclk a es clock) as') ∧
      ∀ (j : Nat) e', as'[j]? = some e' → (j = (kidx kt a (es.map (·.2.1))).getD es.length ∧ e'.val = val) ∨ (j ≠ (kidx kt a (es.map (·.2.1))).getD es.length ∧ as[j]? = some e') := by
  have hf := hw.find hK a
  have hc := hK.check false 9998 a w
  have hst := hK.stays a w
  have hget := MapKept.run_getObj_map (P := P) hw.heap
  have hset := run_setObj_m (P := P) hw.heap
  have ec := mclk_kidx a es clock
  cases hj : kidx kt a (es.map (·.2.1)) with
  | none =>
    rw [hj] at hf
    simp only [Option.bind_none] at hf
    rw [hj] at ec
    simp only at ec
    rw [ec, mput_none hj]
    refine ⟨as.push { key := kt.kval a, val := val, born := clock }, ?_, ?_, ?_⟩
    · simp only [Instr.mapUpdate, Sem.run_bind, run_underlying hu, Result.andThen_ok, hget, hc, hf, hset]
    · intro w' hb' hle
      refine ⟨hb', by simp [hw.len], by simp [hw.keys], ?_, ?_, ?_⟩
      · intro i q m hq hm'
        by_cases hi : i < es.length
        · rw [List.getElem?_append_left hi] at hq
          rw [Array.getElem?_push, if_neg (by rw [← hw.len]; omega)] at hm'
          have := hw.at' i q m hq hm'
          exact ⟨this.1, this.2.1, this.2.2.mono hle⟩
        · rw [List.getElem?_append_right (by omega)] at hq
          have hi0 : i = es.length := by
            by_cases h0 : i - es.length = 0
            · omega
            · rw [List.getElem?_eq_none (by simp; omega)] at hq; cases hq
          subst hi0
          simp at hq
          rw [hw.len] at hm'
          simp at hm'
          subst hq; subst hm'
          exact ⟨rfl, rfl, h3.mono hle⟩
      · intro p hp
        rcases List.mem_append.1 hp with hp | hp
        · have := hw.lt p hp; omega
        · simp at hp; subst hp; exact Nat.lt_succ_self _
      · rw [List.map_append, List.nodup_append]
        refine ⟨hw.nodup, by simp, ?_⟩
        intro p hp q hq
        simp at hq
        subst hq
        obtain ⟨y', hy', rfl⟩ := List.mem_map.1 hp
        have := hw.lt y' hy'
        omega
    · intro j e' he
      simp only [Option.getD_none]
      rw [Array.getElem?_push, ← hw.len] at he
      split at he
      · rename_i hjj
        cases he
        exact .inl ⟨hjj, rfl⟩
      · rename_i hjj
        exact .inr ⟨hjj, he⟩
  | some j =>
    have hj' := kidx_lt hj
    rw [List.length_map] at hj'
    have hja : j < as.size := by rw [← hw.len]; exact hj'
    have hat := kidx_at hK.key hj
    rw [List.getElem?_map, List.getElem?_eq_getElem hj'] at hat
    simp only [Option.map_some, Option.some.injEq] at hat
    have hkj : as[j].key = kt.kval a := by rw [(hw.at' j es[j] as[j] (by simp [hj']) (by simp [hja])).2.1, hat]
    rw [hj] at hf
    simp only [Option.bind_some, Array.getElem?_eq_getElem hja, Option.map_some] at hf
    rw [hj] at ec
    simp only at ec
    rw [ec, mput_some hj]
    refine ⟨as.modify j fun q => { q with key := kt.kval a, val := val }, ?_, ?_, ?_⟩
    · simp only [Instr.mapUpdate, Sem.run_bind, run_underlying hu, Result.andThen_ok, hget, hc, hf, Array.getElem?_eq_getElem hja, Option.map_some, Option.getD_some, hkj, hst, hset]
    · intro w' hb' hle
      have hent : ∀ (i : Nat) q m, (es.modify j fun q => (q.1, a, v))[i]? = some q → (as.modify j fun q => { q with key := kt.kval a, val := val })[i]? = some m → m.born = q.1 ∧ m.key = kt.kval q.2.1 ∧ RD g.γ w' (vt.dv q.2.2) m.val := by
        intro i q m hq hm'
        rw [List.getElem?_modify] at hq
        rw [Array.getElem?_modify] at hm'
        by_cases hij : j = i
        · subst hij
          rw [List.getElem?_eq_getElem hj'] at hq
          rw [Array.getElem?_eq_getElem hja] at hm'
          simp at hq hm'
          subst hq; subst hm'
          exact ⟨(hw.at' j es[j] as[j] (by simp [hj']) (by simp [hja])).1, rfl, h3.mono hle⟩
        · rw [if_neg hij] at hm'
          simp only [hij, if_false] at hq
          have := hw.at' i q m (by simpa using hq) hm'
          exact ⟨this.1, this.2.1, this.2.2.mono hle⟩
      refine ⟨hb', by simp [hw.len], ?_, hent, ?_, ?_⟩
      · apply List.ext_getElem?
        intro i
        rw [List.getElem?_map, List.getElem?_map, List.getElem?_map, Array.getElem?_toList]
        by_cases hi : i < as.size
        · have hi' : i < es.length := by rw [hw.len]; exact hi
          have hA : i < (as.modify j fun q => { q with key := kt.kval a, val := val }).size := by simpa using hi
          have hE : i < (es.modify j fun q => (q.1, a, v)).length := by simpa using hi'
          rw [Array.getElem?_eq_getElem hA, List.getElem?_eq_getElem hE]
          have := (hent i _ _ (List.getElem?_eq_getElem hE) (Array.getElem?_eq_getElem hA)).2.1
          simp only [Option.map_some, this]
        · rw [Array.getElem?_eq_none (by simpa using hi), List.getElem?_eq_none (by simp [hw.len]; omega)]; rfl
      · intro p hp
        have h5 : p.1 ∈ ((es.modify j fun q => (q.1, a, v)).map (·.1)) := List.mem_map_of_mem (f := (·.1)) hp
        rw [nodup_modify (fun q : Nat × kt.T × vt.T => q.1) (fun q : Nat × kt.T × vt.T => (q.1, a, v)) (fun _ => rfl) es j] at h5
        obtain ⟨q, hq, he⟩ := List.mem_map.1 h5
        rw [← he]; exact hw.lt q hq
      · rw [nodup_modify (fun q : Nat × kt.T × vt.T => q.1) (fun q : Nat × kt.T × vt.T => (q.1, a, v)) (fun _ => rfl) es j]; exact hw.nodup
    · intro i e' he
      simp only [Option.getD_some]
      rw [Array.getElem?_modify] at he
      by_cases hij : j = i
      · subst hij
        rw [if_pos rfl, Array.getElem?_eq_getElem hja] at he
        simp at he
        subst he
        exact .inl ⟨rfl, rfl⟩
      · rw [if_neg hij] at he
        exact .inr ⟨Ne.symm hij, he⟩
theorem op_mapUpdateT {t e : TypeId} {x y u : Operand} {k L n : Nat} {es : EntT kt vt} {clock : Nat} {a : kt.T} {v : List vt.T} {ty : Option TypeId} (ho : o.op = .mapUpdate t x y u ∨ o.op = .insert t x y u) (hm : MapI P t kt (.sl vt) e)
    (hk : X.objs.lookup k = some (maptO L kt vt es clock)) (hfree : restFree k L X) (hnl : n ∈ X.live) :
    OpT P o [(x, .mp k), (y, .d (kt.dv a)), (u, .tip n vt.size (v.map vt.ds) ty)] X ⟨Ab.setObj k (maptO L kt vt (tput a v true clock es) (mclk a (fgT es) clock)) X.objs, X.live.filter (· != n)⟩ [L] (.d (.sc undef)) := by
  intro nm hsm B g w ac hr hrd next Q hn
  obtain ⟨kty, hu, hK⟩ := hm.und
  have h1 := (rd0 hrd).mp_inv
  have h2 : ac.eval y = kt.kval a := by
    have := rd1 hrd
    cases this with
    | d _ _ h => exact kt.kval_inv hK.key h
  obtain ⟨h3, h4⟩ : RD g.γ w ((Ty.sl vt).dv v) (ac.eval u) ∧ TipOk g w n vt.size ty (ac.eval u) := by
    have := rd2 hrd
    cases this with
    | tip _ _ _ _ _ h h' => exact ⟨h, h'⟩
  simp only at h1
  obtain ⟨as, hw⟩ := mapt_of hK.key (hr.objs k _ hk)
  obtain ⟨as', e1, e2, e3⟩ := hw.m.update hu hK a v (ac.eval u) h3
  rw [fgT_keys] at e3
  have hJ : (kidx kt a (es.map (·.2.1))).getD (fgT es).length = tidx a es := by simp [tidx, fgT]
  rw [hJ] at e3
  have hlt : g.ρ k < w.heap.size := (Array.getElem?_eq_some_iff.1 hw.m.heap).1
  obtain ⟨w1, hw1⟩ : ∃ w1 : World, w1 = { w with heap := w.heap.setIfInBounds (g.ρ k) (.map as' (mclk a (fgT es) clock)) } := ⟨_, rfl⟩
  have hb1 : w1.heap[g.ρ k]? = some (.map as' (mclk a (fgT es) clock)) := by rw [hw1]; simp [Array.getElem?_setIfInBounds, hlt]
  -- written, as data
  obtain ⟨hr1, ht1⟩ := hr.write (w' := w1) (o' := maptO L kt vt (tput a v false clock es) (mclk a (fgT es) clock)) hk (by rw [hw1]; simp) (by rw [hw1]; exact ⟨rfl, rfl, rfl, Nat.le_refl _⟩)
    (by intro b hb'; rw [hw1]; simp [Array.getElem?_setIfInBounds, Ne.symm hb']) (fun ht => MapT.rel hK.key (as := as') ⟨by rw [fgT_put]; exact e2 w1 hb1 ht.le, by
      intro j q m hq hm' hfl hL
      rcases tput_at a v false clock es j q hq with ⟨p1, p2, p3⟩ | ⟨p1, p2⟩
      · rw [p2] at hfl; cases hfl
      · rcases e3 j m hm' with ⟨r1, r2⟩ | ⟨r1, r2⟩
        · exact (p1 r1).elim
        · exact (hw.t j q m p2 r2 hfl hL).keep ht (by simp) hL⟩) (by
      intro sh hsh
      simp [World.shape?, hw.m.heap] at hsh)
  obtain ⟨ob, hob⟩ : ∃ ob, g.β n = some ob := Option.isSome_iff_exists.1 ((hr.live n).1 hnl)
  have h4' : TipOk g w1 n vt.size ty (ac.eval u) := h4.keep ht1 (by simp)
  -- the label goes
  obtain ⟨hr2, ht2⟩ := hr1.dropTip n
  have hk2 : (Ab.setObj k (maptO L kt vt (tput a v false clock es) (mclk a (fgT es) clock)) X.objs).lookup k = some (maptO L kt vt (tput a v false clock es) (mclk a (fgT es) clock)) := by rw [lookup_setObj, if_pos rfl]
  have hsame := tput_same a v false true clock es
  obtain ⟨hr3, ht3⟩ := hr2.giveE (i := tborn a es clock) (ob := blkOf (ac.eval u)) (l := lT (tput a v false clock es)) (l' := lT (tput a v true clock es)) (L := L) hk2 (by
      intro j p hj hp
      simp only at hp
      rw [lookup_setObj, if_neg hj] at hp
      exact hfree j p hj hp) (by
      intro b hb
      have hob1 : g.β n = some (some b) := by
        generalize ac.eval u = val at hb h4
        cases val with
        | slice ad len cap =>
          cases ad with
          | none => simp [blkOf] at hb
          | some ad =>
            simp only [blkOf, Option.some.injEq] at hb
            subst hb
            rw [hob, (h4 ob hob).2.1]
        | _ => simp [blkOf] at hb
      refine ⟨hr1.tiplt n b hob1, hr1.tipnew n b hob1, fun j p hj => hr1.tipobj n b j p hob1 hj, fun m hm => ?_, hr1.eta.dropN hob1⟩
      by_cases he : m = n
      · subst he; simp [upd_same] at hm
      · simp only [upd_other _ _ he] at hm
        exact he (hr1.tipinj m n b hm hob1)) (sameL_of hsame.1 hsame.2) (by
      intro j x' x0 hx' hx hflag
      simp only [lT, List.getElem?_map, Option.map_eq_some_iff] at hx hx'
      obtain ⟨y', hy', rfl⟩ := hx'
      obtain ⟨y0, hy0, rfl⟩ := hx
      rcases tput_at a v true clock es j y' hy' with ⟨p1, p2, p3⟩ | ⟨p1, p2⟩
      · right
        rcases tput_at a v false clock es j y0 hy0 with ⟨r1, r2, r3⟩ | ⟨r1, r2⟩
        · refine ⟨r3, ?_⟩
          intro bs m hbs hm'
          simp only at hbs
          rw [hb1] at hbs
          cases hbs
          rcases e3 j m hm' with ⟨s1, s2⟩ | ⟨s1, s2⟩
          · rw [s2]
            generalize ac.eval u = val at h4'
            cases val with
            | slice ad len cap =>
              cases ad with
              | none => trivial
              | some ad =>
                obtain ⟨q1, q2, q3, q4, _⟩ := h4' ob hob
                refine ⟨q1, ?_, q3, q4⟩
                simp only [upd_same, blkOf]
            | _ => trivial
          · exact (s1 p1).elim
        · exact (r1 p1).elim
      · left
        rcases tput_at a v false clock es j y0 hy0 with ⟨r1, r2, r3⟩ | ⟨r1, r2⟩
        · exact (p1 r1).elim
        · rw [p2] at r2
          cases r2
          exact ⟨hflag, born_ne p2 p1 hw.lt hw.nodup⟩)
  have hrun : (execOp ac.eval o).run P w = .ok .skip w1 := by
    rw [hw1]
    rcases ho with ho | ho <;> simp [execOp, ho, h1, h2, e1]
  unfold Oper.wp
  rw [hrun]
  have hX : Ab.setObj k (maptO L kt vt (tput a v true clock es) (mclk a (fgT es) clock)) (Ab.setObj k (maptO L kt vt (tput a v false clock es) (mclk a (fgT es) clock)) X.objs) = Ab.setObj k (maptO L kt vt (tput a v true clock es) (mclk a (fgT es) clock)) X.objs := setObj_setObj _ _ _ _
  have hr3' : HR nm B _ w1 ⟨Ab.setObj k (maptO L kt vt (tput a v true clock es) (mclk a (fgT es) clock)) (Ab.setObj k (maptO L kt vt (tput a v false clock es) (mclk a (fgT es) clock)) X.objs), X.live.filter (· != n)⟩ := hr3
  rw [hX] at hr3'
  exact hn _ _ undef hr3' ((ht1.trans ht2).trans ht3) (.ofSc _ _ _)
end
section
variable {P : Program} {R : Type}
noncomputable def mapLab (m : Nat) : Nat := 500000 + m
noncomputable def mapTysT (P : Program) (t : TypeId) : Option (Ty × Ty) :=
  match mapTys P t with
  | some (kt, .sl vt) => some (kt, vt)
  | _ => none
noncomputable def xMakeMapT (P : Program) (st : XSt) (o : Oper) (t : TypeId) (r : Option Operand) (K : Out → Option R) : Option R :=
  match r with
  | none => match mapTysT P t, newName o with
    | some ts, some m => cond (fresh m st) (cond (freshL (mapLab m) st.live st) (K ⟨.all, .nm m .m, [], (m, .mapt (mapLab m) ts.1 ts.2 [] 0) :: st.objs, mapLab m :: st.live, [mapLab m, m], [m]⟩) none) none
    | _, _ => none
  | some _ => none
theorem xMakeMapT_ok {o : Oper} {st : XSt} {t : TypeId} {rs : Option Operand} {K : Out → Option R} {r : R} (ho : o.op = .makeMap t rs) (h : xMakeMapT P st o t rs K = some r) : ∃ out, K out = some r ∧ OpOk P o st out := by
  unfold xMakeMapT at h
  split at h
  · split at h
    · rename_i ts m hm hn
      cases hf : fresh m st with
      | false => simp [hf] at h
      | true =>
      cases hl : freshL (mapLab m) st.live st with
      | false => simp [hf, hl] at h
      | true =>
        simp only [hf, hl, cond_true] at h
        obtain ⟨h1, h2⟩ := fresh_ok hf
        obtain ⟨h3, h4⟩ := freshL_ok hl
        refine ⟨_, h, ⟨by simp [imRd], ?_, fun j z hj hz => ?_⟩⟩
        · exact op_makeMapT (kt := ts.1) (vt := ts.2) m (mapLab m) ho (fresh_im h1) h2 h3 h4
        · rw [lk_cons_ne (by simpa using hj)] at hz; exact hz
    · cases h
  · cases h
noncomputable def restFreeB (k L : Nat) (st : XSt) : Bool := objsFreeX [L] (xset k (.sit [] 0) st.objs)
theorem restFreeB_ok {k L : Nat} {st : XSt} (h : restFreeB k L st = true) : restFree k L st.X := by
  have h1 := objsFreeX_ok (live := st.live) h
  intro j o hj ho
  have h2 : (imObjs (xset k (.sit [] 0) st.objs)).lookup j = some o := by
    rw [im_xset, lookup_setObj, if_neg hj]; exact ho
  rcases objsFree_get h1 h2 with h3 | h3
  · cases h3
  · exact h3
noncomputable def isNilZ (P : Program) (e : TypeId) : Bool :=
  match P.info? e with
  | some i => match i.zero with
    | some (.slice none 0 0) => true
    | _ => false
  | none => false
theorem isNilZ_ok {e : TypeId} (h : isNilZ P e = true) : ∃ i, P.info? e = some i ∧ i.zero = some (.slice none 0 0) := by
  unfold isNilZ at h
  split at h
  · rename_i i hi
    split at h
    · rename_i hz; exact ⟨i, hi, hz⟩
    · cases h
  · cases h
noncomputable def tipX {vt : Ty} (ok : Bool) (n : Nat) (l : List vt.T) (b : Bool) : XV := cond ok (.tup [.tip n vt l none, .d (.b b)]) (.tip n vt l none)
theorem tipX_a {vt : Ty} (ok : Bool) (n : Nat) (l : List vt.T) (b : Bool) : (tipX ok n l b).a = tipRes ok n l b := by cases ok <;> rfl
noncomputable def xLookupT (P : Program) (st : XSt) (o : Oper) (t : TypeId) (x y : Operand) (ok : Bool) (K : Out → Option R) : Option R :=
  match xeval st x with
  | some (.nm k .m) => match lk k st.objs with
    | some (.mapt L kt vt es c) => match mapChk P t kt, xd st y, newLab o with
      | some e, some a, some n => match kt.decv a with
        | some a => cond (isNilZ P e) (cond (inl L st.live) (cond (inl n st.live) none (cond (restFreeB k L st) (cond (objsFreeX [n] (xset k (.mapt L kt vt (toff a es) c) st.objs)) (cond (tflag a es)
            (K ⟨.putl k (.mapt L kt vt (toff a es) c), tipX ok n (tval a es) (thas a es), [(x, .nm k .m), (y, .d (kt.xv a))], xset k (.mapt L kt vt (toff a es) c) st.objs, n :: st.live, [L, n], [k]⟩) none) none) none)) none) none
        | _ => none
      | _, _, _ => none
    | _ => none
  | _ => none
theorem xLookupT_ok {o : Oper} {st : XSt} {t : TypeId} {x y : Operand} {ok : Bool} {K : Out → Option R} {r : R} (ho : o.op = .lookup t x y ok) (h : xLookupT P st o t x y ok K = some r) : ∃ out, K out = some r ∧ OpOk P o st out := by
  unfold xLookupT at h
  split at h
  · rename_i k hx
    split at h
    · rename_i L kt vt es c hk
      split at h
      · rename_i e a0 n hm hy hn
        split at h
        · rename_i a ha
          cases h1 : isNilZ P e with
          | false => simp [h1] at h
          | true =>
          cases h2 : inl L st.live with
          | false => simp [h1, h2] at h
          | true =>
          cases h3 : inl n st.live with
          | true => simp [h1, h2, h3] at h
          | false =>
          cases h4 : restFreeB k L st with
          | false => simp [h1, h2, h3, h4] at h
          | true =>
          cases h5 : objsFreeX [n] (xset k (.mapt L kt vt (toff a es) c) st.objs) with
          | false => simp [h1, h2, h3, h4, h5] at h
          | true =>
          cases h6 : tflag a es with
          | false => simp [h1, h2, h3, h4, h5, h6] at h
          | true =>
            simp only [h1, h2, h3, h4, h5, h6, cond_true, cond_false] at h
            obtain ⟨i, z1, z2⟩ := isNilZ_ok h1
            refine ⟨_, h, ⟨?_, ?_, fun j z hj hz => ?_⟩⟩
            · intro p hp
              simp only [imRd, List.map_cons, List.map_nil, List.mem_cons, List.not_mem_nil, or_false] at hp
              rcases hp with rfl | rfl
              · exact xeval_sees hx
              · exact sees_dec hy ha
            · have hfr := objsFreeX_ok (live := st.live) h5
              rw [im_xset] at hfr
              have := op_lookupT (P := P) (X := st.X) (k := k) (L := L) (n := n) (es := es) (clock := c) (a := a) ho (mapChk_I (vt := .sl vt) hm) z1 z2 (lk_imM hk) (restFreeB_ok h4) h6 (fun hh => by rw [(inl_eq n st.live).2 hh] at h3; cases h3) hfr ((inl_eq L st.live).1 h2)
              refine ⟨rfl, ?_⟩
              show OpT P o _ st.X ⟨imObjs (xset k (.mapt L kt vt (toff a es) c) st.objs), n :: st.live⟩ [L, n] (tipX ok n (tval a es) (thas a es)).a
              rw [im_xset, tipX_a]
              exact this
            · simp only [List.mem_cons, List.not_mem_nil, or_false] at hj
              rwa [lk_xset _ _ _ _ hj] at hz
        · cases h
      · cases h
    · cases h
  · cases h
noncomputable def xMapUpdateT (P : Program) (st : XSt) (t : TypeId) (x y u : Operand) (K : Out → Option R) : Option R :=
  match xeval st x with
  | some (.nm k .m) => match lk k st.objs with
    | some (.mapt L kt vt es c) => match mapChk P t kt, xd st y, xeval st u with
      | some e, some a, some (.tip n vt' l ty) => match kt.decv a with
        | some a => if h : vt'.eqb vt = true then
            cond (inl n st.live) (cond (restFreeB k L st)
              (K ⟨.putl k (.mapt L kt vt (tput a (Ty.eqb_eq h ▸ l : List vt.T) true c es) (mclk a (fgT es) c)), .d (.v undef), [(x, .nm k .m), (y, .d (kt.xv a)), (u, .tip n vt' l ty)], xset k (.mapt L kt vt (tput a (Ty.eqb_eq h ▸ l : List vt.T) true c es) (mclk a (fgT es) c)) st.objs, without n st.live, [L], [k]⟩) none) none
            else none
        | _ => none
      | _, _, _ => none
    | _ => none
  | _ => none
theorem xMapUpdateT_ok {o : Oper} {st : XSt} {t : TypeId} {x y u : Operand} {K : Out → Option R} {r : R} (ho : o.op = .mapUpdate t x y u ∨ o.op = .insert t x y u) (h : xMapUpdateT P st t x y u K = some r) : ∃ out, K out = some r ∧ OpOk P o st out := by
  unfold xMapUpdateT at h
  split at h
  · rename_i k hx
    split at h
    · rename_i L kt vt es c hk
      split at h
      · rename_i e a0 n vt' l ty hm hy hu
        split at h
        · rename_i a ha
          split at h
          · rename_i he
            have e0 := Ty.eqb_eq he
            subst e0
            cases h1 : inl n st.live with
            | false => simp [h1] at h
            | true =>
            cases h2 : restFreeB k L st with
            | false => simp [h1, h2] at h
            | true =>
              simp only [h1, h2, cond_true] at h
              refine ⟨_, h, ⟨?_, ?_, fun j z hj hz => ?_⟩⟩
              · intro p hp
                simp only [imRd, List.map_cons, List.map_nil, List.mem_cons, List.not_mem_nil, or_false] at hp
                rcases hp with rfl | rfl | rfl
                · exact xeval_sees hx
                · exact sees_dec hy ha
                · exact xeval_sees hu
              · have := op_mapUpdateT (P := P) (X := st.X) (k := k) (L := L) (n := n) (es := es) (clock := c) (a := a) (v := l) (ty := ty) ho (mapChk_I (vt := .sl vt') hm) (lk_imM hk) (restFreeB_ok h2) ((inl_eq n st.live).1 h1)
                refine ⟨rfl, ?_⟩
                show OpT P o _ st.X ⟨imObjs (xset k _ st.objs), _⟩ [L] _
                rw [im_xset]
                exact this
              · simp only [List.mem_cons, List.not_mem_nil, or_false] at hj
                rwa [lk_xset _ _ _ _ hj] at hz
          · cases h
        · cases h
      · cases h
    · cases h
  · cases h
noncomputable def isMaptO (st : XSt) (x : Operand) : Bool :=
  match xeval st x with
  | some (.nm k .m) => match lk k st.objs with
    | some (.mapt _ _ _ _ _) => true
    | _ => false
  | _ => false
noncomputable def fgOb : XOb → XOb
  | .mapt _ kt vt es c => .map kt (.sl vt) (fgT es) c
  | o => o
noncomputable def isMapt : XOb → Bool
  | .mapt _ _ _ _ _ => true
  | _ => false
noncomputable def fgObjs : List (Nat × XOb) → List (Nat × XOb)
  | [] => []
  | p :: r => (p.1, fgOb p.2) :: fgObjs r
noncomputable def fgNames : List (Nat × XOb) → List Nat
  | [] => []
  | p :: r => cond (isMapt p.2) (p.1 :: fgNames r) (fgNames r)
noncomputable def fgSt (st : XSt) : XSt := ⟨st.env, fgObjs st.objs, st.live, st.wl, fgNames st.objs ++ st.ol⟩
theorem lk_fg (k : Nat) : ∀ l : List (Nat × XOb), lk k (fgObjs l) = (lk k l).map fgOb
  | [] => rfl
  | p :: r => by
    simp only [fgObjs, lk_cons, lk_nil]
    cases Nat.beq p.1 k with
    | true => rfl
    | false => exact lk_fg k r
theorem fgNames_mem {k : Nat} {o : XOb} : ∀ {l : List (Nat × XOb)}, lk k l = some o → isMapt o = true → k ∈ fgNames l
  | [], h, _ => by cases h
  | p :: r, h, hm => by
    simp only [lk_cons, lk_nil] at h
    simp only [fgNames]
    cases hb : Nat.beq p.1 k with
    | true =>
      rw [hb] at h
      simp only [cond_true, Option.some.injEq] at h
      rw [h, hm, cond_true, Nat.eq_of_beq_eq_true hb]
      exact List.mem_cons_self
    | false =>
      rw [hb] at h
      simp only [cond_false] at h
      have := fgNames_mem h hm
      cases isMapt p.2 with
      | true => exact List.mem_cons_of_mem _ this
      | false => exact this
theorem fgOb_plain {o : XOb} (h : isMapt o = false) : fgOb o = o := by cases o <;> first | rfl | cases h
theorem plainL_fg {kt vt : Ty} (es : EntT kt vt) : plainL vt.size (lT es) = (fgT es).map fun e => (e.1, dval (kt.dv e.2.1), (Ty.sl vt).dv e.2.2) := by
  simp only [plainL, lT, fgT, List.map_map]
  rfl
theorem SR.fg {S : Sig} {B : Base} {g : Gh} {w : World} {st : XSt} {a : Act} (h : SR S B g w st.im a) : SR S B g w (fgSt st).im a := by
  refine ⟨h.defers, h.size, ?_, h.env⟩
  refine h.hr.plain rfl ?_ ?_
  · intro k hk
    show ((imObjs (fgObjs st.objs)).lookup k).isSome
    rw [im_objs, lk_fg]
    have hk : ((imObjs st.objs).lookup k).isSome := hk
    rw [im_objs] at hk
    cases hl : lk k st.objs with
    | none => rw [hl] at hk; cases hk
    | some o => rfl
  · intro k o' hk
    have hk : (imObjs (fgObjs st.objs)).lookup k = some o' := hk
    rw [im_objs, lk_fg] at hk
    show (imObjs st.objs).lookup k = some o' ∨ ∃ L sz l c, (imObjs st.objs).lookup k = _ ∧ _
    rw [im_objs]
    cases hl : lk k st.objs with
    | none => rw [hl] at hk; cases hk
    | some o =>
      rw [hl] at hk
      simp only [Option.map_some, Option.some.injEq] at hk ⊢
      subst hk
      cases hm : isMapt o with
      | false => left; rw [fgOb_plain hm]
      | true =>
        right
        cases o with
        | mapt L kt vt es c =>
          refine ⟨L, vt.size, lT es, c, rfl, ?_⟩
          rw [plainL_fg]
          rfl
        | _ => cases hm
end
section
variable (kt vt : Ty)
end
end Go.Xl
set_option linter.unusedVariables false
set_option linter.unusedSimpArgs false
set_option linter.unnecessarySimpa false
namespace Go.Xl
open Go.Ab
structure Ent (P : Program) where
  id : FuncId
  run : {R : Type} → Oper → XSt → List XV → (Out → Option R) → Option R
  ok : ∀ {R : Type} (o : Oper) (st : XSt) (args : Array Operand) (ts : Array TypeId) (vs : List XV) (K : Out → Option R) (r : R),
    o.op = .call { callee := .value (.func id), args := args, argTypes := ts } → xevals st args.toList = some vs → run o st vs K = some r → ∃ out, K out = some r ∧ OpOk P o st out
  /-- called by way of a value, with what was captured -/
  crun : {R : Type} → Oper → XSt → List XV → List XV → (Out → Option R) → Option R := fun _ _ _ _ _ => none
  cok : ∀ {R : Type} (o : Oper) (st : XSt) (t : Tmp) (caps : List XV) (args : Array Operand) (ts : Array TypeId) (vs : List XV) (K : Out → Option R) (r : R),
    o.op = .call { callee := .value (.tmp t), args := args, argTypes := ts } → xeval st (.tmp t) = some (.clo id caps) → xevals st args.toList = some vs → crun o st caps vs K = some r → ∃ out, K out = some r ∧ OpOk P o st out := by
    intros; contradiction
noncomputable def entOf {P : Program} (f : FuncId) : List (Ent P) → Option (Ent P)
  | [] => none
  | e :: r => cond (Nat.beq e.id f) (some e) (entOf f r)
theorem entOf_id {P : Program} {f : FuncId} : ∀ {l : List (Ent P)} {e : Ent P}, entOf f l = some e → e.id = f
  | [], e, h => by cases h
  | a :: r, e, h => by
    simp only [entOf] at h
    cases hb : Nat.beq a.id f with
    | true => simp only [hb, cond_true, Option.some.injEq] at h; subst h; exact Nat.eq_of_beq_eq_true hb
    | false => simp only [hb, cond_false] at h; exact entOf_id h
noncomputable def calleeTo (f : FuncId) (o : Oper) : Oper :=
  match o.op with
  | .call c => { o with op := .call { c with callee := .value (.func f) } }
  | _ => o
noncomputable def Out.addRd (out : Out) (p : Operand × XV) : Out := { out with rd := p :: out.rd }
theorem opT_callee {P : Program} {o : Oper} {c : Operand} {f : FuncId} {args : Array Operand} {ts : Array TypeId} {rd : List (Operand × AV)} {X X' : Store} {F : List Nat} {res : AV}
    (ho : o.op = .call { callee := .value c, args := args, argTypes := ts }) (h : OpT P (calleeTo f o) rd X X' F res) : OpT P o ((c, .clo f []) :: rd) X X' F res := by
  intro nm hsm B g w a hr hrd next Q hn
  have e1 := hrd _ (List.mem_cons_self ..)
  simp only at e1
  have hc : a.eval c = .func (.func f) #[] #[] := by
    generalize a.eval c = vc at e1
    cases e1 with
    | clo _ _ vs hlen hvs =>
      have : vs = #[] := by
        apply Array.eq_empty_of_size_eq_zero
        simpa using hlen.symm
      rw [this]
  have hd : (calleeTo f o).dst = o.dst := by unfold calleeTo; rw [ho]
  have h1 := h nm hsm B g w a hr (fun p hp => hrd p (List.mem_cons_of_mem _ hp)) next Q (by rw [hd]; exact hn)
  unfold Oper.wp at h1 ⊢
  have e : execOp a.eval (calleeTo f o) = execOp a.eval o := by
    unfold calleeTo
    simp only [ho, execOp, resolve]
    simp only [hc]
    rfl
  rw [e] at h1
  unfold Oper.upon at h1 ⊢
  rw [hd] at h1
  exact h1
theorem OpOk.callee {P : Program} {o : Oper} {st : XSt} {out : Out} {t : Tmp} {f : FuncId} {args : Array Operand} {ts : Array TypeId} (ho : o.op = .call { callee := .value (.tmp t), args := args, argTypes := ts })
    (hs : xeval st (.tmp t) = some (.clo f [])) (h : OpOk P (calleeTo f o) st out) : OpOk P o st (out.addRd (.tmp t, .clo f [])) := by
  refine ⟨?_, ?_, h.ol⟩
  · intro p hp
    simp only [Out.addRd, imRd, List.map_cons, List.mem_cons] at hp
    rcases hp with rfl | hp
    · exact xeval_sees (x := .tmp t) hs
    · exact h.sees p hp
  · have := h.op
    have e : imRd (out.addRd (.tmp t, .clo f [])).rd = (.tmp t, .clo f []) :: imRd out.rd := rfl
    show match out.eff with | .none => _ | .look ks => _ | .put k c => _ | .all => _ | .lab => _ | .putl k c => _ | .new os => _
    cases he : out.eff with
    | none => rw [he] at this; exact ⟨this.1, this.2.1, this.2.2.1, fun X => opT_callee ho (this.2.2.2 X)⟩
    | look ks => rw [he] at this; exact ⟨this.1, this.2.1, this.2.2.1, fun X hX => opT_callee ho (this.2.2.2 X hX)⟩
    | put k c => rw [he] at this; exact ⟨this.1, this.2.1, this.2.2.1, fun X hX => opT_callee ho (this.2.2.2 X hX)⟩
    | all => rw [he] at this; exact opT_callee ho this
    | lab => rw [he] at this; exact ⟨this.1, opT_callee ho this.2⟩
    | putl k c => rw [he] at this; exact ⟨this.1, opT_callee ho this.2⟩
    | new os => rw [he] at this; exact ⟨this.1, opT_callee ho this.2⟩
section
variable (P : Program) (Γ : List (Ent P)) (own : List Nat) {R : Type}
noncomputable def ownOp (own : List Nat) (o : Oper) : Bool :=
  match o.dst with
  | some d => inl d own
  | none => false
noncomputable def isMapO (st : XSt) (x : Operand) : Bool :=
  match xeval st x with
  | some v => isMapV v
  | none => false
structure XF where
  run : (P : Program) → (R : Type) → List (Ent P) → List Nat → Oper → XSt → (Out → Option R) → Option R
noncomputable def xCallA (c : Call) : XF :=
  match c.callee with
  | .builtin .len => ⟨fun P R Γ own o st K => match c.args.toList with
    | [x] => cond (isMapO st x) (xLenMap P st c.argTypes x K) (xLenAny P st c.argTypes x K)
    | _ => none⟩
  | .builtin .delete => ⟨fun P R Γ own o st K => match c.args.toList with
    | [x, y] => xDelete P st c.argTypes x y K
    | _ => none⟩
  | .builtin .min => ⟨fun P R Γ own o st K => match c.args.toList with
    | [x, y] => xMinMax st true x y K
    | _ => none⟩
  | .builtin .max => ⟨fun P R Γ own o st K => match c.args.toList with
    | [x, y] => xMinMax st false x y K
    | _ => none⟩
  | .builtin .append => ⟨fun P R Γ own o st K => match c.args.toList with
    | [x, y] => cond (ownOp own o) (xAppOwn P st o c.argTypes x y K) (cond (appStrB P c.argTypes) (xAppStr P st o c.argTypes x y K) (xAppend P st o c.argTypes x y K))
    | _ => none⟩
  | .builtin .clear => ⟨fun P R Γ own o st K => match c.args.toList with
    | [x] => xClear P st c.argTypes x K
    | _ => none⟩
  | .builtin .unsafeSliceData => ⟨fun P R Γ own o st K => match c.args.toList with
    | [x] => xSliceData P st o x K
    | _ => none⟩
  | .builtin .unsafeString => ⟨fun P R Γ own o st K => match c.args.toList with
    | [x, y] => xUnsafeStr2 P st c.argTypes x y K
    | _ => none⟩
  | .builtin .copy => ⟨fun P R Γ own o st K => match c.args.toList with
    | [x, y] => xCopy P st c.argTypes x y K
    | _ => none⟩
  | .value (.func f) => ⟨fun P R Γ own o st K => match entOf f Γ, xevals st c.args.toList with
    | some e, some vs => e.run o st vs K
    | _, _ => none⟩
  | .value (.tmp t) => ⟨fun P R Γ own o st K => match xeval st (.tmp t) with
    | some (.clo f caps) => match entOf f Γ, xevals st c.args.toList with
      | some e, some vs => match caps with
        | [] => e.run (calleeTo f o) st vs fun out => K (out.addRd (.tmp t, .clo f []))
        | x :: r => e.crun o st (x :: r) vs K
      | _, _ => none
    | _ => none⟩
  | _ => ⟨fun P R Γ own o st K => none⟩
noncomputable def xCall (o : Oper) (st : XSt) (c : Call) (K : Out → Option R) : Option R := (xCallA c).run P R Γ own o st K
theorem args_eq {c : Call} {l : List Operand} (h : c.args.toList = l) : c.args = l.toArray := by
  rw [← h]
theorem xCall_ok {o : Oper} {st : XSt} {c : Call} {K : Out → Option R} {r : R} (ho : o.op = .call c) (h : xCall P Γ own o st c K = some r) : ∃ out, K out = some r ∧ OpOk P o st out := by
  obtain ⟨cal, args, ts⟩ := c
  unfold xCall xCallA at h
  dsimp only at h
  split at h <;> dsimp only at h
  · split at h
    · rename_i x hl
      have := args_eq (c := ⟨.builtin .len, args, ts⟩) hl
      simp only at this
      subst this
      cases hm : isMapO st x with
      | true => rw [hm] at h; exact xLenMap_ok ho h
      | false => rw [hm] at h; exact xLenAny_ok ho h
    · cases h
  · split at h
    · rename_i x y hl
      have := args_eq (c := ⟨.builtin .len, args, ts⟩) hl
      simp only at this
      subst this
      exact xDelete_ok ho h
    · cases h
  · split at h
    · rename_i x y hl
      have := args_eq (c := ⟨.builtin .len, args, ts⟩) hl
      simp only at this
      subst this
      exact xMin_ok ho h
    · cases h
  · split at h
    · rename_i x y hl
      have := args_eq (c := ⟨.builtin .len, args, ts⟩) hl
      simp only at this
      subst this
      exact xMax_ok ho h
    · cases h
  · split at h
    · rename_i x y hl
      have := args_eq (c := ⟨.builtin .len, args, ts⟩) hl
      simp only at this
      subst this
      cases hw : ownOp own o with
      | true => simp only [hw, cond_true] at h; exact xAppOwn_ok ho h
      | false =>
        simp only [hw, cond_false] at h
        cases hb : appStrB P ts with
        | true => rw [hb] at h; exact xAppStr_ok ho hb h
        | false => rw [hb] at h; exact xAppend_ok ho h
    · cases h
  · split at h
    · rename_i x hl
      have := args_eq (c := ⟨.builtin .len, args, ts⟩) hl
      simp only at this
      subst this
      exact xClear_ok ho h
    · cases h
  · split at h
    · rename_i x hl
      have := args_eq (c := ⟨.builtin .len, args, ts⟩) hl
      simp only at this
      subst this
      exact xSliceData_ok ho h
    · cases h
  · split at h
    · rename_i x y hl
      have := args_eq (c := ⟨.builtin .len, args, ts⟩) hl
      simp only at this
      subst this
      exact xUnsafeStr2_ok ho h
    · cases h
  · split at h
    · rename_i x y hl
      have := args_eq (c := ⟨.builtin .len, args, ts⟩) hl
      simp only at this
      subst this
      exact xCopy_ok ho h
    · cases h
  · rename_i f
    split at h
    · rename_i e vs he hvs
      have := entOf_id he
      subst this
      exact e.ok o st args ts vs K r ho hvs h
    · cases h
  · rename_i t
    split at h
    · rename_i f caps hclo
      split at h
      · rename_i e vs he hvs
        have := entOf_id he
        subst this
        split at h
        · obtain ⟨out, h1, h2⟩ := e.ok (calleeTo e.id o) st args ts vs _ r (by unfold calleeTo; rw [ho]) hvs h
          exact ⟨_, h1, h2.callee ho hclo⟩
        · exact e.cok o st t _ args ts vs K r ho hclo hvs h
      · cases h
    · cases h
  · cases h
noncomputable def xMakeFunc (o : Oper) (st : XSt) (f : FuncId) (first caps : Array Operand) (K : Out → Option R) : Option R :=
  match first.toList with
  | [] => match xevals st caps.toList with
    | some vs => K (quietO st (.clo f vs) (caps.toList.zip vs))
    | none => none
  | _ => none
theorem xMakeFunc_ok {o : Oper} {st : XSt} {f : FuncId} {first caps : Array Operand} {K : Out → Option R} {r : R} (ho : o.op = .makeFunc (.func f) first caps) (h : xMakeFunc o st f first caps K = some r) : ∃ out, K out = some r ∧ OpOk P o st out := by
  unfold xMakeFunc at h
  split at h
  · rename_i hf
    have hf : first = #[] := by
      apply Array.eq_empty_of_size_eq_zero
      rw [← Array.length_toList, hf]; rfl
    subst hf
    split at h
    · rename_i vs hv
      refine ⟨_, h, quietO_ok (xevals_sees hv) fun X => ?_⟩
      refine .quiet fun _ _ g w a _ hrd => ⟨.func (.func f) #[] (caps.map a.eval), ?_, ?_⟩
      · simp only [execOp, ho, Instr.makeFunc]
        simp
      · refine .clo f _ _ (by rw [asOf_length, xevals_len hv]; simp) ?_
        rw [imRd_zip] at hrd
        exact rds_args hrd
    · cases h
  · cases h
noncomputable def xopA (op : Op) : XF :=
  match op with
  | .move x => ⟨fun P R Γ own o st K => xMove st x K⟩
  | .assign x => ⟨fun P R Γ own o st K => xMove st x K⟩
  | .pick c x y => ⟨fun P R Γ own o st K => xPick st c x y K⟩
  | .alloc t => ⟨fun P R Γ own o st K => xAllocAny P (ownOp own o) st o t K⟩
  | .box t x => ⟨fun P R Γ own o st K => xBox st o t x K⟩
  | .build t ps => ⟨fun P R Γ own o st K => xBuild P st t ps K⟩
  | .buildSlice t n ps => ⟨fun P R Γ own o st K => cond (ownOp own o) (xBuildOwn P st o t n ps K) (cond (isEmptyL n ps.toList) (xBuildTip P st o t K) (xBuildSlice P st t n ps K))⟩
  | .load t x => ⟨fun P R Γ own o st K => xLoadH P st t x K⟩
  | .store t x y => ⟨fun P R Γ own o st K => xStore P st t x y K⟩
  | .nilCheck x => ⟨fun P R Γ own o st K => xNil st x K⟩
  | .binOp op t x y _ => ⟨fun P R Γ own o st K => xBinI2 P st op t x y K⟩
  | .unOp op _ x => ⟨fun P R Γ own o st K => xUn st op x K⟩
  | .convert s d x => ⟨fun P R Γ own o st K => xConvS P st s d x K⟩
  | .slice t x lo hi mx => ⟨fun P R Γ own o st K => xSliceAll P st t x lo hi mx K⟩
  | .fieldAddr t x n => ⟨fun P R Γ own o st K => xFieldAddr P st t x n K⟩
  | .field t x n => ⟨fun P R Γ own o st K => xField P st t x n K⟩
  | .indexAddr t x y => ⟨fun P R Γ own o st K => xIndexAny P st t x y K⟩
  | .index t x y => ⟨fun P R Γ own o st K => xIndexS P st t x y K⟩
  | .extract x i => ⟨fun P R Γ own o st K => xExtract st x i K⟩
  | .call c => ⟨fun P R Γ own o st K => xCall P Γ own o st c K⟩
  | .makeFunc (.func f) first caps => ⟨fun P R Γ own o st K => xMakeFunc o st f first caps K⟩
  | .range t x => ⟨fun P R Γ own o st K => cond (isMapO st x) (xRangeMap P st o t x K) (xRange P st o t x K)⟩
  | .makeMap t rs => ⟨fun P R Γ own o st K => cond (ownOp own o) (xMakeMapT P st o t rs K) (xMakeMap P st o t rs K)⟩
  | .lookup t x y ok => ⟨fun P R Γ own o st K => cond (isMaptO st x) (xLookupT P st o t x y ok K) (xLookup P st t x y ok K)⟩
  | .mapUpdate t x y u => ⟨fun P R Γ own o st K => cond (isMaptO st x) (xMapUpdateT P st t x y u K) (xMapUpdate P st t x y u K)⟩
  | .insert t x y u => ⟨fun P R Γ own o st K => cond (isMaptO st x) (xMapUpdateT P st t x y u K) (xMapUpdate P st t x y u K)⟩
  | .makeInterface t x => ⟨fun P R Γ own o st K => xMakeInterface P st t x K⟩
  | .next x str => ⟨fun P R Γ own o st K => xNext st x str K⟩
  | .makeSlice t x y => ⟨fun P R Γ own o st K => xMakeSlice P own st o t x y K⟩
  | _ => ⟨fun P R Γ own o st K => none⟩
noncomputable def xop (o : Oper) (st : XSt) (K : Out → Option R) : Option R := (xopA o.op).run P R Γ own o st K
theorem xop_ok {o : Oper} {st : XSt} {K : Out → Option R} {r : R} (h : xop P Γ own o st K = some r) : ∃ out, K out = some r ∧ OpOk P o st out := by
  unfold xop xopA at h
  split at h <;> rename_i ho <;> dsimp only at h
  · exact xMove_ok (.inl ho) h
  · exact xMove_ok (.inr ho) h
  · exact xPick_ok ho h
  · exact xAllocAny_ok ho h
  · exact xBox_ok ho h
  · exact xBuild_ok ho h
  · rename_i t n ps
    cases hw : ownOp own o with
    | true => simp only [hw, cond_true] at h; exact xBuildOwn_ok ho h
    | false =>
      simp only [hw, cond_false] at h
      cases he : isEmptyL n ps.toList with
      | true => simp only [he, cond_true] at h; exact xBuildTip_ok ho he h
      | false => simp only [he, cond_false] at h; exact xBuildSlice_ok ho h
  · exact xLoadH_ok ho h
  · exact xStore_ok ho h
  · exact xNil_ok ho h
  · exact xBinI2_ok ho h
  · exact xUn_ok ho h
  · exact xConvS_ok ho h
  · exact xSliceAll_ok ho h
  · exact xFieldAddr_ok ho h
  · exact xField_ok ho h
  · exact xIndexAny_ok ho h
  · exact xIndexS_ok ho h
  · exact xExtract_ok ho h
  · exact xCall_ok P Γ own ho h
  · exact xMakeFunc_ok P ho h
  · rename_i t x
    cases hm : isMapO st x with
    | true => rw [hm] at h; exact xRangeMap_ok ho h
    | false => rw [hm] at h; exact xRange_ok ho h
  · cases hw : ownOp own o with
    | true => rw [hw] at h; exact xMakeMapT_ok ho h
    | false => rw [hw] at h; exact xMakeMap_ok ho h
  · rename_i t x y ok
    cases hm : isMaptO st x with
    | true => rw [hm] at h; exact xLookupT_ok ho h
    | false => rw [hm] at h; exact xLookup_ok ho h
  · rename_i t x y u
    cases hm : isMaptO st x with
    | true => rw [hm] at h; exact xMapUpdateT_ok (.inl ho) h
    | false => rw [hm] at h; exact xMapUpdate_ok (.inl ho) h
  · rename_i t x y u
    cases hm : isMaptO st x with
    | true => rw [hm] at h; exact xMapUpdateT_ok (.inr ho) h
    | false => rw [hm] at h; exact xMapUpdate_ok (.inr ho) h
  · exact xMakeInterface_ok ho h
  · exact xNext_ok ho h
  · exact xMakeSlice_ok ho h
  · cases h
noncomputable def xopD (draw : Bool) (o : Oper) (st : XSt) (K : Out → Option R) : Option R :=
  match o.op with
  | .next x str => cond str (xop P Γ own o st K) (cond draw none (xNextM st x K))
  | _ => xop P Γ own o st K
structure Inv (s0 s : XSt) : Prop where
  env : ∀ t x, t ∉ s.wl → lk t s.env = some x → lk t s0.env = some x
  objs : ∀ k x, k ∉ s.ol → lk k s.objs = some x → lk k s0.objs = some x
theorem Inv.refl (s : XSt) : Inv s s := ⟨fun _ _ _ h => h, fun _ _ _ h => h⟩
noncomputable def XEff.e : XEff → Store → Eff
  | .none, _ => .none
  | .look ks, _ => .look ks
  | .put k c, _ => .put k c.o
  | .all, X => .all X
  | .lab, X => .lab X.live
  | .putl k c, X => .putl k c.o X.live
  | .new os, X => .new (imObjs os) X.live
noncomputable def Out.st (out : Out) (o : Oper) (st : XSt) : XSt := ⟨putX o.dst out.res st.env, out.objs, out.live, logW o.dst st.wl, out.ol ++ st.ol⟩
noncomputable def Out.it (out : Out) (o : Oper) : It := ⟨o, true, imRd out.rd, out.eff.e out.X, out.F, out.res.a⟩
noncomputable def skipSt (o : Oper) (st : XSt) : XSt := ⟨putX o.dst (.d (.v undef)) st.env, st.objs, st.live, logW o.dst st.wl, st.ol⟩
noncomputable def skipIt (o : Oper) : It := ⟨o, false, [], .none, [], .d (.sc undef)⟩
noncomputable def knowSt (d : Nat) (b : Bool) (st : XSt) : XSt := ⟨(d, .d (.b b)) :: st.env, st.objs, st.live, st.wl, st.ol⟩
noncomputable def isUndef : XV → Bool
  | .d (.v (.tuple vs)) => Nat.beq vs.size 0
  | _ => false
noncomputable def guardSlot (ops : Array Oper) (j : Nat) : Option Nat :=
  match ops[j]? with
  | some o => o.dst
  | none => none
variable (nt : Nat)
noncomputable def xops (ops : Array Oper) (draw : Bool) (env0 : List (Nat × XV)) (K : XSt → Option R) : List Oper → List It → XSt → Option R
  | [], its, st => cond draw (cond (drawOk ops (imEnv env0) its) (K st) none) (K st)
  | o :: rest, its, st =>
    cond (dstOk nt o.dst)
      (match o.guard with
      | none => xopD P Γ own draw o st fun out => cond (cond draw true (envFree out.F (imEnv st.env))) (xops ops draw env0 K rest (its ++ [out.it o]) (out.st o st)) none
      | some (j, want) =>
        match guardSlot ops j with
        | none => none
        | some d =>
          match lk d st.env with
          | some (.d (.b b)) =>
            cond b
              (cond want (xopD P Γ own draw o (knowSt d true st) fun out => cond (cond draw true (envFree out.F (imEnv (knowSt d true st).env))) (xops ops draw env0 K rest (its ++ [out.it o]) (out.st o (knowSt d true st))) none)
                (xops ops draw env0 K rest (its ++ [skipIt o]) (skipSt o (knowSt d true st))))
              (cond want (xops ops draw env0 K rest (its ++ [skipIt o]) (skipSt o (knowSt d false st)))
                (xopD P Γ own draw o (knowSt d false st) fun out => cond (cond draw true (envFree out.F (imEnv (knowSt d false st).env))) (xops ops draw env0 K rest (its ++ [out.it o]) (out.st o (knowSt d false st))) none))
          | some v => cond (isUndef v) (xops ops draw env0 K rest (its ++ [skipIt o]) (skipSt o st)) none
          | none => none) none
end
end Go.Xl
set_option linter.unusedVariables false
set_option linter.unusedSimpArgs false
set_option linter.unnecessarySimpa false
namespace Go.Xl
open Go.Ab
section
variable {P : Program} {Γ : List (Ent P)} {own : List Nat} {R : Type}
theorem OpOk.opT {o : Oper} {st : XSt} {out : Out} (h : OpOk P o st out) : OpT P o (imRd out.rd) st.X out.X out.F out.res.a := by
  have hop := h.op
  unfold Out.X
  split at hop
  · obtain ⟨h1, h2, h3, h4⟩ := hop
    rw [h1, h2, h3]; exact h4 st.X
  · obtain ⟨h1, h2, h3, h4⟩ := hop
    rw [h1, h2, h3]; exact h4 st.X fun _ _ => rfl
  · obtain ⟨h1, h2, h3, h4⟩ := hop
    rw [h1, h2, h3, im_xset]; exact h4 st.X rfl
  · exact hop
  · exact hop.2
  · exact hop.2
  · exact hop.2
theorem Out.st_im (out : Out) (o : Oper) (st : XSt) : (out.st o st).im = ⟨putEnv o.dst out.res.a st.im.env, out.X⟩ := by
  simp only [Out.st, XSt.im, XSt.X, im_put, Out.X]
theorem skipSt_im (o : Oper) (st : XSt) : (skipSt o st).im = ⟨putEnv o.dst (.d (.sc undef)) st.im.env, st.X⟩ := by
  simp only [skipSt, XSt.im, XSt.X, im_put]
  rfl
theorem knowSt_im (d : Nat) (b : Bool) (st : XSt) : (knowSt d b st).im = ⟨(d, .d (.sc (.bool b))) :: st.im.env, st.X⟩ := rfl
theorem sees_all {st : St} : ∀ {l : List (Operand × AV)}, (∀ p ∈ l, Sees st p.1 p.2) → SeesAll st l
  | [], _ => .nil
  | (x, v) :: r, h => .cons (h (x, v) List.mem_cons_self) (sees_all fun p hp => h p (List.mem_cons_of_mem _ hp))
theorem lk_put {o : Oper} {x : XV} {st : XSt} {t : Nat} {y : XV} {wl : List Nat} (ht : t ∉ logW o.dst wl) (h : lk t (putX o.dst x st.env) = some y) : t ∉ wl ∧ lk t st.env = some y := by
  cases hd : o.dst with
  | none => rw [hd] at ht h; exact ⟨ht, h⟩
  | some d =>
    rw [hd] at ht h
    simp only [logW, List.mem_cons, not_or] at ht
    simp only [putX] at h
    rw [lk_cons_ne ht.1] at h
    exact ⟨ht.2, h⟩
theorem Inv.op {s0 st : XSt} {o : Oper} {out : Out} (h : Inv s0 st) (hok : OpOk P o st out) : Inv s0 (out.st o st) := by
  refine ⟨fun t x ht hx => ?_, fun k x hk hx => ?_⟩
  · obtain ⟨h1, h2⟩ := lk_put (st := st) ht hx
    exact h.env t x h1 h2
  · simp only [Out.st, List.mem_append, not_or] at hk hx
    exact h.objs k x hk.2 (hok.ol k x hk.1 hx)
theorem Inv.dem {s0 st : XSt} {o : Oper} {out : Out} (h : Inv s0 st) (ol : ∀ k x, k ∉ out.ol → lk k out.objs = some x → lk k st.objs = some x) : Inv s0 (out.st o st) := by
  refine ⟨fun t x ht hx => ?_, fun k x hk hx => ?_⟩
  · obtain ⟨h1, h2⟩ := lk_put (st := st) ht hx
    exact h.env t x h1 h2
  · simp only [Out.st, List.mem_append, not_or] at hk hx
    exact h.objs k x hk.2 (ol k x hk.1 hx)
theorem xopD_ok {draw : Bool} {o : Oper} {st : XSt} {K : Out → Option R} {r : R} (h : xopD P Γ own draw o st K = some r) : (∃ out, K out = some r ∧ OpOk P o st out) ∨ ∃ rd outs, (∀ out ∈ outs, K out = some r) ∧ DemOk P o st rd outs := by
  unfold xopD at h
  split at h
  · rename_i x str ho
    cases str with
    | true => exact .inl (xop_ok P Γ own h)
    | false =>
      simp only [cond_false] at h
      cases draw with
      | true => cases h
      | false => exact xNextM_ok ho h
  · exact .inl (xop_ok P Γ own h)
theorem xopD_draw {o : Oper} {st : XSt} {K : Out → Option R} {r : R} (h : xopD P Γ own true o st K = some r) : ∃ out, K out = some r ∧ OpOk P o st out := by
  unfold xopD at h
  split at h
  · rename_i x str ho
    cases str with
    | true => exact xop_ok P Γ own h
    | false => cases h
  · exact xop_ok P Γ own h
theorem Inv.skip {s0 st : XSt} {o : Oper} (h : Inv s0 st) : Inv s0 (skipSt o st) := by
  refine ⟨fun t x ht hx => ?_, fun k x hk hx => h.objs k x hk hx⟩
  obtain ⟨h1, h2⟩ := lk_put (st := st) ht hx
  exact h.env t x h1 h2
theorem Inv.know {s0 st : XSt} {d : Nat} {b : Bool} (h : Inv s0 st) (hd : lk d st.env = some (.d (.b b))) : Inv s0 (knowSt d b st) := by
  refine ⟨fun t x ht hx => ?_, fun k x hk hx => h.objs k x hk hx⟩
  simp only [knowSt] at ht hx
  by_cases he : t = d
  · subst he
    simp [lk_cons, lk_nil] at hx
    subst hx
    exact h.env t _ ht hd
  · rw [lk_cons_ne he] at hx
    exact h.env t x ht hx
theorem lk_sees {st : XSt} {d : Nat} {x : XV} (h : lk d st.env = some x) : st.im.env.lookup d = some x.a := by
  show (imEnv st.env).lookup d = _
  rw [im_env, h]; rfl
theorem isUndef_eq {x : XV} (h : isUndef x = true) : x.a = .d (.sc undef) := by
  unfold isUndef at h
  split at h
  · rename_i vs
    have := Nat.eq_of_beq_eq_true h
    have : vs = #[] := Array.eq_empty_of_size_eq_zero this
    subst this
    rfl
  · cases h
noncomputable def Post (s0 : XSt) (K : XSt → Option R) (r : R) (s : St) : Prop := ∃ st', s = st'.im ∧ Inv s0 st' ∧ K st' = some r
theorem xops_rw {S : Sig} {ops : Array Oper} {env0 : List (Nat × XV)} {K : XSt → Option R} {r : R} {s0 : XSt} : ∀ (l : List Oper) (i : Nat) (its : List It) (st : XSt), (∀ (j : Nat) o, l[j]? = some o → ops[i + j]? = some o) →
    Inv s0 st → xops P Γ own S.N ops false env0 K l its st = some r → Rw P S ops (List.range' i l.length) st.im (Post s0 K r)
  | [], i, its, st, hl, hi, h => by
    simp only [xops, cond_false] at h
    exact Rw.done ⟨st, rfl, hi, h⟩
  | o :: rest, i, its, st, hl, hi, h => by
    have ho : ops[i]? = some o := hl 0 o rfl
    have hrest : ∀ (j : Nat) o, rest[j]? = some o → ops[i + 1 + j]? = some o := by
      intro j o' hj
      have := hl (j + 1) o' (by simpa using hj)
      rw [show i + 1 + j = i + (j + 1) by omega]; exact this
    simp only [xops] at h
    cases hd : dstOk S.N o.dst with
    | false => simp [hd] at h
    | true =>
      simp only [hd, cond_true] at h
      have run : ∀ (st : XSt), Inv s0 st → Guard ops st.im o.guard true → (xopD P Γ own false o st fun out => cond (cond false true (envFree out.F (imEnv st.env))) (xops P Γ own S.N ops false env0 K rest (its ++ [out.it o]) (out.st o st)) none) = some r →
          Rw P S ops (List.range' i (o :: rest).length) st.im (Post s0 K r) := by
        intro st hi hg h
        rcases xopD_ok h with ⟨out, h1, hok⟩ | ⟨rd, outs, hall, hok⟩
        · cases hf : envFree out.F (imEnv st.env) with
          | false => simp [hf] at h1
          | true =>
            simp only [hf, cond_false, cond_true] at h1
            simp only [List.length_cons, List.range'_succ]
            refine Rw.opg ho hg hok.opT (sees_all hok.sees) hf hd ?_
            rw [← Out.st_im]
            exact xops_rw rest (i + 1) _ _ hrest (hi.op hok) h1
        · simp only [List.length_cons, List.range'_succ]
          refine Rw.demon ho hg hok.op (sees_all hok.sees) hd ?_
          intro p hp
          obtain ⟨out, hout, rfl⟩ := List.mem_map.1 hp
          have h1 := hall out hout
          have hf : envFree out.F (imEnv st.env) = true := by rw [hok.F out hout]; rfl
          simp only [hf, cond_false, cond_true] at h1
          show Rw P S ops _ ⟨putEnv o.dst out.res.a st.im.env, out.X⟩ _
          rw [← Out.st_im]
          exact xops_rw rest (i + 1) _ _ hrest (hi.dem (fun k x => hok.ol out hout k x)) h1
      have skip : ∀ (st : XSt), Inv s0 st → Guard ops st.im o.guard false → xops P Γ own S.N ops false env0 K rest (its ++ [skipIt o]) (skipSt o st) = some r →
          Rw P S ops (List.range' i (o :: rest).length) st.im (Post s0 K r) := by
        intro st hi hg h
        simp only [List.length_cons, List.range'_succ]
        refine Rw.skip ho hg hd ?_
        have := xops_rw rest (i + 1) _ _ hrest hi.skip h
        rw [skipSt_im] at this
        exact this
      split at h
      · rename_i hg
        exact run st hi (guard_yes hg) h
      · rename_i j want hg
        unfold guardSlot at h
        split at h
        · cases h
        · rename_i d hgs
          split at hgs
          · rename_i oj hoj
            split at h
            · rename_i b hb
              have hlk := lk_sees hb
              refine Rw.cases (d := d) hlk (fun hbt => ?_) (fun hbt => ?_)
              · subst hbt
                change Rw P S ops _ (knowSt d true st).im _
                have hlk' : (knowSt d true st).im.env.lookup d = some (.d (.sc (.bool true))) := by rw [knowSt_im]; simp
                cases want with
                | true =>
                  simp only [cond_true] at h
                  exact run _ (hi.know hb) (guard_run hg hoj hgs hlk') h
                | false =>
                  simp only [cond_true, cond_false] at h
                  exact skip _ (hi.know hb) (guard_not hg hoj hgs hlk' rfl) h
              · subst hbt
                change Rw P S ops _ (knowSt d false st).im _
                have hlk' : (knowSt d false st).im.env.lookup d = some (.d (.sc (.bool false))) := by rw [knowSt_im]; simp
                cases want with
                | true =>
                  simp only [cond_true, cond_false] at h
                  exact skip _ (hi.know hb) (guard_not hg hoj hgs hlk' rfl) h
                | false =>
                  simp only [cond_false] at h
                  exact run _ (hi.know hb) (guard_run hg hoj hgs hlk') h
            · rename_i v hv hlkv
              cases hu : isUndef v with
              | false => simp [hu] at h
              | true =>
                simp only [hu, cond_true] at h
                have hlk := lk_sees hlkv
                rw [isUndef_eq hu] at hlk
                exact skip st hi (guard_undef hg hoj hgs hlk) h
            · cases h
          · cases hgs
theorem xops_dw {S : Sig} {ops : Array Oper} {env0 : List (Nat × XV)} {K : XSt → Option R} {r : R} {s0 : XSt} : ∀ (l : List Oper) (i : Nat) (its : List It) (st : XSt), (∀ (j : Nat) o, l[j]? = some o → ops[i + j]? = some o) →
    Inv s0 st → xops P Γ own S.N ops true env0 K l its st = some r → Dw P S ops i l.length st.im its (imEnv env0) (Post s0 K r)
  | [], i, its, st, hl, hi, h => by
    simp only [xops, cond_true] at h
    cases hd : drawOk ops (imEnv env0) its with
    | false => simp [hd] at h
    | true =>
      simp only [hd, cond_true] at h
      exact Dw.fin (fun _ => drawOk_spec hd) ⟨st, rfl, hi, h⟩
  | o :: rest, i, its, st, hl, hi, h => by
    have ho : ops[i]? = some o := hl 0 o rfl
    have hrest : ∀ (j : Nat) o, rest[j]? = some o → ops[i + 1 + j]? = some o := by
      intro j o' hj
      have := hl (j + 1) o' (by simpa using hj)
      rw [show i + 1 + j = i + (j + 1) by omega]; exact this
    simp only [xops] at h
    cases hd : dstOk S.N o.dst with
    | false => simp [hd] at h
    | true =>
      simp only [hd, cond_true] at h
      have run : ∀ (st : XSt), Inv s0 st → Guard ops st.im o.guard true → (xopD P Γ own true o st fun out => cond (cond true true (envFree out.F (imEnv st.env))) (xops P Γ own S.N ops true env0 K rest (its ++ [out.it o]) (out.st o st)) none) = some r →
          Dw P S ops i (o :: rest).length st.im its (imEnv env0) (Post s0 K r) := by
        intro st hi hg h
        obtain ⟨out, h1, hok⟩ := xopD_draw h
        simp only [cond_true] at h1
        have ih := xops_dw rest (i + 1) _ _ hrest (hi.op hok) h1
        rw [Out.st_im] at ih
        have hop := hok.op
        simp only [List.length_cons]
        split at hop
        · rename_i he
          obtain ⟨a1, a2, a3, a4⟩ := hop
          refine Dw.op ho hg a4 (sees_all hok.sees) hd ?_
          have e : out.it o = ⟨o, true, imRd out.rd, .none, [], out.res.a⟩ := by simp only [Out.it, he, XEff.e, a3]
          rw [e] at ih
          have e2 : out.X = st.im.X := by simp only [Out.X, XSt.im, XSt.X, a1, a2]
          rw [e2] at ih
          exact ih
        · rename_i ks he
          obtain ⟨a1, a2, a3, a4⟩ := hop
          refine Dw.look (ks := ks) ho hg a4 (sees_all hok.sees) hd ?_
          have e : out.it o = ⟨o, true, imRd out.rd, .look ks, [], out.res.a⟩ := by simp only [Out.it, he, XEff.e, a3]
          rw [e] at ih
          have e2 : out.X = st.im.X := by simp only [Out.X, XSt.im, XSt.X, a1, a2]
          rw [e2] at ih
          exact ih
        · rename_i k c he
          obtain ⟨a1, a2, a3, a4⟩ := hop
          refine Dw.put (k := k) (c := c.o) ho hg a4 (sees_all hok.sees) hd ?_
          have e : out.it o = ⟨o, true, imRd out.rd, .put k c.o, [], out.res.a⟩ := by simp only [Out.it, he, XEff.e, a3]
          rw [e] at ih
          have e2 : out.X = ⟨Ab.setObj k c.o st.im.X.objs, st.im.X.live⟩ := by simp only [Out.X, XSt.im, XSt.X, a1, a2, im_xset]
          rw [e2] at ih
          exact ih
        · rename_i he
          refine Dw.eff ho hg hop (sees_all hok.sees) hd ?_
          have e : out.it o = ⟨o, true, imRd out.rd, .all out.X, out.F, out.res.a⟩ := by simp only [Out.it, he, XEff.e]
          rw [e] at ih
          exact ih
        · rename_i he
          obtain ⟨a1, a4⟩ := hop
          have e2 : out.X = ⟨st.im.X.objs, out.live⟩ := by simp only [Out.X, XSt.im, XSt.X, a1]
          rw [e2] at a4 ih
          refine Dw.lab (L := out.live) ho hg a4 (sees_all hok.sees) hd ?_
          have e : out.it o = ⟨o, true, imRd out.rd, .lab out.live, out.F, out.res.a⟩ := by simp only [Out.it, he, XEff.e, Out.X]
          rw [e] at ih
          exact ih
        · rename_i k c he
          obtain ⟨a1, a4⟩ := hop
          have e2 : out.X = ⟨Ab.setObj k c.o st.im.X.objs, out.live⟩ := by simp only [Out.X, XSt.im, XSt.X, a1, im_xset]
          rw [e2] at a4 ih
          refine Dw.putl (L := out.live) ho hg a4 (sees_all hok.sees) hd ?_
          have e : out.it o = ⟨o, true, imRd out.rd, .putl k c.o out.live, out.F, out.res.a⟩ := by simp only [Out.it, he, XEff.e, Out.X]
          rw [e] at ih
          exact ih
        · rename_i os he
          obtain ⟨a1, a4⟩ := hop
          have e2 : out.X = ⟨imObjs os ++ st.im.X.objs, out.live⟩ := by simp only [Out.X, XSt.im, XSt.X, a1, imObjs, List.map_append]
          rw [e2] at a4 ih
          refine Dw.new (L := out.live) ho hg a4 (sees_all hok.sees) hd ?_
          have e : out.it o = ⟨o, true, imRd out.rd, .new (imObjs os) out.live, out.F, out.res.a⟩ := by simp only [Out.it, he, XEff.e, Out.X]
          rw [e] at ih
          exact ih
      have skip : ∀ (st : XSt), Inv s0 st → Guard ops st.im o.guard false → xops P Γ own S.N ops true env0 K rest (its ++ [skipIt o]) (skipSt o st) = some r →
          Dw P S ops i (o :: rest).length st.im its (imEnv env0) (Post s0 K r) := by
        intro st hi hg h
        simp only [List.length_cons]
        refine Dw.skip ho hg hd ?_
        have := xops_dw rest (i + 1) _ _ hrest hi.skip h
        rw [skipSt_im] at this
        exact this
      split at h
      · rename_i hg
        exact run st hi (guard_yes hg) h
      · rename_i j want hg
        unfold guardSlot at h
        split at h
        · cases h
        · rename_i d hgs
          split at hgs
          · rename_i oj hoj
            split at h
            · rename_i b hb
              have hlk := lk_sees hb
              refine Dw.cases (d := d) hlk (fun hbt => ?_) (fun hbt => ?_)
              · subst hbt
                change Dw P S ops i _ (knowSt d true st).im its (imEnv env0) _
                have hlk' : (knowSt d true st).im.env.lookup d = some (.d (.sc (.bool true))) := by rw [knowSt_im]; simp
                cases want with
                | true =>
                  simp only [cond_true] at h
                  exact run _ (hi.know hb) (guard_run hg hoj hgs hlk') h
                | false =>
                  simp only [cond_true, cond_false] at h
                  exact skip _ (hi.know hb) (guard_not hg hoj hgs hlk' rfl) h
              · subst hbt
                change Dw P S ops i _ (knowSt d false st).im its (imEnv env0) _
                have hlk' : (knowSt d false st).im.env.lookup d = some (.d (.sc (.bool false))) := by rw [knowSt_im]; simp
                cases want with
                | true =>
                  simp only [cond_true, cond_false] at h
                  exact skip _ (hi.know hb) (guard_not hg hoj hgs hlk' rfl) h
                | false =>
                  simp only [cond_false] at h
                  exact run _ (hi.know hb) (guard_run hg hoj hgs hlk') h
            · rename_i v hv hlkv
              cases hu : isUndef v with
              | false => simp [hu] at h
              | true =>
                simp only [hu, cond_true] at h
                have hlk := lk_sees hlkv
                rw [isUndef_eq hu] at hlk
                exact skip st hi (guard_undef hg hoj hgs hlk) h
            · cases h
          · cases hgs
end
end Go.Xl
set_option linter.unusedVariables false
set_option linter.unusedSimpArgs false
set_option linter.unnecessarySimpa false
namespace Go.Xl
open Go.Ab
noncomputable def pkM : Nat := 777777777
noncomputable def pkOf (off : Nat) : PK := cond (Nat.beq off pkM) .m (.p off)
noncomputable def pkEq (p : PK) (off : Nat) : Bool :=
  match p with
  | .p o => cond (Nat.beq off pkM) false (Nat.beq o off)
  | .m => Nat.beq off pkM
  | _ => false
theorem pkEq_eq {p : PK} {off : Nat} (h : pkEq p off = true) : p = pkOf off := by
  unfold pkEq at h
  unfold pkOf
  split at h
  · cases hb : Nat.beq off pkM with
    | true => simp [hb] at h
    | false =>
      simp only [hb, cond_false] at h
      rw [Nat.eq_of_beq_eq_true h]; rfl
  · rw [h]; rfl
  · cases h
inductive VK where
  | d (t : Ty)
  | tip (n : Nat) (t : Ty) (ty : Option TypeId)
  | p (k off : Nat)
  | z (k off : Nat)
  /-- a slice that owns its block: the object is known, its length not -/
  | os (k : Nat) (t : Ty)
@[reducible] noncomputable def VK.T : VK → Type
  | .d t => t.T
  | .tip _ t _ => List t.T
  | .p _ _ => Unit
  | .z _ _ => Bool
  | .os _ _ => Nat
noncomputable def VK.val : (v : VK) → v.T → XV
  | .d t, x => .d (t.xv x)
  | .tip n t ty, l => .tip n t l ty
  | .p k off, _ => .nm k (pkOf off)
  | .z k off, b => .nm k (.z b off)
  | .os k t, n => .os k t 0 n
noncomputable def VK.cells : (v : VK) → v.T → List XV
  | .d t, x => (t.enc x).map .d
  | .tip n t ty, l => [.tip n t l ty]
  | .p k off, _ => [.nm k (pkOf off)]
  | .z k off, b => [.nm k (.z b off)]
  | .os k t, n => [.os k t 0 n]
noncomputable def decXV (t : Ty) : XV → Option t.T
  | .d x => t.decv x
  | .tip _ u l _ => t.decv (.sl u l)
  | _ => none
theorem nmp_le (k off : Nat) : ALe (XV.nm k (.p off)).a (.d XD.pp.d) := by
  intro g w v hr
  simp only [XV.a] at hr
  cases hr with
  | nm _ _ _ h => exact .d _ _ (.any _ _ ⟨_, h⟩ (by rw [show v = _ from h]; rfl))
theorem decXV_le {t : Ty} {x : XV} {y : t.T} (h : decXV t x = some y) : ALe x.a (.d (t.dv y)) := by
  unfold decXV at h
  split at h
  · exact ALe.d (t.decv_spec h)
  · rename_i n u l ty
    have := t.decv_spec h
    intro g w v hr
    exact ALe.d this g w v (ALe.tip _ _ _ _ g w v hr)
  · cases h
noncomputable def decXVr (t : Ty) : XV → Option t.T
  | .nm _ (.p _) => t.decv .pp
  | x => decXV t x
theorem decXVr_le {t : Ty} {x : XV} {y : t.T} (h : decXVr t x = some y) : ALe x.a (.d (t.dv y)) := by
  unfold decXVr at h
  split at h
  · have := t.decv_spec h
    intro g w v hr
    exact ALe.d this g w v (nmp_le _ _ g w v hr)
  · exact decXV_le h
noncomputable def tyLe (have_ want : Option TypeId) : Bool :=
  match want with
  | none => true
  | some e => match have_ with
    | some e' => Nat.beq e' e
    | none => false
noncomputable abbrev Lab := List (Nat × Option Nat)
noncomputable def projTip (n : Nat) (t : Ty) (ty : Option TypeId) : XV → Option (List t.T × Lab)
  | .tip m u l ty' => if h : u.eqb t = true then cond (tyLe ty' ty) (some (Ty.eqb_eq h ▸ l, [(n, some m)])) none else none
  | .d (.v (.slice none 0 0)) => some ([], [(n, none)])
  | _ => none
noncomputable def projPtr (k off : Nat) : XV → Option (Unit × Lab)
  | .nm k' p => cond (Nat.beq k' k) (cond (pkEq p off) (some ((), [])) none) none
  | _ => none
noncomputable def projZ (k off : Nat) : XV → Option (Bool × Lab)
  | .nm k' (.p off') => cond (Nat.beq k' k) (cond (Nat.beq off' off) (some (false, [])) none) none
  | .nm k' (.z b off') => cond (Nat.beq k' k) (cond (Nat.beq off' off) (some (b, [])) none) none
  | .d (.v (.pointer none)) => some (true, [])
  | _ => none
noncomputable def projOs (k : Nat) (t : Ty) : XV → Option (Nat × Lab)
  | .os k' t' a n => cond (Nat.beq k' k) (cond (t'.eqb t) (cond (Nat.beq a 0) (some (n, [])) none) none) none
  | _ => none
noncomputable def VK.proj : (v : VK) → XV → Option (v.T × Lab)
  | .d t => fun x => match decXV t x with
    | some y => some (y, [])
    | none => none
  | .tip n t ty => projTip n t ty
  | .p k off => projPtr k off
  | .z k off => projZ k off
  | .os k t => projOs k t
inductive OK where
  | arr (t : Ty)
  | sit
  | map (k v : Ty)
  | mit (m : Nat)
  | mitn
  | mapt (L : Nat) (k v : Ty)
@[reducible] noncomputable def OK.T : OK → Type
  | .arr t => List t.T
  | .sit => List UInt8 × Nat
  | .map k v => List (Nat × k.T × v.T) × Nat
  | .mit _ => Nat × List Nat × Nat
  | .mitn => Unit
  | .mapt _ k v => List (Nat × k.T × Bool × List v.T) × Nat
noncomputable def OK.ob : (o : OK) → o.T → XOb
  | .arr t, l => .arr t l
  | .sit, x => .sit x.1 x.2
  | .map k v, x => .map k v x.1 x.2
  | .mit m, x => .mit m x.1 x.2.1 x.2.2
  | .mitn, _ => .mitn
  | .mapt L k v, x => .mapt L k v x.1 x.2
noncomputable def OK.dec : (o : OK) → XOb → Option o.T
  | .arr t, .arr u l => if h : u.eqb t = true then some (Ty.eqb_eq h ▸ l) else none
  | .sit, .sit s p => some (s, p)
  | .map k v, .map k' v' es c => if h : k'.eqb k = true then if h' : v'.eqb v = true then some (Ty.eqb_eq h ▸ Ty.eqb_eq h' ▸ es, c) else none else none
  | .mit m, .mit m' a b c => cond (Nat.beq m' m) (some (a, b, c)) none
  | .mitn, .mitn => some ()
  | .mapt L k v, .mapt L' k' v' es c => if h : k'.eqb k = true then if h' : v'.eqb v = true then cond (Nat.beq L' L) (some (Ty.eqb_eq h ▸ Ty.eqb_eq h' ▸ es, c)) none else none else none
  | _, _ => none
theorem OK.dec_eq {o : OK} {x : XOb} {y : o.T} (h : o.dec x = some y) : x = o.ob y := by
  unfold OK.dec at h
  split at h
  · split at h
    · rename_i he
      have e := Ty.eqb_eq he
      subst e
      cases h; rfl
    · cases h
  · cases h; rfl
  · split at h
    · rename_i he
      split at h
      · rename_i he'
        have e := Ty.eqb_eq he
        have e' := Ty.eqb_eq he'
        subst e; subst e'
        cases h; rfl
      · cases h
    · cases h
  · rename_i m m' a b c
    cases hb : Nat.beq m' m with
    | false => simp [hb] at h
    | true =>
      simp only [hb, cond_true, Option.some.injEq] at h
      subst h
      rw [Nat.eq_of_beq_eq_true hb]; rfl
  · rfl
  · rename_i L k v L' k' v' es c
    split at h
    · rename_i he
      split at h
      · rename_i he'
        cases hb : Nat.beq L' L with
        | false => simp [hb] at h
        | true =>
          have e := Ty.eqb_eq he
          have e' := Ty.eqb_eq he'
          subst e; subst e'
          simp only [hb, cond_true, Option.some.injEq] at h
          subst h
          rw [Nat.eq_of_beq_eq_true hb]; rfl
      · cases h
    · cases h
  · cases h
noncomputable def OK.okp (ns : List Nat) : OK → Bool
  | .mit m => cond (inl m ns) false true
  | .mapt L _ _ => cond (inl L ns) false true
  | _ => true
noncomputable def okArrs (ns : List Nat) : List (Nat × OK) → Bool
  | [] => true
  | p :: r => cond (p.2.okp ns) (okArrs ns r) false
structure Cut where
  vars : List (Tmp × VK)
  objs : List (Nat × List VK × Option TypeId)
  keepS : List Tmp
  keepO : List Nat
  own : List (Tmp × Nat × Ty) := []
  arrs : List (Nat × OK) := []
@[reducible] noncomputable def VarsT : List (Tmp × VK) → Type
  | [] => Unit
  | p :: r => p.2.T × VarsT r
@[reducible] noncomputable def CellsT : List VK → Type
  | [] => Unit
  | v :: r => v.T × CellsT r
@[reducible] noncomputable def ObjsT : List (Nat × List VK × Option TypeId) → Type
  | [] => Unit
  | p :: r => CellsT p.2.1 × ObjsT r
@[reducible] noncomputable def OwnT : List (Tmp × Nat × Ty) → Type
  | [] => Unit
  | p :: r => Option (List p.2.2.T × Nat) × OwnT r
@[reducible] noncomputable def ArrsT : List (Nat × OK) → Type
  | [] => Unit
  | p :: r => p.2.T × ArrsT r
@[reducible] noncomputable def Cut.T (c : Cut) : Type := VarsT c.vars × ObjsT c.objs × OwnT c.own × ArrsT c.arrs
noncomputable def genOwnE : (l : List (Tmp × Nat × Ty)) → OwnT l → List (Nat × XV)
  | [], _ => []
  | p :: r, x => (p.1, match x.1 with
    | none => .d (.v (.slice none 0 0))
    | some y => .os p.2.1 p.2.2 0 y.2) :: genOwnE r x.2
noncomputable def genOwnO : (l : List (Tmp × Nat × Ty)) → OwnT l → List (Nat × XOb)
  | [], _ => []
  | p :: r, x => match x.1 with
    | none => genOwnO r x.2
    | some y => (p.2.1, .arr p.2.2 y.1) :: genOwnO r x.2
noncomputable def genArrs : (l : List (Nat × OK)) → ArrsT l → List (Nat × XOb)
  | [], _ => []
  | p :: r, x => (p.1, p.2.ob x.1) :: genArrs r x.2
noncomputable def ownNames : List (Tmp × Nat × Ty) → List Nat
  | [] => []
  | p :: r => p.2.1 :: ownNames r
noncomputable def arrNames : List (Nat × OK) → List Nat
  | [] => []
  | p :: r => p.1 :: arrNames r
noncomputable def Cut.others (c : Cut) : List Nat := (c.objs.map (·.1) ++ arrNames c.arrs) ++ c.keepO
noncomputable def genVars : (l : List (Tmp × VK)) → VarsT l → List (Nat × XV)
  | [], _ => []
  | p :: r, x => (p.1, p.2.val x.1) :: genVars r x.2
noncomputable def genCells : (l : List VK) → CellsT l → List XV
  | [], _ => []
  | v :: r, x => v.cells x.1 ++ genCells r x.2
noncomputable def genObjs : (l : List (Nat × List VK × Option TypeId)) → ObjsT l → List (Nat × XOb)
  | [], _ => []
  | p :: r, x => (p.1, .cells (genCells p.2.1 x.1) p.2.2) :: genObjs r x.2
noncomputable def keepEnv (env : List (Nat × XV)) : List Tmp → List (Nat × XV)
  | [] => []
  | t :: r => match lk t env with
    | some x => (t, x) :: keepEnv env r
    | none => keepEnv env r
noncomputable def keepObjs (objs : List (Nat × XOb)) : List Nat → List (Nat × XOb)
  | [] => []
  | t :: r => match lk t objs with
    | some x => (t, x) :: keepObjs objs r
    | none => keepObjs objs r
noncomputable def labsOfVars : List (Tmp × VK) → List Nat
  | [] => []
  | (_, .tip n _ _) :: r => n :: labsOfVars r
  | (_, .d _) :: r => labsOfVars r
  | (_, .p _ _) :: r => labsOfVars r
  | (_, .z _ _) :: r => labsOfVars r
  | (_, .os _ _) :: r => labsOfVars r
noncomputable def labsOfCells : List VK → List Nat
  | [] => []
  | .tip n _ _ :: r => n :: labsOfCells r
  | .d _ :: r => labsOfCells r
  | .p _ _ :: r => labsOfCells r
  | .z _ _ :: r => labsOfCells r
  | .os _ _ :: r => labsOfCells r
noncomputable def labsOfObjs : List (Nat × List VK × Option TypeId) → List Nat
  | [] => []
  | p :: r => labsOfCells p.2.1 ++ labsOfObjs r
noncomputable def Cut.labs (c : Cut) : List Nat := labsOfVars c.vars ++ labsOfObjs c.objs
noncomputable def addL (n : Nat) (live acc : List Nat) : List Nat := cond (inl n live) (cond (inl n acc) acc (n :: acc)) acc
noncomputable def tipsCells (live : List Nat) : List XV → List Nat → List Nat
  | [], acc => acc
  | .tip n _ _ _ :: r, acc => tipsCells live r (addL n live acc)
  | _ :: r, acc => tipsCells live r acc
noncomputable def tipsEnv (live : List Nat) : List (Nat × XV) → List Nat → List Nat
  | [], acc => acc
  | (_, .tip n _ _ _) :: r, acc => tipsEnv live r (addL n live acc)
  | _ :: r, acc => tipsEnv live r acc
noncomputable def tipsObjs (live : List Nat) : List (Nat × XOb) → List Nat → List Nat
  | [], acc => acc
  | (_, .cells cs _) :: r, acc => tipsObjs live r (tipsCells live cs acc)
  | (_, .mapt L _ _ _ _) :: r, acc => tipsObjs live r (addL L live acc)
  | _ :: r, acc => tipsObjs live r acc
noncomputable def tipsArrs (live : List Nat) : List (Nat × OK) → List Nat → List Nat
  | [], acc => acc
  | (_, .mapt L _ _) :: r, acc => tipsArrs live r (addL L live acc)
  | _ :: r, acc => tipsArrs live r acc
noncomputable def keepL (s0 : XSt) (c : Cut) : List Nat := tipsArrs s0.live c.arrs (tipsObjs s0.live (keepObjs s0.objs c.keepO) (tipsEnv s0.live (keepEnv s0.env c.keepS) []))
noncomputable def gen (s0 : XSt) (c : Cut) (x : c.T) : XSt :=
  ⟨genVars c.vars x.1 ++ (genOwnE c.own x.2.2.1 ++ keepEnv s0.env c.keepS), genObjs c.objs x.2.1 ++ (genOwnO c.own x.2.2.1 ++ (genArrs c.arrs x.2.2.2 ++ keepObjs s0.objs c.keepO)), c.labs ++ keepL s0 c, [], []⟩
noncomputable def projVars (env : List (Nat × XV)) : (l : List (Tmp × VK)) → Option (VarsT l × Lab)
  | [] => some ((), [])
  | p :: r => match lk p.1 env with
    | some v => match p.2.proj v with
      | some (x, σ) => match projVars env r with
        | some (xs, τ) => some ((x, xs), σ ++ τ)
        | none => none
      | none => none
    | none => none
noncomputable def allXt : List XV → Option (List XD)
  | [] => some []
  | x :: r => match x.asD, allXt r with
    | some y, some l => some (y :: l)
    | _, _ => none
theorem allXt_get : ∀ {cs : List XV} {ds : List XD}, allXt cs = some ds → cs.length = ds.length ∧ ∀ (i : Nat) x y, cs[i]? = some x → ds[i]? = some y → ALe x.a (.d y.d)
  | [], ds, h => by simp [allXt] at h; subst h; exact ⟨rfl, by simp⟩
  | x :: r, ds, h => by
    simp only [allXt] at h
    split at h
    · rename_i y l hy hl
      cases h
      obtain ⟨h1, h2⟩ := allXt_get hl
      refine ⟨by simp [h1], fun i a b ha hb => ?_⟩
      cases i with
      | zero => simp at ha hb; subst ha; subst hb; exact asD_le hy
      | succ i => exact h2 i a b (by simpa using ha) (by simpa using hb)
    · cases h
noncomputable def projCells : (l : List VK) → List XV → Option (CellsT l × Lab)
  | [], cs => match cs with
    | [] => some ((), [])
    | _ => none
  | .d t :: r, cs => match allXt (cs.take t.size) with
    | some ds => match t.dec ds with
      | some (x, []) => match projCells r (cs.drop t.size) with
        | some (xs, τ) => some ((x, xs), τ)
        | none => none
      | _ => none
    | none => none
  | .p k off :: r, cs => match cs with
    | c :: cs' => match (VK.p k off).proj c with
      | some (x, σ) => match projCells r cs' with
        | some (xs, τ) => some ((x, xs), σ ++ τ)
        | none => none
      | none => none
    | [] => none
  | .z k off :: r, cs => match cs with
    | c :: cs' => match (VK.z k off).proj c with
      | some (x, σ) => match projCells r cs' with
        | some (xs, τ) => some ((x, xs), σ ++ τ)
        | none => none
      | none => none
    | [] => none
  | .os k t :: r, cs => match cs with
    | c :: cs' => match (VK.os k t).proj c with
      | some (x, σ) => match projCells r cs' with
        | some (xs, τ) => some ((x, xs), σ ++ τ)
        | none => none
      | none => none
    | [] => none
  | .tip n t ty :: r, cs => match cs with
    | c :: cs' => match (VK.tip n t ty).proj c with
      | some (x, σ) => match projCells r cs' with
        | some (xs, τ) => some ((x, xs), σ ++ τ)
        | none => none
      | none => none
    | [] => none
noncomputable def tyEqO (a b : Option TypeId) : Bool :=
  match a, b with
  | none, none => true
  | some x, some y => Nat.beq x y
  | _, _ => false
theorem tyEqO_eq {a b : Option TypeId} (h : tyEqO a b = true) : a = b := by
  unfold tyEqO at h
  split at h
  · rfl
  · rw [Nat.eq_of_beq_eq_true h]
  · cases h
noncomputable def projObjs (objs : List (Nat × XOb)) : (l : List (Nat × List VK × Option TypeId)) → Option (ObjsT l × Lab)
  | [] => some ((), [])
  | p :: r => match lk p.1 objs with
    | some (.cells cs ty) => cond (tyEqO ty p.2.2) (match projCells p.2.1 cs with
      | some (x, σ) => match projObjs objs r with
        | some (xs, τ) => some ((x, xs), σ ++ τ)
        | none => none
      | none => none) none
    | _ => none
noncomputable def projOwn (env : List (Nat × XV)) (objs : List (Nat × XOb)) : (l : List (Tmp × Nat × Ty)) → Option (OwnT l × List (Nat × Nat))
  | [] => some ((), [])
  | p :: r => match lk p.1 env, projOwn env objs r with
    | some (.os k ty a len), some (xs, τ) => match lk k objs with
      | some (.arr tu l) => if h : tu.eqb p.2.2 = true then cond (ty.eqb p.2.2) (cond (Nat.beq a 0) (some ((some (Ty.eqb_eq h ▸ l, len), xs), (p.2.1, k) :: τ)) none) none else none
      | _ => none
    | some (.d (.v (.slice none 0 0))), some (xs, τ) => some ((none, xs), τ)
    | _, _ => none
noncomputable def projArrs (objs : List (Nat × XOb)) : (l : List (Nat × OK)) → Option (ArrsT l)
  | [] => some ()
  | p :: r => match lk p.1 objs, projArrs objs r with
    | some o, some xs => match p.2.dec o with
      | some y => some (y, xs)
      | none => none
    | _, _ => none
noncomputable def keptEnv (s : XSt) (ns : List Nat) : List Tmp → Bool
  | [] => true
  | t :: r => cond (inl t s.wl) false (match lk t s.env with
    | some x => cond (isFree ns x.a) (keptEnv s ns r) false
    | none => false)
noncomputable def obFreeX (F : List Nat) : XOb → Bool
  | .cells cs _ => areFree F (asOf cs)
  | .mit m _ _ _ => cond (inl m F) false true
  | .mapt m _ _ _ _ => cond (inl m F) false true
  | _ => true
theorem obFreeX_ok {F : List Nat} {o : XOb} (h : obFreeX F o = true) : obFree F o.o = true := by
  have con : ∀ m, (cond (inl m F) false true) = true → (!F.contains m) = true := by
    intro m hm
    cases hc : F.contains m with
    | false => rfl
    | true => rw [(inl_eq m F).2 (List.contains_iff_mem.1 hc)] at hm; cases hm
  cases o with
  | cells cs ty => exact h
  | arr t l => exact arr_free F t l
  | sit s pos => rfl
  | map kt vt es c => rfl
  | mitn => rfl
  | bts e l => exact areFree_map_d F _
  | mapt m kt vt es c => exact con m h
  | mit m since seen last => exact con m h
noncomputable def keptObjs (s : XSt) (ns : List Nat) : List Nat → Bool
  | [] => true
  | t :: r => cond (inl t s.ol) false (match lk t s.objs with
    | some x => cond (obFreeX ns x) (keptObjs s ns r) false
    | none => false)
noncomputable def oldLabs : Lab → List Nat
  | [] => []
  | (_, some m) :: r => m :: oldLabs r
  | (_, none) :: r => oldLabs r
noncomputable def subL (a b : List Nat) : Bool :=
  match a with
  | [] => true
  | x :: r => cond (inl x b) (subL r b) false
noncomputable def nodupL : List Nat → Bool
  | [] => true
  | x :: r => cond (inl x r) false (nodupL r)
noncomputable def slotsOf : List (Tmp × VK) → List Nat
  | [] => []
  | p :: r => p.1 :: slotsOf r
noncomputable def namesOf : List (Nat × List VK × Option TypeId) → List Nat
  | [] => []
  | p :: r => p.1 :: namesOf r
noncomputable def apart (a b : List Nat) : Bool :=
  match a with
  | [] => true
  | x :: r => cond (inl x b) false (apart r b)
theorem apart_spec : ∀ {a b : List Nat}, apart a b = true → ∀ x ∈ a, x ∉ b
  | [], b, _ => by simp
  | y :: r, b, h => by
    simp only [apart] at h
    cases hy : inl y b with
    | true => simp [hy] at h
    | false =>
      simp only [hy, cond_false] at h
      intro x hx
      rcases List.mem_cons.1 hx with rfl | hx
      · intro hm; rw [(inl_eq _ _).2 hm] at hy; cases hy
      · exact apart_spec h x hx
noncomputable def ownSlots : List (Tmp × Nat × Ty) → List Nat
  | [] => []
  | p :: r => p.1 :: ownSlots r
noncomputable def VK.okp (ns : List Nat) : VK → Bool
  | .p k _ => cond (inl k ns) false true
  | .z k _ => cond (inl k ns) false true
  | .os k _ => cond (inl k ns) false true
  | _ => true
noncomputable def okVars (ns : List Nat) : List (Tmp × VK) → Bool
  | [] => true
  | p :: r => cond (p.2.okp ns) (okVars ns r) false
noncomputable def okCells (ns : List Nat) : List VK → Bool
  | [] => true
  | p :: r => cond (p.okp ns) (okCells ns r) false
noncomputable def okObjs (ns : List Nat) : List (Nat × List VK × Option TypeId) → Bool
  | [] => true
  | p :: r => cond (okCells ns p.2.1) (okObjs ns r) false
noncomputable def ownOk {α : Type} (c : Cut) (ν : List (Nat × Nat)) (x : Option α) : Option α :=
  cond (nodupL (ownNames c.own)) (cond (apart (ownNames c.own) c.others) (cond (nodupL (ν.map (·.2))) (cond (apart (ν.map (·.2)) c.others) (cond ((ownNames c.own).all (Nat.ble 1000)) (cond (apart c.labs (ownNames c.own)) (cond (okVars (ownNames c.own) c.vars) (cond (okObjs (ownNames c.own) c.objs) (cond (okArrs (c.labs ++ ownNames c.own) c.arrs) x none) none) none) none) none) none) none) none) none
noncomputable def proj (nm : List Nat) (kl : List Nat) (c : Cut) (s : XSt) : Option c.T :=
  match projVars s.env c.vars, projObjs s.objs c.objs, projOwn s.env s.objs c.own, projArrs s.objs c.arrs with
  | some (x, σ), some (y, τ), some (u, ν), some v =>
    cond (keptEnv s (c.labs ++ ownNames c.own) c.keepS) (cond (keptObjs s (c.labs ++ ownNames c.own) c.keepO) (cond (subL (oldLabs (σ ++ τ) ++ kl) s.live)
      (cond (nodupL (oldLabs (σ ++ τ) ++ kl)) (cond (nodupL (c.labs ++ kl)) (cond (subL nm c.others) (cond (apart c.keepS (slotsOf c.vars ++ ownSlots c.own)) (cond (apart c.keepO (namesOf c.objs ++ (ownNames c.own ++ arrNames c.arrs))) (ownOk c ν (some (x, y, u, v))) none) none) none) none) none) none) none) none
  | _, _, _, _ => none
noncomputable def cutGh (g : Gh) (τ : Lab) (keepL : List Nat) (ν : List (Nat × Nat)) : Gh :=
  { g with ρ := fun j => match lk j ν with | some k => g.ρ k | none => g.ρ j, β := fun n => cond (inl n keepL) (g.β n) (match lk n τ with
    | some (some m) => g.β m
    | some none => some none
    | none => none), η := fun n => cond (inl n keepL) (g.η n) fun _ => none }
theorem subL_spec : ∀ {a b : List Nat}, subL a b = true → ∀ x ∈ a, x ∈ b
  | [], b, _ => by simp
  | y :: r, b, h => by
    simp only [subL] at h
    cases hy : inl y b with
    | false => simp [hy] at h
    | true =>
      simp only [hy, cond_true] at h
      intro x hx
      rcases List.mem_cons.1 hx with rfl | hx
      · exact (inl_eq _ _).1 hy
      · exact subL_spec h x hx
theorem nodupL_spec : ∀ {a : List Nat}, nodupL a = true → a.Nodup
  | [], _ => .nil
  | y :: r, h => by
    simp only [nodupL] at h
    cases hy : inl y r with
    | true => simp [hy] at h
    | false =>
      simp only [hy, cond_false] at h
      refine List.nodup_cons.2 ⟨fun hm => ?_, nodupL_spec h⟩
      rw [(inl_eq _ _).2 hm] at hy
      cases hy
theorem VK.proj_ra {v : VK} {x : XV} {y : v.T} {σ : Lab} (h : v.proj x = some (y, σ)) {g g' : Gh} {w : World} {u : Value} {ns : List Nat} (hγ : g'.γ = g.γ) (hρ : ∀ k, k ∉ ns → g'.ρ k = g.ρ k) (hok : v.okp ns = true)
    (hσ : ∀ n m, (n, some m) ∈ σ → ∀ ob, g'.β n = some ob → g.β m = some ob) (hr : RA g w x.a u) : RA g' w (v.val y).a u := by
  cases v with
  | d t =>
    simp only [VK.proj] at h
    split at h
    · rename_i y' hy
      cases h
      have hle : ALe x.a (.d (t.dv y)) := decXV_le hy
      have := hle g w u hr
      cases this with
      | d _ _ h1 => exact .d _ _ (hγ ▸ h1)
    · cases h
  | tip n t ty =>
    change projTip n t ty x = some (y, σ) at h
    unfold projTip at h
    split at h
    · rename_i m u' l' ty''
      split at h
      · rename_i he
        have e0 := Ty.eqb_eq he
        subst e0
        cases ht : tyLe ty'' ty with
        | false => simp [ht] at h
        | true =>
          simp only [ht, cond_true, Option.some.injEq, Prod.mk.injEq] at h
          obtain ⟨rfl, rfl⟩ := h
          simp only [XV.a] at hr
          cases hr with
          | tip _ _ _ _ _ h1 h2 =>
            refine .tip _ _ _ _ _ (hγ ▸ h1) ?_
            unfold TipOk at h2 ⊢
            split at h2
            · rename_i a len cap
              intro ob hob
              obtain ⟨a1, a2, a3, a4, a5⟩ := h2 ob (hσ n m (by simp) ob hob)
              refine ⟨a1, a2, by rw [hγ]; exact a3, a4, fun e hte => ?_⟩
              refine a5 e ?_
              subst hte
              simp only [tyLe] at ht
              split at ht
              · rw [Nat.eq_of_beq_eq_true ht]
              · cases ht
            · trivial
      · cases h
    · simp only [Option.some.injEq, Prod.mk.injEq] at h
      obtain ⟨rfl, rfl⟩ := h
      simp only [XV.a, XD.d] at hr
      cases hr with
      | d _ _ h1 =>
        cases h1
        exact .tip _ _ _ _ _ (.nil _ none 0 fun _ => rfl) trivial
    · cases h
  | p k off =>
    change projPtr k off x = some (y, σ) at h
    unfold projPtr at h
    split at h
    · rename_i k' off'
      cases h1 : Nat.beq k' k with
      | false => simp [h1] at h
      | true =>
        cases h2 : pkEq off' off with
        | false => simp [h1, h2] at h
        | true =>
          have e1 := Nat.eq_of_beq_eq_true h1
          have e2 := pkEq_eq h2
          subst e1; subst e2
          simp only [XV.a] at hr
          cases hr with
          | nm _ _ _ h => exact .nm _ _ _ (by
              rw [hρ]
              · exact h
              · intro hm
                simp [VK.okp, (inl_eq _ _).2 hm] at hok)
    · cases h
  | os k t =>
    change projOs k t x = some (y, σ) at h
    have hk : k ∉ ns := by
      intro hm
      simp [VK.okp, (inl_eq _ _).2 hm] at hok
    unfold projOs at h
    split at h
    · rename_i k' t' a n
      cases h1 : Nat.beq k' k with
      | false => simp [h1] at h
      | true =>
        cases h2 : t'.eqb t with
        | false => simp [h1, h2] at h
        | true =>
          cases h3 : Nat.beq a 0 with
          | false => simp [h1, h2, h3] at h
          | true =>
            have e1 := Nat.eq_of_beq_eq_true h1
            have e2 := Ty.eqb_eq h2
            have e3 := Nat.eq_of_beq_eq_true h3
            subst e1; subst e2; subst e3
            simp only [h1, h2, h3, cond_true, Option.some.injEq, Prod.mk.injEq] at h
            obtain ⟨rfl, rfl⟩ := h
            simp only [XV.a] at hr
            cases hr with
            | nm _ _ _ h => exact .nm _ _ _ (by rw [hρ _ hk]; exact h)
    · cases h
  | z k off =>
    change projZ k off x = some (y, σ) at h
    have hk : k ∉ ns := by
      intro hm
      simp [VK.okp, (inl_eq _ _).2 hm] at hok
    unfold projZ at h
    split at h
    · rename_i k' off'
      cases h1 : Nat.beq k' k with
      | false => simp [h1] at h
      | true =>
        cases h2 : Nat.beq off' off with
        | false => simp [h1, h2] at h
        | true =>
          have e1 := Nat.eq_of_beq_eq_true h1
          have e2 := Nat.eq_of_beq_eq_true h2
          subst e1; subst e2
          simp only [h1, h2, cond_true, Option.some.injEq, Prod.mk.injEq] at h
          obtain ⟨rfl, rfl⟩ := h
          simp only [XV.a] at hr
          cases hr with
          | nm _ _ _ h => exact .nm _ _ _ (by rw [hρ _ hk]; exact h)
    · rename_i k' b off'
      cases h1 : Nat.beq k' k with
      | false => simp [h1] at h
      | true =>
        cases h2 : Nat.beq off' off with
        | false => simp [h1, h2] at h
        | true =>
          have e1 := Nat.eq_of_beq_eq_true h1
          have e2 := Nat.eq_of_beq_eq_true h2
          subst e1; subst e2
          simp only [h1, h2, cond_true, Option.some.injEq, Prod.mk.injEq] at h
          obtain ⟨rfl, rfl⟩ := h
          simp only [XV.a] at hr
          cases hr with
          | nm _ _ _ h => exact .nm _ _ _ (by rw [hρ _ hk]; exact h)
    · cases h
      simp only [XV.a, XD.d] at hr
      cases hr with
      | d _ _ h1 =>
        cases h1
        exact .nm _ _ _ rfl
    · cases h
end Go.Xl
set_option linter.unusedVariables false
set_option linter.unusedSimpArgs false
set_option linter.unnecessarySimpa false
namespace Go.Xl
open Go.Ab
theorem projTip_labs {n : Nat} {t : Ty} {ty : Option TypeId} {x : XV} {y : List t.T} {σ : Lab} (h : projTip n t ty x = some (y, σ)) : σ.map (·.1) = [n] := by
  unfold projTip at h
  split at h
  · split at h
    · rename_i m u' l' ty'' he
      cases ht : tyLe ty'' ty with
      | false => simp [ht] at h
      | true => simp only [ht, cond_true, Option.some.injEq, Prod.mk.injEq] at h; rw [← h.2]; rfl
    · cases h
  · simp only [Option.some.injEq, Prod.mk.injEq] at h; rw [← h.2]; rfl
  · cases h
theorem projD_labs {t : Ty} {x : XV} {y : t.T} {σ : Lab} (h : (VK.d t).proj x = some (y, σ)) : σ = [] := by
  simp only [VK.proj] at h
  split at h
  · cases h; rfl
  · cases h
theorem projP_labs {k off : Nat} {x : XV} {y : Unit} {σ : Lab} (h : (VK.p k off).proj x = some (y, σ)) : σ = [] := by
  change projPtr k off x = some (y, σ) at h
  unfold projPtr at h
  split at h
  · rename_i k' off'
    cases h1 : Nat.beq k' k with
    | false => simp [h1] at h
    | true =>
      cases h2 : pkEq off' off with
      | false => simp [h1, h2] at h
      | true => simp only [h1, h2, cond_true, Option.some.injEq, Prod.mk.injEq] at h; exact h.2.symm
  · cases h
theorem projZ_labs {k off : Nat} {x : XV} {y : Bool} {σ : Lab} (h : (VK.z k off).proj x = some (y, σ)) : σ = [] := by
  change projZ k off x = some (y, σ) at h
  unfold projZ at h
  split at h
  · rename_i k' off'
    cases h1 : Nat.beq k' k with
    | false => simp [h1] at h
    | true =>
      cases h2 : Nat.beq off' off with
      | false => simp [h1, h2] at h
      | true => simp only [h1, h2, cond_true, Option.some.injEq, Prod.mk.injEq] at h; exact h.2.symm
  · rename_i k' b off'
    cases h1 : Nat.beq k' k with
    | false => simp [h1] at h
    | true =>
      cases h2 : Nat.beq off' off with
      | false => simp [h1, h2] at h
      | true => simp only [h1, h2, cond_true, Option.some.injEq, Prod.mk.injEq] at h; exact h.2.symm
  · cases h; rfl
  · cases h
theorem projOs_labs {k : Nat} {t : Ty} {x : XV} {y : Nat} {σ : Lab} (h : (VK.os k t).proj x = some (y, σ)) : σ = [] := by
  change projOs k t x = some (y, σ) at h
  unfold projOs at h
  split at h
  · rename_i k' t' a n
    cases h1 : Nat.beq k' k <;> cases h2 : t'.eqb t <;> cases h3 : Nat.beq a 0 <;> simp [h1, h2, h3] at h
    exact h.2
  · cases h
theorem projVars_labs {env : List (Nat × XV)} : ∀ {l : List (Tmp × VK)} {x : VarsT l} {σ : Lab}, projVars env l = some (x, σ) → σ.map (·.1) = labsOfVars l
  | [], x, σ, h => by simp [projVars] at h; rw [h]; rfl
  | (t, v) :: r, x, σ, h => by
    unfold projVars at h
    split at h
    · rename_i z hz
      split at h
      · rename_i y σ1 hy
        split at h
        · rename_i ys τ hys
          simp only [Option.some.injEq, Prod.mk.injEq] at h
          rw [← h.2, List.map_append, projVars_labs hys]
          cases v with
          | d t => rw [projD_labs hy]; rfl
          | tip n t ty => rw [projTip_labs hy]; rfl
          | p k off => rw [projP_labs hy]; rfl
          | z k off => rw [projZ_labs hy]; rfl
          | os k t => rw [projOs_labs hy]; rfl
        · cases h
      · cases h
    · cases h
theorem projCells_labs : ∀ {l : List VK} {cs : List XV} {x : CellsT l} {σ : Lab}, projCells l cs = some (x, σ) → σ.map (·.1) = labsOfCells l
  | [], cs, x, σ, h => by
    unfold projCells at h
    split at h
    · cases h; rfl
    · cases h
  | .d t :: r, cs, x, σ, h => by
    unfold projCells at h
    split at h
    · split at h
      · split at h
        · rename_i ys τ hys
          cases h
          exact projCells_labs (l := r) hys
        · cases h
      · cases h
    · cases h
  | .p k off :: r, cs, x, σ, h => by
    unfold projCells at h
    split at h
    · split at h
      · rename_i y σ1 hy
        split at h
        · rename_i ys τ hys
          cases h
          rw [List.map_append, projP_labs hy, projCells_labs hys]; rfl
        · cases h
      · cases h
    · cases h
  | .z k off :: r, cs, x, σ, h => by
    unfold projCells at h
    split at h
    · split at h
      · rename_i y σ1 hy
        split at h
        · rename_i ys τ hys
          cases h
          rw [List.map_append, projZ_labs hy, projCells_labs hys]; rfl
        · cases h
      · cases h
    · cases h
  | .os k t :: r, cs, x, σ, h => by
    unfold projCells at h
    split at h
    · split at h
      · rename_i y σ1 hy
        split at h
        · rename_i ys τ hys
          cases h
          rw [List.map_append, projOs_labs hy, projCells_labs hys]; rfl
        · cases h
      · cases h
    · cases h
  | .tip n t ty :: r, cs, x, σ, h => by
    unfold projCells at h
    split at h
    · split at h
      · rename_i y σ1 hy
        split at h
        · rename_i ys τ hys
          cases h
          rw [List.map_append, projTip_labs hy, projCells_labs hys]; rfl
        · cases h
      · cases h
    · cases h
theorem projObjs_labs {objs : List (Nat × XOb)} : ∀ {l : List (Nat × List VK × Option TypeId)} {x : ObjsT l} {σ : Lab}, projObjs objs l = some (x, σ) → σ.map (·.1) = labsOfObjs l
  | [], x, σ, h => by simp [projObjs] at h; rw [h]; rfl
  | p :: r, x, σ, h => by
    unfold projObjs at h
    split at h
    · rename_i cs ty hk
      cases ht : tyEqO ty p.2.2 with
      | false => simp [ht] at h
      | true =>
        simp only [ht, cond_true] at h
        split at h
        · rename_i y σ1 hy
          split at h
          · rename_i ys τ hys
            cases h
            rw [List.map_append, projCells_labs hy, projObjs_labs hys]; rfl
          · cases h
        · cases h
    · cases h
noncomputable def CellsOk (g : Gh) (w : World) (cs : List XV) (vs : List Value) : Prop := ∀ (i : Nat) x v, cs[i]? = some x → vs[i]? = some v → RA g w x.a v
theorem CellsOk.split {g : Gh} {w : World} {a b : List XV} {vs : List Value} (h : CellsOk g w a (vs.take a.length)) (h' : CellsOk g w b (vs.drop a.length)) : CellsOk g w (a ++ b) vs := by
  intro i x v hx hv
  rw [List.getElem?_append] at hx
  split at hx
  · rename_i hlt
    refine h i x v hx ?_
    rw [List.getElem?_take, if_pos hlt]; exact hv
  · refine h' (i - a.length) x v hx ?_
    rw [List.getElem?_drop, show a.length + (i - a.length) = i by omega]; exact hv
theorem okCells_cons {ns : List Nat} {v : VK} {r : List VK} (h : okCells ns (v :: r) = true) : v.okp ns = true ∧ okCells ns r = true := by
  simp only [okCells] at h
  cases hv : v.okp ns with
  | false => simp [hv] at h
  | true => simp only [hv, cond_true] at h; exact ⟨rfl, h⟩
theorem projCells_ra {g g' : Gh} {w : World} {ns : List Nat} (hγ : g'.γ = g.γ) (hρ : ∀ k, k ∉ ns → g'.ρ k = g.ρ k) : ∀ {l : List VK} {cs : List XV} {x : CellsT l} {σ : Lab} {vs : List Value}, okCells ns l = true → projCells l cs = some (x, σ) →
    (∀ n m, (n, some m) ∈ σ → ∀ ob, g'.β n = some ob → g.β m = some ob) → CellsOk g w cs vs → CellsOk g' w (genCells l x) vs ∧ (genCells l x).length = cs.length
  | [], cs, x, σ, vs, hok, h, hσ, hc => by
    unfold projCells at h
    split at h
    · exact ⟨fun i x v hx => by simp [genCells] at hx, rfl⟩
    · cases h
  | .d t :: r, cs, x, σ, vs, hok, h, hσ, hc => by
    unfold projCells at h
    split at h
    · rename_i ds hds
      split at h
      · rename_i y hy
        split at h
        · rename_i ys τ hys
          cases h
          obtain ⟨zs, hz, hle⟩ := t.dec_spec hy
          simp only [dsOf, List.append_nil] at hz
          subst hz
          have hm := allXt_get hds
          have hlen : ds.length = t.size := by rw [← dsOf_length, hle.length, Ty.ds_length]
          have hle1 : t.size ≤ cs.length := by
            have : (cs.take t.size).length = ds.length := hm.1
            rw [List.length_take, hlen] at this; omega
          have ih := projCells_ra hγ hρ (vs := vs.drop t.size) (okCells_cons hok).2 hys hσ (by
            intro i x v hx hv
            rw [List.getElem?_drop] at hx hv
            exact hc _ x v hx hv)
          simp only [genCells, VK.cells]
          refine ⟨CellsOk.split ?_ (by simpa [Ty.enc_length] using ih.1), by simp [Ty.enc_length, ih.2]; omega⟩
          intro i x v hx hv
          rw [List.getElem?_map, Option.map_eq_some_iff] at hx
          obtain ⟨z, hz, rfl⟩ := hx
          simp only [List.length_map] at hv
          rw [List.getElem?_take] at hv
          split at hv
          · have hd : (t.ds y)[i]? = some z.d := by rw [← Ty.enc_ds, dsOf_map, List.getElem?_map, hz]; rfl
            obtain ⟨u, hu, hule⟩ := hle.get hd
            rw [dsOf_map, List.getElem?_map, Option.map_eq_some_iff] at hu
            obtain ⟨u', hu', rfl⟩ := hu
            have hi : i < t.size := by
              have := (List.getElem?_eq_some_iff.1 hu').1; omega
            obtain ⟨c0, hcs⟩ : ∃ c0, cs[i]? = some c0 := ⟨_, List.getElem?_eq_getElem (by omega)⟩
            have hct : (cs.take t.size)[i]? = some c0 := by rw [List.getElem?_take, if_pos hi]; exact hcs
            have := hm.2 i c0 u' hct hu' g w v (hc i _ v hcs hv)
            have := ALe.d hule g w v this
            simp only [XV.a]
            cases this with
            | d _ _ h1 => exact .d _ _ (hγ ▸ h1)
          · cases hv
        · cases h
      · cases h
    · cases h
  | .tip n t ty :: r, cs, x, σ, vs, hok, h, hσ, hc => by
    unfold projCells at h
    split at h
    · rename_i c cs'
      split at h
      · rename_i y σ1 hy
        split at h
        · rename_i ys τ hys
          cases h
          have ih := projCells_ra hγ hρ (vs := vs.drop 1) (okCells_cons hok).2 hys (fun n m hm => hσ n m (List.mem_append_right _ hm)) (by
            intro i x v hx hv
            rw [List.getElem?_drop] at hv
            exact hc (i + 1) x v (by simpa using hx) (by rw [Nat.add_comm]; exact hv))
          simp only [genCells, VK.cells]
          refine ⟨CellsOk.split (a := [_]) ?_ (by simpa using ih.1), by simp [ih.2]⟩
          intro i x v hx hv
          cases i with
          | succ i => simp at hx
          | zero =>
            simp at hx
            subst hx
            have hv' : vs[0]? = some v := by
              rw [List.getElem?_take] at hv; simpa using hv
            exact VK.proj_ra (v := .tip n t ty) hy hγ hρ (okCells_cons hok).1 (fun n m hm => hσ n m (List.mem_append_left _ hm)) (hc 0 c v rfl hv')
        · cases h
      · cases h
    · cases h
  | .p k off :: r, cs, x, σ, vs, hok, h, hσ, hc => by
    unfold projCells at h
    split at h
    · rename_i c cs'
      split at h
      · rename_i y σ1 hy
        split at h
        · rename_i ys τ hys
          cases h
          have ih := projCells_ra hγ hρ (vs := vs.drop 1) (okCells_cons hok).2 hys (fun n m hm => hσ n m (List.mem_append_right _ hm)) (by
            intro i x v hx hv
            rw [List.getElem?_drop] at hv
            exact hc (i + 1) x v (by simpa using hx) (by rw [Nat.add_comm]; exact hv))
          simp only [genCells, VK.cells]
          refine ⟨CellsOk.split (a := [_]) ?_ (by simpa using ih.1), by simp [ih.2]⟩
          intro i x v hx hv
          cases i with
          | succ i => simp at hx
          | zero =>
            simp at hx
            subst hx
            have hv' : vs[0]? = some v := by
              rw [List.getElem?_take] at hv; simpa using hv
            exact VK.proj_ra (v := .p k off) hy hγ hρ (okCells_cons hok).1 (fun n m hm => hσ n m (List.mem_append_left _ hm)) (hc 0 c v rfl hv')
        · cases h
      · cases h
    · cases h
  | .z k off :: r, cs, x, σ, vs, hok, h, hσ, hc => by
    unfold projCells at h
    split at h
    · rename_i c cs'
      split at h
      · rename_i y σ1 hy
        split at h
        · rename_i ys τ hys
          cases h
          have ih := projCells_ra hγ hρ (vs := vs.drop 1) (okCells_cons hok).2 hys (fun n m hm => hσ n m (List.mem_append_right _ hm)) (by
            intro i x v hx hv
            rw [List.getElem?_drop] at hv
            exact hc (i + 1) x v (by simpa using hx) (by rw [Nat.add_comm]; exact hv))
          simp only [genCells, VK.cells]
          refine ⟨CellsOk.split (a := [_]) ?_ (by simpa using ih.1), by simp [ih.2]⟩
          intro i x v hx hv
          cases i with
          | succ i => simp at hx
          | zero =>
            simp at hx
            subst hx
            have hv' : vs[0]? = some v := by
              rw [List.getElem?_take] at hv; simpa using hv
            exact VK.proj_ra (v := .z k off) hy hγ hρ (okCells_cons hok).1 (fun n m hm => hσ n m (List.mem_append_left _ hm)) (hc 0 c v rfl hv')
        · cases h
      · cases h
    · cases h
  | .os k t :: r, cs, x, σ, vs, hok, h, hσ, hc => by
    unfold projCells at h
    split at h
    · rename_i c cs'
      split at h
      · rename_i y σ1 hy
        split at h
        · rename_i ys τ hys
          cases h
          have ih := projCells_ra hγ hρ (vs := vs.drop 1) (okCells_cons hok).2 hys (fun n m hm => hσ n m (List.mem_append_right _ hm)) (by
            intro i x v hx hv
            rw [List.getElem?_drop] at hv
            exact hc (i + 1) x v (by simpa using hx) (by rw [Nat.add_comm]; exact hv))
          simp only [genCells, VK.cells]
          refine ⟨CellsOk.split (a := [_]) ?_ (by simpa using ih.1), by simp [ih.2]⟩
          intro i x v hx hv
          cases i with
          | succ i => simp at hx
          | zero =>
            simp at hx
            subst hx
            have hv' : vs[0]? = some v := by
              rw [List.getElem?_take] at hv; simpa using hv
            exact VK.proj_ra (v := .os k t) hy hγ hρ (okCells_cons hok).1 (fun n m hm => hσ n m (List.mem_append_left _ hm)) (hc 0 c v rfl hv')
        · cases h
      · cases h
    · cases h
theorem lk_mem {α : Type} {k : Nat} {x : α} : ∀ {l : List (Nat × α)}, lk k l = some x → (k, x) ∈ l
  | [], h => by cases h
  | p :: r, h => by
    simp only [lk_cons, lk_nil] at h
    cases hb : Nat.beq p.1 k with
    | true =>
      simp only [hb, cond_true, Option.some.injEq] at h
      have := Nat.eq_of_beq_eq_true hb
      subst h; subst this
      exact List.mem_cons_self
    | false =>
      simp only [hb, cond_false] at h
      exact List.mem_cons_of_mem _ (lk_mem h)
theorem lk_none {α : Type} {k : Nat} : ∀ {l : List (Nat × α)}, lk k l = none → k ∉ l.map (·.1)
  | [], _ => by simp
  | p :: r, h => by
    simp only [lk_cons, lk_nil] at h
    cases hb : Nat.beq p.1 k with
    | true => simp [hb] at h
    | false =>
      simp only [hb, cond_false] at h
      have : p.1 ≠ k := Nat.ne_of_beq_eq_false hb
      simp only [List.map_cons, List.mem_cons, not_or]
      exact ⟨Ne.symm this, lk_none h⟩
theorem lk_isSome {α : Type} {k : Nat} {l : List (Nat × α)} (h : k ∈ l.map (·.1)) : ∃ x, lk k l = some x := by
  cases hl : lk k l with
  | some x => exact ⟨x, rfl⟩
  | none => exact absurd h (lk_none hl)
theorem lk_append {α : Type} {k : Nat} {a b : List (Nat × α)} : lk k (a ++ b) = match lk k a with | some x => some x | none => lk k b := by
  induction a with
  | nil => rfl
  | cons p r ih =>
    simp only [List.cons_append, lk_cons, lk_nil, ih]
    cases Nat.beq p.1 k <;> rfl
theorem lk_of_mem {α : Type} {k : Nat} {x : α} : ∀ {l : List (Nat × α)}, (l.map (·.1)).Nodup → (k, x) ∈ l → lk k l = some x
  | [], _, h => by simp at h
  | p :: r, hnd, h => by
    simp only [List.map_cons, List.nodup_cons] at hnd
    simp only [lk_cons, lk_nil]
    rcases List.mem_cons.1 h with h' | h'
    · subst h'; simp
    · have hne : p.1 ≠ k := fun he => hnd.1 (he ▸ List.mem_map_of_mem (f := (·.1)) h')
      rw [nbF hne]
      exact lk_of_mem hnd.2 h'
theorem okVars_cons {ns : List Nat} {v : Tmp × VK} {r : List (Tmp × VK)} (h : okVars ns (v :: r) = true) : v.2.okp ns = true ∧ okVars ns r = true := by
  simp only [okVars] at h
  cases hv : v.2.okp ns with
  | false => simp [hv] at h
  | true => simp only [hv, cond_true] at h; exact ⟨rfl, h⟩
theorem okObjs_cons {ns : List Nat} {v : Nat × List VK × Option TypeId} {r : List (Nat × List VK × Option TypeId)} (h : okObjs ns (v :: r) = true) : okCells ns v.2.1 = true ∧ okObjs ns r = true := by
  simp only [okObjs] at h
  cases hv : okCells ns v.2.1 with
  | false => simp [hv] at h
  | true => simp only [hv, cond_true] at h; exact ⟨rfl, h⟩
theorem projVars_mem {env : List (Nat × XV)} : ∀ {l : List (Tmp × VK)} {x : VarsT l} {σ : Lab} {t : Nat} {y : XV}, projVars env l = some (x, σ) → (t, y) ∈ genVars l x →
    ∃ (v : VK) (z : XV) (u : v.T) (σ' : Lab), lk t env = some z ∧ v.proj z = some (u, σ') ∧ y = v.val u ∧ (∀ p ∈ σ', p ∈ σ) ∧ ∀ ns, okVars ns l = true → v.okp ns = true
  | [], x, σ, t, y, h, hm => by simp [genVars] at hm
  | p :: r, x, σ, t, y, h, hm => by
    unfold projVars at h
    split at h
    · rename_i z hz
      split at h
      · rename_i u σ1 hu
        split at h
        · rename_i ys τ hys
          cases h
          simp only [genVars, List.mem_cons] at hm
          rcases hm with hm | hm
          · cases hm
            exact ⟨p.2, z, u, σ1, hz, hu, rfl, fun q hq => List.mem_append_left _ hq, fun ns hn => (okVars_cons hn).1⟩
          · obtain ⟨v, z, u, σ', h1, h2, h3, h4, h5⟩ := projVars_mem hys hm
            exact ⟨v, z, u, σ', h1, h2, h3, fun q hq => List.mem_append_right _ (h4 q hq), fun ns hn => h5 ns (okVars_cons hn).2⟩
        · cases h
      · cases h
    · cases h
theorem projObjs_mem {objs : List (Nat × XOb)} : ∀ {l : List (Nat × List VK × Option TypeId)} {x : ObjsT l} {σ : Lab} {k : Nat} {y : XOb}, projObjs objs l = some (x, σ) → (k, y) ∈ genObjs l x →
    ∃ (vs : List VK) (cs : List XV) (ty : Option TypeId) (u : CellsT vs) (σ' : Lab), lk k objs = some (.cells cs ty) ∧ projCells vs cs = some (u, σ') ∧ y = .cells (genCells vs u) ty ∧ (∀ p ∈ σ', p ∈ σ) ∧ k ∈ l.map (·.1) ∧ ∀ ns, okObjs ns l = true → okCells ns vs = true
  | [], x, σ, k, y, h, hm => by simp [genObjs] at hm
  | p :: r, x, σ, k, y, h, hm => by
    unfold projObjs at h
    split at h
    · rename_i cs ty hk
      cases ht : tyEqO ty p.2.2 with
      | false => simp [ht] at h
      | true =>
        simp only [ht, cond_true] at h
        have := tyEqO_eq ht
        split at h
        · rename_i u σ1 hu
          split at h
          · rename_i ys τ hys
            cases h
            simp only [genObjs, List.mem_cons] at hm
            rcases hm with hm | hm
            · cases hm
              exact ⟨p.2.1, cs, ty, u, σ1, hk, hu, by rw [this], fun q hq => List.mem_append_left _ hq, List.mem_cons_self, fun ns hn => (okObjs_cons hn).1⟩
            · obtain ⟨vs, cs, ty, u, σ', h1, h2, h3, h4, h6, h5⟩ := projObjs_mem hys hm
              exact ⟨vs, cs, ty, u, σ', h1, h2, h3, fun q hq => List.mem_append_right _ (h4 q hq), List.mem_cons_of_mem _ h6, fun ns hn => h5 ns (okObjs_cons hn).2⟩
          · cases h
        · cases h
    · cases h
theorem keepEnv_mem {env : List (Nat × XV)} : ∀ {l : List Tmp} {t : Nat} {y : XV}, (t, y) ∈ keepEnv env l → t ∈ l ∧ lk t env = some y
  | [], t, y, h => by simp [keepEnv] at h
  | a :: r, t, y, h => by
    unfold keepEnv at h
    split at h
    · rename_i x hx
      rcases List.mem_cons.1 h with h | h
      · cases h; exact ⟨List.mem_cons_self, hx⟩
      · have := keepEnv_mem h; exact ⟨List.mem_cons_of_mem _ this.1, this.2⟩
    · have := keepEnv_mem h; exact ⟨List.mem_cons_of_mem _ this.1, this.2⟩
theorem keepObjs_mem {objs : List (Nat × XOb)} : ∀ {l : List Nat} {t : Nat} {y : XOb}, (t, y) ∈ keepObjs objs l → t ∈ l ∧ lk t objs = some y
  | [], t, y, h => by simp [keepObjs] at h
  | a :: r, t, y, h => by
    unfold keepObjs at h
    split at h
    · rename_i x hx
      rcases List.mem_cons.1 h with h | h
      · cases h; exact ⟨List.mem_cons_self, hx⟩
      · have := keepObjs_mem h; exact ⟨List.mem_cons_of_mem _ this.1, this.2⟩
    · have := keepObjs_mem h; exact ⟨List.mem_cons_of_mem _ this.1, this.2⟩
theorem notIn {a : Nat} {l : List Nat} (hw : inl a l = false) : a ∉ l := by
  intro hm
  rw [(inl_eq _ _).2 hm] at hw
  cases hw
theorem keptEnv_spec {s : XSt} {ns : List Nat} : ∀ {l : List Tmp}, keptEnv s ns l = true → ∀ t ∈ l, t ∉ s.wl ∧ ∃ x, lk t s.env = some x ∧ isFree ns x.a = true
  | [], _ => by simp
  | a :: r, h => by
    unfold keptEnv at h
    cases hw : inl a s.wl with
    | true => simp [hw] at h
    | false =>
      simp only [hw, cond_false] at h
      split at h
      · rename_i x hx
        cases hf : isFree ns x.a with
        | false => simp [hf] at h
        | true =>
          simp only [hf, cond_true] at h
          intro t ht
          rcases List.mem_cons.1 ht with rfl | ht
          · exact ⟨notIn hw, x, hx, hf⟩
          · exact keptEnv_spec h t ht
      · cases h
theorem keptObjs_spec {s : XSt} {ns : List Nat} : ∀ {l : List Nat}, keptObjs s ns l = true → ∀ t ∈ l, t ∉ s.ol ∧ ∃ x, lk t s.objs = some x ∧ obFree ns x.o = true
  | [], _ => by simp
  | a :: r, h => by
    unfold keptObjs at h
    cases hw : inl a s.ol with
    | true => simp [hw] at h
    | false =>
      simp only [hw, cond_false] at h
      split at h
      · rename_i x hx
        cases hf : obFreeX ns x with
        | false => simp [hf] at h
        | true =>
          simp only [hf, cond_true] at h
          intro t ht
          rcases List.mem_cons.1 ht with rfl | ht
          · exact ⟨notIn hw, x, hx, obFreeX_ok hf⟩
          · exact keptObjs_spec h t ht
      · cases h
theorem oldLabs_mem : ∀ {τ : Lab} {m : Nat}, m ∈ oldLabs τ ↔ ∃ n, (n, some m) ∈ τ
  | [], m => by simp [oldLabs]
  | (n, some k) :: r, m => by
    simp only [oldLabs, List.mem_cons, oldLabs_mem (τ := r), Prod.mk.injEq, Option.some.injEq]
    constructor
    · rintro (rfl | ⟨n', h⟩)
      · exact ⟨n, .inl ⟨rfl, rfl⟩⟩
      · exact ⟨n', .inr h⟩
    · rintro ⟨n', ⟨rfl, rfl⟩ | h⟩
      · exact .inl rfl
      · exact .inr ⟨n', h⟩
  | (n, none) :: r, m => by
    simp only [oldLabs, List.mem_cons, oldLabs_mem (τ := r), Prod.mk.injEq, reduceCtorEq, and_false, false_or]
theorem oldLabs_inj : ∀ {τ : Lab} {n n' m : Nat}, (oldLabs τ).Nodup → (n, some m) ∈ τ → (n', some m) ∈ τ → n = n'
  | [], n, n', m, _, h, _ => by simp at h
  | (a, some k) :: r, n, n', m, hnd, h, h' => by
    simp only [oldLabs, List.nodup_cons] at hnd
    rcases List.mem_cons.1 h with h1 | h1 <;> rcases List.mem_cons.1 h' with h2 | h2
    · cases h1; cases h2; rfl
    · cases h1; exact absurd (oldLabs_mem.2 ⟨n', h2⟩) hnd.1
    · cases h2; exact absurd (oldLabs_mem.2 ⟨n, h1⟩) hnd.1
    · exact oldLabs_inj hnd.2 h1 h2
  | (a, none) :: r, n, n', m, hnd, h, h' => by
    simp only [oldLabs] at hnd
    simp only [List.mem_cons, Prod.mk.injEq, reduceCtorEq, and_false, false_or] at h h'
    exact oldLabs_inj hnd h h'
theorem imEnv_mem {l : List (Nat × XV)} {t : Nat} {x : AV} (h : (imEnv l).lookup t = some x) : ∃ y, lk t l = some y ∧ x = y.a := by
  rw [im_env] at h
  obtain ⟨y, hy, rfl⟩ := Option.map_eq_some_iff.1 h
  exact ⟨y, hy, rfl⟩
theorem imObjs_mem {l : List (Nat × XOb)} {t : Nat} {x : Ob} (h : (imObjs l).lookup t = some x) : ∃ y, lk t l = some y ∧ x = y.o := by
  rw [im_objs] at h
  obtain ⟨y, hy, rfl⟩ := Option.map_eq_some_iff.1 h
  exact ⟨y, hy, rfl⟩
theorem projOwn_memE {env : List (Nat × XV)} {objs : List (Nat × XOb)} : ∀ {l : List (Tmp × Nat × Ty)} {x : OwnT l} {ν : List (Nat × Nat)} {t : Nat} {y : XV}, projOwn env objs l = some (x, ν) → (t, y) ∈ genOwnE l x →
    (y = .d (.v (.slice none 0 0)) ∧ lk t env = some y) ∨ ∃ (n k : Nat) (ty : Ty) (len : Nat), (n, k) ∈ ν ∧ lk t env = some (.os k ty 0 len) ∧ y = .os n ty 0 len
  | [], x, ν, t, y, h, hm => by simp [genOwnE] at hm
  | p :: r, x, ν, t, y, h, hm => by
    unfold projOwn at h
    split at h
    · rename_i k ty a len xs τ hv hr
      split at h
      · rename_i tu l hk
        split at h
        · rename_i he
          cases h1 : ty.eqb p.2.2 with
          | false => simp [h1] at h
          | true =>
          cases h2 : Nat.beq a 0 with
          | false => simp [h1, h2] at h
          | true =>
            simp only [h1, h2, cond_true, Option.some.injEq, Prod.mk.injEq] at h
            obtain ⟨rfl, rfl⟩ := h
            have e1 := Ty.eqb_eq h1
            have e2 := Nat.eq_of_beq_eq_true h2
            subst e2
            simp only [genOwnE, List.mem_cons] at hm
            rcases hm with hm | hm
            · cases hm
              exact .inr ⟨p.2.1, k, ty, len, List.mem_cons_self, hv, by rw [e1]⟩
            · rcases projOwn_memE hr hm with h | ⟨n, k', ty', len', h1, h2, h3⟩
              · exact .inl h
              · exact .inr ⟨n, k', ty', len', List.mem_cons_of_mem _ h1, h2, h3⟩
        · cases h
      · cases h
    · rename_i xs τ hv hr
      simp only [Option.some.injEq, Prod.mk.injEq] at h
      obtain ⟨rfl, rfl⟩ := h
      simp only [genOwnE, List.mem_cons] at hm
      rcases hm with hm | hm
      · cases hm; exact .inl ⟨rfl, hv⟩
      · exact projOwn_memE hr hm
    · cases h
theorem projOwn_memO {env : List (Nat × XV)} {objs : List (Nat × XOb)} : ∀ {l : List (Tmp × Nat × Ty)} {x : OwnT l} {ν : List (Nat × Nat)} {n : Nat} {y : XOb}, projOwn env objs l = some (x, ν) → (n, y) ∈ genOwnO l x →
    ∃ k, (n, k) ∈ ν ∧ lk k objs = some y
  | [], x, ν, t, y, h, hm => by simp [genOwnO] at hm
  | p :: r, x, ν, t, y, h, hm => by
    unfold projOwn at h
    split at h
    · rename_i k ty a len xs τ hv hr
      split at h
      · rename_i tu l hk
        split at h
        · rename_i he
          cases h1 : ty.eqb p.2.2 with
          | false => simp [h1] at h
          | true =>
          cases h2 : Nat.beq a 0 with
          | false => simp [h1, h2] at h
          | true =>
            simp only [h1, h2, cond_true, Option.some.injEq, Prod.mk.injEq] at h
            obtain ⟨rfl, rfl⟩ := h
            simp only [genOwnO, List.mem_cons] at hm
            rcases hm with hm | hm
            · cases hm
              refine ⟨k, List.mem_cons_self, ?_⟩
              rw [hk]
              have e0 := Ty.eqb_eq he
              obtain ⟨a1, a2, a3⟩ := p
              simp only at he e0 ⊢
              subst e0
              rfl
            · obtain ⟨k', h1, h2⟩ := projOwn_memO hr hm
              exact ⟨k', List.mem_cons_of_mem _ h1, h2⟩
        · cases h
      · cases h
    · rename_i xs τ hv hr
      simp only [Option.some.injEq, Prod.mk.injEq] at h
      obtain ⟨rfl, rfl⟩ := h
      exact projOwn_memO hr hm
    · cases h
theorem projOwn_names {env : List (Nat × XV)} {objs : List (Nat × XOb)} : ∀ {l : List (Tmp × Nat × Ty)} {x : OwnT l} {ν : List (Nat × Nat)}, projOwn env objs l = some (x, ν) → ∀ p ∈ ν, p.1 ∈ ownNames l
  | [], x, ν, h => by simp [projOwn] at h; simp [h]
  | p :: r, x, ν, h => by
    unfold projOwn at h
    split at h
    · rename_i k ty a len xs τ hv hr
      split at h
      · split at h
        · cases h1 : ty.eqb p.2.2 with
          | false => simp [h1] at h
          | true =>
          cases h2 : Nat.beq a 0 with
          | false => simp [h1, h2] at h
          | true =>
            simp only [h1, h2, cond_true, Option.some.injEq, Prod.mk.injEq] at h
            obtain ⟨rfl, rfl⟩ := h
            intro q hq
            rcases List.mem_cons.1 hq with rfl | hq
            · exact List.mem_cons_self
            · exact List.mem_cons_of_mem _ (projOwn_names hr q hq)
        · cases h
      · cases h
    · rename_i xs τ hv hr
      simp only [Option.some.injEq, Prod.mk.injEq] at h
      obtain ⟨rfl, rfl⟩ := h
      intro q hq
      exact List.mem_cons_of_mem _ (projOwn_names hr q hq)
    · cases h
theorem projOwn_nodup {env : List (Nat × XV)} {objs : List (Nat × XOb)} : ∀ {l : List (Tmp × Nat × Ty)} {x : OwnT l} {ν : List (Nat × Nat)}, projOwn env objs l = some (x, ν) → (ownNames l).Nodup → (ν.map (·.1)).Nodup
  | [], x, ν, h, _ => by simp [projOwn] at h; simp [h]
  | p :: r, x, ν, h, hnd => by
    simp only [ownNames, List.nodup_cons] at hnd
    unfold projOwn at h
    split at h
    · rename_i k ty a len xs τ hv hr
      split at h
      · split at h
        · cases h1 : ty.eqb p.2.2 with
          | false => simp [h1] at h
          | true =>
          cases h2 : Nat.beq a 0 with
          | false => simp [h1, h2] at h
          | true =>
            simp only [h1, h2, cond_true, Option.some.injEq, Prod.mk.injEq] at h
            obtain ⟨rfl, rfl⟩ := h
            simp only [List.map_cons, List.nodup_cons]
            refine ⟨fun hm => ?_, projOwn_nodup hr hnd.2⟩
            obtain ⟨q, hq, he⟩ := List.mem_map.1 hm
            exact hnd.1 (he ▸ projOwn_names hr q hq)
        · cases h
      · cases h
    · rename_i xs τ hv hr
      simp only [Option.some.injEq, Prod.mk.injEq] at h
      obtain ⟨rfl, rfl⟩ := h
      exact projOwn_nodup hr hnd.2
    · cases h
theorem projArrs_mem {objs : List (Nat × XOb)} : ∀ {l : List (Nat × OK)} {x : ArrsT l} {k : Nat} {y : XOb}, projArrs objs l = some x → (k, y) ∈ genArrs l x → lk k objs = some y ∧ k ∈ arrNames l
  | [], x, k, y, h, hm => by simp [genArrs] at hm
  | p :: r, x, k, y, h, hm => by
    unfold projArrs at h
    split at h
    · rename_i o xs hk hr
      split at h
      · rename_i z he
        cases h
        simp only [genArrs, List.mem_cons] at hm
        rcases hm with hm | hm
        · cases hm
          refine ⟨?_, List.mem_cons_self⟩
          rw [hk, OK.dec_eq he]
        · obtain ⟨h1, h2⟩ := projArrs_mem hr hm
          exact ⟨h1, List.mem_cons_of_mem _ h2⟩
      · cases h
    · cases h
end Go.Xl
set_option linter.unusedVariables false
set_option linter.unusedSimpArgs false
set_option linter.unnecessarySimpa false
namespace Go.Xl
open Go.Ab
theorem nodup_app {a b : List Nat} (h : (a ++ b).Nodup) : a.Nodup ∧ b.Nodup ∧ ∀ x ∈ a, x ∉ b := by
  rw [List.nodup_append] at h
  exact ⟨h.1, h.2.1, fun x hx hb => h.2.2 x hx x hb rfl⟩
theorem genOwnO_arr : ∀ {l : List (Tmp × Nat × Ty)} {x : OwnT l} {n : Nat} {y : XOb}, (n, y) ∈ genOwnO l x → n ∈ ownNames l ∧ ∃ t u, y = .arr t u
  | [], x, n, y, h => by simp [genOwnO] at h
  | p :: r, x, n, y, h => by
    unfold genOwnO at h
    split at h
    · exact ⟨List.mem_cons_of_mem _ (genOwnO_arr h).1, (genOwnO_arr h).2⟩
    · rcases List.mem_cons.1 h with h | h
      · cases h; exact ⟨List.mem_cons_self, _, _, rfl⟩
      · exact ⟨List.mem_cons_of_mem _ (genOwnO_arr h).1, (genOwnO_arr h).2⟩
theorem lk_imA {objs : List (Nat × XOb)} {k : Nat} {y : XOb} (h : lk k objs = some y) : (imObjs objs).lookup k = some y.o := by rw [im_objs, h]; rfl
theorem genArrs_free {ns : List Nat} : ∀ {l : List (Nat × OK)} {x : ArrsT l} {n : Nat} {y : XOb}, okArrs ns l = true → (n, y) ∈ genArrs l x → obFree ns y.o = true
  | [], x, n, y, ho, h => by simp [genArrs] at h
  | (q, ok) :: r, x, n, y, ho, h => by
    have ho' : ok.okp ns = true ∧ okArrs ns r = true := by
      simp only [okArrs] at ho
      cases hx : ok.okp ns with
      | false => simp [hx] at ho
      | true => simp only [hx, cond_true] at ho; exact ⟨rfl, ho⟩
    unfold genArrs at h
    rcases List.mem_cons.1 h with h | h
    · cases h
      cases ok with
      | arr t => exact arr_free _ _ _
      | mit m =>
        have h1 := ho'.1
        simp only [OK.okp] at h1
        show (!ns.contains m) = true
        cases hc : ns.contains m with
        | false => rfl
        | true => rw [(inl_eq m ns).2 (List.contains_iff_mem.1 hc)] at h1; cases h1
      | mapt m k v =>
        have h1 := ho'.1
        simp only [OK.okp] at h1
        show (!ns.contains m) = true
        cases hc : ns.contains m with
        | false => rfl
        | true => rw [(inl_eq m ns).2 (List.contains_iff_mem.1 hc)] at h1; cases h1
      | _ => rfl
    · exact genArrs_free ho'.2 h
theorem genArrs_names : ∀ (l : List (Nat × OK)) (x : ArrsT l), (genArrs l x).map (·.1) = arrNames l
  | [], x => rfl
  | p :: r, x => by simp only [genArrs, List.map_cons, arrNames, genArrs_names r]
theorem genObjs_names : ∀ (l : List (Nat × List VK × Option TypeId)) (y : ObjsT l), (genObjs l y).map (·.1) = l.map (·.1)
  | [], y => rfl
  | p :: r, y => by simp only [genObjs, List.map_cons, genObjs_names r]
theorem ownOk_spec {α : Type} {c : Cut} {ν : List (Nat × Nat)} {x : Option α} {y : α} (h : ownOk c ν x = some y) : (ownNames c.own).Nodup ∧ (∀ k ∈ ownNames c.own, k ∉ c.others) ∧ (ν.map (·.2)).Nodup ∧ (∀ k ∈ ν.map (·.2), k ∉ c.others) ∧
    (∀ k ∈ ownNames c.own, 1000 ≤ k) ∧ (∀ k ∈ c.labs, k ∉ ownNames c.own) ∧ okVars (ownNames c.own) c.vars = true ∧ okObjs (ownNames c.own) c.objs = true ∧ okArrs (c.labs ++ ownNames c.own) c.arrs = true ∧ x = some y := by
  unfold ownOk at h
  cases h1 : nodupL (ownNames c.own) with
  | false => simp [h1] at h
  | true =>
  cases h2 : apart (ownNames c.own) c.others with
  | false => simp [h1, h2] at h
  | true =>
  cases h3 : nodupL (ν.map (·.2)) with
  | false => simp [h1, h2, h3] at h
  | true =>
  cases h4 : apart (ν.map (·.2)) c.others with
  | false => simp [h1, h2, h3, h4] at h
  | true =>
  cases h5 : (ownNames c.own).all (Nat.ble 1000) with
  | false => simp only [h1, h2, h3, h4, h5, cond_true, cond_false] at h; cases h
  | true =>
  cases h6 : apart c.labs (ownNames c.own) with
  | false => simp only [h1, h2, h3, h4, h5, h6, cond_true, cond_false] at h; cases h
  | true =>
  cases h7 : okVars (ownNames c.own) c.vars with
  | false => simp only [h1, h2, h3, h4, h5, h6, h7, cond_true, cond_false] at h; cases h
  | true =>
  cases h8 : okObjs (ownNames c.own) c.objs with
  | false => simp only [h1, h2, h3, h4, h5, h6, h7, h8, cond_true, cond_false] at h; cases h
  | true =>
  cases h9 : okArrs (c.labs ++ ownNames c.own) c.arrs with
  | false => simp only [h1, h2, h3, h4, h5, h6, h7, h8, h9, cond_true, cond_false] at h; cases h
  | true =>
    simp only [h1, h2, h3, h4, h5, h6, h7, h8, h9, cond_true] at h
    exact ⟨nodupL_spec h1, apart_spec h2, nodupL_spec h3, apart_spec h4, fun k hk => Nat.le_of_ble_eq_true (List.all_eq_true.1 h5 k hk), apart_spec h6, rfl, rfl, rfl, h⟩
theorem proj_spec {nm kl : List Nat} {c : Cut} {s : XSt} {x : c.T} (h : proj nm kl c s = some x) : ∃ (σ τ0 : Lab) (ν : List (Nat × Nat)), projVars s.env c.vars = some (x.1, σ) ∧ projObjs s.objs c.objs = some (x.2.1, τ0) ∧
    projOwn s.env s.objs c.own = some (x.2.2.1, ν) ∧ projArrs s.objs c.arrs = some x.2.2.2 ∧ keptEnv s (c.labs ++ ownNames c.own) c.keepS = true ∧ keptObjs s (c.labs ++ ownNames c.own) c.keepO = true ∧
    (∀ n ∈ oldLabs (σ ++ τ0) ++ kl, n ∈ s.live) ∧ (oldLabs (σ ++ τ0) ++ kl).Nodup ∧ (c.labs ++ kl).Nodup ∧ (∀ k ∈ nm, k ∈ c.others) ∧ (∀ t ∈ c.keepS, t ∉ slotsOf c.vars ++ ownSlots c.own) ∧
    (∀ k ∈ c.keepO, k ∉ namesOf c.objs ++ (ownNames c.own ++ arrNames c.arrs)) ∧ ownOk c ν (some x) = some x := by
  unfold proj at h
  split at h
  · rename_i x1 σ y1 τ0 u1 ν v1 hx hy hu hv
    cases h1 : keptEnv s (c.labs ++ ownNames c.own) c.keepS with
    | false => simp [h1] at h
    | true =>
    cases h2 : keptObjs s (c.labs ++ ownNames c.own) c.keepO with
    | false => simp [h1, h2] at h
    | true =>
    cases h3 : subL (oldLabs (σ ++ τ0) ++ kl) s.live with
    | false => simp only [h1, h2, h3, cond_true, cond_false] at h; cases h
    | true =>
    cases h4 : nodupL (oldLabs (σ ++ τ0) ++ kl) with
    | false => simp only [h1, h2, h3, h4, cond_true, cond_false] at h; cases h
    | true =>
    cases h5 : nodupL (c.labs ++ kl) with
    | false => simp only [h1, h2, h3, h4, h5, cond_true, cond_false] at h; cases h
    | true =>
    cases h6 : subL nm c.others with
    | false => simp only [h1, h2, h3, h4, h5, h6, cond_true, cond_false] at h; cases h
    | true =>
    cases h7 : apart c.keepS (slotsOf c.vars ++ ownSlots c.own) with
    | false => simp only [h1, h2, h3, h4, h5, h6, h7, cond_true, cond_false] at h; cases h
    | true =>
    cases h8 : apart c.keepO (namesOf c.objs ++ (ownNames c.own ++ arrNames c.arrs)) with
    | false => simp only [h1, h2, h3, h4, h5, h6, h7, h8, cond_true, cond_false] at h; cases h
    | true =>
      simp only [h1, h2, h3, h4, h5, h6, h7, h8, cond_true] at h
      have h9 := (ownOk_spec h).2.2.2.2.2.2.2.2.2
      cases h9
      exact ⟨σ, τ0, ν, hx, hy, hu, hv, rfl, rfl, subL_spec h3, nodupL_spec h4, nodupL_spec h5, subL_spec h6, apart_spec h7, apart_spec h8, h⟩
  · cases h
theorem RA.osl_name {g g' : Gh} {w : World} {k k' off len sz : Nat} {v : Value} (h : RA g w (.osl k off len sz) v) (hk : g'.ρ k' = g.ρ k) : RA g' w (.osl k' off len sz) v := by
  cases h with
  | nm _ _ _ h => exact .nm _ _ _ (by rw [hk]; exact h)
theorem cut_sound {nm : List Nat} {c : Cut} {s s0 : XSt} {x : c.T} (h : proj nm (keepL s0 c) c s = some x) (hi1 : ∀ t ∈ c.keepS, ∀ x, t ∉ s.wl → lk t s.env = some x → lk t s0.env = some x)
    (hi2 : ∀ k ∈ c.keepO, ∀ x, k ∉ s.ol → lk k s.objs = some x → lk k s0.objs = some x) {S : Sig} {B : Base} {g : Gh} {w : World} {a : Act} (hs : SR S B g w s.im a)
    (hnm : S.names = nm) : ∃ g', SR S B g' w (gen s0 c x).im a := by
  generalize hkl : keepL s0 c = kl at h
  obtain ⟨σ, τ0, ν, hx, hy, hu, hv, h1, h2, l3, l4, l5, l6, l7, l8, hown⟩ := proj_spec h
  obtain ⟨w1, w2, w3, w4, w5, w6, w7, w8, w9, -⟩ := ownOk_spec hown
  generalize hτ : σ ++ τ0 = τ at l3 l4
  have k1 := keptEnv_spec h1
  have k2 := keptObjs_spec h2
  obtain ⟨n4a, n4b, n4c⟩ := nodup_app l4
  obtain ⟨n5a, n5b, n5c⟩ := nodup_app l5
  have hmap : τ.map (·.1) = c.labs := by
    rw [← hτ, List.map_append, projVars_labs hx, projObjs_labs hy]; rfl
  have hνn := projOwn_nodup hu w1
  have hνm := projOwn_names hu
  have hr := hs.hr
  let g' := cutGh g τ kl ν
  have hβ : ∀ n, g'.β n = cond (inl n kl) (g.β n) (match lk n τ with | some (some m) => g.β m | some none => some none | none => none) := fun n => rfl
  have hρ : ∀ k, k ∉ ownNames c.own → g'.ρ k = g.ρ k := by
    intro k hk
    show (match lk k ν with | some k => g.ρ k | none => g.ρ k) = g.ρ k
    cases hl : lk k ν with
    | none => rfl
    | some z => exact absurd (hνm _ (lk_mem hl)) hk
  have hρν : ∀ n k, (n, k) ∈ ν → g'.ρ n = g.ρ k := by
    intro n k hm
    show (match lk n ν with | some k => g.ρ k | none => g.ρ n) = g.ρ k
    rw [lk_of_mem hνn hm]
  have βkeep : ∀ n, n ∈ kl → g'.β n = g.β n := by
    intro n hn
    rw [hβ, (inl_eq _ _).2 hn]; rfl
  have βnew : ∀ n m, (n, some m) ∈ τ → g'.β n = g.β m := by
    intro n m hm
    have hn : n ∈ c.labs := by rw [← hmap]; exact List.mem_map_of_mem (f := (·.1)) hm
    have hk : inl n kl = false := by
      cases hh : inl n kl with
      | false => rfl
      | true => exact absurd ((inl_eq _ _).1 hh) (n5c n hn)
    rw [hβ, hk, lk_of_mem (by rw [hmap]; exact n5a) hm]; rfl
  have βother : ∀ n, n ∉ c.labs → n ∉ kl → g'.β n = none := by
    intro n hn hk
    have hk' : inl n kl = false := by
      cases hh : inl n kl with
      | false => rfl
      | true => exact absurd ((inl_eq _ _).1 hh) hk
    rw [hβ, hk']
    cases hl : lk n τ with
    | none => rfl
    | some z => exact absurd (by rw [← hmap]; exact List.mem_map_of_mem (f := (·.1)) (lk_mem hl)) hn
  -- where a live label comes from
  have βsrc : ∀ n b, g'.β n = some (some b) → (n ∈ kl ∧ g.β n = some (some b)) ∨ ∃ m, (n, some m) ∈ τ ∧ g.β m = some (some b) := by
    intro n b hb
    by_cases hk : n ∈ kl
    · exact .inl ⟨hk, by rw [← βkeep n hk]; exact hb⟩
    · by_cases hn : n ∈ c.labs
      · rw [← hmap] at hn
        obtain ⟨z, hz⟩ := lk_isSome hn
        cases z with
        | some m => exact .inr ⟨m, lk_mem hz, by rw [← βnew n m (lk_mem hz)]; exact hb⟩
        | none =>
          have hk' : inl n kl = false := by
            cases hh : inl n kl with
            | false => rfl
            | true => exact absurd ((inl_eq _ _).1 hh) hk
          rw [hβ, hk', hz] at hb
          simp at hb
      · rw [βother n hn hk] at hb; cases hb
  have hη : ∀ n, g'.η n = cond (inl n kl) (g.η n) (fun _ => none) := fun n => rfl
  have ηkeep : ∀ n, n ∈ kl → g'.η n = g.η n := by
    intro n hn
    rw [hη, (inl_eq _ _).2 hn]; rfl
  have ηoff : ∀ n, n ∉ kl → ∀ i, g'.η n i = none := by
    intro n hn i
    rw [hη]
    cases hh : inl n kl with
    | false => rfl
    | true => exact absurd ((inl_eq _ _).1 hh) hn
  have ht : Trans (c.labs ++ ownNames c.own) g w g' w := by
    refine ⟨.refl _ _, fun k hk => hρ k fun hm => hk (List.mem_append_right _ hm), fun n ob hn he => ?_, fun L hL he => ?_⟩
    · by_cases hk : n ∈ kl
      · exact ⟨by rw [← βkeep n hk]; exact he, fun _ _ => ⟨rfl, rfl⟩⟩
      · rw [βother n (fun hm => hn (List.mem_append_left _ hm)) hk] at he; cases he
    · by_cases hk : L ∈ kl
      · exact ⟨ηkeep L hk, fun _ _ _ => ⟨rfl, rfl⟩⟩
      · rw [βother L (fun hm => hL (List.mem_append_left _ hm)) hk] at he; cases he
  have hσ : ∀ n m, (n, some m) ∈ τ → ∀ ob, g'.β n = some ob → g.β m = some ob := fun n m hm ob he => by rw [← βnew n m hm]; exact he
  have notOwn : ∀ k, k ∈ c.others → k ∉ ownNames c.own := fun k hk hm => w2 k hm hk
  -- the objects
  have hobj : ∀ k o, (imObjs (gen s0 c x).objs).lookup k = some o → ∃ k0 p, s.im.X.objs.lookup k0 = some p ∧ g'.ρ k = g.ρ k0 ∧ ObRel g' w (g.ρ k0) o ∧ ((k, k0) ∈ ν ∨ (k0 = k ∧ k ∈ c.others)) := by
    intro k o hk
    obtain ⟨y, hyl, rfl⟩ := imObjs_mem hk
    have hm := lk_mem hyl
    rcases List.mem_append.1 hm with hm | hm
    · obtain ⟨vs, cs, ty, u, σ', e1, e2, rfl, e4, e5, e6⟩ := projObjs_mem hy hm
      have hoth : k ∈ c.others := List.mem_append_left _ (List.mem_append_left _ e5)
      refine ⟨k, _, lk_im e1, hρ k (notOwn k hoth), ?_, .inr ⟨rfl, hoth⟩⟩
      have := hr.objs k _ (lk_im e1)
      cases this with
      | cells _ _ arr T r1 r2 r3 r4 =>
        have pc := projCells_ra (g := g) (g' := g') (w := w) (ns := ownNames c.own) (vs := arr.toList) rfl hρ (e6 _ w8) e2 (fun n m hm => hσ n m (by rw [← hτ]; exact List.mem_append_right _ (e4 _ hm))) (by
          intro i x v hx hv
          exact r3 i x.a v (by rw [asOf_get, hx]; rfl) (by simpa using hv))
        refine .cells _ _ arr T r1 (by rw [asOf_length, pc.2, ← asOf_length]; exact r2) ?_ r4
        intro i x v hx hv
        rw [asOf_get, Option.map_eq_some_iff] at hx
        obtain ⟨z, hz, rfl⟩ := hx
        exact pc.1 i z v hz (by simpa using hv)
    · rcases List.mem_append.1 hm with hm | hm
      · obtain ⟨k0, q1, q2⟩ := projOwn_memO hu hm
        obtain ⟨_, t, u, rfl⟩ := genOwnO_arr hm
        exact ⟨k0, _, lk_imA q2, hρν _ _ q1, (hr.objs k0 _ (lk_imA q2)).keep ht rfl (.inr (arr_free _ _ _)), .inl q1⟩
      · rcases List.mem_append.1 hm with hm | hm
        · obtain ⟨q1, q2⟩ := projArrs_mem hv hm
          have hoth : k ∈ c.others := List.mem_append_left _ (List.mem_append_right _ q2)
          exact ⟨k, _, lk_imA q1, hρ k (notOwn k hoth), (hr.objs k _ (lk_imA q1)).keep ht rfl (.inr (genArrs_free w9 hm)), .inr ⟨rfl, hoth⟩⟩
        · obtain ⟨hk1, hk2⟩ := keepObjs_mem hm
          obtain ⟨q1, z, q2, q3⟩ := k2 k hk1
          have := hi2 k hk1 z q1 q2
          rw [hk2] at this
          cases this
          have hl : s.im.X.objs.lookup k = some y.o := by
            show (imObjs s.objs).lookup k = _
            rw [im_objs, q2]; rfl
          have hoth : k ∈ c.others := List.mem_append_right _ hk1
          exact ⟨k, _, hl, hρ k (notOwn k hoth), (hr.objs k _ hl).keep ht rfl (.inr q3), .inr ⟨rfl, hoth⟩⟩
  refine ⟨g', hs.defers, hs.size, ?_, ?_⟩
  · refine ⟨?_, hr.sane, hr.base, hr.io, hr.le, hr.frame, ?_, ?_, ?_, ?_, ?_, ?_, ?_, ?_, ?_, hr.eta.stepN (fun L hL => ?_) (Nat.le_refl _) (fun n b hn => ?_) (fun k o hk => ?_)⟩
    rotate_right 3
    · by_cases hk : L ∈ kl
      · exact .inl ⟨by rw [← βkeep L hk]; exact hL, ηkeep L hk⟩
      · exact .inr (ηoff L hk)
    · rcases βsrc n b hn with ⟨a1, a2⟩ | ⟨m, a1, a2⟩
      · exact hr.eta.tipN a2
      · exact hr.eta.tipN a2
    · obtain ⟨k0, p, hp, he, _⟩ := hobj k o hk
      rw [he]; exact hr.eta.objN hp
    · intro k hk
      have hk' := l6 k (hnm ▸ hk)
      refine ⟨(hρ k (notOwn k hk')).trans (hr.keep k hk).1, ?_⟩
      show ((imObjs (gen s0 c x).objs).lookup k).isSome = true
      rw [im_objs, Option.isSome_map]
      have key : k ∈ (gen s0 c x).objs.map (·.1) := by
        unfold gen
        simp only [List.map_append, genObjs_names, genArrs_names, List.mem_append]
        unfold Cut.others at hk'
        simp only [List.mem_append] at hk'
        rcases hk' with (hm | hm) | hm
        · exact .inl hm
        · exact .inr (.inr (.inl hm))
        · refine .inr (.inr (.inr ?_))
          obtain ⟨q1, z, q2, q3⟩ := k2 k hm
          have hz := hi2 k hm z q1 q2
          have : ∀ (l : List Nat), k ∈ l → k ∈ (keepObjs s0.objs l).map (·.1) := by
            intro l
            induction l with
            | nil => simp
            | cons j r ih =>
              intro hj
              unfold keepObjs
              rcases List.mem_cons.1 hj with rfl | hj
              · rw [hz]; exact List.mem_cons_self
              · split
                · exact List.mem_cons_of_mem _ (ih hj)
                · exact ih hj
          exact this _ hm
      obtain ⟨z, hz⟩ := lk_isSome key
      rw [hz]; rfl
    · intro k o hk
      obtain ⟨k0, p, hp, he, ho, _⟩ := hobj k o hk
      rw [he]; exact ho
    · intro k o hk; obtain ⟨k0, p, hp, he, _⟩ := hobj k o hk; show g.γ (g'.ρ k) = 0; rw [he]; exact hr.objγ k0 p hp
    · intro k k' o o' hk hk' he
      obtain ⟨k0, p, hp, e1, _, d1⟩ := hobj k o hk
      obtain ⟨k0', q, hq, e2, _, d2⟩ := hobj k' o' hk'
      have he' : g.ρ k0 = g.ρ k0' := by rw [← e1, ← e2]; exact he
      have := hr.objinj k0 k0' p q hp hq he'
      subst this
      rcases d1 with d1 | ⟨d1, d1'⟩ <;> rcases d2 with d2 | ⟨d2, d2'⟩
      · have inj : ∀ (ν : List (Nat × Nat)), (ν.map (·.2)).Nodup → (k, k0) ∈ ν → (k', k0) ∈ ν → k = k' := by
          intro ν
          induction ν with
          | nil => intro _ h; simp at h
          | cons p r ih =>
            intro hnd h h'
            simp only [List.map_cons, List.nodup_cons] at hnd
            rcases List.mem_cons.1 h with z | z <;> rcases List.mem_cons.1 h' with z' | z'
            · subst z; cases z'; rfl
            · subst z; exact absurd (List.mem_map.2 ⟨_, z', rfl⟩) hnd.1
            · subst z'; exact absurd (List.mem_map.2 ⟨_, z, rfl⟩) hnd.1
            · exact ih hnd.2 z z'
        exact inj ν w3 d1 d2
      · subst d2; exact absurd d2' (w4 _ (List.mem_map_of_mem (f := (·.2)) d1))
      · subst d1; exact absurd d1' (w4 _ (List.mem_map_of_mem (f := (·.2)) d2))
      · exact d1.symm.trans d2
    · intro k o hk; obtain ⟨k0, p, hp, he, _⟩ := hobj k o hk; show B.n0 ≤ g'.ρ k ∨ B.allowed (g'.ρ k); rw [he]; exact hr.objnew k0 p hp
    · intro n
      show n ∈ c.labs ++ keepL s0 c ↔ _
      rw [hkl]
      rw [List.mem_append]
      constructor
      · rintro (hn | hn)
        · have hn' := hn
          rw [← hmap] at hn'
          obtain ⟨z, hz⟩ := lk_isSome hn'
          cases z with
          | some m =>
            rw [βnew n m (lk_mem hz)]
            exact (hr.live m).1 (l3 m (List.mem_append_left _ (oldLabs_mem.2 ⟨n, lk_mem hz⟩)))
          | none =>
            have hk' : inl n kl = false := by
              cases hh : inl n kl with
              | false => rfl
              | true => exact absurd ((inl_eq _ _).1 hh) (n5c n hn)
            rw [hβ, hk', hz]; rfl
        · rw [βkeep n hn]
          exact (hr.live n).1 (l3 n (List.mem_append_right _ hn))
      · intro hn
        by_cases hk : n ∈ kl
        · exact .inr hk
        · by_cases hl : n ∈ c.labs
          · exact .inl hl
          · rw [βother n hl hk] at hn; cases hn
    · intro n m b hn hm
      rcases βsrc n b hn with ⟨a1, a2⟩ | ⟨p, a1, a2⟩ <;> rcases βsrc m b hm with ⟨b1, b2⟩ | ⟨q, b1, b2⟩
      · exact hr.tipinj n m b a2 b2
      · have := hr.tipinj n q b a2 b2
        subst this
        exact absurd a1 (n4c n (oldLabs_mem.2 ⟨m, b1⟩))
      · have := hr.tipinj p m b a2 b2
        subst this
        exact absurd b1 (n4c p (oldLabs_mem.2 ⟨n, a1⟩))
      · have := hr.tipinj p q b a2 b2
        subst this
        exact oldLabs_inj n4a a1 b1
    · intro n b k o hn hk
      obtain ⟨k0, p, hp, he, _⟩ := hobj k o hk
      rw [he]
      rcases βsrc n b hn with ⟨a1, a2⟩ | ⟨m, a1, a2⟩
      · exact hr.tipobj n b k0 p a2 hp
      · exact hr.tipobj m b k0 p a2 hp
    · intro n b hn
      rcases βsrc n b hn with ⟨a1, a2⟩ | ⟨m, a1, a2⟩
      · exact hr.tipnew n b a2
      · exact hr.tipnew m b a2
    · intro n b hn
      rcases βsrc n b hn with ⟨a1, a2⟩ | ⟨m, a1, a2⟩
      · exact hr.tiplt n b a2
      · exact hr.tiplt m b a2
  · intro t y hty
    obtain ⟨z, hz, rfl⟩ := imEnv_mem hty
    rcases List.mem_append.1 (lk_mem hz) with hm | hm
    · obtain ⟨v, z0, u, σ', e1, e2, rfl, e4, e5⟩ := projVars_mem hx hm
      obtain ⟨val, hv, hra⟩ := hs.env t z0.a (lk_sees e1)
      exact ⟨val, hv, VK.proj_ra (g := g) (g' := g') (w := w) (ns := ownNames c.own) e2 rfl hρ (e5 _ w7) (fun n m hm => hσ n m (by rw [← hτ]; exact List.mem_append_left _ (e4 _ hm))) hra⟩
    · rcases List.mem_append.1 hm with hm | hm
      · rcases projOwn_memE hu hm with ⟨rfl, e1⟩ | ⟨n, k, ty, len, e1, e2, rfl⟩
        · obtain ⟨val, hv, hra⟩ := hs.env t _ (lk_sees e1)
          exact ⟨val, hv, hra.mono ht (.d _)⟩
        · obtain ⟨val, hv, hra⟩ := hs.env t _ (lk_sees e2)
          exact ⟨val, hv, RA.osl_name hra (hρν _ _ e1)⟩
      · obtain ⟨hk1, hk2⟩ := keepEnv_mem hm
        obtain ⟨q1, z1, q2, q3⟩ := k1 t hk1
        have := hi1 t hk1 z1 q1 q2
        rw [hk2] at this
        cases this
        obtain ⟨val, hv, hra⟩ := hs.env t z.a (lk_sees q2)
        exact ⟨val, hv, hra.mono ht (free_of q3)⟩
theorem proj_apart {nm kl : List Nat} {c : Cut} {s : XSt} {x : c.T} (h : proj nm kl c s = some x) : (∀ t ∈ c.keepS, t ∉ slotsOf c.vars ++ ownSlots c.own) ∧ ∀ k ∈ c.keepO, k ∉ namesOf c.objs ++ (ownNames c.own ++ arrNames c.arrs) := by
  obtain ⟨σ, τ0, ν, hx, hy, hu, hv, h1, h2, l3, l4, l5, l6, l7, l8, hown⟩ := proj_spec h
  exact ⟨l7, l8⟩
end Go.Xl
