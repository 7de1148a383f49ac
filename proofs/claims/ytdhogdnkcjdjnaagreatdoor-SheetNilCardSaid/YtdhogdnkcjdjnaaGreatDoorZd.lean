import Derived.Test.YtdhogdnkcjdjnaaGreatDoorZc
import Derived.Test.YtdhogdnkcjdjnaaGreatDoorZb
import Derived.Laws.StandIn
import Derived.Lib.Bytealg
set_option linter.unusedVariables false
set_option linter.unusedSimpArgs false
set_option linter.unnecessarySimpa false
namespace Go.Xl
open Go.Ab
abbrev EntE (kt vt : Ty) : Type := Nat × kt.T × Bool × List vt.T
abbrev EntT (kt vt : Ty) : Type := List (EntE kt vt)
def fgT {kt vt : Ty} (es : EntT kt vt) : Ents kt (.sl vt) := es.map fun e => (e.1, e.2.1, e.2.2.2)
def tget {kt vt : Ty} (a : kt.T) : EntT kt vt → Option (Nat × Bool × List vt.T)
 | [] => none
 | e :: r => bif kt.eqv a e.2.1 then some (e.1, e.2.2) else tget a r
def tput {kt vt : Ty} (a : kt.T) (v : List vt.T) (f : Bool) (clock : Nat) : EntT kt vt → EntT kt vt
 | [] => [(clock, a, f, v)]
 | e :: r => bif kt.eqv a e.2.1 then (e.1, a, f, v) :: r else e :: tput a v f clock r
def toff {kt vt : Ty} (a : kt.T) : EntT kt vt → EntT kt vt
 | [] => []
 | e :: r => bif kt.eqv a e.2.1 then (e.1, e.2.1, false, e.2.2.2) :: r else e :: toff a r
def tval {kt vt : Ty} (a : kt.T) (es : EntT kt vt) : List vt.T := match tget a es with | some e => e.2.2 | none => []
def tflag {kt vt : Ty} (a : kt.T) (es : EntT kt vt) : Bool := match tget a es with | some e => e.2.1 | none => true
def thas {kt vt : Ty} (a : kt.T) (es : EntT kt vt) : Bool := match tget a es with | some _ => true | none => false
def tborn {kt vt : Ty} (a : kt.T) (es : EntT kt vt) (clock : Nat) : Nat := match tget a es with | some e => e.1 | none => clock
section
variable {kt vt : Ty}
theorem Q9v (es : EntT kt vt) : (fgT es).map (·.2.1) = es.map (·.2.1) := by simp [fgT, List.map_map, Function.comp_def]
theorem Qhh (a : kt.T) (v : List vt.T) (f : Bool) (c : Nat) : ∀ es : EntT kt vt, fgT (tput a v f c es) = mput a (vt := .sl vt) v c (fgT es)
 | [] => rfl
 | e :: r => by
  have ih := Qhh a v f c r
  simp only [tput, fgT, List.map_cons, mput] at ih ⊢
  cases kt.eqv a e.2.1 with
  | true => rfl
  | false => simp only [cond_false, List.map_cons, ih]
theorem Q7s (a : kt.T) : ∀ es : EntT kt vt, tget a es = (kidx kt a (es.map (·.2.1))).bind fun j => es[j]?.map fun e => (e.1, e.2.2)
 | [] => rfl
 | e :: r => by
  simp only [tget, List.map_cons, kidx]
  cases kt.eqv a e.2.1 with
  | true => rfl
  | false =>
   simp only [cond_false, Bool.false_eq_true, if_false, Q7s a r]
   cases kidx kt a (r.map (·.2.1)) <;> simp
def tidx (a : kt.T) (es : EntT kt vt) : Nat := (kidx kt a (es.map (·.2.1))).getD es.length
theorem Qd3 (a : kt.T) (e : Nat × kt.T × Bool × List vt.T) (r : EntT kt vt) : tidx a (e :: r) = bif kt.eqv a e.2.1 then 0 else tidx a r + 1 := by
 simp only [tidx, List.map_cons, kidx]
 cases kt.eqv a e.2.1 with
 | true => rfl
 | false =>
  simp only [Bool.false_eq_true, if_false, cond_false, List.length_cons]
  cases kidx kt a (r.map (·.2.1)) <;> simp
theorem Qgw (a : kt.T) : ∀ es : EntT kt vt, (toff a es).length = es.length ∧ ∀ (j : Nat) (x' : EntE kt vt), (toff a es)[j]? = some x' → ∃ x : EntE kt vt, es[j]? = some x ∧ x'.1 = x.1 ∧ x'.2.1 = x.2.1 ∧ x'.2.2.2 = x.2.2.2 ∧ (x'.2.2.1 = true → x.2.2.1 = true ∧ j ≠ tidx a es)
 | [] => ⟨rfl, by simp [toff]⟩
 | e :: r => by
  obtain ⟨i1, i2⟩ := Qgw a r
  rw [Qd3]
  simp only [toff]
  cases kt.eqv a e.2.1 with
  | true =>
   simp only [cond_true, List.length_cons, true_and]
   intro j x' hx
   cases j with
   | zero => simp at hx; subst hx; exact ⟨e, rfl, rfl, rfl, rfl, by simp⟩
   | succ j => simp at hx; exact ⟨x', by simpa using hx, rfl, rfl, rfl, fun h => ⟨h, by omega⟩⟩
  | false =>
   simp only [cond_false, List.length_cons, i1, true_and]
   intro j x' hx
   cases j with
   | zero => simp at hx; subst hx; exact ⟨e, rfl, rfl, rfl, rfl, fun h => ⟨h, by omega⟩⟩
   | succ j =>
    obtain ⟨x, a1, a2, a3, a4, a5⟩ := i2 j x' (by simpa using hx)
    exact ⟨x, by simpa using a1, a2, a3, a4, fun h => ⟨(a5 h).1, by have := (a5 h).2; omega⟩⟩
theorem Q5y (a : kt.T) (v : List vt.T) (f : Bool) (c : Nat) : ∀ (es : EntT kt vt) (j : Nat) (x : EntE kt vt), (tput a v f c es)[j]? = some x → (j = tidx a es ∧ x.2.2.1 = f ∧ x.1 = tborn a es c) ∨ (j ≠ tidx a es ∧ es[j]? = some x)
 | [], j, x, h => by
  cases j with
  | zero => simp [tput] at h; subst h; exact .inl ⟨rfl, rfl, rfl⟩
  | succ j => simp [tput] at h
 | e :: r, j, x, h => by
  rw [Qd3]
  simp only [tput] at h
  cases he : kt.eqv a e.2.1 with
  | true =>
   rw [he] at h
   simp only [cond_true] at h ⊢
   cases j with
   | zero => simp at h; subst h; exact .inl ⟨rfl, rfl, by simp [tborn, tget, he]⟩
   | succ j => exact .inr ⟨by omega, by simpa using h⟩
  | false =>
   rw [he] at h
   simp only [cond_false] at h ⊢
   have hb : tborn a (e :: r) c = tborn a r c := by simp [tborn, tget, he]
   rw [hb]
   cases j with
   | zero => exact .inr ⟨by omega, by simpa using h⟩
   | succ j =>
    rcases Q5y a v f c r j x (by simpa using h) with ⟨h1, h2, h3⟩ | ⟨h1, h2⟩
    ·exact .inl ⟨by omega, h2, h3⟩
    ·exact .inr ⟨by omega, by simpa using h2⟩
theorem Qcc (a : kt.T) (v : List vt.T) (f f' : Bool) (c : Nat) : ∀ es : EntT kt vt, (tput a v f' c es).length = (tput a v f c es).length ∧ ∀ (j : Nat) (x' : EntE kt vt), (tput a v f' c es)[j]? = some x' → ∃ x : EntE kt vt, (tput a v f c es)[j]? = some x ∧ x'.1 = x.1 ∧ x'.2.1 = x.2.1 ∧ x'.2.2.2 = x.2.2.2
 | [] => by
  refine ⟨rfl, fun j x' h => ?_⟩
  cases j with
  | zero => simp [tput] at h; subst h; exact ⟨_, rfl, rfl, rfl, rfl⟩
  | succ j => simp [tput] at h
 | e :: r => by
  obtain ⟨i1, i2⟩ := Qcc a v f f' c r
  simp only [tput]
  cases kt.eqv a e.2.1 with
  | true =>
   simp only [cond_true, List.length_cons, true_and]
   intro j x' h
   cases j with
   | zero => simp at h; subst h; exact ⟨_, rfl, rfl, rfl, rfl⟩
   | succ j => simp at h; exact ⟨x', by simpa using h, rfl, rfl, rfl⟩
  | false =>
   simp only [cond_false, List.length_cons, i1, true_and]
   intro j x' h
   cases j with
   | zero => simp at h; subst h; exact ⟨_, rfl, rfl, rfl, rfl⟩
   | succ j =>
    obtain ⟨x, a1, a2⟩ := i2 j x' (by simpa using h)
    exact ⟨x, by simpa using a1, a2⟩
theorem Qgy {a : kt.T} {es : EntT kt vt} {clock j : Nat} {x : Nat × kt.T × Bool × List vt.T} (hx : es[j]? = some x) (hj : j ≠ tidx a es) (hlt : ∀ p ∈ es, p.1 < clock) (hnd : (es.map (·.1)).Nodup) : x.1 ≠ tborn a es clock := by
 unfold tborn
 rw [Q7s]
 unfold tidx at hj
 cases hk : kidx kt a (es.map (·.2.1)) with
 | none =>
  have := hlt x (List.mem_of_getElem? hx)
  simp only [Option.bind_none]
  omega
 | some i =>
  rw [hk] at hj
  simp only [Option.getD_some] at hj
  have hi := Q35 hk
  rw [List.length_map] at hi
  simp only [Option.bind_some, List.getElem?_eq_getElem hi, Option.map_some]
  intro he
  obtain ⟨hjl, hje⟩ := List.getElem?_eq_some_iff.1 hx
  have hp := List.pairwise_iff_getElem.1 hnd
  rcases Nat.lt_trichotomy j i with h1 | h1 | h1
  ·have := hp j i (by simpa using hjl) (by simpa using hi) h1
   simp [hje, he] at this
  ·exact hj h1
  ·have := hp i j (by simpa using hi) (by simpa using hjl) h1
   simp [hje, he] at this
abbrev maptO (L : Nat) (kt vt : Ty) (es : EntT kt vt) (clock : Nat) : Ob := (XOb.mapt L kt vt es clock).o
def lT (es : EntT kt vt) : MapL := es.map fun e => (e.1, dval (kt.dv e.2.1), e.2.2.1, e.2.2.2.map vt.ds)
structure MapT (kt vt : Ty) (L : Nat) (g : Gh) (w : World) (b : Nat) (es : EntT kt vt) (clock : Nat) (asq : Array MapEntry) : Prop where
 m : MapW kt (.sl vt) g w b (fgT es) clock asq
 t : ∀ (j : Nat) x e, es[j]? = some x → asq[j]? = some e → x.2.2.1 = true → (g.β L).isSome → TipE g w L x.1 vt.size e.val
theorem Qh6 {L : Nat} {g : Gh} {w : World} {b : Nat} {es : EntT kt vt} {clock : Nat} (hk : kt.key = true) (h : ObRel g w b (maptO L kt vt es clock)) : ∃ asq, MapT kt vt L g w b es clock asq := by
 cases h with
 | mapt _ _ l c asq h1 h2 h3 h4 h5 =>
  have hget : ∀ (i : Nat) x, es[i]? = some x → (es.map fun e => (e.1, dval (kt.dv e.2.1), e.2.2.1, e.2.2.2.map vt.ds))[i]? = some (x.1, dval (kt.dv x.2.1), x.2.2.1, x.2.2.2.map vt.ds) := fun i x hx => by rw [List.getElem?_map, hx]; rfl
  have hat : ∀ (i : Nat) x e, es[i]? = some x → asq[i]? = some e → e.born = x.1 ∧ e.key = kt.kval x.2.1 ∧ RD g.γ w (.sl vt.size (x.2.2.2.map vt.ds)) e.val := by
   intro i x e hx he
   obtain ⟨a1, a2, a3, _⟩ := h3 i _ e (hget i x hx) he
   rw [kt.kval_dv _ hk] at a2
   exact ⟨a1, a2, a3⟩
  have hlen : es.length = asq.size := by simpa using h2
  refine ⟨asq, ⟨h1, by simpa [fgT] using hlen, ?_, ?_, ?_, ?_⟩, ?_⟩
  ·rw [Q9v]
   apply List.ext_getElem?
   intro i
   rw [List.getElem?_map, List.getElem?_map, List.getElem?_map, Array.getElem?_toList]
   by_cases hi : i < asq.size
   ·have hi' : i < es.length := by omega
    rw [Array.getElem?_eq_getElem hi, List.getElem?_eq_getElem hi']
    have := (hat i es[i] asq[i] (by simp [hi']) (by simp [hi])).2.1
    simp [this]
   ·rw [Array.getElem?_eq_none (by omega), List.getElem?_eq_none (by omega)]; rfl
  ·intro i x e hx he
   simp only [fgT, List.getElem?_map, Option.map_eq_some_iff] at hx
   obtain ⟨y, hy, rfl⟩ := hx
   exact hat i y e hy he
  ·intro p hp
   simp only [fgT, List.mem_map] at hp
   obtain ⟨y, hy, rfl⟩ := hp
   exact h4 _ (List.mem_map_of_mem (f := fun e : Nat × kt.T × Bool × List vt.T => (e.1, dval (kt.dv e.2.1), e.2.2.1, e.2.2.2.map vt.ds)) hy)
  ·simpa [fgT, List.map_map, Function.comp_def] using h5
  ·intro j x e hx he hf hL
   exact (h3 j _ e (hget j x hx) he).2.2.2 hf hL
theorem MapT.rel {L : Nat} {g : Gh} {w : World} {b : Nat} {es : EntT kt vt} {clock : Nat} {asq : Array MapEntry} (hk : kt.key = true) (h : MapT kt vt L g w b es clock asq) : ObRel g w b (maptO L kt vt es clock) := by
 have hf : ∀ (i : Nat) x, es[i]? = some x → (fgT es)[i]? = some (x.1, x.2.1, x.2.2.2) := fun i x hx => by simp [fgT, hx]
 refine .mapt L vt.size _ clock asq h.m.heap (by have := h.m.len; simpa [fgT] using this) ?_ ?_ ?_
 ·intro i x e hx he
  rw [List.getElem?_map, Option.map_eq_some_iff] at hx
  obtain ⟨y, hy, rfl⟩ := hx
  obtain ⟨a1, a2, a3⟩ := h.m.at' i _ e (hf i y hy) he
  simp only [kt.kval_dv _ hk]
  exact ⟨a1, a2, a3, fun h1 h2 => h.t i y e hy he h1 h2⟩
 ·intro p hp
  rw [List.mem_map] at hp
  obtain ⟨y, hy, rfl⟩ := hp
  exact h.m.lt _ (List.mem_map_of_mem (f := fun e : Nat × kt.T × Bool × List vt.T => (e.1, e.2.1, e.2.2.2)) hy)
 ·have := h.m.nodup
  simpa [fgT, List.map_map, Function.comp_def] using this
theorem MapT.lt {L : Nat} {g : Gh} {w : World} {b : Nat} {es : EntT kt vt} {clock : Nat} {asq : Array MapEntry} (h : MapT kt vt L g w b es clock asq) : ∀ p ∈ es, p.1 < clock := fun y hy => h.m.lt _ (List.mem_map_of_mem (f := fun e : Nat × kt.T × Bool × List vt.T => (e.1, e.2.1, e.2.2.2)) hy)
theorem MapT.nodup {L : Nat} {g : Gh} {w : World} {b : Nat} {es : EntT kt vt} {clock : Nat} {asq : Array MapEntry} (h : MapT kt vt L g w b es clock asq) : (es.map (·.1)).Nodup := by
 have := h.m.nodup
 simpa [fgT, List.map_map, Function.comp_def] using this
theorem Qfk {es es' : EntT kt vt} (hl : es'.length = es.length) (h : ∀ (j : Nat) (x' : EntE kt vt), es'[j]? = some x' → ∃ x : EntE kt vt, es[j]? = some x ∧ x'.1 = x.1 ∧ x'.2.1 = x.2.1 ∧ x'.2.2.2 = x.2.2.2) : SameL (lT es) (lT es') := by
 refine ⟨by simp [lT, hl], fun j x' hx => ?_⟩
 simp only [lT, List.getElem?_map, Option.map_eq_some_iff] at hx
 obtain ⟨y, hy, rfl⟩ := hx
 obtain ⟨x, a1, a2, a3, a4⟩ := h j y hy
 refine ⟨(x.1, dval (kt.dv x.2.1), x.2.2.1, x.2.2.2.map vt.ds), by simp [lT, a1], a2, ?_, ?_⟩
 ·simp only [a3]
 ·simp only [a4]
end
section
variable {P : Program} {o : Oper} {X : Store} {kt vt : Ty}
theorem Qgo {t : TypeId} (k L : Nat) (ho : o.op = .makeMap t none) (hk : X.objs.lookup k = none) (hX : Q7 [k] X = true) (hL : L ∉ X.live) (hXL : Q7 [L] X = true) :
  OpT P o [] X ⟨(k, maptO L kt vt [] 0) :: X.objs, L :: X.live⟩ [L, k] (.mp k) := by
 intro nm hsm B g w a hr hrd next Q hn
 obtain ⟨hr1, ht1⟩ := hr.addTip hL none hXL (by simp)
 obtain ⟨h1, h2⟩ := hr1.newObj (k := k) hk hX (.map #[] 0) (maptO L kt vt [] 0) (by
  intro g' w' _ hw
  exact .mapt L vt.size [] 0 #[] hw rfl (by simp) (by simp) (by simp))
 unfold Oper.wp
 have : (execOp a.eval o).run P w = .ok (.value (.map (some w.heap.size))) (w.alloc (.map #[] 0)) := by
  simp [execOp, ho, Instr.makeMap]
 rw [this]
 refine hn _ _ _ h1 (ht1.trans h2) (.nm _ _ _ ?_)
 show Value.map (some w.heap.size) = .map (some (upd g.ρ k w.heap.size k))
 rw [upd_same]
def Qfv {vt : Ty} (ok : Bool) (n : Nat) (l : List vt.T) (b : Bool) : AV := if ok then .tup [.tip n vt.size (l.map vt.ds), .d (.bool b)] else .tip n vt.size (l.map vt.ds)
theorem Qjn {g : Gh} {w : World} {ok : Bool} {n : Nat} {l : List vt.T} {u : Value} {b : Bool} (h : RA g w (.tip n vt.size (l.map vt.ds)) u) : RA g w (Qfv ok n l b) (if ok then .tuple #[u, .bool b] else u) := by
 cases ok with
 | false => exact h
 | true =>
  refine .tup _ _ rfl fun i c x hc hx => ?_
  rcases i with _ | _ | i
  ·simp at hc hx; subst hc; subst hx; exact h
  ·simp at hc hx; subst hc; subst hx; exact .ofSc _ _ _
  ·simp at hc
def blkOf : Value → Option Nat
 | .slice (some a) _ _ => some a.block
 | _ => none
theorem Qho {t e : TypeId} {x y : Operand} {ok : Bool} {k L n : Nat} {es : EntT kt vt} {clock : Nat} {a : kt.T} {i : TypeInfo} (ho : o.op = .lookup t x y ok) (hm : MapI P t kt (.sl vt) e) (hi : P.info? e = some i) (hz : i.zero = some (.slice none 0 0))
  (hk : X.objs.lookup k = some (maptO L kt vt es clock)) (hfree : Q3l k L X) (hf : tflag a es = true) (hn : n ∉ X.live) (hnX : Q7 [n] ⟨Ab.setObj k (maptO L kt vt (toff a es) clock) X.objs, X.live⟩ = true) (hL : L ∈ X.live) :
  OpT P o [(x, .mp k), (y, .d (kt.dv a))] X ⟨Ab.setObj k (maptO L kt vt (toff a es) clock) X.objs, n :: X.live⟩ [L, n] (Qfv ok n (tval a es) (thas a es)) := by
 intro nm hsm B g w ac hr hrd next Q hnext
 obtain ⟨kty, hu, hK⟩ := hm.und
 have h1 := (rd0 hrd).mp_inv
 have h2 : ac.eval y = kt.kval a := by
  have := rd1 hrd
  cases this with
  | d _ _ h => exact kt.kval_inv hK.key h
 simp only at h1
 obtain ⟨asq, hw⟩ := Qh6 hK.key (hr.objs k _ hk)
 have hLs : (g.β L).isSome := (hr.live L).1 hL
 have hfd := hw.m.find hK a
 have hc := hK.check asq.isEmpty 9998 a w
 have hget := MapKept.run_getObj_map (P := P) hw.m.heap
 have hlen : es.length = asq.size := by have := hw.m.len; simpa [fgT] using this
 -- what is found
 obtain ⟨val, hrun, hval, htip⟩ : ∃ val, (execOp ac.eval o).run P w = .ok (.value (if ok then .tuple #[val, .bool (thas a es)] else val)) w ∧ RD g.γ w (.sl vt.size ((tval a es).map vt.ds)) val ∧ TipE g w L (tborn a es clock) vt.size val := by
  rw [Q9v] at hfd
  have hth := Q7s a es
  cases hj : kidx kt a (es.map (·.2.1)) with
  | none =>
   rw [hj] at hfd hth
   simp only [Option.bind_none] at hfd hth
   refine ⟨.slice none 0 0, ?_, ?_, trivial⟩
   ·simp only [execOp, ho, h1, h2, Instr.lookup, Sem.run_bind, run_underlying hu, Result.andThen_ok, Sem.run_pure, hget, hc, hfd]
    simp [zeroValue, typeInfo, hi, hz, thas, hth]
   ·simp only [tval, hth, List.map_nil]
    exact .nil _ _ _ fun _ => rfl
  | some j =>
   have hj' := Q35 hj
   rw [List.length_map] at hj'
   have hja : j < asq.size := by omega
   rw [hj] at hfd hth
   simp only [Option.bind_some, Array.getElem?_eq_getElem hja, Option.map_some] at hfd
   simp only [Option.bind_some, List.getElem?_eq_getElem hj', Option.map_some] at hth
   refine ⟨asq[j].val, ?_, ?_, ?_⟩
   ·simp only [execOp, ho, h1, h2, Instr.lookup, Sem.run_bind, run_underlying hu, Result.andThen_ok, Sem.run_pure, hget, hc, hfd]
    simp [thas, hth]
   ·have := (hw.m.at' j (es[j].1, es[j].2.1, es[j].2.2.2) asq[j] (by simp [fgT, hj']) (by simp [hja])).2.2
    simp only [tval, hth]
    exact this
   ·have hfl : es[j].2.2.1 = true := by simpa [tflag, hth] using hf
    have := hw.t j es[j] asq[j] (by simp [hj']) (by simp [hja]) hfl hLs
    simp only [tborn, hth]
    exact this
 -- taken out
 have hoff := Qgw a es
 obtain ⟨hr1, ht1⟩ := hr.takeE (i := tborn a es clock) (l := lT es) (l' := lT (toff a es)) hk hfree (Qfk hoff.1 fun j x' hx => by
   obtain ⟨x, a1, a2, a3, a4, _⟩ := hoff.2 j x' hx
   exact ⟨x, a1, a2, a3, a4⟩) (by
  intro j x' x hx' hx hflag
  simp only [lT, List.getElem?_map, Option.map_eq_some_iff] at hx hx'
  obtain ⟨y', hy', rfl⟩ := hx'
  obtain ⟨y0, hy, rfl⟩ := hx
  obtain ⟨x, a1, a2, a3, a4, a5⟩ := hoff.2 j y' hy'
  rw [hy] at a1
  cases a1
  obtain ⟨b1, b2⟩ := a5 hflag
  exact ⟨b1, Qgy hy b2 hw.lt hw.nodup⟩)
 obtain ⟨hr2, ht2⟩ := hr1.addTip (m := n) hn (blkOf val) hnX (by
  intro b hb
  cases val with
  | slice ad len cap =>
   cases ad with
   | none => simp [blkOf] at hb
   | some ad =>
    simp only [blkOf, Option.some.injEq] at hb
    subst hb
    obtain ⟨q1, q2, q3, q4⟩ := htip
    refine ⟨hr.eta.lt L _ _ hLs q2, hr.eta.new L _ _ hLs q2, fun j p hj => ?_, fun m hm => hr.eta.tip L _ _ m hLs q2 hm, fun L' i' hL' he => ?_⟩
    ·obtain ⟨q, hq⟩ := Q3t hk hj
     exact hr.eta.obj L _ _ j q hLs q2 hq
    ·simp only at he hL'
     by_cases hl : L' = L
     ·subst hl
      rw [upd_same] at he
      by_cases hi' : i' = tborn a es clock
      ·subst hi'; rw [upd_same] at he; cases he
      ·rw [Q4 _ _ hi'] at he
       exact hi' (hr.eta.inj _ _ _ _ _ hLs hLs he q2).2
     ·rw [Q4 _ _ hl] at he
      exact hl (hr.eta.inj _ _ _ _ _ hL' hLs he q2).1
  | _ => simp [blkOf] at hb)
 unfold Oper.wp
 rw [hrun]
 refine hnext _ w _ hr2 (ht1.trans ht2) (Qjn (.tip n vt.size _ none _ hval ?_))
 cases val with
 | slice ad len cap =>
  cases ad with
  | none => trivial
  | some ad =>
   obtain ⟨q1, q2, q3, q4⟩ := htip
   intro ob' hob'
   simp only [upd_same, Option.some.injEq] at hob'
   exact ⟨q1, hob'.symm, q3, q4, by simp⟩
 | _ => trivial
theorem Q73 (k : Nat) (o o' : Ob) : ∀ l : List (Nat × Ob), Ab.setObj k o (Ab.setObj k o' l) = Ab.setObj k o l
 | [] => by simp [Ab.setObj]
 | (j, p) :: r => by
  simp only [Ab.setObj]
  by_cases h : j = k
  ·simp [h, Ab.setObj]
  ·simp only [if_neg h, Ab.setObj, Q73 k o o' r]
theorem MapW.update {g : Gh} {w : World} {b : Nat} {es : Ents kt vt} {clock : Nat} {asq : Array MapEntry} {t e kty : TypeId} (hw : MapW kt vt g w b es clock asq) (hu : P.underlying t = some (.map kty e)) (hK : KeyI P kty kt) (a : kt.T) (v : vt.T) (val : Value) (h3 : RD g.γ w (vt.dv v) val) :
  ∃ as', (Instr.mapUpdate t (.map (some b)) (kt.kval a) val).run P w = .ok () { w with heap := w.heap.setIfInBounds b (.map as' (mclk a es clock)) } ∧
   (∀ w', w'.heap[b]? = some (.map as' (mclk a es clock)) → LeD g.γ w g.γ w' → MapW kt vt g w' b (mput a v clock es) (mclk a es clock) as') ∧
   ∀ (j : Nat) e', as'[j]? = some e' → (j = (kidx kt a (es.map (·.2.1))).getD es.length ∧ e'.val = val) ∨ (j ≠ (kidx kt a (es.map (·.2.1))).getD es.length ∧ asq[j]? = some e') := by
 have hf := hw.find hK a
 have hc := hK.check false 9998 a w
 have hst := hK.stays a w
 have hget := MapKept.run_getObj_map (P := P) hw.heap
 have hset := Q4t (P := P) hw.heap
 have ec := Qch a es clock
 cases hj : kidx kt a (es.map (·.2.1)) with
 | none =>
  rw [hj] at hf
  simp only [Option.bind_none] at hf
  rw [hj] at ec
  simp only at ec
  rw [ec, Q7r hj]
  refine ⟨asq.push { key := kt.kval a, val := val, born := clock }, ?_, ?_, ?_⟩
  ·simp only [Instr.mapUpdate, Sem.run_bind, run_underlying hu, Result.andThen_ok, hget, hc, hf, hset]
  ·intro w' hb' hle
   refine ⟨hb', by simp [hw.len], by simp [hw.keys], ?_, ?_, ?_⟩
   ·intro i q m hq hm'
    by_cases hi : i < es.length
    ·rw [List.getElem?_append_left hi] at hq
     rw [Array.getElem?_push, if_neg (by rw [← hw.len]; omega)] at hm'
     have := hw.at' i q m hq hm'
     exact ⟨this.1, this.2.1, this.2.2.mono hle⟩
    ·rw [List.getElem?_append_right (by omega)] at hq
     have hi0 : i = es.length := by
      by_cases h0 : i - es.length = 0
      ·omega
      ·rw [List.getElem?_eq_none (by simp; omega)] at hq; cases hq
     subst hi0
     simp at hq
     rw [hw.len] at hm'
     simp at hm'
     subst hq; subst hm'
     exact ⟨rfl, rfl, h3.mono hle⟩
   ·intro p hp
    rcases List.mem_append.1 hp with hp | hp
    ·have := hw.lt p hp; omega
    ·simp at hp; subst hp; exact Nat.lt_succ_self _
   ·rw [List.map_append, List.nodup_append]
    refine ⟨hw.nodup, by simp, ?_⟩
    intro p hp q hq
    simp at hq
    subst hq
    obtain ⟨y', hy', rfl⟩ := List.mem_map.1 hp
    have := hw.lt y' hy'
    omega
  ·intro j e' he
   simp only [Option.getD_none]
   rw [Array.getElem?_push, ← hw.len] at he
   split at he
   ·rename_i hjj
    cases he
    exact .inl ⟨hjj, rfl⟩
   ·rename_i hjj
    exact .inr ⟨hjj, he⟩
 | some j =>
  have hj' := Q35 hj
  rw [List.length_map] at hj'
  have hja : j < asq.size := by rw [← hw.len]; exact hj'
  have hat := Qbz hK.key hj
  rw [List.getElem?_map, List.getElem?_eq_getElem hj'] at hat
  simp only [Option.map_some, Option.some.injEq] at hat
  have hkj : asq[j].key = kt.kval a := by rw [(hw.at' j es[j] asq[j] (by simp [hj']) (by simp [hja])).2.1, hat]
  rw [hj] at hf
  simp only [Option.bind_some, Array.getElem?_eq_getElem hja, Option.map_some] at hf
  rw [hj] at ec
  simp only at ec
  rw [ec, Q7j hj]
  refine ⟨asq.modify j fun q => { q with key := kt.kval a, val := val }, ?_, ?_, ?_⟩
  ·simp only [Instr.mapUpdate, Sem.run_bind, run_underlying hu, Result.andThen_ok, hget, hc, hf, Array.getElem?_eq_getElem hja, Option.map_some, Option.getD_some, hkj, hst, hset]
  ·intro w' hb' hle
   have hent : ∀ (i : Nat) q m, (es.modify j fun q => (q.1, a, v))[i]? = some q → (asq.modify j fun q => { q with key := kt.kval a, val := val })[i]? = some m → m.born = q.1 ∧ m.key = kt.kval q.2.1 ∧ RD g.γ w' (vt.dv q.2.2) m.val := by
    intro i q m hq hm'
    rw [List.getElem?_modify] at hq
    rw [Array.getElem?_modify] at hm'
    by_cases hij : j = i
    ·subst hij
     rw [List.getElem?_eq_getElem hj'] at hq
     rw [Array.getElem?_eq_getElem hja] at hm'
     simp at hq hm'
     subst hq; subst hm'
     exact ⟨(hw.at' j es[j] asq[j] (by simp [hj']) (by simp [hja])).1, rfl, h3.mono hle⟩
    ·rw [if_neg hij] at hm'
     simp only [hij, if_false] at hq
     have := hw.at' i q m (by simpa using hq) hm'
     exact ⟨this.1, this.2.1, this.2.2.mono hle⟩
   refine ⟨hb', by simp [hw.len], ?_, hent, ?_, ?_⟩
   ·apply List.ext_getElem?
    intro i
    rw [List.getElem?_map, List.getElem?_map, List.getElem?_map, Array.getElem?_toList]
    by_cases hi : i < asq.size
    ·have hi' : i < es.length := by rw [hw.len]; exact hi
     have hA : i < (asq.modify j fun q => { q with key := kt.kval a, val := val }).size := by simpa using hi
     have hE : i < (es.modify j fun q => (q.1, a, v)).length := by simpa using hi'
     rw [Array.getElem?_eq_getElem hA, List.getElem?_eq_getElem hE]
     have := (hent i _ _ (List.getElem?_eq_getElem hE) (Array.getElem?_eq_getElem hA)).2.1
     simp only [Option.map_some, this]
    ·rw [Array.getElem?_eq_none (by simpa using hi), List.getElem?_eq_none (by simp [hw.len]; omega)]; rfl
   ·intro p hp
    have h5 : p.1 ∈ ((es.modify j fun q => (q.1, a, v)).map (·.1)) := List.mem_map_of_mem (f := (·.1)) hp
    rw [Q2g (fun q : Nat × kt.T × vt.T => q.1) (fun q : Nat × kt.T × vt.T => (q.1, a, v)) (fun _ => rfl) es j] at h5
    obtain ⟨q, hq, he⟩ := List.mem_map.1 h5
    rw [← he]; exact hw.lt q hq
   ·rw [Q2g (fun q : Nat × kt.T × vt.T => q.1) (fun q : Nat × kt.T × vt.T => (q.1, a, v)) (fun _ => rfl) es j]; exact hw.nodup
  ·intro i e' he
   simp only [Option.getD_some]
   rw [Array.getElem?_modify] at he
   by_cases hij : j = i
   ·subst hij
    rw [if_pos rfl, Array.getElem?_eq_getElem hja] at he
    simp at he
    subst he
    exact .inl ⟨rfl, rfl⟩
   ·rw [if_neg hij] at he
    exact .inr ⟨Ne.symm hij, he⟩
theorem Qdf {t e : TypeId} {x y u : Operand} {k L n : Nat} {es : EntT kt vt} {clock : Nat} {a : kt.T} {v : List vt.T} {ty : Option TypeId} (ho : o.op = .mapUpdate t x y u ∨ o.op = .insert t x y u) (hm : MapI P t kt (.sl vt) e)
  (hk : X.objs.lookup k = some (maptO L kt vt es clock)) (hfree : Q3l k L X) (hnl : n ∈ X.live) :
  OpT P o [(x, .mp k), (y, .d (kt.dv a)), (u, .tip n vt.size (v.map vt.ds) ty)] X ⟨Ab.setObj k (maptO L kt vt (tput a v true clock es) (mclk a (fgT es) clock)) X.objs, X.live.filter (· != n)⟩ [L] (.d (.sc undef)) := by
 intro nm hsm B g w ac hr hrd next Q hn
 obtain ⟨kty, hu, hK⟩ := hm.und
 have h1 := (rd0 hrd).mp_inv
 have h2 : ac.eval y = kt.kval a := by
  have := rd1 hrd
  cases this with
  | d _ _ h => exact kt.kval_inv hK.key h
 obtain ⟨h3, h4⟩ : RD g.γ w ((Ty.sl vt).dv v) (ac.eval u) ∧ TipOk g w n vt.size ty (ac.eval u) := by
  have := rd2 hrd
  cases this with
  | tip _ _ _ _ _ h h' => exact ⟨h, h'⟩
 simp only at h1
 obtain ⟨asq, hw⟩ := Qh6 hK.key (hr.objs k _ hk)
 obtain ⟨as', e1, e2, e3⟩ := hw.m.update hu hK a v (ac.eval u) h3
 rw [Q9v] at e3
 have hJ : (kidx kt a (es.map (·.2.1))).getD (fgT es).length = tidx a es := by simp [tidx, fgT]
 rw [hJ] at e3
 have hlt : g.ρ k < w.heap.size := (Array.getElem?_eq_some_iff.1 hw.m.heap).1
 obtain ⟨w1, hw1⟩ : ∃ w1 : World, w1 = { w with heap := w.heap.setIfInBounds (g.ρ k) (.map as' (mclk a (fgT es) clock)) } := ⟨_, rfl⟩
 have hb1 : w1.heap[g.ρ k]? = some (.map as' (mclk a (fgT es) clock)) := by rw [hw1]; simp [Array.getElem?_setIfInBounds, hlt]
 -- written, asq data
 obtain ⟨hr1, ht1⟩ := hr.write (w' := w1) (o' := maptO L kt vt (tput a v false clock es) (mclk a (fgT es) clock)) hk (by rw [hw1]; simp) (by rw [hw1]; exact ⟨rfl, rfl, rfl, Nat.le_refl _⟩)
  (by intro b hb'; rw [hw1]; simp [Array.getElem?_setIfInBounds, Ne.symm hb']) (fun ht => MapT.rel hK.key (asq := as') ⟨by rw [Qhh]; exact e2 w1 hb1 ht.le, by
   intro j q m hq hm' hfl hL
   rcases Q5y a v false clock es j q hq with ⟨p1, p2, p3⟩ | ⟨p1, p2⟩
   ·rw [p2] at hfl; cases hfl
   ·rcases e3 j m hm' with ⟨r1, r2⟩ | ⟨r1, r2⟩
    ·exact (p1 r1).elim
    ·exact (hw.t j q m p2 r2 hfl hL).keep ht (by simp) hL⟩) (by
   intro sh hsh
   simp [World.shape?, hw.m.heap] at hsh)
 obtain ⟨ob, hob⟩ : ∃ ob, g.β n = some ob := Option.isSome_iff_exists.1 ((hr.live n).1 hnl)
 have h4' : TipOk g w1 n vt.size ty (ac.eval u) := h4.keep ht1 (by simp)
 -- the label goes
 obtain ⟨hr2, ht2⟩ := hr1.dropTip n
 have hk2 : (Ab.setObj k (maptO L kt vt (tput a v false clock es) (mclk a (fgT es) clock)) X.objs).lookup k = some (maptO L kt vt (tput a v false clock es) (mclk a (fgT es) clock)) := by rw [Q8, if_pos rfl]
 have hsame := Qcc a v false true clock es
 obtain ⟨hr3, ht3⟩ := hr2.giveE (i := tborn a es clock) (ob := blkOf (ac.eval u)) (l := lT (tput a v false clock es)) (l' := lT (tput a v true clock es)) (L := L) hk2 (by
   intro j p hj hp
   simp only at hp
   rw [Q8, if_neg hj] at hp
   exact hfree j p hj hp) (by
   intro b hb
   have hob1 : g.β n = some (some b) := by
    generalize ac.eval u = val at hb h4
    cases val with
    | slice ad len cap =>
     cases ad with
     | none => simp [blkOf] at hb
     | some ad =>
      simp only [blkOf, Option.some.injEq] at hb
      subst hb
      rw [hob, (h4 ob hob).2.1]
    | _ => simp [blkOf] at hb
   refine ⟨hr1.tiplt n b hob1, hr1.tipnew n b hob1, fun j p hj => hr1.tipobj n b j p hob1 hj, fun m hm => ?_, hr1.eta.dropN hob1⟩
   by_cases he : m = n
   ·subst he; simp [upd_same] at hm
   ·simp only [Q4 _ _ he] at hm
    exact he (hr1.tipinj m n b hm hob1)) (Qfk hsame.1 hsame.2) (by
   intro j x' x0 hx' hx hflag
   simp only [lT, List.getElem?_map, Option.map_eq_some_iff] at hx hx'
   obtain ⟨y', hy', rfl⟩ := hx'
   obtain ⟨y0, hy0, rfl⟩ := hx
   rcases Q5y a v true clock es j y' hy' with ⟨p1, p2, p3⟩ | ⟨p1, p2⟩
   ·right
    rcases Q5y a v false clock es j y0 hy0 with ⟨r1, r2, r3⟩ | ⟨r1, r2⟩
    ·refine ⟨r3, ?_⟩
     intro bs m hbs hm'
     simp only at hbs
     rw [hb1] at hbs
     cases hbs
     rcases e3 j m hm' with ⟨s1, s2⟩ | ⟨s1, s2⟩
     ·rw [s2]
      generalize ac.eval u = val at h4'
      cases val with
      | slice ad len cap =>
       cases ad with
       | none => trivial
       | some ad =>
        obtain ⟨q1, q2, q3, q4, _⟩ := h4' ob hob
        refine ⟨q1, ?_, q3, q4⟩
        simp only [upd_same, blkOf]
      | _ => trivial
     ·exact (s1 p1).elim
    ·exact (r1 p1).elim
   ·left
    rcases Q5y a v false clock es j y0 hy0 with ⟨r1, r2, r3⟩ | ⟨r1, r2⟩
    ·exact (p1 r1).elim
    ·rw [p2] at r2
     cases r2
     exact ⟨hflag, Qgy p2 p1 hw.lt hw.nodup⟩)
 have hrun : (execOp ac.eval o).run P w = .ok .skip w1 := by
  rw [hw1]
  rcases ho with ho | ho <;> simp [execOp, ho, h1, h2, e1]
 unfold Oper.wp
 rw [hrun]
 have hX : Ab.setObj k (maptO L kt vt (tput a v true clock es) (mclk a (fgT es) clock)) (Ab.setObj k (maptO L kt vt (tput a v false clock es) (mclk a (fgT es) clock)) X.objs) = Ab.setObj k (maptO L kt vt (tput a v true clock es) (mclk a (fgT es) clock)) X.objs := Q73 _ _ _ _
 have hr3' : HR nm B _ w1 ⟨Ab.setObj k (maptO L kt vt (tput a v true clock es) (mclk a (fgT es) clock)) (Ab.setObj k (maptO L kt vt (tput a v false clock es) (mclk a (fgT es) clock)) X.objs), X.live.filter (· != n)⟩ := hr3
 rw [hX] at hr3'
 exact hn _ _ undef hr3' ((ht1.trans ht2).trans ht3) (.ofSc _ _ _)
end
section
variable {P : Program} {R : Type}
def Q5q (m : Nat) : Nat := 500000 + m
def Qma (P : Program) (t : TypeId) : Option (Ty × Ty) :=
 match Q3x P t with
 | some (kt, .sl vt) => some (kt, vt)
 | _ => none
def Q7l (P : Program) (st : XSt) (o : Oper) (t : TypeId) (r : Option Operand) (K : Out → Option R) : Option R :=
 match r with
 | none => match Qma P t, newName o with
  | some ts, some m => cond (fresh m st) (cond (Q1b (Q5q m) st.live st) (K ⟨.all, .nm m .m, [], (m, .mapt (Q5q m) ts.1 ts.2 [] 0) :: st.objs, Q5q m :: st.live, [Q5q m, m], [m]⟩) none) none
  | _, _ => none
 | some _ => none
theorem Qfu {o : Oper} {st : XSt} {t : TypeId} {rs : Option Operand} {K : Out → Option R} {r : R} (ho : o.op = .makeMap t rs) (h : Q7l P st o t rs K = some r) : ∃ out, K out = some r ∧ OpOk P o st out := by
 unfold Q7l at h
 split at h
 ·split at h
  ·rename_i ts m hm hn
   cases hf : fresh m st with
   | false => simp [hf] at h
   | true =>
   cases hl : Q1b (Q5q m) st.live st with
   | false => simp [hf, hl] at h
   | true =>
    simp only [hf, hl, cond_true] at h
    obtain ⟨h1, h2⟩ := Q1g hf
    obtain ⟨h3, h4⟩ := Q1z hl
    refine ⟨_, h, ⟨by simp [imRd], ?_, fun j z hj hz => ?_⟩⟩
    ·exact Qgo (kt := ts.1) (vt := ts.2) m (Q5q m) ho (Q1i h1) h2 h3 h4
    ·rw [Qc (by simpa using hj)] at hz; exact hz
  ·cases h
 ·cases h
def Q44 (k L : Nat) (st : XSt) : Bool := Q1q [L] (xset k (.sit [] 0) st.objs)
theorem Q7h {k L : Nat} {st : XSt} (h : Q44 k L st = true) : Q3l k L st.X := by
 have h1 := Q55 (live := st.live) h
 intro j o hj ho
 have h2 : (Q0 (xset k (.sit [] 0) st.objs)).lookup j = some o := by
  rw [Q2p, Q8, if_neg hj]; exact ho
 rcases Q1y h1 h2 with h3 | h3
 ·cases h3
 ·exact h3
def Qa3 (P : Program) (e : TypeId) : Bool :=
 match P.info? e with
 | some i => match i.zero with
  | some (.slice none 0 0) => true
  | _ => false
 | none => false
theorem Qjd {e : TypeId} (h : Qa3 P e = true) : ∃ i, P.info? e = some i ∧ i.zero = some (.slice none 0 0) := by
 unfold Qa3 at h
 split at h
 ·rename_i i hi
  split at h
  ·rename_i hz; exact ⟨i, hi, hz⟩
  ·cases h
 ·cases h
def tipX {vt : Ty} (ok : Bool) (n : Nat) (l : List vt.T) (b : Bool) : XV := cond ok (.tup [.tip n vt l none, .d (.b b)]) (.tip n vt l none)
theorem Qmd {vt : Ty} (ok : Bool) (n : Nat) (l : List vt.T) (b : Bool) : (tipX ok n l b).a = Qfv ok n l b := by cases ok <;> rfl
def Q9x (P : Program) (st : XSt) (o : Oper) (t : TypeId) (x y : Operand) (ok : Bool) (K : Out → Option R) : Option R :=
 match xeval st x with
 | some (.nm k .m) => match lk k st.objs with
  | some (.mapt L kt vt es c) => match Q2i P t kt, xd st y, Q4q o with
   | some e, some a, some n => match kt.decv a with
    | some a => cond (Qa3 P e) (cond (inl L st.live) (cond (inl n st.live) none (cond (Q44 k L st) (cond (Q1q [n] (xset k (.mapt L kt vt (toff a es) c) st.objs)) (cond (tflag a es)
      (K ⟨.putl k (.mapt L kt vt (toff a es) c), tipX ok n (tval a es) (thas a es), [(x, .nm k .m), (y, .d (kt.xv a))], xset k (.mapt L kt vt (toff a es) c) st.objs, n :: st.live, [L, n], [k]⟩) none) none) none)) none) none
    | _ => none
   | _, _, _ => none
  | _ => none
 | _ => none
theorem Qgs {o : Oper} {st : XSt} {t : TypeId} {x y : Operand} {ok : Bool} {K : Out → Option R} {r : R} (ho : o.op = .lookup t x y ok) (h : Q9x P st o t x y ok K = some r) : ∃ out, K out = some r ∧ OpOk P o st out := by
 unfold Q9x at h
 split at h
 ·rename_i k hx
  split at h
  ·rename_i L kt vt es c hk
   split at h
   ·rename_i e a0 n hm hy hn
    split at h
    ·rename_i a ha
     cases h1 : Qa3 P e with
     | false => simp [h1] at h
     | true =>
     cases h2 : inl L st.live with
     | false => simp [h1, h2] at h
     | true =>
     cases h3 : inl n st.live with
     | true => simp [h1, h2, h3] at h
     | false =>
     cases h4 : Q44 k L st with
     | false => simp [h1, h2, h3, h4] at h
     | true =>
     cases h5 : Q1q [n] (xset k (.mapt L kt vt (toff a es) c) st.objs) with
     | false => simp [h1, h2, h3, h4, h5] at h
     | true =>
     cases h6 : tflag a es with
     | false => simp [h1, h2, h3, h4, h5, h6] at h
     | true =>
      simp only [h1, h2, h3, h4, h5, h6, cond_true, cond_false] at h
      obtain ⟨i, z1, z2⟩ := Qjd h1
      refine ⟨_, h, ⟨?_, ?_, fun j z hj hz => ?_⟩⟩
      ·intro p hp
       simp only [imRd, List.map_cons, List.map_nil, List.mem_cons, List.not_mem_nil, or_false] at hp
       rcases hp with rfl | rfl
       ·exact Q6 hx
       ·exact Q2e hy ha
      ·have hfr := Q55 (live := st.live) h5
       rw [Q2p] at hfr
       have := Qho (P := P) (X := st.X) (k := k) (L := L) (n := n) (es := es) (clock := c) (a := a) ho (Q21 (vt := .sl vt) hm) z1 z2 (Q2b hk) (Q7h h4) h6 (fun hh => by rw [(Qf n st.live).2 hh] at h3; cases h3) hfr ((Qf L st.live).1 h2)
       refine ⟨rfl, ?_⟩
       show OpT P o _ st.X ⟨Q0 (xset k (.mapt L kt vt (toff a es) c) st.objs), n :: st.live⟩ [L, n] (tipX ok n (tval a es) (thas a es)).a
       rw [Q2p, Qmd]
       exact this
      ·simp only [List.mem_cons, List.not_mem_nil, or_false] at hj
       rwa [Q1l _ _ _ _ hj] at hz
    ·cases h
   ·cases h
  ·cases h
 ·cases h
def Q3v (P : Program) (st : XSt) (t : TypeId) (x y u : Operand) (K : Out → Option R) : Option R :=
 match xeval st x with
 | some (.nm k .m) => match lk k st.objs with
  | some (.mapt L kt vt es c) => match Q2i P t kt, xd st y, xeval st u with
   | some e, some a, some (.tip n vt' l ty) => match kt.decv a with
    | some a => if h : vt'.eqb vt = true then
      cond (inl n st.live) (cond (Q44 k L st)
       (K ⟨.putl k (.mapt L kt vt (tput a (Ty.eqb_eq h ▸ l : List vt.T) true c es) (mclk a (fgT es) c)), .d (.v undef), [(x, .nm k .m), (y, .d (kt.xv a)), (u, .tip n vt' l ty)], xset k (.mapt L kt vt (tput a (Ty.eqb_eq h ▸ l : List vt.T) true c es) (mclk a (fgT es) c)) st.objs, without n st.live, [L], [k]⟩) none) none
      else none
    | _ => none
   | _, _, _ => none
  | _ => none
 | _ => none
theorem Q69 {o : Oper} {st : XSt} {t : TypeId} {x y u : Operand} {K : Out → Option R} {r : R} (ho : o.op = .mapUpdate t x y u ∨ o.op = .insert t x y u) (h : Q3v P st t x y u K = some r) : ∃ out, K out = some r ∧ OpOk P o st out := by
 unfold Q3v at h
 split at h
 ·rename_i k hx
  split at h
  ·rename_i L kt vt es c hk
   split at h
   ·rename_i e a0 n vt' l ty hm hy hu
    split at h
    ·rename_i a ha
     split at h
     ·rename_i he
      have e0 := Ty.eqb_eq he
      subst e0
      cases h1 : inl n st.live with
      | false => simp [h1] at h
      | true =>
      cases h2 : Q44 k L st with
      | false => simp [h1, h2] at h
      | true =>
       simp only [h1, h2, cond_true] at h
       refine ⟨_, h, ⟨?_, ?_, fun j z hj hz => ?_⟩⟩
       ·intro p hp
        simp only [imRd, List.map_cons, List.map_nil, List.mem_cons, List.not_mem_nil, or_false] at hp
        rcases hp with rfl | rfl | rfl
        ·exact Q6 hx
        ·exact Q2e hy ha
        ·exact Q6 hu
       ·have := Qdf (P := P) (X := st.X) (k := k) (L := L) (n := n) (es := es) (clock := c) (a := a) (v := l) (ty := ty) ho (Q21 (vt := .sl vt') hm) (Q2b hk) (Q7h h2) ((Qf n st.live).1 h1)
        refine ⟨rfl, ?_⟩
        show OpT P o _ st.X ⟨Q0 (xset k _ st.objs), _⟩ [L] _
        rw [Q2p]
        exact this
       ·simp only [List.mem_cons, List.not_mem_nil, or_false] at hj
        rwa [Q1l _ _ _ _ hj] at hz
     ·cases h
    ·cases h
   ·cases h
  ·cases h
 ·cases h
def Q4m (st : XSt) (x : Operand) : Bool :=
 match xeval st x with
 | some (.nm k .m) => match lk k st.objs with
  | some (.mapt _ _ _ _ _) => true
  | _ => false
 | _ => false
def fgOb : XOb → XOb
 | .mapt _ kt vt es c => .map kt (.sl vt) (fgT es) c
 | o => o
def Q5r : XOb → Bool
 | .mapt _ _ _ _ _ => true
 | _ => false
def Q5u : List (Nat × XOb) → List (Nat × XOb)
 | [] => []
 | p :: r => (p.1, fgOb p.2) :: Q5u r
def Q63 : List (Nat × XOb) → List Nat
 | [] => []
 | p :: r => cond (Q5r p.2) (p.1 :: Q63 r) (Q63 r)
def fgSt (st : XSt) : XSt := ⟨st.env, Q5u st.objs, st.live, st.wl, Q63 st.objs ++ st.ol⟩
theorem lk_fg (k : Nat) : ∀ l : List (Nat × XOb), lk k (Q5u l) = (lk k l).map fgOb
 | [] => rfl
 | p :: r => by
  simp only [Q5u, lk]
  cases Nat.beq p.1 k with
  | true => rfl
  | false => exact lk_fg k r
theorem Q9a {k : Nat} {o : XOb} : ∀ {l : List (Nat × XOb)}, lk k l = some o → Q5r o = true → k ∈ Q63 l
 | [], h, _ => by cases h
 | p :: r, h, hm => by
  simp only [lk] at h
  simp only [Q63]
  cases hb : Nat.beq p.1 k with
  | true =>
   rw [hb] at h
   simp only [cond_true, Option.some.injEq] at h
   rw [h, hm, cond_true, Nat.eq_of_beq_eq_true hb]
   exact List.mem_cons_self
  | false =>
   rw [hb] at h
   simp only [cond_false] at h
   have := Q9a h hm
   cases Q5r p.2 with
   | true => exact List.mem_cons_of_mem _ this
   | false => exact this
theorem Qa7 {o : XOb} (h : Q5r o = false) : fgOb o = o := by cases o <;> first | rfl | cases h
theorem Qkd {kt vt : Ty} (es : EntT kt vt) : Q52 vt.size (lT es) = (fgT es).map fun e => (e.1, dval (kt.dv e.2.1), (Ty.sl vt).dv e.2.2) := by
 simp only [Q52, lT, fgT, List.map_map]
 rfl
theorem SR.fg {S : Sig} {B : Base} {g : Gh} {w : World} {st : XSt} {a : Act} (h : SR S B g w st.im a) : SR S B g w (fgSt st).im a := by
 refine ⟨h.defers, h.size, ?_, h.env⟩
 refine h.hr.plain rfl ?_ ?_
 ·intro k hk
  show ((Q0 (Q5u st.objs)).lookup k).isSome
  rw [Qn, lk_fg]
  have hk : ((Q0 st.objs).lookup k).isSome := hk
  rw [Qn] at hk
  cases hl : lk k st.objs with
  | none => rw [hl] at hk; cases hk
  | some o => rfl
 ·intro k o' hk
  have hk : (Q0 (Q5u st.objs)).lookup k = some o' := hk
  rw [Qn, lk_fg] at hk
  show (Q0 st.objs).lookup k = some o' ∨ ∃ L sz l c, (Q0 st.objs).lookup k = _ ∧ _
  rw [Qn]
  cases hl : lk k st.objs with
  | none => rw [hl] at hk; cases hk
  | some o =>
   rw [hl] at hk
   simp only [Option.map_some, Option.some.injEq] at hk ⊢
   subst hk
   cases hm : Q5r o with
   | false => left; rw [Qa7 hm]
   | true =>
    right
    cases o with
    | mapt L kt vt es c =>
     refine ⟨L, vt.size, lT es, c, rfl, ?_⟩
     rw [Qkd]
     rfl
    | _ => cases hm
end
section
variable (kt vt : Ty)
end
end Go.Xl
set_option linter.unusedVariables false
set_option linter.unusedSimpArgs false
set_option linter.unnecessarySimpa false
namespace Go.Xl
open Go.Ab
structure Ent (P : Program) where
 id : FuncId
 run : {R : Type} → Oper → XSt → List XV → (Out → Option R) → Option R
 ok : ∀ {R : Type} (o : Oper) (st : XSt) (args : Array Operand) (ts : Array TypeId) (vs : List XV) (K : Out → Option R) (r : R),
  o.op = .call { callee := .value (.func id), args := args, argTypes := ts } → Qm st args.toList = some vs → run o st vs K = some r → ∃ out, K out = some r ∧ OpOk P o st out
 /-- called by way of a value, with what was captured -/
 crun : {R : Type} → Oper → XSt → List XV → List XV → (Out → Option R) → Option R := fun _ _ _ _ _ => none
 cok : ∀ {R : Type} (o : Oper) (st : XSt) (t : Tmp) (caps : List XV) (args : Array Operand) (ts : Array TypeId) (vs : List XV) (K : Out → Option R) (r : R),
  o.op = .call { callee := .value (.tmp t), args := args, argTypes := ts } → xeval st (.tmp t) = some (.clo id caps) → Qm st args.toList = some vs → crun o st caps vs K = some r → ∃ out, K out = some r ∧ OpOk P o st out := by
  intros; contradiction
def entOf {P : Program} (f : FuncId) : List (Ent P) → Option (Ent P)
 | [] => none
 | e :: r => cond (Nat.beq e.id f) (some e) (entOf f r)
theorem Q9t {P : Program} {f : FuncId} : ∀ {l : List (Ent P)} {e : Ent P}, entOf f l = some e → e.id = f
 | [], e, h => by cases h
 | a :: r, e, h => by
  simp only [entOf] at h
  cases hb : Nat.beq a.id f with
  | true => simp only [hb, cond_true, Option.some.injEq] at h; subst h; exact Nat.eq_of_beq_eq_true hb
  | false => simp only [hb, cond_false] at h; exact Q9t h
def Q24 (f : FuncId) (o : Oper) : Oper :=
 match o.op with
 | .call c => { o with op := .call { c with callee := .value (.func f) } }
 | _ => o
def Out.addRd (out : Out) (p : Operand × XV) : Out := { out with rd := p :: out.rd }
theorem Q2r {P : Program} {o : Oper} {c : Operand} {f : FuncId} {args : Array Operand} {ts : Array TypeId} {rd : List (Operand × AV)} {X X' : Store} {F : List Nat} {res : AV}
  (ho : o.op = .call { callee := .value c, args := args, argTypes := ts }) (h : OpT P (Q24 f o) rd X X' F res) : OpT P o ((c, .clo f []) :: rd) X X' F res := by
 intro nm hsm B g w a hr hrd next Q hn
 have e1 := hrd _ (List.mem_cons_self ..)
 simp only at e1
 have hc : a.eval c = .func (.func f) #[] #[] := by
  generalize a.eval c = vc at e1
  cases e1 with
  | clo _ _ vs hlen hvs =>
   have : vs = #[] := by
    apply Array.eq_empty_of_size_eq_zero
    simpa using hlen.symm
   rw [this]
 have hd : (Q24 f o).dst = o.dst := by unfold Q24; rw [ho]
 have h1 := h nm hsm B g w a hr (fun p hp => hrd p (List.mem_cons_of_mem _ hp)) next Q (by rw [hd]; exact hn)
 unfold Oper.wp at h1 ⊢
 have e : execOp a.eval (Q24 f o) = execOp a.eval o := by
  unfold Q24
  simp only [ho, execOp, resolve]
  simp only [hc]
  rfl
 rw [e] at h1
 unfold Oper.upon at h1 ⊢
 rw [hd] at h1
 exact h1
theorem OpOk.callee {P : Program} {o : Oper} {st : XSt} {out : Out} {t : Tmp} {f : FuncId} {args : Array Operand} {ts : Array TypeId} (ho : o.op = .call { callee := .value (.tmp t), args := args, argTypes := ts })
  (hs : xeval st (.tmp t) = some (.clo f [])) (h : OpOk P (Q24 f o) st out) : OpOk P o st (out.addRd (.tmp t, .clo f [])) := by
 refine ⟨?_, ?_, h.ol⟩
 ·intro p hp
  simp only [Out.addRd, imRd, List.map_cons, List.mem_cons] at hp
  rcases hp with rfl | hp
  ·exact Q6 (x := .tmp t) hs
  ·exact h.sees p hp
 ·have := h.op
  have e : imRd (out.addRd (.tmp t, .clo f [])).rd = (.tmp t, .clo f []) :: imRd out.rd := rfl
  show match out.eff with | .none => _ | .look ks => _ | .put k c => _ | .all => _ | .lab => _ | .putl k c => _
  cases he : out.eff with
  | none => rw [he] at this; exact ⟨this.1, this.2.1, this.2.2.1, fun X => Q2r ho (this.2.2.2 X)⟩
  | look ks => rw [he] at this; exact ⟨this.1, this.2.1, this.2.2.1, fun X hX => Q2r ho (this.2.2.2 X hX)⟩
  | put k c => rw [he] at this; exact ⟨this.1, this.2.1, this.2.2.1, fun X hX => Q2r ho (this.2.2.2 X hX)⟩
  | all => rw [he] at this; exact Q2r ho this
  | lab => rw [he] at this; exact ⟨this.1, Q2r ho this.2⟩
  | putl k c => rw [he] at this; exact ⟨this.1, Q2r ho this.2⟩
section
variable (P : Program) (Γ : List (Ent P)) (own : List Nat) {R : Type}
def ownOp (own : List Nat) (o : Oper) : Bool :=
 match o.dst with
 | some d => inl d own
 | none => false
def Qax (st : XSt) (x : Operand) : Bool :=
 match xeval st x with
 | some v => Qml v
 | none => false
def xCall (o : Oper) (st : XSt) (c : Call) (K : Out → Option R) : Option R :=
 match c.callee with
 | .builtin .len => match c.args.toList with
  | [x] => cond (Qax st x) (Qbc P st c.argTypes x K) (Qbp P st c.argTypes x K)
  | _ => none
 | .builtin .delete => match c.args.toList with
  | [x, y] => Qbd P st c.argTypes x y K
  | _ => none
 | .builtin .min => match c.args.toList with
  | [x, y] => Q4j st true x y K
  | _ => none
 | .builtin .max => match c.args.toList with
  | [x, y] => Q4j st false x y K
  | _ => none
 | .builtin .append => match c.args.toList with
  | [x, y] => cond (ownOp own o) (Qbv P st o c.argTypes x y K) (cond (Q30 P c.argTypes) (Qbx P st o c.argTypes x y K) (Qbw P st o c.argTypes x y K))
  | _ => none
 | .builtin .clear => match c.args.toList with
  | [x] => Qeh P st c.argTypes x K
  | _ => none
 | .builtin .unsafeSliceData => match c.args.toList with
  | [x] => Q6z P st o x K
  | _ => none
 | .builtin .unsafeString => match c.args.toList with
  | [x, y] => Q5i P st c.argTypes x y K
  | _ => none
 | .builtin .copy => match c.args.toList with
  | [x, y] => xCopy P st c.argTypes x y K
  | _ => none
 | .value (.func f) => match entOf f Γ, Qm st c.args.toList with
  | some e, some vs => e.run o st vs K
  | _, _ => none
 | .value (.tmp t) => match xeval st (.tmp t) with
  | some (.clo f caps) => match entOf f Γ, Qm st c.args.toList with
   | some e, some vs => match caps with
    | [] => e.run (Q24 f o) st vs fun out => K (out.addRd (.tmp t, .clo f []))
    | x :: r => e.crun o st (x :: r) vs K
   | _, _ => none
  | _ => none
 | _ => none
theorem Q1w {c : Call} {l : List Operand} (h : c.args.toList = l) : c.args = l.toArray := by
 rw [← h]
theorem Qlg {o : Oper} {st : XSt} {c : Call} {K : Out → Option R} {r : R} (ho : o.op = .call c) (h : xCall P Γ own o st c K = some r) : ∃ out, K out = some r ∧ OpOk P o st out := by
 obtain ⟨cal, args, ts⟩ := c
 unfold xCall at h
 simp only at h
 split at h
 ·split at h
  ·rename_i x hl
   have := Q1w (c := ⟨.builtin .len, args, ts⟩) hl
   simp only at this
   subst this
   cases hm : Qax st x with
   | true => rw [hm] at h; exact Qio ho h
   | false => rw [hm] at h; exact Qig ho h
  ·cases h
 ·split at h
  ·rename_i x y hl
   have := Q1w (c := ⟨.builtin .len, args, ts⟩) hl
   simp only at this
   subst this
   exact Qi3 ho h
  ·cases h
 ·split at h
  ·rename_i x y hl
   have := Q1w (c := ⟨.builtin .len, args, ts⟩) hl
   simp only at this
   subst this
   exact Qm4 ho h
  ·cases h
 ·split at h
  ·rename_i x y hl
   have := Q1w (c := ⟨.builtin .len, args, ts⟩) hl
   simp only at this
   subst this
   exact Qlw ho h
  ·cases h
 ·split at h
  ·rename_i x y hl
   have := Q1w (c := ⟨.builtin .len, args, ts⟩) hl
   simp only at this
   subst this
   cases hw : ownOp own o with
   | true => simp only [hw, cond_true] at h; exact Qi7 ho h
   | false =>
    simp only [hw, cond_false] at h
    cases hb : Q30 P ts with
    | true => rw [hb] at h; exact Qhm ho hb h
    | false => rw [hb] at h; exact Qhi ho h
  ·cases h
 ·split at h
  ·rename_i x hl
   have := Q1w (c := ⟨.builtin .len, args, ts⟩) hl
   simp only at this
   subst this
   exact Qkf ho h
  ·cases h
 ·split at h
  ·rename_i x hl
   have := Q1w (c := ⟨.builtin .len, args, ts⟩) hl
   simp only at this
   subst this
   exact Qdl ho h
  ·cases h
 ·split at h
  ·rename_i x y hl
   have := Q1w (c := ⟨.builtin .len, args, ts⟩) hl
   simp only at this
   subst this
   exact Qbo ho h
  ·cases h
 ·split at h
  ·rename_i x y hl
   have := Q1w (c := ⟨.builtin .len, args, ts⟩) hl
   simp only at this
   subst this
   exact Qkv ho h
  ·cases h
 ·rename_i f
  split at h
  ·rename_i e vs he hvs
   have := Q9t he
   subst this
   exact e.ok o st args ts vs K r ho hvs h
  ·cases h
 ·rename_i t
  split at h
  ·rename_i f caps hclo
   split at h
   ·rename_i e vs he hvs
    have := Q9t he
    subst this
    split at h
    ·obtain ⟨out, h1, h2⟩ := e.ok (Q24 e.id o) st args ts vs _ r (by unfold Q24; rw [ho]) hvs h
     exact ⟨_, h1, h2.callee ho hclo⟩
    ·exact e.cok o st t _ args ts vs K r ho hclo hvs h
   ·cases h
  ·cases h
 ·cases h
def Q7v (o : Oper) (st : XSt) (f : FuncId) (first caps : Array Operand) (K : Out → Option R) : Option R :=
 match first.toList with
 | [] => match Qm st caps.toList with
  | some vs => K (Q5 st (.clo f vs) (caps.toList.zip vs))
  | none => none
 | _ => none
theorem Qdv {o : Oper} {st : XSt} {f : FuncId} {first caps : Array Operand} {K : Out → Option R} {r : R} (ho : o.op = .makeFunc (.func f) first caps) (h : Q7v o st f first caps K = some r) : ∃ out, K out = some r ∧ OpOk P o st out := by
 unfold Q7v at h
 split at h
 ·rename_i hf
  have hf : first = #[] := by
   apply Array.eq_empty_of_size_eq_zero
   rw [← Array.length_toList, hf]; rfl
  subst hf
  split at h
  ·rename_i vs hv
   refine ⟨_, h, Q3 (Q2w hv) fun X => ?_⟩
   refine .quiet fun _ _ g w a _ hrd => ⟨.func (.func f) #[] (caps.map a.eval), ?_, ?_⟩
   ·simp only [execOp, ho, Instr.makeFunc]
    simp
   ·refine .clo f _ _ (by rw [Qg, Q17 hv]; simp) ?_
    rw [Q3e] at hrd
    exact Q9g hrd
  ·cases h
 ·cases h
def xop (o : Oper) (st : XSt) (K : Out → Option R) : Option R :=
 match o.op with
 | .move x => xMove st x K
 | .assign x => xMove st x K
 | .pick c x y => xPick st c x y K
 | .alloc t => Qcs P (ownOp own o) st o t K
 | .box t x => xBox st o t x K
 | .build t ps => Qdw P st t ps K
 | .buildSlice t n ps => cond (ownOp own o) (Q7o P st o t n ps K) (cond (Q6t n ps.toList) (Q7m P st o t K) (Q5j P st t n ps K))
 | .load t x => Qj3 P st t x K
 | .store t x y => Qey P st t x y K
 | .nilCheck x => xNil st x K
 | .binOp op t x y _ => Qfq P st op t x y K
 | .unOp op _ x => xUn st op x K
 | .convert s d x => Qet P st s d x K
 | .slice t x lo hi mx => Q8m P st t x lo hi mx K
 | .fieldAddr t x n => Q6v P st t x n K
 | .field t x n => Qfh P st t x n K
 | .indexAddr t x y => Q7i P st t x y K
 | .index t x y => Qbl P st t x y K
 | .extract x i => Q9c st x i K
 | .call c => xCall P Γ own o st c K
 | .makeFunc (.func f) first caps => Q7v o st f first caps K
 | .range t x => cond (Qax st x) (Q8b P st o t x K) (Qeg P st o t x K)
 | .makeMap t rs => cond (ownOp own o) (Q7l P st o t rs K) (Qa0 P st o t rs K)
 | .lookup t x y ok => cond (Q4m st x) (Q9x P st o t x y ok K) (Qbh P st t x y ok K)
 | .mapUpdate t x y u => cond (Q4m st x) (Q3v P st t x y u K) (Q4c P st t x y u K)
 | .insert t x y u => cond (Q4m st x) (Q3v P st t x y u K) (Q4c P st t x y u K)
 | .makeInterface t x => Q3c P st t x K
 | .next x str => xNext st x str K
 | .makeSlice t x y => Q6h P own st o t x y K
 | _ => none
theorem Qk8 {o : Oper} {st : XSt} {K : Out → Option R} {r : R} (h : xop P Γ own o st K = some r) : ∃ out, K out = some r ∧ OpOk P o st out := by
 unfold xop at h
 split at h <;> rename_i ho
 ·exact Qeu (.inl ho) h
 ·exact Qeu (.inr ho) h
 ·exact Qkw ho h
 ·exact Qg0 ho h
 ·exact Qlt ho h
 ·exact Qjx ho h
 ·rename_i t n ps
  cases hw : ownOp own o with
  | true => simp only [hw, cond_true] at h; exact Qem ho h
  | false =>
   simp only [hw, cond_false] at h
   cases he : Q6t n ps.toList with
   | true => simp only [he, cond_true] at h; exact Qf5 ho he h
   | false => simp only [he, cond_false] at h; exact Qc3 ho h
 ·exact Qkg ho h
 ·exact Qki ho h
 ·exact Qls ho h
 ·exact Qji ho h
 ·exact Qmq ho h
 ·exact Qjm ho h
 ·exact Qdx ho h
 ·exact Qdg ho h
 ·exact Qke ho h
 ·exact Qff ho h
 ·exact Qic ho h
 ·exact Qgi ho h
 ·exact Qlg P Γ own ho h
 ·exact Qdv P ho h
 ·rename_i t x
  cases hm : Qax st x with
  | true => rw [hm] at h; exact Qex ho h
  | false => rw [hm] at h; exact Qk5 ho h
 ·cases hw : ownOp own o with
  | true => rw [hw] at h; exact Qfu ho h
  | false => rw [hw] at h; exact Qg6 ho h
 ·rename_i t x y ok
  cases hm : Q4m st x with
  | true => rw [hm] at h; exact Qgs ho h
  | false => rw [hm] at h; exact Qhs ho h
 ·rename_i t x y u
  cases hm : Q4m st x with
  | true => rw [hm] at h; exact Q69 (.inl ho) h
  | false => rw [hm] at h; exact Q75 (.inl ho) h
 ·rename_i t x y u
  cases hm : Q4m st x with
  | true => rw [hm] at h; exact Q69 (.inr ho) h
  | false => rw [hm] at h; exact Q75 (.inr ho) h
 ·exact Q8v ho h
 ·exact Qlc ho h
 ·exact Qdo ho h
 ·cases h
structure Inv (s0 s : XSt) : Prop where
 env : ∀ t x, t ∉ s.wl → lk t s.env = some x → lk t s0.env = some x
 objs : ∀ k x, k ∉ s.ol → lk k s.objs = some x → lk k s0.objs = some x
theorem Inv.refl (s : XSt) : Inv s s := ⟨fun _ _ _ h => h, fun _ _ _ h => h⟩
def XEff.e : XEff → Store → Eff
 | .none, _ => .none
 | .look ks, _ => .look ks
 | .put k c, _ => .put k c.o
 | .all, X => .all X
 | .lab, X => .lab X.live
 | .putl k c, X => .putl k c.o X.live
def Out.st (out : Out) (o : Oper) (st : XSt) : XSt := ⟨putX o.dst out.res st.env, out.objs, out.live, logW o.dst st.wl, out.ol ++ st.ol⟩
def Out.it (out : Out) (o : Oper) : It := ⟨o, true, imRd out.rd, out.eff.e out.X, out.F, out.res.a⟩
def Qal (o : Oper) (st : XSt) : XSt := ⟨putX o.dst (.d (.v undef)) st.env, st.objs, st.live, logW o.dst st.wl, st.ol⟩
def Qmi (o : Oper) : It := ⟨o, false, [], .none, [], .d (.sc undef)⟩
def Q8q : XV → Bool
 | .d (.v (.tuple vs)) => Nat.beq vs.size 0
 | _ => false
def Qcx (ops : Array Oper) (j : Nat) : Option Nat :=
 match ops[j]? with
 | some o => o.dst
 | none => none
variable (nt : Nat)
end
end Go.Xl
set_option linter.unusedVariables false
set_option linter.unusedSimpArgs false
set_option linter.unnecessarySimpa false
namespace Go.Xl
open Go.Ab
section
variable {P : Program} {Γ : List (Ent P)} {own : List Nat} {R : Type}
theorem OpOk.opT {o : Oper} {st : XSt} {out : Out} (h : OpOk P o st out) : OpT P o (imRd out.rd) st.X out.X out.F out.res.a := by
 have hop := h.op
 unfold Out.X
 split at hop
 ·obtain ⟨h1, h2, h3, h4⟩ := hop
  rw [h1, h2, h3]; exact h4 st.X
 ·obtain ⟨h1, h2, h3, h4⟩ := hop
  rw [h1, h2, h3]; exact h4 st.X fun _ _ => rfl
 ·obtain ⟨h1, h2, h3, h4⟩ := hop
  rw [h1, h2, h3, Q2p]; exact h4 st.X rfl
 ·exact hop
 ·exact hop.2
 ·exact hop.2
theorem Out.st_im (out : Out) (o : Oper) (st : XSt) : (out.st o st).im = ⟨Qd o.dst out.res.a st.im.env, out.X⟩ := by
 simp only [Out.st, XSt.im, XSt.X, Qfy, Out.X]
theorem Qck (o : Oper) (st : XSt) : (Qal o st).im = ⟨Qd o.dst (.d (.sc undef)) st.im.env, st.X⟩ := by
 simp only [Qal, XSt.im, XSt.X, Qfy]
 rfl
theorem Q22 {st : St} : ∀ {l : List (Operand × AV)}, (∀ p ∈ l, Sees st p.1 p.2) → SeesAll st l
 | [], _ => .nil
 | (x, v) :: r, h => .cons (h (x, v) List.mem_cons_self) (Q22 fun p hp => h p (List.mem_cons_of_mem _ hp))
theorem Qfx {o : Oper} {x : XV} {st : XSt} {t : Nat} {y : XV} {wl : List Nat} (ht : t ∉ logW o.dst wl) (h : lk t (putX o.dst x st.env) = some y) : t ∉ wl ∧ lk t st.env = some y := by
 cases hd : o.dst with
 | none => rw [hd] at ht h; exact ⟨ht, h⟩
 | some d =>
  rw [hd] at ht h
  simp only [logW, List.mem_cons, not_or] at ht
  simp only [putX] at h
  rw [Qc ht.1] at h
  exact ⟨ht.2, h⟩
theorem Inv.op {s0 st : XSt} {o : Oper} {out : Out} (h : Inv s0 st) (hok : OpOk P o st out) : Inv s0 (out.st o st) := by
 refine ⟨fun t x ht hx => ?_, fun k x hk hx => ?_⟩
 ·obtain ⟨h1, h2⟩ := Qfx (st := st) ht hx
  exact h.env t x h1 h2
 ·simp only [Out.st, List.mem_append, not_or] at hk hx
  exact h.objs k x hk.2 (hok.ol k x hk.1 hx)
theorem Inv.dem {s0 st : XSt} {o : Oper} {out : Out} (h : Inv s0 st) (ol : ∀ k x, k ∉ out.ol → lk k out.objs = some x → lk k st.objs = some x) : Inv s0 (out.st o st) := by
 refine ⟨fun t x ht hx => ?_, fun k x hk hx => ?_⟩
 ·obtain ⟨h1, h2⟩ := Qfx (st := st) ht hx
  exact h.env t x h1 h2
 ·simp only [Out.st, List.mem_append, not_or] at hk hx
  exact h.objs k x hk.2 (ol k x hk.1 hx)
theorem Inv.skip {s0 st : XSt} {o : Oper} (h : Inv s0 st) : Inv s0 (Qal o st) := by
 refine ⟨fun t x ht hx => ?_, fun k x hk hx => h.objs k x hk hx⟩
 obtain ⟨h1, h2⟩ := Qfx (st := st) ht hx
 exact h.env t x h1 h2
theorem Q5t {st : XSt} {d : Nat} {x : XV} (h : lk d st.env = some x) : st.im.env.lookup d = some x.a := by
 show (imEnv st.env).lookup d = _
 rw [Q3y, h]; rfl
theorem Qhn {x : XV} (h : Q8q x = true) : x.a = .d (.sc undef) := by
 unfold Q8q at h
 split at h
 ·rename_i vs
  have := Nat.eq_of_beq_eq_true h
  have : vs = #[] := Array.eq_empty_of_size_eq_zero this
  subst this
  rfl
 ·cases h
end
end Go.Xl
set_option linter.unusedVariables false
set_option linter.unusedSimpArgs false
set_option linter.unnecessarySimpa false
namespace Go.Xl
open Go.Ab
def pkM : Nat := 777777777
def pkOf (off : Nat) : PK := cond (Nat.beq off pkM) .m (.p off)
inductive VK where
 | d (t : Ty)
 | tip (n : Nat) (t : Ty) (ty : Option TypeId)
 | p (k off : Nat)
 | z (k off : Nat)
 /-- a slice that owns its block: the object is known, its length not -/
 | os (k : Nat) (t : Ty)
@[reducible] def VK.T : VK → Type
 | .d t => t.T
 | .tip _ t _ => List t.T
 | .p _ _ => Unit
 | .z _ _ => Bool
 | .os _ _ => Nat
def VK.val : (v : VK) → v.T → XV
 | .d t, x => .d (t.xv x)
 | .tip n t ty, l => .tip n t l ty
 | .p k off, _ => .nm k (pkOf off)
 | .z k off, b => .nm k (.z b off)
 | .os k t, n => .os k t 0 n
def VK.cells : (v : VK) → v.T → List XV
 | .d t, x => (t.enc x).map .d
 | .tip n t ty, l => [.tip n t l ty]
 | .p k off, _ => [.nm k (pkOf off)]
 | .z k off, b => [.nm k (.z b off)]
 | .os k t, n => [.os k t 0 n]
def decXV (t : Ty) : XV → Option t.T
 | .d x => t.decv x
 | .tip _ u l _ => t.decv (.sl u l)
 | _ => none
inductive OK where
 | arr (t : Ty)
 | sit
 | map (k v : Ty)
 | mit (m : Nat)
 | mitn
 | mapt (L : Nat) (k v : Ty)
@[reducible] def OK.T : OK → Type
 | .arr t => List t.T
 | .sit => List UInt8 × Nat
 | .map k v => List (Nat × k.T × v.T) × Nat
 | .mit _ => Nat × List Nat × Nat
 | .mitn => Unit
 | .mapt _ k v => List (Nat × k.T × Bool × List v.T) × Nat
def OK.dec : (o : OK) → XOb → Option o.T
 | .arr t, .arr u l => if h : u.eqb t = true then some (Ty.eqb_eq h ▸ l) else none
 | .sit, .sit s p => some (s, p)
 | .map k v, .map k' v' es c => if h : k'.eqb k = true then if h' : v'.eqb v = true then some (Ty.eqb_eq h ▸ Ty.eqb_eq h' ▸ es, c) else none else none
 | .mit m, .mit m' a b c => cond (Nat.beq m' m) (some (a, b, c)) none
 | .mitn, .mitn => some ()
 | .mapt L k v, .mapt L' k' v' es c => if h : k'.eqb k = true then if h' : v'.eqb v = true then cond (Nat.beq L' L) (some (Ty.eqb_eq h ▸ Ty.eqb_eq h' ▸ es, c)) none else none else none
 | _, _ => none
structure Cut where
 vars : List (Tmp × VK)
 objs : List (Nat × List VK × Option TypeId)
 keepS : List Tmp
 keepO : List Nat
 own : List (Tmp × Nat × Ty) := []
 arrs : List (Nat × OK) := []
@[reducible] def VarsT : List (Tmp × VK) → Type
 | [] => Unit
 | p :: r => p.2.T × VarsT r
@[reducible] def Qiv : List VK → Type
 | [] => Unit
 | v :: r => v.T × Qiv r
@[reducible] def ObjsT : List (Nat × List VK × Option TypeId) → Type
 | [] => Unit
 | p :: r => Qiv p.2.1 × ObjsT r
@[reducible] def OwnT : List (Tmp × Nat × Ty) → Type
 | [] => Unit
 | p :: r => Option (List p.2.2.T × Nat) × OwnT r
@[reducible] def ArrsT : List (Nat × OK) → Type
 | [] => Unit
 | p :: r => p.2.T × ArrsT r
@[reducible] def Cut.T (c : Cut) : Type := VarsT c.vars × ObjsT c.objs × OwnT c.own × ArrsT c.arrs
def Qef : List (Nat × OK) → List Nat
 | [] => []
 | p :: r => p.1 :: Qef r
def Q2q : List (Tmp × VK) → List Nat
 | [] => []
 | (_, .tip n _ _) :: r => n :: Q2q r
 | (_, .d _) :: r => Q2q r
 | (_, .p _ _) :: r => Q2q r
 | (_, .z _ _) :: r => Q2q r
 | (_, .os _ _) :: r => Q2q r
def Q27 : List VK → List Nat
 | [] => []
 | .tip n _ _ :: r => n :: Q27 r
 | .d _ :: r => Q27 r
 | .p _ _ :: r => Q27 r
 | .z _ _ :: r => Q27 r
 | .os _ _ :: r => Q27 r
def Q70 : List (Nat × List VK × Option TypeId) → List Nat
 | [] => []
 | p :: r => Q27 p.2.1 ++ Q70 r
def Cut.labs (c : Cut) : List Nat := Q2q c.vars ++ Q70 c.objs
def Qh4 (F : List Nat) : XOb → Bool
 | .cells cs _ => Qi F (asOf cs)
 | .mit m _ _ _ => cond (inl m F) false true
 | .mapt m _ _ _ _ => cond (inl m F) false true
 | _ => true
theorem Qi1 {F : List Nat} {o : XOb} (h : Qh4 F o = true) : Qv F o.o = true := by
 have con : ∀ m, (cond (inl m F) false true) = true → (!F.contains m) = true := by
  intro m hm
  cases hc : F.contains m with
  | false => rfl
  | true => rw [(Qf m F).2 (List.contains_iff_mem.1 hc)] at hm; cases hm
 cases o with
 | cells cs ty => exact h
 | arr t l => exact Qfw F t l
 | sit s pos => rfl
 | map kt vt es c => rfl
 | mitn => rfl
 | bts e l => exact Q2y F _
 | mapt m kt vt es c => exact con m h
 | mit m since seen last => exact con m h
def subL (a b : List Nat) : Bool :=
 match a with
 | [] => true
 | x :: r => cond (inl x b) (subL r b) false
def Q38 : List Nat → Bool
 | [] => true
 | x :: r => cond (inl x r) false (Q38 r)
def Qh3 : List (Nat × List VK × Option TypeId) → List Nat
 | [] => []
 | p :: r => p.1 :: Qh3 r
theorem Q36 : ∀ {a b : List Nat}, subL a b = true → ∀ x ∈ a, x ∈ b
 | [], b, _ => by simp
 | y :: r, b, h => by
  simp only [subL] at h
  cases hy : inl y b with
  | false => simp [hy] at h
  | true =>
   simp only [hy, cond_true] at h
   intro x hx
   rcases List.mem_cons.1 hx with rfl | hx
   ·exact (Qf _ _).1 hy
   ·exact Q36 h x hx
theorem Q1s : ∀ {a : List Nat}, Q38 a = true → a.Nodup
 | [], _ => .nil
 | y :: r, h => by
  simp only [Q38] at h
  cases hy : inl y r with
  | true => simp [hy] at h
  | false =>
   simp only [hy, cond_false] at h
   refine List.nodup_cons.2 ⟨fun hm => ?_, Q1s h⟩
   rw [(Qf _ _).2 hm] at hy
   cases hy
end Go.Xl
set_option linter.unusedVariables false
set_option linter.unusedSimpArgs false
set_option linter.unnecessarySimpa false
namespace Go.Xl
open Go.Ab
end Go.Xl
set_option linter.unusedVariables false
set_option linter.unusedSimpArgs false
set_option linter.unnecessarySimpa false
namespace Go.Xl
open Go.Ab
theorem Q87 {objs : List (Nat × XOb)} {k : Nat} {y : XOb} (h : lk k objs = some y) : (Q0 objs).lookup k = some y.o := by rw [Qn, h]; rfl
end Go.Xl
set_option linter.unusedVariables false
set_option linter.unusedSimpArgs false
set_option linter.unnecessarySimpa false
namespace Go.Xl
open Go.Ab
inductive An where
 | lf
 | seq (a b : An)
 | join (c : Cut) (a b : An)
 | cond (a b : An)
 | blk (a : An)
 | loop (c : Cut) (a : An)
 | stop
 | fg (a b : An)
 /-- between the two: the slices in these slots own their blocks no longer; they are data -/
 | fz (ts : List Nat) (a b : An)
def fzK {R : Type} : List Nat → XSt → (XSt → Option R) → Option R
 | [], s, K => K s
 | t :: ts, s, K => match lk t s.env with
  | some (.os k ty a n) => match lk k s.objs with
   | some (.arr u l) => cond (u.eqb ty) (cond (Nat.ble 1000 k) (cond (Nat.ble (a + n) l.length)
     (fzK ts ⟨(t, .d (.sl u ((l.drop a).take n))) :: s.env, dropX k s.objs, s.live, t :: s.wl, k :: s.ol⟩ K) none) none) none
   | _ => none
  | _ => fzK ts s K
def Qjo (i j : Nat) : Bool := Nat.beq i j
def base (st : XSt) : XSt := ⟨st.env, st.objs, st.live, [], []⟩
section
variable (P : Program) (Γ : List (Ent P)) (own nm : List Nat) (nt N : Nat) {R : Type}
end
section
variable {P : Program} {Γ : List (Ent P)} {own nm : List Nat} {N : Nat} {R : Type}
theorem Inv.fg {s0 s : XSt} (h : Inv s0 s) : Inv s0 (fgSt s) := by
 refine ⟨h.env, fun k x hk hx => ?_⟩
 simp only [fgSt, List.mem_append, not_or] at hk hx
 rw [lk_fg] at hx
 cases hl : lk k s.objs with
 | none => rw [hl] at hx; cases hx
 | some o =>
  rw [hl] at hx
  simp only [Option.map_some, Option.some.injEq] at hx
  cases hm : Q5r o with
  | true => exact absurd (Q9a hl hm) hk.1
  | false =>
   rw [Qa7 hm] at hx
   subst hx
   exact h.objs k o hk.2 hl
theorem Qa5 {S : Sig} {R : Type} {K : XSt → Option R} {r : R} {s0 : XSt} : ∀ (ts : List Nat) (s : XSt), Inv s0 s → fzK ts s K = some r →
  ∃ s', K s' = some r ∧ Inv s0 s' ∧ ∀ (B : Base) (g : Gh) (w : World) (a : Act), SR S B g w s.im a → ∃ g', SR S B g' w s'.im a
 | [], s, hi, h => ⟨s, h, hi, fun B g w a hs => ⟨g, hs⟩⟩
 | t :: ts, s, hi, h => by
  unfold fzK at h
  split at h
  ·rename_i k ty a n ht
   split at h
   ·rename_i u l hk
    cases h1 : u.eqb ty with
    | false => simp [h1] at h
    | true =>
    cases h2 : Nat.ble 1000 k with
    | false => simp [h1, h2] at h
    | true =>
    cases h3 : Nat.ble (a + n) l.length with
    | false => simp [h1, h2, h3] at h
    | true =>
     simp only [h1, h2, h3, cond_true] at h
     have e1 := Ty.eqb_eq h1
     subst e1
     have e2 := Nat.le_of_ble_eq_true h2
     have e3 := Nat.le_of_ble_eq_true h3
     have hi' : Inv s0 ⟨(t, .d (.sl u ((l.drop a).take n))) :: s.env, dropX k s.objs, s.live, t :: s.wl, k :: s.ol⟩ := by
      refine ⟨fun t' x ht' hx => ?_, fun k' x hk' hx => ?_⟩
      ·simp only [List.mem_cons, not_or] at ht'
       rw [Qc ht'.1] at hx
       exact hi.env t' x ht'.2 hx
      ·simp only [List.mem_cons, not_or] at hk'
       exact hi.objs k' x hk'.2 (Q3k hx)
     obtain ⟨s', q1, q2, q3⟩ := Qa5 ts _ hi' h
     refine ⟨s', q1, q2, fun B g w act hs => ?_⟩
     have hnm : k ∉ S.names := fun hm => by have := S.small k hm; omega
     have ho : s.im.X.objs.lookup k = some (.cells ((l.map u.ds).flatten.map .d) none) := Q87 hk
     obtain ⟨f1, f2, f3⟩ := hs.hr.freeze (k := k) (sz := u.size) (es := l.map u.ds) hnm ho (by
      intro i cs hcs
      rw [List.getElem?_map, Option.map_eq_some_iff] at hcs
      obtain ⟨x, _, rfl⟩ := hcs
      exact u.ds_length x)
     have hX : Ab.dropObj k s.im.X = ⟨Q0 (dropX k s.objs), s.live⟩ := by
      rw [Q3b]; rfl
     rw [hX] at f1
     refine q3 B _ w act ⟨hs.defers, hs.size, f1, ?_⟩
     intro t' x hx
     have hx : (imEnv ((t, .d (.sl u ((l.drop a).take n))) :: s.env)).lookup t' = some x := hx
     rw [Q3y] at hx
     by_cases he : t' = t
     ·subst he
      simp only [lk, Nat.beq_refl, cond_true, Option.map_some, Option.some.injEq] at hx
      subst hx
      obtain ⟨v, hv, hr⟩ := hs.env t' (XV.os k u a n).a (by
       show (imEnv s.env).lookup t' = _
       rw [Q3y, ht]; rfl)
      refine ⟨v, hv, ?_⟩
      have := f3 a n v (by simpa using e3) hr
      rw [← List.map_drop, ← List.map_take] at this
      exact this
     ·rw [Qc he, ← Q3y] at hx
      obtain ⟨v, hv, hr⟩ := hs.env t' x hx
      exact ⟨v, hv, hr.mono f2 (.nil _)⟩
   ·cases h
  ·exact Qa5 ts s hi h
theorem Inv.base (st : XSt) : Inv (base st) (Xl.base st) := .refl _
theorem Qao (ops : Array Oper) : ∀ (j : Nat) o, ops.toList[j]? = some o → ops[0 + j]? = some o := by
 intro j o h
 rw [Nat.zero_add]
 simpa using h
end
end Go.Xl
set_option linter.unusedVariables false
set_option linter.unusedSimpArgs false
set_option linter.unnecessarySimpa false
namespace Go.Xl
open Go.Ab
def tupX : List XV → XV
 | [x] => x
 | l => .tup l
theorem Qmm (l : List XV) : (tupX l).a = Qay (asOf l) := by
 cases l with
 | nil => rfl
 | cons x r => cases r <;> rfl
inductive AsLe : List AV → List AV → Prop
 | nil : AsLe [] []
 | cons {x y : AV} {r s : List AV} : ALe x y → AsLe r s → AsLe (x :: r) (y :: s)
theorem AsLe.length {a b : List AV} (h : AsLe a b) : a.length = b.length := by
 induction h with
 | nil => rfl
 | cons _ _ ih => simp [ih]
theorem AsLe.get {a b : List AV} (h : AsLe a b) : ∀ {i : Nat} {y : AV}, b[i]? = some y → ∃ x, a[i]? = some x ∧ ALe x y := by
 induction h with
 | nil => intro i y hy; simp at hy
 | cons h1 _ ih =>
  intro i y hy
  cases i with
  | zero => simp at hy; subst hy; exact ⟨_, rfl, h1⟩
  | succ i => simp at hy; simpa using ih hy
theorem AsLe.tup {a b : List AV} (h : AsLe a b) : ALe (.tup a) (.tup b) := by
 intro g w v hr
 cases hr with
 | tup _ vs hl hc =>
  refine .tup b vs (h.length ▸ hl) fun i c u hb hu => ?_
  obtain ⟨x, hx, hle⟩ := h.get hb
  exact hle _ _ _ (hc i x u hx hu)
def xres (P : Program) (st : XSt) : List ResultVar → Option (List XV)
 | [] => some []
 | .tmp t :: r => match xeval st (.tmp t), xres P st r with
  | some x, some l => some (x :: l)
  | _, _ => none
 | .cell a ty :: r => match xeval st (.tmp a), tyI P ty, xres P st r with
  | some (.nm k (.p off)), some (agg, sz), some l => match lk k st.objs with
   | some (.cells cs _) => cond agg (cond (Nat.ble (off + sz) cs.length) (some (xjoin ((cs.drop off).take sz) :: l)) none)
     (cond (Nat.beq sz 1) (match cs[off]? with
      | some v => some (v :: l)
      | none => none) none)
   | _ => none
  | _, _, _ => none
theorem Q8o {P : Program} {st : XSt} : ∀ {rs : List ResultVar} {xs : List XV}, xres P st rs = some xs → RVs P st.im rs (asOf xs)
 | [], xs, h => by simp [xres] at h; subst h; exact .nil
 | .tmp t :: r, xs, h => by
  simp only [xres] at h
  split at h
  ·rename_i x l hx hl
   cases h
   exact .cons _ _ _ _ (.tmp t _ (Qk hx).1 (.eq _ (Q5t (Qk hx).2))) (Q8o hl)
  ·cases h
 | .cell a ty :: r, xs, h => by
  simp only [xres] at h
  split at h
  ·rename_i k off agg sz l ha ht hl
   have hT := tyI_I ht
   split at h
   ·rename_i cs oty hk
    have hk' := lk_im hk
    cases agg with
    | true =>
     simp only [cond_true] at h
     cases hb : Nat.ble (off + sz) cs.length with
     | false => simp [hb] at h
     | true =>
      simp only [hb, cond_true, Option.some.injEq] at h
      subst h
      simp only [asOf]
      refine .cons _ _ _ _ (.cell a ty k off _ (Qk ha).1 (.eq _ (Q5t (Qk ha).2)) (.agg sz (asOf cs) oty _ hT hk' (by rw [Qg]; exact Nat.le_of_ble_eq_true hb) ?_)) (Q8o hl)
      rw [Qbu, Q82, Q8i]
    | false =>
     simp only [cond_false] at h
     cases hb : Nat.beq sz 1 with
     | false => simp [hb] at h
     | true =>
      have := Nat.eq_of_beq_eq_true hb
      subst this
      simp only [hb, cond_true] at h
      split at h
      ·rename_i v hv
       cases h
       exact .cons _ _ _ _ (.cell a ty k off _ (Qk ha).1 (.eq _ (Q5t (Qk ha).2)) (.one (asOf cs) oty _ hT hk' (by rw [Q6m, hv]; rfl))) (Q8o hl)
      ·cases h
   ·cases h
  ·cases h
def envX : Nat → List XV → List (Nat × XV)
 | _, [] => []
 | n, x :: r => (n, x) :: envX (n + 1) r
theorem Qm5 (n : Nat) (l : List XV) : imEnv (envX n l) = envOf n (asOf l) := by
 induction l generalizing n with
 | nil => rfl
 | cons x r ih => simp only [envX, imEnv, List.map_cons, asOf, envOf] at ih ⊢; rw [ih]
inductive AsTo (g : Gh) (g' : Gh) (w : World) : List XV → List XV → Prop
 | nil : AsTo g g' w [] []
 | cons {x y : XV} {r s : List XV} : (∀ v, RA g w x.a v → RA g' w y.a v) → AsTo g g' w r s → AsTo g g' w (x :: r) (y :: s)
theorem AsTo.length {g g' : Gh} {w : World} {l m : List XV} (h : AsTo g g' w l m) : l.length = m.length := by
 induction h with
 | nil => rfl
 | cons _ _ ih => simp [ih]
theorem AsTo.get {g g' : Gh} {w : World} {l m : List XV} (h : AsTo g g' w l m) : ∀ {i : Nat} {y : XV}, m[i]? = some y → ∃ x, l[i]? = some x ∧ ∀ v, RA g w x.a v → RA g' w y.a v := by
 induction h with
 | nil => intro i y hy; simp at hy
 | cons h1 _ ih =>
  intro i y hy
  cases i with
  | zero => simp at hy; subst hy; exact ⟨_, rfl, h1⟩
  | succ i => simp at hy; simpa using ih hy
theorem Does.le {P : Program} {f : FuncId} {args : List AV} {X X' : Store} {res res' : AV} (h : Does P f args X res X') (hle : ALe res res') : Does P f args X res' X' := by
 intro g w vs hr hl ha
 exact (h g w vs hr hl ha).mono fun e w' ⟨g', v, h1, h2, h3⟩ => ⟨g', v, h1, hle g' w' v h2, h3⟩
def Q3i (o : Oper) : List Operand :=
 match o.op with
 | .call c => c.args.toList
 | _ => []
theorem Q94 {st : XSt} {x : Operand} {ops : List Operand} {v : XV} {vs : List XV} (h : Qm st (x :: ops) = some (v :: vs)) : xeval st x = some v ∧ Qm st ops = some vs := by
 simp only [Qm] at h
 split at h
 ·rename_i a l ha hl; cases h; exact ⟨ha, hl⟩
 ·cases h
theorem Qih {st : XSt} {x : Operand} {v : XV} {t : Ty} {y : t.T} (h : xeval st x = some v) (hd : decXV t v = some y) : Sees st.im x (.d (t.dv y)) := by
 cases v with
 | d u => exact Qc9 h (t.decv_spec hd)
 | tip n u l ty => exact Q61 (a := .sl u l) (by simp [xd, h, XV.asD]) (t.decv_spec hd)
 | _ => simp [decXV] at hd
end Go.Xl
set_option linter.unusedVariables false
set_option linter.unusedSimpArgs false
set_option linter.unnecessarySimpa false
namespace Go.Xl
open Go.Ab
def GHold (g : Gh) (w : World) (gs : List (Nat × AV)) : Prop := ∀ p ∈ gs, RA g w p.2 (.pointer (some ⟨p.1, 0, none⟩))
def DoesG (P : Program) (f : FuncId) (args : List AV) (gs : List (Nat × AV)) (res : AV) : Prop :=
 ∀ (g : Gh) (w : World) (vs : Array Value), HR [] (Base.of g w X0) g w X0 → GHold g w gs → args.length = vs.size →
  (∀ (i : Nat) x v, args[i]? = some x → vs[i]? = some v → RA g w x v) →
  Calls P f vs w fun e w' => ∃ g' v, e = .returned v ∧ RA g' w' res v ∧ HR [] (Base.of g w X0) g' w' X0
theorem DoesG.plain {P : Program} {f : FuncId} {args : List AV} {res : AV} (h : DoesG P f args [] res) : Does P f args X0 res X0 :=
 fun g w vs hr hl ha => h g w vs hr (by simp [GHold]) hl ha
theorem Q9b : ∀ {l : List AV} (ks : List Nat), Q1d l = true → Q1d ((ks.zip l).map (·.2)) = true
 | [], ks, _ => by cases ks <;> rfl
 | x :: r, [], _ => rfl
 | x :: r, k :: ks, h => by
  simp only [Q1d, Bool.and_eq_true] at h
  simp only [List.zip_cons_cons, List.map_cons, Q1d, Bool.and_eq_true]
  exact ⟨h.1, Q9b ks h.2⟩
def glE : List Nat → List XV → List (Nat × XV)
 | k :: ks, x :: r => (GB + k, x) :: glE ks r
 | _, _ => []
theorem Qh9 : ∀ {gids : List Nat} {xs : List XV} {t : Nat} {x : AV}, (t, x) ∈ imEnv (glE gids xs) → ∃ k, t = GB + k ∧ (k, x) ∈ gids.zip (asOf xs)
 | [], xs, t, x, h => by simp [glE, imEnv] at h
 | k :: ks, [], t, x, h => by simp [glE, imEnv] at h
 | k :: ks, y :: r, t, x, h => by
  simp only [glE, imEnv, List.map_cons, List.mem_cons, Prod.mk.injEq] at h
  rcases h with ⟨rfl, rfl⟩ | h
  ·exact ⟨k, rfl, by simp [asOf]⟩
  ·obtain ⟨k', h1, h2⟩ := Qh9 (gids := ks) (xs := r) (t := t) (x := x) (by simpa [imEnv] using h)
   exact ⟨k', h1, by simp only [asOf, List.zip_cons_cons]; exact List.mem_cons_of_mem _ h2⟩
def gops : List Nat → List Operand
 | [] => []
 | k :: r => .global k :: gops r
theorem Ql6 (l : List Nat) : gops l = l.map Operand.global := by
 induction l with
 | nil => rfl
 | cons k r ih => simp [gops, ih]
end Go.Xl
set_option linter.unusedVariables false
set_option linter.unusedSimpArgs false
set_option linter.unnecessarySimpa false
namespace Go.Xl
open Go.Ab
mutual
def XV.mp (f fl : Nat → Nat) : XV → XV
 | .d x => .d x
 | .nm k p => .nm (f k) p
 | .tip n t l ty => .tip (fl n) t l ty
 | .tup l => .tup (mpL f fl l)
 | .agg l => .agg (mpL f fl l)
 | .clo g l => .clo g (mpL f fl l)
 | .os k t a len => .os (f k) t a len
 | .el k t i fo => .el (f k) t i fo
 | .tpt n e x l => .tpt (fl n) e x l
def mpL (f fl : Nat → Nat) : List XV → List XV
 | [] => []
 | x :: r => x.mp f fl :: mpL f fl r
end

mutual
theorem XV.mp_a (f fl : Nat → Nat) : ∀ x : XV, (x.mp f fl).a = mapL f fl x.a
 | .d x => rfl
 | .nm k p => rfl
 | .tip n t l ty => rfl
 | .tup l => by simp only [XV.mp, XV.a, mapL, mpL_a f fl l]
 | .agg l => by simp only [XV.mp, XV.a, mapL, mpL_a f fl l]
 | .clo g l => by simp only [XV.mp, XV.a, mapL, mpL_a f fl l]
 | .os k t a len => rfl
 | .el k t i fo => rfl
 | .tpt n e x l => rfl
theorem mpL_a (f fl : Nat → Nat) : ∀ l : List XV, asOf (mpL f fl l) = mapLs f fl (asOf l)
 | [] => rfl
 | x :: r => by simp only [mpL, asOf, mapLs, XV.mp_a f fl x, mpL_a f fl r]
end

theorem Q60 (f fl : Nat → Nat) (l : List XV) : mpL f fl l = l.map (XV.mp f fl) := by
 induction l with
 | nil => rfl
 | cons x r ih => simp [mpL, ih]
mutual
def XV.nms (ks ls : List Nat) : XV → Bool
 | .d _ => true
 | .nm k _ => inl k ks
 | .tip n _ _ _ => inl n ls
 | .tup l => nmsL ks ls l
 | .agg l => nmsL ks ls l
 | .clo _ l => nmsL ks ls l
 | .os k _ _ _ => inl k ks
 | .el k _ _ _ => inl k ks
 | .tpt n _ _ _ => inl n ls
def nmsL (ks ls : List Nat) : List XV → Bool
 | [] => true
 | x :: r => cond (x.nms ks ls) (nmsL ks ls r) false
end

theorem Q4g {k : Nat} {l : List Nat} (h : inl k l = true) : l.contains k = true := List.contains_iff_mem.2 ((Qf k l).1 h)
mutual
theorem XV.nms_a {ks ls : List Nat} : ∀ {x : XV}, x.nms ks ls = true → Qo ks ls x.a = true
 | .d x, h => rfl
 | .nm k p, h => Q4g h
 | .tip n t l ty, h => Q4g h
 | .tup l, h => by simp only [XV.nms] at h; simp only [XV.a, Qo]; exact Q50 h
 | .agg l, h => by simp only [XV.nms] at h; simp only [XV.a, Qo]; exact Q50 h
 | .clo g l, h => by simp only [XV.nms] at h; simp only [XV.a, Qo]; exact Q50 h
 | .os k t a len, h => Q4g h
 | .el k t i fo, h => Q4g h
 | .tpt n e x l, h => Q4g h
theorem Q50 {ks ls : List Nat} : ∀ {l : List XV}, nmsL ks ls l = true → Q13 ks ls (asOf l) = true
 | [], h => rfl
 | x :: r, h => by
  simp only [nmsL] at h
  cases hx : x.nms ks ls with
  | false => simp [hx] at h
  | true =>
   simp only [hx, cond_true] at h
   simp only [asOf, Q13, XV.nms_a hx, Q50 h, Bool.and_self]
end

def XOb.mp (f fl : Nat → Nat) : XOb → XOb
 | .cells cs ty => .cells (mpL f fl cs) ty
 | .arr t l => .arr t l
 | .sit s p => .sit s p
 | .map kt vt es c => .map kt vt es c
 | .mit m a b c => .mit (f m) a b c
 | .mitn => .mitn
 | .bts e l => .bts e l
 | .mapt L kt vt es c => .mapt L kt vt es c
theorem Q5n (f fl : Nat → Nat) : ∀ l : List D, mapLs f fl (l.map .d) = l.map .d
 | [] => rfl
 | x :: r => by simp only [List.map_cons, mapLs, mapL, Q5n f fl r]
theorem XOb.mp_o (f fl : Nat → Nat) (o : XOb) : (o.mp f fl).o = Q10 f fl o.o := by
 cases o with
 | cells cs ty => simp only [XOb.mp, XOb.o, Q10, mpL_a]
 | arr t l => simp only [XOb.mp, XOb.o, Q10, Q5n]
 | bts e l => simp only [XOb.mp, XOb.o, Q10, Q5n]
 | _ => rfl
def XOb.nms (ks ls : List Nat) : XOb → Bool
 | .cells cs _ => nmsL ks ls cs
 | .mit m _ _ _ => inl m ks
 | .mapt _ _ _ _ _ => false
 | _ => true
theorem Q49 (ks ls : List Nat) : ∀ l : List D, Q13 ks ls (l.map .d) = true
 | [] => rfl
 | x :: r => by simp only [List.map_cons, Q13, Qo, Q49 ks ls r, Bool.and_self]
theorem XOb.nms_o {ks ls : List Nat} {o : XOb} (h : o.nms ks ls = true) : Q14 ks ls o.o = true := by
 cases o with
 | cells cs ty => simp only [XOb.nms] at h; simp only [XOb.o, Q14]; exact Q50 h
 | arr t l => simp only [XOb.o, Q14]; exact Q49 _ _ _
 | bts e l => simp only [XOb.o, Q14]; exact Q49 _ _ _
 | mit m a b c => exact Q4g h
 | mapt L kt vt es c => simp [XOb.nms] at h
 | _ => rfl
def Q2o (ks ls : List Nat) : List (Nat × XOb) → Bool
 | [] => true
 | p :: r => cond (p.2.nms ks ls) (Q2o ks ls r) false
theorem Q6w {ks ls : List Nat} : ∀ {l : List (Nat × XOb)}, Q2o ks ls l = true → ((Q0 l).all fun p => Q14 ks ls p.2) = true
 | [], _ => rfl
 | p :: r, h => by
  simp only [Q2o] at h
  cases hx : p.2.nms ks ls with
  | false => simp [hx] at h
  | true =>
   simp only [hx, cond_true] at h
   have := Q6w h
   simp only [Q0, List.map_cons, List.all_cons, XOb.nms_o hx, Bool.true_and] at this ⊢
   exact this
def putXs (f fl : Nat → Nat) : List (Nat × XOb) → List (Nat × XOb) → List (Nat × XOb)
 | [], acc => acc
 | p :: r, acc => putXs f fl r (xset (f p.1) (p.2.mp f fl) acc)
theorem Qf3 (f fl : Nat → Nat) : ∀ (l acc : List (Nat × XOb)), Q0 (putXs f fl l acc) = Qh f fl (Q0 l) (Q0 acc)
 | [], acc => rfl
 | p :: r, acc => by
  have := Qf3 f fl r (xset (f p.1) (p.2.mp f fl) acc)
  rw [Q2p, XOb.mp_o] at this
  exact this
theorem Q95 (f fl : Nat → Nat) : ∀ (l acc : List (Nat × XOb)) (j : Nat), (∀ p ∈ l, f p.1 ≠ j) → lk j (putXs f fl l acc) = lk j acc
 | [], acc, j, h => rfl
 | p :: r, acc, j, h => by
  simp only [putXs]
  rw [Q95 f fl r _ j (fun q hq => h q (List.mem_cons_of_mem _ hq)), Q1l _ _ _ _ (fun e => h p (List.mem_cons_self ..) e.symm)]
inductive ObLe : Ob → Ob → Prop
 | refl (o : Ob) : ObLe o o
 | cells {cs cs' : List AV} {ty ty' : Option TypeId} : cs.length = cs'.length → (∀ (i : Nat) x y, cs[i]? = some x → cs'[i]? = some y → ALe x y) → (ty' = ty ∨ ty' = none) → ObLe (.cells cs ty) (.cells cs' ty')
theorem Qhl {g : Gh} {w : World} {b : Nat} {o o' : Ob} (h : ObRel g w b o) (hle : ObLe o o') : ObRel g w b o' := by
 cases hle with
 | refl => exact h
 | cells hl hc ht =>
  cases h with
  | cells _ _ arr T h1 h2 h3 h4 =>
   refine .cells _ _ arr T h1 (hl ▸ h2) ?_ ?_
   ·intro i y v hy hv
    have hlt := (List.getElem?_eq_some_iff.1 hy).1
    obtain ⟨x, hx⟩ : ∃ x, _ = some x := ⟨_, List.getElem?_eq_getElem (l := _) (i := i) (by rw [hl]; exact hlt)⟩
    exact hc i x y hx hy g w v (h3 i x v hx hv)
   ·intro t hh
    rcases ht with e | e
    ·exact h4 t (e ▸ hh)
    ·rw [e] at hh; cases hh
theorem Qbi {nm : List Nat} {B : Base} {g : Gh} {w : World} {X Y : Store} (h : HR nm B g w X) (hle : ∀ k o', Y.objs.lookup k = some o' → ∃ o, X.objs.lookup k = some o ∧ ObLe o o')
  (hk : ∀ k, (X.objs.lookup k).isSome → (Y.objs.lookup k).isSome) (hl : Y.live = X.live) : HR nm B g w Y where
 keep k hm := ⟨(h.keep k hm).1, hk k (h.keep k hm).2⟩
 sane := h.sane
 base := h.base
 io := h.io
 le := h.le
 frame := h.frame
 objs k o' ho := by obtain ⟨o, h1, h2⟩ := hle k o' ho; exact Qhl (h.objs k o h1) h2
 objγ k o' ho := by obtain ⟨o, h1, h2⟩ := hle k o' ho; exact h.objγ k o h1
 objinj k k' o o' ho ho' := by
  obtain ⟨_, h1, _⟩ := hle k o ho
  obtain ⟨_, h2, _⟩ := hle k' o' ho'
  exact h.objinj k k' _ _ h1 h2
 objnew k o' ho := by obtain ⟨o, h1, h2⟩ := hle k o' ho; exact h.objnew k o h1
 live n := by rw [hl]; exact h.live n
 tipinj := h.tipinj
 tipobj n b k o' hn ho := by obtain ⟨o, h1, h2⟩ := hle k o' ho; exact h.tipobj n b k o hn h1
 tipnew := h.tipnew
 tiplt := h.tiplt
 eta := h.eta.same (Nat.le_refl _) fun k o' ho => let ⟨o, h1, _⟩ := hle k o' ho; ⟨o, h1⟩
theorem Qli {P : Program} {o : Oper} {rd : List (Operand × AV)} {X Y X' : Store} {F : List Nat} {res : AV} (h : OpT P o rd Y X' F res) (hle : ∀ k o', Y.objs.lookup k = some o' → ∃ o, X.objs.lookup k = some o ∧ ObLe o o')
  (hk : ∀ k, (X.objs.lookup k).isSome → (Y.objs.lookup k).isSome) (hl : Y.live = X.live) : OpT P o rd X X' F res :=
 fun nm hsm B g w a hr => h nm hsm B g w a (Qbi hr hle hk hl)
theorem Qb4 {P : Program} {X : Store} {o : Oper} {fn : FuncId} {c : Operand} {args : Array Operand} {ts : Array TypeId} {xs caps : List AV} {res : AV} {Xc Xc' : Store} (f fl : Nat → Nat) (F : List Nat)
  (ho : o.op = .call { callee := .value c, args := args, argTypes := ts }) (hf : CallI P fn) (hs : Does P fn (xs ++ caps) Xc res Xc') (hc : LabCall X Xc Xc' f fl F)
  (hl : xs.length = args.size) (hd : Q13 (Xc.objs.map (·.1)) Xc.live (xs ++ caps) = true) (hdr : Qo (Xc'.objs.map (·.1)) Xc'.live res = true) :
  OpT P o ((c, .clo fn (mapLs f fl caps)) :: args.toList.zip (mapLs f fl xs)) X ⟨Qh f fl Xc'.objs X.objs, Qw fl X Xc Xc'⟩ F (mapL f fl res) := by
 intro nm hsm B g w a hr hrd next Q hn
 have e1 := rd0 hrd
 simp only at e1
 unfold Oper.wp
 generalize hcv : a.eval c = vc at e1
 cases e1 with
 | clo _ _ vs hlen hvs =>
  have : (execOp a.eval o).run P w = .ok (.enter fn (args.map a.eval ++ vs)) w := by
   simp only [execOp, ho, resolve]
   simp [hcv, Deferred.ofValue, invoke, Q81 hf]
  rw [this]
  have hm : ∀ l m : List AV, mapLs f fl (l ++ m) = mapLs f fl l ++ mapLs f fl m := fun l m => by rw [Q12, Q12, Q12, List.map_append]
  have hml : (mapLs f fl xs).length = args.size := by rw [Q12, List.length_map, hl]
  have hmc : caps.length = vs.size := by rw [Q12, List.length_map] at hlen; exact hlen
  refine (hs.useLab hc hd hdr hr (vs := args.map a.eval ++ vs) (by simp [hl, hmc]) ?_).mono ?_
  ·intro i x v hx hv
   rw [hm, List.getElem?_append] at hx
   split at hx
   ·rename_i hlt
    rw [Array.getElem?_append_left (by simp; omega)] at hv
    exact Q9g (fun p hp => hrd p (List.mem_cons_of_mem _ hp)) i x v hx hv
   ·rename_i hge
    rw [Array.getElem?_append_right (by simp; omega)] at hv
    refine hvs _ x v hx ?_
    rw [hml]; simpa using hv
  ·rintro e w' ⟨v, g', rfl, h1, h2, h3⟩
   exact hn g' w' v h1 h2 h3
theorem Qdj {P : Program} {X : Store} {o : Oper} {fn : FuncId} {args : Array Operand} {ts : Array TypeId} {gids : List Nat} {xs ys : List AV} {res : AV} {Xc Xc' : Store} (f fl : Nat → Nat) (F : List Nat)
  (ho : o.op = .call { callee := .value (.func fn), args := args, argTypes := ts }) (hf : CallI P fn) (hs : DoesH P fn xs (gids.zip ys) Xc res Xc') (hc : LabCall X Xc Xc' f fl F)
  (hl : xs.length = args.size) (hd : Q13 (Xc.objs.map (·.1)) Xc.live xs = true) (hy : Q1d ys = true) (hdr : Qo (Xc'.objs.map (·.1)) Xc'.live res = true) :
  OpT P o (args.toList.zip (mapLs f fl xs) ++ (gids.map Operand.global).zip ys) X ⟨Qh f fl Xc'.objs X.objs, Qw fl X Xc Xc'⟩ F (mapL f fl res) := by
 intro nm hsm B g w a hr hrd next Q hn
 unfold Oper.wp
 have : (execOp a.eval o).run P w = .ok (.enter fn (args.map a.eval)) w := by
  simp only [execOp, ho, resolve]
  simp [Act.eval, Deferred.ofValue, invoke, Q81 hf]
 rw [this]
 have hG : GH g w (gids.zip ys) := by
  intro p hp
  have h1 : (Operand.global p.1, p.2) ∈ (gids.map Operand.global).zip ys := by
   rw [List.zip_map_left, List.mem_map]
   exact ⟨p, hp, rfl⟩
  exact hrd _ (List.mem_append_right _ h1)
 refine (hs.useLab (Q9b _ hy) hc hd hdr hr hG (by simpa using hl) (Q9g fun p hp => hrd p (List.mem_append_left _ hp))).mono ?_
 rintro e w' ⟨v, g', rfl, h1, h2, h3⟩
 exact hn g' w' v h1 h2 h3
end Go.Xl
set_option linter.unusedVariables false
set_option linter.unusedSimpArgs false
set_option linter.unnecessarySimpa false
namespace Go.Xl
open Go.Ab
inductive AS where
 | d (t : Ty)
 | p (k off : Nat)
 | os (k : Nat) (t : Ty)
 | clo (f : Nat) (ps : List (Nat × Nat))
 /-- such a slice that begins at a place -/
 | oa (k a : Nat) (t : Ty)
 /-- what a package variable holds: behind all other ones -/
 | g (k : Nat) (t : Ty)
structure CSp where
 args : List AS
 objs : List (Nat × List VK × Option TypeId)
 arrs : List (Nat × OK)
 out : Cut
def CSp.names (S : CSp) : List Nat := Qh3 S.objs ++ Qef S.arrs
def CSp.labs (S : CSp) : List Nat := Q70 S.objs
section
variable (P : Program) (Γ : List (Ent P)) (own : List Nat) (N : Nat) (fn : Func) (an : An) (S : CSp)
end
def Q7u : List Nat → Bool
 | [] => true
 | n :: r => cond (Nat.blt n 1000) (Q7u r) false
theorem Q3s : ∀ {l : List Nat}, Q7u l = true → ∀ j ∈ l, j < 1000
 | [], _ => by simp
 | n :: r, h => by
  simp only [Q7u] at h
  cases hb : Nat.blt n 1000 with
  | false => simp [hb] at h
  | true =>
   simp only [hb, cond_true] at h
   intro j hj
   rcases List.mem_cons.1 hj with rfl | hj
   ·simpa [Nat.blt_eq] using hb
   ·exact Q3s h j hj
theorem Qx (l : List (Nat × XOb)) : (Q0 l).map (·.1) = l.map (·.1) := by simp [Q0]
end Go.Xl
set_option linter.unusedVariables false
set_option linter.unusedSimpArgs false
set_option linter.unnecessarySimpa false
namespace Go.Xl
open Go.Ab
inductive ArgR (f fl : Nat → Nat) : List XV → List XV → Prop
 | nil : ArgR f fl [] []
 | dat {t : Ty} {v : XV} {y : t.T} {vs xs : List XV} : decXV t v = some y → ArgR f fl vs xs → ArgR f fl (v :: vs) (.d (t.xv y) :: xs)
 | same {v x : XV} {vs xs : List XV} : v = x.mp f fl → ArgR f fl vs xs → ArgR f fl (v :: vs) (x :: xs)
theorem ArgR.length {f fl : Nat → Nat} {a b : List XV} (h : ArgR f fl a b) : a.length = b.length := by
 induction h with
 | nil => rfl
 | dat _ _ ih => simp [ih]
 | same _ _ ih => simp [ih]
theorem ArgR.sees {f fl : Nat → Nat} {st : XSt} : ∀ {ops : List Operand} {vs xs : List XV}, Qm st ops = some vs → ArgR f fl vs xs → ∀ p ∈ imRd (ops.zip (mpL f fl xs)), Sees st.im p.1 p.2
 | [], vs, xs, hv, h => by simp [imRd]
 | x :: ops, [], xs, hv, h => by have := Q17 hv; simp at this
 | x :: ops, v :: vs, xs, hv, h => by
  obtain ⟨hx, hvs⟩ := Q94 hv
  cases h with
  | dat h1 h2 =>
   intro p hp
   simp only [mpL, List.zip_cons_cons, imRd, List.map_cons, List.mem_cons] at hp
   rcases hp with rfl | hp
   ·exact Qih hx h1
   ·exact ArgR.sees hvs h2 p hp
  | same h1 h2 =>
   intro p hp
   simp only [mpL, List.zip_cons_cons, imRd, List.map_cons, List.mem_cons] at hp
   rcases hp with rfl | hp
   ·rw [← h1]; exact Q6 hx
   ·exact ArgR.sees hvs h2 p hp
def Q2u : XD → Bool
 | .v _ => false
 | .ic _ _ _ => false
 | _ => true
def Q1c : List XD → Bool
 | [] => true
 | x :: r => cond (Q2u x) (Q1c r) false
theorem Qz {x : XD} {r : List XD} (h : Q1c (x :: r) = true) : Q2u x = true ∧ Q1c r = true := by
 simp only [Q1c] at h
 cases hx : Q2u x with
 | false => simp [hx] at h
 | true => simp only [hx, cond_true] at h; exact ⟨rfl, h⟩
theorem Qkh : ∀ (t : Ty) {cs : List XD} {x : t.T} {r : List XD}, Q1c cs = true → t.dec cs = some (x, r) → dsOf cs = t.ds x ++ dsOf r ∧ Q1c r = true := by
 intro t
 induction t with
 | int k =>
  intro cs x r hp h
  simp only [Ty.dec] at h
  unfold decI at h
  split at h
  ·rename_i k' n r'
   cases hk : kindB k' k with
   | false => simp [hk] at h
   | true =>
    have := Qt hk
    subst this
    simp only [hk, cond_true, Option.some.injEq, Prod.mk.injEq] at h
    obtain ⟨rfl, rfl⟩ := h
    exact ⟨rfl, (Qz hp).2⟩
  ·rename_i x' r'
   cases hk : kindB .u8 k with
   | false => simp [hk] at h
   | true =>
    have := Qt hk
    subst this
    simp only [hk, cond_true, Option.some.injEq, Prod.mk.injEq] at h
    obtain ⟨rfl, rfl⟩ := h
    exact ⟨rfl, (Qz hp).2⟩
  ·cases h
 | u8 =>
  intro cs x r hp h
  simp only [Ty.dec] at h
  unfold decU8 at h
  split at h
  ·cases h; exact ⟨rfl, (Qz hp).2⟩
  ·cases h
 | bool =>
  intro cs x r hp h
  simp only [Ty.dec] at h
  unfold decB at h
  split at h
  ·cases h; exact ⟨rfl, (Qz hp).2⟩
  ·cases h
 | str =>
  intro cs x r hp h
  simp only [Ty.dec] at h
  unfold decS at h
  split at h
  ·cases h; exact ⟨rfl, (Qz hp).2⟩
  ·cases h
 | sl t ih =>
  intro cs x r hp h
  simp only [Ty.dec] at h
  unfold decL at h
  split at h
  ·rename_i t' l r'
   split at h
   ·rename_i ht
    have e := Ty.eqb_eq ht
    subst e
    cases h
    exact ⟨rfl, (Qz hp).2⟩
   ·cases h
  ·simp [Q1c, Q2u] at hp
  ·simp [Q1c, Q2u] at hp
  ·cases h
 | unit =>
  intro cs x r hp h
  simp [Ty.dec] at h
  subst h
  exact ⟨rfl, hp⟩
 | pair a b iha ihb =>
  intro cs x r hp h
  unfold Ty.dec at h
  split at h
  ·rename_i p hpa
   split at h
   ·rename_i q hq
    cases h
    obtain ⟨h1, h2⟩ := iha (x := p.1) (r := p.2) hp hpa
    obtain ⟨h3, h4⟩ := ihb (x := q.1) (r := q.2) h2 hq
    exact ⟨by rw [h1, h3]; simp [Ty.ds], h4⟩
   ·cases h
  ·cases h
 | st1 a iha =>
  intro cs x r hp h
  exact iha hp h
 | tab t ih =>
  intro cs x r hp h
  simp only [Ty.dec] at h
  unfold decT at h
  split at h
  ·rename_i t' l r'
   split at h
   ·rename_i ht
    have e := Ty.eqb_eq ht
    subst e
    cases h
    exact ⟨rfl, (Qz hp).2⟩
   ·cases h
  ·cases h
 | err =>
  intro cs x r hp h
  simp only [Ty.dec] at h
  unfold decE at h
  split at h
  ·cases h; exact ⟨rfl, (Qz hp).2⟩
  ·simp [Q1c, Q2u] at hp
  ·simp [Q1c, Q2u] at hp
  ·cases h
 | ic t k =>
  intro cs x r hp h
  simp only [Ty.dec] at h
  unfold decIc at h
  split at h
  ·simp [Q1c, Q2u] at hp
  ·simp [Q1c, Q2u] at hp
  ·cases h
 | ptr =>
  intro cs x r hp h
  simp only [Ty.dec] at h
  unfold decP at h
  split at h
  ·cases h; exact ⟨rfl, (Qz hp).2⟩
  ·simp [Q1c, Q2u] at hp
  ·cases h
def CellR (f fl : Nat → Nat) (ex : Bool) (cs xs : List XV) : Prop := AsLe (asOf cs) (asOf (mpL f fl xs)) ∧ (ex = true → asOf cs = asOf (mpL f fl xs))
theorem AsLe.refl : ∀ (l : List AV), AsLe l l
 | [] => .nil
 | x :: r => .cons (.refl x) (AsLe.refl r)
theorem AsLe.append {a b c d : List AV} (h : AsLe a b) (h' : AsLe c d) : AsLe (a ++ c) (b ++ d) := by
 induction h with
 | nil => exact h'
 | cons h1 _ ih => exact .cons h1 ih
theorem Qhx (f fl : Nat → Nat) (a b : List XV) : mpL f fl (a ++ b) = mpL f fl a ++ mpL f fl b := by simp [Q60]
theorem CellR.same {f fl : Nat → Nat} {ex : Bool} {v x : XV} (h : v = x.mp f fl) : CellR f fl ex [v] [x] := by
 subst h
 exact ⟨.refl _, fun _ => rfl⟩
theorem Q4d (l : List XD) : asOf (l.map .d) = (dsOf l).map .d := by
 rw [Q2c, Q1f]; simp [XV.a]
theorem Qca (f fl : Nat → Nat) (l : List XD) : mpL f fl (l.map .d) = l.map .d := by
 rw [Q60]; simp [XV.mp]
theorem DsLe.as {a b : List D} (h : DsLe a b) : AsLe (a.map .d) (b.map .d) := by
 induction h with
 | nil => exact .nil
 | cons h1 _ ih => exact .cons (ALe.d h1) ih
theorem CellR.data {f fl : Nat → Nat} {ex : Bool} {t : Ty} {ds : List XD} {y : t.T} (h : t.dec ds = some (y, [])) (hex : ex = true → Q1c ds = true) : CellR f fl ex (ds.map .d) ((t.enc y).map .d) := by
 refine ⟨?_, fun e => ?_⟩
 ·obtain ⟨ds', h1, h2⟩ := t.dec_spec h
  rw [Qca, Q4d, Q4d, t.enc_ds]
  simp only [dsOf, List.append_nil] at h1
  rw [h1]
  exact h2.as
 ·obtain ⟨h1, _⟩ := Qkh t (hex e) h
  rw [Qca, Q4d, Q4d, t.enc_ds, h1]
  simp [dsOf]
theorem AsLe.obs {a b : List AV} {ty : Option TypeId} (h : AsLe a b) : ObLe (.cells a ty) (.cells b ty) := by
 refine .cells h.length (fun i x y hx hy => ?_) (.inl rfl)
 obtain ⟨x', hx', hle⟩ := h.get hy
 rw [hx] at hx'
 cases hx'
 exact hle
end Go.Xl
set_option linter.unusedVariables false
set_option linter.unusedSimpArgs false
set_option linter.unnecessarySimpa false
namespace Go.Xl
open Go.Ab
def newOk (ns : List Nat) (f : Nat → Nat) (F : List Nat) (objs : List (Nat × XOb)) : List (Nat × XOb) → Bool
 | [] => true
 | p :: r => cond (cond (inl p.1 ns) true (cond (inl (f p.1) F) (match lk (f p.1) objs with
  | none => true
  | some _ => false) false)) (newOk ns f F objs r) false
theorem Qad {ns : List Nat} {f : Nat → Nat} {F : List Nat} {objs : List (Nat × XOb)} : ∀ {l : List (Nat × XOb)}, newOk ns f F objs l = true → ∀ p ∈ l, p.1 ∈ ns ∨ (f p.1 ∈ F ∧ lk (f p.1) objs = none)
 | [], _ => by simp
 | q :: r, h => by
  simp only [newOk] at h
  have hr : newOk ns f F objs r = true ∧ (q.1 ∈ ns ∨ (f q.1 ∈ F ∧ lk (f q.1) objs = none)) := by
   cases h1 : inl q.1 ns with
   | true => simp only [h1, cond_true] at h; exact ⟨h, .inl ((Qf _ _).1 h1)⟩
   | false =>
    cases h2 : inl (f q.1) F with
    | false => simp [h1, h2] at h
    | true =>
     cases h3 : lk (f q.1) objs with
     | some _ => simp [h1, h2, h3] at h
     | none => simp only [h1, h2, h3, cond_true, cond_false] at h; exact ⟨h, .inr ⟨(Qf _ _).1 h2, rfl⟩⟩
  intro p hp
  rcases List.mem_cons.1 hp with rfl | hp
  ·exact hr.2
  ·exact Qad hr.1 p hp
def Qa6 (fl : Nat → Nat) (labs live : List Nat) : List Nat → Bool
 | [] => true
 | n :: r => cond (cond (inl (fl n) live) (inl (fl n) (labs.map fl)) true) (Qa6 fl labs live r) false
theorem Q5h {fl : Nat → Nat} {labs live : List Nat} : ∀ {l : List Nat}, Qa6 fl labs live l = true → ∀ n ∈ l, fl n ∈ live → fl n ∈ labs.map fl
 | [], _ => by simp
 | m :: r, h => by
  simp only [Qa6] at h
  intro n hn hl
  cases h1 : inl (fl m) live with
  | false =>
   simp only [h1, cond_false, cond_true] at h
   rcases List.mem_cons.1 hn with rfl | hn
   ·rw [(Qf _ _).2 hl] at h1; cases h1
   ·exact Q5h h n hn hl
  | true =>
   cases h2 : inl (fl m) (labs.map fl) with
   | false => simp [h1, h2] at h
   | true =>
    simp only [h1, h2, cond_true] at h
    rcases List.mem_cons.1 hn with rfl | hn
    ·exact (Qf _ _).1 h2
    ·exact Q5h h n hn hl
structure CChk (S : CSp) (f fl : Nat → Nat) (F : List Nat) (st : XSt) (xs : List XV) (inO s1o : List (Nat × XOb)) (s1l : List Nat) (res : XV) : Prop where
 nd1 : S.names.Nodup
 nd2 : (S.names.map f).Nodup
 innm : Q2o S.names S.labs inO = true
 outnm : Q2o (s1o.map (·.1)) s1l s1o = true
 nd3 : (s1o.map fun p => f p.1).Nodup
 new : ∀ p ∈ s1o, p.1 ∈ S.names ∨ (f p.1 ∈ F ∧ lk (f p.1) st.objs = none)
 sub : ∀ x ∈ S.names, x ∈ s1o.map (·.1)
 free : Q1q F (putXs f fl inO st.objs) = true
 l1 : ∀ x ∈ S.labs.map fl, x ∈ st.live
 l2 : (S.labs.map fl).Nodup
 l3 : (s1l.map fl).Nodup
 l4 : ∀ x ∈ s1l.map fl, x ∈ F
 l5 : ∀ n ∈ s1l, fl n ∈ st.live → fl n ∈ S.labs.map fl
 xsn : nmsL S.names S.labs xs = true
 resn : res.nms (s1o.map (·.1)) s1l = true
theorem Q68 {l : List (Nat × XOb)} {p : Nat × Ob} (h : p ∈ Q0 l) : ∃ q ∈ l, p = (q.1, q.2.o) := by
 unfold Q0 at h
 obtain ⟨q, hq, rfl⟩ := List.mem_map.1 h
 exact ⟨q, hq, rfl⟩
theorem Q1v {f fl : Nat → Nat} {l : List (Nat × XOb)} {acc : List (Nat × Ob)} {j : Nat} (h : ∀ p ∈ l, f p.1 ≠ j) : (Qh f fl (Q0 l) acc).lookup j = acc.lookup j := by
 refine Q1x _ _ j fun p hp => ?_
 obtain ⟨q, hq, rfl⟩ := Q68 hp
 exact h q hq
theorem Q29 {f fl : Nat → Nat} {l : List (Nat × XOb)} {acc : List (Nat × Ob)} {p : Nat × XOb} (hn : (l.map fun p => f p.1).Nodup) (h : p ∈ l) : (Qh f fl (Q0 l) acc).lookup (f p.1) = some (p.2.mp f fl).o := by
 have := Q37 (f := f) (fl := fl) (Q0 l) acc (p.1, p.2.o) (by simpa [Q0, Function.comp_def] using hn) (List.mem_map_of_mem (f := fun p : Nat × XOb => (p.1, p.2.o)) h)
 rw [XOb.mp_o]
 exact this
def Q83 (o : Oper) : Nat := match o.dst with
 | some d => 1000000 + 1000 * d
 | none => 999000
def Q5z {α : Type} : List α → Bool
 | [] => true
 | _ => false
def datL : List XV → Bool
 | [] => true
 | .d _ :: r => datL r
 | _ => false
theorem Q8f : ∀ {l : List XV}, datL l = true → Q1d (asOf l) = true
 | [], _ => rfl
 | .d x :: r, h => by
  have := Q8f (l := r) h
  simp only [asOf, XV.a, Q1d, Q2d, this, Bool.and_self]
 | .nm _ _ :: _, h => by simp [datL] at h
 | .tip _ _ _ _ :: _, h => by simp [datL] at h
 | .tup _ :: _, h => by simp [datL] at h
 | .agg _ :: _, h => by simp [datL] at h
 | .clo _ _ :: _, h => by simp [datL] at h
 | .os _ _ _ _ :: _, h => by simp [datL] at h
 | .el _ _ _ _ :: _, h => by simp [datL] at h
 | .tpt _ _ _ _ :: _, h => by simp [datL] at h
def Q9q (o : Oper) : Operand :=
 match o.op with
 | .call c => match c.callee with
  | .value x => x
  | _ => .const undef
 | _ => .const undef
theorem Qjr {α : Type} {l : List α} (h : Q5z l = true) : l = [] := by cases l <;> simp [Q5z] at h; rfl
end Go.Xl
set_option linter.unusedVariables false
set_option linter.unusedSimpArgs false
set_option linter.unnecessarySimpa false
namespace Go.Ab
section
variable {P : Program} {o : Oper} {X : Store}
theorem Qcr {α : Type} (zs : List α) : ∀ (n : Nat) (j : Nat), j < n * zs.length → ((List.replicate n zs).flatten)[j]? = zs[j % zs.length]?
 | 0, j, h => by omega
 | n + 1, j, h => by
  rw [List.replicate_succ, List.flatten_cons, List.getElem?_append]
  split
  ·rename_i hlt; rw [Nat.mod_eq_of_lt hlt]
  ·rename_i hge
   rw [Qcr zs n (j - zs.length) (by rw [Nat.succ_mul] at h; omega)]
   congr 1
   exact (Nat.mod_eq_sub_mod (by omega)).symm
theorem Q9y (m : Nat) {t e : TypeId} {n : Nat} {parts : Array (Nat × Operand)} {zs out xs : List AV} {i : TypeInfo} {z : Value} (ho : o.op = .buildSlice t n parts) (ht : P.underlying t = some (.slice e))
  (hi : P.info? e = some i) (hz : i.zero = some z) (hzs : ZCells zs z.cells.toList) (hzl : z.cells.size = i.size) (hx : xs.length = parts.size) (hok : xs.all okSc = true)
  (hf : fillA (fun j => some (j * i.size, i.size)) ((List.replicate n zs).flatten) ((parts.toList.map (·.1)).zip xs) = some out)
  (hbig : n * i.size ≤ 16777216) (hk : X.objs.lookup m = none) (hX : Q7 [m] X = true) (hfr : Qi [m] out = true) :
  OpT P o ((parts.toList.map (·.2)).zip xs) X ⟨(m, .cells out (some e)) :: X.objs, X.live⟩ [m] (.nm m (.s 0 n i.size)) := by
 intro nm hsm B g w a hr hrd next Q hn
 unfold Oper.wp
 have hzsl : zs.length = i.size := by
  have h1 : zs.length = z.cells.toList.length := (hzs.ra g w).1
  rw [h1, Array.length_toList, hzl]
 generalize harr0 : ((Array.range (n * i.size)).map fun x => (if n * i.size = 0 then #[] else z.cells)[x % (if n * i.size = 0 then #[] else z.cells).size]!) = arr0
 have harr0s : arr0.size = n * i.size := by subst harr0; simp
 have hfl : ((List.replicate n zs).flatten).length = n * i.size := by simp [hzsl]
 obtain ⟨arr', hfill, hs', hc'⟩ := Q9k (g := g) (w := w) (place := fun j => some (j * i.size, i.size)) ((parts.toList.map (·.1)).zip xs) (parts.toList.map fun p => (p.1, a.eval p.2)) ((List.replicate n zs).flatten) arr0 out
  (by simp [hx]) (by
   intro j p q hp hq
   rw [List.getElem?_map, Option.map_eq_some_iff] at hq
   obtain ⟨r, hr', rfl⟩ := hq
   rw [List.getElem?_zip_eq_some] at hp
   obtain ⟨h1, h2⟩ := hp
   rw [List.getElem?_map, hr'] at h1
   refine ⟨by simpa using h1.symm, ?_⟩
   exact hrd (r.2, p.2) (List.mem_of_getElem? (i := j) (by
    rw [List.getElem?_zip_eq_some]
    exact ⟨by rw [List.getElem?_map, hr']; rfl, h2⟩))) (by
   rw [List.all_eq_true]
   intro p hp
   exact List.all_eq_true.1 hok p.2 (List.of_mem_zip hp).2) (by rw [hfl, harr0s]) (by
   intro j x v hx' hv
   have hlt : j < n * i.size := by have := (List.getElem?_eq_some_iff.1 hx').1; omega
   have h0 : ¬ (n * i.size = 0) := by omega
   have hpos : 0 < i.size := by
    rcases Nat.eq_zero_or_pos i.size with h | h
    ·rw [h] at hlt; simp at hlt
    ·exact h
   rw [Qcr zs n j (by rw [hzsl]; exact hlt)] at hx'
   rw [← harr0, Array.getElem?_map] at hv
   simp only [h0, if_false] at hv
   rw [Array.getElem?_range, if_pos hlt] at hv
   simp only [Option.map_some, Option.some.injEq] at hv
   have hm : j % z.cells.size < z.cells.size := Nat.mod_lt _ (by omega)
   refine (hzs.ra g w).2 (j % zs.length) x v hx' ?_
   rw [Array.getElem?_toList, hzsl, ← hzl, ← hv]
   rw [getElem!_pos z.cells _ hm]
   simp [hm]) hf
 have hrun : (execOp a.eval o).run P w = .ok (.value (.slice (some ⟨w.heap.size, 0, none⟩) n n)) (w.alloc (.cells arr' e)) := by
  simp only [execOp, ho, Instr.buildSlice]
  have h24 : ¬ (n * i.size > 2 ^ 24) := by omega
  by_cases h0 : n * i.size = 0
  ·have e0 : arr0 = #[] := Array.eq_empty_of_size_eq_zero (by omega)
   subst e0
   have hfill' : Instr.fill (fun j => some (j * i.size, i.size)) #[] (parts.toList.map fun p => (p.1, a.eval p.2)) = some arr' := hfill
   simp only [Sem.run_bind, run_underlying ht, Result.andThen_ok, run_sizeOf hi, h0, if_true]
   simp [Array.range_zero', hfill', Go.newRow]
  ·simp only [h0, if_false] at harr0
   have hfill' : Instr.fill (fun j => some (j * i.size, i.size)) arr0 (parts.toList.map fun p => (p.1, a.eval p.2)) = some arr' := hfill
   simp only [Sem.run_bind, run_underlying ht, Result.andThen_ok, run_sizeOf hi, h24, if_false, h0]
   simp [zeroValue, typeInfo, hi, hz, harr0, hfill', Go.newRow]
 have hlen : ∀ (parts : List (Nat × AV)) (cs out : List AV), fillA (fun j => some (j * i.size, i.size)) cs parts = some out → out.length = cs.length := by
  intro parts
  induction parts with
  | nil => intro cs out h; simp [fillA] at h; rw [h]
  | cons p r ih =>
   intro cs out h
   simp only [fillA] at h
   split at h
   ·rename_i hc
    rw [ih _ _ h, Q47 (by omega)]
   ·cases h
 have houtl := hlen _ _ _ hf
 rw [hfl] at houtl
 obtain ⟨hr2, ht2⟩ := hr.newObj (k := m) hk hX (.cells arr' e) (.cells out (some e)) (by
  intro g' w' ht' hw'
  exact .cells _ _ arr' e hw' (Nat.le_of_eq hs') (fun j y v hy hv => (hc' j y v hy hv).mono ht' (Q1j (Q1t hfr hy))) (fun _ e => (Option.some.inj e).symm))
 rw [hrun]
 refine hn _ _ _ hr2 ht2 (.nm _ _ _ ?_)
 simp only [upd_same]
 exact ⟨n, 0, Nat.le_refl _, rfl, .inr rfl, e, arr'.size, by unfold World.shape?; rw [heap_alloc_new], by omega⟩
theorem Q8z {ts : Array TypeId} {s x : Operand} {l : List UInt8} {fs : List (List D)} {t u e : TypeId} {i : TypeInfo} {z : Value} {ty : Option TypeId} (m : Nat)
  (ho : o.op = .call { callee := .builtin .append, args := #[s, x], argTypes := ts }) (h0 : ts[0]? = some t) (h1 : ts[1]? = some u) (hu : P.underlying u = some .string)
  (ht : P.underlying t = some (.slice e)) (hi : P.info? e = some i) (hz : i.zero = some z) (hzs : z.cells.size = i.size) (hs1 : i.size = 1) (hfs : fs = strDs l) (hm : m ∉ X.live) (hX : Q7 [m] X = true)
  (hone : ∀ cs ∈ fs, ∀ c ∈ cs, oneD c = true) (hbig : fs.length * i.bytes ≤ 140737488355328) (hlen : fs.length ≤ 4611686018427387904) (hty : ∀ e', ty = some e' → e' = e) :
  OpT P o [(s, .d (.sc (.slice none 0 0))), (x, .d (.bs l))] X ⟨X.objs, m :: X.live⟩ [m] (.tip m i.size fs ty) := by
 intro nm hsm B g w a hr hrd next Q hn
 have e1 := (rd0 hrd).sc_inv
 have e2 := rd1 hrd
 simp only at e1 e2
 obtain ⟨h2, h3⟩ := hr.addTip hm none hX (by simp)
 have hap := Q76 (P := P) (o := o) (X := ⟨X.objs, m :: X.live⟩) (n := m) (sz := i.size) (es := []) (fs := fs) (l := l) (ty := ty) m ho h0 h1 hu ht hi hz hzs rfl hs1 hfs List.mem_cons_self
  (by simp only [Q5b hm]; exact hm) hX hone (by simpa using hbig) (by simpa using hlen) hty
 refine hap nm hsm B _ w a h2 ?_ next Q ?_
 ·intro p hp
  simp only [List.mem_cons, List.not_mem_nil, or_false] at hp
  rcases hp with rfl | rfl
  ·simp only [e1]
   exact .tip m i.size [] ty _ (.nil i.size none 0 fun _ => rfl) trivial
  ·exact e2.mono h3 (.d _)
 ·intro g' w' v hr' ht' hra
  simp only [Q5b hm] at hr'
  exact hn g' w' v hr' ((h3.trans ht').sub (by simp)) (by simpa using hra)
theorem Q8y {t e n sz : Nat} {x y : Operand} {j off : Nat} {k : IntKind} {i : Int} (ho : o.op = .indexAddr t x y)
  (ht : ArrI P t e n sz) (h0 : 0 ≤ i) (h1 : i < n) :
  OpT P o [(x, .ptr j off), (y, .d (.sc (.int k i)))] X X [] (.ptr j (off + i.toNat * sz)) :=
 .quiet fun _ _ g w ac _ hrd => by
  have e1 := (rd0 hrd).ptr_inv
  have e2 := (rd1 hrd).sc_inv
  simp only at e1 e2
  obtain ⟨hu, info, hi, hs⟩ := ht
  refine ⟨.pointer (some ⟨g.ρ j, off + i.toNat * sz, none⟩), ?_, .ptr _ _⟩
  simp only [execOp, ho, e1, e2]
  simp [Instr.indexAt, Instr.sureAddr, asIntOf, run_underlying hu, h0, h1, sizeOf, typeInfo, hi, hs, addr_add]
theorem Qei {ts : Array TypeId} {s x : Operand} {t u e e' : TypeId} {i : TypeInfo} (ho : o.op = .call { callee := .builtin .append, args := #[s, x], argTypes := ts }) (h0 : ts[0]? = some t) (h1 : ts[1]? = some u)
  (hu : P.underlying u = some (.slice e')) (ht : P.underlying t = some (.slice e)) (hi : P.info? e = some i) :
  OpT P o [(s, .d (.sc (.slice none 0 0))), (x, .d (.sc (.slice none 0 0)))] X X [] (.d (.sc (.slice none 0 0))) :=
 .quiet fun _ _ g w ac _ hrd => by
  have e1 := (rd0 hrd).sc_inv
  have e2 := (rd1 hrd).sc_inv
  simp only at e1 e2
  refine ⟨.slice none 0 0, ?_, .ofSc _ _ _⟩
  have hrn := run_append_fits' (P := P) (w := w) (w' := w) (ty := o.type) h0 h1 hu ht hi (base := none) (xb := none) (len := 0) (cap := 0) (n := 0) (xc := 0) (news := []) (by simp [Builtin.firstCells]) (by omega) (.inl ⟨rfl, rfl⟩)
  simp only [execOp, ho, resolve]
  simp [invoke, builtin, e1, e2, hrn]
theorem Q9d (m : Nat) {t e : TypeId} {x y : Operand} {kl kc : IntKind} {n : Nat} {i : TypeInfo} {z : Value} (ho : o.op = .makeSlice t x y) (ht : P.underlying t = some (.slice e))
  (hi : P.info? e = some i) (hz : i.zero = some z) (hzs : z.cells.size = i.size) (hbig : i.bytes * n ≤ 281474976710656) (h63 : n ≤ 9223372036854775807) (hm : m ∉ X.live) (hX : Q7 [m] X = true) :
  OpT P o [(x, .d (.sc (.int kl 0))), (y, .d (.sc (.int kc n)))] X ⟨X.objs, m :: X.live⟩ [m] (.tip m i.size [] (some e)) := by
 intro nm hsm B g w a hr hrd next Q hn
 have h1 := (rd0 hrd).sc_inv
 have h2 := (rd1 hrd).sc_inv
 simp only at h1 h2
 have hrun := run_make (P := P) w t e i z ht hi hz kl kc 0 (n : Int) (Int.le_refl _) (by omega) (by rw [← Int.natCast_mul]; generalize i.bytes * n = q at hbig ⊢; omega) (by omega)
 rw [Int.toNat_natCast] at hrun
 generalize harr : madeCells z.cells (n * i.size) = arr at hrun
 have hars : arr.size = n * i.size := by rw [← harr, size_madeCells]
 obtain ⟨hr2, ht2⟩ := hr.newRow arr e 0 (Nat.zero_le _)
 obtain ⟨hr3, ht3⟩ := hr2.addTip (m := m) hm (some w.heap.size) hX (by
  intro b' hb'; cases hb'
  refine ⟨by simp, .inl hr.base, fun k p hk => ?_, fun n' hn' => ?_, hr.eta.ltN (Nat.le_refl _)⟩
  ·have := Q1h (hr.objs k p hk); simp only at this ⊢; omega
  ·have := hr.tiplt n' _ hn'; omega)
 have hT := ht2.trans ht3
 unfold Oper.wp
 have : (execOp a.eval o).run P w = .ok (.value (.slice (some ⟨w.heap.size, 0, none⟩) 0 n)) (w.alloc (.cells arr e)) := by
  simp [execOp, ho, h1, h2, hrun]
 rw [this]
 refine hn _ _ _ hr3 hT (.tip m i.size _ _ _ (.nil i.size _ n (by simp)) ?_)
 intro ob' hob'
 simp only [upd_same, Option.some.injEq] at hob'
 subst hob'
 refine ⟨rfl, rfl, by simp only [upd_same]; omega, ?_, ?_⟩
 ·intro p h3 h4
  simp only [Nat.zero_mul, Nat.zero_add, Nat.add_zero] at h3 h4
  have hnewc : (w.alloc (.cells arr e)).cell? ⟨w.heap.size, p, none⟩ = arr[p]? := cell?_cells (heap_alloc_new w (.cells arr e)) p
  refine ⟨by rw [hnewc]; simp; omega, ?_⟩
  exact frozen_of_row _ _ _ arr e (heap_alloc_new w (.cells arr e))
 ·intro e1 he1
  cases he1
  refine ⟨rfl, arr.size, ?_⟩
  simp only [World.shape?]
  rw [heap_alloc_new]
def pureS {α : Type} (P : Program) : Sem α → Option α
 | .pure a => some a
 | .program k => pureS P (k P)
 | .mark _ k => pureS P k
 | _ => none
theorem Q42 {α : Type} {P : Program} {w : World} : ∀ (s : Sem α) {a : α}, pureS P s = some a → s.run P w = .ok a w
 | .pure a, b, h => by simp only [pureS, Option.some.injEq] at h; subst h; rfl
 | .program k, b, h => by
  simp only [pureS] at h
  exact Q42 (k P) h
 | .mark m k, b, h => by
  simp only [pureS] at h
  exact Q42 k h
 | .load _ _ _, _, h => by simp [pureS] at h
 | .store _ _ _ _, _, h => by simp [pureS] at h
 | .new _ _, _, h => by simp [pureS] at h
 | .shape _ _, _, h => by simp [pureS] at h
 | .freeze _ _ _, _, h => by simp [pureS] at h
 | .frozen _ _, _, h => by simp [pureS] at h
 | .getObj _ _, _, h => by simp [pureS] at h
 | .setObj _ _ _, _, h => by simp [pureS] at h
 | .choose _ _, _, h => by simp [pureS] at h
 | .sys _ _, _, h => by simp [pureS] at h
 | .halt _, _, h => by simp [pureS] at h
theorem Qlh {x : Operand} {u : Value} {f : Value → Sem Value} {v : Value} (ho : ∀ ρ, execOp ρ o = (do pure (.value (← f (ρ x))))) (h : pureS P (f u) = some v) : OpT P o [(x, .d (.sc u))] X X [] (.d (.sc v)) :=
 .quiet fun _ _ g w ac _ hrd => by
  have e1 := (rd0 hrd).sc_inv
  simp only at e1
  refine ⟨v, ?_, .ofSc _ _ _⟩
  rw [ho, e1, Sem.run_bind, Q42 _ h]
  rfl
theorem Qld {x y : Operand} {u v : Value} {f : Value → Value → Sem Value} {r : Value} (ho : ∀ ρ, execOp ρ o = (do pure (.value (← f (ρ x) (ρ y))))) (h : pureS P (f u v) = some r) : OpT P o [(x, .d (.sc u)), (y, .d (.sc v))] X X [] (.d (.sc r)) :=
 .quiet fun _ _ g w ac _ hrd => by
  have e1 := (rd0 hrd).sc_inv
  have e2 := (rd1 hrd).sc_inv
  simp only at e1 e2
  refine ⟨r, ?_, .ofSc _ _ _⟩
  rw [ho, e1, e2, Sem.run_bind, Q42 _ h]
  rfl
def Qfl (args : Array Operand) : Array Bool := args.map fun | .const _ => true | _ => false
theorem Ql3 {b : Builtin} {args : Array Operand} {ts : Array TypeId} {us : List Value} {v : Value} (ho : o.op = .call { callee := .builtin b, args := args, argTypes := ts }) (hl : us.length = args.size)
  (h : pureS P (builtin b ts o.type (Qfl args) us.toArray) = some (.value v)) : OpT P o (args.toList.zip (us.map fun u => .d (.sc u))) X X [] (.d (.sc v)) :=
 .quiet fun _ _ g w ac _ hrd => by
  have hargs : args.map ac.eval = us.toArray := by
   apply Array.ext
   ·simp [hl]
   ·intro i h1 h2
    have hi : i < args.size := by simpa using h1
    have hi' : i < us.length := by omega
    have := (hrd (args[i], .d (.sc us[i])) (List.mem_of_getElem? (i := i) (by
     rw [List.getElem?_zip_eq_some]
     exact ⟨by simp [hi], by simp [hi']⟩))).sc_inv
    simpa using this
  refine ⟨v, ?_, .ofSc _ _ _⟩
  have := Q42 (w := w) _ h
  simp only [execOp, ho, resolve, Sem.run_bind, Sem.run_pure, Result.andThen_ok, invoke]
  rw [hargs]
  exact this
theorem Qdm {t e : TypeId} {x : Operand} {lo hi : Option Operand} {rd : List (Operand × AV)} {i : TypeInfo} (ho : o.op = .slice t x lo hi none) (ht : P.underlying t = some (.slice e)) (hi' : P.info? e = some i)
  (hlo : match lo with | some y => ∃ j, (y, AV.d (.int j 0)) ∈ rd | none => True) (hhi : match hi with | some y => ∃ j, (y, AV.d (.int j 0)) ∈ rd | none => True) :
  OpT P o ((x, .d (.sc (.slice none 0 0))) :: rd) X X [] (.d (.sc (.slice none 0 0))) :=
 .quiet fun _ _ g w ac _ hrd => by
  have hx := (hrd (x, .d (.sc (.slice none 0 0))) List.mem_cons_self).sc_inv
  simp only at hx
  refine ⟨.slice none 0 0, ?_, .ofSc _ _ _⟩
  have hsa : ∀ lo hi, (Instr.sliceAt t (.slice none 0 0) lo hi none).run P w = (Instr.slice t (.slice none 0 0) lo hi none).run P w := by
   intro lo hi
   simp [Instr.sliceAt, run_underlying ht]
  have hsize : (sizeOf e).run P w = .ok i.size w := run_sizeOf hi' w
  have b0 : ∀ (c : BoundsCode) (k : IntKind), (Instr.sliceBound (.int k 0) 0 c).run P w = .ok 0 w := by
   intro c k
   simp [Instr.sliceBound, asIntOf]
  simp only [execOp, ho, hx]
  cases hi with
  | none =>
   cases lo with
   | none => simp [hsa, Instr.slice, Instr.sliceBounds, run_underlying ht, hsize]
   | some y =>
    obtain ⟨j, hj⟩ := hlo
    have e1 := (hrd _ (List.mem_cons_of_mem _ hj)).sc_inv
    simp only at e1
    simp [hsa, Instr.slice, Instr.sliceBounds, run_underlying ht, hsize, e1, b0]
  | some y' =>
   obtain ⟨j', hj'⟩ := hhi
   have e2 := (hrd _ (List.mem_cons_of_mem _ hj')).sc_inv
   simp only at e2
   cases lo with
   | none => simp [hsa, Instr.slice, Instr.sliceBounds, run_underlying ht, hsize, e2, b0]
   | some y =>
    obtain ⟨j, hj⟩ := hlo
    have e1 := (hrd _ (List.mem_cons_of_mem _ hj)).sc_inv
    simp only at e1
    simp [hsa, Instr.slice, Instr.sliceBounds, run_underlying ht, hsize, e1, e2, b0]
end
end Go.Ab
namespace Go.Xl
open Go.Ab
section
variable {P : Program}
theorem c2 {α : Type} {b : Bool} {x : Option α} {y : α} (h : cond b x none = some y) : b = true ∧ x = some y := by
 cases b <;> simp at h ⊢; exact h
def repX (n : Nat) (zs : List XV) : List XV := match n with
 | 0 => []
 | n + 1 => zs ++ repX n zs
theorem Qj9 (zs : List XV) : ∀ n, asOf (repX n zs) = (List.replicate n (asOf zs)).flatten
 | 0 => rfl
 | n + 1 => by simp only [repX, Q3r, Qj9 zs n, List.replicate_succ, List.flatten_cons]
def plN (sz : Nat) : Nat → Nat → List (Nat × Nat)
 | _, 0 => []
 | j, n + 1 => (j * sz, sz) :: plN sz (j + 1) n
theorem Qgz (sz : Nat) : ∀ (n j k : Nat) p, (plN sz j n)[k]? = some p → p = ((j + k) * sz, sz)
 | 0, j, k, p, h => by simp [plN] at h
 | n + 1, j, k, p, h => by
  cases k with
  | zero => simp [plN] at h; rw [← h]; rfl
  | succ k =>
   simp only [plN, List.getElem?_cons_succ] at h
   rw [Qgz sz n (j + 1) k p h]
   congr 2; omega
theorem Qdp {f g : Nat → Option (Nat × Nat)} (h : ∀ i p, f i = some p → g i = some p) : ∀ (parts : List (Nat × AV)) (cs out : List AV), fillA f cs parts = some out → fillA g cs parts = some out
 | [], cs, out, hf => hf
 | p :: r, cs, out, hf => by
  simp only [fillA] at hf ⊢
  cases hp : f p.1 with
  | none => rw [hp] at hf; cases hf
  | some q =>
   rw [hp] at hf
   rw [h _ _ hp]
   simp only at hf ⊢
   split at hf
   ·rename_i hc
    rw [if_pos hc]
    exact Qdp h r _ _ hf
   ·cases hf
def Qbk (P : Program) (st : XSt) (o : Oper) (t : TypeId) (n : Nat) (parts : Array (Nat × Operand)) : Option Out :=
 match P.underlying t with
 | some (.slice e) => match P.info? e with
  | some i => match i.zero with
   | some z => match newName o, Qm st (parts.toList.map (·.2)) with
    | some m, some vs =>
     cond (Nat.beq z.cells.size i.size) (cond (Q2l vs) (match xfill (plN i.size 0 n) (repX n (z.cells.toList.map fun v => .d (Q1a v))) ((parts.toList.map (·.1)).zip vs) with
      | some out => cond (Nat.ble (n * i.size) 16777216) (cond (fresh m st) (cond (Qi [m] (asOf out)) (some ⟨.all, .nm m (.s 0 n i.size), (parts.toList.map (·.2)).zip vs, (m, .cells out (some e)) :: st.objs, st.live, [m], [m]⟩) none) none) none
      | none => none) none) none
    | _, _ => none
   | none => none
  | none => none
 | _ => none
theorem Qia {o : Oper} {st : XSt} {t : TypeId} {n : Nat} {parts : Array (Nat × Operand)} {out : Out} (ho : o.op = .buildSlice t n parts) (h : Qbk P st o t n parts = some out) : OpOk P o st out := by
 unfold Qbk at h
 split at h
 ·rename_i e ht
  split at h
  ·rename_i i hi
   split at h
   ·rename_i z hz
    split at h
    ·rename_i m vs hm hvs
     cases h1 : Nat.beq z.cells.size i.size with
     | false => simp [h1] at h
     | true =>
     cases h2 : Q2l vs with
     | false => simp [h1, h2] at h
     | true =>
     simp only [h1, h2, cond_true] at h
     split at h
     ·rename_i cs hcs
      cases h3 : Nat.ble (n * i.size) 16777216 with
      | false => simp [h3] at h
      | true =>
      cases h4 : fresh m st with
      | false => simp [h3, h4] at h
      | true =>
      cases h5 : Qi [m] (asOf cs) with
      | false => simp [h3, h4, h5] at h
      | true =>
      simp only [h3, h4, h5, cond_true, Option.some.injEq] at h
      subst h
      obtain ⟨f1, f2⟩ := Q1g h4
      refine ⟨Q2w hvs, ?_, fun j z hj hz => ?_⟩
      ·have hf := Qbn hcs
       rw [zip_a, Qj9] at hf
       have := Q9y (P := P) (X := st.X) (xs := asOf vs) m ho ht hi hz (Qae z.cells.toList) (Nat.eq_of_beq_eq_true h1) (by rw [Qg, Q17 hvs]; simp) (Q5o h2)
        (Qdp (fun j p hp => by have := Qgz _ _ _ _ _ hp; rw [Nat.zero_add] at this; rw [this]) _ _ _ hf) (Nat.le_of_ble_eq_true h3) (Q1i f1) f2 h5
       rw [Q3e]
       exact this
      ·rw [Qc (by simpa using hj)] at hz; exact hz
     ·cases h
    ·cases h
   ·cases h
  ·cases h
 ·cases h

-- len, elements, cuts
def xLenN (P : Program) (st : XSt) (ts : Array TypeId) (x : Operand) : Option Out :=
 match xeval st x with
 | some (.nm k (.s off len sz)) => match ts[0]? with
  | some t => match P.underlying t with
   | some (.slice _) => some (Q5 st (.d (.i .i64 (len : Int))) [(x, .nm k (.s off len sz))])
   | _ => none
  | none => none
 | _ => none
theorem Qlm {o : Oper} {st : XSt} {ts : Array TypeId} {x : Operand} {out : Out} (ho : o.op = .call { callee := .builtin .len, args := #[x], argTypes := ts }) (h : xLenN P st ts x = some out) : OpOk P o st out := by
 unfold xLenN at h
 split at h
 ·rename_i k off len sz hx
  split at h
  ·rename_i t ht0
   split at h
   ·rename_i e ht
    cases h
    exact Q3 (Qa hx) fun X => Qa2 ho ht0 ht
   ·cases h
  ·cases h
 ·cases h
def Qc2 (P : Program) (st : XSt) (t : TypeId) (x y : Operand) : Option Out :=
 match xeval st x with
 | some (.nm k (.s off len sz)) => match Qe P t, xd st y, xnum st y with
  | some (_, sz', _), some b, some n => cond (Nat.beq sz' sz) (cond (decide (0 ≤ n ∧ n < (len : Int))) (some (Q5 st (.nm k (.p (off + n.toNat * sz))) [(x, .nm k (.s off len sz)), (y, .d b)])) none) none
  | _, _, _ => none
 | _ => none
theorem Qi4 {o : Oper} {st : XSt} {t : TypeId} {x y : Operand} {out : Out} (ho : o.op = .indexAddr t x y) (h : Qc2 P st t x y = some out) : OpOk P o st out := by
 unfold Qc2 at h
 split at h
 ·rename_i k off len sz hx
  split at h
  ·rename_i e sz' by0 b n hs hb hn
   cases h1 : Nat.beq sz' sz with
   | false => simp [h1] at h
   | true =>
   cases h2 : decide (0 ≤ n ∧ n < (len : Int)) with
   | false => simp [h1, h2] at h
   | true =>
   simp only [h1, h2, cond_true, Option.some.injEq] at h
   subst h
   have e1 := Nat.eq_of_beq_eq_true h1
   subst e1
   obtain ⟨c0, c1⟩ := of_decide_eq_true h2
   obtain ⟨a, kk, ha, had⟩ := Q1n hn
   rw [hb] at ha
   cases ha
   refine Q3 ?_ fun X => ?_
   ·intro p hp
    simp only [imRd, List.map_cons, List.map_nil, List.mem_cons, List.not_mem_nil, or_false] at hp
    rcases hp with rfl | rfl
    ·exact Q6 hx
    ·exact xd_at hb
   ·have := Q53 (P := P) (X := X) (k := k) (off := off) (j := kk) ho (Q9 hs) c0 c1
    simp only [imRd, List.map_cons, List.map_nil, XV.a, had]
    exact this
  ·cases h
 ·cases h
def Qc4 (P : Program) (st : XSt) (t : TypeId) (x : Operand) (lo hi : Option Operand) : Option Out :=
 match xeval st x with
 | some (.nm k (.s off len sz)) => match Qe P t, Q11 st 0 lo, Q11 st len hi with
  | some (_, sz', _), some (l, r1), some (h, r2) => cond (Nat.beq sz sz') (cond (cutOk l h len) (some (Q5 st (.nm k (.s (off + l.toNat * sz) (h.toNat - l.toNat) sz)) ((x, .nm k (.s off len sz)) :: (r1 ++ r2)))) none) none
  | _, _, _ => none
 | _ => none
theorem Qin {o : Oper} {st : XSt} {t : TypeId} {x : Operand} {lo hi : Option Operand} {out : Out} (ho : o.op = .slice t x lo hi none) (h : Qc4 P st t x lo hi = some out) : OpOk P o st out := by
 unfold Qc4 at h
 split at h
 ·rename_i k off len sz hx
  split at h
  ·rename_i e sz' by0 l r1 hh r2 ht hlo hhi
   cases hb : Nat.beq sz sz' with
   | false => simp [hb] at h
   | true =>
   cases hc : cutOk l hh len with
   | false => simp [hb, hc] at h
   | true =>
    simp only [hb, hc, cond_true, Option.some.injEq] at h
    subst h
    have e1 := Nat.eq_of_beq_eq_true hb
    subst e1
    obtain ⟨c0, c1, c2⟩ := Q43 hc
    obtain ⟨s1, m1, f1⟩ := Ql hlo
    obtain ⟨s2, m2, f2⟩ := Ql hhi
    obtain ⟨hu, i, z, hi', hs', hb', hz', hzs'⟩ := Q9 ht
    refine Q3 (Q5d hx s1 s2) fun X => ?_
    exact Q85 (P := P) (X := X) (k := k) (off := off) (len := len) (rd := imRd (r1 ++ r2)) (l := l) (h := hh) ho hu hi' hs' c0 c1 c2 (by
     cases lo with
     | none => exact m1
     | some y => obtain ⟨j, hj⟩ := m1; exact ⟨j, by rw [Qq]; exact List.mem_append_left _ hj⟩) (by
     cases hi with
     | none => exact m2
     | some y => obtain ⟨j, hj⟩ := m2; exact ⟨j, by rw [Qq]; exact List.mem_append_right _ hj⟩)
  ·cases h
 ·cases h
def Qbt (P : Program) (st : XSt) (t : TypeId) (x : Operand) (lo hi : Option Operand) : Option Out :=
 match xeval st x with
 | some (.d (.v (.slice none 0 0))) => match Qe P t, Q11 st 0 lo, Q11 st 0 hi with
  | some _, some (l, r1), some (h, r2) => cond (decide (l = 0)) (cond (decide (h = 0)) (some (Q5 st (.d (.v (.slice none 0 0))) ((x, .d (.v (.slice none 0 0))) :: (r1 ++ r2)))) none) none
  | _, _, _ => none
 | _ => none
theorem Qi0 {o : Oper} {st : XSt} {t : TypeId} {x : Operand} {lo hi : Option Operand} {out : Out} (ho : o.op = .slice t x lo hi none) (h : Qbt P st t x lo hi = some out) : OpOk P o st out := by
 unfold Qbt at h
 split at h
 ·rename_i hx
  split at h
  ·rename_i q l r1 hh r2 ht hlo hhi
   cases h1 : decide (l = 0) with
   | false => simp [h1] at h
   | true =>
   cases h2 : decide (hh = 0) with
   | false => simp [h1, h2] at h
   | true =>
    simp only [h1, h2, cond_true, Option.some.injEq] at h
    subst h
    have e1 := of_decide_eq_true h1
    have e2 := of_decide_eq_true h2
    subst e1; subst e2
    obtain ⟨s1, m1, f1⟩ := Ql hlo
    obtain ⟨s2, m2, f2⟩ := Ql hhi
    obtain ⟨hu, i, z, hi', hs', hb', hz', hzs'⟩ := Q9 (e := q.1) (sz := q.2.1) (bytes := q.2.2) ht
    refine Q3 (Q5d hx s1 s2) fun X => ?_
    exact Qdm (P := P) (X := X) (rd := imRd (r1 ++ r2)) ho hu hi' (by
     cases lo with
     | none => trivial
     | some y => obtain ⟨j, hj⟩ := m1; exact ⟨j, by rw [Qq]; exact List.mem_append_left _ hj⟩) (by
     cases hi with
     | none => trivial
     | some y => obtain ⟨j, hj⟩ := m2; exact ⟨j, by rw [Qq]; exact List.mem_append_right _ hj⟩)
  ·cases h
 ·cases h
def Q9n (P : Program) (st : XSt) (o : Oper) (ts : Array TypeId) (s x : Operand) : Option Out :=
 match ts[0]?, Q4q o with
 | some t, some m =>
  match Qe P t, xeval st s, xd st x with
  | some (e, sz, bytes), some (.d (.v (.slice none 0 0))), some (.s l') =>
    cond (Nat.beq sz 1) (cond (Q1b m st.live st) (cond (fitsB l'.length bytes) (some ⟨.lab, .tip m .u8 l' (some e), [(s, .d (.v (.slice none 0 0))), (x, .d (.s l'))], st.objs, m :: st.live, [m], []⟩) none) none) none
  | _, _, _ => none
 | _, _ => none
theorem Qgb {o : Oper} {st : XSt} {ts : Array TypeId} {s x : Operand} {out : Out} (ho : o.op = .call { callee := .builtin .append, args := #[s, x], argTypes := ts }) (hb : Q30 P ts = true) (h : Q9n P st o ts s x = some out) : OpOk P o st out := by
 have hu : ∃ u, ts[1]? = some u ∧ P.underlying u = some .string := by
  unfold Q30 at hb
  split at hb
  ·rename_i u h1
   split at hb
   ·rename_i h2; exact ⟨u, h1, h2⟩
   ·cases hb
  ·cases hb
 obtain ⟨u, hu1, hu2⟩ := hu
 unfold Q9n at h
 split at h
 ·rename_i t m ht hm
  split at h
  ·rename_i e sz bytes l' hsl hs hx
   cases h1 : Nat.beq sz 1 with
   | false => simp [h1] at h
   | true =>
   cases h3 : Q1b m st.live st with
   | false => simp [h1, h3] at h
   | true =>
   cases h5 : fitsB l'.length bytes with
   | false => simp [h1, h3, h5] at h
   | true =>
    simp only [h1, h3, h5, cond_true, Option.some.injEq] at h
    subst h
    have e1 := Nat.eq_of_beq_eq_true h1
    subst e1
    obtain ⟨f1, f2⟩ := Q1z h3
    obtain ⟨b1, b2⟩ := Q2f h5
    obtain ⟨hte, i, z, hi, hsz, hby, hz, hzs⟩ := Q9 hsl
    refine ⟨?_, ?_, fun _ _ _ h => h⟩
    ·intro p hp
     simp only [imRd, List.map_cons, List.map_nil, List.mem_cons, List.not_mem_nil, or_false] at hp
     rcases hp with rfl | rfl
     ·exact Q6 hs
     ·exact xd_at hx
    ·have := Q8z (P := P) (X := st.X) (s := s) (x := x) (fs := strDs l') (l := l') (ty := some e) m ho ht hu1 hu2 hte hi hz (by rw [hzs, hsz]) hsz rfl f1 f2
       (by intro cs hcs c hc; rw [strDs] at hcs; obtain ⟨y, _, rfl⟩ := List.mem_map.1 hcs; exact Ty.u8.ds_one y c hc) (by rw [strDs, List.length_map, hby]; exact b1) (by rw [strDs, List.length_map]; exact b2) (fun e' he => (Option.some.inj he).symm)
     rw [hsz] at this
     exact ⟨rfl, this⟩
  ·cases h
 ·cases h
def Qbe (P : Program) (st : XSt) (t : TypeId) (x y : Operand) : Option Out :=
 match xeval st x with
 | some (.nm k (.p off)) => match Q67 P t, xd st y, xnum st y with
  | some (_, m, sz), some b, some n => cond (inB n m) (some (Q5 st (.nm k (.p (off + n.toNat * sz))) [(x, .nm k (.p off)), (y, .d b)])) none
  | _, _, _ => none
 | _ => none
theorem Qij {o : Oper} {st : XSt} {t : TypeId} {x y : Operand} {out : Out} (ho : o.op = .indexAddr t x y) (h : Qbe P st t x y = some out) : OpOk P o st out := by
 unfold Qbe at h
 split at h
 ·rename_i k off hx
  split at h
  ·rename_i e0 m sz b n har hy hn
   cases hc : inB n m with
   | false => simp [hc] at h
   | true =>
    simp only [hc, cond_true, Option.some.injEq] at h
    subst h
    obtain ⟨h0, h1⟩ := Qby hc
    obtain ⟨z, j, ha, had⟩ := Q1n hn
    rw [hy] at ha
    cases ha
    refine Q3 (Q8s hx hy) fun X => ?_
    have := Q8y (P := P) (X := X) (x := x) (y := y) (k := j) (i := n) (j := k) (off := off) ho (Q6d har) h0 h1
    show OpT P o [(x, .nm k (.p off)), (y, .d b.d)] X X [] (.nm k (.p (off + n.toNat * sz)))
    rw [had]
    exact this
  ·cases h
 ·cases h
def Qc1 (P : Program) (st : XSt) (o : Oper) (ts : Array TypeId) (s x : Operand) : Option Out :=
 match ts[0]?, ts[1]?, Q4q o with
 | some t, some u, some m =>
  match Qe P t, Qe P u, xeval st s, xeval st x with
  | some (e, sz, bytes), some _, some (.tip n ty l oty), some (.d (.v (.slice none 0 0))) =>
    cond (Nat.beq ty.size sz) (cond (inl n st.live) (cond (Q1b m (without n st.live) st) (cond (tyOpt oty e)
     (cond (fitsB l.length bytes) (some ⟨.lab, .tip m ty l oty, [(s, .tip n ty l oty), (x, .d (.v (.slice none 0 0)))], st.objs, m :: without n st.live, [m], []⟩) none) none) none) none) none
  | some (e, sz, bytes), some _, some (.d (.v (.slice none 0 0))), some (.d (.v (.slice none 0 0))) =>
    some (Q5 st (.d (.v (.slice none 0 0))) [(s, .d (.v (.slice none 0 0))), (x, .d (.v (.slice none 0 0)))])
  | _, _, _, _ => none
 | _, _, _ => none
theorem Qhu {o : Oper} {st : XSt} {ts : Array TypeId} {s x : Operand} {out : Out} (ho : o.op = .call { callee := .builtin .append, args := #[s, x], argTypes := ts }) (h : Qc1 P st o ts s x = some out) : OpOk P o st out := by
 unfold Qc1 at h
 split at h
 ·rename_i t u m ht hu hm
  split at h
  ·rename_i e sz bytes q n ty l oty hsl hsu hs hx
   cases h1 : Nat.beq ty.size sz with
   | false => simp [h1] at h
   | true =>
   cases h2 : inl n st.live with
   | false => simp [h1, h2] at h
   | true =>
   cases h3 : Q1b m (without n st.live) st with
   | false => simp [h1, h2, h3] at h
   | true =>
   cases h4 : tyOpt oty e with
   | false => simp [h1, h2, h3, h4] at h
   | true =>
   cases h5 : fitsB l.length bytes with
   | false => simp [h1, h2, h3, h4, h5] at h
   | true =>
    simp only [h1, h2, h3, h4, h5, cond_true, Option.some.injEq] at h
    subst h
    have e1 := Nat.eq_of_beq_eq_true h1
    subst e1
    obtain ⟨f1, f2⟩ := Q1z h3
    obtain ⟨b1, b2⟩ := Q2f h5
    obtain ⟨q1, q2, q3⟩ := q
    refine ⟨?_, ?_, fun _ _ _ h => h⟩
    ·intro p hp
     simp only [imRd, List.map_cons, List.map_nil, List.mem_cons, List.not_mem_nil, or_false] at hp
     rcases hp with rfl | rfl
     ·exact Q6 hs
     ·exact Q6 hx
    ·have := Q9e (P := P) (X := st.X) (s := s) (x := x) (n := n) (es := l.map ty.ds) (fs := []) (ty := oty) m ho ht hu (Q9 hsu) (Q9 hsl) ((Qf _ _).1 h2) f1 f2
       (by simp) (by simpa using b1) (by simpa using b2) (Qeb h4)
     rw [List.append_nil] at this
     refine ⟨rfl, ?_⟩
     intro nm hsm B g w a hr hrd next Q hn
     refine this nm hsm B g w a hr ?_ next Q hn
     intro p hp
     simp only [List.mem_cons, List.not_mem_nil, or_false] at hp
     rcases hp with rfl | rfl
     ·exact hrd (s, .tip n ty.size (l.map ty.ds) oty) List.mem_cons_self
     ·have := hrd (x, .d (.sc (.slice none 0 0))) (List.mem_cons_of_mem _ List.mem_cons_self)
      exact ALe.d (DLe.nil ty.size) g w _ this
  ·rename_i e sz bytes q hsl hsu hs hx
   cases h
   obtain ⟨q1, q2, q3⟩ := q
   obtain ⟨a1, i, z, a2, a3, a4, a5, a6⟩ := Q9 hsl
   obtain ⟨c1, _⟩ := Q9 hsu
   refine Q3 ?_ fun X => Qei ho ht hu c1 a1 a2
   intro p hp
   simp only [imRd, List.map_cons, List.map_nil, List.mem_cons, List.not_mem_nil, or_false] at hp
   rcases hp with rfl | rfl
   ·exact Q6 hs
   ·exact Q6 hx
  ·cases h
 ·cases h
def Qfg (P : Program) (st : XSt) (o : Oper) (t : TypeId) (x y : Operand) : Option Out :=
 match P.underlying t with
 | some (.slice e) => match P.info? e, tyOf P 9 e, Q4q o, xd st x, xd st y with
  | some i, some ty, some m, some (.i kl n0), some (.i kc n) => match i.zero with
   | some z => cond (Nat.beq z.cells.size i.size) (cond (Nat.beq ty.size i.size) (cond (decide (n0 = 0)) (cond (decide (0 ≤ n)) (cond (decide (i.bytes * n.toNat ≤ 281474976710656)) (cond (decide (n.toNat ≤ 9223372036854775807)) (cond (Q1b m st.live st)
     (some ⟨.lab, .tip m ty [] (some e), [(x, .d (.i kl n0)), (y, .d (.i kc n))], st.objs, m :: st.live, [m], []⟩) none) none) none) none) none) none) none
   | none => none
  | _, _, _, _, _ => none
 | _ => none
theorem Qkb {o : Oper} {st : XSt} {t : TypeId} {x y : Operand} {out : Out} (ho : o.op = .makeSlice t x y) (h : Qfg P st o t x y = some out) : OpOk P o st out := by
 unfold Qfg at h
 split at h
 ·rename_i e ht
  split at h
  ·rename_i i ty m kl n0 kc n hi hty hm hx hy
   split at h
   ·rename_i z hz
    obtain ⟨h1, h⟩ := c2 h
    obtain ⟨h2, h⟩ := c2 h
    obtain ⟨h3, h⟩ := c2 h
    obtain ⟨h4, h⟩ := c2 h
    obtain ⟨h5, h⟩ := c2 h
    obtain ⟨h6, h⟩ := c2 h
    obtain ⟨h7, h⟩ := c2 h
    ·simp only [Option.some.injEq] at h
     subst h
     have e3 := of_decide_eq_true h3
     subst e3
     obtain ⟨k, rfl⟩ := Int.eq_ofNat_of_zero_le (of_decide_eq_true h4)
     have e5 := of_decide_eq_true h5
     have e6 := of_decide_eq_true h6
     rw [Int.toNat_natCast] at e5 e6
     obtain ⟨f1, f2⟩ := Q1z h7
     have := Q9d (P := P) (X := st.X) (x := x) (y := y) (kl := kl) (kc := kc) (n := k) m ho ht hi hz (Nat.eq_of_beq_eq_true h1) e5 e6 f1 f2
     rw [← Nat.eq_of_beq_eq_true h2] at this
     exact ⟨sees2 hx hy, ⟨rfl, this⟩, fun _ _ _ h => h⟩
   ·cases h
  ·cases h
 ·cases h
def xval : XD → Option Value
 | .i k n => some (.int k n)
 | .u8 b => some (.int .u8 (b.toNat : Int))
 | .b b => some (.bool b)
 | .s l => some (.string ⟨l.toArray⟩)
 | .v u => some u
 | _ => none
theorem Qaw {x : XD} {u : Value} (h : xval x = some u) : x.d = .sc u := by
 cases x <;> simp [xval] at h <;> subst h <;> rfl
def Qbb (P : Program) (st : XSt) (x : Operand) (f : Value → Sem Value) : Option Out :=
 match xd st x with
 | some a => match xval a with
  | some u => match pureS P (f u) with
   | some v => some (Q5 st (.d (Q1a v)) [(x, .d a)])
   | none => none
  | none => none
 | none => none
theorem Qcu {o : Oper} {st : XSt} {x : Operand} {f : Value → Sem Value} {out : Out} (ho : ∀ ρ, execOp ρ o = (do pure (.value (← f (ρ x))))) (h : Qbb P st x f = some out) : OpOk P o st out := by
 unfold Qbb at h
 split at h
 ·rename_i a hx
  split at h
  ·rename_i u hu
   split at h
   ·rename_i v hv
    cases h
    refine Q3 (sees1 hx) fun X => ?_
    have := Qlh (P := P) (X := X) ho hv
    show OpT P o [(x, .d a.d)] X X [] (.d (Q1a v).d)
    rw [Qaw hu, Q2j]
    exact this
   ·cases h
  ·cases h
 ·cases h
def Qe9 (P : Program) (st : XSt) (x y : Operand) (f : Value → Value → Sem Value) : Option Out :=
 match xd st x, xd st y with
 | some a, some b => match xval a, xval b with
  | some u, some v => match pureS P (f u v) with
   | some r => some (Q5 st (.d (Q1a r)) [(x, .d a), (y, .d b)])
   | none => none
  | _, _ => none
 | _, _ => none
theorem Qko {o : Oper} {st : XSt} {x y : Operand} {f : Value → Value → Sem Value} {out : Out} (ho : ∀ ρ, execOp ρ o = (do pure (.value (← f (ρ x) (ρ y))))) (h : Qe9 P st x y f = some out) : OpOk P o st out := by
 unfold Qe9 at h
 split at h
 ·rename_i a b hx hy
  split at h
  ·rename_i u v hu hv
   split at h
   ·rename_i r hr
    cases h
    refine Q3 (sees2 hx hy) fun X => ?_
    have := Qld (P := P) (X := X) ho hr
    show OpT P o [(x, .d a.d), (y, .d b.d)] X X [] (.d (Q1a r).d)
    rw [Qaw hu, Qaw hv, Q2j]
    exact this
   ·cases h
  ·cases h
 ·cases h
def Q8h (st : XSt) : List Operand → Option (List (XD × Value))
 | [] => some []
 | x :: r => match xd st x, Q8h st r with
  | some a, some l => match xval a with
   | some u => some ((a, u) :: l)
   | none => none
  | _, _ => none
theorem Q93 {st : XSt} : ∀ {l : List Operand} {vs : List (XD × Value)}, Q8h st l = some vs → vs.length = l.length ∧ (∀ p ∈ imRd (l.zip (vs.map fun p => XV.d p.1)), Sees st.im p.1 p.2) ∧ imRd (l.zip (vs.map fun p => XV.d p.1)) = l.zip ((vs.map (·.2)).map fun u => .d (.sc u))
 | [], vs, h => by simp [Q8h] at h; subst h; exact ⟨rfl, by simp [imRd], rfl⟩
 | x :: r, vs, h => by
  simp only [Q8h] at h
  split at h
  ·rename_i a l ha hl
   split at h
   ·rename_i u hu
    cases h
    obtain ⟨h1, h2, h3⟩ := Q93 hl
    refine ⟨by simp [h1], ?_, ?_⟩
    ·intro p hp
     simp only [List.map_cons, List.zip_cons_cons, imRd, List.mem_cons] at hp
     rcases hp with rfl | hp
     ·exact xd_at ha
     ·exact h2 p hp
    ·simp only [imRd, List.map_cons, List.zip_cons_cons] at h3 ⊢
     rw [h3]
     simp only [XV.a, Qaw hu]
   ·cases h
  ·cases h
def Qau (P : Program) (st : XSt) (o : Oper) (b : Builtin) (args : Array Operand) (ts : Array TypeId) : Option Out :=
 match Q8h st args.toList with
 | some vs => match pureS P (builtin b ts o.type (Qfl args) (vs.map (·.2)).toArray) with
  | some (.value v) => some (Q5 st (.d (Q1a v)) (args.toList.zip (vs.map fun p => XV.d p.1)))
  | _ => none
 | none => none
theorem Qcz {o : Oper} {st : XSt} {b : Builtin} {args : Array Operand} {ts : Array TypeId} {out : Out} (ho : o.op = .call { callee := .builtin b, args := args, argTypes := ts }) (h : Qau P st o b args ts = some out) : OpOk P o st out := by
 unfold Qau at h
 split at h
 ·rename_i vs hvs
  split at h
  ·rename_i v hv
   cases h
   obtain ⟨h1, h2, h3⟩ := Q93 hvs
   refine Q3 h2 fun X => ?_
   rw [h3]
   show OpT P o _ X X [] (.d (Q1a v).d)
   rw [Q2j]
   exact Ql3 ho (by rw [List.length_map, h1]; simp) hv
  ·cases h
 ·cases h
def orE {α : Type} : Option α → Option α → Option α
 | some x, _ => some x
 | none, y => y
theorem Qb6 {α : Type} {a b : Option α} {x : α} (h : orE a b = some x) : a = some x ∨ b = some x := by
 cases a with
 | some y => exact .inl h
 | none => exact .inr h
def xopN (P : Program) (o : Oper) (st : XSt) : Option Out :=
 match o.op with
 | .buildSlice t n ps => Qbk P st o t n ps
 | .indexAddr t x y => orE (Qc2 P st t x y) (Qbe P st t x y)
 | .unOp op t x => Qbb P st x (Op.unary op)
 | .binOp op t x y _ => Qe9 P st x y fun a b => do eqGuard op t x y a b; binOp op t a b
 | .convert s d x => Qbb P st x (convert s d)
 | .makeSlice t x y => Qfg P st o t x y
 | .slice t x lo hi none => orE (Qc4 P st t x lo hi) (Qbt P st t x lo hi)
 | .call c => match c.callee with
  | .builtin .len => match c.args.toList with
   | [x] => xLenN P st c.argTypes x
   | _ => none
  | .builtin .append => match c.args.toList with
   | [x, y] => cond (Q30 P c.argTypes) (Q9n P st o c.argTypes x y) (Qc1 P st o c.argTypes x y)
   | _ => none
  | .builtin .max => Qau P st o .max c.args c.argTypes
  | .builtin .min => Qau P st o .min c.args c.argTypes
  | _ => none
 | _ => none
theorem Qh0 {o : Oper} {st : XSt} {out : Out} (h : xopN P o st = some out) : OpOk P o st out := by
 unfold xopN at h
 split at h <;> rename_i ho
 ·exact Qia ho h
 ·rcases Qb6 h with h | h
  ·exact Qi4 ho h
  ·exact Qij ho h
 ·exact Qcu (fun ρ => by simp only [execOp, ho]) h
 ·exact Qko (fun ρ => by simp only [execOp, ho]) h
 ·exact Qcu (fun ρ => by simp only [execOp, ho]) h
 ·exact Qkb ho h
 ·rcases Qb6 h with h | h
  ·exact Qin ho h
  ·exact Qi0 ho h
 ·rename_i c
  obtain ⟨cal, args, ts⟩ := c
  simp only at h
  split at h
  ·split at h
   ·rename_i x hl
    have := Q1w (c := ⟨.builtin .len, args, ts⟩) hl
    simp only at this
    subst this
    exact Qlm ho h
   ·cases h
  ·split at h
   ·rename_i x y hl
    have := Q1w (c := ⟨.builtin .len, args, ts⟩) hl
    simp only at this
    subst this
    cases hb : Q30 P ts with
    | false =>
     simp only [hb, cond_false] at h
     exact Qhu ho h
    | true =>
     simp only [hb, cond_true] at h
     exact Qgb ho hb h
   ·cases h
  ·exact Qcz ho h
  ·exact Qcz ho h
  ·cases h
 ·cases h
end
end Go.Xl
set_option linter.unusedVariables false
set_option linter.unusedSimpArgs false
namespace Go.Xl
open Go.Ab
section
variable {P : Program}
def findB {kt vt : Ty} (b : Nat) : Ents kt vt → Option (Nat × kt.T × vt.T)
 | [] => none
 | e :: r => cond (Nat.beq e.1 b) (some e) (findB b r)
theorem Qcb {kt vt : Ty} {b : Nat} {e : Nat × kt.T × vt.T} : ∀ {l : Ents kt vt}, findB b l = some e → e.1 = b ∧ ∃ i : Nat, l[i]? = some e
 | [], h => by simp [findB] at h
 | x :: r, h => by
  simp only [findB] at h
  cases hb : Nat.beq x.1 b with
  | true =>
   simp only [hb, cond_true, Option.some.injEq] at h
   subst h
   exact ⟨Nat.eq_of_beq_eq_true hb, 0, rfl⟩
  | false =>
   simp only [hb, cond_false] at h
   obtain ⟨h1, i, h2⟩ := Qcb h
   exact ⟨h1, i + 1, by simpa using h2⟩
def lastN : List Nat → Option (List Nat × Nat)
 | [] => none
 | [b] => some ([], b)
 | a :: r => match lastN r with
  | some (p, b) => some (a :: p, b)
  | none => none
theorem Qf2 : ∀ {l p : List Nat} {b : Nat}, lastN l = some (p, b) → l = p ++ [b]
 | [], p, b, h => by simp [lastN] at h
 | [x], p, b, h => by
  simp only [lastN, Option.some.injEq, Prod.mk.injEq] at h
  obtain ⟨rfl, rfl⟩ := h; rfl
 | a :: c :: r, p, b, h => by
  simp only [lastN] at h
  split at h
  ·rename_i p' b' h'
   simp only [Option.some.injEq, Prod.mk.injEq] at h
   obtain ⟨rfl, rfl⟩ := h
   have := Qf2 (l := c :: r) h'
   rw [this]; rfl
  ·cases h
theorem Qi9 {w : World} {m it : Nat} {es : Array MapEntry} {clock since : Nat} {seen : List Nat} {e : MapEntry} (hm : w.heap[m]? = some (.map es clock)) (hi : w.heap[it]? = some (.mapIter (some m) since (seen ++ [e.born]).toArray clock)) (he : e ∈ es) (hnd : (es.toList.map (·.born)).Nodup) :
  (Instr.entry (.pointer (some ⟨it, 0, none⟩))).run P w = .ok (.tuple #[e.key, e.val]) w := by
 have hg := Q2s (P := P) hi
 have hgm := MapKept.run_getObj_map (P := P) hm
 have hf : es.find? (fun x => x.born == e.born) = some e := by
  rw [← Array.find?_toList]
  have : ∀ l : List MapEntry, (l.map (·.born)).Nodup → e ∈ l → l.find? (fun x => x.born == e.born) = some e := by
   intro l
   induction l with
   | nil => intro _ h; simp at h
   | cons x r ih =>
    intro hn hm
    simp only [List.map_cons, List.nodup_cons] at hn
    rw [List.find?_cons]
    rcases List.mem_cons.1 hm with rfl | hm
    ·simp
    ·have hne : (x.born == e.born) = false := by
      simp only [beq_eq_false_iff_ne]
      intro hx
      exact hn.1 (hx ▸ List.mem_map_of_mem (f := (·.born)) hm)
     rw [hne]; exact ih hn.2 hm
  exact this _ hnd (by simpa using he)
 simp only [Instr.entry, Sem.run_bind, hg, Result.andThen_ok]
 simp [hf, hgm, Result.andThen]
theorem Qdy {o : Oper} {X : Store} {kt vt : Ty} {x : Operand} {m k since clock : Nat} {seen : List Nat} {es : Ents kt vt} {e : Nat × kt.T × vt.T} {i : Nat} (ho : o.op = .entry x) (hkey : kt.key = true)
  (hm : X.objs.lookup m = some (.mit k since (seen ++ [e.1]).toArray clock)) (hk : X.objs.lookup k = some (mapO kt vt es clock)) (he : es[i]? = some e) :
  OpT P o [(x, .ptr m 0)] X X [] (.tup [.d (kt.dv e.2.1), .d (vt.dv e.2.2)]) :=
 .quiet fun _ _ g w ac hr hrd => by
  have e1 := (rd0 hrd).ptr_inv
  simp only at e1
  have hb := Q89 (hr.objs m _ hm)
  obtain ⟨asq, hw⟩ := Q34 hkey (hr.objs k _ hk)
  have hi : i < asq.size := by
   have := (List.getElem?_eq_some_iff.1 he).1
   rw [hw.len] at this; exact this
  obtain ⟨q1, q2, q3⟩ := hw.at' i e asq[i] he (by simp [hi])
  have hnd : (asq.toList.map (·.born)).Nodup := by
   have : asq.toList.map (·.born) = es.map (·.1) := by
    apply List.ext_getElem?
    intro j
    simp only [List.getElem?_map]
    cases h1 : es[j]? with
    | none =>
     have : asq.size ≤ j := by
      have := List.getElem?_eq_none_iff.1 h1
      rw [hw.len] at this; exact this
     rw [List.getElem?_eq_none (by simpa using this)]; rfl
    | some y =>
     have hj : j < asq.size := by
      have := (List.getElem?_eq_some_iff.1 h1).1
      rw [hw.len] at this; exact this
     have := (hw.at' j y asq[j] h1 (by simp [hj])).1
     simp [hj, this]
   rw [this]; exact hw.nodup
  refine ⟨.tuple #[asq[i].key, asq[i].val], ?_, ?_⟩
  ·have := Qi9 (P := P) (e := asq[i]) (seen := seen) hw.heap (by rw [q1]; exact hb) (Array.getElem_mem hi) hnd
   simp only [execOp, ho, e1, this, Sem.run_bind, Result.andThen_ok, Sem.run_pure]
  ·refine .tup _ _ rfl fun i c u hc hu => ?_
   rcases i with _ | _ | i
   ·simp at hc hu; subst hc; subst hu
    refine .d _ _ ?_
    rw [q2]; exact kt.kval_rd _ hkey
   ·simp at hc hu; subst hc; subst hu; exact .d _ _ q3
   ·simp at hc
def Qg2 (st : XSt) (x : Operand) : Option Out :=
 match xeval st x with
 | some (.nm m (.p 0)) => match lk m st.objs with
  | some (.mit k since seen last) => match lk k st.objs, lastN seen with
   | some (.map kt vt es clock), some (p, b) => cond kt.key (cond (Nat.beq clock last) (match findB b es with
    | some e => some ⟨.look [m, k], .tup [.d (kt.xv e.2.1), .d (vt.xv e.2.2)], [(x, .nm m (.p 0))], st.objs, st.live, [], []⟩
    | none => none) none) none
   | _, _ => none
  | _ => none
 | _ => none
theorem Qjw {o : Oper} {st : XSt} {x : Operand} {out : Out} (ho : o.op = .entry x) (h : Qg2 st x = some out) : OpOk P o st out := by
 unfold Qg2 at h
 split at h
 rotate_left
 ·cases h
 rename_i m hx
 split at h
 rotate_left
 ·cases h
 rename_i k since seen last hm
 split at h
 rotate_left
 ·cases h
 rename_i kt vt es clock p b hk hl
 obtain ⟨hkey, h1⟩ := c2 h
 clear h
 obtain ⟨hcl, h⟩ := c2 h1
 clear h1
 replace hcl := Nat.eq_of_beq_eq_true hcl
 subst hcl
 cases he : findB b es with
 | none => rw [he] at h; cases h
 | some e =>
 rw [he] at h
 simp only [Option.some.injEq] at h
 subst h
 obtain ⟨e1, i, e2⟩ := Qcb he
 have hs := Qf2 hl
 rw [← e1] at hs
 refine ⟨Qa hx, ⟨rfl, rfl, rfl, fun X hX => ?_⟩, fun _ _ _ h => h⟩
 refine Qdy (k := k) (i := i) (seen := p) (since := since) (clock := clock) (es := es) ho hkey ?_ ?_ e2
 ·rw [← hs]
  exact (hX m (by simp)).trans (Q2b hm)
 ·exact (hX k (by simp)).trans (Q87 hk)
end
end Go.Xl
set_option linter.unusedVariables false
set_option linter.unusedSimpArgs false
set_option linter.unnecessarySimpa false
namespace Go.Xl
open Go.Ab
def reD (o : Oper) (d : Nat) : Oper := { o with dst := some d }
theorem Qil (ρ : Operand → Value) (o : Oper) (d : Nat) : execOp ρ (reD o d) = execOp ρ o := by
 cases o; rfl
theorem Q4l {P : Program} {o : Oper} {d d' : Nat} {rd : List (Operand × AV)} {X X' : Store} {F : List Nat} {res : AV} (hd : o.dst = some d) (h : OpT P (reD o d') rd X X' F res) : OpT P o rd X X' F res := by
 intro nm hsm B g w a hr hrd next Q hn
 have hev : ∀ x, Act.eval { a with tmps := a.tmps ++ Array.replicate (d' + 1) undef } x = a.eval x := by
  intro x
  cases x with
  | tmp t =>
   show (a.tmps ++ Array.replicate (d' + 1) undef).getD t undef = a.tmps.getD t undef
   simp only [Array.getD_eq_getD_getElem?, Array.getElem?_append]
   split
   ·rfl
   ·rename_i hlt
    rw [Array.getElem?_eq_none (by omega : a.tmps.size ≤ t), Array.getElem?_replicate]
    split <;> rfl
  | _ => rfl
 have hput : ∀ v, ((Act.put { a with tmps := a.tmps ++ Array.replicate (d' + 1) undef } (some d') v).tmps.getD d' undef) = v := by
  intro v
  simp only [Act.put, Array.getD_eq_getD_getElem?]
  rw [Array.getElem?_setIfInBounds_self_of_lt (by simp; omega)]
  rfl
 have h1 := h nm hsm B g w { a with tmps := a.tmps ++ Array.replicate (d' + 1) undef } hr (fun p hp => by rw [hev]; exact hrd p hp)
  (fun b w' => next ({ a with defers := b.defers }.put (some d) (b.tmps.getD d' undef)) w') (fun e _ w' => Q e a w') (by
   intro g' w' v h2 h3 h4
   have := hn g' w' v h2 h3 h4
   rw [hd] at this
   simp only [reD, hput]
   exact this)
 unfold Oper.wp at h1 ⊢
 have e : execOp (Act.eval { a with tmps := a.tmps ++ Array.replicate (d' + 1) undef }) (reD o d') = execOp a.eval o := by
  rw [Qil]; congr 1; exact funext hev
 rw [e] at h1
 generalize (execOp a.eval o).run P w = r at h1
 cases r with
 | ok n w' =>
  cases n with
  | value v =>
   rw [Oper.upon_value] at h1 ⊢
   simp only [reD, hput] at h1
   rw [hd]; exact h1
  | skip =>
   rw [Oper.upon_skip] at h1 ⊢
   simp only [reD, hput] at h1
   rw [hd]; exact h1
  | defer dd =>
   rw [Oper.upon_defer] at h1 ⊢
   simp only [reD] at h1
   rw [hd]
   have e2 : ((Act.put { a with tmps := a.tmps ++ Array.replicate (d' + 1) undef, defers := dd :: a.defers } (some d') undef).tmps.getD d' undef) = undef := hput undef
   rw [e2] at h1
   exact h1
  | enter f args =>
   rw [Oper.upon_enter] at h1 ⊢
   refine h1.mono ?_
   intro en w'' h2
   cases en with
   | returned v =>
    simp only [reD, hput] at h2
    simp only [hd]; exact h2
   | panicked chain => exact h2
   | outgrown => obtain ⟨_, w3, h3⟩ := h2; exact ⟨a, w3, h3⟩
  | row row args =>
   rw [Oper.upon_row] at h1 ⊢
   refine h1.mono ?_
   intro v w'' h2
   simp only [reD, hput] at h2
   rw [hd]; exact h2
  | _ => exact h1
 | halt hh w' =>
  cases hh with
  | panic v => exact h1
  | _ => exact h1
theorem OpOk.re {P : Program} {o : Oper} {st : XSt} {out : Out} {d d' : Nat} (hd : o.dst = some d) (h : OpOk P (reD o d') st out) : OpOk P o st out := by
 refine ⟨h.sees, ?_, h.ol⟩
 have := h.op
 show match out.eff with | .none => _ | .look ks => _ | .put k c => _ | .all => _ | .lab => _ | .putl k c => _
 cases he : out.eff with
 | none => rw [he] at this; exact ⟨this.1, this.2.1, this.2.2.1, fun X => Q4l hd (this.2.2.2 X)⟩
 | look ks => rw [he] at this; exact ⟨this.1, this.2.1, this.2.2.1, fun X hX => Q4l hd (this.2.2.2 X hX)⟩
 | put k c => rw [he] at this; exact ⟨this.1, this.2.1, this.2.2.1, fun X hX => Q4l hd (this.2.2.2 X hX)⟩
 | all => rw [he] at this; exact Q4l hd this
 | lab => rw [he] at this; exact ⟨this.1, Q4l hd this.2⟩
 | putl k c => rw [he] at this; exact ⟨this.1, Q4l hd this.2⟩
def envP (F : List Nat) : List (Nat × XV) → List Nat → List (Nat × XV)
 | [], _ => []
 | p :: r, dead => cond (inl p.1 dead) (envP F r dead) (cond (Qs F p.2.a) (p :: envP F r (p.1 :: dead)) (envP F r (p.1 :: dead)))
theorem Q4k {F : List Nat} {t : Nat} {x : XV} : ∀ {env : List (Nat × XV)} {dead : List Nat}, lk t (envP F env dead) = some x → t ∉ dead ∧ lk t env = some x ∧ Qs F x.a = true
 | [], dead, h => by simp [envP, lk] at h
 | p :: r, dead, h => by
  simp only [envP] at h
  cases hd : inl p.1 dead with
  | true =>
   simp only [hd, cond_true] at h
   obtain ⟨h1, h2, h3⟩ := Q4k h
   have hne : t ≠ p.1 := by rintro rfl; exact h1 ((Qf _ _).1 hd)
   exact ⟨h1, by rw [Qc hne]; exact h2, h3⟩
  | false =>
   simp only [hd, cond_false] at h
   have hnd : p.1 ∉ dead := by intro hm; rw [(Qf _ _).2 hm] at hd; cases hd
   cases hf : Qs F p.2.a with
   | true =>
    simp only [hf, cond_true] at h
    by_cases he : t = p.1
    ·subst he
     simp only [lk, Nat.beq_refl, cond_true, Option.some.injEq] at h
     subst h
     exact ⟨hnd, by simp [lk], hf⟩
    ·rw [Qc he] at h
     obtain ⟨h1, h2, h3⟩ := Q4k h
     exact ⟨fun hm => h1 (List.mem_cons_of_mem _ hm), by rw [Qc he]; exact h2, h3⟩
   | false =>
    simp only [hf, cond_false] at h
    obtain ⟨h1, h2, h3⟩ := Q4k h
    have hne : t ≠ p.1 := by rintro rfl; exact h1 List.mem_cons_self
    exact ⟨fun hm => h1 (List.mem_cons_of_mem _ hm), by rw [Qc hne]; exact h2, h3⟩
def Out.stU (out : Out) (o : Oper) (st : XSt) : XSt :=
 match out.F with
 | [] => out.st o st
 | k :: F => ⟨putX o.dst out.res (envP (k :: F) st.env []), out.objs, out.live, logW o.dst st.wl, out.ol ++ st.ol⟩
theorem SR.putF {S : Sig} {B : Base} {F : List Nat} {g g' : Gh} {w w' : World} {st : St} {a : Act} (h : SR S B g w st a) (ht : Trans F g w g' w') (hF : ∀ t x, st.env.lookup t = some x → Qs F x = true)
  {X' : Store} (hX : HR S.names B g' w' X') {dst : Option Tmp} (hd : dstOk S.N dst = true) {x : AV} {v : Value} (hv : RA g' w' x v) : SR S B g' w' ⟨Qd dst x st.env, X'⟩ (a.put dst v) := by
 cases dst with
 | none =>
  refine ⟨h.defers, h.size, hX, ?_⟩
  intro t y hy
  obtain ⟨u, hu, hr⟩ := h.env t y hy
  exact ⟨u, hu, hr.mono ht (Q1j (hF t y hy))⟩
 | some d =>
  have hdlt : d < S.N ∧ d < GB := by simpa [dstOk] using hd
  refine ⟨h.defers, by simp [Act.put, h.size], hX, ?_⟩
  intro t y hy
  simp only [Qd, List.lookup_cons] at hy
  by_cases he : t = d
  ·subst he
   simp at hy
   subst hy
   exact ⟨v, Q6x (h.size ▸ hdlt.1) hdlt.2, hv⟩
  ·have hb : (t == d) = false := by simpa using he
   rw [hb] at hy
   obtain ⟨u, hu, hr⟩ := h.env t y hy
   exact ⟨u, (Q8c he).trans hu, hr.mono ht (Q1j (hF t y hy))⟩
section
variable {P : Program}
theorem Rw.opF {S : Sig} {ops : Array Oper} {i : Nat} {rest : List Nat} {K : St → Prop} {o : Oper} {st : XSt} {out : Out} (ho : ops[i]? = some o) (hg : Guard ops st.im o.guard true) (ht : OpOk P o st out) (hd : dstOk S.N o.dst = true)
  (h : Rw P S ops rest (out.stU o st).im K) : Rw P S ops (i :: rest) st.im K := by
 unfold Out.stU at h
 split at h
 ·rename_i hF
  rw [Out.st_im] at h
  exact Rw.opg ho hg ht.opT (Q22 ht.sees) (by rw [hF]; rfl) hd h
 ·rename_i k F hF
  intro B g w a Q hsr hq
  unfold wpOps
  simp only [ho, hg.wanted hsr, if_true]
  have hop := ht.opT
  rw [hF] at hop
  refine .inl (hop S.names S.small B g w a hsr.hr (fun p hp => (ht.sees p hp).ra hsr) _ Q ?_)
  intro g' w' v hX htr hv
  have hsub : ∀ t x, (imEnv (envP (k :: F) st.env [])).lookup t = some x → st.im.env.lookup t = some x ∧ Qs (k :: F) x = true := by
   intro t x hx
   rw [Q3y, Option.map_eq_some_iff] at hx
   obtain ⟨y, hy, rfl⟩ := hx
   obtain ⟨_, h2, h3⟩ := Q4k hy
   exact ⟨by show (imEnv st.env).lookup t = _; rw [Q3y, h2]; rfl, h3⟩
  have hs' : SR S B g w ⟨imEnv (envP (k :: F) st.env []), st.im.X⟩ a := ⟨hsr.defers, hsr.size, hsr.hr, fun t x hx => hsr.env t x (hsub t x hx).1⟩
  have := Go.Xl.SR.putF hs' htr (fun t x hx => (hsub t x hx).2) hX hd hv
  have e : (⟨putX o.dst out.res (envP (k :: F) st.env []), out.objs, out.live, logW o.dst st.wl, out.ol ++ st.ol⟩ : XSt).im = ⟨Qd o.dst out.res.a (imEnv (envP (k :: F) st.env [])), out.X⟩ := by
   simp only [XSt.im, XSt.X, Qfy, Out.X]
  rw [e] at h
  exact h B g' w' _ Q this hq
theorem Inv.opU {s0 st : XSt} {o : Oper} {out : Out} (h : Inv s0 st) (hok : OpOk P o st out) : Inv s0 (out.stU o st) := by
 unfold Out.stU
 split
 ·exact h.op hok
 ·refine ⟨fun t x ht hx => ?_, fun k x hk hx => ?_⟩
  ·cases hd : o.dst with
   | none =>
    rw [hd] at ht hx
    exact h.env t x ht (Q4k hx).2.1
   | some d =>
    rw [hd] at ht hx
    simp only [logW, List.mem_cons, not_or] at ht
    simp only [putX] at hx
    rw [Qc ht.1] at hx
    exact h.env t x ht.2 (Q4k hx).2.1
  ·simp only [List.mem_append, not_or] at hk hx
   exact h.objs k x hk.2 (hok.ol k x hk.1 hx)
end
def Q8k (st : XSt) (x : Operand) : Option Out :=
 match xeval st x with
 | some (.nm m (.p 0)) => match lk m st.objs with
  | some (.mit k since seen last) => match lk k st.objs with
   | some (.map kt vt es clock) => cond kt.key (cond (oldB since last es)
     (match unseen seen es with
      | [] => some ⟨.look [m, k], .tup [.d (.b false)], [(x, .nm m (.p 0))], st.objs, st.live, [], []⟩
      | [e] => some (nextO st x m k since clock seen kt vt e)
      | _ => none) none) none
   | _ => none
  | some .mitn => some ⟨.look [m], .tup [.d (.b false)], [(x, .nm m (.p 0))], st.objs, st.live, [], []⟩
  | _ => none
 | _ => none
theorem Qlj {st : XSt} {x : Operand} {out : Out} (h : Q8k st x = some out) : Qb1 st x some = some out := by
 unfold Q8k at h
 unfold Qb1
 split at h
 ·rename_i m hx
  rw [hx]
  simp only
  split at h
  ·rename_i k since seen last hm
   rw [hm]
   simp only
   split at h
   ·rename_i kt vt es clock hk
    rw [hk]
    simp only
    cases hkey : kt.key with
    | false => simp [hkey] at h
    | true =>
    cases hold : oldB since last es with
    | false => simp [hkey, hold] at h
    | true =>
     simp only [hkey, hold, cond_true] at h ⊢
     split at h
     ·rename_i hu
      rw [hu, Qis]; exact h
     ·rename_i e hu
      rw [hu]
      exact Ql8 (by simp) (by simpa using h)
     ·cases h
   ·cases h
  ·rename_i hm
   rw [hm]
   exact h
  ·cases h
 ·cases h
section
variable (P : Program) (Γ : List (Ent P)) (own : List Nat) (nt : Nat)
def seedD (st : XSt) (d : Nat) : Nat := 10000000 + 4000 * st.wl.length + d
noncomputable def stepU (draw : Bool) (o : Oper) (st : XSt) : Option Out :=
 match o.op with
 | .next x false => cond draw none (Q8k st x)
 | .entry x => Qg2 st x
 | _ => match o.dst with
  | some d => orE (xop P Γ (cond (inl d own) [seedD st d] []) (reD o (seedD st d)) st some) (xopN P (reD o (seedD st d)) st)
  | none => orE (xop P Γ [] o st some) (xopN P o st)
def Qfc (ops : Array Oper) (o : Oper) (st : XSt) : Option Bool :=
 match o.guard with
 | none => some true
 | some (j, want) => match Qcx ops j with
  | none => none
  | some d => match lk d st.env with
   | some (.d (.b b)) => some (b == want)
   | some v => cond (Q8q v) (some false) none
   | none => none
noncomputable def xopsU (ops : Array Oper) (draw : Bool) (env0 : List (Nat × XV)) : List Oper → List It → XSt → Option XSt
 | [], its, st => cond draw (cond (Q4z ops (imEnv env0) its) (some st) none) (some st)
 | o :: rest, its, st => cond (dstOk nt o.dst) (match Qfc ops o st with
  | some true => match stepU P Γ own draw o st with
   | some out => xopsU ops draw env0 rest (its ++ [out.it o]) (cond draw (out.st o st) (out.stU o st))
   | none => none
  | some false => xopsU ops draw env0 rest (its ++ [Qmi o]) (Qal o st)
  | none => none) none
def loopU (f : XSt → Option (Exit × XSt)) : Nat → XSt → Option (Exit × XSt)
 | 0, _ => none
 | n + 1, st => match f st with
  | some (.normal, s) => loopU f n s
  | r => r
noncomputable def execU (N : Nat) : Code → XSt → Option (Exit × XSt)
 | .skip, st => some (.normal, st)
 | .label _, st => some (.normal, st)
 | .exit id, st => some (.exit id, st)
 | .ret, st => some (.ret, st)
 | .region _ ops draw, st => match xopsU P Γ own nt ops draw st.env ops.toList [] st with
  | some s => some (.normal, s)
  | none => none
 | .seq a b, st => match execU N a st with
  | some (.normal, s) => execU N b s
  | r => r
 | .cond c a b, st => match xeval st c with
  | some (.d (.b v)) => cond v (execU N a st) (execU N b st)
  | _ => none
 | .block id c, st => match execU N c st with
  | some (.exit j, s) => cond (Qjo j id) (some (.normal, s)) (some (.exit j, s))
  | r => r
 | .loop b, st => loopU (execU N b) N st
 | _, _ => none
end
theorem Ql9 {st : XSt} {x : Operand} {out : Out} (h : Q8k st x = some out) : out.F = [] ∧ ∀ k y, k ∉ out.ol → lk k out.objs = some y → lk k st.objs = some y := by
 unfold Q8k at h
 split at h
 ·rename_i m hx
  split at h
  ·rename_i k since seen last hm
   split at h
   ·rename_i kt vt es clock hk
    cases hkey : kt.key with
    | false => simp [hkey] at h
    | true =>
    cases hold : oldB since last es with
    | false => simp [hkey, hold] at h
    | true =>
     simp only [hkey, hold, cond_true] at h
     split at h
     ·cases h; exact ⟨rfl, fun _ _ _ h => h⟩
     ·cases h
      refine ⟨rfl, fun j z hj hz => ?_⟩
      simp only [nextO, List.mem_cons, List.not_mem_nil, or_false] at hj hz
      rwa [Q1l _ _ _ _ hj] at hz
     ·cases h
   ·cases h
  ·cases h; exact ⟨rfl, fun _ _ _ h => h⟩
  ·cases h
 ·cases h
section
variable {P : Program} {Γ : List (Ent P)} {own : List Nat}
theorem Qfp {draw : Bool} {o : Oper} {st : XSt} {out : Out} (h : stepU P Γ own draw o st = some out) : OpOk P o st out ∨ (draw = false ∧ ∃ rd, DemOk P o st rd [out]) := by
 unfold stepU at h
 split at h
 ·rename_i x ho
  cases draw with
  | true => cases h
  | false =>
   simp only [cond_false] at h
   rcases Qjc (P := P) ho (Qlj h) with ⟨out', h1, h2⟩ | ⟨rd, outs, h1, h2⟩
   ·cases h1; exact .inl h2
   ·right
    obtain ⟨f1, f2⟩ := Ql9 h
    have hall : ∀ o' ∈ outs, o' = out := fun o' ho' => by have := h1 o' ho'; simpa using this
    refine ⟨rfl, rd, h2.sees, ?_, ?_, ?_⟩
    ·intro o' ho'
     simp only [List.mem_singleton] at ho'
     subst ho'; exact f1
    ·intro nm hsm B g w a hr hrd next Q hn
     refine h2.op nm hsm B g w a hr hrd next Q fun p hp g' w' v a1 a2 a3 => ?_
     obtain ⟨o', ho', rfl⟩ := List.mem_map.1 hp
     rw [hall o' ho'] at a1 a3
     exact hn _ (by simp) g' w' v a1 a2 a3
    ·intro o' ho'
     simp only [List.mem_singleton] at ho'
     subst ho'; exact f2
 ·rename_i x ho
  exact .inl (Qjw ho h)
 ·split at h
  ·rename_i d hd
   rcases Qb6 h with h | h
   ·obtain ⟨out', h1, h2⟩ := Qk8 P Γ _ h
    cases h1
    exact .inl (h2.re hd)
   ·exact .inl ((Qh0 h).re hd)
  ·rcases Qb6 h with h | h
   ·obtain ⟨out', h1, h2⟩ := Qk8 P Γ _ h
    cases h1
    exact .inl h2
   ·exact .inl (Qh0 h)
theorem Q3z {ops : Array Oper} {o : Oper} {st : XSt} {b : Bool} (h : Qfc ops o st = some b) : Guard ops st.im o.guard b := by
 unfold Qfc at h
 split at h
 ·rename_i hg
  cases h; rw [hg]; exact .none
 ·rename_i j want hg
  rw [hg]
  unfold Qcx at h
  split at h
  ·cases h
  ·rename_i d hgs
   split at hgs
   ·rename_i oj hoj
    split at h
    ·rename_i b' hb
     cases h
     exact .some j d oj want b' hoj hgs (Q5t hb)
    ·rename_i v hv hlk
     cases hu : Q8q v with
     | false => simp [hu] at h
     | true =>
      simp only [hu, cond_true, Option.some.injEq] at h
      subst h
      have := Q5t hlk
      rw [Qhn hu] at this
      exact .undef j d oj want hoj hgs this
    ·cases h
   ·cases hgs
theorem Q6c {S : Sig} {ops : Array Oper} {env0 : List (Nat × XV)} {s0 s : XSt} : ∀ (l : List Oper) (i : Nat) (its : List It) (st : XSt), (∀ (j : Nat) o, l[j]? = some o → ops[i + j]? = some o) →
  Inv s0 st → xopsU P Γ own S.N ops false env0 l its st = some s → Rw P S ops (List.range' i l.length) st.im (fun s' => s' = s.im ∧ Inv s0 s)
 | [], i, its, st, hl, hi, h => by
  simp only [xopsU, cond_false, Option.some.injEq] at h
  subst h
  exact Rw.done ⟨rfl, hi⟩
 | o :: rest, i, its, st, hl, hi, h => by
  have ho : ops[i]? = some o := hl 0 o rfl
  have hrest : ∀ (j : Nat) o, rest[j]? = some o → ops[i + 1 + j]? = some o := by
   intro j o' hj
   have := hl (j + 1) o' (by simpa using hj)
   rw [show i + 1 + j = i + (j + 1) by omega]; exact this
  simp only [xopsU] at h
  cases hd : dstOk S.N o.dst with
  | false => simp [hd] at h
  | true =>
   simp only [hd, cond_true] at h
   simp only [List.length_cons, List.range'_succ]
   split at h
   ·rename_i hg
    split at h
    ·rename_i out hout
     simp only [cond_false] at h
     rcases Qfp hout with hok | ⟨_, rd, hok⟩
     ·exact Rw.opF ho (Q3z hg) hok hd (Q6c rest (i + 1) _ _ hrest (hi.opU hok) h)
     ·have hF := hok.F out (by simp)
      have e : out.stU o st = out.st o st := by unfold Out.stU; rw [hF]
      rw [e] at h
      refine Rw.demon ho (Q3z hg) hok.op (Q22 hok.sees) hd ?_
      intro p hp
      simp only [List.map_cons, List.map_nil, List.mem_singleton] at hp
      subst hp
      show Rw P S ops _ ⟨Qd o.dst out.res.a st.im.env, out.X⟩ _
      rw [← Out.st_im]
      exact Q6c rest (i + 1) _ _ hrest (hi.dem (fun k x => hok.ol out (by simp) k x)) h
    ·cases h
   ·rename_i hg
    refine Rw.skip ho (Q3z hg) hd ?_
    have := Q6c rest (i + 1) _ _ hrest hi.skip h
    rw [Qck] at this
    exact this
   ·cases h
theorem Q9u {S : Sig} {ops : Array Oper} {env0 : List (Nat × XV)} {s0 s : XSt} {K : St → Prop} (hK : Inv s0 s → K s.im) : ∀ (l : List Oper) (i : Nat) (its : List It) (st : XSt), (∀ (j : Nat) o, l[j]? = some o → ops[i + j]? = some o) →
  Inv s0 st → xopsU P Γ own S.N ops true env0 l its st = some s → Dw P S ops i l.length st.im its (imEnv env0) K
 | [], i, its, st, hl, hi, h => by
  simp only [xopsU, cond_true] at h
  cases hd : Q4z ops (imEnv env0) its with
  | false => simp [hd] at h
  | true =>
   simp only [hd, cond_true, Option.some.injEq] at h
   subst h
   exact Dw.fin hd (hK hi)
 | o :: rest, i, its, st, hl, hi, h => by
  have ho : ops[i]? = some o := hl 0 o rfl
  have hrest : ∀ (j : Nat) o, rest[j]? = some o → ops[i + 1 + j]? = some o := by
   intro j o' hj
   have := hl (j + 1) o' (by simpa using hj)
   rw [show i + 1 + j = i + (j + 1) by omega]; exact this
  simp only [xopsU] at h
  cases hd : dstOk S.N o.dst with
  | false => simp [hd] at h
  | true =>
   simp only [hd, cond_true] at h
   simp only [List.length_cons]
   split at h
   ·rename_i hg
    split at h
    ·rename_i out hout
     have hok : OpOk P o st out := by
      rcases Qfp hout with hok | ⟨hf, _⟩
      ·exact hok
      ·cases hf
     replace hg := Q3z hg
     have ih := Q9u hK rest (i + 1) _ _ hrest (hi.op hok) h
     rw [Out.st_im] at ih
     have hop := hok.op
     split at hop
     ·rename_i he
      obtain ⟨a1, a2, a3, a4⟩ := hop
      refine Dw.op ho hg a4 (Q22 hok.sees) hd ?_
      have e : out.it o = ⟨o, true, imRd out.rd, .none, [], out.res.a⟩ := by simp only [Out.it, he, XEff.e, a3]
      rw [e] at ih
      have e2 : out.X = st.im.X := by simp only [Out.X, XSt.im, XSt.X, a1, a2]
      rw [e2] at ih
      exact ih
     ·rename_i ks he
      obtain ⟨a1, a2, a3, a4⟩ := hop
      refine Dw.look (ks := ks) ho hg a4 (Q22 hok.sees) hd ?_
      have e : out.it o = ⟨o, true, imRd out.rd, .look ks, [], out.res.a⟩ := by simp only [Out.it, he, XEff.e, a3]
      rw [e] at ih
      have e2 : out.X = st.im.X := by simp only [Out.X, XSt.im, XSt.X, a1, a2]
      rw [e2] at ih
      exact ih
     ·rename_i k c he
      obtain ⟨a1, a2, a3, a4⟩ := hop
      refine Dw.put (k := k) (c := c.o) ho hg a4 (Q22 hok.sees) hd ?_
      have e : out.it o = ⟨o, true, imRd out.rd, .put k c.o, [], out.res.a⟩ := by simp only [Out.it, he, XEff.e, a3]
      rw [e] at ih
      have e2 : out.X = ⟨Ab.setObj k c.o st.im.X.objs, st.im.X.live⟩ := by simp only [Out.X, XSt.im, XSt.X, a1, a2, Q2p]
      rw [e2] at ih
      exact ih
     ·rename_i he
      refine Dw.eff ho hg hop (Q22 hok.sees) hd ?_
      have e : out.it o = ⟨o, true, imRd out.rd, .all out.X, out.F, out.res.a⟩ := by simp only [Out.it, he, XEff.e]
      rw [e] at ih
      exact ih
     ·rename_i he
      obtain ⟨a1, a4⟩ := hop
      have e2 : out.X = ⟨st.im.X.objs, out.live⟩ := by simp only [Out.X, XSt.im, XSt.X, a1]
      rw [e2] at a4 ih
      refine Dw.lab (L := out.live) ho hg a4 (Q22 hok.sees) hd ?_
      have e : out.it o = ⟨o, true, imRd out.rd, .lab out.live, out.F, out.res.a⟩ := by simp only [Out.it, he, XEff.e, Out.X]
      rw [e] at ih
      exact ih
     ·rename_i k c he
      obtain ⟨a1, a4⟩ := hop
      have e2 : out.X = ⟨Ab.setObj k c.o st.im.X.objs, out.live⟩ := by simp only [Out.X, XSt.im, XSt.X, a1, Q2p]
      rw [e2] at a4 ih
      refine Dw.putl (L := out.live) ho hg a4 (Q22 hok.sees) hd ?_
      have e : out.it o = ⟨o, true, imRd out.rd, .putl k c.o out.live, out.F, out.res.a⟩ := by simp only [Out.it, he, XEff.e, Out.X]
      rw [e] at ih
      exact ih
    ·cases h
   ·rename_i hg
    refine Dw.skip ho (Q3z hg) hd ?_
    have := Q9u hK rest (i + 1) _ _ hrest hi.skip h
    rw [Qck] at this
    exact this
   ·cases h
theorem Qg8 (hm : P.follows .mixedOrders = true) {S : Sig} {N : Nat} : ∀ (c : Code) (st s0 s : XSt) (e : Exit), Inv s0 st → execU P Γ own S.N N c st = some (e, s) →
  AWp P S c (fun e' s' => e' = e ∧ s' = s.im ∧ Inv s0 s) st.im := by
 intro c
 induction c with
 | skip => intro st s0 s e hi h; simp only [execU, Option.some.injEq, Prod.mk.injEq] at h; obtain ⟨rfl, rfl⟩ := h; exact Qle ⟨rfl, rfl, hi⟩
 | label l => intro st s0 s e hi h; simp only [execU, Option.some.injEq, Prod.mk.injEq] at h; obtain ⟨rfl, rfl⟩ := h; exact Qix ⟨rfl, rfl, hi⟩
 | exit id => intro st s0 s e hi h; simp only [execU, Option.some.injEq, Prod.mk.injEq] at h; obtain ⟨rfl, rfl⟩ := h; exact Qku ⟨rfl, rfl, hi⟩
 | ret => intro st s0 s e hi h; simp only [execU, Option.some.injEq, Prod.mk.injEq] at h; obtain ⟨rfl, rfl⟩ := h; exact Qm2 ⟨rfl, rfl, hi⟩
 | region id ops draw =>
  intro st s0 s e hi h
  simp only [execU] at h
  split at h
  ·rename_i s' hs
   simp only [Option.some.injEq, Prod.mk.injEq] at h
   obtain ⟨rfl, rfl⟩ := h
   cases draw with
   | false =>
    have := Q6c (S := S) ops.toList 0 [] st (Qao ops) hi hs
    refine Qmf (n := ops.toList.length) (by simp) ?_
    rw [List.range_eq_range']
    intro B g w a Q h1 h2
    exact this B g w a Q h1 fun g' w' a' st' hk => h2 g' w' a' st' ⟨rfl, hk.1, hk.2⟩
   | true =>
    have := Q9u (S := S) (K := fun s'' => Exit.normal = Exit.normal ∧ s'' = s'.im ∧ Inv s0 s') (fun hi => ⟨rfl, rfl, hi⟩) ops.toList 0 [] st (Qao ops) hi hs
    exact Qmc (Q := fun e s'' => e = .normal ∧ s'' = s'.im ∧ Inv s0 s') ops.toList.length hm this
  ·cases h
 | seq a b iha ihb =>
  intro st s0 s e hi h
  simp only [execU] at h
  split at h
  ·rename_i s1 h1
   refine Qhf (Q3a (iha st s0 s1 .normal hi h1) ?_)
   rintro e' s' ⟨rfl, rfl, hi'⟩
   exact ihb s1 s0 s e hi' h
  ·rename_i hne
   refine Qhf (Q3a (iha st s0 s e hi h) ?_)
   rintro e' s' ⟨rfl, rfl, hi'⟩
   cases e' with
   | normal => exact absurd h (hne s)
   | _ => exact ⟨rfl, rfl, hi'⟩
 | cond c a b iha ihb =>
  intro st s0 s e hi h
  simp only [execU] at h
  split at h
  ·rename_i v hv
   refine Qkz (b := v) (Q6 hv) (fun hb => ?_) (fun hb => ?_)
   ·subst hb
    exact iha st s0 s e hi h
   ·subst hb
    exact ihb st s0 s e hi h
  ·cases h
 | block id c ih =>
  intro st s0 s e hi h
  simp only [execU] at h
  split at h
  ·rename_i j s1 h1
   refine Qce (Q3a (ih st s0 s1 (.exit j) hi h1) ?_)
   rintro e' s' ⟨rfl, rfl, hi'⟩
   simp only [Qjo] at h
   simp only [Qg3]
   cases hb : Nat.beq j id with
   | true =>
    simp only [hb, cond_true, Option.some.injEq, Prod.mk.injEq] at h
    obtain ⟨rfl, rfl⟩ := h
    rw [if_pos (Nat.eq_of_beq_eq_true hb)]
    exact ⟨rfl, rfl, hi'⟩
   | false =>
    simp only [hb, cond_false, Option.some.injEq, Prod.mk.injEq] at h
    obtain ⟨rfl, rfl⟩ := h
    rw [if_neg (Nat.ne_of_beq_eq_false hb)]
    exact ⟨rfl, rfl, hi'⟩
  ·rename_i hne
   refine Qce (Q3a (ih st s0 s e hi h) ?_)
   rintro e' s' ⟨rfl, rfl, hi'⟩
   cases e' with
   | exit j => exact absurd h (hne j s)
   | _ => exact ⟨rfl, rfl, hi'⟩
 | loop b ih =>
  intro st s0 s e hi h
  simp only [execU] at h
  refine Qlb (fun n s' => ∃ st', s' = st'.im ∧ Inv s0 st' ∧ loopU (execU P Γ own S.N N b) n st' = some (e, s)) N ⟨st, rfl, hi, h⟩ ?_
  rintro n s' ⟨st', rfl, hi', hn⟩
  cases n with
  | zero => simp [loopU] at hn
  | succ n =>
   simp only [loopU] at hn
   split at hn
   ·rename_i s1 h1
    refine Q3a (ih st' s0 s1 .normal hi' h1) ?_
    rintro e' s' ⟨rfl, rfl, hi1⟩
    exact ⟨n, Nat.lt_succ_self n, s1, rfl, hi1, hn⟩
   ·rename_i hne
    refine Q3a (ih st' s0 s e hi' hn) ?_
    rintro e' s' ⟨rfl, rfl, hi1⟩
    cases e' with
    | normal => exact absurd hn (hne s)
    | _ => exact ⟨rfl, rfl, hi1⟩
 | _ =>
  intros
  simp_all [execU]
end
end Go.Xl
set_option linter.unusedVariables false
set_option linter.unusedSimpArgs false
set_option linter.unnecessarySimpa false
namespace Go.Xl
open Go.Ab
mutual
def XV.ks : XV → List Nat → List Nat
 | .d _, acc => acc
 | .nm k _, acc => cond (inl k acc) acc (k :: acc)
 | .tip _ _ _ _, acc => acc
 | .tup l, acc => ksL l acc
 | .agg l, acc => ksL l acc
 | .clo _ l, acc => ksL l acc
 | .os k _ _ _, acc => cond (inl k acc) acc (k :: acc)
 | .el k _ _ _, acc => cond (inl k acc) acc (k :: acc)
 | .tpt _ _ _ _, acc => acc
def ksL : List XV → List Nat → List Nat
 | [], acc => acc
 | x :: r, acc => ksL r (x.ks acc)
end
mutual
def XV.ls (live : List Nat) : XV → List Nat → List Nat
 | .tip n _ _ _, acc => cond (inl n live) (cond (inl n acc) acc (n :: acc)) acc
 | .tup l, acc => lsL live l acc
 | .agg l, acc => lsL live l acc
 | .clo _ l, acc => lsL live l acc
 | _, acc => acc
def lsL (live : List Nat) : List XV → List Nat → List Nat
 | [], acc => acc
 | x :: r, acc => lsL live r (x.ls live acc)
end
def XOb.ks : XOb → List Nat → List Nat
 | .cells cs _, acc => ksL cs acc
 | .mit m _ _ _, acc => cond (inl m acc) acc (m :: acc)
 | _, acc => acc
def XOb.lbs (live : List Nat) : XOb → List Nat → List Nat
 | .cells cs _, acc => lsL live cs acc
 | _, acc => acc
def closU (objs : List (Nat × XOb)) : Nat → List Nat → List Nat → List Nat
 | 0, _, done => done
 | _ + 1, [], done => done
 | n + 1, k :: todo, done => cond (inl k done) (closU objs n todo done) (match lk k objs with
  | some o => closU objs n (o.ks todo) (k :: done)
  | none => closU objs n todo done)
mutual
def XV.rl (live : List Nat) (δ : Nat) : XV → XV
 | .d x => .d x
 | .nm k p => .nm k p
 | .tip n t l ty => cond (inl n live) (.tip (n + δ) t l ty) (.d (.sl t l))
 | .tup l => .tup (rlL live δ l)
 | .agg l => .agg (rlL live δ l)
 | .clo f l => .clo f (rlL live δ l)
 | .os k t a n => .os k t a n
 | .el k t a n => .el k t a n
 | .tpt n e x l => .d .pp
def rlL (live : List Nat) (δ : Nat) : List XV → List XV
 | [] => []
 | x :: r => x.rl live δ :: rlL live δ r
end
mutual
def XV.noTpt : XV → Bool
 | .tpt _ _ _ _ => false
 | .tup l => Q2k l
 | .agg l => Q2k l
 | .clo _ l => Q2k l
 | _ => true
def Q2k : List XV → Bool
 | [] => true
 | x :: r => cond x.noTpt (Q2k r) false
end
mutual
theorem XV.rl_ok {σ : Nat → Nat} (live : List Nat) (δ : Nat) (hσ : ∀ n, σ (n + δ) = n) : ∀ x : XV, x.noTpt = true → Rl σ x.a (x.rl live δ).a
 | .d x, _ => .d _
 | .nm k p, _ => .nm k p
 | .tip n t l ty, _ => by
  simp only [XV.rl]
  cases inl n live with
  | true =>
   have := Rl.tip (σ := σ) (n + δ) t.size (l.map t.ds) ty
   rw [hσ] at this
   exact this
  | false =>
   exact Rl.drop n t.size (l.map t.ds) ty
 | .tup l, h => by
  have := Q5x live δ hσ l (by simpa [XV.noTpt] using h)
  exact .tup _ _ this.1 this.2
 | .agg l, h => by
  have := Q5x live δ hσ l (by simpa [XV.noTpt] using h)
  exact .agg _ _ this.1 this.2
 | .clo f l, h => by
  have := Q5x live δ hσ l (by simpa [XV.noTpt] using h)
  exact .clo f _ _ this.1 this.2
 | .os k t a n, _ => .nm k _
 | .el k t a n, _ => .nm k _
 | .tpt n e x l, h => by simp [XV.noTpt] at h
theorem Q5x {σ : Nat → Nat} (live : List Nat) (δ : Nat) (hσ : ∀ n, σ (n + δ) = n) : ∀ l : List XV, Q2k l = true → (asOf l).length = (asOf (rlL live δ l)).length ∧ ∀ (i : Nat) x x', (asOf l)[i]? = some x → (asOf (rlL live δ l))[i]? = some x' → Rl σ x x'
 | [], _ => ⟨rfl, by simp [asOf]⟩
 | y :: r, h => by
  simp only [Q2k] at h
  cases hy : y.noTpt with
  | false => simp [hy] at h
  | true =>
   simp only [hy, cond_true] at h
   obtain ⟨h1, h2⟩ := Q5x live δ hσ r h
   refine ⟨by simp only [asOf, rlL, List.length_cons, h1], ?_⟩
   intro i x x' hx hx'
   cases i with
   | zero =>
    simp only [asOf, rlL, List.getElem?_cons_zero, Option.some.injEq] at hx hx'
    subst hx; subst hx'
    exact XV.rl_ok live δ hσ y hy
   | succ i =>
    simp only [asOf, rlL, List.getElem?_cons_succ] at hx hx'
    exact h2 i x x' hx hx'
end

def XOb.rl (live : List Nat) (δ : Nat) : XOb → XOb
 | .cells cs ty => .cells (rlL live δ cs) ty
 | o => o
def XOb.rlOk : XOb → Bool
 | .cells cs _ => Q2k cs
 | .mapt _ _ _ _ _ => false
 | _ => true
theorem Q59 {σ : Nat → Nat} (l : List D) (ty : Option TypeId) : RlOb σ (.cells (l.map .d) ty) (.cells (l.map .d) ty) := by
 refine .cells _ _ ty rfl fun i x x' hx hx' => ?_
 rw [hx] at hx'
 cases hx'
 rw [List.getElem?_map, Option.map_eq_some_iff] at hx
 obtain ⟨d, _, rfl⟩ := hx
 exact .d d
theorem XOb.rl_ok {σ : Nat → Nat} (live : List Nat) (δ : Nat) (hσ : ∀ n, σ (n + δ) = n) {o : XOb} (h : o.rlOk = true) : RlOb σ o.o (o.rl live δ).o := by
 cases o with
 | cells cs ty =>
  obtain ⟨h1, h2⟩ := Q5x live δ hσ cs h
  exact .cells _ _ ty h1 h2
 | arr t l => exact Q59 _ _
 | bts e l => exact Q59 _ _
 | sit s p => exact .sit _ _
 | map kt vt es c => exact .map _ _
 | mit m a b c => exact .mit _ _ _ _
 | mitn => exact .mitn
 | mapt => cases h
structure FI (P : Program) where
 id : FuncId
 fn : Func
 own : List Nat
 hf : P.funcs[id]? = some fn
 hc : CallI P id
def tmpsR : List ResultVar → List Nat
 | [] => []
 | .tmp t :: r => t :: tmpsR r
 | .cell _ _ :: r => tmpsR r
def Q7t (live : List Nat) (δ : Nat) (objs : List (Nat × XOb)) : List Nat → Option (List (Nat × XOb))
 | [] => some []
 | k :: r => match lk k objs, Q7t live δ objs r with
  | some o, some l => cond o.rlOk (some ((k, o.rl live δ) :: l)) none
  | _, _ => none
def lsOb (live : List Nat) : List (Nat × XOb) → List Nat → List Nat
 | [], acc => acc
 | p :: r, acc => lsOb live r (p.2.lbs live acc)
def plusL (δ : Nat) : List Nat → List Nat
 | [] => []
 | n :: r => (n + δ) :: plusL δ r
def dlt : Nat := 1000000000
def onlyL (live : List Nat) : List Nat → List Nat
 | [] => []
 | n :: r => cond (cond (inl n live) (cond (inl n r) false true) false) (n :: onlyL live r) (onlyL live r)
theorem Q2h {live : List Nat} {n : Nat} : ∀ {l : List Nat}, n ∈ onlyL live l → n ∈ live
 | [], h => by simp [onlyL] at h
 | m :: r, h => by
  simp only [onlyL] at h
  cases h1 : inl m live with
  | false => simp only [h1, cond_false] at h; exact Q2h h
  | true =>
   cases h2 : inl m r with
   | true => simp only [h1, h2, cond_true, cond_false] at h; exact Q2h h
   | false =>
    simp only [h1, h2, cond_true, cond_false, List.mem_cons] at h
    rcases h with rfl | h
    ·exact (Qf _ _).1 h1
    ·exact Q2h h
theorem Q40 {δ n : Nat} : ∀ {l : List Nat}, n ∈ plusL δ l → ∃ m ∈ l, n = m + δ
 | [], h => by simp [plusL] at h
 | m :: r, h => by
  simp only [plusL, List.mem_cons] at h
  rcases h with rfl | h
  ·exact ⟨m, by simp, rfl⟩
  ·obtain ⟨k, hk, rfl⟩ := Q40 h
   exact ⟨k, by simp [hk], rfl⟩
theorem Qan {live : List Nat} {δ : Nat} {objs : List (Nat × XOb)} : ∀ {l : List Nat} {os : List (Nat × XOb)}, Q7t live δ objs l = some os → ∀ p ∈ os, ∃ o, lk p.1 objs = some o ∧ p.2 = o.rl live δ ∧ o.rlOk = true
 | [], os, h => by simp [Q7t] at h; subst h; simp
 | k :: r, os, h => by
  simp only [Q7t] at h
  split at h
  ·rename_i o l ho hl
   cases hr : o.rlOk with
   | false => simp [hr] at h
   | true =>
    simp only [hr, cond_true, Option.some.injEq] at h
    subst h
    intro p hp
    rcases List.mem_cons.1 hp with rfl | hp
    ·exact ⟨o, ho, rfl, hr⟩
    ·exact Qan hl p hp
  ·cases h
def disjL (ol : List Nat) : List Nat → Bool
 | [] => true
 | k :: r => cond (inl k ol) false (disjL ol r)
theorem Qb0 {ol : List Nat} : ∀ {l : List Nat}, disjL ol l = true → ∀ k ∈ l, k ∉ ol
 | [], _ => by simp
 | j :: r, h => by
  simp only [disjL] at h
  cases hj : inl j ol with
  | true => simp [hj] at h
  | false =>
   simp only [hj, cond_false] at h
   intro k hk
   rcases List.mem_cons.1 hk with rfl | hk
   ·intro hm; rw [(Qf _ _).2 hm] at hj; cases hj
   ·exact Qb0 h k hk
def sgm (n : Nat) : Nat := cond (Nat.ble dlt n) (n - dlt) n
theorem Qh5 (n : Nat) : sgm (n + dlt) = n := by
 unfold sgm
 rw [Nat.ble_eq_true_of_le (Nat.le_add_left ..)]
 simp
theorem Qhb {n : Nat} (h : Nat.ble dlt n = false) : sgm n = n := by
 unfold sgm; rw [h]; rfl
mutual
def XV.lows : XV → Bool
 | .tip n _ _ _ => cond (Nat.ble dlt n) false true
 | .tpt _ _ _ _ => false
 | .tup l => lowsL l
 | .agg l => lowsL l
 | .clo _ l => lowsL l
 | _ => true
def lowsL : List XV → Bool
 | [] => true
 | x :: r => cond x.lows (lowsL r) false
end
def XOb.lows : XOb → Bool
 | .cells cs _ => lowsL cs
 | .mapt _ _ _ _ _ => false
 | _ => true
def Qb3 : List (Nat × XOb) → Bool
 | [] => true
 | p :: r => cond p.2.lows (Qb3 r) false
def lowsN : List Nat → Bool
 | [] => true
 | n :: r => cond (Nat.ble dlt n) false (lowsN r)
theorem Qaz : ∀ {l : List Nat}, lowsN l = true → ∀ n ∈ l, Nat.ble dlt n = false
 | [], _ => by simp
 | m :: r, h => by
  simp only [lowsN] at h
  cases hb : Nat.ble dlt m with
  | true => simp [hb] at h
  | false =>
   simp only [hb, cond_false] at h
   intro n hn
   rcases List.mem_cons.1 hn with rfl | hn
   ·exact hb
   ·exact Qaz h n hn
theorem Qb7 {p : Nat × XOb} : ∀ {l : List (Nat × XOb)}, Qb3 l = true → p ∈ l → p.2.lows = true
 | [], _, h => by simp at h
 | q :: r, h, hp => by
  simp only [Qb3] at h
  cases hb : q.2.lows with
  | false => simp [hb] at h
  | true =>
   simp only [hb, cond_true] at h
   rcases List.mem_cons.1 hp with rfl | hp
   ·exact hb
   ·exact Qb7 h hp
mutual
theorem XV.lows_ok : ∀ x : XV, x.lows = true → Rl sgm x.a x.a
 | .d x, _ => .d _
 | .nm k p, _ => .nm k p
 | .tip n t l ty, h => by
  simp only [XV.lows] at h
  cases hb : Nat.ble dlt n with
  | true => simp [hb] at h
  | false =>
   have := Rl.tip (σ := sgm) n t.size (l.map t.ds) ty
   rw [Qhb hb] at this
   exact this
 | .tup l, h => by
  have := Q4y l (by simpa [XV.lows] using h)
  exact .tup _ _ rfl this
 | .agg l, h => by
  have := Q4y l (by simpa [XV.lows] using h)
  exact .agg _ _ rfl this
 | .clo f l, h => by
  have := Q4y l (by simpa [XV.lows] using h)
  exact .clo f _ _ rfl this
 | .os k t a n, _ => .nm k _
 | .el k t a n, _ => .nm k _
 | .tpt n e x l, h => by simp [XV.lows] at h
theorem Q4y : ∀ l : List XV, lowsL l = true → ∀ (i : Nat) x x', (asOf l)[i]? = some x → (asOf l)[i]? = some x' → Rl sgm x x'
 | [], _ => by simp [asOf]
 | y :: r, h => by
  simp only [lowsL] at h
  cases hy : y.lows with
  | false => simp [hy] at h
  | true =>
   simp only [hy, cond_true] at h
   intro i x x' hx hx'
   rw [hx] at hx'
   cases hx'
   cases i with
   | zero =>
    simp only [asOf, List.getElem?_cons_zero, Option.some.injEq] at hx
    subst hx
    exact XV.lows_ok y hy
   | succ i =>
    simp only [asOf, List.getElem?_cons_succ] at hx
    exact Q4y r h i x x hx hx
end
theorem XOb.lows_ok {o : XOb} (h : o.lows = true) : RlOb sgm o.o o.o := by
 cases o with
 | cells cs ty => exact .cells _ _ ty rfl (Q4y cs h)
 | arr t l => exact Q59 _ _
 | bts e l => exact Q59 _ _
 | sit s p => exact .sit _ _
 | map kt vt es c => exact .map _ _
 | mit m a b c => exact .mit _ _ _ _
 | mitn => exact .mitn
 | mapt => cases h
def diffL (b : List Nat) : List Nat → List Nat
 | [] => []
 | n :: r => cond (inl n b) (diffL b r) (n :: diffL b r)
theorem Q7f {b : List Nat} {n : Nat} : ∀ {l : List Nat}, n ∈ diffL b l → n ∈ l ∧ n ∉ b
 | [], h => by simp [diffL] at h
 | m :: r, h => by
  simp only [diffL] at h
  cases hb : inl m b with
  | true =>
   simp only [hb, cond_true] at h
   have := Q7f h
   exact ⟨by simp [this.1], this.2⟩
  | false =>
   simp only [hb, cond_false, List.mem_cons] at h
   rcases h with rfl | h
   ·refine ⟨by simp, fun hm => ?_⟩
    rw [(Qf _ _).2 hm] at hb; cases hb
   ·have := Q7f h
    exact ⟨by simp [this.1], this.2⟩
def endS (ns : List Nat) (inO : List (Nat × XOb)) (labs : List Nat) (s : XSt) (rs : List XV) : Option (List XV × List (Nat × XOb) × List Nat × Bool) :=
 cond (disjL s.ol ns) (cond (subL labs s.live) (cond (Q2k rs) (cond (subL (ksL rs []) ns) (cond (lowsN labs) (cond (Qb3 inO)
  (let lv := diffL labs s.live
   let rs' := rlL lv dlt rs
   some (rs', inO, labs ++ onlyL (plusL dlt lv) (lsL (plusL dlt lv) rs' []), true)) none) none) none) none) none) none
def endU (P : Program) (fn : Func) (ns : List Nat) (inO : List (Nat × XOb)) (labs : List Nat) (sm : Bool) (s : XSt) : Option (List XV × List (Nat × XOb) × List Nat × Bool) :=
 match xres P s fn.results.toList with
 | some rs =>
  match cond sm (endS ns inO labs s rs) none with
  | some r => some r
  | none =>
   match Q7t s.live dlt s.objs (closU s.objs 100000 (ksL rs ns) []) with
   | some os => cond (Q2k rs) (cond (subL ns (os.map (·.1))) (some (rlL s.live dlt rs, os, onlyL (plusL dlt s.live) (lsOb (plusL dlt s.live) os (lsL (plusL dlt s.live) (rlL s.live dlt rs) [])), false)) none) none
   | none => none
 | none => none
def isRet : Exit → Bool
 | .ret => true
 | .normal => true
 | _ => false
section
variable (P : Program) (Γ : List (Ent P)) (fi : FI P) (N : Nat)
noncomputable def runI (gids : List Nat) (xs ys : List XV) (inO : List (Nat × XOb)) (labs : List Nat) (sm : Bool) : Option (List XV × List (Nat × XOb) × List Nat × Bool) :=
 match fi.fn.body with
 | some c => cond (Nat.ble fi.fn.ntmps GB) (cond (Nat.ble xs.length fi.fn.ntmps) (cond (Q38 (inO.map (·.1))) (match execU P Γ fi.own fi.fn.ntmps N c ⟨envX 0 xs ++ glE gids ys, inO, labs, [], []⟩ with
  | some (e, s) => cond (isRet e) (fzK (tmpsR fi.fn.results.toList) s fun s1 => endU P fi.fn (inO.map (·.1)) inO labs sm (fgSt s1)) none
  | none => none) none) none) none
 | none => none
end
theorem Qju {σ : Nat → Nat} {live : List Nat} {δ : Nat} (hσ : ∀ n, σ (n + δ) = n) {rs : List XV} (h : Q2k rs = true) : Rl σ (tupX rs).a (tupX (rlL live δ rs)).a := by
 cases rs with
 | nil => exact .tup [] [] rfl (by simp)
 | cons x r =>
  cases r with
  | nil =>
   simp only [Q2k] at h
   exact XV.rl_ok live δ hσ x (by
    cases hx : x.noTpt with
    | true => rfl
    | false => simp [hx] at h)
  | cons y r =>
   obtain ⟨h1, h2⟩ := Q5x live δ hσ (x :: y :: r) h
   exact .tup _ _ h1 h2
theorem Qgc {l : List (Nat × XOb)} {p : Nat × XOb} (h : lk p.1 l = none) (hp : p ∈ l) : False := by
 induction l with
 | nil => simp at hp
 | cons q r ih =>
  simp only [lk] at h
  cases hb : Nat.beq q.1 p.1 with
  | true => simp [hb] at h
  | false =>
   simp only [hb, cond_false] at h
   rcases List.mem_cons.1 hp with rfl | hp
   ·rw [Nat.beq_refl] at hb; cases hb
   ·exact ih h hp
theorem Qat {P : Program} {Γ : List (Ent P)} {fi : FI P} {N : Nat} {gids : List Nat} {xs ys : List XV} {inO : List (Nat × XOb)} {labs : List Nat} {rs : List XV} {os : List (Nat × XOb)} {ls : List Nat} {sm u : Bool}
  (hm : P.follows .mixedOrders = true) (hsm : Q7u (inO.map (·.1)) = true) (h : runI P Γ fi N gids xs ys inO labs sm = some (rs, os, ls, u)) :
  DoesH P fi.id (asOf xs) (gids.zip (asOf ys)) ⟨Q0 inO, labs⟩ (tupX rs).a ⟨Q0 os, ls⟩ ∧ (u = true → os = inO ∧ ∃ nl, ls = labs ++ nl) := by
 unfold runI at h
 split at h
 rotate_left
 ·cases h
 rename_i c hc
 obtain ⟨hG, h⟩ := c2 h
 obtain ⟨hn, h⟩ := c2 h
 obtain ⟨hnd, h⟩ := c2 h
 replace hG := Nat.le_of_ble_eq_true hG
 replace hn := Nat.le_of_ble_eq_true hn
 replace hnd := Q1s hnd
 split at h
 rotate_left
 ·cases h
 rename_i e s hex
 obtain ⟨hret, hfz⟩ := c2 h
 clear h
 have hs := Qg8 (S := ⟨fi.fn.ntmps, inO.map (·.1), Q3s hsm⟩) hm c ⟨envX 0 xs ++ glE gids ys, inO, labs, [], []⟩ ⟨envX 0 xs ++ glE gids ys, inO, labs, [], []⟩ s e (.refl _) hex
 have hnm : (Q0 inO).map (·.1) = inO.map (·.1) := Qx _
 refine ⟨?_, ?_⟩
 ·intro g w vs hr hgs hl ha
  refine calls_of_wp fi.hf hc (wp_mono (hs (Base.of g w ⟨Q0 inO, labs⟩) g w _ ?_) ?_)
  ·rw [Qg] at hl
   refine ⟨rfl, ?_, ?_, ?_⟩
   ·simp; omega
   ·have := hr
    rw [hnm] at this
    exact this
   ·intro t x hx
    have hx' : (imEnv (envX 0 xs) ++ imEnv (glE gids ys)).lookup t = some x := by
     rw [imEnv, imEnv, ← List.map_append]; exact hx
    rw [List.lookup_append, Qm5] at hx'
    cases h1 : (envOf 0 (asOf xs)).lookup t with
    | some x1 =>
     rw [h1] at hx'
     simp only [Option.some_or, Option.some.injEq] at hx'
     subst hx'
     obtain ⟨_, hx'⟩ := Qew h1
     rw [Nat.sub_zero] at hx'
     have hlt : t < vs.size := by
      have := (List.getElem?_eq_some_iff.1 hx').1
      rw [Qg] at this; omega
     refine ⟨vs[t], ?_, ha t x1 _ hx' (by simp [hlt])⟩
     rw [Qcp (by omega)]
     simp [Array.getElem?_append, hlt]
    | none =>
     rw [h1] at hx'
     simp only [Option.none_or] at hx'
     obtain ⟨k, rfl, hk⟩ := Qh9 (Q18 hx')
     exact ⟨_, Qar k, hgs _ hk⟩
  ·rintro e' a' w' ⟨s', g', ⟨rfl, rfl, hi⟩, hs'⟩
   have fin : a'.defers = [] ∧ ∃ v, (results fi.fn a'.tmps).run P w' = .ok v w' ∧ ∃ g' v_1, Ending.returned v = Ending.returned v_1 ∧ RA g' w' (tupX rs).a v_1 ∧ HR ((Q0 inO).map (·.1)) (Base.of g w ⟨Q0 inO, labs⟩) g' w' ⟨Q0 os, ls⟩ := by
    obtain ⟨s1, q1, q2, q3⟩ := Qa5 (S := ⟨fi.fn.ntmps, inO.map (·.1), Q3s hsm⟩) _ s hi hfz
    obtain ⟨g1, hs1⟩ := q3 _ g' w' a' hs'
    have hs2 := SR.fg hs1
    have hi2 := q2.fg
    generalize fgSt s1 = s2 at q1 hs2 hi2
    unfold endU at q1
    split at q1
    rotate_left
    ·cases q1
    rename_i rs0 hrs
    obtain ⟨v, hv, hra⟩ := Qg4 (Q8o hrs) hs2
    rw [← Qmm] at hra
    rw [hnm]
    cases hes : cond sm (endS (inO.map (·.1)) inO labs s2 rs0) none with
    | some r0 =>
     rw [hes] at q1
     simp only [Option.some.injEq] at q1
     subst q1
     obtain ⟨_, hes⟩ := c2 hes
     unfold endS at hes
     obtain ⟨k1, hes⟩ := c2 hes
     obtain ⟨k2, hes⟩ := c2 hes
     obtain ⟨k3, hes⟩ := c2 hes
     obtain ⟨k4, hes⟩ := c2 hes
     obtain ⟨k5, hes⟩ := c2 hes
     obtain ⟨k6, hes⟩ := c2 hes
     simp only [Option.some.injEq, Prod.mk.injEq] at hes
     obtain ⟨rfl, rfl, rfl, rfl⟩ := hes
     have hol := Qb0 k1
     have hlv := Q36 k2
     have low := Qaz k5
     have hnd' : ((Q0 inO).map (·.1)).Nodup := by rw [hnm]; exact hnd
     have hw : Relb (inO.map (·.1)) sgm s2.im ⟨[], ⟨Q0 inO, labs ++ onlyL (plusL dlt (diffL labs s2.live)) (lsL (plusL dlt (diffL labs s2.live)) (rlL (diffL labs s2.live) dlt rs0) [])⟩⟩ := by
      have cas : ∀ n, n ∈ labs ++ onlyL (plusL dlt (diffL labs s2.live)) (lsL (plusL dlt (diffL labs s2.live)) (rlL (diffL labs s2.live) dlt rs0) []) → (n ∈ labs ∧ sgm n = n) ∨ (∃ m, m ∈ s2.live ∧ m ∉ labs ∧ n = m + dlt ∧ sgm n = m) := by
       intro n hn
       rcases List.mem_append.1 hn with hn | hn
       ·exact .inl ⟨hn, Qhb (low n hn)⟩
       ·obtain ⟨m, hm', rfl⟩ := Q40 (Q2h hn)
        have := Q7f hm'
        exact .inr ⟨m, this.1, this.2, rfl, Qh5 m⟩
      refine ⟨by simp, ?_, ?_, ?_, ?_⟩
      ·intro p hp
       obtain ⟨q, hq, rfl⟩ := Q68 hp
       have h1 := Qu hnd' hp
       have hk : q.1 ∈ inO.map (·.1) := List.mem_map_of_mem (f := (·.1)) hq
       have h2 := (hs2.hr.keep q.1 hk).2
       have h2 : ((Q0 s2.objs).lookup q.1).isSome := h2
       refine ⟨q.2.o, ?_, XOb.lows_ok (Qb7 k6 hq)⟩
       show (Q0 s2.objs).lookup q.1 = some q.2.o
       rw [Qn] at h2 ⊢
       cases h3 : lk q.1 s2.objs with
       | none => rw [h3] at h2; cases h2
       | some y =>
        have h4 := hi2.objs q.1 y (hol _ hk) h3
        have h5 : (Q0 inO).lookup q.1 = some y.o := by rw [Qn, h4]; rfl
        rw [h1] at h5
        simp only [Option.some.injEq] at h5
        rw [h5]; rfl
      ·intro n hn
       show sgm n ∈ s2.live
       rcases cas n hn with ⟨h1, h2⟩ | ⟨m, h1, _, _, h2⟩
       ·rw [h2]; exact hlv n h1
       ·rw [h2]; exact h1
      ·intro n hn m hm' he
       rcases cas n hn with ⟨h1, h2⟩ | ⟨a, h1, h1', h3, h2⟩ <;> rcases cas m hm' with ⟨h4, h5⟩ | ⟨b, h4, h4', h6, h5⟩
       ·rw [h2, h5] at he; exact he
       ·rw [h2, h5] at he; subst he; exact (h4' h1).elim
       ·rw [h2, h5] at he; subst he; exact (h1' h4).elim
       ·rw [h2, h5] at he; subst he; rw [h3, h6]
      ·intro k hk
       obtain ⟨p, hp, rfl⟩ := List.mem_map.1 (by rw [← hnm] at hk; exact hk)
       show ((Q0 inO).lookup p.1).isSome
       rw [Qu hnd' hp]; rfl
     obtain ⟨g3, hs3, e1, e2, e3⟩ := hs2.relbX hw
     exact ⟨hs2.defers, v, hv, g3, v, rfl, (Qju Qh5 k3).ra e1 e2 e3 hra, hs3.hr⟩
    | none =>
     rw [hes] at q1
     simp only at q1
     split at q1
     rotate_left
     ·cases q1
     rename_i os0 hos
     obtain ⟨hnt, q1⟩ := c2 q1
     obtain ⟨hsub, q1⟩ := c2 q1
     simp only [Option.some.injEq, Prod.mk.injEq] at q1
     obtain ⟨rfl, rfl, rfl, rfl⟩ := q1
     have hw : Relb (inO.map (·.1)) (fun n => n - dlt) s2.im ⟨[], ⟨Q0 os0, onlyL (plusL dlt s2.live) (lsOb (plusL dlt s2.live) os0 (lsL (plusL dlt s2.live) (rlL s2.live dlt rs0) []))⟩⟩ := by
      refine ⟨by simp, ?_, ?_, ?_, ?_⟩
      ·intro p hp
       obtain ⟨q, hq, rfl⟩ := Q68 hp
       obtain ⟨o, ho1, ho2, ho3⟩ := Qan hos q hq
       refine ⟨o.o, Q87 ho1, ?_⟩
       rw [ho2]
       exact XOb.rl_ok _ _ (fun n => Nat.add_sub_cancel ..) ho3
      ·intro n hn
       obtain ⟨m, hm', rfl⟩ := Q40 (Q2h hn)
       simp only [Nat.add_sub_cancel]
       exact hm'
      ·intro n hn m hm' he
       obtain ⟨n', _, rfl⟩ := Q40 (Q2h hn)
       obtain ⟨m', _, rfl⟩ := Q40 (Q2h hm')
       simp only [Nat.add_sub_cancel] at he
       rw [he]
      ·intro k hk
       have := Q36 hsub k hk
       show ((Q0 os0).lookup k).isSome
       rw [Qn]
       cases h3 : lk k os0 with
       | some y => rfl
       | none =>
        exfalso
        obtain ⟨p, hp, rfl⟩ := List.mem_map.1 this
        exact Qgc h3 hp
     obtain ⟨g3, hs3, e1, e2, e3⟩ := hs2.relbX hw
     exact ⟨hs2.defers, v, hv, g3, v, rfl, (Qju (fun n => Nat.add_sub_cancel ..) hnt).ra e1 e2 e3 hra, hs3.hr⟩
   cases e' with
   | ret => exact fin
   | normal => exact fin
   | _ => simp [isRet] at hret
 ·intro hu
  subst hu
  obtain ⟨s1, q1, q2, q3⟩ := Qa5 (S := ⟨fi.fn.ntmps, inO.map (·.1), Q3s hsm⟩) (s0 := s) _ s (.refl _) hfz
  unfold endU at q1
  split at q1
  rotate_left
  ·cases q1
  rename_i rs0 hrs
  cases hes : cond sm (endS (inO.map (·.1)) inO labs (fgSt s1) rs0) none with
  | some r0 =>
   rw [hes] at q1
   simp only [Option.some.injEq] at q1
   subst q1
   obtain ⟨_, hes⟩ := c2 hes
   unfold endS at hes
   obtain ⟨k1, hes⟩ := c2 hes
   obtain ⟨k2, hes⟩ := c2 hes
   obtain ⟨k3, hes⟩ := c2 hes
   obtain ⟨k4, hes⟩ := c2 hes
   obtain ⟨k5, hes⟩ := c2 hes
   obtain ⟨k6, hes⟩ := c2 hes
   simp only [Option.some.injEq, Prod.mk.injEq] at hes
   obtain ⟨rfl, rfl, rfl, _⟩ := hes
   exact ⟨rfl, _, rfl⟩
  | none =>
   rw [hes] at q1
   simp only at q1
   split at q1
   rotate_left
   ·cases q1
   obtain ⟨_, q1⟩ := c2 q1
   obtain ⟨_, q1⟩ := c2 q1
   simp at q1
mutual
def XV.cool (live : List Nat) : XV → XV
 | .tip n t l ty => cond (inl n live) (.tip n t l ty) (.d (.sl t l))
 | .tup l => .tup (coolL live l)
 | .agg l => .agg (coolL live l)
 | .clo f l => .clo f (coolL live l)
 | x => x
def coolL (live : List Nat) : List XV → List XV
 | [] => []
 | x :: r => x.cool live :: coolL live r
end

theorem AsLe.agg {a b : List AV} (h : AsLe a b) : ALe (.agg a) (.agg b) := by
 intro g w v hr
 cases hr with
 | agg _ vs hl hc =>
  refine .agg b vs (h.length ▸ hl) fun i c u hb hu => ?_
  obtain ⟨x, hx, hle⟩ := h.get hb
  exact hle _ _ _ (hc i x u hx hu)
theorem AsLe.clo {f : Nat} {a b : List AV} (h : AsLe a b) : ALe (.clo f a) (.clo f b) := by
 intro g w v hr
 cases hr with
 | clo _ _ vs hl hc =>
  refine .clo f b vs (h.length ▸ hl) fun i c u hb hu => ?_
  obtain ⟨x, hx, hle⟩ := h.get hb
  exact hle _ _ _ (hc i x u hx hu)
mutual
theorem XV.cool_le (live : List Nat) : ∀ x : XV, ALe x.a (x.cool live).a
 | .d x => .refl _
 | .nm k p => .refl _
 | .tip n t l ty => by
  simp only [XV.cool]
  cases inl n live with
  | true => exact .refl _
  | false => exact .tip _ _ _ _
 | .tup l => (Q4p live l).tup
 | .agg l => (Q4p live l).agg
 | .clo f l => (Q4p live l).clo
 | .os k t a n => .refl _
 | .el k t a n => .refl _
 | .tpt n e x l => .refl _
theorem Q4p (live : List Nat) : ∀ l : List XV, AsLe (asOf l) (asOf (coolL live l))
 | [] => .nil
 | x :: r => .cons (XV.cool_le live x) (Q4p live r)
end

def XOb.cool (live : List Nat) : XOb → XOb
 | .cells cs ty => .cells (coolL live cs) ty
 | o => o
theorem XOb.cool_le (live : List Nat) (o : XOb) : ObLe o.o (o.cool live).o := by
 cases o with
 | cells cs ty => exact AsLe.obs (Q4p live cs)
 | _ => exact .refl _
mutual
theorem XV.mp_rt {f fl f' fl' : Nat → Nat} {ks ls : List Nat} (hf : ∀ k ∈ ks, f (f' k) = k) (hl : ∀ n ∈ ls, fl (fl' n) = n) : ∀ x : XV, x.nms ks ls = true → (x.mp f' fl').mp f fl = x
 | .d x, _ => rfl
 | .nm k p, h => by simp only [XV.mp, hf k ((Qf _ _).1 h)]
 | .tip n t l ty, h => by simp only [XV.mp, hl n ((Qf _ _).1 h)]
 | .tup l, h => by simp only [XV.mp, Q65 hf hl l (by simpa [XV.nms] using h)]
 | .agg l, h => by simp only [XV.mp, Q65 hf hl l (by simpa [XV.nms] using h)]
 | .clo g l, h => by simp only [XV.mp, Q65 hf hl l (by simpa [XV.nms] using h)]
 | .os k t a n, h => by simp only [XV.mp, hf k ((Qf _ _).1 h)]
 | .el k t a n, h => by simp only [XV.mp, hf k ((Qf _ _).1 h)]
 | .tpt n e x l, h => by simp only [XV.mp, hl n ((Qf _ _).1 h)]
theorem Q65 {f fl f' fl' : Nat → Nat} {ks ls : List Nat} (hf : ∀ k ∈ ks, f (f' k) = k) (hl : ∀ n ∈ ls, fl (fl' n) = n) : ∀ l : List XV, nmsL ks ls l = true → mpL f fl (mpL f' fl' l) = l
 | [], _ => rfl
 | x :: r, h => by
  simp only [nmsL] at h
  cases hx : x.nms ks ls with
  | false => simp [hx] at h
  | true =>
   simp only [hx, cond_true] at h
   simp only [mpL, XV.mp_rt hf hl x hx, Q65 hf hl r h]
end
theorem XOb.mp_rt {f fl f' fl' : Nat → Nat} {ks ls : List Nat} (hf : ∀ k ∈ ks, f (f' k) = k) (hl : ∀ n ∈ ls, fl (fl' n) = n) {o : XOb} (h : o.nms ks ls = true) : (o.mp f' fl').mp f fl = o := by
 cases o with
 | cells cs ty => simp only [XOb.mp, Q65 hf hl cs h]
 | mit m a b c => simp only [XOb.mp, hf m ((Qf _ _).1 h)]
 | _ => rfl
def numL (n : Nat) : List Nat → List (Nat × Nat)
 | [] => []
 | k :: r => (n, k) :: numL (n + 1) r
def swapL : List (Nat × Nat) → List (Nat × Nat)
 | [] => []
 | p :: r => (p.2, p.1) :: swapL r
def newN (ns : List Nat) (b : Nat) : List (Nat × XOb) → List (Nat × Nat)
 | [] => []
 | p :: r => cond (inl p.1 ns) (newN ns b r) ((p.1, b) :: newN ns (b + 1) r)
def rtOk (f f' : Nat → Nat) : List Nat → Bool
 | [] => true
 | k :: r => cond (Nat.beq (f (f' k)) k) (rtOk f f' r) false
theorem Q7q {f f' : Nat → Nat} : ∀ {l : List Nat}, rtOk f f' l = true → ∀ k ∈ l, f (f' k) = k
 | [], _ => by simp
 | k :: r, h => by
  simp only [rtOk] at h
  cases hb : Nat.beq (f (f' k)) k with
  | false => simp [hb] at h
  | true =>
   simp only [hb, cond_true] at h
   intro j hj
   rcases List.mem_cons.1 hj with rfl | hj
   ·exact Nat.eq_of_beq_eq_true hb
   ·exact Q7q h j hj
def seenO (live : List Nat) (objs : List (Nat × XOb)) (f' fl' : Nat → Nat) (ks ls : List Nat) : List Nat → Option (List (Nat × XOb))
 | [] => some []
 | k :: r => match lk k objs, seenO live objs f' fl' ks ls r with
  | some o, some l => cond ((o.cool live).nms ks ls) (some ((f' k, (o.cool live).mp f' fl') :: l)) none
  | _, _ => none
theorem Qcn {live : List Nat} {objs : List (Nat × XOb)} {f fl f' fl' : Nat → Nat} {ks ls : List Nat} (hf : ∀ k ∈ ks, f (f' k) = k) (hl : ∀ n ∈ ls, fl (fl' n) = n) : ∀ {l : List Nat} {os : List (Nat × XOb)}, (∀ k ∈ l, k ∈ ks) → seenO live objs f' fl' ks ls l = some os →
  ∀ p ∈ os, ∃ o, lk (f p.1) objs = some o ∧ p.2.mp f fl = o.cool live
 | [], os, _, h => by simp [seenO] at h; subst h; simp
 | k :: r, os, hk, h => by
  simp only [seenO] at h
  split at h
  ·rename_i o l ho hl'
   obtain ⟨hn, h⟩ := c2 h
   simp only [Option.some.injEq] at h
   subst h
   intro p hp
   rcases List.mem_cons.1 hp with rfl | hp
   ·refine ⟨o, ?_, XOb.mp_rt hf hl hn⟩
    simp only [hf k (hk k (by simp))]
    exact ho
   ·exact Qcn hf hl (fun j hj => hk j (by simp [hj])) hl' p hp
  ·cases h
theorem cb2 {a b : Bool} (h : cond a b false = true) : a = true ∧ b = true := by cases a <;> simp at h; exact ⟨rfl, h⟩
def freeU (ns F : List Nat) : List (Nat × XOb) → Bool
 | [] => true
 | p :: r => cond (inl p.1 ns) (freeU ns F r) (cond (Qh4 F p.2) (freeU ns F r) false)
theorem Q6a {ns F : List Nat} {k : Nat} {o : XOb} : ∀ {l : List (Nat × XOb)}, freeU ns F l = true → lk k l = some o → k ∉ ns → Qv F o.o = true
 | [], _, h, _ => by simp [lk] at h
 | p :: r, hf, h, hk => by
  simp only [freeU] at hf
  simp only [lk] at h
  cases hb : Nat.beq p.1 k with
  | true =>
   have e := Nat.eq_of_beq_eq_true hb
   simp only [hb, cond_true, Option.some.injEq] at h
   have hn : inl p.1 ns = false := by
    cases hn : inl p.1 ns with
    | false => rfl
    | true => rw [e] at hn; exact (hk ((Qf _ _).1 hn)).elim
   rw [hn] at hf
   simp only [cond_false] at hf
   rw [← h]
   exact Qi1 (cb2 hf).1
  | false =>
   simp only [hb, cond_false] at h
   cases hn : inl p.1 ns with
   | true => rw [hn] at hf; exact Q6a hf h hk
   | false =>
    rw [hn] at hf
    simp only [cond_false] at hf
    exact Q6a (cb2 hf).2 h hk
def iChk (names labs : List Nat) (f fl : Nat → Nat) (F : List Nat) (st : XSt) (xs : List XV) (inO s1o : List (Nat × XOb)) (s1l : List Nat) (res : XV) : Bool :=
 cond (Q38 names) (cond (Q38 (names.map f)) (cond (Q2o names labs inO) (cond (Q2o (s1o.map (·.1)) s1l s1o) (cond (Q38 (s1o.map fun p => f p.1)) (cond (newOk names f F st.objs s1o)
 (cond (subL names (s1o.map (·.1))) (cond (freeU (s1o.map fun p => f p.1) F st.objs) (cond (subL (labs.map fl) st.live) (cond (Q38 (labs.map fl)) (cond (Q38 (s1l.map fl)) (cond (subL (s1l.map fl) F)
 (cond (Qa6 fl labs st.live s1l) (cond (nmsL names labs xs) (res.nms (s1o.map (·.1)) s1l) false) false) false) false) false) false) false) false) false) false) false) false) false) false
structure IChk (names labs : List Nat) (f fl : Nat → Nat) (F : List Nat) (st : XSt) (xs : List XV) (inO s1o : List (Nat × XOb)) (s1l : List Nat) (res : XV) : Prop where
 nd1 : names.Nodup
 nd2 : (names.map f).Nodup
 innm : Q2o names labs inO = true
 outnm : Q2o (s1o.map (·.1)) s1l s1o = true
 nd3 : (s1o.map fun p => f p.1).Nodup
 new : ∀ p ∈ s1o, p.1 ∈ names ∨ (f p.1 ∈ F ∧ lk (f p.1) st.objs = none)
 sub : ∀ x ∈ names, x ∈ s1o.map (·.1)
 free : freeU (s1o.map fun p => f p.1) F st.objs = true
 l1 : ∀ x ∈ labs.map fl, x ∈ st.live
 l2 : (labs.map fl).Nodup
 l3 : (s1l.map fl).Nodup
 l4 : ∀ x ∈ s1l.map fl, x ∈ F
 l5 : ∀ n ∈ s1l, fl n ∈ st.live → fl n ∈ labs.map fl
 xsn : nmsL names labs xs = true
 resn : res.nms (s1o.map (·.1)) s1l = true
theorem Qj2 {names labs : List Nat} {f fl : Nat → Nat} {F : List Nat} {st : XSt} {xs : List XV} {inO s1o : List (Nat × XOb)} {s1l : List Nat} {res : XV} (h : iChk names labs f fl F st xs inO s1o s1l res = true) : IChk names labs f fl F st xs inO s1o s1l res := by
 unfold iChk at h
 have c : ∀ {a b : Bool}, cond a b false = true → a = true ∧ b = true := by intro a b h; cases a <;> simp at h; exact ⟨rfl, h⟩
 obtain ⟨h1, h⟩ := c h
 obtain ⟨h2, h⟩ := c h
 obtain ⟨h3, h⟩ := c h
 obtain ⟨h4, h⟩ := c h
 obtain ⟨h5, h⟩ := c h
 obtain ⟨h6, h⟩ := c h
 obtain ⟨h7, h⟩ := c h
 obtain ⟨h8, h⟩ := c h
 obtain ⟨h9, h⟩ := c h
 obtain ⟨h10, h⟩ := c h
 obtain ⟨h11, h⟩ := c h
 obtain ⟨h12, h⟩ := c h
 obtain ⟨h13, h⟩ := c h
 obtain ⟨h14, h⟩ := c h
 exact ⟨Q1s h1, Q1s h2, h3, h4, Q1s h5, Qad h6, Q36 h7, h8, Q36 h9, Q1s h10, Q1s h11, Q36 h12, Q5h h13, h14, h⟩
theorem Qkx {P : Program} {o : Oper} {rd : List (Operand × AV)} {names labs : List Nat} {f fl : Nat → Nat} {F : List Nat} {st : XSt} {xs : List XV} {inO s1o : List (Nat × XOb)} {s1l : List Nat} {res : XV} {X : Store}
  (hc : IChk names labs f fl F st xs inO s1o s1l res) (hnm : inO.map (·.1) = names)
  (hin : ∀ p ∈ inO, ∃ o, X.objs.lookup (f p.1) = some o ∧ ObLe o (p.2.mp f fl).o)
  (hnew : ∀ p ∈ s1o, p.1 ∈ names ∨ (f p.1 ∈ F ∧ X.objs.lookup (f p.1) = none))
  (hfree : ∀ j o, X.objs.lookup j = some o → (∀ p ∈ s1o, f p.1 ≠ j) → F = [] ∨ Qv F o = true) (hl1 : ∀ x ∈ labs.map fl, x ∈ X.live) (hl5 : ∀ n ∈ s1l, fl n ∈ X.live → fl n ∈ labs.map fl)
  (H : ∀ Y, LabCall Y ⟨Q0 inO, labs⟩ ⟨Q0 s1o, s1l⟩ f fl F → OpT P o rd Y ⟨Qh f fl (Q0 s1o) Y.objs, Qw fl Y ⟨Q0 inO, labs⟩ ⟨Q0 s1o, s1l⟩⟩ F (res.mp f fl).a) :
  OpT P o rd X ⟨Qh f fl (Q0 s1o) X.objs, Qw fl X ⟨Q0 inO, labs⟩ ⟨Q0 s1o, s1l⟩⟩ F (res.mp f fl).a := by
 have nd2 : (inO.map fun p => f p.1).Nodup := by
  have := hc.nd2
  rw [← hnm, List.map_map] at this
  exact this
 let Y : Store := ⟨Qh f fl (Q0 inO) X.objs, X.live⟩
 have yIn : ∀ p ∈ inO, Y.objs.lookup (f p.1) = some (p.2.mp f fl).o := fun p hp => Q29 nd2 hp
 have yOther : ∀ j, (∀ p ∈ inO, f p.1 ≠ j) → Y.objs.lookup j = X.objs.lookup j := fun j hj => Q1v hj
 have yCases : ∀ j, (∃ p ∈ inO, f p.1 = j) ∨ ∀ p ∈ inO, f p.1 ≠ j := by
  intro j
  by_cases h : ∃ p ∈ inO, f p.1 = j
  ·exact .inl h
  ·exact .inr fun p hp e => h ⟨p, hp, e⟩
 have hle : ∀ k o', Y.objs.lookup k = some o' → ∃ o, X.objs.lookup k = some o ∧ ObLe o o' := by
  intro k o' ho
  rcases yCases k with ⟨p, hp, rfl⟩ | hn
  ·rw [yIn p hp] at ho
   cases ho
   obtain ⟨o, h1, h2⟩ := hin p hp
   exact ⟨o, h1, h2⟩
  ·rw [yOther k hn] at ho
   exact ⟨o', ho, .refl _⟩
 have hkk : ∀ k, (X.objs.lookup k).isSome → (Y.objs.lookup k).isSome := by
  intro k hk
  rcases yCases k with ⟨p, hp, rfl⟩ | hn
  ·rw [yIn p hp]; rfl
  ·rw [yOther k hn]; exact hk
 have hfree' : ∀ j o, Y.objs.lookup j = some o → (∀ p ∈ Q0 s1o, f p.1 ≠ j) → F = [] ∨ Qv F o = true := by
  intro j o hj hn
  have hn' : ∀ p ∈ s1o, f p.1 ≠ j := fun p hp => hn (p.1, p.2.o) (List.mem_map.2 ⟨p, hp, rfl⟩)
  refine hfree j o ?_ hn'
  rw [← hj, yOther]
  intro p hp e
  have := hc.sub p.1 (by rw [← hnm]; exact List.mem_map_of_mem (f := fun p : Nat × XOb => p.1) hp)
  obtain ⟨q, hq, hqe⟩ := List.mem_map.1 this
  exact hn' q hq (by rw [hqe]; exact e)
 have hlab : LabCall Y ⟨Q0 inO, labs⟩ ⟨Q0 s1o, s1l⟩ f fl F := by
  refine ⟨?_, ?_, ?_, ?_, ?_, ?_, ?_, hfree', ?_, hc.l2, hc.l3, fun n hn => hc.l4 _ (List.mem_map_of_mem hn), hl5⟩
  ·intro p hp
   obtain ⟨q, hq, rfl⟩ := Q68 hp
   rw [yIn q hq, XOb.mp_o]
  ·simp only [Qx, hnm]
   exact Q6w hc.innm
  ·simp only [Qx]
   exact Q6w hc.outnm
  ·have := hc.nd3
   simpa [Q0, Function.comp_def] using this
  ·simp only [Qx, hnm]
   exact hc.nd1
  ·intro p hp
   obtain ⟨q, hq, rfl⟩ := Q68 hp
   simp only [Qx, hnm]
   rcases hnew q hq with h | ⟨h1, h2⟩
   ·exact .inl h
   ·refine .inr ⟨h1, ?_⟩
    rw [yOther]
    ·exact h2
    ·intro p hp e
     obtain ⟨o, h3, _⟩ := hin p hp
     rw [e, h2] at h3
     cases h3
  ·intro p hp
   obtain ⟨q, hq, rfl⟩ := Q68 hp
   simp only [Qx]
   exact hc.sub _ (by rw [← hnm]; exact List.mem_map_of_mem (f := fun p : Nat × XOb => p.1) hq)
  ·intro n hn
   exact hl1 _ (List.mem_map_of_mem hn)
 have h1 := Qli (H Y hlab) hle hkk rfl
 have same : ∀ j, (Qh f fl (Q0 s1o) X.objs).lookup j = (Qh f fl (Q0 s1o) Y.objs).lookup j := by
  intro j
  by_cases hj : ∃ p ∈ s1o, f p.1 = j
  ·obtain ⟨p, hp, rfl⟩ := hj
   rw [Q29 hc.nd3 hp, Q29 hc.nd3 hp]
  ·have hn : ∀ p ∈ s1o, f p.1 ≠ j := fun p hp e => hj ⟨p, hp, e⟩
   rw [Q1v hn, Q1v hn, yOther j ?_]
   intro p hp e
   have := hc.sub p.1 (by rw [← hnm]; exact List.mem_map_of_mem (f := fun p : Nat × XOb => p.1) hp)
   obtain ⟨q, hq, hqe⟩ := List.mem_map.1 this
   exact hn q hq (by rw [hqe]; exact e)
 intro nm hsm B g w a hr hrd next Q hn
 refine h1 nm hsm B g w a hr hrd next Q fun g' w' v hr' ht hv => hn g' w' v ?_ ht hv
 refine Qbi hr' (fun k o' ho => ⟨o', ?_, .refl _⟩) (fun k hk => ?_) rfl
 ·rw [← same k]; exact ho
 ·rw [same k]; exact hk
def Qy (live : List Nat) (objs : List (Nat × XOb)) : List Nat → Bool
 | [] => true
 | k :: r => match lk k objs with
  | some (.cells cs _) => cond (noTips live cs) (Qy live objs r) false
  | some _ => Qy live objs r
  | none => false
where noTips (live : List Nat) : List XV → Bool
 | [] => true
 | .d _ :: r => noTips live r
 | .nm _ _ :: r => noTips live r
 | .os _ _ _ _ :: r => noTips live r
 | .tip n _ _ _ :: r => cond (inl n live) (noTips live r) false
 | _ :: _ => false
theorem Q2v (live : List Nat) : ∀ {cs : List XV}, Qy.noTips live cs = true → coolL live cs = cs
 | [], _ => rfl
 | .d _ :: r, h => by simp only [coolL, XV.cool, Q2v live (cs := r) (by simpa [Qy.noTips] using h)]
 | .nm _ _ :: r, h => by simp only [coolL, XV.cool, Q2v live (cs := r) (by simpa [Qy.noTips] using h)]
 | .os _ _ _ _ :: r, h => by simp only [coolL, XV.cool, Q2v live (cs := r) (by simpa [Qy.noTips] using h)]
 | .tip n _ _ _ :: r, h => by
  simp only [Qy.noTips] at h
  cases hn : inl n live with
  | true =>
   rw [hn] at h
   simp only [coolL, XV.cool, hn, cond_true, Q2v live (cs := r) h]
  | false => simp [hn] at h
 | .tup _ :: _, h => by simp [Qy.noTips] at h
 | .agg _ :: _, h => by simp [Qy.noTips] at h
 | .clo _ _ :: _, h => by simp [Qy.noTips] at h
 | .el _ _ _ _ :: _, h => by simp [Qy.noTips] at h
 | .tpt _ _ _ _ :: _, h => by simp [Qy.noTips] at h
theorem Q5k {live : List Nat} {objs : List (Nat × XOb)} : ∀ {l : List Nat}, Qy live objs l = true → ∀ k ∈ l, ∀ o, lk k objs = some o → o.cool live = o
 | [], _ => by simp
 | j :: r, h => by
  intro k hk o ho
  simp only [Qy] at h
  split at h
  ·rename_i cs ty hj
   have hr : Qy.noTips live cs = true ∧ Qy live objs r = true := by
    cases hn : Qy.noTips live cs with
    | false => simp [hn] at h
    | true => simp only [hn, cond_true] at h; exact ⟨rfl, h⟩
   rcases List.mem_cons.1 hk with rfl | hk
   ·rw [hj] at ho
    cases ho
    simp only [XOb.cool, Q2v live hr.1]
   ·exact Q5k hr.2 k hk o ho
  ·rename_i o' hne hj
   rcases List.mem_cons.1 hk with rfl | hk
   ·rw [hj] at ho
    cases ho
    cases o with
    | cells cs ty => exact (hne cs ty rfl).elim
    | _ => rfl
   ·exact Q5k h k hk o ho
  ·cases h
section
variable (P : Program) (Γ : List (Ent P)) (fi : FI P) (N : Nat) (gids : List Nat)
noncomputable def inlGo (lv : List Nat) (o : Oper) (st : XSt) (vs us : List XV) (rd : List XV → List (Operand × XV)) : Option Out :=
 let vs := coolL lv vs
 let ks := closU st.objs 100000 (ksL vs []) []
 let ls := onlyL st.live (lsL st.live vs (lsK ks []))
 let σ := numL 0 ks
 let τ := numL 500 ls
 let f' := nf (swapL σ)
 let fl' := nf (swapL τ)
 match seenO st.live st.objs f' fl' ks ls ks with
 | some inO => match runI P Γ fi N gids (mpL f' fl' vs) us inO (τ.map (·.1)) (Q2n ls (imEnv st.env)) with
  | some (rs, s1o, s1l, u) =>
   let b := Q83 o * 1000000
   let nw := newN (σ.map (·.1)) b s1o
   let f := nf (σ ++ nw)
   let same := cond u (Qy st.live st.objs ks) false
   let fl := nf (τ ++ swapL (numL (b + 500000) (diffL (τ.map (·.1)) s1l)))
   cond (rtOk f f' ks) (cond (rtOk fl fl' ls) (cond (nmsL ks ls vs) (cond (Q7u (inO.map (·.1))) (cond (datL us)
    (cond (iChk (inO.map (·.1)) (τ.map (·.1)) f fl (nw.map (·.2) ++ s1l.map fl) st (mpL f' fl' vs) inO s1o s1l (tupX rs))
     (cond same (cond (Q5z s1l) (some ⟨.look ((inO.map (·.1)).map f), (tupX rs).mp f fl, rd vs, st.objs, st.live, [], []⟩)
       (some ⟨.lab, (tupX rs).mp f fl, rd vs, st.objs, Qw fl st.X ⟨[], τ.map (·.1)⟩ ⟨[], s1l⟩, nw.map (·.2) ++ s1l.map fl, []⟩))
      (some ⟨.all, (tupX rs).mp f fl, rd vs, putXs f fl s1o st.objs, Qw fl st.X ⟨[], τ.map (·.1)⟩ ⟨[], s1l⟩, nw.map (·.2) ++ s1l.map fl, s1o.map fun p => f p.1⟩)) none) none) none) none) none) none
  | none => none
 | none => none
where lsK : List Nat → List Nat → List Nat
 | [], acc => acc
 | k :: r, acc => match lk k st.objs with
  | some ob => lsK r (ob.lbs st.live acc)
  | none => lsK r acc
end
theorem Qdt {ns : List Nat} {b : Nat} : ∀ {l : List (Nat × XOb)}, (∀ p ∈ l, p.1 ∈ ns) → newN ns b l = []
 | [], _ => rfl
 | p :: r, h => by
  simp only [newN, (Qf _ _).2 (h p (by simp)), cond_true]
  exact Qdt fun q hq => h q (by simp [hq])
theorem Qlp (a b : Nat) (l : List (Nat × Nat)) (k : Nat) : nf ((a, b) :: l) k = if k = a then b else nf l k := by
 unfold nf
 rw [List.lookup_cons]
 by_cases h : k = a
 ·subst h; simp
 ·have : (k == a) = false := by simpa using h
  simp [this, h]
theorem Q7a {k : Nat} : ∀ {l : List Nat} {n : Nat}, k ∈ l → nf (swapL (numL n l)) k ∈ (numL n l).map (·.1)
 | [], n, h => by simp at h
 | j :: r, n, h => by
  simp only [numL, swapL, List.map_cons, List.mem_cons]
  rw [Qlp]
  by_cases he : k = j
  ·rw [if_pos he]; exact .inl rfl
  ·rw [if_neg he]
   right
   rcases List.mem_cons.1 h with h | h
   ·exact absurd h he
   ·exact Q7a h
theorem Qf4 {k : Nat} {l : List Nat} (h : k ∈ l) : nf (swapL (numL 0 l)) k ∈ (numL 0 l).map (·.1) := Q7a h
theorem Q5g {live : List Nat} {objs : List (Nat × XOb)} {f' fl' : Nat → Nat} {ks ls : List Nat} : ∀ {l : List Nat} {os : List (Nat × XOb)}, seenO live objs f' fl' ks ls l = some os → ∀ p ∈ os, ∃ k ∈ l, p.1 = f' k
 | [], os, h => by simp [seenO] at h; subst h; simp
 | k :: r, os, h => by
  simp only [seenO] at h
  split at h
  ·rename_i o l ho hl'
   obtain ⟨hn, h⟩ := c2 h
   simp only [Option.some.injEq] at h
   subst h
   intro p hp
   rcases List.mem_cons.1 hp with rfl | hp
   ·exact ⟨k, by simp, rfl⟩
   ·obtain ⟨j, hj, e⟩ := Q5g hl' p hp
    exact ⟨j, by simp [hj], e⟩
  ·cases h
theorem Qcj {st : XSt} {lv : List Nat} {x : Operand} {v : XV} (h : xeval st x = some v) : Sees st.im x (v.cool lv).a := by
 cases x with
 | tmp t => exact .tmp t _ (Qk h).1 (Q2x (Qk h).2 (XV.cool_le _ v))
 | const u =>
  have h' := Q6 h
  simp only [xeval, Option.some.injEq] at h
  subst h
  exact h'
 | func f =>
  have h' := Q6 h
  simp only [xeval, Option.some.injEq] at h
  subst h
  exact h'
 | global k => exact .glob k _ (Q2x h (XV.cool_le _ v))
theorem Q6q {st : XSt} {lv : List Nat} : ∀ {ops : List Operand} {vs : List XV}, Qm st ops = some vs → ∀ p ∈ imRd (ops.zip (coolL lv vs)), Sees st.im p.1 p.2
 | [], vs, h => by simp [imRd]
 | x :: ops, [], h => by have := Q17 h; simp at this
 | x :: ops, v :: vs, h => by
  obtain ⟨hx, hvs⟩ := Q94 h
  intro p hp
  simp only [coolL, List.zip_cons_cons, imRd, List.map_cons, List.mem_cons] at hp
  rcases hp with rfl | hp
  ·exact Qcj hx
  ·exact Q6q hvs p hp
theorem Qf7 {P : Program} {Γ : List (Ent P)} {fi : FI P} {N : Nat} {gids : List Nat} {lv : List Nat} {o : Oper} {st : XSt} {vs us : List XV} {rd : List XV → List (Operand × XV)} {out : Out} (hm : P.follows .mixedOrders = true)
  (hsee : ∀ p ∈ imRd (rd (coolL lv vs)), Sees st.im p.1 p.2)
  (H : ∀ (f fl : Nat → Nat) (F : List Nat) (xs rs : List XV) (inO s1o : List (Nat × XOb)) (labs s1l : List Nat) (Y : Store), mpL f fl xs = coolL lv vs → datL us = true →
   DoesH P fi.id (asOf xs) (gids.zip (asOf us)) ⟨Q0 inO, labs⟩ (tupX rs).a ⟨Q0 s1o, s1l⟩ → nmsL (inO.map (·.1)) labs xs = true → (tupX rs).nms (s1o.map (·.1)) s1l = true → LabCall Y ⟨Q0 inO, labs⟩ ⟨Q0 s1o, s1l⟩ f fl F →
   OpT P o (imRd (rd (coolL lv vs))) Y ⟨Qh f fl (Q0 s1o) Y.objs, Qw fl Y ⟨Q0 inO, labs⟩ ⟨Q0 s1o, s1l⟩⟩ F ((tupX rs).mp f fl).a)
  (h : inlGo P Γ fi N gids lv o st vs us rd = some out) : OpOk P o st out := by
 unfold inlGo at h
 simp only at h
 generalize coolL lv vs = vs' at h H hsee
 generalize hks : closU st.objs 100000 (ksL vs' []) [] = ks at h
 generalize hls : onlyL st.live (lsL st.live vs' (inlGo.lsK st ks [])) = ls at h
 split at h
 rotate_left
 ·cases h
 rename_i inO hinO
 split at h
 rotate_left
 ·cases h
 rename_i rs s1o s1l u hrun
 generalize hf : nf (numL 0 ks ++ newN ((numL 0 ks).map (·.1)) (Q83 o * 1000000) s1o) = f at h
 generalize hsame : (cond u (Qy st.live st.objs ks) false) = same at h
 generalize hfl : nf (numL 500 ls ++ swapL (numL (Q83 o * 1000000 + 500000) (diffL ((numL 500 ls).map (·.1)) s1l))) = fl at h
 generalize hF : (newN ((numL 0 ks).map (·.1)) (Q83 o * 1000000) s1o).map (·.2) ++ s1l.map fl = F at h
 obtain ⟨h1, h⟩ := c2 h
 obtain ⟨h2, h⟩ := c2 h
 obtain ⟨h3, h⟩ := c2 h
 obtain ⟨h4, h⟩ := c2 h
 obtain ⟨h5, h⟩ := c2 h
 obtain ⟨h6, h⟩ := c2 h
 have r1 := Q7q h1
 have r2 := Q7q h2
 have hc := Qj2 h6
 obtain ⟨hdoes, hun⟩ := Qat hm h4 hrun
 have hseen := Qcn r1 r2 (fun k hk => hk) hinO
 have hxs : mpL f fl (mpL (nf (swapL (numL 0 ks))) (nf (swapL (numL 500 ls))) vs') = vs' := Q65 r1 r2 _ h3
 have core : ∀ X : Store, (∀ p ∈ inO, ∃ o', X.objs.lookup (f p.1) = some o' ∧ ObLe o' (p.2.mp f fl).o) →
   (∀ p ∈ s1o, p.1 ∈ inO.map (·.1) ∨ (f p.1 ∈ F ∧ X.objs.lookup (f p.1) = none)) →
   (∀ j o, X.objs.lookup j = some o → (∀ p ∈ s1o, f p.1 ≠ j) → F = [] ∨ Qv F o = true) → (∀ x ∈ ((numL 500 ls).map (·.1)).map fl, x ∈ X.live) → (∀ n ∈ s1l, fl n ∈ X.live → fl n ∈ ((numL 500 ls).map (·.1)).map fl) →
   OpT P o (imRd (rd vs')) X ⟨Qh f fl (Q0 s1o) X.objs, Qw fl X ⟨Q0 inO, (numL 500 ls).map (·.1)⟩ ⟨Q0 s1o, s1l⟩⟩ F ((tupX rs).mp f fl).a := by
  intro X a1 a2 a3 a4 a5
  exact Qkx hc rfl a1 a2 a3 a4 a5 fun Y hY => H f fl F _ rs inO s1o _ s1l Y hxs h5 hdoes hc.xsn hc.resn hY
 have frees : ∀ j o, st.X.objs.lookup j = some o → (∀ p ∈ s1o, f p.1 ≠ j) → F = [] ∨ Qv F o = true := by
  intro j o hj hn
  have hj' : (Q0 st.objs).lookup j = some o := hj
  rw [Qn] at hj'
  cases hl : lk j st.objs with
  | none => rw [hl] at hj'; cases hj'
  | some y =>
   rw [hl] at hj'
   simp only [Option.map_some, Option.some.injEq] at hj'
   rw [← hj']
   refine .inr (Q6a hc.free hl fun hm => ?_)
   obtain ⟨p, hp, e⟩ := List.mem_map.1 hm
   exact hn p hp e
 cases same with
 | true =>
  simp only [cond_true] at h
  cases u with
  | false => cases hsame
  | true =>
   simp only [cond_true] at hsame
   have hlook : Qy st.live st.objs ks = true := hsame
   obtain ⟨e1, nl, e2⟩ := hun rfl
   subst e1
   have hks' : ∀ p ∈ s1o, f p.1 ∈ ks := by
    intro p hp
    obtain ⟨k, hk, e⟩ := Q5g hinO p hp
    rw [e, r1 k hk]; exact hk
   have hlk0 : ∀ p ∈ s1o, (Q0 st.objs).lookup (f p.1) = some (p.2.mp f fl).o := by
    intro p hp
    obtain ⟨o', h7, h8⟩ := hseen p hp
    rw [h8, Q5k hlook _ (hks' p hp) o' h7]
    exact Q87 h7
   have fin : ∀ X : Store, (∀ p ∈ s1o, X.objs.lookup (f p.1) = some (p.2.mp f fl).o) → ∀ L F,
     OpT P o (imRd (rd vs')) X ⟨Qh f fl (Q0 s1o) X.objs, L⟩ F ((tupX rs).mp f fl).a → OpT P o (imRd (rd vs')) X ⟨X.objs, L⟩ F ((tupX rs).mp f fl).a := by
    intro X hlk L F c1 nm hsm B g w a hr hrd next Q hn
    refine c1 nm hsm B g w a hr hrd next Q fun g' w' v hr' ht hv => hn g' w' v ?_ ht hv
    have same : ∀ j, (Qh f fl (Q0 s1o) X.objs).lookup j = X.objs.lookup j := by
     intro j
     by_cases hj : ∃ p ∈ s1o, f p.1 = j
     ·obtain ⟨p, hp, rfl⟩ := hj
      rw [Q29 hc.nd3 hp, hlk p hp]
     ·exact Q1v fun p hp e => hj ⟨p, hp, e⟩
    refine Qbi hr' (fun k o' ho => ⟨o', ?_, .refl _⟩) (fun k hk => ?_) rfl
    ·rw [same k]; exact ho
    ·rw [← same k]; exact hk
   cases hnl : Q5z s1l with
   | true =>
    rw [hnl] at h
    simp only [cond_true, Option.some.injEq] at h
    subst h
    have e3 := Qjr hnl
    rw [e3] at e2
    have e4 : (numL 500 ls).map (·.1) = [] := (List.append_eq_nil_iff.1 e2.symm).1
    rw [e3] at hF
    rw [e3, e4] at core
    have hF0 : F = [] := by
     rw [← hF]
     have : newN ((numL 0 ks).map (·.1)) (Q83 o * 1000000) s1o = [] := by
      refine Qdt fun p hp => ?_
      rcases hc.new p hp with _ | ⟨h8, h9⟩
      ·obtain ⟨k, hk, e⟩ := Q5g hinO p hp
       rw [e]
       exact Qf4 hk
      ·exfalso
       obtain ⟨o', h10, _⟩ := hseen p hp
       rw [h10] at h9; cases h9
     rw [this]; rfl
    subst hF0
    refine ⟨hsee, ⟨rfl, rfl, rfl, fun X hX => ?_⟩, fun _ _ _ h => h⟩
    have hlk : ∀ p ∈ s1o, X.objs.lookup (f p.1) = some (p.2.mp f fl).o := by
     intro p hp
     rw [hX _ (List.mem_map.2 ⟨p.1, List.mem_map_of_mem (f := fun p : Nat × XOb => p.1) hp, rfl⟩)]
     exact hlk0 p hp
    have c1 := core X (fun p hp => ⟨_, hlk p hp, .refl _⟩) (fun p hp => .inl (List.mem_map_of_mem (f := fun p : Nat × XOb => p.1) hp)) (fun _ _ _ _ => .inl rfl) (by simp) (by simp)
    have hlv : Qw fl X ⟨Q0 s1o, []⟩ ⟨Q0 s1o, []⟩ = X.live := by
     unfold Qw; simp
    rw [hlv] at c1
    exact fin X hlk _ _ c1
   | false =>
    rw [hnl] at h
    simp only [cond_false, Option.some.injEq] at h
    subst h
    refine ⟨hsee, ⟨rfl, ?_⟩, fun _ _ _ h => h⟩
    have c1 := core st.X (fun p hp => ⟨_, hlk0 p hp, .refl _⟩) (fun p hp => .inl (List.mem_map_of_mem (f := fun p : Nat × XOb => p.1) hp)) frees hc.l1 hc.l5
    exact fin st.X hlk0 _ _ c1
 | false =>
  simp only [cond_false, Option.some.injEq] at h
  subst h
  refine ⟨hsee, ?_, fun j x hj hx => ?_⟩
  ·have c1 := core st.X (fun p hp => by
     obtain ⟨o', h7, h8⟩ := hseen p hp
     rw [h8]
     exact ⟨o'.o, Q87 h7, XOb.cool_le _ _⟩) (fun p hp => by
     rcases hc.new p hp with h | ⟨h, h'⟩
     ·exact .inl h
     ·refine .inr ⟨h, ?_⟩
      show (Q0 st.objs).lookup _ = none
      rw [Qn, h']; rfl) frees hc.l1 hc.l5
   have e1 : Q0 (putXs f fl s1o st.objs) = Qh f fl (Q0 s1o) st.X.objs := Qf3 _ _ _ _
   show OpT P o (imRd (rd vs')) st.X ⟨Q0 (putXs f fl s1o st.objs), _⟩ _ _
   rw [e1]
   exact c1
  ·rw [Q95] at hx
   ·exact hx
   ·intro p hp e
    exact hj (List.mem_map.2 ⟨p, hp, e⟩)
def Qk9 : XV → Bool
 | .d (.sl _ _) => false
 | .d (.agg _) => false
 | .d (.ag _ _) => false
 | .d (.ep _) => false
 | .d _ => true
 | .nm _ _ => true
 | .tip _ _ _ _ => true
 | .tup l => go l
 | _ => false
where go : List XV → Bool
 | [] => true
 | .d (.sl _ _) :: _ => false
 | .d (.agg _) :: _ => false
 | .d (.ag _ _) :: _ => false
 | .d (.ep _) :: _ => false
 | .d _ :: r => go r
 | .nm _ _ :: r => go r
 | .tip _ _ _ _ :: r => go r
 | _ :: _ => false
def Qkj (out : Out) : Bool :=
 match out.eff with
 | .look _ => Qk9 out.res
 | .lab => Qk9 out.res
 | _ => false
noncomputable def Qb5 (P : Program) (Γ : List (Ent P)) (fi : FI P) (N : Nat) (gids : List Nat) (o : Oper) (st : XSt) (vs us : List XV) (rd : List XV → List (Operand × XV)) : Option Out :=
 cond (Q5z (lsL st.live vs [])) (inlGo P Γ fi N gids st.live o st vs us rd)
  (match inlGo P Γ fi N gids [] o st vs us rd with
  | some out => cond (Qkj out) (some out) (inlGo P Γ fi N gids st.live o st vs us rd)
  | none => inlGo P Γ fi N gids st.live o st vs us rd)
theorem Qco {P : Program} {Γ : List (Ent P)} {fi : FI P} {N : Nat} {gids : List Nat} {o : Oper} {st : XSt} {vs us : List XV} {rd : List XV → List (Operand × XV)} {out : Out} (h : Qb5 P Γ fi N gids o st vs us rd = some out) : ∃ lv, inlGo P Γ fi N gids lv o st vs us rd = some out := by
 unfold Qb5 at h
 cases h1 : Q5z (lsL st.live vs []) with
 | true => rw [h1] at h; exact ⟨_, h⟩
 | false =>
  rw [h1] at h
  simp only [cond_false] at h
  split at h
  ·rename_i out' ho
   cases h2 : Qkj out' with
   | true => rw [h2] at h; exact ⟨_, ho.trans h⟩
   | false => rw [h2] at h; exact ⟨_, h⟩
  ·exact ⟨_, h⟩
noncomputable def Qf8 (P : Program) (Γ : List (Ent P)) (fi : FI P) (N : Nat) (gids : List Nat) {R : Type} (o : Oper) (st : XSt) (vs : List XV) (K : Out → Option R) : Option R :=
 match Qm st (gops gids) with
 | some us => match Qb5 P Γ fi N gids o st vs us (fun ms => (Q3i o).zip ms ++ (gops gids).zip us) with
  | some out => K out
  | none => none
 | none => none
noncomputable def Qc8 (P : Program) (Γ : List (Ent P)) (fi : FI P) (N : Nat) {R : Type} (o : Oper) (st : XSt) (caps vs : List XV) (K : Out → Option R) : Option R :=
 match Qb5 P Γ fi N [] o st (vs ++ caps) [] (fun ms => (Q9q o, .clo fi.id (ms.drop vs.length)) :: (Q3i o).zip (ms.take vs.length)) with
 | some out => K out
 | none => none
theorem Qjz {P : Program} {Γ : List (Ent P)} {fi : FI P} {N : Nat} {gids : List Nat} {R : Type} (hm : P.follows .mixedOrders = true) {o : Oper} {st : XSt} {aops : Array Operand} {ts : Array TypeId} {vs : List XV} {K : Out → Option R} {r : R}
  (ho : o.op = .call { callee := .value (.func fi.id), args := aops, argTypes := ts }) (hv : Qm st aops.toList = some vs) (h : Qf8 P Γ fi N gids o st vs K = some r) : ∃ out, K out = some r ∧ OpOk P o st out := by
 have e : Q3i o = aops.toList := by simp [Q3i, ho]
 unfold Qf8 at h
 split at h
 rotate_left
 ·cases h
 rename_i us hus
 split at h
 rotate_left
 ·cases h
 rename_i out hout
 obtain ⟨lv, hout⟩ := Qco hout
 refine ⟨out, h, Qf7 (lv := lv) hm ?_ ?_ hout⟩
 ·intro p hp
  rw [e, Qq, List.mem_append] at hp
  rcases hp with hp | hp
  ·exact Q6q hv p hp
  ·exact Q2w hus p hp
 ·intro f fl F xs rs inO s1o labs s1l Y hxs hdat hd hx hr hlab
  have hlen : xs.length = aops.size := by
   have h1 := congrArg List.length hxs
   have h2 := Q17 hv
   rw [Q60, List.length_map] at h1
   have h3 : ∀ l : List XV, (coolL lv l).length = l.length := by
    intro l
    induction l with
    | nil => rfl
    | cons x r ih => simp [coolL, ih]
   rw [h3] at h1
   rw [h1, h2]; simp
  have := Qdj (X := Y) (gids := gids) (ys := asOf us) f fl F ho fi.hc hd hlab (by rw [Qg, hlen]) (by
    simp only [Qx]
    exact Q50 hx) (Q8f hdat) (by
    simp only [Qx]
    exact XV.nms_a hr)
  rw [e, Qq, Q3e, Q3e, Ql6, ← hxs, mpL_a]
  rw [← XV.mp_a] at this
  exact this
theorem Qi5 {P : Program} {Γ : List (Ent P)} {fi : FI P} {N : Nat} {R : Type} (hm : P.follows .mixedOrders = true) {o : Oper} {st : XSt} {t : Tmp} {aops : Array Operand} {ts : Array TypeId} {caps vs : List XV} {K : Out → Option R} {r : R}
  (ho : o.op = .call { callee := .value (.tmp t), args := aops, argTypes := ts }) (hclo : xeval st (.tmp t) = some (.clo fi.id caps)) (hv : Qm st aops.toList = some vs) (h : Qc8 P Γ fi N o st caps vs K = some r) : ∃ out, K out = some r ∧ OpOk P o st out := by
 have e : Q3i o = aops.toList := by simp [Q3i, ho]
 have e2 : Q9q o = .tmp t := by simp [Q9q, ho]
 unfold Qc8 at h
 split at h
 rotate_left
 ·cases h
 rename_i out hout
 obtain ⟨lv, hout⟩ := Qco hout
 have h3 : ∀ l : List XV, (coolL lv l).length = l.length := by
  intro l
  induction l with
  | nil => rfl
  | cons x r ih => simp [coolL, ih]
 have h4 : ∀ a b : List XV, coolL lv (a ++ b) = coolL lv a ++ coolL lv b := by
  intro a b
  induction a with
  | nil => rfl
  | cons x r ih => simp [coolL, ih]
 have ht : (coolL lv (vs ++ caps)).take vs.length = coolL lv vs := by
  rw [h4, List.take_left' (h3 vs)]
 have hd' : (coolL lv (vs ++ caps)).drop vs.length = coolL lv caps := by
  rw [h4, List.drop_left' (h3 vs)]
 refine ⟨out, h, Qf7 (lv := lv) hm ?_ ?_ hout⟩
 ·intro p hp
  rw [e, e2, ht, hd'] at hp
  simp only [imRd, List.map_cons, List.mem_cons] at hp
  rcases hp with rfl | hp
  ·exact Qcj (x := .tmp t) hclo
  ·exact Q6q hv p hp
 ·intro f fl F xs rs inO s1o labs s1l Y hxs hdat hd hx hr hlab
  have hxl : xs.length = vs.length + caps.length := by
   have h1 := congrArg List.length hxs
   rw [Q60, List.length_map, h3, List.length_append] at h1
   exact h1
  obtain ⟨xa, xc, rfl, hla⟩ : ∃ xa xc, xs = xa ++ xc ∧ xa.length = vs.length := ⟨xs.take vs.length, xs.drop vs.length, (List.take_append_drop _ _).symm, by rw [List.length_take]; omega⟩
  rw [Qhx, h4] at hxs
  have hla' : (mpL f fl xa).length = (coolL lv vs).length := by rw [Q60, List.length_map, h3, hla]
  obtain ⟨ea, ec⟩ := List.append_inj hxs hla'
  rw [Q3r] at hd
  have hz : (([] : List Nat).zip (asOf ([] : List XV))) = [] := rfl
  rw [hz] at hd
  have := Qb4 (X := Y) f fl F ho fi.hc hd.plain hlab (by
    have h2 := Q17 hv
    rw [Qg, hla, h2]; simp) (by
    simp only [Qx]
    have := Q50 hx
    rw [Q3r] at this
    exact this) (by
    simp only [Qx]
    exact XV.nms_a hr)
  rw [ht, hd', e, e2]
  rw [← mpL_a, ← mpL_a, ea, ec, ← XV.mp_a, ← Q3e] at this
  exact this
noncomputable def mkInl {P : Program} (hm : P.follows .mixedOrders = true) (Γ : List (Ent P)) (gids : List Nat) (N : Nat) (fi : FI P) : Ent P where
 id := fi.id
 run := Qf8 P Γ fi N gids
 ok := by
  intro R o st aops ts vs K r ho hv h
  exact Qjz hm ho hv h
 crun := Qc8 P Γ fi N
 cok := by
  intro R o st t caps aops ts vs K r ho hclo hv h
  exact Qi5 hm ho hclo hv h
noncomputable def Qha {P : Program} (hm : P.follows .mixedOrders = true) (base : List (Ent P)) (gids : List Nat) (N : Nat) (tb : List (FI P)) : Nat → List (Ent P)
 | 0 => base
 | n + 1 => base ++ tb.map (mkInl hm (Qha hm base gids N tb n) gids N)
end Go.Xl
set_option linter.unusedVariables false
set_option linter.unusedSimpArgs false
namespace Go.Xl
open Go.Ab
def Qlv (P : Program) (f : FuncId) : Prop := ∃ fn, P.funcs[f]? = some fn ∧ (fn.name == "runtime.NumGoroutine") = false ∧ fn.body = none ∧ Extern.findNext fn = none ∧ Extern.find fn = some Extern.AbiNoEscape.same
def Qf9 {R : Type} (o : Oper) (st : XSt) (vs : List XV) (K : Out → Option R) : Option R :=
 match o.op with
 | .call c => match c.args.toList, vs with
  | [x], [v] => K (Q5 st v [(x, v)])
  | _, _ => none
 | _ => none
def Qm9 {P : Program} (f : FuncId) (h : Qlv P f) : Ent P where
 id := f
 run := Qf9
 ok := by
  intro R o st args ts vs K r ho hv hr
  unfold Qf9 at hr
  rw [ho] at hr
  simp only at hr
  split at hr
  ·rename_i x v hx
   have ha : args = #[x] := Array.toList_inj.1 hx
   subst ha
   refine ⟨_, hr, Q3 ?_ fun X => Qeq ho h⟩
   simp only [Qm] at hv
   split at hv
   ·rename_i y ys hy hys
    simp only [Option.some.injEq, List.cons.injEq] at hv
    obtain ⟨rfl, _⟩ := hv
    exact Qa hy
   ·cases hv
  ·cases hr
end Go.Xl
