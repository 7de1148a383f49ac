import Derived.Test.YtenddelnfflkjaaZd
import Derived.Test.YtenddelnfflkjaaZb
import Derived.Below
import Derived.ProofKit
import Derived.Test.YtenddelnfflkjaaZc
import Derived.Sort.Grow
import Derived.Shelf.GgSortFunc.InsertionK
import Derived.Laws.StandIn
import Derived.Lib.Bytealg
import Derived.Test.YtenddelnfflkjaaProg
import Derived.KernelRfl
import Derived.Shelf.SlSortCmp.NoneTotal
import Derived.Shelf.SlGeneric
import Derived.Ground.SlsfProg
import Derived.IntWalk
import Derived.RangeFuncLeaves
import Derived.RangeFuncRecord
import Derived.RangeFuncCalls
import Derived.RangeFuncIn
import Derived.RangeFuncSeq
import Derived.TacticsIn
set_option linter.unusedVariables false
set_option linter.unusedSimpArgs false
set_option linter.unnecessarySimpa false
namespace Go.Xl
open Go.Ab
inductive AK where
 | d (t : Ty)
 | c (f : Nat)
@[reducible] def FunA : List AK → Type → Type
 | [], R => R
 | .d t :: r, R => t.T → FunA r R
 | .c _ :: r, R => FunA r R
inductive RK where
 | d (t : Ty)
 | s
@[reducible] def RK.T : RK → Type
 | .d t => t.T
 | .s => Nat
@[reducible] def ResO : List RK → Type
 | [] => Unit
 | [r] => r.T
 | r :: u :: rs => r.T × ResO (u :: rs)
def RK.val (k : Nat) (t : Ty) : (r : RK) → r.T → XV
 | .d u, x => .d (u.xv x)
 | .s, n => .os k t 0 n
def resLO (k : Nat) (t : Ty) : (rs : List RK) → ResO rs → List XV
 | [], _ => []
 | [r], x => [r.val k t x]
 | r :: u :: rs, x => r.val k t x.1 :: resLO k t (u :: rs) x.2
def osLen (t : Ty) : XV → Option Nat
 | .os k t' a n => cond (Nat.beq k 1) (cond (t'.eqb t) (cond (Nat.beq a 0) (some n) none) none) none
 | _ => none
def RK.dec (t : Ty) : (r : RK) → XV → Option r.T
 | .d u, x => decXV u x
 | .s, x => osLen t x
def decO (t : Ty) : (rs : List RK) → List XV → Option (ResO rs)
 | [], [] => some ()
 | [r], [x] => r.dec t x
 | r :: u :: rs, x :: xs => match r.dec t x, decO t (u :: rs) xs with
  | some y, some ys => some (y, ys)
  | _, _ => none
 | _, _ => none
theorem RK.dec_le {t : Ty} {r : RK} {x : XV} {y : r.T} (h : r.dec t x = some y) : ALe x.a (r.val 1 t y).a := by
 cases r with
 | d u => exact Qgy h
 | s =>
  change osLen t x = some y at h
  unfold osLen at h
  split at h
  ·rename_i k t' a n
   cases h1 : Nat.beq k 1 with
   | false => simp [h1] at h
   | true =>
   cases h2 : t'.eqb t with
   | false => simp [h1, h2] at h
   | true =>
   cases h3 : Nat.beq a 0 with
   | false => simp [h1, h2, h3] at h
   | true =>
    simp only [h1, h2, h3, cond_true, Option.some.injEq] at h
    have e1 := Nat.eq_of_beq_eq_true h1
    have e2 := Ty.eqb_eq h2
    have e3 := Nat.eq_of_beq_eq_true h3
    subst e1; subst e2; subst e3; subst h
    exact .refl _
  ·cases h
theorem Qwb {t : Ty} : ∀ {rs : List RK} {xs : List XV} {y : ResO rs}, decO t rs xs = some y → AsLe (asOf xs) (asOf (resLO 1 t rs y))
 | [], xs, y, h => by
  cases xs with
  | nil => exact .nil
  | cons _ _ => simp [decO] at h
 | [r], xs, y, h => by
  cases xs with
  | nil => simp [decO] at h
  | cons x xs =>
   cases xs with
   | nil => exact .cons (RK.dec_le h) .nil
   | cons _ _ => simp [decO] at h
 | r :: u :: rs, xs, y, h => by
  cases xs with
  | nil => simp [decO] at h
  | cons x xs =>
   simp only [decO] at h
   split at h
   ·rename_i y1 ys h1 h2
    cases h
    exact .cons (RK.dec_le h1) (Qwb h2)
   ·cases h
theorem AsLe.tupX {a b : List XV} (hl : AsLe (asOf a) (asOf b)) : ALe (Xl.tupX a).a (Xl.tupX b).a := by
 rw [Q8k, Q8k]
 generalize asOf a = a at hl
 generalize asOf b = b at hl
 cases hl with
 | nil => exact .refl _
 | cons h1 h2 =>
  cases h2 with
  | nil => exact h1
  | cons h3 h4 => exact (AsLe.cons h1 (.cons h3 h4)).tup
def finO (P : Program) (fn : Func) (t : Ty) (rs : List RK) (s : XSt) : Option (List t.T × ResO rs) :=
 match lk 1 s.objs with
 | some (.arr u l) => if h : u.eqb t = true then match xres P s fn.results.toList with
  | some xs => match decO t rs xs with
   | some y => some ((Ty.eqb_eq h ▸ l : List t.T), y)
   | none => none
  | none => none else none
 | _ => none
def Qwl (P : Program) (fn : Func) (t : Ty) (rs : List RK) : Exit → XSt → Option (List t.T × ResO rs)
 | .ret, s => finO P fn t rs s
 | .normal, s => finO P fn t rs s
 | _, _ => none
noncomputable def runBO (P : Program) (Γ : List (Ent P)) (own : List Nat) (N : Nat) (fn : Func) (an : An) (t : Ty) (rs : List RK) (l : List t.T) (n : Nat) (xs : List XV) : Option (List t.T × ResO rs) :=
 match fn.body with
 | some c => cond (Nat.ble fn.ntmps GB) (exec P Γ own [1] fn.ntmps N c an ⟨envX 0 (.os 1 t 0 n :: xs), [(1, .arr t l)], [], [], []⟩ (Qwl P fn t rs)) none
 | none => none
def O1 (t : Ty) (l : List t.T) : Store := ⟨[(1, (XOb.arr t l).o)], []⟩
theorem Qv9 {P : Program} {Γ : List (Ent P)} {own : List Nat} {N : Nat} {f : FuncId} {fn : Func} {an : An} {t : Ty} {rs : List RK} {l : List t.T} {n : Nat} {xs : List XV} {y : List t.T × ResO rs} (hm : P.follows .mixedOrders = true) (hf : P.funcs[f]? = some fn)
  (hn : Nat.ble (xs.length + 1) fn.ntmps = true) (h : runBO P Γ own N fn an t rs l n xs = some y) : Does P f (asOf (.os 1 t 0 n :: xs)) (O1 t l) (tupX (resLO 1 t rs y.2)).a (O1 t y.1) := by
 unfold runBO at h
 split at h
 ·rename_i c hc
  obtain ⟨hG, h⟩ := condG h
  have hs := Qds (S := ⟨fn.ntmps, [1], by simp⟩) hm rfl c an _ _ _ _ (.refl _) h
  intro g w vs hr hl ha
  refine calls_of_wp hf hc (wp_mono (hs (Base.of g w (O1 t l)) g w _ ?_) ?_)
  ·refine ⟨rfl, ?_, hr, ?_⟩
   ·have := Nat.le_of_ble_eq_true hn
    rw [Q8] at hl
    simp at hl ⊢; omega
   ·intro s x hx
    have hx' : (envOf 0 (asOf (.os 1 t 0 n :: xs))).lookup s = some x := by rw [← Ql3]; exact hx
    obtain ⟨_, hx'⟩ := Qbb hx'
    rw [Nat.sub_zero] at hx'
    have hlt : s < vs.size := by have := (List.getElem?_eq_some_iff.1 hx').1; omega
    refine ⟨vs[s], ?_, ha s x _ hx' (by simp [hlt])⟩
    have := Nat.le_of_ble_eq_true hn
    rw [Q8, List.length_cons] at hl
    rw [Q8x (by omega)]
    simp [Array.getElem?_append, hlt]
  ·rintro e a' w' ⟨s, g', ⟨st', rfl, hi, hk⟩, hs'⟩
   have fin : finO P fn t rs st' = some y →
     a'.defers = [] ∧ ∃ v, (results fn a'.tmps).run P w' = .ok v w' ∧ ∃ g' v_1, Ending.returned v = Ending.returned v_1 ∧ RA g' w' (tupX (resLO 1 t rs y.2)).a v_1 ∧ HR ((O1 t l).objs.map (·.1)) (Base.of g w (O1 t l)) g' w' (O1 t y.1) := by
    intro h
    unfold finO at h
    split at h
    ·rename_i u l' hk1
     split at h
     ·rename_i hu
      have := Ty.eqb_eq hu
      subst this
      split at h
      ·rename_i zs h1
       split at h
       ·rename_i z h2
        cases h
        obtain ⟨v, hv, hra⟩ := Qa1 (Qag h1) hs'
        have hw : Weak [1] st'.im ⟨[], O1 u l'⟩ := ⟨by simp, by
         intro p hp
         simp only [O1, List.mem_singleton] at hp
         subst hp
         exact Q8z hk1, by simp [O1], by simp [O1]⟩
        obtain ⟨g'', ht, hs''⟩ := hs'.weaken' hw
        have hra' := hra.mono ht (.nil _)
        rw [← Q8k] at hra'
        exact ⟨hs'.defers, v, hv, g'', v, rfl, (AsLe.tupX (Qwb h2)) g'' w' v hra', hs''.hr⟩
       ·cases h
      ·cases h
     ·cases h
    ·cases h
   cases e with
   | ret => exact fin hk
   | normal => exact fin hk
   | _ => simp [Qwl] at hk
 ·cases h
def bindA {α : Type} : (ks : List AK) → (List XV → α) → List XV → FunA ks α
 | [], f, acc => f acc
 | .d t :: r, f, acc => fun x => bindA r f (acc ++ [.d (t.xv x)])
 | .c g :: r, f, acc => bindA r f (acc ++ [.clo g []])
noncomputable def runO (P : Program) (Γ : List (Ent P)) (own : List Nat) (N : Nat) (fn : Func) (an : An) (t : Ty) (ks : List AK) (rs : List RK) (l : List t.T) (n : Nat) : FunA ks (Option (List t.T × ResO rs)) :=
 bindA ks (fun xs => runBO P Γ own N fn an t rs l n xs) []
def SndA {β : Type} (Q : β → List XV → Prop) : (ks : List AK) → FunA ks (Option β) → List XV → Prop
 | [], F, acc => ∀ y, F = some y → Q y acc
 | .d u :: r, F, acc => ∀ x : u.T, SndA Q r (F x) (acc ++ [.d (u.xv x)])
 | .c g :: r, F, acc => SndA Q r F (acc ++ [.clo g []])
def Qjp (P : Program) (f : FuncId) (t : Ty) (rs : List RK) (l : List t.T) (n : Nat) (ks : List AK) (F : FunA ks (Option (List t.T × ResO rs))) (acc : List XV) : Prop :=
 SndA (fun y acc => Does P f (asOf (.os 1 t 0 n :: acc)) (O1 t l) (tupX (resLO 1 t rs y.2)).a (O1 t y.1)) ks F acc
theorem Qd0 {β : Type} {Q : β → List XV → Prop} {B : List XV → Option β} (m : Nat) (hB : ∀ acc, acc.length ≤ m → ∀ y, B acc = some y → Q y acc) :
  ∀ (ks : List AK) (acc : List XV), acc.length + ks.length ≤ m → SndA Q ks (bindA ks B acc) acc
 | [], acc, hn => fun y hy => hB acc (by simpa using hn) y hy
 | .d u :: r, acc, hn => fun x => Qd0 m hB r _ (by simp at hn ⊢; omega)
 | .c g :: r, acc, hn => by
  simp only [SndA, bindA]
  exact Qd0 m hB r (acc ++ [.clo g []]) (by simp at hn ⊢; omega)
theorem Q9l {P : Program} {Γ : List (Ent P)} {own : List Nat} {N : Nat} {f : FuncId} {fn : Func} {an : An} {t : Ty} {ks : List AK} {rs : List RK} (hm : P.follows .mixedOrders = true) (hf : P.funcs[f]? = some fn)
  (hn : Nat.ble (ks.length + 1) fn.ntmps = true) (l : List t.T) (n : Nat) : Qjp P f t rs l n ks (runO P Γ own N fn an t ks rs l n) [] :=
by
 have h1 := Nat.le_of_ble_eq_true hn
 unfold Qjp runO
 have hB : ∀ acc : List XV, acc.length ≤ fn.ntmps - 1 → ∀ y, runBO P Γ own N fn an t rs l n acc = some y → Does P f (asOf (.os 1 t 0 n :: acc)) (O1 t l) (tupX (resLO 1 t rs y.2)).a (O1 t y.1) :=
  fun acc hl y hy => Qv9 hm hf (Nat.ble_eq_true_of_le (by omega)) hy
 exact Qd0 (Q := fun (y : List t.T × ResO rs) acc => Does P f (asOf (.os 1 t 0 n :: acc)) (O1 t l) (tupX (resLO 1 t rs y.2)).a (O1 t y.1)) (fn.ntmps - 1) hB ks [] (by simp; omega)
def asClo : XV → Option Nat
 | .clo g [] => some g
 | _ => none
theorem Q116 {v : XV} {g : Nat} (h : asClo v = some g) : v = .clo g [] := by
 unfold asClo at h
 split at h
 ·cases h; rfl
 ·cases h
def appA {β R : Type} : (ks : List AK) → FunA ks (Option β) → List Operand → List XV → List (Operand × XV) → (Option β → List (Operand × XV) → Option R) → Option R
 | [], F, [], [], acc, K => K F acc
 | .d t :: r, F, x :: ops, v :: vs, acc, K => match decXV t v with
  | some y => appA r (F y) ops vs (acc ++ [(x, .d (t.xv y))]) K
  | none => none
 | .c g :: r, F, x :: ops, v :: vs, acc, K => match asClo v with
  | some g' => cond (Nat.beq g' g) (appA r F ops vs (acc ++ [(x, .clo g [])]) K) none
  | none => none
 | _, _, _, _, _, _ => none
def argX : XV → Bool
 | .d _ => true
 | .clo _ [] => true
 | _ => false
def argsX : List XV → Bool
 | [] => true
 | x :: r => cond (argX x) (argsX r) false
theorem Qq3 {a b : List XV} (ha : argsX a = true) (hb : argsX b = true) : argsX (a ++ b) = true := by
 induction a with
 | nil => exact hb
 | cons x r ih =>
  simp only [argsX, List.cons_append] at ha ⊢
  cases hx : argX x with
  | false => simp [hx] at ha
  | true => simp only [hx, cond_true] at ha ⊢; exact ih ha
theorem Q11q {f : Nat → Nat} {x : XV} (h : argX x = true) : mapAV f x.a = x.a := by
 unfold argX at h
 split at h <;> first | rfl | cases h
theorem Qk8 {f : Nat → Nat} : ∀ {l : List XV}, argsX l = true → Q49 f (asOf l) = asOf l
 | [], _ => rfl
 | x :: r, h => by
  simp only [argsX] at h
  cases hx : argX x with
  | false => simp [hx] at h
  | true =>
   simp only [hx, cond_true] at h
   simp only [asOf, Q49, Q11q hx, Qk8 h]
theorem Qg0 {ks : List Nat} : ∀ {l : List XV}, argsX l = true → Q22 ks (asOf l) = true
 | [], _ => rfl
 | x :: r, h => by
  simp only [argsX] at h
  cases hx : argX x with
  | false => simp [hx] at h
  | true =>
   simp only [hx, cond_true] at h
   have : Q1k ks x.a = true := by
    unfold argX at hx
    split at hx <;> first | rfl | cases hx
   simp only [asOf, Q22, this, Qg0 h, Bool.and_self]
theorem Qgn {β R : Type} {Q : β → List XV → Prop} {st : XSt} {K : Option β → List (Operand × XV) → Option R} {r : R} : ∀ (ks : List AK) (F : FunA ks (Option β)) (ops : List Operand) (vs : List XV) (acc : List (Operand × XV)) (aops : List Operand) (axs : List XV),
  SndA Q ks F axs → Qm st ops = some vs → acc = aops.zip axs → aops.length = axs.length → (∀ p ∈ imRd acc, Sees st.im p.1 p.2) → argsX axs = true → appA ks F ops vs acc K = some r →
  ∃ (Fv : Option β) (xs : List XV), xs.length = (aops ++ ops).length ∧ (∀ y, Fv = some y → Q y xs) ∧ argsX xs = true ∧
   (∀ p ∈ imRd ((aops ++ ops).zip xs), Sees st.im p.1 p.2) ∧ K Fv ((aops ++ ops).zip xs) = some r
 | [], F, ops, vs, acc, aops, axs, hs, hv, hacc, hlen, hsee, hda, h => by
  cases ops with
  | nil =>
   cases vs with
   | nil =>
    subst hacc
    exact ⟨F, axs, by simp [hlen], hs, hda, by simpa using hsee, by rw [List.append_nil]; exact h⟩
   | cons _ _ => simp [appA] at h
  | cons _ _ => simp [appA] at h
 | .d u :: ts, F, ops, vs, acc, aops, axs, hs, hv, hacc, hlen, hsee, hda, h => by
  cases ops with
  | nil => simp [appA] at h
  | cons x ops =>
   cases vs with
   | nil => simp [appA] at h
   | cons v vs =>
    simp only [appA] at h
    obtain ⟨hx, hvs⟩ := Q80 hv
    split at h
    ·rename_i y hy
     have := Qgn ts (F y) ops vs _ (aops ++ [x]) (axs ++ [.d (u.xv y)]) (hs y) hvs (by rw [hacc, List.zip_append hlen]; rfl) (by simp [hlen]) (by
      intro p hp
      rw [Q2d] at hp
      rcases List.mem_append.1 hp with hp | hp
      ·exact hsee p hp
      ·simp only [imRd, List.map_cons, List.map_nil, List.mem_singleton] at hp
       subst hp
       exact Qdn hx hy) (Qq3 hda rfl) h
     simpa using this
    ·cases h
 | .c g :: ts, F, ops, vs, acc, aops, axs, hs, hv, hacc, hlen, hsee, hda, h => by
  cases ops with
  | nil => simp [appA] at h
  | cons x ops =>
   cases vs with
   | nil => simp [appA] at h
   | cons v vs =>
    simp only [appA] at h
    obtain ⟨hx, hvs⟩ := Q80 hv
    split at h
    ·rename_i g' hg
     cases h1 : Nat.beq g' g with
     | false => simp [h1] at h
     | true =>
      simp only [h1, cond_true] at h
      have := Nat.eq_of_beq_eq_true h1
      subst this
      have := Q116 hg
      subst this
      have := Qgn ts F ops vs _ (aops ++ [x]) (axs ++ [.clo g' []]) hs hvs (by rw [hacc, List.zip_append hlen]; rfl) (by simp [hlen]) (by
       intro p hp
       rw [Q2d] at hp
       rcases List.mem_append.1 hp with hp | hp
       ·exact hsee p hp
       ·simp only [imRd, List.map_cons, List.map_nil, List.mem_singleton] at hp
        subst hp
        exact Q9 hx) (Qq3 hda rfl) h
      simpa using this
    ·cases h
theorem Qkj (f : Nat → Nat) (t : Ty) (l : List t.T) : mapOb f (XOb.arr t l).o = (XOb.arr t l).o := by
 show Ob.cells (Q49 f _) none = _
 congr 1
 generalize (l.map t.ds).flatten = ds
 induction ds with
 | nil => rfl
 | cons x r ih => simp only [List.map_cons, Q49, mapAV, ih]
theorem Qg9 (ks : List Nat) : ∀ (l : List D), Q22 ks (l.map .d) = true
 | [] => rfl
 | x :: r => by simp only [List.map_cons, Q22, Q1k, Qg9 ks r, Bool.and_self]
theorem Qjn (ks : List Nat) (t : Ty) (l : List t.T) : Q6g ks (XOb.arr t l).o = true := Qg9 ks _
theorem Qqp (k : Nat) (t : Ty) : ∀ (rs : List RK) (y : ResO rs), Q49 (nf [(1, k)]) (asOf (resLO 1 t rs y)) = asOf (resLO k t rs y)
 | [], _ => rfl
 | [r], y => by cases r <;> rfl
 | r :: u :: rs, y => by
  simp only [resLO, asOf, Q49, Qqp k t (u :: rs) y.2]
  congr 1
  cases r <;> rfl
theorem Q10m (k : Nat) (t : Ty) (rs : List RK) (y : ResO rs) : mapAV (nf [(1, k)]) (tupX (resLO 1 t rs y)).a = (tupX (resLO k t rs y)).a := by
 rw [Q8k, Q8k]
 have h := Qqp k t rs y
 generalize asOf (resLO k t rs y) = m at h ⊢
 subst h
 generalize asOf (resLO 1 t rs y) = l
 cases l with
 | nil => rfl
 | cons x r => cases r <;> rfl
theorem Qm2 (t : Ty) : ∀ (rs : List RK) (y : ResO rs), Q22 [1] (asOf (resLO 1 t rs y)) = true
 | [], _ => rfl
 | [r], y => by cases r <;> rfl
 | r :: u :: rs, y => by
  have : Q1k [1] (r.val 1 t y.1).a = true := by cases r <;> rfl
  simp only [resLO, asOf, Q22, this, Qm2 t (u :: rs) y.2, Bool.and_self]
theorem Qu8 (t : Ty) (rs : List RK) (y : ResO rs) : Q1k [1] (tupX (resLO 1 t rs y)).a = true := by
 rw [Q8k]
 have := Qm2 t rs y
 generalize asOf (resLO 1 t rs y) = l at this ⊢
 cases l with
 | nil => rfl
 | cons x r =>
  cases r with
  | nil => simp only [Q22, Bool.and_true] at this; exact this
  | cons z s => exact this
def oRun {P : Program} {R : Type} (t : Ty) (ks : List AK) (rs : List RK) (F : List t.T → Nat → FunA ks (Option (List t.T × ResO rs))) (o : Oper) (st : XSt) (vs : List XV) (K : Out → Option R) : Option R :=
 match Q1n o, vs with
 | x :: ops, .os k t' a n :: vs => match lk k st.objs with
  | some (.arr u l) => if h : u.eqb t = true then cond (t'.eqb t) (cond (Nat.beq a 0)
    (appA ks (F (Ty.eqb_eq h ▸ l : List t.T) n) ops vs [] fun Fv rd => Option.bind Fv fun y =>
     K ⟨.put k (.arr t y.1), tupX (resLO k t rs y.2), (x, .os k t 0 n) :: rd, xset k (.arr t y.1) st.objs, st.live, [], [k]⟩) none) none else none
  | _ => none
 | _, _ => none
theorem Qoy {P : Program} {R : Type} {f : FuncId} {t : Ty} {ks : List AK} {rs : List RK} {F : List t.T → Nat → FunA ks (Option (List t.T × ResO rs))} (hc : CallI P f) (hs : ∀ l n, Qjp P f t rs l n ks (F l n) []) {o : Oper} {st : XSt} {aops : Array Operand} {ts : Array TypeId} {vs : List XV} {K : Out → Option R} {r : R}
  (ho : o.op = .call { callee := .value (.func f), args := aops, argTypes := ts }) (hv : Qm st aops.toList = some vs) (h : oRun (P := P) t ks rs F o st vs K = some r) : ∃ out, K out = some r ∧ OpOk P o st out := by
 have e : Q1n o = aops.toList := by simp [Q1n, ho]
 unfold oRun at h
 rw [e] at h
 split at h
 ·rename_i x ops k t' a n vs' hl
  rw [hl] at hv
  obtain ⟨hx, hvs⟩ := Q80 hv
  split at h
  ·rename_i u l hk
   split at h
   ·rename_i hu
    have e2 := Ty.eqb_eq hu
    subst e2
    cases h2 : t'.eqb u with
    | false => simp [h2] at h
    | true =>
    cases h3 : Nat.beq a 0 with
    | false => simp [h2, h3] at h
    | true =>
     simp only [h2, h3, cond_true] at h
     have e3 := Ty.eqb_eq h2
     have e4 := Nat.eq_of_beq_eq_true h3
     subst e3; subst e4
     obtain ⟨Fv, xs, h1, h2, h3, h4, h5⟩ := Qgn (st := st) ks (F l n) ops vs' [] [] [] (hs l n) hvs rfl rfl (by simp [imRd]) rfl h
     obtain ⟨y, hy, hK⟩ := Option.bind_eq_some_iff.1 h5
     simp only [List.nil_append] at h1 h4 hK
     refine ⟨_, hK, ⟨?_, ⟨rfl, rfl, rfl, fun X hX => ?_⟩, ?_⟩⟩
     ·intro p hp
      rcases List.mem_cons.1 hp with rfl | hp
      ·exact Q9 hx
      ·exact h4 p hp
     ·have hlk : X.objs.lookup k = some (XOb.arr t' l).o := by rw [hX]; exact Q8z hk
      have hoc : ObjCall X (O1 t' l) (O1 t' y.1) (nf [(1, k)]) [] := by
       refine ⟨⟨rfl, rfl⟩, ?_, ?_, ?_, by simp [O1], by simp [O1], ?_, ?_, by simp [Qa]⟩
       ·intro p hp
        simp only [O1, List.mem_singleton] at hp
        subst hp
        simp only [Qkj]
        exact hlk
       ·simp [O1, Qjn]
       ·simp [O1, Qjn]
       ·intro p hp
        simp only [O1, List.mem_singleton] at hp
        subst hp
        exact .inl (by simp [O1])
       ·intro p hp
        simp only [O1, List.mem_singleton] at hp
        subst hp
        simp [O1]
      have hcall := Qm7 (X := X) [(1, k)] [] ho hc (h2 y hy) hoc (by
        have hl' : aops.size = ops.length + 1 := by rw [← Array.length_toList, hl]; rfl
        simp only [asOf, List.length_cons, Q8, hl', h1]) (by
        simp only [asOf, Q22, Qg0 h3, Bool.and_true]; rfl) (Qu8 t' rs y.2)
      rw [hl] at hcall
      rw [Q10m] at hcall
      have e5 : Q49 (nf [(1, k)]) (asOf (.os 1 t' 0 n :: xs)) = asOf (.os k t' 0 n :: xs) := by
       simp only [asOf, Q49, Qk8 h3]; rfl
      rw [e5] at hcall
      have e6 : imRd ((x, .os k t' 0 n) :: ops.zip xs) = (x :: ops).zip (asOf (.os k t' 0 n :: xs)) := by
       rw [asOf, List.zip_cons_cons, ← Q6q]; rfl
      rw [e6]
      have e7 : Q68 (nf [(1, k)]) (O1 t' y.1).objs X.objs = Ab.setObj k (XOb.arr t' y.1).o X.objs := by
       simp only [O1, Q68, Qkj]; rfl
      rw [e7] at hcall
      exact hcall
     ·intro j z hj hz
      simp only [List.mem_singleton] at hj
      rw [Q66 _ _ _ _ hj] at hz; exact hz
   ·cases h
  ·cases h
 ·cases h
def mkO {P : Program} {Γ : List (Ent P)} {own : List Nat} {N : Nat} (id : FuncId) (fn : Func) (an : An) (t : Ty) (ks : List AK) (rs : List RK) (F : List t.T → Nat → FunA ks (Option (List t.T × ResO rs))) (hm : P.follows .mixedOrders = true) (hf : P.funcs[id]? = some fn)
  (hc : CallI P id) (hn : Nat.ble (ks.length + 1) fn.ntmps = true) (hE : runO P Γ own N fn an t ks rs = F) : Ent P where
 id := id
 run := oRun (P := P) t ks rs F
 ok := by
  intro R o st aops ts vs K r ho hv h
  exact Qoy hc (fun l n => hE ▸ Q9l hm hf hn l n) ho hv h
@[reducible] def RK.ty (t : Ty) : RK → Ty
 | .d u => u
 | .s => .sl t
@[reducible] def rkTys (t : Ty) : List RK → List Ty
 | [] => []
 | r :: rs => r.ty t :: rkTys t rs
noncomputable def runO0 (P : Program) (Γ : List (Ent P)) (own : List Nat) (N : Nat) (fn : Func) (an : An) (t : Ty) (ks : List AK) (rs : List RK) : FunA ks (Option (ResT (rkTys t rs))) :=
 bindA ks (fun xs => runB P Γ own N fn an (rkTys t rs) (.d (.sl t []) :: xs)) []
def Qj1 (P : Program) (f : FuncId) (t : Ty) (rs : List RK) (y : ResT (rkTys t rs)) (acc : List XV) : Prop :=
 Does P f (asOf (.d (.sl t []) :: acc)) X0 (resXV (rkTys t rs) y).a X0
theorem Q9x {P : Program} {Γ : List (Ent P)} {own : List Nat} {N : Nat} {f : FuncId} {fn : Func} {an : An} {t : Ty} {ks : List AK} {rs : List RK} (hm : P.follows .mixedOrders = true) (hf : P.funcs[f]? = some fn)
  (hn : Nat.ble (ks.length + 1) fn.ntmps = true) : SndA (Qj1 P f t rs) ks (runO0 P Γ own N fn an t ks rs) [] := by
 have h1 := Nat.le_of_ble_eq_true hn
 have hB : ∀ acc : List XV, acc.length ≤ fn.ntmps - 1 → ∀ y, runB P Γ own N fn an (rkTys t rs) (.d (.sl t []) :: acc) = some y → Qj1 P f t rs y acc :=
  fun acc hl y hy => Qoe hm hf (Nat.ble_eq_true_of_le (by simp; omega)) hy
 exact Qd0 (Q := Qj1 P f t rs) (fn.ntmps - 1) hB ks [] (by simp; omega)
def isOs : XV → Bool
 | .os _ _ _ _ => true
 | _ => false
def oRun2 {P : Program} {R : Type} (t : Ty) (ks : List AK) (rs : List RK) (F : List t.T → Nat → FunA ks (Option (List t.T × ResO rs))) (F0 : FunA ks (Option (ResT (rkTys t rs)))) (o : Oper) (st : XSt) (vs : List XV) (K : Out → Option R) : Option R :=
 match Q1n o, vs with
 | x :: ops, v :: vs' => cond (isOs v) (oRun (P := P) t ks rs F o st vs K) (match decXV (.sl t) v with
  | some [] => appA ks F0 ops vs' [] fun Fv rd => Option.bind Fv fun y => K (Q7 st (resXV (rkTys t rs) y) ((x, .d (.sl t [])) :: rd))
  | _ => none)
 | _, _ => none
theorem Qnf : ∀ {xs : List XV}, argsX xs = true → Qp (asOf xs) = true
 | [], _ => rfl
 | x :: r, h => by
  simp only [argsX] at h
  cases hx : argX x with
  | false => simp [hx] at h
  | true =>
   simp only [hx, cond_true] at h
   have : Q3i x.a = true := by
    unfold argX at hx
    split at hx <;> first | rfl | cases hx
   simp only [asOf, Qp, this, Qnf h, Bool.and_self]
theorem Quj {P : Program} {R : Type} {f : FuncId} {t : Ty} {ks : List AK} {rs : List RK} {F : List t.T → Nat → FunA ks (Option (List t.T × ResO rs))} {F0 : FunA ks (Option (ResT (rkTys t rs)))} (hc : CallI P f) (hs : ∀ l n, Qjp P f t rs l n ks (F l n) []) (hs0 : SndA (Qj1 P f t rs) ks F0 []) {o : Oper} {st : XSt} {aops : Array Operand} {ts : Array TypeId} {vs : List XV} {K : Out → Option R} {r : R}
  (ho : o.op = .call { callee := .value (.func f), args := aops, argTypes := ts }) (hv : Qm st aops.toList = some vs) (h : oRun2 (P := P) t ks rs F F0 o st vs K = some r) : ∃ out, K out = some r ∧ OpOk P o st out := by
 have e : Q1n o = aops.toList := by simp [Q1n, ho]
 unfold oRun2 at h
 rw [e] at h
 split at h
 ·rename_i x ops v vs' hl
  cases hos : isOs v with
  | true =>
   simp only [hos, cond_true] at h
   exact Qoy hc hs ho hv h
  | false =>
   simp only [hos, cond_false] at h
   rw [hl] at hv
   obtain ⟨hx, hvs⟩ := Q80 hv
   split at h
   ·rename_i hd
    obtain ⟨Fv, xs, h1, h2, h3, h4, h5⟩ := Qgn (st := st) ks F0 ops vs' [] [] [] hs0 hvs rfl rfl (by simp [imRd]) rfl h
    obtain ⟨y, hy, hK⟩ := Option.bind_eq_some_iff.1 h5
    simp only [List.nil_append] at h1 h4 hK
    refine ⟨_, hK, Q3 ?_ fun X => ?_⟩
    ·intro p hp
     rcases List.mem_cons.1 hp with rfl | hp
     ·exact Qdn hx hd
     ·exact h4 p hp
    ·have hl' : aops.size = ops.length + 1 := by rw [← Array.length_toList, hl]; rfl
     have := Qpb (X := X) (xs := asOf (.d (.sl t []) :: xs)) ho hc (h2 y hy) (by simp only [asOf, List.length_cons, Q8, hl', h1]) (by
      simp only [asOf, Qp, Qnf h3, Bool.and_true]; rfl) (Qof _ y)
     have e6 : imRd ((x, .d (.sl t [])) :: ops.zip xs) = (x :: ops).zip (asOf (.d (.sl t []) :: xs)) := by
      rw [asOf, List.zip_cons_cons, ← Q6q]; rfl
     rw [hl] at this
     rw [e6]
     exact this
   ·cases h
 ·cases h
def mkO2 {P : Program} {Γ : List (Ent P)} {own : List Nat} {N : Nat} (id : FuncId) (fn : Func) (an an0 : An) (t : Ty) (ks : List AK) (rs : List RK) (F : List t.T → Nat → FunA ks (Option (List t.T × ResO rs))) (F0 : FunA ks (Option (ResT (rkTys t rs)))) (hm : P.follows .mixedOrders = true) (hf : P.funcs[id]? = some fn)
  (hc : CallI P id) (hn : Nat.ble (ks.length + 1) fn.ntmps = true) (hE : runO P Γ own N fn an t ks rs = F) (hE0 : runO0 P Γ own N fn an0 t ks rs = F0) : Ent P where
 id := id
 run := oRun2 (P := P) t ks rs F F0
 ok := by
  intro R o st aops ts vs K r ho hv h
  exact Quj hc (fun l n => hE ▸ Q9l hm hf hn l n) (hE0 ▸ Q9x hm hf hn) ho hv h
end Go.Xl
set_option linter.unusedVariables false
set_option linter.unusedSimpArgs false
set_option linter.unnecessarySimpa false
namespace Go.Xl
open Go.Ab
def finN (P : Program) (fn : Func) (t : Ty) (s : XSt) : Option (Option (List t.T × Nat)) :=
 match xres P s fn.results.toList with
 | some [.os k t' a n] => match lk k s.objs with
  | some (.arr u l) => if h : u.eqb t = true then cond (t'.eqb t) (cond (Nat.beq a 0) (cond (Nat.ble 1000 k) (some (some ((Ty.eqb_eq h ▸ l : List t.T), n))) none) none) none else none
  | _ => none
 | some [x] => match decXV (.sl t) x with
  | some l => Q6s l (some none) fun _ _ => none
  | none => none
 | _ => none
def Qgj (P : Program) (fn : Func) (t : Ty) : Exit → XSt → Option (Option (List t.T × Nat))
 | .ret, s => finN P fn t s
 | .normal, s => finN P fn t s
 | _, _ => none
noncomputable def runBN (P : Program) (Γ : List (Ent P)) (own : List Nat) (N : Nat) (fn : Func) (an : An) (t : Ty) (xs : List XV) : Option (Option (List t.T × Nat)) :=
 match fn.body with
 | some c => cond (Nat.ble fn.ntmps GB) (exec P Γ own [] fn.ntmps N c an ⟨envX 0 xs, [], [], [], []⟩ (Qgj P fn t)) none
 | none => none
def NewS (P : Program) (f : FuncId) (t : Ty) (y : Option (List t.T × Nat)) (xs : List XV) : Prop :=
 match y with
 | none => Does P f (asOf xs) X0 (.d (.sl t.size [])) X0
 | some z => Does P f (asOf xs) X0 (.osl 1 0 z.2 t.size) (O1 t z.1)
theorem Qls {P : Program} {R : Type} {f : FuncId} {fn : Func} {c : Code} {nm : List Nat} {hsm : ∀ j ∈ nm, j < 1000} {xs : List XV} {objs : List (Nat × XOb)} {s0 : XSt} {K : Exit → XSt → Option R} {r : R} {res : AV} {X' : Store}
  (hf : P.funcs[f]? = some fn) (hc : fn.body = some c) (hn : xs.length ≤ fn.ntmps) (hG : fn.ntmps ≤ GB) (hnm : (Q0 objs).map (·.1) = nm) (hs : AWp P ⟨fn.ntmps, nm, hsm⟩ c (PostE s0 K r) (XSt.im ⟨envX 0 xs, objs, [], [], []⟩))
  (hend : ∀ e st', K e st' = some r → e = .ret ∨ e = .normal)
  (fin : ∀ B e st' a' w' g', K e st' = some r → SR ⟨fn.ntmps, nm, hsm⟩ B g' w' st'.im a' → ∃ v g'', (results fn a'.tmps).run P w' = .ok v w' ∧ RA g'' w' res v ∧ HR nm B g'' w' X') :
  Does P f (asOf xs) ⟨Q0 objs, []⟩ res X' := by
 subst hnm
 intro g w vs hr hl ha
 refine calls_of_wp hf hc (wp_mono (hs (Base.of g w ⟨Q0 objs, []⟩) g w _ ?_) ?_)
 ·refine ⟨rfl, ?_, hr, ?_⟩
  ·rw [Q8] at hl
   simp; omega
  ·intro t x hx
   have hx' : (envOf 0 (asOf xs)).lookup t = some x := by rw [← Ql3]; exact hx
   obtain ⟨_, hx'⟩ := Qbb hx'
   rw [Nat.sub_zero] at hx'
   have hlt : t < vs.size := by have := (List.getElem?_eq_some_iff.1 hx').1; omega
   refine ⟨vs[t], ?_, ha t x _ hx' (by simp [hlt])⟩
   rw [Q8] at hl
   rw [Q8x (by omega)]
   simp [Array.getElem?_append, hlt]
 ·rintro e a' w' ⟨s, g', ⟨st', rfl, hi, hk⟩, hs'⟩
  obtain ⟨v, g'', h1, h2, h3⟩ := fin _ e st' a' w' g' hk hs'
  have key : a'.defers = [] ∧ ∃ v, (results fn a'.tmps).run P w' = .ok v w' ∧ ∃ g' v_1, Ending.returned v = Ending.returned v_1 ∧ RA g' w' res v_1 ∧ HR ((Q0 objs).map (·.1)) (Base.of g w ⟨Q0 objs, []⟩) g' w' X' :=
   ⟨hs'.defers, v, h1, g'', v, rfl, h2, h3⟩
  rcases hend e st' hk with rfl | rfl
  ·exact key
  ·exact key
theorem Qul {P : Program} {Γ : List (Ent P)} {own : List Nat} {N : Nat} {f : FuncId} {fn : Func} {an : An} {t : Ty} {xs : List XV} {y : Option (List t.T × Nat)} (hm : P.follows .mixedOrders = true) (hf : P.funcs[f]? = some fn)
  (hn : Nat.ble xs.length fn.ntmps = true) (h : runBN P Γ own N fn an t xs = some y) : NewS P f t y xs := by
 unfold runBN at h
 split at h
 ·rename_i c hc
  obtain ⟨hG, h⟩ := condG h
  have hs := Qds (S := ⟨fn.ntmps, [], by simp⟩) hm rfl c an _ _ _ _ (.refl _) h
  have hend : ∀ e st', Qgj P fn t e st' = some y → e = .ret ∨ e = .normal := by
   intro e st' hk
   cases e <;> simp_all [Qgj]
  have hkey : ∀ e st', Qgj P fn t e st' = some y → finN P fn t st' = some y := by
   intro e st' hk
   cases e <;> simp_all [Qgj]
  cases y with
  | none =>
   refine Qls (objs := []) (hsm := by simp [Q0]) hf hc (Nat.le_of_ble_eq_true hn) hG rfl hs hend fun B e st' a' w' g' hk hs' => ?_
   have h := hkey e st' hk
   unfold finN at h
   split at h
   ·split at h
    ·split at h
     ·rename_i k t' a n _ _ _ _ _ _
      cases h2 : t'.eqb t <;> cases h3 : Nat.beq a 0 <;> cases h4 : Nat.ble 1000 k <;> simp [h2, h3, h4] at h
     ·cases h
    ·cases h
   ·rename_i x _ hx
    split at h
    ·rename_i l hd
     cases l with
     | cons _ _ => simp [Q6s] at h
     | nil =>
     obtain ⟨v, hv, hra⟩ := Qa1 (Qag hx) hs'
     have hw : Weak [] st'.im ⟨[], X0⟩ := ⟨by simp, by simp [X0], by simp [X0], by simp⟩
     obtain ⟨g'', ht, hs''⟩ := hs'.weaken' hw
     have hra' := hra.mono ht (.nil _)
     exact ⟨v, g'', hv, Qgy hd g'' w' v hra', hs''.hr⟩
    ·cases h
   ·cases h
  | some z =>
   refine Qls (objs := []) (hsm := by simp [Q0]) hf hc (Nat.le_of_ble_eq_true hn) hG rfl hs hend fun B e st' a' w' g' hk hs' => ?_
   have h := hkey e st' hk
   unfold finN at h
   split at h
   ·rename_i k t' a n hx
    split at h
    ·rename_i u l hkl
     split at h
     ·rename_i hu
      have := Ty.eqb_eq hu
      subst this
      cases h2 : t'.eqb u with
      | false => simp [h2] at h
      | true =>
      cases h3 : Nat.beq a 0 with
      | false => simp [h2, h3] at h
      | true =>
      cases h4 : Nat.ble 1000 k with
      | false => simp [h2, h3, h4] at h
      | true =>
       simp only [h2, h3, h4, cond_true, Option.some.injEq] at h
       subst h
       have e1 := Ty.eqb_eq h2
       have e2 := Nat.eq_of_beq_eq_true h3
       have e3 := Nat.le_of_ble_eq_true h4
       subst e1; subst e2
       obtain ⟨v, hv, hra⟩ := Qa1 (Qag hx) hs'
       have hw : Weak [] st'.im ⟨[], ⟨[(k, (XOb.arr t' l).o)], []⟩⟩ := ⟨by simp, by
        intro p hp
        simp only [List.mem_singleton] at hp
        subst hp
        exact Q8z hkl, by simp, by simp⟩
       obtain ⟨g'', ht, hs''⟩ := hs'.weaken' hw
       have hra' := hra.mono ht (.nil _)
       obtain ⟨hr2, ht2⟩ := hs''.hr.renameObj (k := k) (m := 1) (o := (XOb.arr t' l).o) (by simp [Q0]) (by simp [Q0]) (by
        have := Qex [1] t' l
        simp [Qa, this]) (by simp) (by omega)
       refine ⟨v, _, hv, ?_, hr2.alike ⟨fun j => ?_, rfl⟩⟩
       ·refine RA.osl_name (g := g'') (k := k) ?_ (show upd g''.ρ 1 (g''.ρ k) 1 = g''.ρ k from upd_same _ _ _)
        simp only [asOf, Qem, XV.a, Nat.zero_mul] at hra'
        exact hra'
       ·simp only [O1, List.lookup_cons, Ab.dropObj]
        by_cases hj : j = 1
        ·subst hj; simp
        ·simp [hj]
     ·cases h
    ·cases h
   ·split at h
    ·rename_i l _
     cases l <;> simp [Q6s] at h
    ·cases h
   ·cases h
 ·cases h
theorem Qxy {P : Program} {Γ : List (Ent P)} {own : List Nat} {N : Nat} {f : FuncId} {fn : Func} {an : An} {t : Ty} {ks : List AK} (hm : P.follows .mixedOrders = true) (hf : P.funcs[f]? = some fn)
  (hn : Nat.ble ks.length fn.ntmps = true) : SndA (NewS P f t) ks (bindA ks (fun xs => runBN P Γ own N fn an t xs) []) [] := by
 have h1 := Nat.le_of_ble_eq_true hn
 have hB : ∀ acc : List XV, acc.length ≤ fn.ntmps → ∀ y, runBN P Γ own N fn an t acc = some y → NewS P f t y acc :=
  fun acc hl y hy => Qul hm hf (Nat.ble_eq_true_of_le hl) hy
 exact Qd0 (Q := NewS P f t) fn.ntmps hB ks [] (by simpa using h1)
noncomputable def runN (P : Program) (Γ : List (Ent P)) (own : List Nat) (N : Nat) (fn : Func) (an : An) (t : Ty) (ks : List AK) : FunA ks (Option (Option (List t.T × Nat))) :=
 bindA ks (fun xs => runBN P Γ own N fn an t xs) []
def nRun {P : Program} {R : Type} (t : Ty) (ks : List AK) (F : FunA ks (Option (Option (List t.T × Nat)))) (o : Oper) (st : XSt) (vs : List XV) (K : Out → Option R) : Option R :=
 match newName o with
 | some m => appA ks F (Q1n o) vs [] fun Fv rd => Option.bind Fv fun y => Q3j y (K (Q7 st (.d (.sl t [])) rd)) fun z =>
   cond (Q4b [m] st) (K ⟨.all, .os m t 0 z.2, rd, (m, .arr t z.1) :: dropX m st.objs, st.live, [m], [m]⟩) none
 | none => none
theorem OpT.drop {P : Program} {o : Oper} {rd : List (Operand × AV)} {X X' : Store} {F : List Nat} {res : AV} {m : Nat} (h : OpT P o rd (Ab.dropObj m X) X' F res) (hm : 1000 ≤ m) : OpT P o rd X X' F res := by
 intro nm hsm B g w a hr hrd
 exact h nm hsm B g w a (hr.dropObj fun hh => by have := hsm m hh; omega) hrd
theorem OpT.alikeR {P : Program} {o : Oper} {rd : List (Operand × AV)} {X X' Y : Store} {F : List Nat} {res : AV} (h : OpT P o rd X X' F res) (e : Ab.Alike X' Y) : OpT P o rd X Y F res := by
 intro nm hsm B g w a hr hrd next Q hn
 exact h nm hsm B g w a hr hrd next Q fun g' w' v h1 h2 h3 => hn g' w' v (h1.alike e) h2 h3
theorem Q125 {P : Program} {R : Type} {f : FuncId} {t : Ty} {ks : List AK} {F : FunA ks (Option (Option (List t.T × Nat)))} (hc : CallI P f) (hs : SndA (NewS P f t) ks F []) {o : Oper} {st : XSt} {aops : Array Operand} {ts : Array TypeId} {vs : List XV} {K : Out → Option R} {r : R}
  (ho : o.op = .call { callee := .value (.func f), args := aops, argTypes := ts }) (hv : Qm st aops.toList = some vs) (h : nRun (P := P) t ks F o st vs K = some r) : ∃ out, K out = some r ∧ OpOk P o st out := by
 have e : Q1n o = aops.toList := by simp [Q1n, ho]
 unfold nRun at h
 rw [e] at h
 split at h
 ·rename_i m hm
  obtain ⟨Fv, xs, h1, h2, h3, h4, h5⟩ := Qgn (st := st) ks F aops.toList vs [] [] [] hs hv rfl rfl (by simp [imRd]) rfl h
  obtain ⟨y, hy, hK⟩ := Option.bind_eq_some_iff.1 h5
  simp only [List.nil_append] at h1 h4 hK
  have hd := h2 y hy
  cases y with
  | none =>
   simp only [Q3j] at hK
   refine ⟨_, hK, Q3 h4 fun X => ?_⟩
   have hda : Qp (asOf xs) = true := by
    clear h1 h2 h4 h5 hd hK hy
    induction xs with
    | nil => rfl
    | cons x r ih =>
     simp only [argsX] at h3
     cases hx : argX x with
     | false => simp [hx] at h3
     | true =>
      simp only [hx, cond_true] at h3
      have : Q3i x.a = true := by
       unfold argX at hx
       split at hx <;> first | rfl | cases hx
      simp only [asOf, Qp, this, ih h3, Bool.and_self]
   have := Qpb (X := X) (xs := asOf xs) ho hc hd (by rw [Q8, h1]; simp) hda rfl
   rw [Q6q]
   exact this
  | some z =>
   simp only [Q3j] at hK
   cases h6 : Q4b [m] st with
   | false => simp [h6] at hK
   | true =>
    simp only [h6, cond_true] at hK
    have hm1 := Qdo hm
    refine ⟨_, hK, ⟨h4, ?_, fun j x hj hx => ?_⟩⟩
    ·refine OpT.drop (m := m) ?_ hm1
     have hoc : ObjCall (Ab.dropObj m st.X) X0 (O1 t z.1) (nf [(1, m)]) [m] := by
      refine ⟨⟨rfl, rfl⟩, by simp [X0], by simp [X0], by simp [O1, Qjn], by simp [O1], by simp [X0], ?_, by simp [X0], ?_⟩
      ·intro p hp
       simp only [O1, List.mem_singleton] at hp
       subst hp
       exact .inr ⟨by simp [nf], by simp [nf, Ab.dropObj, Q1g]⟩
      ·have h6 := Q7a h6
       unfold Qa at h6 ⊢
       simp only [List.isEmpty_cons, Bool.false_or] at h6 ⊢
       rw [List.all_eq_true] at h6 ⊢
       intro p hp
       simp only [Ab.dropObj, List.mem_filter] at hp
       exact h6 p hp.1
     have hcall := Qm7 (X := Ab.dropObj m st.X) [(1, m)] [m] ho hc hd hoc (by rw [Q8, h1]; simp) (Qg0 h3) rfl
     rw [Qk8 h3, ← Q6q] at hcall
     have e7 : Q68 (nf [(1, m)]) (O1 t z.1).objs (Ab.dropObj m st.X).objs = Ab.setObj m (XOb.arr t z.1).o (Ab.dropObj m st.X).objs := by
      simp only [O1, Q68, Qkj]; rfl
     rw [e7] at hcall
     have e8 : mapAV (nf [(1, m)]) (.osl 1 0 z.2 t.size) = (XV.os m t 0 z.2).a := by
      simp only [XV.a, Nat.zero_mul]; rfl
     rw [e8] at hcall
     refine OpT.alikeR hcall ⟨fun j => ?_, rfl⟩
     show (Ab.setObj m (XOb.arr t z.1).o (Ab.dropObj m st.X).objs).lookup j = ((m, (XOb.arr t z.1).o) :: Q0 (dropX m st.objs)).lookup j
     rw [Qb, List.lookup_cons, Q93]
     by_cases hj : j = m
     ·subst hj; simp
     ·have : (j == m) = false := by simpa using hj
      rw [if_neg hj, this]; rfl
    ·simp only [List.mem_cons, List.not_mem_nil, or_false] at hj
     rw [Q10 hj] at hx
     exact Qa7 hx
 ·cases h
def mkN {P : Program} {Γ : List (Ent P)} {own : List Nat} {N : Nat} (id : FuncId) (fn : Func) (an : An) (t : Ty) (ks : List AK) (F : FunA ks (Option (Option (List t.T × Nat)))) (hm : P.follows .mixedOrders = true) (hf : P.funcs[id]? = some fn)
  (hc : CallI P id) (hn : Nat.ble ks.length fn.ntmps = true) (hE : runN P Γ own N fn an t ks = F) : Ent P where
 id := id
 run := nRun (P := P) t ks F
 ok := by
  intro R o st aops ts vs K r ho hv h
  exact Q125 hc (hE ▸ Qxy hm hf hn) ho hv h
end Go.Xl
set_option linter.unusedVariables false
set_option linter.unusedSimpArgs false
namespace Go.Ab
open Go.RowKit
def fullγ (w : World) (b : Nat) : Nat :=
 match w.heap[b]? with
 | some (.cells c _ _) => c.size
 | _ => 0
def full (w : World) : Gh := { γ := fullγ w, β := fun _ => none, ρ := fun _ => 0 }
theorem Q12c (w : World) : HR [] (Base.of (full w) w X0) (full w) w X0 := by
 refine ⟨by simp, ?_, Nat.le_refl _, ⟨rfl, rfl, rfl, Nat.le_refl _⟩, .refl _ _, fun _ _ _ => ⟨rfl, rfl⟩, by simp [X0], by simp [X0], by simp [X0], by simp [X0], by simp [X0, full], by simp [full], by simp [full], by simp [full], by simp [full], .off fun _ => rfl⟩
 intro b i hi
 simp only [full, fullγ] at hi
 split at hi
 ·rename_i c T fr h
  rw [cell?_cells h]
  simp [hi]
 ·omega
theorem Does.below {P : Program} {f : FuncId} {args : List AV} {res : AV} (h : Does P f args X0 res X0) {w : World} {vs : Array Value} (hl : args.length = vs.size)
  (ha : ∀ (i : Nat) x v, args[i]? = some x → vs[i]? = some v → RA (full w) w x v) :
  Calls P f vs w fun e w' => ∃ v g', e = .returned v ∧ RA g' w' res v ∧ Below w.heap.size w w' := by
 refine (h (full w) w vs (Q12c w) hl ha).mono ?_
 rintro e w' ⟨g', v, rfl, hr, h1⟩
 refine ⟨v, g', rfl, hr, ⟨h1.io.1, h1.io.2.2.1, h1.io.2.1, h1.base, fun b hb => (h1.frame b hb ?_).1⟩⟩
 rintro (⟨k, o, hk, _⟩ | ⟨n, hn⟩)
 ·simp [X0] at hk
 ·simp [full] at hn
theorem Does.law {P : Program} {f : FuncId} {args : List AV} (h : Does P f args X0 (.d (.sc (.bool true))) X0) {w : World} {vs : Array Value} (hl : args.length = vs.size)
  (ha : ∀ (i : Nat) x v, args[i]? = some x → vs[i]? = some v → RA (full w) w x v) :
  Calls P f vs w fun e w' => e = .returned (.bool true) ∧ Below w.heap.size w w' := by
 refine (h.below hl ha).mono ?_
 rintro e w' ⟨v, g', rfl, hr, hb⟩
 exact ⟨by rw [hr.sc_inv], hb⟩
inductive RAs (g : Gh) (w : World) : List AV → List Value → Prop
 | nil : RAs g w [] []
 | cons {x : AV} {v : Value} {r : List AV} {rs : List Value} : RA g w x v → RAs g w r rs → RAs g w (x :: r) (v :: rs)
theorem RAs.get {g : Gh} {w : World} {l : List AV} {vs : List Value} (h : RAs g w l vs) : l.length = vs.length ∧ ∀ (i : Nat) x v, l[i]? = some x → vs[i]? = some v → RA g w x v := by
 induction h with
 | nil => exact ⟨rfl, by simp⟩
 | cons h _ ih =>
  refine ⟨by simp [ih.1], ?_⟩
  intro i x u hx hu
  cases i with
  | zero => simp at hx hu; subst hx; subst hu; exact h
  | succ i => exact ih.2 i x u (by simpa using hx) (by simpa using hu)
theorem Does.lawAs {P : Program} {f : FuncId} {args : List AV} (h : Does P f args X0 (.d (.sc (.bool true))) X0) {w : World} {vs : Array Value} (ha : RAs (full w) w args vs.toList) :
  Calls P f vs w fun e w' => e = .returned (.bool true) ∧ Below w.heap.size w w' :=
 h.law (by have := ha.get.1; simpa using this) fun i x v hx hv => ha.get.2 i x v hx (by simpa using hv)
theorem Qx3 {w : World} {b i : Nat} {v : Value} (h : w.cell? ⟨b, i, none⟩ = some v) : i < fullγ w b := by
 unfold World.cell? at h
 unfold fullγ
 simp only at h
 split at h
 ·rename_i c T fr hh
  rw [hh]
  simp at h
  exact (Array.getElem?_eq_some_iff.1 h).1
 ·cases h
end Go.Ab
set_option linter.unusedVariables false
set_option linter.unusedSimpArgs false
namespace Go.Ab
open Go.Sort Go.Proofs
section
variable {P : Program} {o : Oper} {X : Store}
end
end Go.Ab
set_option linter.unusedVariables false
set_option linter.unusedSimpArgs false
set_option linter.unnecessarySimpa false
namespace Go.Xl
open Go.Ab Go.Sort Go.Proofs
def Ty.dflt : (t : Ty) → t.T
 | .int _ => (0 : Int)
 | .u8 => (0 : UInt8)
 | .bool => false
 | .str => ([] : List UInt8)
 | .sl _ => []
 | .unit => ()
 | .pair a b => (a.dflt, b.dflt)
 | .st1 a => a.dflt
 | .tab _ => []
 | .err => false
 | .ic _ _ => none
 | .ptr => ()
def scOf : D → Value
 | .sc v => v
 | _ => undef
def Qc1 : List D → Bool
 | [] => true
 | .sc _ :: r => Qc1 r
 | _ :: _ => false
theorem Qoa : ∀ {l : List D}, Qc1 l = true → (l.map scOf).map .sc = l
 | [], _ => rfl
 | .sc v :: r, h => by simp only [List.map_cons, scOf]; rw [Qoa (l := r) h]
 | .agg _ :: r, h => by simp [Qc1] at h
 | .sl _ _ :: r, h => by simp [Qc1] at h
 | .ep _ :: r, h => by simp [Qc1] at h
 | .any _ :: r, h => by simp [Qc1] at h
def Ty.vals (t : Ty) (x : t.T) : List Value := (t.ds x).map scOf
structure Ty.Plain (t : Ty) : Prop where
 ok : ∀ x : t.T, Qc1 (t.ds x) = true
theorem Ty.Plain.vals {t : Ty} (h : t.Plain) (x : t.T) : (t.vals x).map D.sc = t.ds x := Qoa (h.ok x)
@[reducible] def tyInh (T : Ty) : Inhabited T.T := ⟨T.dflt⟩
structure Sorts (P : Program) (f c : FuncId) (T : Ty) (φ : List T.T → List T.T) : Prop where
 plain : T.Plain
 ci : CallI P f
 len : ∀ d, (φ d).length = d.length
 none : ∀ p cap w, Calls P f #[.slice p 0 cap, .func (.func c) #[] #[]] w fun e w' => e = .returned (.tuple #[]) ∧ w' = w
 some : letI := tyInh T; ∀ (l : List T.T) blk cap w, l.length ≤ 4611686018427387903 → HoldsK T.vals T.size w blk 0 l.toArray → blk < w.heap.size →
  Calls P f #[.slice (some ⟨blk, 0, .none⟩) l.length cap, .func (.func c) #[] #[]] w fun e w' => e = .returned (.tuple #[]) ∧ ∃ n os, w' = sortWorldK T.vals T.size w blk 0 n (φ l).toArray os
end Go.Xl
set_option linter.unusedVariables false
set_option linter.unusedSimpArgs false
namespace Go.Xl
open Go.Ab
theorem NewS.empty {P : Program} {f : FuncId} {t : Ty} {xs : List XV} (h : NewS P f t (some ([], 0)) xs) : NewS P f t none xs := by
 intro g w vs hr hl ha
 refine (h g w vs hr hl ha).mono ?_
 rintro e w' ⟨g', v, rfl, h1, h2⟩
 refine ⟨g', v, rfl, ?_, ?_⟩
 ·obtain ⟨cap, o, _, hv, _⟩ := RA.osl_inv h1
  rw [hv]
  exact .d _ _ (.nil _ _ _ (by simp))
 ·refine (h2.dropObj (k := 1) (by simp [X0])).alike ⟨fun j => ?_, rfl⟩
  simp only [O1, Ab.dropObj, X0]
  by_cases hj : j = 1
  ·subst hj; rfl
  ·rfl
end Go.Xl
set_option linter.unusedVariables false
set_option linter.unusedSimpArgs false
set_option linter.unnecessarySimpa false
namespace Go.Xl
open Go.Ab
def GHold (g : Gh) (w : World) (gs : List (Nat × AV)) : Prop := ∀ p ∈ gs, RA g w p.2 (.pointer (some ⟨p.1, 0, none⟩))
def DoesG (P : Program) (f : FuncId) (args : List AV) (gs : List (Nat × AV)) (res : AV) : Prop :=
 ∀ (g : Gh) (w : World) (vs : Array Value), HR [] (Base.of g w X0) g w X0 → GHold g w gs → args.length = vs.size →
  (∀ (i : Nat) x v, args[i]? = some x → vs[i]? = some v → RA g w x v) →
  Calls P f vs w fun e w' => ∃ g' v, e = .returned v ∧ RA g' w' res v ∧ HR [] (Base.of g w X0) g' w' X0
theorem DoesG.plain {P : Program} {f : FuncId} {args : List AV} {res : AV} (h : DoesG P f args [] res) : Does P f args X0 res X0 :=
 fun g w vs hr hl ha => h g w vs hr (by simp [GHold]) hl ha
theorem DoesG.use {P : Program} {X : Store} {f : FuncId} {xs : List AV} {gs : List (Nat × AV)} {res : AV} (hs : DoesG P f xs gs res) (hd : Qp xs = true) (hg : Qp (gs.map (·.2)) = true) (hdr : Q3i res = true) {nm : List Nat} {B : Base} {g : Gh} {w : World}
  (hr : HR nm B g w X) (hgs : GHold g w gs) {vs : Array Value} (hl : xs.length = vs.size) (hvs : ∀ (i : Nat) x v, xs[i]? = some x → vs[i]? = some v → RA g w x v) :
  Calls P f vs w fun e w' => ∃ v g', e = .returned v ∧ HR nm B g' w' X ∧ Trans [] g w g' w' ∧ RA g' w' res v := by
 have h0 : HR [] (Base.of { g with β := fun _ => none } w X0) { g with β := fun _ => none } w X0 :=
  ⟨by simp, hr.sane, Nat.le_refl _, ⟨rfl, rfl, rfl, Nat.le_refl _⟩, .refl _ _, fun b _ _ => ⟨rfl, rfl⟩, by simp [X0], by simp [X0], by simp [X0], by simp [X0], by simp [X0], by simp, by simp, by simp, by simp, .off fun _ => rfl⟩
 have hgs' : GHold { g with β := fun _ => none } w gs := by
  intro p hp
  obtain ⟨i, hi⟩ := List.getElem?_of_mem hp
  exact (hgs p hp).data (Q6x hg (i := i) (by rw [List.getElem?_map, hi]; rfl)) (.refl _ _)
 have := hs { g with β := fun _ => none } w vs h0 hgs' hl fun i x v hx hv => (hvs i x v hx hv).data (Q6x hd hx) (.refl _ _)
 refine this.mono ?_
 rintro e w' ⟨gc, v, rfl, hra, h1⟩
 obtain ⟨h2, h3⟩ := hr.pureCall (gc := gc) h1
 exact ⟨v, _, rfl, h2, h3, hra.data hdr (.refl _ _)⟩
theorem Qm0 : ∀ {l : List AV} (ks : List Nat), Qp l = true → Qp ((ks.zip l).map (·.2)) = true
 | [], ks, _ => by cases ks <;> rfl
 | x :: r, [], _ => rfl
 | x :: r, k :: ks, h => by
  simp only [Qp, Bool.and_eq_true] at h
  simp only [List.zip_cons_cons, List.map_cons, Qp, Bool.and_eq_true]
  exact ⟨h.1, Qm0 ks h.2⟩
def glE : List Nat → List XV → List (Nat × XV)
 | k :: ks, x :: r => (GB + k, x) :: glE ks r
 | _, _ => []
theorem Qvv : ∀ {gids : List Nat} {xs : List XV} {t : Nat} {x : AV}, (t, x) ∈ imEnv (glE gids xs) → ∃ k, t = GB + k ∧ (k, x) ∈ gids.zip (asOf xs)
 | [], xs, t, x, h => by simp [glE, imEnv] at h
 | k :: ks, [], t, x, h => by simp [glE, imEnv] at h
 | k :: ks, y :: r, t, x, h => by
  simp only [glE, imEnv, List.map_cons, List.mem_cons, Prod.mk.injEq] at h
  rcases h with ⟨rfl, rfl⟩ | h
  ·exact ⟨k, rfl, by simp [asOf]⟩
  ·obtain ⟨k', h1, h2⟩ := Qvv (gids := ks) (xs := r) (t := t) (x := x) (by simpa [imEnv] using h)
   exact ⟨k', h1, by simp only [asOf, List.zip_cons_cons]; exact List.mem_cons_of_mem _ h2⟩
def gops : List Nat → List Operand
 | [] => []
 | k :: r => .global k :: gops r
theorem Qt9 (l : List Nat) : gops l = l.map Operand.global := by
 induction l with
 | nil => rfl
 | cons k r ih => simp [gops, ih]
def appL {α : Type} : List α → List α → List α
 | [], b => b
 | x :: r, b => x :: appL r b
theorem Qw5 {α : Type} (a b : List α) : appL a b = a ++ b := by
 induction a with
 | nil => rfl
 | cons x r ih => simp [appL, ih]
theorem Qda {st : XSt} : ∀ {a b : List Operand} {u v : List XV}, Qm st a = some u → Qm st b = some v → Qm st (a ++ b) = some (u ++ v)
 | [], b, u, v, h, h' => by simp [Qm] at h; subst h; exact h'
 | x :: a, b, u, v, h, h' => by
  simp only [Qm] at h
  split at h
  ·rename_i y l hy hl
   cases h
   simp only [List.cons_append, Qm, hy, Qda hl h']
  ·cases h
end Go.Xl
set_option linter.unusedVariables false
set_option linter.unusedSimpArgs false
set_option linter.unnecessarySimpa false
namespace Go.Xl
open Go.Ab
mutual
def XV.mp (f fl : Nat → Nat) : XV → XV
 | .d x => .d x
 | .nm k p => .nm (f k) p
 | .tip n t l ty => .tip (fl n) t l ty
 | .tup l => .tup (mpL f fl l)
 | .agg l => .agg (mpL f fl l)
 | .clo g l => .clo g (mpL f fl l)
 | .os k t a len => .os (f k) t a len
 | .el k t i fo => .el (f k) t i fo
 | .tpt n e x l => .tpt (fl n) e x l
def mpL (f fl : Nat → Nat) : List XV → List XV
 | [] => []
 | x :: r => x.mp f fl :: mpL f fl r
end

mutual
theorem XV.mp_a (f fl : Nat → Nat) : ∀ x : XV, (x.mp f fl).a = mapL f fl x.a
 | .d x => rfl
 | .nm k p => rfl
 | .tip n t l ty => rfl
 | .tup l => by simp only [XV.mp, XV.a, mapL, mpL_a f fl l]
 | .agg l => by simp only [XV.mp, XV.a, mapL, mpL_a f fl l]
 | .clo g l => by simp only [XV.mp, XV.a, mapL, mpL_a f fl l]
 | .os k t a len => rfl
 | .el k t i fo => rfl
 | .tpt n e x l => rfl
theorem mpL_a (f fl : Nat → Nat) : ∀ l : List XV, asOf (mpL f fl l) = mapLs f fl (asOf l)
 | [] => rfl
 | x :: r => by simp only [mpL, asOf, mapLs, XV.mp_a f fl x, mpL_a f fl r]
end

theorem Ql4 (f fl : Nat → Nat) (l : List XV) : mpL f fl l = l.map (XV.mp f fl) := by
 induction l with
 | nil => rfl
 | cons x r ih => simp [mpL, ih]
mutual
def XV.nms (ks ls : List Nat) : XV → Bool
 | .d _ => true
 | .nm k _ => inl k ks
 | .tip n _ _ _ => inl n ls
 | .tup l => nmsL ks ls l
 | .agg l => nmsL ks ls l
 | .clo _ l => nmsL ks ls l
 | .os k _ _ _ => inl k ks
 | .el k _ _ _ => inl k ks
 | .tpt n _ _ _ => inl n ls
def nmsL (ks ls : List Nat) : List XV → Bool
 | [] => true
 | x :: r => cond (x.nms ks ls) (nmsL ks ls r) false
end

theorem Qe1 {k : Nat} {l : List Nat} (h : inl k l = true) : l.contains k = true := List.contains_iff_mem.2 ((Qx k l).1 h)
mutual
theorem XV.nms_a {ks ls : List Nat} : ∀ {x : XV}, x.nms ks ls = true → Q1p ks ls x.a = true
 | .d x, h => rfl
 | .nm k p, h => Qe1 h
 | .tip n t l ty, h => Qe1 h
 | .tup l, h => by simp only [XV.nms] at h; simp only [XV.a, Q1p]; exact Qf1 h
 | .agg l, h => by simp only [XV.nms] at h; simp only [XV.a, Q1p]; exact Qf1 h
 | .clo g l, h => by simp only [XV.nms] at h; simp only [XV.a, Q1p]; exact Qf1 h
 | .os k t a len, h => Qe1 h
 | .el k t i fo, h => Qe1 h
 | .tpt n e x l, h => Qe1 h
theorem Qf1 {ks ls : List Nat} : ∀ {l : List XV}, nmsL ks ls l = true → Q3p ks ls (asOf l) = true
 | [], h => rfl
 | x :: r, h => by
  simp only [nmsL] at h
  cases hx : x.nms ks ls with
  | false => simp [hx] at h
  | true =>
   simp only [hx, cond_true] at h
   simp only [asOf, Q3p, XV.nms_a hx, Qf1 h, Bool.and_self]
end

def XOb.mp (f fl : Nat → Nat) : XOb → XOb
 | .cells cs ty => .cells (mpL f fl cs) ty
 | .arr t l => .arr t l
 | .sit s p => .sit s p
 | .map kt vt es c => .map kt vt es c
 | .mit m a b c => .mit (f m) a b c
 | .mitn => .mitn
 | .bts e l => .bts e l
 | .mapt L kt vt es c => .mapt L kt vt es c
theorem Qfv (f fl : Nat → Nat) : ∀ l : List D, mapLs f fl (l.map .d) = l.map .d
 | [] => rfl
 | x :: r => by simp only [List.map_cons, mapLs, mapL, Qfv f fl r]
theorem XOb.mp_o (f fl : Nat → Nat) (o : XOb) : (o.mp f fl).o = Q37 f fl o.o := by
 cases o with
 | cells cs ty => simp only [XOb.mp, XOb.o, Q37, mpL_a]
 | arr t l => simp only [XOb.mp, XOb.o, Q37, Qfv]
 | bts e l => simp only [XOb.mp, XOb.o, Q37, Qfv]
 | _ => rfl
def XOb.nms (ks ls : List Nat) : XOb → Bool
 | .cells cs _ => nmsL ks ls cs
 | .mit m _ _ _ => inl m ks
 | .mapt _ _ _ _ _ => false
 | _ => true
theorem Qdh (ks ls : List Nat) : ∀ l : List D, Q3p ks ls (l.map .d) = true
 | [] => rfl
 | x :: r => by simp only [List.map_cons, Q3p, Q1p, Qdh ks ls r, Bool.and_self]
theorem XOb.nms_o {ks ls : List Nat} {o : XOb} (h : o.nms ks ls = true) : Q3s ks ls o.o = true := by
 cases o with
 | cells cs ty => simp only [XOb.nms] at h; simp only [XOb.o, Q3s]; exact Qf1 h
 | arr t l => simp only [XOb.o, Q3s]; exact Qdh _ _ _
 | bts e l => simp only [XOb.o, Q3s]; exact Qdh _ _ _
 | mit m a b c => exact Qe1 h
 | mapt L kt vt es c => simp [XOb.nms] at h
 | _ => rfl
def Qc6 (ks ls : List Nat) : List (Nat × XOb) → Bool
 | [] => true
 | p :: r => cond (p.2.nms ks ls) (Qc6 ks ls r) false
theorem Qhc {ks ls : List Nat} : ∀ {l : List (Nat × XOb)}, Qc6 ks ls l = true → ((Q0 l).all fun p => Q3s ks ls p.2) = true
 | [], _ => rfl
 | p :: r, h => by
  simp only [Qc6] at h
  cases hx : p.2.nms ks ls with
  | false => simp [hx] at h
  | true =>
   simp only [hx, cond_true] at h
   have := Qhc h
   simp only [Q0, List.map_cons, List.all_cons, XOb.nms_o hx, Bool.true_and] at this ⊢
   exact this
def putXs (f fl : Nat → Nat) : List (Nat × XOb) → List (Nat × XOb) → List (Nat × XOb)
 | [], acc => acc
 | p :: r, acc => putXs f fl r (xset (f p.1) (p.2.mp f fl) acc)
theorem Qn3 (f fl : Nat → Nat) : ∀ (l acc : List (Nat × XOb)), Q0 (putXs f fl l acc) = Qv f fl (Q0 l) (Q0 acc)
 | [], acc => rfl
 | p :: r, acc => by
  have := Qn3 f fl r (xset (f p.1) (p.2.mp f fl) acc)
  rw [Q9e, XOb.mp_o] at this
  exact this
theorem Qm1 (f fl : Nat → Nat) : ∀ (l acc : List (Nat × XOb)) (j : Nat), (∀ p ∈ l, f p.1 ≠ j) → lk j (putXs f fl l acc) = lk j acc
 | [], acc, j, h => rfl
 | p :: r, acc, j, h => by
  simp only [putXs]
  rw [Qm1 f fl r _ j (fun q hq => h q (List.mem_cons_of_mem _ hq)), Q66 _ _ _ _ (fun e => h p (List.mem_cons_self ..) e.symm)]
inductive ObLe : Ob → Ob → Prop
 | refl (o : Ob) : ObLe o o
 | cells {cs cs' : List AV} {ty ty' : Option TypeId} : cs.length = cs'.length → (∀ (i : Nat) x y, cs[i]? = some x → cs'[i]? = some y → ALe x y) → (ty' = ty ∨ ty' = none) → ObLe (.cells cs ty) (.cells cs' ty')
theorem Qy5 {g : Gh} {w : World} {b : Nat} {o o' : Ob} (h : ObRel g w b o) (hle : ObLe o o') : ObRel g w b o' := by
 cases hle with
 | refl => exact h
 | cells hl hc ht =>
  cases h with
  | cells _ _ arr T h1 h2 h3 h4 =>
   refine .cells _ _ arr T h1 (hl ▸ h2) ?_ ?_
   ·intro i y v hy hv
    have hlt := (List.getElem?_eq_some_iff.1 hy).1
    obtain ⟨x, hx⟩ : ∃ x, _ = some x := ⟨_, List.getElem?_eq_getElem (l := _) (i := i) (by rw [hl]; exact hlt)⟩
    exact hc i x y hx hy g w v (h3 i x v hx hv)
   ·intro t hh
    rcases ht with e | e
    ·exact h4 t (e ▸ hh)
    ·rw [e] at hh; cases hh
theorem Qw3 {nm : List Nat} {B : Base} {g : Gh} {w : World} {X Y : Store} (h : HR nm B g w X) (hle : ∀ k o', Y.objs.lookup k = some o' → ∃ o, X.objs.lookup k = some o ∧ ObLe o o')
  (hk : ∀ k, (X.objs.lookup k).isSome → (Y.objs.lookup k).isSome) (hl : Y.live = X.live) : HR nm B g w Y where
 keep k hm := ⟨(h.keep k hm).1, hk k (h.keep k hm).2⟩
 sane := h.sane
 base := h.base
 io := h.io
 le := h.le
 frame := h.frame
 objs k o' ho := by obtain ⟨o, h1, h2⟩ := hle k o' ho; exact Qy5 (h.objs k o h1) h2
 objγ k o' ho := by obtain ⟨o, h1, h2⟩ := hle k o' ho; exact h.objγ k o h1
 objinj k k' o o' ho ho' := by
  obtain ⟨_, h1, _⟩ := hle k o ho
  obtain ⟨_, h2, _⟩ := hle k' o' ho'
  exact h.objinj k k' _ _ h1 h2
 objnew k o' ho := by obtain ⟨o, h1, h2⟩ := hle k o' ho; exact h.objnew k o h1
 live n := by rw [hl]; exact h.live n
 tipinj := h.tipinj
 tipobj n b k o' hn ho := by obtain ⟨o, h1, h2⟩ := hle k o' ho; exact h.tipobj n b k o hn h1
 tipnew := h.tipnew
 tiplt := h.tiplt
 eta := h.eta.same (Nat.le_refl _) fun k o' ho => let ⟨o, h1, _⟩ := hle k o' ho; ⟨o, h1⟩
theorem Q11f {P : Program} {o : Oper} {rd : List (Operand × AV)} {X Y X' : Store} {F : List Nat} {res : AV} (h : OpT P o rd Y X' F res) (hle : ∀ k o', Y.objs.lookup k = some o' → ∃ o, X.objs.lookup k = some o ∧ ObLe o o')
  (hk : ∀ k, (X.objs.lookup k).isSome → (Y.objs.lookup k).isSome) (hl : Y.live = X.live) : OpT P o rd X X' F res :=
 fun nm hsm B g w a hr => h nm hsm B g w a (Qw3 hr hle hk hl)
theorem Qnd {P : Program} {X : Store} {o : Oper} {fn : FuncId} {c : Operand} {args : Array Operand} {ts : Array TypeId} {xs caps : List AV} {res : AV} {Xc Xc' : Store} (f fl : Nat → Nat) (F : List Nat)
  (ho : o.op = .call { callee := .value c, args := args, argTypes := ts }) (hf : CallI P fn) (hs : Does P fn (xs ++ caps) Xc res Xc') (hc : LabCall X Xc Xc' f fl F)
  (hl : xs.length = args.size) (hd : Q3p (Xc.objs.map (·.1)) Xc.live (xs ++ caps) = true) (hdr : Q1p (Xc'.objs.map (·.1)) Xc'.live res = true) :
  OpT P o ((c, .clo fn (mapLs f fl caps)) :: args.toList.zip (mapLs f fl xs)) X ⟨Qv f fl Xc'.objs X.objs, Q2s fl X Xc Xc'⟩ F (mapL f fl res) := by
 intro nm hsm B g w a hr hrd next Q hn
 have e1 := rd0 hrd
 simp only at e1
 unfold Oper.wp
 generalize hcv : a.eval c = vc at e1
 cases e1 with
 | clo _ _ vs hlen hvs =>
  have : (execOp a.eval o).run P w = .ok (.enter fn (args.map a.eval ++ vs)) w := by
   simp only [execOp, ho, resolve]
   simp [hcv, Deferred.ofValue, invoke, Q7d hf]
  rw [this]
  have hm : ∀ l m : List AV, mapLs f fl (l ++ m) = mapLs f fl l ++ mapLs f fl m := fun l m => by rw [Q2z, Q2z, Q2z, List.map_append]
  have hml : (mapLs f fl xs).length = args.size := by rw [Q2z, List.length_map, hl]
  have hmc : caps.length = vs.size := by rw [Q2z, List.length_map] at hlen; exact hlen
  refine (hs.useLab hc hd hdr hr (vs := args.map a.eval ++ vs) (by simp [hl, hmc]) ?_).mono ?_
  ·intro i x v hx hv
   rw [hm, List.getElem?_append] at hx
   split at hx
   ·rename_i hlt
    rw [Array.getElem?_append_left (by simp; omega)] at hv
    exact Qed (fun p hp => hrd p (List.mem_cons_of_mem _ hp)) i x v hx hv
   ·rename_i hge
    rw [Array.getElem?_append_right (by simp; omega)] at hv
    refine hvs _ x v hx ?_
    rw [hml]; simpa using hv
  ·rintro e w' ⟨v, g', rfl, h1, h2, h3⟩
   exact hn g' w' v h1 h2 h3
theorem Qrp {P : Program} {X : Store} {o : Oper} {fn : FuncId} {args : Array Operand} {ts : Array TypeId} {gids : List Nat} {xs ys : List AV} {res : AV} {Xc Xc' : Store} (f fl : Nat → Nat) (F : List Nat)
  (ho : o.op = .call { callee := .value (.func fn), args := args, argTypes := ts }) (hf : CallI P fn) (hs : DoesH P fn xs (gids.zip ys) Xc res Xc') (hc : LabCall X Xc Xc' f fl F)
  (hl : xs.length = args.size) (hd : Q3p (Xc.objs.map (·.1)) Xc.live xs = true) (hy : Qp ys = true) (hdr : Q1p (Xc'.objs.map (·.1)) Xc'.live res = true) :
  OpT P o (args.toList.zip (mapLs f fl xs) ++ (gids.map Operand.global).zip ys) X ⟨Qv f fl Xc'.objs X.objs, Q2s fl X Xc Xc'⟩ F (mapL f fl res) := by
 intro nm hsm B g w a hr hrd next Q hn
 unfold Oper.wp
 have : (execOp a.eval o).run P w = .ok (.enter fn (args.map a.eval)) w := by
  simp only [execOp, ho, resolve]
  simp [Act.eval, Deferred.ofValue, invoke, Q7d hf]
 rw [this]
 have hG : GH g w (gids.zip ys) := by
  intro p hp
  have h1 : (Operand.global p.1, p.2) ∈ (gids.map Operand.global).zip ys := by
   rw [List.zip_map_left, List.mem_map]
   exact ⟨p, hp, rfl⟩
  exact hrd _ (List.mem_append_right _ h1)
 refine (hs.useLab (Qm0 _ hy) hc hd hdr hr hG (by simpa using hl) (Qed fun p hp => hrd p (List.mem_append_left _ hp))).mono ?_
 rintro e w' ⟨v, g', rfl, h1, h2, h3⟩
 exact hn g' w' v h1 h2 h3
end Go.Xl
set_option linter.unusedVariables false
set_option linter.unusedSimpArgs false
set_option linter.unnecessarySimpa false
namespace Go.Xl
open Go.Ab
inductive AS where
 | d (t : Ty)
 | p (k off : Nat)
 | os (k : Nat) (t : Ty)
 | clo (f : Nat) (ps : List (Nat × Nat))
 /-- such a slice that begins at a place -/
 | oa (k a : Nat) (t : Ty)
 /-- what a package variable holds: behind all other ones -/
 | g (k : Nat) (t : Ty)
def Qsa : List AS → List Nat
 | [] => []
 | .g k _ :: r => k :: Qsa r
 | _ :: r => Qsa r
def Q10r : List AS → Nat
 | [] => 0
 | .g _ _ :: _ => 0
 | _ :: r => Q10r r + 1
structure CSp where
 args : List AS
 objs : List (Nat × List VK × Option TypeId)
 arrs : List (Nat × OK)
 out : Cut
def CSp.names (S : CSp) : List Nat := Q3d S.objs ++ Q24 S.arrs
def CSp.labs (S : CSp) : List Nat := Qdm S.objs
def CSp.gids (S : CSp) : List Nat := Qsa S.args
def CSp.n (S : CSp) : Nat := Q10r S.args
def CSp.s0 (S : CSp) (xs : List XV) (objs : List (Nat × XOb)) : XSt := ⟨envX 0 (xs.take S.n) ++ glE S.gids (xs.drop S.n), objs, S.labs, [], []⟩
@[reducible] def CurA : List AS → Type → Type
 | [], R => R
 | .d t :: r, R => t.T → CurA r R
 | .p _ _ :: r, R => CurA r R
 | .os _ _ :: r, R => Nat → CurA r R
 | .oa _ _ _ :: r, R => Nat → CurA r R
 | .clo _ _ :: r, R => CurA r R
 | .g _ t :: r, R => t.T → CurA r R
@[reducible] def CurC : List VK → Type → Type
 | [], R => R
 | .d t :: r, R => t.T → CurC r R
 | .p _ _ :: r, R => CurC r R
 | .z _ _ :: r, R => Bool → CurC r R
 | .os _ _ :: r, R => Nat → CurC r R
 | .tip _ t _ :: r, R => List t.T → CurC r R
@[reducible] def CurO : List (Nat × List VK × Option TypeId) → Type → Type
 | [], R => R
 | p :: r, R => CurC p.2.1 (CurO r R)
@[reducible] def CurR : List (Nat × OK) → Type → Type
 | [], R => R
 | p :: r, R => p.2.T → CurR r R
@[reducible] def CSp.Fun (S : CSp) (R : Type) : Type := CurA S.args (CurO S.objs (CurR S.arrs R))
def psX (ps : List (Nat × Nat)) : List XV := ps.map fun p => .nm p.1 (pkOf p.2)
def lamA {α : Type} : (l : List AS) → (List XV → α) → List XV → CurA l α
 | [], f, acc => f acc
 | .d t :: r, f, acc => fun y => lamA r f (acc ++ [.d (t.xv y)])
 | .p k off :: r, f, acc => lamA r f (acc ++ [.nm k (pkOf off)])
 | .os k t :: r, f, acc => fun n => lamA r f (acc ++ [.os k t 0 n])
 | .oa k a t :: r, f, acc => fun n => lamA r f (acc ++ [.os k t a n])
 | .clo g ps :: r, f, acc => lamA r f (acc ++ [.clo g (psX ps)])
 | .g _ t :: r, f, acc => fun y => lamA r f (acc ++ [.d (t.xv y)])
def lamC {α : Type} : (l : List VK) → (List XV → α) → List XV → CurC l α
 | [], f, acc => f acc
 | .d t :: r, f, acc => fun y => lamC r f (acc ++ (t.enc y).map .d)
 | .p k off :: r, f, acc => lamC r f (acc ++ [.nm k (pkOf off)])
 | .z k off :: r, f, acc => fun b => lamC r f (acc ++ [.nm k (.z b off)])
 | .os k t :: r, f, acc => fun n => lamC r f (acc ++ [.os k t 0 n])
 | .tip n t ty :: r, f, acc => fun l => lamC r f (acc ++ [.tip n t l ty])
def lamO {α : Type} : (l : List (Nat × List VK × Option TypeId)) → (List (Nat × XOb) → α) → List (Nat × XOb) → CurO l α
 | [], f, acc => f acc
 | p :: r, f, acc => lamC p.2.1 (fun cs => lamO r f (acc ++ [(p.1, .cells cs p.2.2)])) []
def lamR {α : Type} : (l : List (Nat × OK)) → (List (Nat × XOb) → α) → List (Nat × XOb) → CurR l α
 | [], f, acc => f acc
 | p :: r, f, acc => fun l => lamR r f (acc ++ [(p.1, p.2.ob l)])
def GndA {β : Type} (Q : β → List XV → Prop) : (l : List AS) → CurA l β → List XV → Prop
 | [], F, acc => Q F acc
 | .d t :: r, F, acc => ∀ y : t.T, GndA Q r (F y) (acc ++ [.d (t.xv y)])
 | .p k off :: r, F, acc => GndA Q r F (acc ++ [.nm k (pkOf off)])
 | .os k t :: r, F, acc => ∀ n : Nat, GndA Q r (F n) (acc ++ [.os k t 0 n])
 | .oa k a t :: r, F, acc => ∀ n : Nat, GndA Q r (F n) (acc ++ [.os k t a n])
 | .clo g ps :: r, F, acc => GndA Q r F (acc ++ [.clo g (psX ps)])
 | .g _ t :: r, F, acc => ∀ y : t.T, GndA Q r (F y) (acc ++ [.d (t.xv y)])
def GndC {β : Type} (Q : β → List XV → Prop) : (l : List VK) → CurC l β → List XV → Prop
 | [], F, acc => Q F acc
 | .d t :: r, F, acc => ∀ y : t.T, GndC Q r (F y) (acc ++ (t.enc y).map .d)
 | .p k off :: r, F, acc => GndC Q r F (acc ++ [.nm k (pkOf off)])
 | .z k off :: r, F, acc => ∀ b : Bool, GndC Q r (F b) (acc ++ [.nm k (.z b off)])
 | .os k t :: r, F, acc => ∀ n : Nat, GndC Q r (F n) (acc ++ [.os k t 0 n])
 | .tip n t ty :: r, F, acc => ∀ l : List t.T, GndC Q r (F l) (acc ++ [.tip n t l ty])
def GndO {β : Type} (Q : β → List (Nat × XOb) → Prop) : (l : List (Nat × List VK × Option TypeId)) → CurO l β → List (Nat × XOb) → Prop
 | [], F, acc => Q F acc
 | p :: r, F, acc => GndC (fun F' cs => GndO Q r F' (acc ++ [(p.1, .cells cs p.2.2)])) p.2.1 F []
def GndR {β : Type} (Q : β → List (Nat × XOb) → Prop) : (l : List (Nat × OK)) → CurR l β → List (Nat × XOb) → Prop
 | [], F, acc => Q F acc
 | p :: r, F, acc => ∀ l : p.2.T, GndR Q r (F l) (acc ++ [(p.1, p.2.ob l)])
theorem Qaa {α : Type} {Q : α → List XV → Prop} {f : List XV → α} (m : Nat) (h : ∀ acc, acc.length = m → Q (f acc) acc) : ∀ (l : List AS) (acc : List XV), acc.length + l.length = m → GndA Q l (lamA l f acc) acc
 | [], acc, hm => h acc (by simpa using hm)
 | .d t :: r, acc, hm => fun y => Qaa m h r _ (by simp at hm ⊢; omega)
 | .p k off :: r, acc, hm => by
  simp only [GndA, lamA]
  exact Qaa m h r (acc ++ [.nm k (pkOf off)]) (by simp at hm ⊢; omega)
 | .os k t :: r, acc, hm => fun n => Qaa m h r _ (by simp at hm ⊢; omega)
 | .oa k a t :: r, acc, hm => fun n => Qaa m h r _ (by simp at hm ⊢; omega)
 | .clo g ps :: r, acc, hm => by
  simp only [GndA, lamA]
  exact Qaa m h r (acc ++ [.clo g (psX ps)]) (by simp at hm ⊢; omega)
 | .g _ t :: r, acc, hm => fun y => Qaa m h r _ (by simp at hm ⊢; omega)
theorem Qbv {α : Type} {Q : α → List XV → Prop} {f : List XV → α} (h : ∀ acc, Q (f acc) acc) : ∀ (l : List VK) (acc : List XV), GndC Q l (lamC l f acc) acc
 | [], acc => h acc
 | .d t :: r, acc => fun y => Qbv h r _
 | .p k off :: r, acc => by
  simp only [GndC, lamC]
  exact Qbv h r (acc ++ [.nm k (pkOf off)])
 | .z k off :: r, acc => fun b => Qbv h r _
 | .os k t :: r, acc => fun n => Qbv h r _
 | .tip n t ty :: r, acc => fun l => Qbv h r _
theorem Qu7 {α : Type} {Q : α → List (Nat × XOb) → Prop} {f : List (Nat × XOb) → α} (ns : List Nat) (h : ∀ acc, acc.map (·.1) = ns → Q (f acc) acc) : ∀ (l : List (Nat × List VK × Option TypeId)) (acc : List (Nat × XOb)), acc.map (·.1) ++ Q3d l = ns → GndO Q l (lamO l f acc) acc
 | [], acc, hm => h acc (by simpa [Q3d] using hm)
 | p :: r, acc, hm => Qbv (fun cs => Qu7 ns h r _ (by simpa [Q3d] using hm)) p.2.1 []
theorem Qtp {α : Type} {Q : α → List (Nat × XOb) → Prop} {f : List (Nat × XOb) → α} (ns : List Nat) (h : ∀ acc, acc.map (·.1) = ns → Q (f acc) acc) : ∀ (l : List (Nat × OK)) (acc : List (Nat × XOb)), acc.map (·.1) ++ Q24 l = ns → GndR Q l (lamR l f acc) acc
 | [], acc, hm => h acc (by simpa [Q24] using hm)
 | p :: r, acc, hm => fun l => Qtp ns h r _ (by simpa [Q24] using hm)
section
variable (P : Program) (Γ : List (Ent P)) (own : List Nat) (N : Nat) (fn : Func) (an : An) (S : CSp)
def finX (S : CSp) (xs : List XV) (objs : List (Nat × XOb)) (s : XSt) : Option S.out.T := proj S.names (keepL (S.s0 xs objs) S.out) S.out s
def finC (S : CSp) (xs : List XV) (objs : List (Nat × XOb)) : Exit → XSt → Option S.out.T
 | .ret, s => finX S xs objs s
 | .normal, s => finX S xs objs s
 | _, _ => none
noncomputable def runBC (xs : List XV) (objs : List (Nat × XOb)) : Option S.out.T :=
 match fn.body with
 | some c => cond (Nat.ble fn.ntmps GB) (exec P Γ own S.names fn.ntmps N c an (S.s0 xs objs) (finC S xs objs)) none
 | none => none
noncomputable def runC : S.Fun (Option S.out.T) := lamA S.args (fun xs => lamO S.objs (fun os => lamR S.arrs (fun os' => runBC P Γ own N fn an S xs os') os) []) []
end
def GoodC (P : Program) (f : FuncId) (fn : Func) (S : CSp) (y : S.out.T) (xs : List XV) (objs : List (Nat × XOb)) : Prop :=
 objs.map (·.1) = S.names ∧ ∀ rs, xres P (gen (S.s0 xs objs) S.out y) fn.results.toList = some rs → DoesH P f (asOf (xs.take S.n)) (S.gids.zip (asOf (xs.drop S.n))) ⟨Q0 objs, S.labs⟩ (tupX rs).a (gen (S.s0 xs objs) S.out y).X
def SndC (P : Program) (f : FuncId) (fn : Func) (S : CSp) (F : S.Fun (Option S.out.T)) : Prop :=
 GndA (fun F' xs => GndO (fun F'' os => GndR (fun F3 os' => ∀ y, F3 = some y → GoodC P f fn S y xs os') S.arrs F'' os) S.objs F' []) S.args F []
def Qg3 : List Nat → Bool
 | [] => true
 | n :: r => cond (Nat.blt n 1000) (Qg3 r) false
theorem Qlu : ∀ {l : List Nat}, Qg3 l = true → ∀ j ∈ l, j < 1000
 | [], _ => by simp
 | n :: r, h => by
  simp only [Qg3] at h
  cases hb : Nat.blt n 1000 with
  | false => simp [hb] at h
  | true =>
   simp only [hb, cond_true] at h
   intro j hj
   rcases List.mem_cons.1 hj with rfl | hj
   ·simpa [Nat.blt_eq] using hb
   ·exact Qlu h j hj
def Qkz (S : CSp) : Bool := match S.out.keepS with
 | [] => true
 | _ => false
theorem Q34 (l : List (Nat × XOb)) : (Q0 l).map (·.1) = l.map (·.1) := by simp [Q0]
theorem Qve {P : Program} {Γ : List (Ent P)} {own : List Nat} {N : Nat} {f : FuncId} {fn : Func} {an : An} {S : CSp} {xs : List XV} {objs : List (Nat × XOb)} {y : S.out.T} (hm : P.follows .mixedOrders = true) (hf : P.funcs[f]? = some fn)
  (hn : xs.length ≤ fn.ntmps) (hsm : Qg3 S.names = true) (hks : Qkz S = true) (hnames : objs.map (·.1) = S.names) (h : runBC P Γ own N fn an S xs objs = some y) : GoodC P f fn S y xs objs := by
 unfold runBC at h
 split at h
 ·rename_i c hc
  obtain ⟨hG, h⟩ := condG h
  have hs := Qds (S := ⟨fn.ntmps, S.names, Qlu hsm⟩) hm rfl c an _ _ _ _ (.refl _) h
  have hks' : S.out.keepS = [] := by
   unfold Qkz at hks
   split at hks
   ·assumption
   ·cases hks
  refine ⟨hnames, fun rs hrs => ?_⟩
  intro g w vs hr hgs hl ha
  have hnm : (Q0 objs).map (·.1) = S.names := by rw [Q34, hnames]
  refine calls_of_wp hf hc (wp_mono (hs (Base.of g w ⟨Q0 objs, S.labs⟩) g w _ ?_) ?_)
  ·rw [Q8, List.length_take] at hl
   refine ⟨rfl, ?_, ?_, ?_⟩
   ·simp; omega
   ·have := hr
    rw [hnm] at this
    exact this
   ·intro s x hx
    have hx' : (imEnv (envX 0 (xs.take S.n)) ++ imEnv (glE S.gids (xs.drop S.n))).lookup s = some x := by
     rw [imEnv, imEnv, ← List.map_append]; exact hx
    rw [List.lookup_append, Ql3] at hx'
    cases h1 : (envOf 0 (asOf (xs.take S.n))).lookup s with
    | some x1 =>
     rw [h1] at hx'
     simp only [Option.some_or, Option.some.injEq] at hx'
     subst hx'
     obtain ⟨_, hx'⟩ := Qbb h1
     rw [Nat.sub_zero] at hx'
     have hlt : s < vs.size := by
      have := (List.getElem?_eq_some_iff.1 hx').1
      rw [Q8, List.length_take] at this; omega
     refine ⟨vs[s], ?_, ha s x1 _ hx' (by simp [hlt])⟩
     rw [Q8x (by omega)]
     simp [Array.getElem?_append, hlt]
    | none =>
     rw [h1] at hx'
     simp only [Option.none_or] at hx'
     obtain ⟨k, rfl, hk⟩ := Qvv (Q1a hx')
     exact ⟨_, Qnu k, hgs _ hk⟩
  ·rintro e a' w' ⟨s, g', ⟨st', rfl, hi, hk⟩, hs'⟩
   have fin : finX S xs objs st' = some y →
     a'.defers = [] ∧ ∃ v, (results fn a'.tmps).run P w' = .ok v w' ∧ ∃ g' v_1, Ending.returned v = Ending.returned v_1 ∧ RA g' w' (tupX rs).a v_1 ∧ HR ((Q0 objs).map (·.1)) (Base.of g w ⟨Q0 objs, S.labs⟩) g' w' (gen (S.s0 xs objs) S.out y).X := by
    intro h
    unfold finX at h
    obtain ⟨g'', hs''⟩ := Qfj h (by rw [hks']; simp) (fun k _ x hk hx => hi.objs k x hk hx) hs' rfl
    obtain ⟨v, hv, hra⟩ := Qa1 (Qag hrs) hs''
    rw [← Q8k] at hra
    exact ⟨hs''.defers, v, hv, g'', v, rfl, hra, by rw [hnm]; exact hs''.hr⟩
   cases e with
   | ret => exact fin hk
   | normal => exact fin hk
   | _ => simp [finC] at hk
 ·cases h
theorem Qx1 {P : Program} {Γ : List (Ent P)} {own : List Nat} {N : Nat} {f : FuncId} {fn : Func} {an : An} {S : CSp} (hm : P.follows .mixedOrders = true) (hf : P.funcs[f]? = some fn)
  (hn : Nat.ble S.args.length fn.ntmps = true) (hsm : Qg3 S.names = true) (hks : Qkz S = true) : SndC P f fn S (runC P Γ own N fn an S) := by
 unfold SndC runC
 refine Qaa S.args.length (fun xs hxs => ?_) S.args [] (by simp)
 refine Qu7 (Q3d S.objs) (fun os hos => ?_) S.objs [] (by simp)
 refine Qtp S.names (fun os' hos' => ?_) S.arrs os (by rw [hos]; rfl)
 intro y hy
 exact Qve hm hf (by have := Nat.le_of_ble_eq_true hn; omega) hsm hks hos' hy
end Go.Xl
set_option linter.unusedVariables false
set_option linter.unusedSimpArgs false
set_option linter.unnecessarySimpa false
namespace Go.Xl
open Go.Ab
def isPtr (k off : Nat) : XV → Bool
 | .nm k' p => cond (Nat.beq k' k) (pkEq p off) false
 | _ => false
theorem Qmd {k off : Nat} {v : XV} (h : isPtr k off v = true) : v = .nm k (pkOf off) := by
 unfold isPtr at h
 split at h
 ·rename_i k' off'
  cases h1 : Nat.beq k' k with
  | false => simp [h1] at h
  | true =>
   simp only [h1, cond_true] at h
   rw [Nat.eq_of_beq_eq_true h1, Qwo h]
 ·cases h
def osOf (k : Nat) (t : Ty) : XV → Option Nat
 | .os k' t' a n => cond (Nat.beq k' k) (cond (t'.eqb t) (cond (Nat.beq a 0) (some n) none) none) none
 | _ => none
theorem Qvz {k : Nat} {t : Ty} {v : XV} {n : Nat} (h : osOf k t v = some n) : v = .os k t 0 n := by
 unfold osOf at h
 split at h
 ·rename_i k' t' a m
  cases h1 : Nat.beq k' k with
  | false => simp [h1] at h
  | true =>
  cases h2 : t'.eqb t with
  | false => simp [h1, h2] at h
  | true =>
  cases h3 : Nat.beq a 0 with
  | false => simp [h1, h2, h3] at h
  | true =>
   simp only [h1, h2, h3, cond_true, Option.some.injEq] at h
   rw [Nat.eq_of_beq_eq_true h1, Ty.eqb_eq h2, Nat.eq_of_beq_eq_true h3, h]
 ·cases h
def osOfA (k a : Nat) (t : Ty) : XV → Option Nat
 | .os k' t' a' n => cond (Nat.beq k' k) (cond (t'.eqb t) (cond (Nat.beq a' a) (some n) none) none) none
 | _ => none
theorem Q113 {k a : Nat} {t : Ty} {v : XV} {n : Nat} (h : osOfA k a t v = some n) : v = .os k t a n := by
 unfold osOfA at h
 split at h
 ·rename_i k' t' a' m
  cases h1 : Nat.beq k' k with
  | false => simp [h1] at h
  | true =>
  cases h2 : t'.eqb t with
  | false => simp [h1, h2] at h
  | true =>
  cases h3 : Nat.beq a' a with
  | false => simp [h1, h2, h3] at h
  | true =>
   simp only [h1, h2, h3, cond_true, Option.some.injEq] at h
   rw [Nat.eq_of_beq_eq_true h1, Ty.eqb_eq h2, Nat.eq_of_beq_eq_true h3, h]
 ·cases h
def Qgt (f : Nat → Nat) : List (Nat × Nat) → List XV → Bool
 | [], [] => true
 | p :: ps, c :: cs => cond (isPtr (f p.1) p.2 c) (Qgt f ps cs) false
 | _, _ => false
theorem Qq7 {f fl : Nat → Nat} : ∀ {ps : List (Nat × Nat)} {cs : List XV}, Qgt f ps cs = true → cs = mpL f fl (psX ps)
 | [], [], _ => rfl
 | [], _ :: _, h => by simp [Qgt] at h
 | _ :: _, [], h => by simp [Qgt] at h
 | p :: ps, c :: cs, h => by
  simp only [Qgt] at h
  cases h1 : isPtr (f p.1) p.2 c with
  | false => simp [h1] at h
  | true =>
   simp only [h1, cond_true] at h
   have e := Qq7 (fl := fl) h
   rw [Qmd h1, e]
   rfl
def Qnz (f : Nat → Nat) (g : Nat) (ps : List (Nat × Nat)) : XV → Bool
 | .clo g' caps => cond (Nat.beq g' g) (Qgt f ps caps) false
 | _ => false
theorem Q10e {f fl : Nat → Nat} {g : Nat} {ps : List (Nat × Nat)} {v : XV} (h : Qnz f g ps v = true) : v = (XV.clo g (psX ps)).mp f fl := by
 unfold Qnz at h
 split at h
 ·rename_i g' caps
  cases h1 : Nat.beq g' g with
  | false => simp [h1] at h
  | true =>
   simp only [h1, cond_true] at h
   rw [Nat.eq_of_beq_eq_true h1, Qq7 (fl := fl) h]
   rfl
 ·cases h
inductive ArgR (f fl : Nat → Nat) : List XV → List XV → Prop
 | nil : ArgR f fl [] []
 | dat {t : Ty} {v : XV} {y : t.T} {vs xs : List XV} : decXV t v = some y → ArgR f fl vs xs → ArgR f fl (v :: vs) (.d (t.xv y) :: xs)
 | same {v x : XV} {vs xs : List XV} : v = x.mp f fl → ArgR f fl vs xs → ArgR f fl (v :: vs) (x :: xs)
theorem ArgR.app {f fl : Nat → Nat} {a b c d : List XV} (h : ArgR f fl a b) (h' : ArgR f fl c d) : ArgR f fl (a ++ c) (b ++ d) := by
 induction h with
 | nil => exact h'
 | dat h1 _ ih => exact .dat h1 ih
 | same h1 _ ih => exact .same h1 ih
theorem ArgR.length {f fl : Nat → Nat} {a b : List XV} (h : ArgR f fl a b) : a.length = b.length := by
 induction h with
 | nil => rfl
 | dat _ _ ih => simp [ih]
 | same _ _ ih => simp [ih]
theorem ArgR.split {f fl : Nat → Nat} : ∀ {a c xs : List XV}, ArgR f fl (a ++ c) xs → ∃ b d, xs = b ++ d ∧ ArgR f fl a b ∧ ArgR f fl c d
 | [], c, xs, h => ⟨[], xs, rfl, .nil, h⟩
 | v :: a, c, xs, h => by
  rw [List.cons_append] at h
  cases h with
  | dat h1 h2 =>
   obtain ⟨b, d, rfl, h3, h4⟩ := ArgR.split h2
   exact ⟨_ :: b, d, rfl, .dat h1 h3, h4⟩
  | same h1 h2 =>
   obtain ⟨b, d, rfl, h3, h4⟩ := ArgR.split h2
   exact ⟨_ :: b, d, rfl, .same h1 h3, h4⟩
def Qgs : List XV → Bool
 | [] => true
 | .nm _ _ :: r => Qgs r
 | _ :: _ => false
theorem ArgR.caps {f fl : Nat → Nat} : ∀ {cs xs : List XV}, ArgR f fl cs xs → Qgs cs = true → cs = mpL f fl xs
 | [], xs, h, _ => by cases h; rfl
 | v :: cs, xs, h, hn => by
  cases v with
  | nm k p =>
   simp only [Qgs] at hn
   cases h with
   | dat h1 h2 => simp [decXV] at h1
   | same h1 h2 => rw [h1, ArgR.caps h2 hn]; rfl
  | _ => simp [Qgs] at hn
theorem ArgR.sees {f fl : Nat → Nat} {st : XSt} : ∀ {ops : List Operand} {vs xs : List XV}, Qm st ops = some vs → ArgR f fl vs xs → ∀ p ∈ imRd (ops.zip (mpL f fl xs)), Sees st.im p.1 p.2
 | [], vs, xs, hv, h => by simp [imRd]
 | x :: ops, [], xs, hv, h => by have := Q5a hv; simp at this
 | x :: ops, v :: vs, xs, hv, h => by
  obtain ⟨hx, hvs⟩ := Q80 hv
  cases h with
  | dat h1 h2 =>
   intro p hp
   simp only [mpL, List.zip_cons_cons, imRd, List.map_cons, List.mem_cons] at hp
   rcases hp with rfl | hp
   ·exact Qdn hx h1
   ·exact ArgR.sees hvs h2 p hp
  | same h1 h2 =>
   intro p hp
   simp only [mpL, List.zip_cons_cons, imRd, List.map_cons, List.mem_cons] at hp
   rcases hp with rfl | hp
   ·rw [← h1]; exact Q9 hx
   ·exact ArgR.sees hvs h2 p hp
def appAs {β R : Type} (f : Nat → Nat) : (l : List AS) → CurA l β → List XV → List XV → (β → List XV → Option R) → Option R
 | [], F, [], acc, K => K F acc
 | .d t :: r, F, v :: vs, acc, K => match decXV t v with
  | some y => appAs f r (F y) vs (acc ++ [.d (t.xv y)]) K
  | none => none
 | .p k off :: r, F, v :: vs, acc, K => cond (isPtr (f k) off v) (appAs f r F vs (acc ++ [.nm k (pkOf off)]) K) none
 | .os k t :: r, F, v :: vs, acc, K => match osOf (f k) t v with
  | some n => appAs f r (F n) vs (acc ++ [.os k t 0 n]) K
  | none => none
 | .oa k a t :: r, F, v :: vs, acc, K => match osOfA (f k) a t v with
  | some n => appAs f r (F n) vs (acc ++ [.os k t a n]) K
  | none => none
 | .clo g ps :: r, F, v :: vs, acc, K => cond (Qnz f g ps v) (appAs f r F vs (acc ++ [.clo g (psX ps)]) K) none
 | .g _ t :: r, F, v :: vs, acc, K => match decXV t v with
  | some y => appAs f r (F y) vs (acc ++ [.d (t.xv y)]) K
  | none => none
 | _, _, _, _, _ => none
theorem Q8j {β R : Type} {Q : β → List XV → Prop} {f fl : Nat → Nat} {K : β → List XV → Option R} {r : R} : ∀ (l : List AS) (F : CurA l β) (vs us acc : List XV), GndA Q l F acc → ArgR f fl us acc → appAs f l F vs acc K = some r →
  ∃ F' xs, Q F' xs ∧ ArgR f fl (us ++ vs) xs ∧ K F' xs = some r
 | [], F, [], us, acc, hg, hr, h => ⟨F, acc, hg, by simpa using hr, h⟩
 | [], F, _ :: _, us, acc, hg, hr, h => by simp [appAs] at h
 | .d t :: l, F, [], us, acc, hg, hr, h => by simp [appAs] at h
 | .p k off :: l, F, [], us, acc, hg, hr, h => by simp [appAs] at h
 | .os k t :: l, F, [], us, acc, hg, hr, h => by simp [appAs] at h
 | .clo g ps :: l, F, [], us, acc, hg, hr, h => by simp [appAs] at h
 | .g k t :: l, F, [], us, acc, hg, hr, h => by simp [appAs] at h
 | .oa k a t :: l, F, [], us, acc, hg, hr, h => by simp [appAs] at h
 | .oa k a t :: l, F, v :: vs, us, acc, hg, hr, h => by
  simp only [appAs] at h
  split at h
  ·rename_i n hn
   obtain ⟨F', xs, h1, h2, h3⟩ := Q8j l (F n) vs (us ++ [v]) _ (hg n) (hr.app (.same (x := .os k t a n) (Q113 hn) .nil)) h
   exact ⟨F', xs, h1, by simpa using h2, h3⟩
  ·cases h
 | .g k t :: l, F, v :: vs, us, acc, hg, hr, h => by
  simp only [appAs] at h
  split at h
  ·rename_i y hy
   obtain ⟨F', xs, h1, h2, h3⟩ := Q8j l (F y) vs (us ++ [v]) _ (hg y) (hr.app (.dat hy .nil)) h
   exact ⟨F', xs, h1, by simpa using h2, h3⟩
  ·cases h
 | .d t :: l, F, v :: vs, us, acc, hg, hr, h => by
  simp only [appAs] at h
  split at h
  ·rename_i y hy
   obtain ⟨F', xs, h1, h2, h3⟩ := Q8j l (F y) vs (us ++ [v]) _ (hg y) (hr.app (.dat hy .nil)) h
   exact ⟨F', xs, h1, by simpa using h2, h3⟩
  ·cases h
 | .p k off :: l, F, v :: vs, us, acc, hg, hr, h => by
  simp only [appAs] at h
  cases hp : isPtr (f k) off v with
  | false => simp [hp] at h
  | true =>
   simp only [hp, cond_true] at h
   obtain ⟨F', xs, h1, h2, h3⟩ := Q8j l F vs (us ++ [v]) (acc ++ [.nm k (pkOf off)]) hg (hr.app (.same (x := .nm k (pkOf off)) (Qmd hp) .nil)) h
   exact ⟨F', xs, h1, by simpa using h2, h3⟩
 | .os k t :: l, F, v :: vs, us, acc, hg, hr, h => by
  simp only [appAs] at h
  split at h
  ·rename_i n hn
   obtain ⟨F', xs, h1, h2, h3⟩ := Q8j l (F n) vs (us ++ [v]) _ (hg n) (hr.app (.same (x := .os k t 0 n) (Qvz hn) .nil)) h
   exact ⟨F', xs, h1, by simpa using h2, h3⟩
  ·cases h
 | .clo g ps :: l, F, v :: vs, us, acc, hg, hr, h => by
  simp only [appAs] at h
  cases hp : Qnz f g ps v with
  | false => simp [hp] at h
  | true =>
   simp only [hp, cond_true] at h
   obtain ⟨F', xs, h1, h2, h3⟩ := Q8j l F vs (us ++ [v]) (acc ++ [.clo g (psX ps)]) hg (hr.app (.same (Q10e hp) .nil)) h
   exact ⟨F', xs, h1, by simpa using h2, h3⟩
def Q9t : XD → Bool
 | .v _ => false
 | .ic _ _ _ => false
 | _ => true
def Q2b : List XD → Bool
 | [] => true
 | x :: r => cond (Q9t x) (Q2b r) false
theorem Q2y {x : XD} {r : List XD} (h : Q2b (x :: r) = true) : Q9t x = true ∧ Q2b r = true := by
 simp only [Q2b] at h
 cases hx : Q9t x with
 | false => simp [hx] at h
 | true => simp only [hx, cond_true] at h; exact ⟨rfl, h⟩
theorem Qyh : ∀ (t : Ty) {cs : List XD} {x : t.T} {r : List XD}, Q2b cs = true → t.dec cs = some (x, r) → dsOf cs = t.ds x ++ dsOf r ∧ Q2b r = true := by
 intro t
 induction t with
 | int k =>
  intro cs x r hp h
  simp only [Ty.dec] at h
  unfold decI at h
  split at h
  ·rename_i k' n r'
   cases hk : kindB k' k with
   | false => simp [hk] at h
   | true =>
    have := Q21 hk
    subst this
    simp only [hk, cond_true, Option.some.injEq, Prod.mk.injEq] at h
    obtain ⟨rfl, rfl⟩ := h
    exact ⟨rfl, (Q2y hp).2⟩
  ·rename_i x' r'
   cases hk : kindB .u8 k with
   | false => simp [hk] at h
   | true =>
    have := Q21 hk
    subst this
    simp only [hk, cond_true, Option.some.injEq, Prod.mk.injEq] at h
    obtain ⟨rfl, rfl⟩ := h
    exact ⟨rfl, (Q2y hp).2⟩
  ·cases h
 | u8 =>
  intro cs x r hp h
  simp only [Ty.dec] at h
  unfold decU8 at h
  split at h
  ·cases h; exact ⟨rfl, (Q2y hp).2⟩
  ·cases h
 | bool =>
  intro cs x r hp h
  simp only [Ty.dec] at h
  unfold decB at h
  split at h
  ·cases h; exact ⟨rfl, (Q2y hp).2⟩
  ·cases h
 | str =>
  intro cs x r hp h
  simp only [Ty.dec] at h
  unfold decS at h
  split at h
  ·cases h; exact ⟨rfl, (Q2y hp).2⟩
  ·cases h
 | sl t ih =>
  intro cs x r hp h
  simp only [Ty.dec] at h
  unfold decL at h
  split at h
  ·rename_i t' l r'
   split at h
   ·rename_i ht
    have e := Ty.eqb_eq ht
    subst e
    cases h
    exact ⟨rfl, (Q2y hp).2⟩
   ·cases h
  ·simp [Q2b, Q9t] at hp
  ·simp [Q2b, Q9t] at hp
  ·cases h
 | unit =>
  intro cs x r hp h
  simp [Ty.dec] at h
  subst h
  exact ⟨rfl, hp⟩
 | pair a b iha ihb =>
  intro cs x r hp h
  unfold Ty.dec at h
  split at h
  ·rename_i p hpa
   split at h
   ·rename_i q hq
    cases h
    obtain ⟨h1, h2⟩ := iha (x := p.1) (r := p.2) hp hpa
    obtain ⟨h3, h4⟩ := ihb (x := q.1) (r := q.2) h2 hq
    exact ⟨by rw [h1, h3]; simp [Ty.ds], h4⟩
   ·cases h
  ·cases h
 | st1 a iha =>
  intro cs x r hp h
  exact iha hp h
 | tab t ih =>
  intro cs x r hp h
  simp only [Ty.dec] at h
  unfold decT at h
  split at h
  ·rename_i t' l r'
   split at h
   ·rename_i ht
    have e := Ty.eqb_eq ht
    subst e
    cases h
    exact ⟨rfl, (Q2y hp).2⟩
   ·cases h
  ·cases h
 | err =>
  intro cs x r hp h
  simp only [Ty.dec] at h
  unfold decE at h
  split at h
  ·cases h; exact ⟨rfl, (Q2y hp).2⟩
  ·simp [Q2b, Q9t] at hp
  ·simp [Q2b, Q9t] at hp
  ·cases h
 | ic t k =>
  intro cs x r hp h
  simp only [Ty.dec] at h
  unfold decIc at h
  split at h
  ·simp [Q2b, Q9t] at hp
  ·simp [Q2b, Q9t] at hp
  ·cases h
 | ptr =>
  intro cs x r hp h
  simp only [Ty.dec] at h
  unfold decP at h
  split at h
  ·cases h; exact ⟨rfl, (Q2y hp).2⟩
  ·simp [Q2b, Q9t] at hp
  ·cases h
def tipOf (m : Nat) (t : Ty) (ty : Option TypeId) : XV → Option (List t.T)
 | .tip m' t' l ty' => cond (Nat.beq m' m) (cond (tyEqO ty' ty) (if h : t'.eqb t = true then some (Ty.eqb_eq h ▸ l) else none) none) none
 | _ => none
theorem Q11r {m : Nat} {t : Ty} {ty : Option TypeId} {v : XV} {l : List t.T} (h : tipOf m t ty v = some l) : v = .tip m t l ty := by
 unfold tipOf at h
 split at h
 ·rename_i m' t' l' ty'
  cases h1 : Nat.beq m' m with
  | false => simp [h1] at h
  | true =>
  cases h2 : tyEqO ty' ty with
  | false => simp [h1, h2] at h
  | true =>
   simp only [h1, h2, cond_true] at h
   split at h
   ·rename_i ht
    have e := Ty.eqb_eq ht
    subst e
    cases h
    rw [Nat.eq_of_beq_eq_true h1, Qmz h2]
   ·cases h
 ·cases h
def zOf (m off : Nat) (ex : Bool) : XV → Option Bool
 | .nm k' (.z b off') => cond (Nat.beq k' m) (cond (Nat.beq off' off) (some b) none) none
 | .nm k' (.p off') => cond ex none (cond (Nat.beq k' m) (cond (Nat.beq off' off) (some false) none) none)
 | .d (.v (.pointer none)) => cond ex none (some true)
 | _ => none
def CellR (f fl : Nat → Nat) (ex : Bool) (cs xs : List XV) : Prop := AsLe (asOf cs) (asOf (mpL f fl xs)) ∧ (ex = true → asOf cs = asOf (mpL f fl xs))
theorem AsLe.refl : ∀ (l : List AV), AsLe l l
 | [] => .nil
 | x :: r => .cons (.refl x) (AsLe.refl r)
theorem AsLe.append {a b c d : List AV} (h : AsLe a b) (h' : AsLe c d) : AsLe (a ++ c) (b ++ d) := by
 induction h with
 | nil => exact h'
 | cons h1 _ ih => exact .cons h1 ih
theorem Qdl (f fl : Nat → Nat) (a b : List XV) : mpL f fl (a ++ b) = mpL f fl a ++ mpL f fl b := by simp [Ql4]
theorem CellR.app {f fl : Nat → Nat} {ex : Bool} {a b c d : List XV} (h : CellR f fl ex a b) (h' : CellR f fl ex c d) : CellR f fl ex (a ++ c) (b ++ d) := by
 refine ⟨?_, fun e => ?_⟩
 ·rw [Q5f, Qdl, Q5f]; exact h.1.append h'.1
 ·rw [Q5f, Qdl, Q5f, h.2 e, h'.2 e]
theorem CellR.same {f fl : Nat → Nat} {ex : Bool} {v x : XV} (h : v = x.mp f fl) : CellR f fl ex [v] [x] := by
 subst h
 exact ⟨.refl _, fun _ => rfl⟩
theorem Qdq (l : List XD) : asOf (l.map .d) = (dsOf l).map .d := by
 rw [Q8m, Q3r]; simp [XV.a]
theorem Qqw (f fl : Nat → Nat) (l : List XD) : mpL f fl (l.map .d) = l.map .d := by
 rw [Ql4]; simp [XV.mp]
theorem DsLe.as {a b : List D} (h : DsLe a b) : AsLe (a.map .d) (b.map .d) := by
 induction h with
 | nil => exact .nil
 | cons h1 _ ih => exact .cons (ALe.d h1) ih
theorem CellR.data {f fl : Nat → Nat} {ex : Bool} {t : Ty} {ds : List XD} {y : t.T} (h : t.dec ds = some (y, [])) (hex : ex = true → Q2b ds = true) : CellR f fl ex (ds.map .d) ((t.enc y).map .d) := by
 refine ⟨?_, fun e => ?_⟩
 ·obtain ⟨ds', h1, h2⟩ := t.dec_spec h
  rw [Qqw, Qdq, Qdq, t.enc_ds]
  simp only [dsOf, List.append_nil] at h1
  rw [h1]
  exact h2.as
 ·obtain ⟨h1, _⟩ := Qyh t (hex e) h
  rw [Qqw, Qdq, Qdq, t.enc_ds, h1]
  simp [dsOf]
theorem Q12l {f fl : Nat → Nat} {k off : Nat} {ex : Bool} {v : XV} {b : Bool} (h : zOf (f k) off ex v = some b) : CellR f fl ex [v] [.nm k (.z b off)] := by
 have mk : (∀ (g : Gh) (w : World) (u : Value), RA g w v.a u → RA g w (XV.nm (f k) (.z b off)).a u) → (ex = true → v = .nm (f k) (.z b off)) → CellR f fl ex [v] [.nm k (.z b off)] := by
  intro h1 h2
  refine ⟨.cons h1 .nil, fun he => ?_⟩
  rw [h2 he]; rfl
 unfold zOf at h
 split at h
 ·rename_i k' b' off'
  cases h1 : Nat.beq k' (f k) with
  | false => simp [h1] at h
  | true =>
   cases h2 : Nat.beq off' off with
   | false => simp [h1, h2] at h
   | true =>
    simp only [h1, h2, cond_true, Option.some.injEq] at h
    have e1 := Nat.eq_of_beq_eq_true h1
    have e2 := Nat.eq_of_beq_eq_true h2
    subst e1; subst e2; subst h
    exact mk (fun _ _ _ h => h) (fun _ => rfl)
 ·rename_i k' off'
  cases hx : ex with
  | true => simp [hx] at h
  | false =>
   rw [hx] at mk
   cases h1 : Nat.beq k' (f k) with
   | false => simp [h1, hx] at h
   | true =>
    cases h2 : Nat.beq off' off with
    | false => simp [h1, h2, hx] at h
    | true =>
     simp only [h1, h2, hx, cond_true, cond_false, Option.some.injEq] at h
     have e1 := Nat.eq_of_beq_eq_true h1
     have e2 := Nat.eq_of_beq_eq_true h2
     subst e1; subst e2; subst h
     refine mk (fun g w u hr => ?_) (fun e => by cases e)
     simp only [XV.a] at hr ⊢
     cases hr with
     | nm _ _ _ h => exact .nm _ _ _ h
 ·cases hx : ex with
  | true => simp [hx] at h
  | false =>
   rw [hx] at mk
   simp only [hx, cond_false, Option.some.injEq] at h
   subst h
   refine mk (fun g w u hr => ?_) (fun e => by cases e)
   simp only [XV.a, XD.d] at hr ⊢
   cases hr with
   | d _ _ h1 => cases h1; exact .nm _ _ _ rfl
 ·cases h
def appCs {β R : Type} (f fl : Nat → Nat) (ex : Bool) : (l : List VK) → CurC l β → List XV → List XV → (β → List XV → Option R) → Option R
 | [], F, [], acc, K => K F acc
 | .d t :: r, F, cs, acc, K => match allX (cs.take t.size) with
  | some ds => cond (cond ex (Q2b ds) true) (match t.dec ds with
   | some (y, []) => appCs f fl ex r (F y) (cs.drop t.size) (acc ++ (t.enc y).map .d) K
   | _ => none) none
  | none => none
 | .p k off :: r, F, c :: cs, acc, K => cond (isPtr (f k) off c) (appCs f fl ex r F cs (acc ++ [.nm k (pkOf off)]) K) none
 | .z k off :: r, F, c :: cs, acc, K => match zOf (f k) off ex c with
  | some b => appCs f fl ex r (F b) cs (acc ++ [.nm k (.z b off)]) K
  | none => none
 | .os k t :: r, F, c :: cs, acc, K => match osOf (f k) t c with
  | some n => appCs f fl ex r (F n) cs (acc ++ [.os k t 0 n]) K
  | none => none
 | .tip n t ty :: r, F, c :: cs, acc, K => match tipOf (fl n) t ty c with
  | some l => appCs f fl ex r (F l) cs (acc ++ [.tip n t l ty]) K
  | none => none
 | _, _, _, _, _ => none
theorem Qc3 {β R : Type} {Q : β → List XV → Prop} {f fl : Nat → Nat} {ex : Bool} {K : β → List XV → Option R} {r : R} : ∀ (l : List VK) (F : CurC l β) (cs us acc : List XV), GndC Q l F acc → CellR f fl ex us acc → appCs f fl ex l F cs acc K = some r →
  ∃ F' xs, Q F' xs ∧ CellR f fl ex (us ++ cs) xs ∧ K F' xs = some r
 | [], F, [], us, acc, hg, hr, h => ⟨F, acc, hg, by simpa using hr, h⟩
 | [], F, _ :: _, us, acc, hg, hr, h => by simp [appCs] at h
 | .p k off :: l, F, [], us, acc, hg, hr, h => by simp [appCs] at h
 | .tip n t ty :: l, F, [], us, acc, hg, hr, h => by simp [appCs] at h
 | .z k off :: l, F, [], us, acc, hg, hr, h => by simp [appCs] at h
 | .os k t :: l, F, [], us, acc, hg, hr, h => by simp [appCs] at h
 | .d t :: l, F, cs, us, acc, hg, hr, h => by
  unfold appCs at h
  split at h
  ·rename_i ds hds
   have hex : ex = true → Q2b ds = true := by
    intro e
    subst e
    cases hp : Q2b ds with
    | true => rfl
    | false => simp [hp] at h
   have h : (match t.dec ds with
    | some (y, []) => appCs f fl ex l (F y) (cs.drop t.size) (acc ++ (t.enc y).map .d) K
    | _ => none) = some r := by
    cases hc : (cond ex (Q2b ds) true) with
    | true => simpa [hc] using h
    | false => simp [hc] at h
   split at h
   ·rename_i y hy
    have e1 := Qu4 hds
    have hrel := CellR.data (f := f) (fl := fl) (ex := ex) hy hex
    rw [← e1] at hrel
    obtain ⟨F', xs, h1, h2, h3⟩ := Qc3 l (F y) (cs.drop t.size) (us ++ cs.take t.size) _ (hg y) (hr.app hrel) h
    refine ⟨F', xs, h1, ?_, h3⟩
    rw [List.append_assoc, List.take_append_drop] at h2
    exact h2
   ·cases h
  ·cases h
 | .p k off :: l, F, c :: cs, us, acc, hg, hr, h => by
  simp only [appCs] at h
  cases hp : isPtr (f k) off c with
  | false => simp [hp] at h
  | true =>
   simp only [hp, cond_true] at h
   obtain ⟨F', xs, h1, h2, h3⟩ := Qc3 l F cs (us ++ [c]) (acc ++ [.nm k (pkOf off)]) hg (hr.app (.same (x := .nm k (pkOf off)) (Qmd hp))) h
   exact ⟨F', xs, h1, by simpa using h2, h3⟩
 | .z k off :: l, F, c :: cs, us, acc, hg, hr, h => by
  simp only [appCs] at h
  split at h
  ·rename_i b hb
   obtain ⟨F', xs, h1, h2, h3⟩ := Qc3 l (F b) cs (us ++ [c]) _ (hg b) (hr.app (Q12l hb)) h
   exact ⟨F', xs, h1, by simpa using h2, h3⟩
  ·cases h
 | .os k t :: l, F, c :: cs, us, acc, hg, hr, h => by
  simp only [appCs] at h
  split at h
  ·rename_i n hn
   obtain ⟨F', xs, h1, h2, h3⟩ := Qc3 l (F n) cs (us ++ [c]) _ (hg n) (hr.app (.same (x := .os k t 0 n) (Qvz hn))) h
   exact ⟨F', xs, h1, by simpa using h2, h3⟩
  ·cases h
 | .tip n t ty :: l, F, c :: cs, us, acc, hg, hr, h => by
  simp only [appCs] at h
  split at h
  ·rename_i u hu
   obtain ⟨F', xs, h1, h2, h3⟩ := Qc3 l (F u) cs (us ++ [c]) _ (hg u) (hr.app (.same (x := .tip n t u ty) (Q11r hu))) h
   exact ⟨F', xs, h1, by simpa using h2, h3⟩
  ·cases h
def InR (f fl : Nat → Nat) (ko : List Nat) (objs : List (Nat × XOb)) (p : Nat × XOb) : Prop :=
 ∃ o, lk (f p.1) objs = some o ∧ ObLe o.o (p.2.mp f fl).o ∧ (inl p.1 ko = true → o.o = (p.2.mp f fl).o)
def appOs {β R : Type} (f fl : Nat → Nat) (ko : List Nat) (objs : List (Nat × XOb)) : (l : List (Nat × List VK × Option TypeId)) → CurO l β → List (Nat × XOb) → (β → List (Nat × XOb) → Option R) → Option R
 | [], F, acc, K => K F acc
 | p :: r, F, acc, K => match lk (f p.1) objs with
  | some (.cells cs ty) => cond (tyEqO ty p.2.2) (appCs f fl (inl p.1 ko) p.2.1 F cs [] fun F' xs => appOs f fl ko objs r F' (acc ++ [(p.1, .cells xs p.2.2)]) K) none
  | _ => none
theorem AsLe.obs {a b : List AV} {ty : Option TypeId} (h : AsLe a b) : ObLe (.cells a ty) (.cells b ty) := by
 refine .cells h.length (fun i x y hx hy => ?_) (.inl rfl)
 obtain ⟨x', hx', hle⟩ := h.get hy
 rw [hx] at hx'
 cases hx'
 exact hle
theorem Qmh {β R : Type} {Q : β → List (Nat × XOb) → Prop} {f fl : Nat → Nat} {ko : List Nat} {objs : List (Nat × XOb)} {K : β → List (Nat × XOb) → Option R} {r : R} : ∀ (l : List (Nat × List VK × Option TypeId)) (F : CurO l β) (acc : List (Nat × XOb)), GndO Q l F acc → (∀ p ∈ acc, InR f fl ko objs p) → appOs f fl ko objs l F acc K = some r →
  ∃ F' os, Q F' os ∧ (∀ p ∈ os, InR f fl ko objs p) ∧ K F' os = some r
 | [], F, acc, hg, hr, h => ⟨F, acc, hg, hr, h⟩
 | q :: l, F, acc, hg, hr, h => by
  simp only [appOs] at h
  split at h
  ·rename_i cs ty hk
   cases ht : tyEqO ty q.2.2 with
   | false => simp [ht] at h
   | true =>
    simp only [ht, cond_true] at h
    have e := Qmz ht
    subst e
    obtain ⟨F', xs, h1, h2, h3⟩ := Qc3 q.2.1 F cs [] [] hg ⟨.nil, fun _ => rfl⟩ h
    refine Qmh l F' _ h1 ?_ h3
    intro p hp
    rcases List.mem_append.1 hp with hp | hp
    ·exact hr p hp
    ·simp only [List.mem_singleton] at hp
     subst hp
     refine ⟨_, hk, ?_, fun hh => ?_⟩
     ·simp only [XOb.o, XOb.mp]
      exact AsLe.obs h2.1
     ·simp only [XOb.o, XOb.mp]
      have := h2.2 hh
      rw [List.nil_append] at this
      rw [this]
  ·cases h
def OK.okc (f : Nat → Nat) : OK → Bool
 | .mit m => Nat.beq (f m) m
 | .mapt _ _ _ => false
 | _ => true
theorem OK.okc_mp {f fl : Nat → Nat} {o : OK} {y : o.T} (h : o.okc f = true) : (o.ob y).mp f fl = o.ob y := by
 cases o with
 | mit m => show XOb.mit (f m) _ _ _ = _; rw [Nat.eq_of_beq_eq_true h]; rfl
 | mapt L k v => simp [OK.okc] at h
 | _ => rfl
def appRs {β R : Type} (f : Nat → Nat) (objs : List (Nat × XOb)) : (l : List (Nat × OK)) → CurR l β → List (Nat × XOb) → (β → List (Nat × XOb) → Option R) → Option R
 | [], F, acc, K => K F acc
 | p :: r, F, acc, K => match lk (f p.1) objs with
  | some o => match p.2.dec o with
   | some y => cond (p.2.okc f) (appRs f objs r (F y) (acc ++ [(p.1, p.2.ob y)]) K) none
   | none => none
  | none => none
theorem Qmg {β R : Type} {Q : β → List (Nat × XOb) → Prop} {f fl : Nat → Nat} {ko : List Nat} {objs : List (Nat × XOb)} {K : β → List (Nat × XOb) → Option R} {r : R} : ∀ (l : List (Nat × OK)) (F : CurR l β) (acc : List (Nat × XOb)), GndR Q l F acc → (∀ p ∈ acc, InR f fl ko objs p) → appRs f objs l F acc K = some r →
  ∃ F' os, Q F' os ∧ (∀ p ∈ os, InR f fl ko objs p) ∧ K F' os = some r
 | [], F, acc, hg, hr, h => ⟨F, acc, hg, hr, h⟩
 | q :: l, F, acc, hg, hr, h => by
  obtain ⟨qk, qt⟩ := q
  simp only [appRs] at h
  split at h
  ·rename_i o hk
   split at h
   ·rename_i y hy
    cases hc : qt.okc f with
    | false => simp [hc] at h
    | true =>
    simp only [hc, cond_true] at h
    refine Qmg l _ _ (hg y) ?_ h
    intro p hp
    rcases List.mem_append.1 hp with hp | hp
    ·exact hr p hp
    ·simp only [List.mem_singleton] at hp
     subst hp
     refine ⟨_, hk, ?_, fun _ => ?_⟩
     ·rw [OK.okc_mp hc, OK.dec_eq hy]; exact .refl _
     ·rw [OK.okc_mp hc, OK.dec_eq hy]
   ·cases h
  ·cases h
end Go.Xl
set_option linter.unusedVariables false
set_option linter.unusedSimpArgs false
set_option linter.unnecessarySimpa false
namespace Go.Xl
open Go.Ab
def outW (c : Cut) (y : c.T) : List (Nat × XOb) := Q7g c.objs y.2.1 ++ (Q86 c.own y.2.2.1 ++ Q7l c.arrs y.2.2.2)
theorem Q11y (s0 : XSt) (c : Cut) (y : c.T) : (gen s0 c y).objs = outW c y ++ Q5r s0.objs c.keepO := by simp [gen, outW]
def newOk (ns : List Nat) (f : Nat → Nat) (F : List Nat) (objs : List (Nat × XOb)) : List (Nat × XOb) → Bool
 | [] => true
 | p :: r => cond (cond (inl p.1 ns) true (cond (inl (f p.1) F) (match lk (f p.1) objs with
  | none => true
  | some _ => false) false)) (newOk ns f F objs r) false
theorem Qnb {ns : List Nat} {f : Nat → Nat} {F : List Nat} {objs : List (Nat × XOb)} : ∀ {l : List (Nat × XOb)}, newOk ns f F objs l = true → ∀ p ∈ l, p.1 ∈ ns ∨ (f p.1 ∈ F ∧ lk (f p.1) objs = none)
 | [], _ => by simp
 | q :: r, h => by
  simp only [newOk] at h
  have hr : newOk ns f F objs r = true ∧ (q.1 ∈ ns ∨ (f q.1 ∈ F ∧ lk (f q.1) objs = none)) := by
   cases h1 : inl q.1 ns with
   | true => simp only [h1, cond_true] at h; exact ⟨h, .inl ((Qx _ _).1 h1)⟩
   | false =>
    cases h2 : inl (f q.1) F with
    | false => simp [h1, h2] at h
    | true =>
     cases h3 : lk (f q.1) objs with
     | some _ => simp [h1, h2, h3] at h
     | none => simp only [h1, h2, h3, cond_true, cond_false] at h; exact ⟨h, .inr ⟨(Qx _ _).1 h2, rfl⟩⟩
  intro p hp
  rcases List.mem_cons.1 hp with rfl | hp
  ·exact hr.2
  ·exact Qnb hr.1 p hp
def Qno (fl : Nat → Nat) (labs live : List Nat) : List Nat → Bool
 | [] => true
 | n :: r => cond (cond (inl (fl n) live) (inl (fl n) (labs.map fl)) true) (Qno fl labs live r) false
theorem Qfp {fl : Nat → Nat} {labs live : List Nat} : ∀ {l : List Nat}, Qno fl labs live l = true → ∀ n ∈ l, fl n ∈ live → fl n ∈ labs.map fl
 | [], _ => by simp
 | m :: r, h => by
  simp only [Qno] at h
  intro n hn hl
  cases h1 : inl (fl m) live with
  | false =>
   simp only [h1, cond_false, cond_true] at h
   rcases List.mem_cons.1 hn with rfl | hn
   ·rw [(Qx _ _).2 hl] at h1; cases h1
   ·exact Qfp h n hn hl
  | true =>
   cases h2 : inl (fl m) (labs.map fl) with
   | false => simp [h1, h2] at h
   | true =>
    simp only [h1, h2, cond_true] at h
    rcases List.mem_cons.1 hn with rfl | hn
    ·exact (Qx _ _).1 h2
    ·exact Qfp h n hn hl
def cChk (S : CSp) (f fl : Nat → Nat) (F : List Nat) (st : XSt) (xs : List XV) (inO s1o : List (Nat × XOb)) (s1l : List Nat) (res : XV) : Bool :=
 cond (Q51 S.names) (cond (Q51 (S.names.map f)) (cond (Qc6 S.names S.labs inO) (cond (Qc6 (s1o.map (·.1)) s1l s1o) (cond (Q51 (s1o.map fun p => f p.1)) (cond (newOk S.names f F st.objs s1o)
 (cond (subL S.names (s1o.map (·.1))) (cond (Q5g F (putXs f fl inO st.objs)) (cond (subL (S.labs.map fl) st.live) (cond (Q51 (S.labs.map fl)) (cond (Q51 (s1l.map fl)) (cond (subL (s1l.map fl) F)
 (cond (Qno fl S.labs st.live s1l) (cond (nmsL S.names S.labs xs) (res.nms (s1o.map (·.1)) s1l) false) false) false) false) false) false) false) false) false) false) false) false) false) false
structure CChk (S : CSp) (f fl : Nat → Nat) (F : List Nat) (st : XSt) (xs : List XV) (inO s1o : List (Nat × XOb)) (s1l : List Nat) (res : XV) : Prop where
 nd1 : S.names.Nodup
 nd2 : (S.names.map f).Nodup
 innm : Qc6 S.names S.labs inO = true
 outnm : Qc6 (s1o.map (·.1)) s1l s1o = true
 nd3 : (s1o.map fun p => f p.1).Nodup
 new : ∀ p ∈ s1o, p.1 ∈ S.names ∨ (f p.1 ∈ F ∧ lk (f p.1) st.objs = none)
 sub : ∀ x ∈ S.names, x ∈ s1o.map (·.1)
 free : Q5g F (putXs f fl inO st.objs) = true
 l1 : ∀ x ∈ S.labs.map fl, x ∈ st.live
 l2 : (S.labs.map fl).Nodup
 l3 : (s1l.map fl).Nodup
 l4 : ∀ x ∈ s1l.map fl, x ∈ F
 l5 : ∀ n ∈ s1l, fl n ∈ st.live → fl n ∈ S.labs.map fl
 xsn : nmsL S.names S.labs xs = true
 resn : res.nms (s1o.map (·.1)) s1l = true
theorem Qzn {S : CSp} {f fl : Nat → Nat} {F : List Nat} {st : XSt} {xs : List XV} {inO s1o : List (Nat × XOb)} {s1l : List Nat} {res : XV} (h : cChk S f fl F st xs inO s1o s1l res = true) : CChk S f fl F st xs inO s1o s1l res := by
 unfold cChk at h
 have c : ∀ {a b : Bool}, cond a b false = true → a = true ∧ b = true := by intro a b h; cases a <;> simp at h; exact ⟨rfl, h⟩
 obtain ⟨h1, h⟩ := c h
 obtain ⟨h2, h⟩ := c h
 obtain ⟨h3, h⟩ := c h
 obtain ⟨h4, h⟩ := c h
 obtain ⟨h5, h⟩ := c h
 obtain ⟨h6, h⟩ := c h
 obtain ⟨h7, h⟩ := c h
 obtain ⟨h8, h⟩ := c h
 obtain ⟨h9, h⟩ := c h
 obtain ⟨h10, h⟩ := c h
 obtain ⟨h11, h⟩ := c h
 obtain ⟨h12, h⟩ := c h
 obtain ⟨h13, h⟩ := c h
 obtain ⟨h14, h⟩ := c h
 exact ⟨Q2w h1, Q2w h2, h3, h4, Q2w h5, Qnb h6, Qae h7, h8, Qae h9, Q2w h10, Q2w h11, Qae h12, Qfp h13, h14, h⟩
theorem Qny {l : List (Nat × XOb)} {p : Nat × Ob} (h : p ∈ Q0 l) : ∃ q ∈ l, p = (q.1, q.2.o) := by
 unfold Q0 at h
 obtain ⟨q, hq, rfl⟩ := List.mem_map.1 h
 exact ⟨q, hq, rfl⟩
theorem Q78 {f fl : Nat → Nat} {l : List (Nat × XOb)} {acc : List (Nat × Ob)} {j : Nat} (h : ∀ p ∈ l, f p.1 ≠ j) : (Qv f fl (Q0 l) acc).lookup j = acc.lookup j := by
 refine Q7b _ _ j fun p hp => ?_
 obtain ⟨q, hq, rfl⟩ := Qny hp
 exact h q hq
theorem Qbf {f fl : Nat → Nat} {l : List (Nat × XOb)} {acc : List (Nat × Ob)} {p : Nat × XOb} (hn : (l.map fun p => f p.1).Nodup) (h : p ∈ l) : (Qv f fl (Q0 l) acc).lookup (f p.1) = some (p.2.mp f fl).o := by
 have := Qbc (f := f) (fl := fl) (Q0 l) acc (p.1, p.2.o) (by simpa [Q0, Function.comp_def] using hn) (List.mem_map_of_mem (f := fun p : Nat × XOb => (p.1, p.2.o)) h)
 rw [XOb.mp_o]
 exact this
theorem Qqh {α : Type} {l : List α} {f : α → Nat} (h : (l.map f).Nodup) {x y : α} (hx : x ∈ l) (hy : y ∈ l) (e : f x = f y) : x = y := Q4z h hx hy e
theorem Qyn {P : Program} {o : Oper} {rd : List (Operand × AV)} {S : CSp} {f fl : Nat → Nat} {F : List Nat} {st : XSt} {xs : List XV} {inO : List (Nat × XOb)} {y : S.out.T} {res : XV} {X : Store}
  (hc : CChk S f fl F st xs inO (gen (S.s0 xs inO) S.out y).objs (gen (S.s0 xs inO) S.out y).live res) (hnm : inO.map (·.1) = S.names)
  (hin : ∀ p ∈ inO, ∃ o, X.objs.lookup (f p.1) = some o ∧ ObLe o (p.2.mp f fl).o ∧ (inl p.1 S.out.keepO = true → o = (p.2.mp f fl).o))
  (hnew : ∀ p ∈ (gen (S.s0 xs inO) S.out y).objs, p.1 ∈ S.names ∨ (f p.1 ∈ F ∧ X.objs.lookup (f p.1) = none))
  (hfree : Qa F ⟨Qv f fl (Q0 inO) X.objs, X.live⟩ = true) (hl1 : ∀ x ∈ S.labs.map fl, x ∈ X.live) (hl5 : ∀ n ∈ (gen (S.s0 xs inO) S.out y).live, fl n ∈ X.live → fl n ∈ S.labs.map fl)
  (H : ∀ Y, LabCall Y ⟨Q0 inO, S.labs⟩ (gen (S.s0 xs inO) S.out y).X f fl F → OpT P o rd Y ⟨Qv f fl (gen (S.s0 xs inO) S.out y).X.objs Y.objs, Q2s fl Y ⟨Q0 inO, S.labs⟩ (gen (S.s0 xs inO) S.out y).X⟩ F (res.mp f fl).a) :
  OpT P o rd X ⟨Qv f fl (Q0 (outW S.out y)) X.objs, Q2s fl X ⟨Q0 inO, S.labs⟩ (gen (S.s0 xs inO) S.out y).X⟩ F (res.mp f fl).a := by
 generalize hs1 : gen (S.s0 xs inO) S.out y = s1 at *
 have hobjs : s1.objs = outW S.out y ++ Q5r inO S.out.keepO := by rw [← hs1, Q11y]; rfl
 have nd2 : (inO.map fun p => f p.1).Nodup := by
  have := hc.nd2
  rw [← hnm, List.map_map] at this
  exact this
 let Y : Store := ⟨Qv f fl (Q0 inO) X.objs, X.live⟩
 have yIn : ∀ p ∈ inO, Y.objs.lookup (f p.1) = some (p.2.mp f fl).o := fun p hp => Qbf nd2 hp
 have yOther : ∀ j, (∀ p ∈ inO, f p.1 ≠ j) → Y.objs.lookup j = X.objs.lookup j := fun j hj => Q78 hj
 have yCases : ∀ j, (∃ p ∈ inO, f p.1 = j) ∨ ∀ p ∈ inO, f p.1 ≠ j := by
  intro j
  by_cases h : ∃ p ∈ inO, f p.1 = j
  ·exact .inl h
  ·exact .inr fun p hp e => h ⟨p, hp, e⟩
 have hle : ∀ k o', Y.objs.lookup k = some o' → ∃ o, X.objs.lookup k = some o ∧ ObLe o o' := by
  intro k o' ho
  rcases yCases k with ⟨p, hp, rfl⟩ | hn
  ·rw [yIn p hp] at ho
   cases ho
   obtain ⟨o, h1, h2, _⟩ := hin p hp
   exact ⟨o, h1, h2⟩
  ·rw [yOther k hn] at ho
   exact ⟨o', ho, .refl _⟩
 have hkk : ∀ k, (X.objs.lookup k).isSome → (Y.objs.lookup k).isSome := by
  intro k hk
  rcases yCases k with ⟨p, hp, rfl⟩ | hn
  ·rw [yIn p hp]; rfl
  ·rw [yOther k hn]; exact hk
 have hXn : s1.X.objs.map (·.1) = s1.objs.map (·.1) := Q34 _
 have hlab : LabCall Y ⟨Q0 inO, S.labs⟩ s1.X f fl F := by
  refine ⟨?_, ?_, ?_, ?_, ?_, ?_, ?_, hfree, ?_, hc.l2, hc.l3, fun n hn => hc.l4 _ (List.mem_map_of_mem hn), hl5⟩
  ·intro p hp
   obtain ⟨q, hq, rfl⟩ := Qny hp
   rw [yIn q hq, XOb.mp_o]
  ·simp only [Q34, hnm]
   exact Qhc hc.innm
  ·rw [hXn]
   exact Qhc hc.outnm
  ·have := hc.nd3
   simpa [XSt.X, Q0, Function.comp_def] using this
  ·simp only [Q34, hnm]
   exact hc.nd1
  ·intro p hp
   obtain ⟨q, hq, rfl⟩ := Qny hp
   simp only [Q34, hnm]
   rcases hnew q hq with h | ⟨h1, h2⟩
   ·exact .inl h
   ·refine .inr ⟨h1, ?_⟩
    rw [yOther]
    ·exact h2
    ·intro p hp e
     obtain ⟨o, h3, _⟩ := hin p hp
     rw [e, h2] at h3
     cases h3
  ·intro p hp
   obtain ⟨q, hq, rfl⟩ := Qny hp
   rw [hXn]
   exact hc.sub _ (by rw [← hnm]; exact List.mem_map_of_mem (f := fun p : Nat × XOb => p.1) hq)
  ·intro n hn
   exact hl1 _ (List.mem_map_of_mem hn)
 have h1 := Q11f (H Y hlab) hle hkk rfl
 -- the same lookups
 have ndo := hc.nd3
 rw [hobjs] at ndo
 have same : ∀ j, (Qv f fl (Q0 (outW S.out y)) X.objs).lookup j = (Qv f fl s1.X.objs Y.objs).lookup j := by
  intro j
  by_cases hj : ∃ p ∈ s1.objs, f p.1 = j
  ·obtain ⟨p, hp, rfl⟩ := hj
   have e1 : (Qv f fl s1.X.objs Y.objs).lookup (f p.1) = some (p.2.mp f fl).o := Qbf hc.nd3 hp
   rw [e1]
   rw [hobjs] at hp
   rcases List.mem_append.1 hp with hp | hp
   ·exact Qbf (by
     rw [List.map_append] at ndo
     exact (Qf7 ndo).1) hp
   ·rw [Q78]
    ·obtain ⟨hk1, hk2⟩ := Q8h hp
     have hmem : p ∈ inO := Q7v hk2
     obtain ⟨o, h3, _, h4⟩ := hin p hmem
     rw [h3, h4 ((Qx _ _).2 hk1)]
    ·intro q hq e
     rw [List.map_append] at ndo
     exact (Qf7 ndo).2.2 (f q.1) (List.mem_map_of_mem (f := fun p : Nat × XOb => f p.1) hq) (by rw [e]; exact List.mem_map_of_mem (f := fun p : Nat × XOb => f p.1) hp)
  ·have hn : ∀ p ∈ s1.objs, f p.1 ≠ j := fun p hp e => hj ⟨p, hp, e⟩
   have e1 : (Qv f fl s1.X.objs Y.objs).lookup j = Y.objs.lookup j := Q78 hn
   rw [e1, yOther j ?_, Q78 ?_]
   ·intro p hp
    exact hn p (by rw [hobjs]; exact List.mem_append_left _ hp)
   ·intro p hp e
    have := hc.sub p.1 (by rw [← hnm]; exact List.mem_map_of_mem (f := fun p : Nat × XOb => p.1) hp)
    obtain ⟨q, hq, hqe⟩ := List.mem_map.1 this
    exact hn q hq (by rw [hqe]; exact e)
 intro nm hsm B g w a hr hrd next Q hn
 refine h1 nm hsm B g w a hr hrd next Q fun g' w' v hr' ht hv => hn g' w' v ?_ ht hv
 refine Qw3 hr' (fun k o' ho => ⟨o', ?_, .refl _⟩) (fun k hk => ?_) rfl
 ·rw [← same k]; exact ho
 ·rw [same k]; exact hk
def Qzp (o : Oper) : Nat := match o.dst with
 | some d => 1000000 + 1000 * d
 | none => 999000
def findP : List (Nat × Nat) → List XV → List (Nat × Nat) → List (Nat × Nat)
 | p :: ps, .nm k _ :: cs, σ => findP ps cs ((p.1, k) :: σ)
 | _ :: ps, _ :: cs, σ => findP ps cs σ
 | _, _, σ => σ
def findA : List AS → List XV → List (Nat × Nat) → List (Nat × Nat)
 | .p k _ :: r, .nm k' _ :: vs, σ => findA r vs ((k, k') :: σ)
 | .os k _ :: r, .os k' _ _ _ :: vs, σ => findA r vs ((k, k') :: σ)
 | .oa k _ _ :: r, .os k' _ _ _ :: vs, σ => findA r vs ((k, k') :: σ)
 | .clo _ ps :: r, .clo _ caps :: vs, σ => findA r vs (findP ps caps σ)
 | _ :: r, _ :: vs, σ => findA r vs σ
 | _, _, σ => σ
def findC : List VK → List XV → List (Nat × Nat) × List (Nat × Nat) → List (Nat × Nat) × List (Nat × Nat)
 | .d t :: r, cs, σ => findC r (cs.drop t.size) σ
 | .p k _ :: r, .nm k' _ :: cs, σ => findC r cs ((k, k') :: σ.1, σ.2)
 | .tip n _ _ :: r, .tip n' _ _ _ :: cs, σ => findC r cs (σ.1, (n, n') :: σ.2)
 | _ :: r, _ :: cs, σ => findC r cs σ
 | _, _, σ => σ
def findO (objs : List (Nat × XOb)) : List (Nat × List VK × Option TypeId) → List (Nat × Nat) × List (Nat × Nat) → List (Nat × Nat) × List (Nat × Nat)
 | [], σ => σ
 | p :: r, σ => match lk (nf σ.1 p.1) objs with
  | some (.cells cs _) => findO objs r (findC p.2.1 cs σ)
  | _ => findO objs r σ
def newNs (ns : List Nat) (b : Nat) : List Nat → List (Nat × Nat)
 | [] => []
 | k :: r => cond (inl k ns) (newNs ns b r) ((k, b + k) :: newNs ns b r)
def newLs (b : Nat) : List Nat → List (Nat × Nat)
 | [] => []
 | n :: r => (n, b) :: newLs (b + 1) r
def cNew (S : CSp) (o : Oper) : List (Nat × Nat) := newNs S.names (Qzp o) (Q3d S.out.objs ++ (ownNames S.out.own ++ Q24 S.out.arrs))
def cFind (S : CSp) (o : Oper) (st : XSt) (vs : List XV) : List (Nat × Nat) × List (Nat × Nat) :=
 let σ := findO st.objs S.objs (findA S.args vs [], [])
 (σ.1 ++ cNew S o, σ.2 ++ newLs (3000000 + Qzp o) S.out.labs)
def Q7y {α : Type} : List α → Bool
 | [] => true
 | _ => false
def datL : List XV → Bool
 | [] => true
 | .d _ :: r => datL r
 | _ => false
theorem Qw1 {f fl : Nat → Nat} : ∀ {l : List XV}, datL l = true → mpL f fl l = l
 | [], _ => rfl
 | .d x :: r, h => by
  have := Qw1 (f := f) (fl := fl) (l := r) h
  simp only [mpL, XV.mp, this]
 | .nm _ _ :: _, h => by simp [datL] at h
 | .tip _ _ _ _ :: _, h => by simp [datL] at h
 | .tup _ :: _, h => by simp [datL] at h
 | .agg _ :: _, h => by simp [datL] at h
 | .clo _ _ :: _, h => by simp [datL] at h
 | .os _ _ _ _ :: _, h => by simp [datL] at h
 | .el _ _ _ _ :: _, h => by simp [datL] at h
 | .tpt _ _ _ _ :: _, h => by simp [datL] at h
theorem Qjg : ∀ {l : List XV}, datL l = true → Qp (asOf l) = true
 | [], _ => rfl
 | .d x :: r, h => by
  have := Qjg (l := r) h
  simp only [asOf, XV.a, Qp, Q3i, this, Bool.and_self]
 | .nm _ _ :: _, h => by simp [datL] at h
 | .tip _ _ _ _ :: _, h => by simp [datL] at h
 | .tup _ :: _, h => by simp [datL] at h
 | .agg _ :: _, h => by simp [datL] at h
 | .clo _ _ :: _, h => by simp [datL] at h
 | .os _ _ _ _ :: _, h => by simp [datL] at h
 | .el _ _ _ _ :: _, h => by simp [datL] at h
 | .tpt _ _ _ _ :: _, h => by simp [datL] at h
def cOut {R : Type} (P : Program) (fn : Func) (S : CSp) (f fl : Nat → Nat) (nw : List Nat) (st : XSt) (rd : List (Operand × XV)) (xs : List XV) (inO : List (Nat × XOb)) (K : Out → Option R) (y : S.out.T) : Option R :=
 match xres P (gen (S.s0 xs inO) S.out y) fn.results.toList with
 | some rs => cond (datL (xs.drop S.n)) (
  cond (cChk S f fl (nw ++ (gen (S.s0 xs inO) S.out y).live.map fl) st xs inO (gen (S.s0 xs inO) S.out y).objs (gen (S.s0 xs inO) S.out y).live (tupX rs))
   (cond (cond (Q7y (outW S.out y)) (cond (Q7y (nw ++ (gen (S.s0 xs inO) S.out y).live.map fl)) (Q7y S.labs) false) false)
    (K ⟨.look (S.names.map f), (tupX rs).mp f fl, rd, st.objs, st.live, [], []⟩)
    (K ⟨.all, (tupX rs).mp f fl, rd, putXs f fl (outW S.out y) st.objs, Q2s fl st.X ⟨[], S.labs⟩ ⟨[], (gen (S.s0 xs inO) S.out y).live⟩, nw ++ (gen (S.s0 xs inO) S.out y).live.map fl, (outW S.out y).map fun p => f p.1⟩)) none) none
 | none => none
def Qjs {R : Type} : List (Nat × Nat) → (List (Nat × Nat) → R) → R
 | [], K => K []
 | p :: r, K => Qjs r fun r' => K ((p.1, p.2) :: r')
theorem Qcx {R : Type} : ∀ (l : List (Nat × Nat)) (K : List (Nat × Nat) → R), Qjs l K = K l
 | [], K => rfl
 | p :: r, K => by
  simp only [Qjs]
  rw [Qcx r]
def cCore {R : Type} (P : Program) (fn : Func) (S : CSp) (F : S.Fun (Option S.out.T)) (o : Oper) (st : XSt) (rd : List XV → List (Operand × XV)) (vs : List XV) (K : Out → Option R) : Option R :=
 Qjs (cFind S o st vs).1 fun σ => Qjs (cFind S o st vs).2 fun τ =>
  appAs (nf σ) S.args F vs [] fun F' xs =>
   appOs (nf σ) (nf τ) S.out.keepO st.objs S.objs F' [] fun F'' os =>
    appRs (nf σ) st.objs S.arrs F'' os fun F3 os' =>
     Option.bind F3 fun y => cOut P fn S (nf σ) (nf τ) ((cNew S o).map (·.2)) st (rd (mpL (nf σ) (nf τ) xs)) xs os' K y
def cRun {R : Type} (P : Program) (fn : Func) (S : CSp) (F : S.Fun (Option S.out.T)) (o : Oper) (st : XSt) (vs : List XV) (K : Out → Option R) : Option R :=
 cond (Nat.beq (Q1n o).length S.n) (match Qm st (gops S.gids) with
  | some us => cCore P fn S F o st (fun ms => (appL (Q1n o) (gops S.gids)).zip ms) (appL vs us) K
  | none => none) none
def Qms (o : Oper) : Operand :=
 match o.op with
 | .call c => match c.callee with
  | .value x => x
  | _ => .const undef
 | _ => .const undef
def cRunC {R : Type} (P : Program) (id : FuncId) (fn : Func) (S : CSp) (F : S.Fun (Option S.out.T)) (o : Oper) (st : XSt) (caps vs : List XV) (K : Out → Option R) : Option R :=
 cond (cond (Qgs caps) (cond (Q7y S.gids) (Nat.beq S.n (vs.length + caps.length)) false) false) (cCore P fn S F o st (fun ms => (Qms o, .clo id caps) :: (Q1n o).zip ms) (vs ++ caps) K) none
theorem Qf9 {α : Type} {l : List α} (h : Q7y l = true) : l = [] := by cases l <;> simp [Q7y] at h; rfl
theorem Qwi {P : Program} {R : Type} {id : FuncId} {fn : Func} {S : CSp} {f fl : Nat → Nat} {nw : List Nat} {st : XSt} {rd : List (Operand × XV)} {xs : List XV} {inO : List (Nat × XOb)} {K : Out → Option R} {y : S.out.T} {r : R} {o : Oper}
  (hg : GoodC P id fn S y xs inO) (hin : ∀ p ∈ inO, InR f fl S.out.keepO st.objs p) (hsee : ∀ p ∈ imRd rd, Sees st.im p.1 p.2)
  (H : ∀ (rs : List XV) (F : List Nat) (Y : Store), datL (xs.drop S.n) = true → DoesH P id (asOf (xs.take S.n)) (S.gids.zip (asOf (xs.drop S.n))) ⟨Q0 inO, S.labs⟩ (tupX rs).a (gen (S.s0 xs inO) S.out y).X → nmsL S.names S.labs xs = true → inO.map (·.1) = S.names → (tupX rs).nms ((gen (S.s0 xs inO) S.out y).objs.map (·.1)) (gen (S.s0 xs inO) S.out y).live = true → LabCall Y ⟨Q0 inO, S.labs⟩ (gen (S.s0 xs inO) S.out y).X f fl F →
   OpT P o (imRd rd) Y ⟨Qv f fl (gen (S.s0 xs inO) S.out y).X.objs Y.objs, Q2s fl Y ⟨Q0 inO, S.labs⟩ (gen (S.s0 xs inO) S.out y).X⟩ F ((tupX rs).mp f fl).a)
  (h : cOut P fn S f fl nw st rd xs inO K y = some r) : ∃ out, K out = some r ∧ OpOk P o st out := by
 unfold cOut at h
 split at h
 ·rename_i rs hrs
  cases hdat : datL (xs.drop S.n) with
  | false => rw [hdat] at h; cases h
  | true =>
  rw [hdat, cond_true] at h
  generalize hchk : cChk S f fl (nw ++ (gen (S.s0 xs inO) S.out y).live.map fl) st xs inO (gen (S.s0 xs inO) S.out y).objs (gen (S.s0 xs inO) S.out y).live (tupX rs) = b at h
  cases b with
  | false => cases h
  | true =>
   have hc := Qzn hchk
   simp only [cond_true] at h
   obtain ⟨hnm, hdoes⟩ := hg
   have hd := hdoes rs hrs
   have core : ∀ X : Store, (∀ p ∈ inO, ∃ o, X.objs.lookup (f p.1) = some o ∧ ObLe o (p.2.mp f fl).o ∧ (inl p.1 S.out.keepO = true → o = (p.2.mp f fl).o)) →
     (∀ p ∈ (gen (S.s0 xs inO) S.out y).objs, p.1 ∈ S.names ∨ (f p.1 ∈ (nw ++ (gen (S.s0 xs inO) S.out y).live.map fl) ∧ X.objs.lookup (f p.1) = none)) →
     Qa (nw ++ (gen (S.s0 xs inO) S.out y).live.map fl) ⟨Qv f fl (Q0 inO) X.objs, X.live⟩ = true → (∀ x ∈ S.labs.map fl, x ∈ X.live) → (∀ n ∈ (gen (S.s0 xs inO) S.out y).live, fl n ∈ X.live → fl n ∈ S.labs.map fl) →
     OpT P o (imRd rd) X ⟨Qv f fl (Q0 (outW S.out y)) X.objs, Q2s fl X ⟨Q0 inO, S.labs⟩ (gen (S.s0 xs inO) S.out y).X⟩ (nw ++ (gen (S.s0 xs inO) S.out y).live.map fl) ((tupX rs).mp f fl).a := by
    intro X h1 h2 h3 h4 h5
    exact Qyn hc hnm h1 h2 h3 h4 h5 (fun Y hY => H rs _ Y hdat hd hc.xsn hnm hc.resn hY)
   cases hlook : (cond (Q7y (outW S.out y)) (cond (Q7y (nw ++ (gen (S.s0 xs inO) S.out y).live.map fl)) (Q7y S.labs) false) false) with
   | true =>
    rw [hlook] at h
    simp only [cond_true] at h
    have hl : outW S.out y = [] ∧ nw ++ (gen (S.s0 xs inO) S.out y).live.map fl = [] ∧ S.labs = [] := by
     cases e1 : Q7y (outW S.out y) with
     | false => simp [e1] at hlook
     | true =>
      cases e2 : Q7y (nw ++ (gen (S.s0 xs inO) S.out y).live.map fl) with
      | false => simp [e1, e2] at hlook
      | true => simp only [e1, e2, cond_true] at hlook; exact ⟨Qf9 e1, Qf9 e2, Qf9 hlook⟩
    obtain ⟨w1, w2, w3⟩ := hl
    refine ⟨_, h, ⟨hsee, ⟨rfl, rfl, rfl, fun X hX => ?_⟩, fun _ _ _ h => h⟩⟩
    have hlv : (gen (S.s0 xs inO) S.out y).live = [] := by
     have := (List.append_eq_nil_iff.1 w2).2
     simpa using this
    have hlk : ∀ p ∈ inO, X.objs.lookup (f p.1) = st.X.objs.lookup (f p.1) := fun p hp => hX _ (List.mem_map.2 ⟨p.1, by rw [← hnm]; exact List.mem_map_of_mem (f := fun p : Nat × XOb => p.1) hp, rfl⟩)
    have c1 := core X (fun p hp => by
      obtain ⟨o, h1, h2, h3⟩ := hin p hp
      exact ⟨o.o, by rw [hlk p hp]; exact Q8z h1, h2, h3⟩) (fun p hp => by
      rcases hc.new p hp with h | ⟨h, _⟩
      ·exact .inl h
      ·rw [w2] at h; cases h) (by rw [w2]; rfl) (by rw [w3]; simp) (by rw [hlv]; simp)
    rw [w2, w1] at c1
    have e : Q2s fl X ⟨Q0 inO, S.labs⟩ (gen (S.s0 xs inO) S.out y).X = X.live := by
     unfold Q2s
     show (gen (S.s0 xs inO) S.out y).live.map fl ++ _ = _
     rw [hlv, w3]
     simp
    rw [e] at c1
    exact c1
   | false =>
    rw [hlook] at h
    simp only [cond_false] at h
    refine ⟨_, h, ⟨hsee, ?_, fun j x hj hx => ?_⟩⟩
    ·have c1 := core st.X (fun p hp => by
       obtain ⟨o, h1, h2, h3⟩ := hin p hp
       exact ⟨o.o, Q8z h1, h2, h3⟩) (fun p hp => by
       rcases hc.new p hp with h | ⟨h, h'⟩
       ·exact .inl h
       ·refine .inr ⟨h, ?_⟩
        show (Q0 st.objs).lookup _ = none
        rw [Q1l, h']; rfl) (by
       have := Q7i (live := st.live) hc.free
       rw [Qn3] at this
       exact this) hc.l1 hc.l5
     have e1 : Q0 (putXs f fl (outW S.out y) st.objs) = Qv f fl (Q0 (outW S.out y)) st.X.objs := Qn3 _ _ _ _
     show OpT P o (imRd rd) st.X ⟨Q0 (putXs f fl (outW S.out y) st.objs), _⟩ _ _
     rw [e1]
     exact c1
    ·rw [Qm1] at hx
     ·exact hx
     ·intro p hp e
      exact hj (List.mem_map.2 ⟨p, hp, e⟩)
 ·cases h
theorem Qtg {α β : Type} : ∀ (a : List α) (b c : List β), a.length = b.length → a.zip (b ++ c) = a.zip b
 | [], b, c, h => by simp
 | x :: a, [], c, h => by simp at h
 | x :: a, y :: b, c, h => by simp only [List.cons_append, List.zip_cons_cons]; rw [Qtg a b c (by simpa using h)]
theorem Qqo {ks ls : List Nat} : ∀ {l : List XV} (n : Nat), nmsL ks ls l = true → nmsL ks ls (l.take n) = true
 | [], n, _ => by simp [nmsL]
 | x :: r, 0, _ => rfl
 | x :: r, n + 1, h => by
  simp only [nmsL] at h
  cases hx : x.nms ks ls with
  | false => simp [hx] at h
  | true =>
   simp only [hx, cond_true] at h
   simp only [List.take_succ_cons, nmsL, hx, cond_true]
   exact Qqo n h
theorem Q12u {P : Program} {R : Type} {id : FuncId} {fn : Func} {S : CSp} {F : S.Fun (Option S.out.T)} (hc : CallI P id) (hs : SndC P id fn S F) {o : Oper} {st : XSt} {aops : Array Operand} {ts : Array TypeId} {vs : List XV} {K : Out → Option R} {r : R}
  (ho : o.op = .call { callee := .value (.func id), args := aops, argTypes := ts }) (hv : Qm st aops.toList = some vs) (h : cRun P fn S F o st vs K = some r) : ∃ out, K out = some r ∧ OpOk P o st out := by
 have e : Q1n o = aops.toList := by simp [Q1n, ho]
 unfold cRun at h
 rw [e] at h
 cases hb : Nat.beq aops.toList.length S.n with
 | false => rw [hb] at h; cases h
 | true =>
 have hn : aops.toList.length = S.n := Nat.eq_of_beq_eq_true hb
 rw [hb, cond_true] at h
 split at h
 ·rename_i us hus
  rw [Qw5, Qw5, Qt9] at h
  rw [Qt9] at hus
  unfold cCore at h
  rw [Qcx, Qcx] at h
  generalize (cFind S o st (vs ++ us)).1 = σ at h
  generalize (cFind S o st (vs ++ us)).2 = τ at h
  obtain ⟨F', xs, q1, a1, h⟩ := Q8j (fl := nf τ) S.args F (vs ++ us) [] [] hs .nil h
  obtain ⟨F'', os, q2, a2, h⟩ := Qmh S.objs F' [] q1 (by simp) h
  obtain ⟨F3, os', q3, a3, h⟩ := Qmg (fl := nf τ) (ko := S.out.keepO) S.arrs F'' os q2 a2 h
  obtain ⟨y, hy, h⟩ := Option.bind_eq_some_iff.1 h
  rw [List.nil_append] at a1
  refine Qwi (q3 y hy) a3 (a1.sees (Qda hv hus)) ?_ h
  intro rs Fr Y hdat hd hx hnm hr hlab
  have hxl : xs.length = aops.toList.length + (S.gids.map Operand.global).length := by
   have h1 := a1.length
   have h2 := Q5a (Qda hv hus)
   rw [@List.length_append _ aops.toList] at h2
   omega
  have htk : (xs.take S.n).length = aops.size := by
   rw [List.length_take, hxl]
   have : aops.toList.length = aops.size := by simp
   omega
  have := Qrp (X := Y) (gids := S.gids) (ys := asOf (xs.drop S.n)) (nf σ) (nf τ) Fr ho hc hd hlab (by rw [Q8, htk]) (by
    simp only [Q34, hnm]
    refine Qf1 ?_
    exact Qqo _ hx) (Qjg hdat) (by
    have e : (gen (S.s0 xs os') S.out y).X.objs.map (·.1) = (gen (S.s0 xs os') S.out y).objs.map (·.1) := Q34 _
    rw [e]
    exact XV.nms_a hr)
  have hz : imRd ((aops.toList ++ S.gids.map Operand.global).zip (mpL (nf σ) (nf τ) xs)) = aops.toList.zip (mapLs (nf σ) (nf τ) (asOf (xs.take S.n))) ++ (S.gids.map Operand.global).zip (asOf (xs.drop S.n)) := by
   conv => lhs; rw [← List.take_append_drop S.n xs]
   rw [Qdl, Qw1 hdat, List.zip_append (by rw [Ql4, List.length_map, htk]; simp), Q2d, Q6q, Q6q, mpL_a]
  rw [hz, ← XV.mp_a] at *
  exact this
 ·cases h
theorem Q111 {P : Program} {R : Type} {id : FuncId} {fn : Func} {S : CSp} {F : S.Fun (Option S.out.T)} (hc : CallI P id) (hs : SndC P id fn S F) {o : Oper} {st : XSt} {t : Tmp} {aops : Array Operand} {ts : Array TypeId} {caps vs : List XV} {K : Out → Option R} {r : R}
  (ho : o.op = .call { callee := .value (.tmp t), args := aops, argTypes := ts }) (hclo : xeval st (.tmp t) = some (.clo id caps)) (hv : Qm st aops.toList = some vs) (h : cRunC P id fn S F o st caps vs K = some r) : ∃ out, K out = some r ∧ OpOk P o st out := by
 have e : Q1n o = aops.toList := by simp [Q1n, ho]
 have e2 : Qms o = .tmp t := by simp [Qms, ho]
 unfold cRunC cCore at h
 cases hnmo : Qgs caps with
 | false => simp [hnmo] at h
 | true =>
 cases hgn : Q7y S.gids with
 | false => simp [hnmo, hgn] at h
 | true =>
 have hgids := Qf9 hgn
 cases hbn : Nat.beq S.n (vs.length + caps.length) with
 | false => simp [hnmo, hgn, hbn] at h
 | true =>
 simp only [hnmo, hgn, hbn, cond_true] at h
 rw [e, e2, Qcx, Qcx] at h
 generalize (cFind S o st (vs ++ caps)).1 = σ at h
 generalize (cFind S o st (vs ++ caps)).2 = τ at h
 obtain ⟨F', xs, q1, a1, h⟩ := Q8j (fl := nf τ) S.args F (vs ++ caps) [] [] hs .nil h
 obtain ⟨F'', os, q2, a2, h⟩ := Qmh S.objs F' [] q1 (by simp) h
 obtain ⟨F3, os', q3, a3, h⟩ := Qmg (fl := nf τ) (ko := S.out.keepO) S.arrs F'' os q2 a2 h
 obtain ⟨y, hy, h⟩ := Option.bind_eq_some_iff.1 h
 rw [List.nil_append] at a1
 have a1' := a1
 obtain ⟨xa, xc, rfl, a4, a5⟩ := a1.split
 have hcaps := a5.caps hnmo
 have hlen : aops.toList.length = (mpL (nf σ) (nf τ) xa).length := by
  rw [Ql4, List.length_map, ← a4.length, Q5a hv]
 rw [Qdl, Qtg _ _ _ hlen] at h
 have hSn : S.n = (xa ++ xc).length := by
  have h1 := a1.length
  have h2 := Nat.eq_of_beq_eq_true hbn
  simp only [List.length_append] at h1 ⊢
  omega
 refine Qwi (q3 y hy) a3 ?_ ?_ h
 ·intro p hp
  simp only [imRd, List.map_cons, List.mem_cons] at hp
  rcases hp with rfl | hp
  ·exact Q9 (x := .tmp t) hclo
  ·exact a4.sees hv p hp
 ·intro rs Fr Y hdat hd hx hnm hr hlab
  rw [hSn, List.take_length, List.drop_length, hgids] at hd
  rw [Q5f] at hd
  have := Qnd (X := Y) (nf σ) (nf τ) Fr ho hc hd.plain hlab (by
    have h1 := a4.length
    have h2 := Q5a hv
    rw [Q8, ← h1, h2]; simp) (by
    simp only [Q34, hnm]
    have := Qf1 hx
    rw [Q5f] at this
    exact this) (by
    have e : (gen (S.s0 (xa ++ xc) os') S.out y).X.objs.map (·.1) = (gen (S.s0 (xa ++ xc) os') S.out y).objs.map (·.1) := Q34 _
    rw [e]
    exact XV.nms_a hr)
  rw [← mpL_a, ← mpL_a, ← hcaps, ← Q6q, ← XV.mp_a] at this
  exact this
def mkCS {P : Program} (id : FuncId) (fn : Func) (S : CSp) (F : S.Fun (Option S.out.T)) (hc : CallI P id) (hs : SndC P id fn S F) : Ent P where
 id := id
 run := cRun P fn S F
 ok := by
  intro R o st aops ts vs K r ho hv h
  exact Q12u hc hs ho hv h
 crun := cRunC P id fn S F
 cok := by
  intro R o st t caps aops ts vs K r ho hclo hv h
  exact Q111 hc hs ho hclo hv h
def mkC {P : Program} {Γ : List (Ent P)} {own : List Nat} {N : Nat} (id : FuncId) (fn : Func) (an : An) (S : CSp) (F : S.Fun (Option S.out.T)) (hm : P.follows .mixedOrders = true) (hf : P.funcs[id]? = some fn)
  (hc : CallI P id) (hn : Nat.ble S.args.length fn.ntmps = true) (hsm : Qg3 S.names = true) (hks : Qkz S = true) (hE : runC P Γ own N fn an S = F) : Ent P :=
 mkCS id fn S F hc (hE ▸ Qx1 hm hf hn hsm hks)
end Go.Xl
set_option linter.unusedVariables false
set_option linter.unusedSimpArgs false
namespace Go.Xl
open Go.Ab
end Go.Xl
set_option linter.unusedVariables false
set_option maxRecDepth 100000
namespace Go.Proofs.Xg
open Go Go.Xl Go.Ab Go.Proofs
theorem mixed : Try.prog.follows .mixedOrders = true := by kernel_rfl
@[reducible] def tDot : Ty := (.pair (.int .u16) (.int .u64))
noncomputable def Q4j (N : Nat) : Fun [(.int .u16)] (Option (ResT [.bool])) := fun (x : Int) => some (x != x)
theorem Qir (N : Nat) : runF Try.prog [] [] N Try.f120 .lf [(.int .u16)] [.bool] = Q4j N := by kernel_rfl
noncomputable def Qix (N : Nat) : Ent Try.prog := mkFn 120 Try.f120 .lf [(.int .u16)] [.bool] (Q4j N) mixed Try.func120 (.mk' Try.func120 rfl (by decide)) rfl (Qir N)
noncomputable def Q32 (N : Nat) : Fun [(.int .u16), (.int .u16)] (Option (ResT [(.int .i64)])) := fun (x x_1 : Int) => Option.bind (Q4j N x) fun (y : Bool) => Option.bind
 (Q4j N x_1) fun (y_1 : Bool) => bif y then bif y_1 then some 0 else some (-1) else bif y_1 then some 1 else bif decide (x < x_1) then some (-1) else bif decide (x_1 < x) then some 1 else some 0
theorem Qhu (N : Nat) : runF Try.prog [Qix N] [] N Try.f85 .lf [(.int .u16), (.int .u16)] [(.int .i64)] = Q32 N := by kernel_rfl
noncomputable def Qhk (N : Nat) : Ent Try.prog := mkFn 85 Try.f85 .lf [(.int .u16), (.int .u16)] [(.int .i64)] (Q32 N) mixed Try.func85 (.mk' Try.func85 rfl (by decide)) rfl (Qhu N)
noncomputable def Qs (N : Nat) : Fun [(.int .u64)] (Option (ResT [.bool])) := fun (x : Int) => some (x != x)
theorem Q8q (N : Nat) : runF Try.prog [] [] N Try.f121 .lf [(.int .u64)] [.bool] = Qs N := by kernel_rfl
noncomputable def Q97 (N : Nat) : Ent Try.prog := mkFn 121 Try.f121 .lf [(.int .u64)] [.bool] (Qs N) mixed Try.func121 (.mk' Try.func121 rfl (by decide)) rfl (Q8q N)
noncomputable def Q39 (N : Nat) : Fun [(.int .u64), (.int .u64)] (Option (ResT [(.int .i64)])) := fun (x x_1 : Int) => Option.bind (Qs N x) fun (y : Bool) => Option.bind
 (Qs N x_1) fun (y_1 : Bool) => bif y then bif y_1 then some 0 else some (-1) else bif y_1 then some 1 else bif decide (x < x_1) then some (-1) else bif decide (x_1 < x) then some 1 else some 0
theorem Qhr (N : Nat) : runF Try.prog [Q97 N] [] N Try.f86 .lf [(.int .u64), (.int .u64)] [(.int .i64)] = Q39 N := by kernel_rfl
noncomputable def Qhl (N : Nat) : Ent Try.prog := mkFn 86 Try.f86 .lf [(.int .u64), (.int .u64)] [(.int .i64)] (Q39 N) mixed Try.func86 (.mk' Try.func86 rfl (by decide)) rfl (Qhr N)
end Go.Proofs.Xg
set_option linter.unusedVariables false
set_option linter.unusedSimpArgs false
namespace Go.Xl
open Go.Ab Go.Sort Go.Proofs Go.Shelf Go.RowKit Go.Lib
theorem Ty.Plain.one {t : Ty} (h : t.Plain) (x : t.T) : ∀ v ∈ t.vals x, v.oneCell' = true := by
 intro v hv
 have h1 : D.sc v ∈ t.ds x := by rw [← h.vals x]; exact List.mem_map_of_mem (f := D.sc) hv
 have := t.ds_one x _ h1
 simpa [oneD] using this
theorem Ty.Plain.ra {t : Ty} (h : t.Plain) (ha : t.agg = true) (x : t.T) (g : Gh) (w : World) : RA g w (XV.d (t.xv x)).a (.agg (t.vals x).toArray) := by
 have e : (XV.d (t.xv x)).a = .d (.agg ((t.vals x).map .sc)) := by
  show AV.d (t.dv x) = _
  rw [t.dv_agg x ha, h.vals]
 rw [e]
 refine .d _ _ (.agg _ _ (by simp) ?_)
 intro i c v hc hv
 rw [List.getElem?_map, Option.map_eq_some_iff] at hc
 obtain ⟨u, hu, rfl⟩ := hc
 simp only [List.getElem?_toArray] at hv
 rw [hu] at hv
 cases hv
 exact .sc _
end Go.Xl
namespace Go.Proofs
open Go.Shelf
end Go.Proofs
set_option linter.unusedVariables false
set_option linter.unusedSimpArgs false
namespace Go.Xl
theorem Q3c {σ R : Type} {f : (σ → Option R) → σ → Option R} {G : σ → Option R} (I : Nat → σ → Prop)
  (step : ∀ (n : Nat) (x : σ) (rec : σ → Option R), I n x → (∀ (m : Nat) (y : σ), m < n → I m y → rec y = G y) → f rec x = G x) :
  ∀ (N n : Nat) (x : σ), I n x → n < N → iter f N x = G x
 | 0, n, x, _, h => absurd h (Nat.not_lt_zero _)
 | N + 1, n, x, hi, h => by
  simp only [iter]
  exact step n x _ hi fun m y hm hy => Q3c I step N m y hy (by omega)
theorem Q4q {σ R : Type} {f : (σ → Option R) → σ → Option R} {Q : R → Prop} (I : Nat → σ → Prop)
  (step : ∀ (n : Nat) (x : σ) (rec : σ → Option R), I n x → (∀ (m : Nat) (y : σ), m < n → I m y → ∃ r, rec y = some r ∧ Q r) → ∃ r, f rec x = some r ∧ Q r) :
  ∀ (N n : Nat) (x : σ), I n x → n < N → ∃ r, iter f N x = some r ∧ Q r
 | 0, n, x, _, h => absurd h (Nat.not_lt_zero _)
 | N + 1, n, x, hi, h => by
  simp only [iter]
  exact step n x _ hi fun m y hm hy => Q4q I step N m y hy (by omega)
@[simp] theorem at?_nat {α : Type} (l : List α) (n : Nat) : at? l (n : Int) = l[n]? := rfl
theorem Q5j {n : Nat} (h : n < 9223372036854775808) : IntKind.i64.wrap (n : Int) = (n : Int) := by
 exact IntWalk.i64_in _ (by omega)
theorem Q6 {n : Nat} (h : n + 1 < 9223372036854775808) : IntKind.i64.wrap ((n : Int) + 1) = ((n + 1 : Nat) : Int) := by
 rw [IntWalk.i64_in _ (by omega)]; rfl
theorem Qq {n : Nat} (h : 0 < n) (h' : n < 9223372036854775808) : IntKind.i64.wrap ((n : Int) - 1) = ((n - 1 : Nat) : Int) := by
 rw [IntWalk.i64_in _ (by omega)]; omega
theorem Q12w {R : Type} (len : Nat) (g : Nat → Option R) {f : ((Int × Unit) × Unit × Unit × Unit → Option R) → (Int × Unit) × Unit × Unit × Unit → Option R} (start : Nat)
  (hs : ∀ (rec : (Int × Unit) × Unit × Unit × Unit → Option R) (k : Nat), start ≤ k → k < len → rec ((((k + 1 : Nat) : Int), ()), (), (), ()) = g (k + 1) → f rec (((k : Int), ()), (), (), ()) = g k)
  (he : ∀ rec (k : Nat), len ≤ k → f rec (((k : Int), ()), (), (), ()) = g k) (N : Nat) (hN : len < N) : iter f N (((start : Int), ()), (), (), ()) = g start := by
 have := Q3c (f := f) (G := fun z => g z.1.1.toNat) (fun n z => ∃ k : Nat, z = (((k : Int), ()), (), (), ()) ∧ start ≤ k ∧ n = len - k) (by
  rintro n z rec ⟨k, rfl, h1, h2⟩ ih
  by_cases hk : k < len
  ·exact hs rec k h1 hk (ih (len - (k + 1)) _ (by omega) ⟨k + 1, rfl, by omega, rfl⟩)
  ·exact he rec k (by omega)) N (len - start) (((start : Int), ()), (), (), ()) ⟨start, rfl, Nat.le_refl _, rfl⟩ (by omega)
 exact this
theorem Qwm {R : Type} {x : Option R} {t : R} (h : ∃ r, x = some r ∧ r = t) : x = some t := by
 obtain ⟨r, h1, rfl⟩ := h
 exact h1
theorem Qqe {A X R : Type} (l : List X) (g : A → X → A) (a0 : A) (fin : A → Option R) {f : ((A × Int × Unit) × Unit × Unit × Unit → Option R) → (A × Int × Unit) × Unit × Unit × Unit → Option R}
  (hs : ∀ (rec : (A × Int × Unit) × Unit × Unit × Unit → Option R) (k : Nat) (a : A) (hk : k < l.length), a = (l.take k).foldl g a0 → f rec ((a, (k : Int), ()), (), (), ()) = rec ((g a l[k], ((k + 1 : Nat) : Int), ()), (), (), ()))
  (he : ∀ (rec : (A × Int × Unit) × Unit × Unit × Unit → Option R), f rec ((l.foldl g a0, (l.length : Int), ()), (), (), ()) = fin (l.foldl g a0)) (N : Nat) (hN : l.length < N) : iter f N ((a0, 0, ()), (), (), ()) = fin (l.foldl g a0) := by
 have := Q3c (f := f) (G := fun _ => fin (l.foldl g a0)) (fun n z => ∃ k : Nat, z = (((l.take k).foldl g a0, (k : Int), ()), (), (), ()) ∧ k ≤ l.length ∧ n = l.length - k) (by
  rintro n z rec ⟨k, rfl, h1, h2⟩ ih
  by_cases hk : k < l.length
  ·rw [hs rec k _ hk rfl]
   refine ih (l.length - (k + 1)) _ (by omega) ⟨k + 1, ?_, by omega, rfl⟩
   have : l.take (k + 1) = l.take k ++ [l[k]] := by
    rw [List.take_add_one, List.getElem?_eq_getElem hk]; rfl
   rw [this, List.foldl_append]
   rfl
  ·have : k = l.length := by omega
   subst this
   rw [List.take_length]
   exact he rec) N l.length ((a0, ((0 : Nat) : Int), ()), (), (), ()) ⟨0, by simp, by omega, rfl⟩ hN
 exact this
theorem fit {n bytes : Nat} (h : n * bytes ≤ 140737488355328) (h2 : n ≤ 4611686018427387904) : fitsB n bytes = true := by
 simp only [fitsB, Bool.and_eq_true, decide_eq_true_eq]
 exact ⟨h, h2⟩
def SAsc {α : Type} (lt : α → α → Bool) (l : List α) : Prop := l.Pairwise fun a b => lt a b = true
theorem SAsc.ext {α : Type} {lt : α → α → Bool} (ha : ∀ x y, lt x y = true → lt y x = false) : ∀ {l m : List α}, SAsc lt l → SAsc lt m → (∀ x, x ∈ l ↔ x ∈ m) → l = m
 | [], [], _, _, _ => rfl
 | [], b :: m, _, _, h => by have := (h b).2 List.mem_cons_self; simp at this
 | a :: l, [], _, _, h => by have := (h a).1 List.mem_cons_self; simp at this
 | a :: l, b :: m, hl, hm, h => by
  have hl' := hl
  have hm' := hm
  simp only [SAsc, List.pairwise_cons] at hl' hm'
  have irr : ∀ x, lt x x = false := by
   intro x
   cases hx : lt x x with
   | false => rfl
   | true => have := ha x x hx; rw [hx] at this; cases this
  have hab : a = b := by
   rcases List.mem_cons.1 ((h a).1 List.mem_cons_self) with e | e
   ·exact e
   ·rcases List.mem_cons.1 ((h b).2 List.mem_cons_self) with e' | e'
    ·exact e'.symm
    ·have h1 := hm'.1 a e
     have h2 := hl'.1 b e'
     rw [ha _ _ h1] at h2; cases h2
  subst hab
  congr 1
  refine SAsc.ext ha hl'.2 hm'.2 fun x => ?_
  have hx := h x
  simp only [List.mem_cons] at hx
  constructor
  ·intro hxl
   rcases hx.1 (.inr hxl) with e | e
   ·subst e
    have := hl'.1 x hxl
    rw [irr] at this; cases this
   ·exact e
  ·intro hxm
   rcases hx.2 (.inr hxm) with e | e
   ·subst e
    have := hm'.1 x hxm
    rw [irr] at this; cases this
   ·exact e
end Go.Xl
set_option maxRecDepth 100000
set_option linter.unusedVariables false
namespace Go.Proofs.Xg
open Go Go.Xl Go.Ab Go.Proofs Go.Sort
def cfDot (x y : Int × Int) : Int := if x.1 < y.1 then -1 else if y.1 < x.1 then 1 else if x.2 < y.2 then -1 else if y.2 < x.2 then 1 else 0
theorem Qiy (x y : Int × Int) : ltOf cfDot x y = decide (x.1 < y.1 ∨ x.1 = y.1 ∧ x.2 < y.2) := by
 unfold ltOf cfDot
 grind
end Go.Proofs.Xg
set_option linter.unusedVariables false
set_option maxRecDepth 100000
namespace Go.Proofs.Xg
open Go Go.Xl Go.Ab Go.Proofs
noncomputable def Q2r (N : Nat) : Fun [tDot, tDot] (Option (ResT [(.int .i64)])) := fun (x x_1 : Int × Int) => bif x.1 == x_1.1 && x.2 == x_1.2 then some 0 else bif decide (x.1 < x_1.1) then
 some (-1) else bif x.1 == x_1.1 then bif decide (x.2 < x_1.2) then some (-1) else some 1 else some 1
theorem Qjo (N : Nat) : runF Try.prog [] [] N Try.f25 .lf [tDot, tDot] [(.int .i64)] = Q2r N := by kernel_rfl
noncomputable def Qd5 (N : Nat) : Ent Try.prog := mkFn 25 Try.f25 .lf [tDot, tDot] [(.int .i64)] (Q2r N) mixed Try.func25 (.mk' Try.func25 rfl (by decide)) rfl (Qjo N)
noncomputable def Qj (N : Nat) : Fun [(.sl tDot), tDot] (Option (ResT [.bool])) := fun (x : List (Int × Int)) (x_1 : Int × Int) => iter (fun (rec : (Int × Unit) × Unit × Unit × Unit → Option Bool) (z :
 (Int × Unit) × Unit × Unit × Unit) => bif decide (z.1.1 < (↑x.length : Int)) then (at? x z.1.1).bind fun (e : Int × Int) => bif e.1 == x_1.1 && e.2 == x_1.2 then some true else rec ((IntKind.i64.wrap
 (z.1.1 + 1), ()), (), (), ()) else some false) N ((0, ()), (), (), ())
theorem Qip (N : Nat) : runF Try.prog [] [] N Try.f34 (.seq .lf (.seq (.seq .lf (.blk (.loop ⟨[(5, .d (.int .i64))], [], [0, 3], [1003], [], []⟩ .lf))) .lf)) [(.sl tDot), tDot] [.bool] = Qj N := by kernel_rfl
noncomputable def Qjd (N : Nat) : Ent Try.prog := mkFn 34 Try.f34 (.seq .lf (.seq (.seq .lf (.blk (.loop ⟨[(5, .d (.int .i64))], [], [0, 3], [1003], [], []⟩ .lf))) .lf)) [(.sl tDot), tDot] [.bool] (Qj N) mixed Try.func34 (.mk' Try.func34 rfl (by decide)) rfl (Qip N)
noncomputable def Qc (N : Nat) : Fun [tDot] (Option (ResT [.bool])) := fun (x : Int × Int) => bif decide (1 ≤ x.1) then bif decide (1 ≤ x.2) then some (decide (x.2 < 281474976710656)) else some
 false else some false
theorem Qic (N : Nat) : runF Try.prog [] [] N Try.f51 .lf [tDot] [.bool] = Qc N := by kernel_rfl
noncomputable def Qbt (N : Nat) : Ent Try.prog := mkFn 51 Try.f51 .lf [tDot] [.bool] (Qc N) mixed Try.func51 (.mk' Try.func51 rfl (by decide)) rfl (Qic N)
end Go.Proofs.Xg
set_option linter.unusedVariables false
namespace Go.Xl
open Go.Ab
end Go.Xl
set_option linter.unusedVariables false
namespace Go.Xl
open Go.Ab
def noneA {β : Type} : (ks : List AK) → FunA ks (Option β)
 | [] => none
 | .d _ :: r => fun _ => noneA r
 | .c _ :: r => noneA r
theorem Qkt {β : Type} {Q : β → List XV → Prop} : ∀ (ks : List AK) (acc : List XV), SndA Q ks (noneA ks) acc
 | [], acc => fun y h => by cases h
 | .d _ :: r, acc => fun x => Qkt r _
 | .c _ :: r, acc => Qkt (Q := Q) r _
abbrev FnO (t : Ty) (ks : List AK) (rs : List RK) : Type := List t.T → Nat → FunA ks (Option (List t.T × ResO rs))
def recO {t : Ty} {ks : List AK} {rs : List RK} (R : FnO t ks rs → FnO t ks rs) : Nat → FnO t ks rs
 | 0 => fun _ _ => noneA ks
 | n + 1 => R (recO R n)
def SndO (P : Program) (f : FuncId) (t : Ty) (ks : List AK) (rs : List RK) (F : FnO t ks rs) : Prop := ∀ l n, Qjp P f t rs l n ks (F l n) []
theorem Qdj {P : Program} {f : FuncId} {t : Ty} {ks : List AK} {rs : List RK} {R : FnO t ks rs → FnO t ks rs} (h : ∀ G, SndO P f t ks rs G → SndO P f t ks rs (R G)) :
  ∀ n, SndO P f t ks rs (recO R n)
 | 0 => fun l n => Qkt ks []
 | n + 1 => h _ (Qdj h n)
def Qsz {P : Program} (id : FuncId) (t : Ty) (ks : List AK) (rs : List RK) (F : FnO t ks rs) (hc : CallI P id) (hs : SndO P id t ks rs F) : Ent P where
 id := id
 run := oRun (P := P) t ks rs F
 ok := by
  intro R o st aops ts vs K r ho hv h
  exact Qoy hc hs ho hv h
def Qoz {P : Program} (id : FuncId) (t : Ty) (ks : List AK) (rs : List RK) (F : FnO t ks rs) (F0 : FunA ks (Option (ResT (rkTys t rs)))) (hc : CallI P id) (hs : SndO P id t ks rs F) (hs0 : SndA (Qj1 P id t rs) ks F0 []) : Ent P where
 id := id
 run := oRun2 (P := P) t ks rs F F0
 ok := by
  intro R o st aops ts vs K r ho hv h
  exact Quj hc hs hs0 ho hv h
end Go.Xl
namespace Go.Xl
open Go.Ab
end Go.Xl
set_option linter.unusedVariables false
set_option maxRecDepth 100000
namespace Go.Proofs.Xg
open Go Go.Xl Go.Ab Go.Proofs
@[reducible] def tLine : Ty := (.pair .u8 (.pair .str (.sl .str)))
@[reducible] def tCard : Ty := (.pair (.int .u64) (.sl tLine))
@[reducible] def tEvent : Ty := (.pair tDot (.pair .u8 (.pair (.int .u64) (.pair .u8 (.pair .str (.sl tDot))))))
noncomputable def Q4g (N : Nat) : Fun [(.sl tEvent), tEvent] (Option (ResT [(.sl tEvent)])) := fun (x : List ((Int × Int) × UInt8 × Int × UInt8 × List UInt8 × List (Int × Int))) (x_1 : (Int × Int) × UInt8
 × Int × UInt8 × List UInt8 × List (Int × Int)) => iter (fun (rec : (List ((Int × Int) × UInt8 × Int × UInt8 × List UInt8 × List (Int × Int)) × Bool × Int × Unit) × Unit × Unit × Unit → Option (List ((Int × Int) × UInt8
 × Int × UInt8 × List UInt8 × List (Int × Int)))) (z : (List ((Int × Int) × UInt8 × Int × UInt8 × List UInt8 × List (Int × Int)) × Bool × Int × Unit) × Unit × Unit × Unit) => bif decide (z.1.2.2.1 < (↑x.length :
 Int)) then (at? x z.1.2.2.1).bind fun (e : (Int × Int) × UInt8 × Int × UInt8 × List UInt8 × List (Int × Int)) => Option.bind (Q2r N e.1 x_1.1) fun (y : Int) => bif y == 0 then some x else
 Ql (fun (z_1 : (List ((Int × Int) × UInt8 × Int × UInt8 × List UInt8 × List (Int × Int)) × Bool × Unit) × Unit × Unit × Unit) => (at? x z.1.2.2.1).bind fun (e : (Int × Int) × UInt8 × Int × UInt8 × List UInt8
 × List (Int × Int)) => bif fitsB (z_1.1.1.length + [e].length) 80 then rec ((z_1.1.1 ++ [e], z_1.1.2.1, IntKind.i64.wrap (z.1.2.2.1 + 1), ()), (), (), ()) else none) fun (k : (List ((Int × Int) ×
 UInt8 × Int × UInt8 × List UInt8 × List (Int × Int)) × Bool × Unit) × Unit × Unit × Unit → Option (List ((Int × Int) × UInt8 × Int × UInt8 × List UInt8 × List (Int × Int)))) => bif decide (0 < y) then bif !z.1.2.1
 then bif fitsB (z.1.1.length + [x_1].length) 80 then k ((z.1.1 ++ [x_1], true, ()), (), (), ()) else none else k ((z.1.1, z.1.2.1, ()), (), (), ()) else k ((z.1.1, z.1.2.1, ()), (), (), ())
 else bif !z.1.2.1 then bif fitsB (z.1.1.length + [x_1].length) 80 then some (z.1.1 ++ [x_1]) else none else some z.1.1) N (([], false, 0, ()), (), (), ())
theorem Qjx (N : Nat) : runF Try.prog [Qd5 N] [] N Try.f49 (.seq .lf (.seq .lf (.seq .lf (.seq (.seq .lf (.blk (.loop ⟨[(5, .tip 200005 tEvent none), (6, .d .bool), (7, .d (.int .i64))], [], [0, 3], [1003], [], []⟩ (.seq .lf (.seq (.blk (.seq .lf (.seq .lf (.join ⟨[(5, .tip 200005 tEvent none), (6, .d .bool)], [], [0, 3, 7], [1003], [], []⟩ .lf .lf)))) .lf))))) .lf)))) [(.sl tEvent), tEvent] [(.sl tEvent)] = Q4g N := by kernel_rfl
noncomputable def Qkd (N : Nat) : Ent Try.prog := mkFn 49 Try.f49 (.seq .lf (.seq .lf (.seq .lf (.seq (.seq .lf (.blk (.loop ⟨[(5, .tip 200005 tEvent none), (6, .d .bool), (7, .d (.int .i64))], [], [0, 3], [1003], [], []⟩ (.seq .lf (.seq (.blk (.seq .lf (.seq .lf (.join ⟨[(5, .tip 200005 tEvent none), (6, .d .bool)], [], [0, 3, 7], [1003], [], []⟩ .lf .lf)))) .lf))))) .lf)))) [(.sl tEvent), tEvent] [(.sl tEvent)] (Q4g N) mixed Try.func49 (.mk' Try.func49 rfl (by decide)) rfl (Qjx N)
noncomputable def Q3g (N : Nat) : Fun [(.sl tEvent)] (Option (ResT [(.sl tEvent)])) := fun (x : List ((Int × Int) × UInt8 × Int × UInt8 × List UInt8 × List (Int × Int))) => iter (fun (rec : (List ((Int ×
 Int) × UInt8 × Int × UInt8 × List UInt8 × List (Int × Int)) × Int × Unit) × Unit × Unit × Unit → Option (List ((Int × Int) × UInt8 × Int × UInt8 × List UInt8 × List (Int × Int)))) (z : (List ((Int × Int) × UInt8 × Int ×
 UInt8 × List UInt8 × List (Int × Int)) × Int × Unit) × Unit × Unit × Unit) => bif decide (z.1.2.1 < (↑x.length : Int)) then (at? x z.1.2.1).bind fun (e : (Int × Int) × UInt8 × Int × UInt8 × List UInt8 × List
 (Int × Int)) => Option.bind (Q4g N z.1.1 e) fun (y : List ((Int × Int) × UInt8 × Int × UInt8 × List UInt8 × List (Int × Int))) => rec ((y, IntKind.i64.wrap (z.1.2.1 + 1), ()), (), (), ()) else
 some z.1.1) N (([], 0, ()), (), (), ())
theorem Qie (N : Nat) : runF Try.prog [Qkd N] [] N Try.f16 (.seq .lf (.seq .lf (.seq (.seq .lf (.blk (.loop ⟨[(3, .d (.sl tEvent)), (4, .d (.int .i64))], [], [0], [], [], []⟩ .lf))) .lf))) [(.sl tEvent)] [(.sl tEvent)] = Q3g N := by kernel_rfl
noncomputable def Qim (N : Nat) : Ent Try.prog := mkFn 16 Try.f16 (.seq .lf (.seq .lf (.seq (.seq .lf (.blk (.loop ⟨[(3, .d (.sl tEvent)), (4, .d (.int .i64))], [], [0], [], [], []⟩ .lf))) .lf))) [(.sl tEvent)] [(.sl tEvent)] (Q3g N) mixed Try.func16 (.mk' Try.func16 rfl (by decide)) rfl (Qie N)
noncomputable def Q2n (N : Nat) : Fun [(.sl tEvent), (.int .i64)] (Option (ResT [.bool])) := fun (x : List ((Int × Int) × UInt8 × Int × UInt8 × List UInt8 × List (Int × Int))) (x_1 : Int) => bif decide
 (x_1 < (↑x.length : Int)) then some false else iter (fun (rec : (Int × Unit) × Unit × Unit × Unit → Option Bool) (z : (Int × Unit) × Unit × Unit × Unit) => bif decide (z.1.1 < (↑x.length : Int)) then (at? x
 z.1.1).bind fun (e : (Int × Int) × UInt8 × Int × UInt8 × List UInt8 × List (Int × Int)) => bif decide (300 < (↑e.2.2.2.2.2.length : Int)) then some false else (at? x z.1.1).bind fun (e : (Int × Int) ×
 UInt8 × Int × UInt8 × List UInt8 × List (Int × Int)) => bif decide (200 < (↑e.2.2.2.2.1.length : Int)) then some false else rec ((IntKind.i64.wrap (z.1.1 + 1), ()), (), (), ()) else some true) N ((0, ()),
 (), (), ())
theorem Qk0 (N : Nat) : runF Try.prog [] [] N Try.f8 (.seq .lf (.seq .lf (.seq (.seq .lf (.blk (.loop ⟨[(5, .d (.int .i64))], [], [0], [], [], []⟩ .lf))) .lf))) [(.sl tEvent), (.int .i64)] [.bool] = Q2n N := by kernel_rfl
noncomputable def Qiu (N : Nat) : Ent Try.prog := mkFn 8 Try.f8 (.seq .lf (.seq .lf (.seq (.seq .lf (.blk (.loop ⟨[(5, .d (.int .i64))], [], [0], [], [], []⟩ .lf))) .lf))) [(.sl tEvent), (.int .i64)] [.bool] (Q2n N) mixed Try.func8 (.mk' Try.func8 rfl (by decide)) rfl (Qk0 N)
end Go.Proofs.Xg
set_option linter.unusedVariables false
set_option linter.unusedSimpArgs false
namespace Go.Ab
theorem Qxv {P : Program} {o : Oper} {a : Act} {w : World} {next : Act → World → Prop} {Q : Exit → Act → World → Prop} {l n : Nat} (hd : ∀ c, o.op ≠ .defer c) (h : o.wp P a w next Q) : o.wpIn (Fence.wide.inRound l) n P a w next Q := by
 refine ⟨fun _ _ => trivial, ?_⟩
 rw [Oper.semAt_eq _ _ _ hd]
 unfold Oper.wp at h
 generalize (execOp a.eval o).run P w = r at h
 have dn : (Fence.wide.inRound l).depth.isSome = true → 1 ≤ n := fun h => by simp [Fence.inRound, Fence.wide] at h
 cases r with
 | halt hh w' => cases hh <;> first | exact h | exact h.elim
 | ok nx w' =>
  cases nx with
  | value v => exact h
  | skip => exact h
  | defer d => exact h
  | enter f args => exact ⟨dn, (callsIn_wide.2 h : CallsIn Fence.wide _ _ _ _ _ _).inRound l⟩
  | row row args => exact ⟨dn, fun c cs _ => let ⟨v, w', r, s⟩ := h c cs; ⟨v, w', r, (stepsIn_wide.2 s : StepsIn (Machine.fenced P Fence.wide) P _ _)⟩⟩
  | _ => exact h.elim
theorem Q7r {P : Program} {ops : Array Oper} {Q : Exit → Act → World → Prop} {l n : Nat} (hQ : ¬ LetsOut Q) (hd : ∀ (i : Nat) o, ops[i]? = some o → ∀ c, o.op ≠ .defer c) : ∀ (L : List Nat) (a : Act) (w : World), wpOps P ops Q L a w → wpOpsIn (Fence.wide.inRound l) n P ops Q L a w
 | [], a, w, h => h
 | i :: rest, a, w, h => by
  unfold wpOps at h
  unfold wpOpsIn
  cases ho : ops[i]? with
  | none =>
   simp only [ho] at h ⊢
   exact Q7r hQ hd rest a w h
  | some o =>
   simp only [ho] at h ⊢
   split at h
   ·rename_i hw
    rw [if_pos hw]
    rcases h with h | h
    ·refine Qxv (hd i o ho) ?_
     have e : ∀ r, Oper.upon P o a (wpOps P ops Q rest) Q r → Oper.upon P o a (wpOpsIn (Fence.wide.inRound l) n P ops Q rest) Q r := by
      intro r hr
      have hrec := fun a w => Q7r (P := P) (l := l) (n := n) hQ hd rest a w
      cases r with
      | halt hh w' => cases hh <;> first | exact hr | exact hr.elim
      | ok nx w' =>
       cases nx with
       | value v => exact hrec _ _ hr
       | skip => exact hrec _ _ hr
       | defer d => exact hrec _ _ hr
       | enter f args =>
        refine Calls.mono hr ?_
        intro e w'' h'
        cases e with
        | returned v => exact hrec _ _ h'
        | panicked c => exact h'
        | outgrown => exact h'
       | row row args => exact Rows.mono hr fun v w'' h' => hrec _ _ h'
       | _ => exact hr.elim
     exact e _ h
    ·exact (hQ h.2).elim
   ·rename_i hw
    rw [if_neg hw]
    exact ⟨fun _ _ => trivial, Q7r hQ hd rest _ w h⟩
theorem HR.junk {nm : List Nat} {B : Base} {g : Gh} {w w' : World} {X : Store} (h : HR nm B g w X) (hlive : X.live = []) {ex : Nat} (hex : ∀ k o, X.objs.lookup k = some o → g.ρ k ≠ ex) (hc : ∀ i, w.cell? ⟨ex, i, none⟩ = none) (hsh : w.shape? ex = none) (hge : B.n0 ≤ ex)
  (hs : w.heap.size ≤ w'.heap.size) (hold : ∀ b, b < w.heap.size → b ≠ ex → w'.heap[b]? = w.heap[b]?) (hio : w'.os = w.os ∧ w'.output = w.output ∧ w'.tape = w.tape ∧ w.drawn ≤ w'.drawn) : HR nm B g w' X := by
 have hγ : ∀ i, ¬ i < g.γ ex := by
  intro i hi
  have := h.sane ex i hi
  rw [hc i] at this; cases this
 have hcell : ∀ b i, i < g.γ b → w'.cell? ⟨b, i, none⟩ = w.cell? ⟨b, i, none⟩ := by
  intro b i hi
  have hne : b ≠ ex := fun e => hγ i (e ▸ hi)
  exact cell?_of_heap (hold b (γ_lt h (by omega)) hne) i none
 have hshape : ∀ b s, w.shape? b = some s → w'.shape? b = some s := by
  intro b s hs'
  have hne : b ≠ ex := by rintro rfl; rw [hsh] at hs'; cases hs'
  have hb : b < w.heap.size := by
   rcases Nat.lt_or_ge b w.heap.size with h1 | h1
   ·exact h1
   ·simp [World.shape?, Array.getElem?_eq_none h1] at hs'
  rw [shape?_of_heap (hold b hb hne)]; exact hs'
 have hβ : ∀ n, g.β n = none := by
  intro n
  have := h.live n
  rw [hlive] at this
  cases hb : g.β n with
  | none => rfl
  | some x => rw [hb] at this; simp at this
 have ht : Trans [] g w g w' := ⟨⟨fun _ => Nat.le_refl _, hcell, hshape⟩, fun _ _ => rfl, fun n ob _ he => (by rw [hβ n] at he; cases he), fun L _ hL => (by rw [hβ L] at hL; cases hL)⟩
 refine ⟨h.keep, ?_, Nat.le_trans h.base hs, ⟨hio.1.trans h.io.1, hio.2.1.trans h.io.2.1, hio.2.2.1.trans h.io.2.2.1, Nat.le_trans h.io.2.2.2 hio.2.2.2⟩, h.le.trans ht.le, ?_, ?_, h.objγ, h.objinj, h.objnew, h.live, h.tipinj, h.tipobj, h.tipnew, ?_, .off hβ⟩
 ·intro b i hi; rw [hcell b i hi]; exact h.sane b i hi
 ·intro b hb hna
  have := h.frame b hb hna
  have hne : b ≠ ex := by omega
  exact ⟨(hold b (Nat.lt_of_lt_of_le hb h.base) hne).trans this.1, this.2⟩
 ·intro k o hk
  have := h.objs k o hk
  exact this.keep ht (hold _ (Q2j this) (hex k o hk)) (.inl rfl)
 ·intro n b hn; rw [hβ n] at hn; cases hn
theorem HR.beta {nm : List Nat} {B : Base} {g : Gh} {w : World} {X : Store} (h : HR nm B g w X) (hl : X.live = []) (n : Nat) : g.β n = none := by
 have := h.live n
 rw [hl] at this
 cases hb : g.β n with
 | none => rfl
 | some x => rw [hb] at this; simp at this
theorem HR.rebase {nm : List Nat} {B : Base} {g : Gh} {w : World} {X : Store} (h : HR nm B g w X) (hl : X.live = []) : HR nm (Base.of g w X) g w X :=
 ⟨fun k hk => ⟨rfl, (h.keep k hk).2⟩, h.sane, Nat.le_refl _, ⟨rfl, rfl, rfl, Nat.le_refl _⟩, .refl _ _, fun _ _ _ => ⟨rfl, rfl⟩, h.objs, h.objγ, h.objinj, fun k o hk => .inr (.inl ⟨k, o, hk, rfl⟩), h.live, h.tipinj, h.tipobj,
  fun n b hn => .inr (.inr ⟨n, hn⟩), h.tiplt, .off (h.beta hl)⟩
theorem HR.comp {nm : List Nat} {B : Base} {g g' : Gh} {w w' : World} {X X' : Store} (h : HR nm B g w X) (h' : HR nm (Base.of g w X) g' w' X') (hl : X.live = []) (hl' : X'.live = []) : HR nm B g' w' X' := by
 have hβ : ∀ n, g.β n = none := by
  intro n
  have := h.live n
  rw [hl] at this
  cases hb : g.β n with
  | none => rfl
  | some x => rw [hb] at this; simp at this
 have hβ' : ∀ n, g'.β n = none := by
  intro n
  have := h'.live n
  rw [hl'] at this
  cases hb : g'.β n with
  | none => rfl
  | some x => rw [hb] at this; simp at this
 have hal : ∀ b, (Base.of g w X).allowed b → B.n0 ≤ b ∨ B.allowed b := by
  rintro b (⟨k, o, hk, rfl⟩ | ⟨n, hn⟩)
  ·exact h.objnew k o hk
  ·rw [hβ n] at hn; cases hn
 refine ⟨fun k hk => ⟨(h'.keep k hk).1.trans (h.keep k hk).1, (h'.keep k hk).2⟩, h'.sane, Nat.le_trans h.base h'.base, ⟨h'.io.1.trans h.io.1, h'.io.2.1.trans h.io.2.1, h'.io.2.2.1.trans h.io.2.2.1, Nat.le_trans h.io.2.2.2 h'.io.2.2.2⟩, h.le.trans h'.le, ?_, h'.objs, h'.objγ, h'.objinj, ?_, h'.live, h'.tipinj, h'.tipobj, ?_, h'.tiplt, .off hβ'⟩
 ·intro b hb hna
  have h1 := h.frame b hb hna
  have h2 := h'.frame b (Nat.lt_of_lt_of_le hb h.base) (fun ha => (hal b ha).elim (fun h3 => by omega) hna)
  exact ⟨h2.1.trans h1.1, h2.2.trans h1.2⟩
 ·intro k o hk
  rcases h'.objnew k o hk with h1 | h1
  ·exact .inl (Nat.le_trans h.base h1)
  ·exact hal _ h1
 ·intro n b hn; rw [hβ' n] at hn; cases hn
end Go.Ab
namespace Go.Ab
section
variable {P : Program} {F : Fence} {n : Nat} {ops : Array Oper} {Q : Exit → Act → World → Prop} {a : Act} {w : World} {rest : List Oper} {o : Oper}
theorem Qi (hF : ∀ f, F.fn f) {v : Value} {w' : World} (hg : o.guard = none) (hd : ∀ c, o.op ≠ .defer c) (hr : (execOp a.eval o).run P w = .ok (.value v) w') (h : wpListIn F n P ops Q rest (a.put o.dst v) w') : wpListIn F n P ops Q (o :: rest) a w :=
 wpListIn_plain hg fun K hK => ⟨fun f _ => hF f, by rw [Oper.semAt_eq _ _ _ hd, hr]; exact hK _ _ h⟩
theorem list_round (hF : ∀ f, F.fn f) (hdep : F.depth = none) (hro : F.round = none) {l : Nat} {fn : FuncId} {tmps : Array Value} {assign body : Code} {R : Ending → World → Prop} (hg : o.guard = none) (hr : (execOp a.eval o).run P w = .ok (.round l fn tmps assign body) w)
  (hR : RoundIn F (n - 1) P l fn tmps assign body w R) (hk : ∀ r w', R r w' → ∃ v, r = .returned v ∧ wpListIn F n P ops Q rest (a.put o.dst v) w') : wpListIn F n P ops Q (o :: rest) a w :=
 wpListIn_plain hg fun K hK => ⟨fun f _ => hF f, by
  rw [hro, Oper.semAt_none, hr, Oper.uponIn_round]
  refine ⟨fun h => (by rw [hdep] at h; cases h), hR.mono ?_⟩
  intro r w' h
  obtain ⟨v, rfl, h2⟩ := hk r w' h
  exact hK _ _ h2⟩
theorem Qiv (hF : ∀ f, F.fn f) (hdep : F.depth = none) (hro : F.round = none) {f : FuncId} {args : Array Value} {R : Ending → World → Prop} (hg : o.guard = none) (hr : (execOp a.eval o).run P w = .ok (.enter f args) w)
  (hR : CallsIn F (n - 1) P f args w R) (hk : ∀ r w', R r w' → ∃ v, r = .returned v ∧ wpListIn F n P ops Q rest (a.put o.dst v) w') : wpListIn F n P ops Q (o :: rest) a w :=
 wpListIn_plain hg fun K hK => ⟨fun f _ => hF f, by
  rw [hro, Oper.semAt_none, hr, Oper.uponIn_enter]
  refine ⟨fun h => (by rw [hdep] at h; cases h), hR.mono ?_⟩
  intro r w' h
  obtain ⟨v, rfl, h2⟩ := hk r w' h
  exact hK _ _ h2⟩
theorem Qeh {f : FuncId} {args : Array Operand} {ts : Array TypeId} (ho : o.op = .call { callee := .value (.func f), args := args, argTypes := ts }) (hc : CallI P f) : (execOp a.eval o).run P w = .ok (.enter f (args.map a.eval)) w := by
 simp only [execOp, ho, resolve]
 simp [Act.eval, Deferred.ofValue, invoke, Q7d hc]
theorem Qo {d : Nat} {v : Value} (h : d < a.tmps.size) : (a.put (some d) v).eval (.tmp d) = v := by
 show (a.tmps.setIfInBounds d v).getD d undef = v
 simp [Array.getD, h]
theorem Qd {d t : Nat} {v : Value} (h : t ≠ d) : (a.put (some d) v).eval (.tmp t) = a.eval (.tmp t) := by
 show (a.tmps.setIfInBounds d v).getD t undef = a.tmps.getD t undef
 simp only [Array.getD_eq_getD_getElem?, Array.getElem?_setIfInBounds, if_neg (Ne.symm h)]
theorem Q5 {d : Nat} {v : Value} : (a.put (some d) v).tmps.size = a.tmps.size := by simp [Act.put]
end
structure Walks (w : World) (m it : Nat) (es : Array MapEntry) (clock : Nat) (seen : List Nat) : Prop where
 map : w.heap[m]? = some (.map es clock)
 iter : w.heap[it]? = some (.mapIter (some m) clock seen.toArray clock)
theorem Q3k {P : Program} {w : World} {r : Nat} {o : Obj} (h : w.heap[r]? = some o) (hc : ∀ a t f, o ≠ .cells a t f) : (getObj r).run P w = .ok o w := by
 unfold getObj
 simp only [Sem.run, h]
theorem Qoq {P : Program} {w : World} {r : Nat} {o : Obj} (o' : Obj) (h : w.heap[r]? = some o) (hc : ∀ a t f, o ≠ .cells a t f) : (Go.setObj r o').run P w = .ok () { w with heap := w.heap.setIfInBounds r o' } := by
 unfold Go.setObj
 simp only [Sem.run, h]
def leftE (es : Array MapEntry) (seen : List Nat) : Array MapEntry := es.filter fun e => !(seen.toArray.contains e.born)
theorem Qne {es : Array MapEntry} {clock : Nat} {seen : List Nat} (hold : ∀ e ∈ es, e.born < clock) :
  (leftE es seen).filter (fun e => decide (e.born < clock)) = leftE es seen ∧ (leftE es seen).filter (fun e => decide (e.born ≥ clock)) = #[] ∧
  (!seen.toArray.isEmpty && !es.isEmpty && es.all fun e => decide (e.born ≥ clock)) = false := by
 refine ⟨?_, ?_, ?_⟩
 ·rw [Array.filter_eq_self]
  intro e he
  exact decide_eq_true (hold e (Array.mem_filter.1 he).1)
 ·rw [Array.filter_eq_empty_iff]
  intro e he
  have := hold e (Array.mem_filter.1 he).1
  simp; omega
 ·cases hae : es.isEmpty with
  | true => simp
  | false =>
   have hpos : 0 < es.size := by
    cases hs : es.size with
    | zero =>
     have : es = #[] := Array.eq_empty_of_size_eq_zero hs
     subst this; simp at hae
    | succ n => omega
   have : (es.all fun e => decide (e.born ≥ clock)) = false := by
    rw [Bool.eq_false_iff]
    intro h
    have h2 := Array.all_eq_true.1 h 0 hpos
    have h3 := hold es[0] (Array.getElem_mem hpos)
    simp at h2; omega
   rw [this]; simp
theorem Qrl {P : Program} {w : World} {m it : Nat} {es : Array MapEntry} {clock : Nat} {seen : List Nat} {ty : TypeId} (h : Walks w m it es clock seen) (hold : ∀ e ∈ es, e.born < clock) (hl : leftE es seen = #[]) :
  (Instr.next (.pointer (some ⟨it, 0, none⟩)) false ty).run P w = .ok (.tuple #[.bool false]) w := by
 obtain ⟨p1, p2, p3⟩ := Qne (seen := seen) hold
 have hg := Q3k (P := P) h.iter (by simp)
 have hgm := Q3k (P := P) h.map (by simp)
 have hch := run_choose_drew P w (.mapNext 1)
 rw [if_pos (by rfl)] at hch
 unfold leftE at hl p1 p2
 rw [hl] at p1 p2
 simp only [Instr.next, Sem.run_bind, hg, hgm, Result.andThen_ok, p3, hl, Bool.false_eq_true, if_false, Sem.run_pure]
 simp [hch, Question.forced]
theorem Qrk {P : Program} {w : World} {m it : Nat} {es : Array MapEntry} {clock : Nat} {seen : List Nat} {ty : TypeId} (h : Walks w m it es clock seen) (hold : ∀ e ∈ es, e.born < clock) (hl : leftE es seen ≠ #[]) :
  ∃ e ∈ leftE es seen, ∃ w1 : World, (w1 = w ∨ w1 = w.drew) ∧ (Instr.next (.pointer (some ⟨it, 0, none⟩)) false ty).run P w = .ok (.tuple #[.bool true, e.key, e.val]) { w1 with heap := w1.heap.setIfInBounds it (.mapIter (some m) clock (seen ++ [e.born]).toArray clock) } := by
 obtain ⟨p1, p2, p3⟩ := Qne (seen := seen) hold
 have hg := Q3k (P := P) h.iter (by simp)
 have hgm := Q3k (P := P) h.map (by simp)
 have hpos : 0 < (leftE es seen).size := by
  rcases Nat.eq_zero_or_pos (leftE es seen).size with h0 | h0
  ·exact (hl (Array.eq_empty_of_size_eq_zero h0)).elim
  ·exact h0
 have hne : (leftE es seen).isEmpty = false := by
  cases he : (leftE es seen).isEmpty with
  | false => rfl
  | true => exact (hl (by simpa using he)).elim
 obtain ⟨L, hL⟩ : ∃ L, L = leftE es seen := ⟨_, rfl⟩
 have hL' : (es.filter fun e => !(seen.toArray.contains e.born)) = L := hL.symm
 rw [← hL] at p1 p2 hpos hne ⊢
 have hbase : ∀ (w1 : World) (j : Nat) (hj : j < L.size), w1.heap = w.heap → (choose (.mapNext L.size)).run P w = .ok j w1 →
   (Instr.next (.pointer (some ⟨it, 0, none⟩)) false ty).run P w = .ok (.tuple #[.bool true, L[j].key, L[j].val]) { w1 with heap := w1.heap.setIfInBounds it (.mapIter (some m) clock (seen ++ [L[j].born]).toArray clock) } := by
  intro w1 j hj hh hch
  have hset := Qoq (P := P) (w := w1) (o := .mapIter (some m) clock seen.toArray clock) (.mapIter (some m) clock (seen.toArray.push L[j].born) clock) (by rw [hh]; exact h.iter) (by simp)
  have hsz : ((#[] : Array (Option MapEntry)) ++ (L ++ #[]).map some).size = L.size := by simp
  have hs : ((#[] : Array (Option MapEntry)) ++ (L ++ #[]).map some)[j]? = some (some L[j]) := by simp [hj]
  simp only [Instr.next, Sem.run_bind, hg, hgm, Result.andThen_ok, p3, hL', p1, p2, hne, Bool.false_eq_true, if_false, Sem.run_pure]
  rw [hsz, hch]
  simp only [Result.andThen_ok, hs, Sem.run_bind, hset, Sem.run_pure]
  simp
 have hch := run_choose_drew P w (.mapNext L.size)
 by_cases hf : (Question.mapNext L.size).forced = true
 ·rw [if_pos hf] at hch
  exact ⟨L[0], Array.getElem_mem hpos, w, .inl rfl, hbase w 0 hpos rfl hch⟩
 ·rw [if_neg hf] at hch
  have hj : (Question.mapNext L.size).cut (w.tape w.drawn (.mapNext L.size)) < L.size := Nat.mod_lt _ hpos
  exact ⟨_, Array.getElem_mem hj, w.drew, .inr rfl, hbase w.drew _ hj rfl hch⟩
theorem Q109 {P : Program} {w : World} {m it : Nat} {es : Array MapEntry} {clock : Nat} {seen : List Nat} {e : MapEntry} (h : Walks w m it es clock (seen ++ [e.born])) (he : e ∈ es) (hnd : (es.toList.map (·.born)).Nodup) :
  (Instr.entry (.pointer (some ⟨it, 0, none⟩))).run P w = .ok (.tuple #[e.key, e.val]) w := by
 have hg := Q3k (P := P) h.iter (by simp)
 have hgm := Q3k (P := P) h.map (by simp)
 have hf : es.find? (fun x => x.born == e.born) = some e := by
  rw [← Array.find?_toList]
  have : ∀ l : List MapEntry, (l.map (·.born)).Nodup → e ∈ l → l.find? (fun x => x.born == e.born) = some e := by
   intro l
   induction l with
   | nil => intro _ h; simp at h
   | cons x r ih =>
    intro hn hm
    simp only [List.map_cons, List.nodup_cons] at hn
    rw [List.find?_cons]
    rcases List.mem_cons.1 hm with rfl | hm
    ·simp
    ·have hne : (x.born == e.born) = false := by
      simp only [beq_eq_false_iff_ne]
      intro hx
      exact hn.1 (hx ▸ List.mem_map_of_mem (f := (·.born)) hm)
     rw [hne]; exact ih hn.2 hm
  exact this _ hnd (by simpa using he)
 simp only [Instr.entry, Sem.run_bind, hg, Result.andThen_ok]
 simp [hf, hgm, Result.andThen]
end Go.Ab
namespace Go.Ab
theorem EtaOk.base {B B' : Base} {g : Gh} {w : World} {X : Store} (h : EtaOk B g w X) (hn : B'.n0 = B.n0) (ha : ∀ b, B.allowed b → B'.allowed b) : EtaOk B' g w X :=
 ⟨h.inj, h.tip, h.obj, fun L i b hL hb => (h.new L i b hL hb).elim (fun h1 => .inl (hn ▸ h1)) fun h1 => .inr (ha b h1), h.lt⟩
theorem HR.keepN {nm nm' : List Nat} {B : Base} {g : Gh} {w : World} {X : Store} (h : HR nm B g w X) (kp : Nat → Nat) (hk : ∀ k ∈ nm', g.ρ k = kp k ∧ (X.objs.lookup k).isSome) : HR nm' { B with keep := kp } g w X :=
 ⟨fun k hm => hk k hm, h.sane, h.base, h.io, h.le, h.frame, h.objs, h.objγ, h.objinj, h.objnew, h.live, h.tipinj, h.tipobj, h.tipnew, h.tiplt, h.eta.base rfl fun _ h => h⟩
end Go.Ab
set_option linter.unusedVariables false
set_option linter.unusedSimpArgs false
set_option maxRecDepth 100000
namespace Go.Proofs.Xg
open Go Go.Ab Go.Proofs
structure Keeps1 (ex : Nat) (w w' : World) : Prop where
 size : w.heap.size ≤ w'.heap.size
 io : w'.os = w.os ∧ w'.output = w.output ∧ w'.tape = w.tape ∧ w.drawn ≤ w'.drawn
 block : ∀ b, b < w.heap.size → b ≠ ex → w'.heap[b]? = w.heap[b]?
 none : w.heap[ex]? = none ∨ ∃ m s c d, w.heap[ex]? = some (.mapIter m s c d)
theorem frameT {P : Program} {w : World} {t : TypeId} {b : Nat} {v : Value} (hT : TyI P t false 1) (h : w.cell? ⟨b, 0, none⟩ = some v) : (loadVar t ⟨b, 0, none⟩).run P w = .ok v w := by
 have := Q57 hT w b 0 #[v] rfl (by
  intro i x hx
  cases i with
  | zero => simp at hx; subst hx; simpa using h
  | succ i => simp at hx) (fun _ => rfl)
 simpa using this
theorem Q10d {es : Array MapEntry} {seen : List Nat} {e : MapEntry} (h : e ∈ leftE es seen) : e ∈ es ∧ e.born ∉ seen := by
 obtain ⟨h1, h2⟩ := Array.mem_filter.1 h
 exact ⟨h1, by simpa using h2⟩
theorem Qqh {l : List MapEntry} (h : (l.map MapEntry.born).Nodup) {x y : MapEntry} (hx : x ∈ l) (hy : y ∈ l) (e : x.born = y.born) : x = y := Q4z h hx hy e
theorem Qpy {α : Type} [BEq α] [LawfulBEq α] : ∀ (l m : List α), l.Nodup → (∀ x ∈ l, x ∈ m) → l.length ≤ m.length
 | [], m, _, _ => Nat.zero_le _
 | a :: l, m, hn, hs => by
  have hn' := List.nodup_cons.1 hn
  have ha := hs a List.mem_cons_self
  have := Qpy l (m.erase a) hn'.2 (fun x hx => by
   have hne : x ≠ a := fun e => hn'.1 (e ▸ hx)
   exact (List.mem_erase_of_ne hne).2 (hs x (List.mem_cons_of_mem _ hx)))
  have hl := List.length_erase_of_mem ha
  have hpos : 0 < m.length := List.length_pos_of_mem ha
  simp only [List.length_cons]
  omega
theorem Qen {α β : Type} {f : α → β} : ∀ {l : List α}, (l.map f).Nodup → l.Nodup
 | [], _ => .nil
 | a :: l, h => by
  simp only [List.map_cons, List.nodup_cons] at h
  exact List.nodup_cons.2 ⟨fun hm => h.1 (List.mem_map_of_mem hm), Qen h.2⟩
theorem Qx0 {L E : List MapEntry} (hL : (L.map MapEntry.born).Nodup) (hE : (E.map MapEntry.born).Nodup) (h1 : ∀ e ∈ L, e ∈ E) (h2 : ∀ e ∈ E, e ∈ L) : L.Perm E :=
 (List.perm_ext_iff_of_nodup (Qen hL) (Qen hE)).2 fun e => ⟨h1 e, h2 e⟩
section
variable {l Bm m : Nat} {es : Array MapEntry} {clock : Nat} {W : World} {J : List Value → World → Prop}
def Yields (l : Nat) (es : Array MapEntry) (J : List Value → World → Prop) : Prop :=
 ∀ (pre : List Value) (e : MapEntry) (V : World), J pre V → e ∈ es → pre.length < es.size → YieldAt Fence.wide 0 Try.prog l #[e.key] V fun r V' => r = .returned (.bool true) ∧ J (pre ++ [e.key]) V' ∧ ∀ (b : Nat) (m' : Option Nat) (s : Nat) (c : Array Nat) (d : Nat), V.heap[b]? = some (Obj.mapIter m' s c d) → V'.heap[b]? = V.heap[b]?
abbrev KPost (es : Array MapEntry) (J : List Value → World → Prop) : Exit → Act → World → Prop := bodyPost Try.prog Try.f73 fun r W' => (∃ v, r = .returned v) ∧ ∃ L : List MapEntry, L.Perm es.toList ∧ J (L.map MapEntry.key) W'
set_option maxHeartbeats 4000000 in
theorem Qy9 (hT : TyI Try.prog 64 false 1) (hu : ∃ k e, Try.prog.underlying 64 = some (.map k e)) (hbox : W.cell? ⟨Bm, 0, none⟩ = some (.map (some m)))
  (hold : ∀ e ∈ es, e.born < clock) (hnd : (es.toList.map MapEntry.born).Nodup)
  (hJm : ∀ pre V, J pre V → V.heap[m]? = some (.map es clock))
  (hJ : ∀ pre V V' ex, J pre V → W.heap.size ≤ ex → Keeps1 ex V V' → J pre V')
  (hY : Yields l es J) (h0 : J [] W) (c : Code) (hc : Try.f73.body = some c) (A : Act) (a1 : A.tmps.size = 14) (a2 : A.defers = []) (a3 : A.eval (.tmp 0) = .func (.yield l) #[] #[]) (a4 : A.eval (.tmp 1) = .pointer (some ⟨Bm, 0, none⟩)) :
  c.wpIn Fence.wide 0 Try.prog (KPost es J) A W := by
 have hF : ∀ f, Fence.wide.fn f := fun _ => trivial
 have hm := hJm [] W h0
 obtain ⟨kt, et, hu⟩ := hu
 have hb1 : (W.alloc (.mapIter (some m) clock #[] clock)).heap[m]? = some (.map es clock) := by
  have hlt : m < W.heap.size := (Array.getElem?_eq_some_iff.1 hm).1
  rw [Q2k W _ hlt]; exact hm
 unfold Try.f73 at hc
 simp only [Option.some.injEq] at hc
 subst hc
 refine wpIn_seq (wpIn_region_list ?_)
 refine Qi hF (v := .map (some m)) (w' := W) rfl (by simp) ?_ ?_
 ·have := frameT hT hbox
  simp only [execOp, a4]
  simp [Instr.loadAt, Instr.sureAddr, asAddr, this, Result.andThen]
 refine Qi hF (v := .pointer (some ⟨W.heap.size, 0, none⟩)) (w' := W.alloc (.mapIter (some m) clock #[] clock)) rfl (by simp) ?_ ?_
 ·have e2 := Q3k (P := Try.prog) hm (by simp)
  simp only [execOp]
  rw [Qo (by omega)]
  simp [Instr.range, Sem.run_bind, run_underlying hu, e2, Result.andThen]
 have hA0 : (Act.put (Act.put A (some 4) (.map (some m))) (some 5) (.pointer (some ⟨W.heap.size, 0, none⟩))).tmps.size = 14 ∧ (Act.put (Act.put A (some 4) (.map (some m))) (some 5) (.pointer (some ⟨W.heap.size, 0, none⟩))).defers = [] ∧
   (Act.put (Act.put A (some 4) (.map (some m))) (some 5) (.pointer (some ⟨W.heap.size, 0, none⟩))).eval (.tmp 0) = .func (.yield l) #[] #[] ∧ (Act.put (Act.put A (some 4) (.map (some m))) (some 5) (.pointer (some ⟨W.heap.size, 0, none⟩))).eval (.tmp 5) = .pointer (some ⟨W.heap.size, 0, none⟩) :=
  ⟨by rw [Q5, Q5, a1], a2, by rw [Qd (by decide), Qd (by decide), a3], Qo (by rw [Q5]; omega)⟩
 generalize Act.put (Act.put A (some 4) (.map (some m))) (some 5) (.pointer (some ⟨W.heap.size, 0, none⟩)) = A0 at hA0 ⊢
 refine wpListIn_nil ?_
 show Code.wpIn _ _ _ _ _ A0 _
 have hk1 : Keeps1 W.heap.size W (W.alloc (.mapIter (some m) clock #[] clock)) :=
  ⟨by simp, ⟨rfl, rfl, rfl, Nat.le_refl _⟩, fun b hb _ => Q2k W _ hb, .inl (by simp)⟩
 have hit1 : (W.alloc (.mapIter (some m) clock #[] clock)).heap[W.heap.size]? = some (.mapIter (some m) clock #[] clock) := World.alloc_heap_new W _
 have hJ1 := hJ [] W _ _ h0 (Nat.le_refl _) hk1
 generalize W.alloc (.mapIter (some m) clock #[] clock) = W1 at hb1 hit1 hJ1 ⊢
 clear hk1
 refine wpIn_block (wpIn_loop (fun a V => a.tmps.size = 14 ∧ a.defers = [] ∧ a.eval (.tmp 0) = .func (.yield l) #[] #[] ∧ a.eval (.tmp 5) = .pointer (some ⟨W.heap.size, 0, none⟩) ∧
   ∃ L : List MapEntry, (∀ e ∈ L, e ∈ es) ∧ (L.map MapEntry.born).Nodup ∧ V.heap[W.heap.size]? = some (.mapIter (some m) clock (L.map MapEntry.born).toArray clock) ∧ J (L.map MapEntry.key) V)
  (fun a V => match V.heap[W.heap.size]? with | some (.mapIter _ _ s _) => es.size - s.size | _ => 0) ⟨hA0.1, hA0.2.1, hA0.2.2.1, hA0.2.2.2, [], by simp, by simp, by simpa using hit1, hJ1⟩ ?_)
 clear hJ1 hit1 hA0 hb1 a1 a2 a3 a4
 rintro a V ⟨ha1, ha2, ha3, ha4, L, hL1, hL2, hL3, hL4⟩
 have hw : Walks V m W.heap.size es clock (L.map MapEntry.born) := ⟨hJm _ _ hL4, hL3⟩
 refine wpIn_seq (wpIn_region_list ?_)
 by_cases hl : leftE es (L.map MapEntry.born) = #[]
 ·-- nothing is left
  refine Qi hF (v := .tuple #[.bool false]) (w' := V) rfl (by simp) ?_ ?_
  ·have := Qrl (P := Try.prog) (ty := 0) hw hold hl
   simp only [execOp, ha4]
   simp [this, Result.andThen]
  refine Qi hF (v := .bool false) (w' := V) rfl (by simp) ?_ ?_
  ·simp only [execOp]
   rw [Qo (by omega)]
   rfl
  refine wpListIn_nil ?_
  refine wpIn_seq (wpIn_cond_false (Qo (by rw [Q5]; omega)) (wpIn_exit ?_))
  refine ⟨ha2, .tuple #[], by simp [results, Try.f73], ⟨_, rfl⟩, L, Qx0 hL2 hnd (fun e he => by simpa using hL1 e he) fun e he => ?_, hL4⟩
  by_cases hin : e.born ∈ L.map MapEntry.born
  ·obtain ⟨e', he', hb⟩ := List.mem_map.1 hin
   rw [← Qqh hnd (by simpa using hL1 e' he') he hb]
   exact he'
  ·have : e ∈ leftE es (L.map MapEntry.born) := Array.mem_filter.2 ⟨by simpa using he, by simpa using hin⟩
   rw [hl] at this
   simp at this
 ·obtain ⟨e, he, w1, hw1, hr⟩ := Qrk (P := Try.prog) (ty := 0) hw hold hl
  obtain ⟨he1, he2⟩ := Q10d he
  have hit : W.heap.size < V.heap.size := (Array.getElem?_eq_some_iff.1 hL3).1
  have hh1 : w1.heap = V.heap := by rcases hw1 with rfl | rfl <;> rfl
  have hio1 : w1.os = V.os ∧ w1.output = V.output ∧ w1.tape = V.tape ∧ V.drawn ≤ w1.drawn := by
   rcases hw1 with rfl | rfl
   ·exact ⟨rfl, rfl, rfl, Nat.le_refl _⟩
   ·exact ⟨rfl, rfl, rfl, Nat.le_succ _⟩
  have hk : Keeps1 W.heap.size V { w1 with heap := w1.heap.setIfInBounds W.heap.size (.mapIter (some m) clock (L.map MapEntry.born ++ [e.born]).toArray clock) } := by
   refine ⟨by simp [hh1], hio1, fun b hb hne => ?_, .inr ⟨_, _, _, _, hL3⟩⟩
   simp [Array.getElem?_setIfInBounds, Ne.symm hne, hh1]
  have hn3 : ({ w1 with heap := w1.heap.setIfInBounds W.heap.size (.mapIter (some m) clock (L.map MapEntry.born ++ [e.born]).toArray clock) } : World).heap[W.heap.size]? = some (.mapIter (some m) clock ((L ++ [e]).map MapEntry.born).toArray clock) := by
   simp [Array.getElem?_setIfInBounds, hh1, hit]
  have hJ2 := hJ _ _ _ _ hL4 (Nat.le_refl _) hk
  refine Qi hF rfl (by simp) (v := .tuple #[.bool true, e.key, e.val]) (w' := { w1 with heap := w1.heap.setIfInBounds W.heap.size (.mapIter (some m) clock (L.map MapEntry.born ++ [e.born]).toArray clock) }) ?_ ?_
  ·simp only [execOp, ha4]
   simp only [Sem.run_bind, hr, Result.andThen_ok]
   rfl
  generalize ({ w1 with heap := w1.heap.setIfInBounds W.heap.size (.mapIter (some m) clock (L.map MapEntry.born ++ [e.born]).toArray clock) } : World) = V2 at hk hn3 hJ2 ⊢
  refine Qi hF (v := .bool true) (w' := V2) rfl (by simp) ?_ ?_
  ·simp only [execOp]
   rw [Qo (by omega)]
   rfl
  refine wpListIn_nil ?_
  refine wpIn_seq (wpIn_cond_true (Qo (by rw [Q5]; omega)) (wpIn_skip ?_))
  refine wpIn_block (wpIn_seq (wpIn_region_list ?_))
  have hnL : ((L ++ [e]).map MapEntry.born).Nodup := by
   rw [List.map_append, List.nodup_append]
   refine ⟨hL2, by simp, ?_⟩
   intro x hx y hy
   simp at hy
   subst hy
   rintro rfl
   exact he2 hx
  have hL1' : ∀ x ∈ L ++ [e], x ∈ es := by
   intro x hx
   rcases List.mem_append.1 hx with h | h
   ·exact hL1 x h
   ·simp at h; subst h; exact he1
  have hlen : (L ++ [e]).length ≤ es.size := by
   have := Qpy _ (es.toList.map MapEntry.born) hnL (by
    intro x hx
    obtain ⟨y, hy, rfl⟩ := List.mem_map.1 hx
    exact List.mem_map_of_mem (f := MapEntry.born) (by simpa using hL1' y hy))
   simpa using this
  have b1 : ∀ x y, (Act.put (Act.put a (some 6) x) (some 7) y).tmps.size = 14 := fun x y => by rw [Q5, Q5, ha1]
  have b2 : ∀ x y, (Act.put (Act.put a (some 6) x) (some 7) y).eval (.tmp 0) = .func (.yield l) #[] #[] := fun x y => by rw [Qd (by decide), Qd (by decide), ha3]
  have b3 : ∀ x y, (Act.put (Act.put a (some 6) x) (some 7) y).eval (.tmp 5) = .pointer (some ⟨W.heap.size, 0, none⟩) := fun x y => by rw [Qd (by decide), Qd (by decide), ha4]
  generalize hA2 : Act.put (Act.put a (some 6) (.tuple #[.bool true, e.key, e.val])) (some 7) (.bool true) = A2
  have c1 : A2.tmps.size = 14 := by rw [← hA2]; exact b1 _ _
  have c2 : A2.eval (.tmp 0) = .func (.yield l) #[] #[] := by rw [← hA2]; exact b2 _ _
  have c3 : A2.eval (.tmp 5) = .pointer (some ⟨W.heap.size, 0, none⟩) := by rw [← hA2]; exact b3 _ _
  have c4 : A2.defers = [] := by rw [← hA2]; exact ha2
  clear hA2 b1 b2 b3
  have hw2 : Walks V2 m W.heap.size es clock (L.map MapEntry.born ++ [e.born]) := ⟨hJm _ _ hJ2, by simpa using hn3⟩
  refine Qi hF (v := .tuple #[e.key, e.val]) (w' := V2) rfl (by simp) ?_ ?_
  ·have := Q109 (P := Try.prog) hw2 he1 hnd
   simp only [execOp, c3]
   simp [this, Result.andThen]
  refine Qi hF (v := e.key) (w' := V2) rfl (by simp) ?_ ?_
  ·simp only [execOp]
   rw [Qo (by omega)]
   rfl
  refine Qi hF (v := e.key) (w' := V2) rfl (by simp) ?_ ?_
  ·simp only [execOp]
   rw [Qo (by rw [Q5]; omega)]
   rfl
  refine wpListIn_nil ?_
  refine wpIn_seq (wpIn_region_list ?_)
  refine Qi hF (v := .func (.yield l) #[] #[]) (w' := V2) rfl (by simp) ?_ ?_
  ·simp only [execOp]
   rw [Qd (by decide), Qd (by decide), Qd (by decide), c2]
   rfl
  refine Qi hF (v := e.key) (w' := V2) rfl (by simp) ?_ ?_
  ·simp only [execOp]
   rw [Qd (by decide), Qo (by rw [Q5, Q5]; omega)]
   rfl
  have hlt : (L.map MapEntry.key).length < es.size := by
   rw [List.length_append] at hlen
   rw [List.length_map]
   exact hlen
  obtain ⟨fn, tmps, assign, body, hy, hR⟩ := hY (L.map MapEntry.key) e V2 hJ2 he1 hlt
  have d10 : ∀ x y z u v, (Act.put (Act.put (Act.put (Act.put (Act.put A2 (some 8) x) (some 9) y) (some 3) z) (some 10) u) (some 11) v).eval (.tmp 10) = u := fun x y z u v => by
   rw [Qd (by decide), Qo (by rw [Q5, Q5, Q5]; omega)]
  have d11 : ∀ x y z u v, (Act.put (Act.put (Act.put (Act.put (Act.put A2 (some 8) x) (some 9) y) (some 3) z) (some 10) u) (some 11) v).eval (.tmp 11) = v := fun x y z u v => by
   rw [Qo (by rw [Q5, Q5, Q5, Q5]; omega)]
  have c5 : ∀ x y z u v, (Act.put (Act.put (Act.put (Act.put (Act.put A2 (some 8) x) (some 9) y) (some 3) z) (some 10) u) (some 11) v).tmps.size = 14 := fun x y z u v => by
   rw [Q5, Q5, Q5, Q5, Q5, c1]
  have c6 : ∀ x y z u v, (Act.put (Act.put (Act.put (Act.put (Act.put A2 (some 8) x) (some 9) y) (some 3) z) (some 10) u) (some 11) v).eval (.tmp 0) = .func (.yield l) #[] #[] := fun x y z u v => by
   rw [Qd (by decide), Qd (by decide), Qd (by decide), Qd (by decide), Qd (by decide), c2]
  have c7 : ∀ x y z u v, (Act.put (Act.put (Act.put (Act.put (Act.put A2 (some 8) x) (some 9) y) (some 3) z) (some 10) u) (some 11) v).eval (.tmp 5) = .pointer (some ⟨W.heap.size, 0, none⟩) := fun x y z u v => by
   rw [Qd (by decide), Qd (by decide), Qd (by decide), Qd (by decide), Qd (by decide), c3]
  have c8 : (Act.put (Act.put (Act.put (Act.put (Act.put A2 (some 8) (.tuple #[e.key, e.val])) (some 9) e.key) (some 3) e.key) (some 10) (.func (.yield l) #[] #[])) (some 11) e.key).defers = [] := c4
  generalize hA3 : Act.put (Act.put (Act.put (Act.put (Act.put A2 (some 8) (.tuple #[e.key, e.val])) (some 9) e.key) (some 3) e.key) (some 10) (.func (.yield l) #[] #[])) (some 11) e.key = A3 at c8 ⊢
  have k10 : A3.eval (.tmp 10) = .func (.yield l) #[] #[] := by rw [← hA3]; exact d10 _ _ _ _ _
  have k11 : A3.eval (.tmp 11) = e.key := by rw [← hA3]; exact d11 _ _ _ _ _
  have k0 : A3.eval (.tmp 0) = .func (.yield l) #[] #[] := by rw [← hA3]; exact c6 _ _ _ _ _
  have k5 : A3.eval (.tmp 5) = .pointer (some ⟨W.heap.size, 0, none⟩) := by rw [← hA3]; exact c7 _ _ _ _ _
  have ks : A3.tmps.size = 14 := by rw [← hA3]; exact c5 _ _ _ _ _
  clear hA3 d10 d11 c5 c6 c7
  have hx : ∀ o : Oper, o.op = .call { callee := .value (.tmp 10), args := #[.tmp 11], argTypes := #[5] } → (execOp A3.eval o).run Try.prog V2 = .ok (.round l fn tmps assign body) V2 := by
   intro o ho
   simp only [execOp, ho, resolve, k10]
   simp [Act.eval, Deferred.ofValue, invoke] at k11 ⊢
   simp [k11, hy]
  refine list_round hF rfl rfl rfl (hx _ rfl) hR ?_
  rintro r V3 ⟨rfl, hJ3, hk3⟩
  refine ⟨_, rfl, ?_⟩
  refine Qi hF (v := .bool false) (w' := V3) rfl (by simp) ?_ ?_
  ·simp only [execOp]
   rw [Qo (by omega)]
   rfl
  refine wpListIn_nil ?_
  refine wpIn_cond_false (Qo (by rw [Q5]; omega)) (wpIn_skip ?_)
  have hV3 := hk3 _ _ _ _ _ hn3
  rw [hn3] at hV3
  refine ⟨⟨by rw [Q5, Q5, ks], c8, by rw [Qd (by decide), Qd (by decide), k0], by rw [Qd (by decide), Qd (by decide), k5], L ++ [e], hL1', hnL, hV3, by simpa using hJ3⟩, ?_⟩
  show (match V3.heap[W.heap.size]? with | some (.mapIter _ _ s _) => es.size - s.size | _ => 0) < (match V.heap[W.heap.size]? with | some (.mapIter _ _ s _) => es.size - s.size | _ => 0)
  rw [hV3, hL3]
  simp at hlen ⊢
  omega
theorem Qv6 (hT : TyI Try.prog 64 false 1) (hu : ∃ k e, Try.prog.underlying 64 = some (.map k e)) (hbox : W.cell? ⟨Bm, 0, none⟩ = some (.map (some m)))
  (hold : ∀ e ∈ es, e.born < clock) (hnd : (es.toList.map MapEntry.born).Nodup)
  (hJm : ∀ pre V, J pre V → V.heap[m]? = some (.map es clock))
  (hJ : ∀ pre V V' ex, J pre V → W.heap.size ≤ ex → Keeps1 ex V V' → J pre V')
  (hY : Yields l es J) (h0 : J [] W) :
  CallsIn Fence.wide 0 Try.prog 73 #[.func (.yield l) #[] #[], .pointer (some ⟨Bm, 0, none⟩)] W fun r W' => (∃ v, r = .returned v) ∧ ∃ L : List MapEntry, L.Perm es.toList ∧ J (L.map MapEntry.key) W' :=
 callsIn_of_wp Try.func73 rfl trivial (Qy9 hT hu hbox hold hnd hJm hJ hY h0 _ rfl _ (by simp [Try.f73]) rfl (by simp [Act.eval, Try.f73, Array.getD]) (by simp [Act.eval, Try.f73, Array.getD])) rfl
end
end Go.Proofs.Xg
set_option linter.unusedVariables false
set_option linter.unusedSimpArgs false
set_option maxRecDepth 100000
namespace Go.Proofs.Xg
open Go Go.Ab Go.Xl Go.Proofs
noncomputable def apOps : Array Oper := match Try.f97.body with
 | some (.seq _ (.seq (.seq _ (.block _ (.rangeFunc _ _ _ (.block _ (.region _ ops _))))) _)) => ops
 | _ => #[]
def env2 (x : UInt8) : List (Nat × XV) := [(2, .nm 1 (.p 0)), (5, .d (Ty.xv .u8 x))]
def stN (x : UInt8) : XSt := ⟨env2 x, [(1, .cells [.d (.v (.slice none 0 0))] none)], [], [], []⟩
def stL (x : UInt8) (l : List UInt8) (n : Nat) : XSt := ⟨env2 x, [(1, .cells [.os 2000 .u8 0 n] none), (2000, .arr .u8 l)], [], [], []⟩
def outS (l : List UInt8) (n : Nat) : Store := ⟨Q0 [(1011, .arr .u8 l), (1, .cells [.os 1011 .u8 0 n] none)], []⟩
theorem apN (x : UInt8) : xops Try.prog [] [11] 13 apOps false (env2 x) (fun s => some s.X) apOps.toList [] (stN x) = cond (fitsB 1 1) (some (outS [x] 1)) none := by kernel_rfl
theorem apL (x : UInt8) (l : List UInt8) (n : Nat) : xops Try.prog [] [11] 13 apOps false (env2 x) (fun s => some s.X) apOps.toList [] (stL x l n) = cond (Nat.beq l.length n) (cond (fitsB (n + 1) 1) (some (outS (l ++ [x]) (n + 1))) none) none := by kernel_rfl
noncomputable def op0 : Array Oper := match Try.f97.body with | some (.seq (.region _ ops _) _) => ops | _ => #[]
noncomputable def op1 : Array Oper := match Try.f97.body with | some (.seq _ (.seq (.seq (.region _ ops _) _) _)) => ops | _ => #[]
noncomputable def op2 : Array Oper := match Try.f97.body with | some (.seq _ (.seq (.seq _ (.block _ (.rangeFunc _ _ (.region _ ops _) _))) _)) => ops | _ => #[]
noncomputable def op4 : Array Oper := match Try.f97.body with | some (.seq _ (.seq _ (.seq (.region _ ops _) _))) => ops | _ => #[]
theorem Q13k : Try.f97.body = some (.seq (.region 0 op0 false) (.seq (.seq (.region 1 op1 false) (.block 0 (.rangeFunc (.tmp 6) #[7] (.region 2 op2 false) (.block 1 (.region 3 apOps false))))) (.seq (.region 4 op4 false) .ret))) := rfl
def Xacc : List UInt8 → Store
 | [] => ⟨Q0 [(1, .cells [.d (.v (.slice none 0 0))] none)], []⟩
 | a :: l => ⟨Q0 [(1, .cells [.os 2000 .u8 0 (a :: l).length] none), (2000, .arr .u8 (a :: l))], []⟩
theorem Qw6 {l : List UInt8} (h : l ≠ []) : Xacc l = ⟨Q0 [(1, .cells [.os 2000 .u8 0 l.length] none), (2000, .arr .u8 l)], []⟩ := by
 cases l with
 | nil => exact absurd rfl h
 | cons a l => rfl
theorem Qaf (l : List UInt8) : (Xacc l).live = [] := by cases l <;> rfl
theorem Qnj {l : List UInt8} {k : Nat} {o : Ob} (h : (Xacc l).objs.lookup k = some o) : ∃ cs ty, o = .cells cs ty := by
 have := Q1a h
 cases l with
 | nil =>
  simp only [Xacc, Q0, List.map_cons, List.map_nil, List.mem_cons, List.not_mem_nil, or_false, Prod.mk.injEq] at this
  exact ⟨_, _, this.2⟩
 | cons a l =>
  simp only [Xacc, Q0, List.map_cons, List.map_nil, List.mem_cons, List.not_mem_nil, or_false, Prod.mk.injEq] at this
  rcases this with h | h
  ·exact ⟨_, _, h.2⟩
  ·exact ⟨_, _, h.2⟩
def enc8 (x : UInt8) : Value := .int .u8 (x.toNat : Int)
structure AccAt (B : Base) (rc : Loop) (lp D : Nat) (l : List UInt8) (V : World) : Prop where
 st : ∃ g, HR [1] B g V (Xacc l)
 loop : V.heap[lp]? = some (.loop rc)
 dfr : V.heap[D]? = some (.deferred (some []))
theorem Qw2 {B : Base} {g : Gh} {V : World} {l : List UInt8} (h : HR [1] B g V (Xacc l)) {b : Nat} {ob : Obj} (hb : V.heap[b]? = some ob) (hc : ∀ a t f, ob ≠ .cells a t f) : ∀ k o, (Xacc l).objs.lookup k = some o → g.ρ k ≠ b := by
 intro k o hk he
 obtain ⟨cs, ty, rfl⟩ := Qnj hk
 cases h.objs k _ hk with
 | cells _ _ arr T h1 _ _ _ =>
  rw [he, hb] at h1
  simp only [Option.some.injEq] at h1
  exact hc _ _ _ h1
theorem Qvp {B : Base} {g : Gh} {V : World} {l : List UInt8} (h : HR [1] B g V (Xacc l)) {b : Nat} {ob : Obj} (hb : V.heap[b]? = some ob) (hc : ∀ a t f, ob ≠ .cells a t f) : ¬ (Base.of g V (Xacc l)).allowed b := by
 rintro (⟨k, o, hk, he⟩ | ⟨n, hn⟩)
 ·exact Qw2 h hb hc k o hk he
 ·rw [h.beta (Qaf l) n] at hn; cases hn
theorem Ql5 {B : Base} {g : Gh} {V : World} {l : List UInt8} (h : HR [1] B g V (Xacc l)) {lp : Nat} {ob : Obj} (hb : V.heap[lp]? = some ob) (hc : ∀ a t f, ob ≠ .cells a t f) (hcell : ∀ i, V.cell? ⟨lp, i, none⟩ = none) (hsh : V.shape? lp = none) (hge : B.n0 ≤ lp) (o' : Obj) : HR [1] B g (V.putObj lp o') (Xacc l) :=
 h.junk (Qaf l) (Qw2 h hb hc) hcell hsh hge (by simp [World.putObj]) (fun b _ hne => World.putObj_heap_other hne) ⟨rfl, rfl, rfl, Nat.le_refl _⟩
theorem Qjb {V : World} {lp : Nat} {rc : Loop} (hb : V.heap[lp]? = some (.loop rc)) : (∀ i, V.cell? ⟨lp, i, none⟩ = none) ∧ V.shape? lp = none := by
 refine ⟨fun i => ?_, ?_⟩
 ·simp [World.cell?, hb]
 ·simp [World.shape?, hb]
def S13 : Sig := ⟨13, [1], by simp⟩
theorem Qvt {B : Base} {g : Gh} {w : World} {l : List UInt8} (hl : l ≠ []) (h : HR [1] B g w (outS l l.length)) : ∃ g', HR [1] B g' w (Xacc l) := by
 obtain ⟨h1, h2⟩ := h.renameObj (k := 1011) (m := 2000) (o := (XOb.arr .u8 l).o) (by simp) (by simp) (Q7i rfl) rfl (by decide)
 refine ⟨_, h1.reob (Y := Xacc l) (Qaf l) ?_ ?_⟩
 ·rw [Qw6 hl]
  intro j o hj
  have := Q1a hj
  simp only [Q0, List.map_cons, List.map_nil, List.mem_cons, List.not_mem_nil, or_false, Prod.mk.injEq] at this
  rcases this with ⟨rfl, rfl⟩ | ⟨rfl, rfl⟩
  ·refine ⟨(XOb.cells [.os 1011 .u8 0 l.length] none).o, rfl, fun hr => ?_⟩
   cases hr with
   | cells _ _ arr T h1 h2 h3 h4 =>
    refine .cells _ _ arr T h1 h2 (fun i x v hx hv => ?_) h4
    have hx' : i = 0 ∧ x = .nm 2000 (.s 0 l.length 1) := by
     cases i with
     | zero => simp [asOf, XV.a] at hx; exact ⟨rfl, hx.symm ▸ rfl⟩
     | succ i => simp [asOf] at hx
    obtain ⟨rfl, rfl⟩ := hx'
    have := h3 0 (.nm 1011 (.s 0 l.length 1)) v rfl hv
    cases this with
    | nm _ _ _ hp =>
     refine .nm 2000 _ _ ?_
     simpa [upd] using hp
  ·exact ⟨_, rfl, id⟩
 ·intro j hj
  simp at hj
  subst hj
  rw [Qw6 hl]; rfl
set_option maxHeartbeats 4000000 in
theorem Q124 {B : Base} {Bs lp D : Nat} (hB : B.keep 1 = Bs) (hlp : B.n0 ≤ lp) (hne : D ≠ lp) {fn : FuncId} {tmps : Array Value} (ht : tmps.size = 13) (ht2 : tmps[2]? = some (.pointer (some ⟨Bs, 0, none⟩))) (x : UInt8) (l : List UInt8) (hfit : l.length + 1 ≤ 1000000000000) (V : World)
  (h : AccAt B { state := .ready, pending := none, fn := fn, tmps := tmps, params := #[7], assign := .region 2 op2 false, body := .block 1 (.region 3 apOps false), defers := D } lp D l V) :
  YieldAt Fence.wide 0 Try.prog lp #[enc8 x] V fun r V' => r = .returned (.bool true) ∧ AccAt B { state := .ready, pending := none, fn := fn, tmps := tmps, params := #[7], assign := .region 2 op2 false, body := .block 1 (.region 3 apOps false), defers := D } lp D (l ++ [x]) V' ∧
   ∀ (b : Nat) (m' : Option Nat) (s : Nat) (c : Array Nat) (d : Nat), V.heap[b]? = some (Obj.mapIter m' s c d) → V'.heap[b]? = V.heap[b]? := by
 have hF : ∀ f, (Fence.wide.inRound lp).fn f := fun _ => trivial
 refine ⟨fn, _, _, _, run_yield (P := Try.prog) (args := #[enc8 x]) h.loop rfl, roundIn_of_wpIn trivial ?_⟩
 obtain ⟨g, hg⟩ := h.st
 have hkeep : g.ρ 1 = Bs := (hg.keep 1 (by simp)).1.trans hB
 obtain ⟨q1, q2⟩ := Qjb h.loop
 have hlt : lp < V.heap.size := (Array.getElem?_eq_some_iff.1 h.loop).1
 refine wpIn_region_list ?_
 have e2 : op2.toList = [{ dst := some 5, op := .assign (.tmp 7), type := 5, pos := "iter.go:51", after := #[], guard := none }] := rfl
 rw [e2]
 generalize hA : ({ tmps := (Array.zip #[7] #[enc8 x]).foldl (fun tmps (t, a) => tmps.setIfInBounds t a) tmps, defers := [] } : Act) = A
 have a1 : A.tmps.size = 13 := by rw [← hA]; simp [ht]
 have a2 : A.defers = [] := by rw [← hA]
 have a3 : A.eval (.tmp 7) = enc8 x := by rw [← hA]; simp [Act.eval, Array.getD, ht]
 have a4 : A.tmps[2]? = some (.pointer (some ⟨Bs, 0, none⟩)) := by rw [← hA]; simp [Array.getElem?_setIfInBounds, ht2]
 refine Qi hF (v := enc8 x) (w' := V) rfl (by simp) (by simp only [execOp, a3]; rfl) ?_
 refine wpListIn_nil ?_
 refine ⟨_, run_beginRound h.loop rfl, ?_⟩
 have hg2 := Ql5 hg h.loop (by simp) q1 q2 hlp (.loop { state := .busy, pending := none, fn := fn, tmps := tmps, params := #[7], assign := .region 2 op2 false, body := .block 1 (.region 3 apOps false), defers := D })
 have hl2 : (V.putObj lp (.loop { state := .busy, pending := none, fn := fn, tmps := tmps, params := #[7], assign := .region 2 op2 false, body := .block 1 (.region 3 apOps false), defers := D })).heap[lp]? = some (.loop { state := .busy, pending := none, fn := fn, tmps := tmps, params := #[7], assign := .region 2 op2 false, body := .block 1 (.region 3 apOps false), defers := D }) := World.putObj_heap_same hlt
 have ho2 : ∀ b, b ≠ lp → (V.putObj lp (.loop { state := .busy, pending := none, fn := fn, tmps := tmps, params := #[7], assign := .region 2 op2 false, body := .block 1 (.region 3 apOps false), defers := D })).heap[b]? = V.heap[b]? := fun b hb => World.putObj_heap_other hb
 show Code.wpIn _ _ _ _ _ _ (V.putObj lp (.loop { state := .busy, pending := none, fn := fn, tmps := tmps, params := #[7], assign := .region 2 op2 false, body := .block 1 (.region 3 apOps false), defers := D }))
 generalize V.putObj lp (.loop { state := .busy, pending := none, fn := fn, tmps := tmps, params := #[7], assign := .region 2 op2 false, body := .block 1 (.region 3 apOps false), defers := D }) = V2 at hg2 hl2 ho2 ⊢
 have hreb := hg2.rebase (Qaf l)
 refine wpIn_block (wpIn_region (Q7r ?_ ?_ _ _ _ ?_))
 ·rintro ⟨a, w, hq⟩; exact hq
 ·intro i o hi c hc
  have : o ∈ apOps.toList := by
   have := List.mem_of_getElem? (l := apOps.toList) (i := i) (a := o) (by simpa using hi)
   exact this
  have hall : apOps.toList.all (fun o => match o.op with | .defer _ => false | _ => true) = true := by kernel_rfl
  have := List.all_eq_true.1 hall o this
  rw [hc] at this; cases this
 ·rw [List.range_eq_range']
  have hsr : ∀ X, X = Xacc l → SR S13 (Base.of g V2 (Xacc l)) g V2 ⟨imEnv (env2 x), X⟩ (A.put (some 5) (enc8 x)) := by
   rintro X rfl
   refine ⟨a2, by rw [Q5]; exact a1, hreb, ?_⟩
   intro t y hy
   have := Q1a hy
   simp only [imEnv, env2, List.map_cons, List.map_nil, List.mem_cons, List.not_mem_nil, or_false, Prod.mk.injEq] at this
   rcases this with ⟨rfl, rfl⟩ | ⟨rfl, rfl⟩
   ·refine ⟨.pointer (some ⟨Bs, 0, none⟩), ?_, ?_⟩
    ·rw [Q8x (by decide)]
     show (A.tmps.setIfInBounds 5 (enc8 x))[2]? = _
     simp [Array.getElem?_setIfInBounds, a4]
    ·rw [← hkeep]; exact RA.ptr 1 0
   ·refine ⟨enc8 x, ?_, .d _ _ (.sc _)⟩
    rw [Q8x (by decide)]
    show (A.tmps.setIfInBounds 5 (enc8 x))[5]? = _
    simp [Array.getElem?_setIfInBounds, a1]
  have fin : ∀ (g' : Gh) (w' : World) (a' : Act) (s : St), s.X = outS (l ++ [x]) (l.length + 1) → SR S13 (Base.of g V2 (Xacc l)) g' w' s a' →
    Exit.inBlock 1 (roundPost Try.prog lp fun r V' => r = .returned (.bool true) ∧ AccAt B { state := .ready, pending := none, fn := fn, tmps := tmps, params := #[7], assign := .region 2 op2 false, body := .block 1 (.region 3 apOps false), defers := D } lp D (l ++ [x]) V' ∧
     ∀ (b : Nat) (m' : Option Nat) (s : Nat) (c : Array Nat) (d : Nat), V.heap[b]? = some (Obj.mapIter m' s c d) → V'.heap[b]? = V.heap[b]?) .normal a' w' := by
   intro g' w' a' s hs hsr'
   have hr := hsr'.hr
   rw [hs] at hr
   have fr : ∀ (b : Nat) (ob : Obj), V2.heap[b]? = some ob → (∀ a t f, ob ≠ .cells a t f) → w'.heap[b]? = some ob := by
    intro b ob hb hc
    rw [(hr.frame b (Array.getElem?_eq_some_iff.1 hb).1 (Qvp hg2 hb hc)).1]
    exact hb
   have hl3 := fr lp _ hl2 (by simp)
   have hcomp := hg2.comp hr (Qaf l) rfl
   rw [show l.length + 1 = (l ++ [x]).length by simp] at hcomp
   obtain ⟨g4, h4⟩ := Qvt (by simp) hcomp
   obtain ⟨q3, q4⟩ := Qjb hl3
   have h5 := Ql5 h4 hl3 (by simp) q3 q4 hlp (.loop { state := .ready, pending := none, fn := fn, tmps := tmps, params := #[7], assign := .region 2 op2 false, body := .block 1 (.region 3 apOps false), defers := D })
   have hlt3 : lp < w'.heap.size := (Array.getElem?_eq_some_iff.1 hl3).1
   refine ⟨_, _, run_endRound none hl3, rfl, ⟨⟨g4, h5⟩, World.putObj_heap_same hlt3, ?_⟩, ?_⟩
   ·rw [World.putObj_heap_other hne]
    exact fr D _ ((ho2 D hne).trans h.dfr) (by simp)
   ·intro b m' s c d hb
    have hbl : b ≠ lp := by rintro rfl; rw [h.loop] at hb; cases hb
    rw [World.putObj_heap_other hbl, hb]
    exact fr b _ ((ho2 b hbl).trans hb) (by simp)
  have fitb : fitsB (l.length + 1) 1 = true := by simp [fitsB]; omega
  cases l with
  | nil =>
   have hrw := Qdw (P := Try.prog) (Γ := []) (own := [11]) (S := S13) (ops := apOps) (env0 := env2 x) (K := fun s => some s.X) (r := outS [x] 1) (s0 := stN x) apOps.toList 0 [] (stN x) (Qdr apOps) (.refl _) (by
    rw [show S13.N = 13 from rfl, apN]
    rw [show fitsB 1 1 = true from fitb]; rfl)
   refine hrw _ _ _ _ _ (hsr _ rfl) ?_
   rintro g' w' a' s ⟨st', rfl, _, hX⟩ hs
   exact fin g' w' a' _ (Option.some.inj hX) hs
  | cons y l =>
   have hrw := Qdw (P := Try.prog) (Γ := []) (own := [11]) (S := S13) (ops := apOps) (env0 := env2 x) (K := fun s => some s.X) (r := outS ((y :: l) ++ [x]) ((y :: l).length + 1)) (s0 := stL x (y :: l) (y :: l).length) apOps.toList 0 [] (stL x (y :: l) (y :: l).length) (Qdr apOps) (.refl _) (by
    rw [show S13.N = 13 from rfl, apL]
    rw [fitb, Nat.beq_refl]; rfl)
   refine hrw _ _ _ _ _ (hsr _ rfl) ?_
   rintro g' w' a' s ⟨st', rfl, _, hX⟩ hs
   exact fin g' w' a' _ (Option.some.inj hX) hs
end Go.Proofs.Xg
set_option linter.unusedVariables false
set_option linter.unusedSimpArgs false
set_option maxRecDepth 100000
namespace Go.Proofs.Xg
open Go Go.Ab Go.Xl Go.Proofs
def Xres : List UInt8 → Store
 | [] => X0
 | a :: l => ⟨Q0 [(2000, .arr .u8 (a :: l))], []⟩
def resA : List UInt8 → AV
 | [] => .d (.sc (.slice none 0 0))
 | a :: l => .nm 2000 (.s 0 (a :: l).length 1)
theorem Q11z {x y : UInt8} (h : enc8 x = enc8 y) : x = y := by
 simp only [enc8, Value.int.injEq, true_and] at h
 exact UInt8.toNat_inj.1 (by omega)
theorem Q12n {L : List MapEntry} {xs : MapEntry → UInt8} (hk : ∀ e ∈ L, e.key = enc8 (xs e)) : ∀ {l : List UInt8}, L.map MapEntry.key = l.map enc8 → l = L.map xs := by
 induction L with
 | nil => intro l h; cases l with | nil => rfl | cons _ _ => simp at h
 | cons e L ih =>
  intro l h
  cases l with
  | nil => simp at h
  | cons x l =>
   simp only [List.map_cons, List.cons.injEq] at h
   rw [hk e List.mem_cons_self] at h
   rw [List.map_cons, ← Q11z h.1, ih (fun e he => hk e (List.mem_cons_of_mem _ he)) h.2]
structure MapAt (w : World) (Bm m : Nat) (es : Array MapEntry) (clock : Nat) (xs : MapEntry → UInt8) : Prop where
 box : w.cell? ⟨Bm, 0, none⟩ = some (.map (some m))
 map : w.heap[m]? = some (.map es clock)
 old : ∀ e ∈ es, e.born < clock
 nodup : (es.toList.map MapEntry.born).Nodup
 key : ∀ e ∈ es, e.key = enc8 (xs e)
 size : es.size ≤ 1000000000
structure SeqI : Prop where
 map : TyI Try.prog 64 false 1
 und : ∃ k e, Try.prog.underlying 64 = some (.map k e)
 sl : TyI Try.prog 68 false 1
abbrev Qcv (g : Gh) (w : World) (es : Array MapEntry) (xs : MapEntry → UInt8) : Ending → World → Prop := fun r w' =>
 ∃ g' v L, r = .returned v ∧ List.Perm L es.toList ∧ HR [] (Base.of g w X0) g' w' (Xres (L.map xs)) ∧ RA g' w' (resA (L.map xs)) v
theorem Q12v {B : Base} {g : Gh} {w : World} {l : List UInt8} (h : HR [] B g w (Xacc l)) : HR [] B g w (Xres l) := by
 have h1 := h.dropObj (k := 1) (by simp)
 refine h1.alike ⟨fun k => ?_, ?_⟩
 ·cases l with
  | nil => simp [Xacc, Xres, X0, Q0, Ab.dropObj]
  | cons a l =>
   simp only [Xacc, Xres, Q0, Ab.dropObj, List.map_cons, List.map_nil]
   rfl
 ·cases l <;> rfl
set_option maxHeartbeats 4000000 in
theorem Qv8 (hI : SeqI) {g : Gh} {w : World} (h0 : HR [] (Base.of g w X0) g w X0) {Bm m : Nat} {es : Array MapEntry} {clock : Nat} {xs : MapEntry → UInt8} (hM : MapAt w Bm m es clock xs)
  (A : Act) (a1 : A.tmps.size = 13) (a2 : A.defers = []) (a3 : A.eval (.tmp 0) = .slice none 0 0) (a4 : A.eval (.tmp 1) = .func (.func 73) #[] #[.pointer (some ⟨Bm, 0, none⟩)]) :
  (Code.seq (.region 0 op0 false) (.seq (.seq (.region 1 op1 false) (.block 0 (.rangeFunc (.tmp 6) #[7] (.region 2 op2 false) (.block 1 (.region 3 apOps false))))) (.seq (.region 4 op4 false) .ret))).wpIn Fence.wide 0 Try.prog
   (bodyPostM Fence.wide 0 Try.prog Try.f97 (Qcv g w es xs)) A w := by
 have hF : ∀ f, Fence.wide.fn f := fun _ => trivial
 have hβ : ∀ n, g.β n = none := h0.beta rfl
 have hna : ∀ b, ¬ (Base.of g w X0).allowed b := by
  rintro b (⟨k, o, hk, _⟩ | ⟨n, hn⟩)
  ·simp [X0] at hk
  ·rw [hβ n] at hn; cases hn
 have hmlt : m < w.heap.size := (Array.getElem?_eq_some_iff.1 hM.map).1
 have hBlt : Bm < w.heap.size := World.block_lt_of_cell? w ⟨Bm, 0, none⟩ hM.box
 -- the box for what is gathered
 refine wpIn_seq (wpIn_region_list ?_)
 rw [show op0.toList = [{ dst := some 2, op := .box 68 (.tmp 0), type := 0, pos := "iter.go:50", after := #[], guard := none }, { dst := some 4, op := .assign (.const (.slice none 0 0)), type := 68, pos := "iter.go:50", after := #[], guard := none }] from rfl]
 refine Qi hF (v := .pointer (some ⟨w.heap.size, 0, none⟩)) (w' := w.alloc (.cells #[.slice none 0 0] 68)) rfl (by simp) ?_ ?_
 ·simp only [execOp, a3]
  simp [Instr.box, newVar, Go.newRow, Value.cells]
 refine Qi hF (v := .slice none 0 0) (w' := w.alloc (.cells #[.slice none 0 0] 68)) rfl (by simp) (by simp only [execOp]; rfl) ?_
 refine wpListIn_nil ?_
 have hn := h0.newObj (k := 1) rfl rfl (.cells #[.slice none 0 0] 68) (.cells [.d (.sc (.slice none 0 0))] none) (fun g' w' _ hb => .cells _ _ _ _ hb (by simp) (fun i x v hx hv => by
  cases i with
  | zero => simp at hx hv; subst hx; subst hv; exact .d _ _ (.sc _)
  | succ i => simp at hx) (by simp))
 have hg1 := hn.1
 generalize hgg : ({ g with ρ := upd g.ρ 1 w.heap.size } : Gh) = g1 at hg1
 have hρ : g1.ρ 1 = w.heap.size := by rw [← hgg]; exact upd_same g.ρ 1 w.heap.size
 have hr1 : HR [1] { Base.of g w X0 with keep := fun _ => w.heap.size } g1 (w.alloc (.cells #[.slice none 0 0] 68)) (Xacc []) := hg1.keepN (fun _ => w.heap.size) (fun k hk => by
  simp at hk; subst hk; exact ⟨hρ, rfl⟩)
 have hV0 : (w.alloc (.cells #[.slice none 0 0] 68)).heap.size = w.heap.size + 1 := by simp
 have hold0 : ∀ b, b < w.heap.size → (w.alloc (.cells #[.slice none 0 0] 68)).heap[b]? = w.heap[b]? := fun b hb => Q2k w _ hb
 have hbox0 : (w.alloc (.cells #[.slice none 0 0] 68)).cell? ⟨Bm, 0, none⟩ = some (.map (some m)) := by rw [cell?_of_heap (hold0 Bm hBlt)]; exact hM.box
 generalize hW : w.alloc (.cells #[.slice none 0 0] 68) = V0 at hr1 hV0 hold0 hbox0 ⊢
 clear hn hg1 hW
 have c1 : (Act.put (Act.put A (some 2) (.pointer (some ⟨w.heap.size, 0, none⟩))) (some 4) (.slice none 0 0)).tmps.size = 13 := by rw [Q5, Q5, a1]
 have c2 : (Act.put (Act.put A (some 2) (.pointer (some ⟨w.heap.size, 0, none⟩))) (some 4) (.slice none 0 0)).eval (.tmp 1) = .func (.func 73) #[] #[.pointer (some ⟨Bm, 0, none⟩)] := by rw [Qd (by decide), Qd (by decide), a4]
 have c3 : (Act.put (Act.put A (some 2) (.pointer (some ⟨w.heap.size, 0, none⟩))) (some 4) (.slice none 0 0)).eval (.tmp 2) = .pointer (some ⟨w.heap.size, 0, none⟩) := by rw [Qd (by decide), Qo (by omega)]
 have c4 : (Act.put (Act.put A (some 2) (.pointer (some ⟨w.heap.size, 0, none⟩))) (some 4) (.slice none 0 0)).defers = [] := a2
 show Code.wpIn _ _ _ _ _ (Act.put (Act.put A (some 2) (.pointer (some ⟨w.heap.size, 0, none⟩))) (some 4) (.slice none 0 0)) V0
 generalize Act.put (Act.put A (some 2) (.pointer (some ⟨w.heap.size, 0, none⟩))) (some 4) (.slice none 0 0) = A1 at c1 c2 c3 c4 ⊢
 clear a1 a2 a3 a4
 refine wpIn_seq (wpIn_seq (wpIn_region_list ?_))
 rw [show op1.toList = [{ dst := some 6, op := .move (.tmp 1), type := 71, pos := "iter.go:51", after := #[], guard := none }] from rfl]
 refine Qi hF (v := .func (.func 73) #[] #[.pointer (some ⟨Bm, 0, none⟩)]) (w' := V0) rfl (by simp) (by simp only [execOp, c2]; rfl) ?_
 refine wpListIn_nil ?_
 have d1 : (A1.put (some 6) (.func (.func 73) #[] #[.pointer (some ⟨Bm, 0, none⟩)])).tmps.size = 13 := by rw [Q5, c1]
 have d2 : (A1.put (some 6) (.func (.func 73) #[] #[.pointer (some ⟨Bm, 0, none⟩)])).eval (.tmp 6) = .func (.func 73) #[] #[.pointer (some ⟨Bm, 0, none⟩)] := Qo (by omega)
 have d3 : (A1.put (some 6) (.func (.func 73) #[] #[.pointer (some ⟨Bm, 0, none⟩)])).eval (.tmp 2) = .pointer (some ⟨w.heap.size, 0, none⟩) := by rw [Qd (by decide), c3]
 have d4 : (A1.put (some 6) (.func (.func 73) #[] #[.pointer (some ⟨Bm, 0, none⟩)])).defers = [] := c4
 show Code.wpIn _ _ _ _ _ (A1.put (some 6) (.func (.func 73) #[] #[.pointer (some ⟨Bm, 0, none⟩)])) V0
 generalize A1.put (some 6) (.func (.func 73) #[] #[.pointer (some ⟨Bm, 0, none⟩)]) = A2 at d1 d2 d3 d4 ⊢
 clear c1 c2 c3 c4
 have d5 : A2.tmps[2]? = some (.pointer (some ⟨w.heap.size, 0, none⟩)) := by
  have : A2.tmps.getD 2 undef = .pointer (some ⟨w.heap.size, 0, none⟩) := d3
  have h2 : 2 < A2.tmps.size := by omega
  simp only [Array.getD, h2, dif_pos] at this
  simp [h2, ← this]
 refine wpIn_block (wpIn_rangeFunc ?_)
 intro fn _
 -- the record, the block for deferred calls
 generalize hrc : ({ state := .ready, pending := none, fn := fn, tmps := A2.tmps, params := #[7], assign := .region 2 op2 false, body := .block 1 (.region 3 apOps false), defers := V0.heap.size } : Loop) = rc
 have hW1s : ((V0.alloc (.deferred (some []))).alloc (.loop rc)).heap.size = V0.heap.size + 2 := by simp
 have hW1o : ∀ b, b < V0.heap.size → ((V0.alloc (.deferred (some []))).alloc (.loop rc)).heap[b]? = V0.heap[b]? := fun b hb => by
  rw [Q2k (V0.alloc (.deferred (some []))) _ (by simp; omega), Q2k V0 _ hb]
 have hr2 : HR [1] { Base.of g w X0 with keep := fun _ => w.heap.size } g1 ((V0.alloc (.deferred (some []))).alloc (.loop rc)) (Xacc []) := (hr1.grow (by rw [hW1s]; omega) hW1o ⟨rfl, rfl, rfl, Nat.le_refl _⟩).1
 have hlp : ((V0.alloc (.deferred (some []))).alloc (.loop rc)).heap[V0.heap.size + 1]? = some (.loop rc) := by
  have := World.alloc_heap_new (V0.alloc (.deferred (some []))) (.loop rc)
  simpa using this
 have hD : ((V0.alloc (.deferred (some []))).alloc (.loop rc)).heap[V0.heap.size]? = some (.deferred (some [])) := by
  rw [Q2k (V0.alloc (.deferred (some []))) _ (by simp)]
  exact World.alloc_heap_new V0 _
 have hbox1 : ((V0.alloc (.deferred (some []))).alloc (.loop rc)).cell? ⟨Bm, 0, none⟩ = some (.map (some m)) := by
  rw [cell?_of_heap (hW1o Bm (by omega))]; exact hbox0
 have hent := run_enterLoop_outer (P := Try.prog) (w := V0) fn A2.tmps #[7] (.region 2 op2 false) (.block 1 (.region 3 apOps false))
 rw [hrc] at hent
 generalize (V0.alloc (.deferred (some []))).alloc (.loop rc) = W1 at hW1s hW1o hr2 hlp hD hbox1 hent
 refine ⟨V0.heap.size + 1, [{ target := .collected V0.heap.size, args := #[] }], W1, { target := .fn (.func 73) #[.pointer (some ⟨Bm, 0, none⟩)], args := #[.func (.yield (V0.heap.size + 1)) #[] #[]] }, W1, 73,
  #[.func (.yield (V0.heap.size + 1)) #[] #[], .pointer (some ⟨Bm, 0, none⟩)], W1, hent, ?_, fun _ _ => trivial, ?_, fun h => by simp [Fence.wide] at h, ?_⟩
 ·simp only [resolve, rangeCall, d2]
  simp [Act.eval, Deferred.ofValue]
 ·have hc : CallI Try.prog 73 := .mk' Try.func73 rfl (by decide)
  have := Q7d hc #[.func (.yield (V0.heap.size + 1)) #[] #[], .pointer (some ⟨Bm, 0, none⟩)] W1
  simp [invoke, this]
 ·have hB1 : ({ Base.of g w X0 with keep := fun _ => w.heap.size } : Base).n0 = w.heap.size := rfl
  refine (Qv6 (l := V0.heap.size + 1) (Bm := Bm) (m := m) (es := es) (clock := clock) (W := W1) (J := fun pre V => ∃ l : List UInt8, pre = l.map enc8 ∧ AccAt { Base.of g w X0 with keep := fun _ => w.heap.size } rc (V0.heap.size + 1) V0.heap.size l V)
   hI.map hI.und hbox1 hM.old hM.nodup ?_ ?_ ?_ ⟨[], rfl, ⟨g1, hr2⟩, hlp, hD⟩).mono ?_
  ·rintro pre V ⟨l, rfl, hA⟩
   obtain ⟨g', hg'⟩ := hA.st
   rw [(hg'.frame m hmlt (hna m)).1]
   exact hM.map
  ·rintro pre V V' ex ⟨l, rfl, hA⟩ hex hk
   obtain ⟨g', hg'⟩ := hA.st
   have lt1 : V0.heap.size + 1 < V.heap.size := (Array.getElem?_eq_some_iff.1 hA.loop).1
   refine ⟨l, rfl, ⟨g', hg'.junk (ex := ex) (Qaf l) ?_ ?_ ?_ (by rw [hB1]; omega) hk.size hk.block hk.io⟩, ?_, ?_⟩
   ·intro k o hko he
    obtain ⟨cs, ty, rfl⟩ := Qnj hko
    cases hg'.objs k _ hko with
    | cells _ _ arr T h1 _ _ _ =>
     rw [he] at h1
     rcases hk.none with h2 | ⟨_, _, _, _, h2⟩ <;> rw [h2] at h1 <;> cases h1
   ·intro i
    rcases hk.none with h2 | ⟨_, _, _, _, h2⟩ <;> simp [World.cell?, h2]
   ·rcases hk.none with h2 | ⟨_, _, _, _, h2⟩ <;> simp [World.shape?, h2]
   ·rw [hk.block _ lt1 (by omega)]; exact hA.loop
   ·rw [hk.block _ (by omega) (by omega)]; exact hA.dfr
  ·rintro pre e V ⟨l, rfl, hA⟩ he hl
   have hs := hM.size
   subst hrc
   have := Q124 (B := { Base.of g w X0 with keep := fun _ => w.heap.size }) (Bs := w.heap.size) (lp := V0.heap.size + 1) (D := V0.heap.size) rfl (by rw [hB1]; omega) (by omega) d1 d5 (xs e) l (by simp at hl; omega) V hA
   rw [← hM.key e he] at this
   obtain ⟨fn', tmps', as', bd', y1, y2⟩ := this
   refine ⟨fn', tmps', as', bd', y1, y2.mono ?_⟩
   rintro r V' ⟨rfl, hA', hk⟩
   exact ⟨rfl, ⟨l ++ [xs e], by simp [hM.key e he], hA'⟩, hk⟩
  ·rintro r W2 ⟨⟨v, rfl⟩, L, hL, l, hl, hA⟩
   have hLe : ∀ e ∈ L, e ∈ es := fun e he => by simpa using hL.subset he
   have e1 := Q12n (xs := xs) (fun e he => hM.key e (hLe e he)) hl
   rw [e1] at hA
   obtain ⟨g', hg'⟩ := hA.st
   obtain ⟨q1, q2⟩ := Qjb hA.loop
   have hge : ({ Base.of g w X0 with keep := fun _ => w.heap.size } : Base).n0 ≤ V0.heap.size + 1 := by rw [hB1]; omega
   have hg3 := Ql5 hg' hA.loop (by simp) q1 q2 hge (.loop { rc with state := .exhausted })
   have hrs : rc.state ≠ .busy := by rw [← hrc]; simp
   have hrp : rc.pending = none := by rw [← hrc]
   have hend := run_endLoop (P := Try.prog) hA.loop hrs
   have hD3 : (W2.putObj (V0.heap.size + 1) (.loop { rc with state := .exhausted })).heap[V0.heap.size]? = some (.deferred (some [])) := by
    rw [World.putObj_heap_other (by omega)]; exact hA.dfr
   generalize W2.putObj (V0.heap.size + 1) (.loop { rc with state := .exhausted }) = W3 at hg3 hD3 hend
   rw [hrp] at hend
   refine ⟨none, W3, hend, ?_⟩
   have hkeep : g'.ρ 1 = w.heap.size := (hg3.keep 1 (by simp)).1
   have hld : Loads Try.prog (Xacc (L.map xs)) 68 1 0 (resA (L.map xs)) := by
    cases L.map xs with
    | nil => exact .one [.d (.sc (.slice none 0 0))] none _ hI.sl rfl rfl
    | cons a l => exact .one [.nm 2000 (.s 0 (a :: l).length 1)] none _ hI.sl rfl rfl
   obtain ⟨u, hu, hru⟩ := hld.run hg3
   rw [hkeep] at hu
   show Code.wpIn _ _ _ _ _ _ W3
   refine wpIn_seq (wpIn_region_list ?_)
   rw [show op4.toList = [{ dst := some 12, op := .load 68 (.tmp 2), type := 68, pos := "iter.go:54", after := #[], guard := none }, { dst := some 4, op := .assign (.tmp 12), type := 68, pos := "iter.go:54", after := #[{ on := 0, ground := .data }, { on := 0, ground := .phase }], guard := none }] from rfl]
   refine Qi hF (v := u) (w' := W3) rfl (by simp) ?_ ?_
   ·have : ({ tmps := A2.tmps, defers := [{ target := .collected V0.heap.size, args := #[] }] ++ A2.defers } : Act).eval (.tmp 2) = .pointer (some ⟨w.heap.size, 0, none⟩) := d3
    simp only [execOp, this]
    simp [Instr.loadAt, Instr.sureAddr, asAddr, hu, Result.andThen]
   refine Qi hF (v := u) (w' := W3) rfl (by simp) ?_ ?_
   ·simp only [execOp]
    rw [Qo (by show 12 < A2.tmps.size; omega)]
    rfl
   refine wpListIn_nil ?_
   refine wpIn_ret ?_
   have e2 : ∀ (q : Act), q.tmps.size = 13 → (q.put (some 4) u).tmps.getD 4 undef = u := fun q hq => by simp [Act.put, Array.getD, hq]
   show LeavesInM _ _ _ _ _ _ _ _ _
   have hdf : (Act.put (Act.put ({ tmps := A2.tmps, defers := [{ target := .collected V0.heap.size, args := #[] }] ++ A2.defers } : Act) (some 12) u) (some 4) u).defers = [{ target := .collected V0.heap.size, args := #[] }] := by
    show [_] ++ A2.defers = _
    rw [d4]; rfl
   rw [show (Act.put (Act.put ({ tmps := A2.tmps, defers := [{ target := .collected V0.heap.size, args := #[] }] ++ A2.defers } : Act) (some 12) u) (some 4) u).defers = [{ target := .collected V0.heap.size, args := #[] }] from hdf]
   have hg4 : HR [1] { Base.of g w X0 with keep := fun _ => w.heap.size } g' (W3.putObj V0.heap.size (.deferred none)) (Xacc (L.map xs)) := Ql5 hg3 hD3 (by simp) (by simp [World.cell?, hD3]) (by simp [World.shape?, hD3]) (by rw [hB1]; omega) _
   refine ⟨by simp, .inl ⟨V0.heap.size, _, rfl, run_takeDeferred hD3, u, ?_, g', u, L, rfl, hL, Q12v (hg4.keepN (nm' := []) _ (by simp)), ?_⟩⟩
   ·have hres : ∀ (t : Array Value) (w : World), t.getD 4 undef = u → (results Try.f97 t).run Try.prog w = .ok u w := fun t w ht => by
     simp [results, Try.f97]
     simpa [Array.getD_eq_getD_getElem?] using ht
    exact hres _ _ (e2 _ (by rw [Q5]; exact d1))
   ·have ht : LeD g'.γ W3 g'.γ (W3.putObj V0.heap.size (.deferred none)) := by
     refine ⟨fun _ => Nat.le_refl _, fun b i hi => ?_, fun b s hs => ?_⟩
     ·by_cases hb : b = V0.heap.size
      ·subst hb
       have := hg3.sane _ _ hi
       simp [World.cell?, hD3] at this
      ·exact cell?_of_heap (World.putObj_heap_other hb) i none
     ·by_cases hb : b = V0.heap.size
      ·subst hb
       simp [World.shape?, hD3] at hs
      ·rw [shape?_of_heap (World.putObj_heap_other hb)]; exact hs
    cases hlm : L.map xs with
    | nil =>
     rw [hlm] at hru
     cases hru with
     | d _ _ h => exact .d _ _ (h.mono ht)
    | cons a l =>
     rw [hlm] at hru
     cases hru with
     | nm _ _ _ h => exact .nm _ _ _ (h.mono ht)
theorem Qtr (hI : SeqI) {g : Gh} {w : World} (h0 : HR [] (Base.of g w X0) g w X0) {Bm m : Nat} {es : Array MapEntry} {clock : Nat} {xs : MapEntry → UInt8} (hM : MapAt w Bm m es clock xs) :
  CallsIn Fence.wide 0 Try.prog 97 #[.slice none 0 0, .func (.func 73) #[] #[.pointer (some ⟨Bm, 0, none⟩)]] w (Qcv g w es xs) :=
 callsIn_of_wp_marks Try.func97 Q13k trivial (Qv8 hI h0 hM _ (by simp [Try.f97]) rfl (by simp [Act.eval, Try.f97, Array.getD]) (by simp [Act.eval, Try.f97, Array.getD])) rfl
end Go.Proofs.Xg
set_option linter.unusedVariables false
set_option linter.unusedSimpArgs false
set_option maxRecDepth 100000
namespace Go.Proofs.Xg
open Go Go.Ab Go.Xl Go.Proofs
noncomputable def cop (k : Nat) : Array Oper := match Try.f71.body, k with
 | some (.seq (.region _ ops _) _), 0 => ops
 | some (.seq _ (.seq (.region _ ops _) _)), 1 => ops
 | _, _ => #[]
theorem Q13j : Try.f71.body = some (.seq (.region 0 (cop 0) false) (.seq (.region 1 (cop 1) false) .ret)) := rfl
noncomputable def sop (k : Nat) : Array Oper := match Try.f40.body, k with
 | some (.seq (.region _ ops _) _), 0 => ops
 | some (.seq _ (.seq (.region _ ops _) _)), 1 => ops
 | some (.seq _ (.seq _ (.seq (.region _ ops _) _))), 2 => ops
 | some (.seq _ (.seq _ (.seq _ (.seq (.region _ ops _) _)))), 3 => ops
 | _, _ => #[]
theorem Q13h : Try.f40.body = some (.seq (.region 0 (sop 0) false) (.seq (.region 1 (sop 1) false) (.seq (.region 2 (sop 2) false) (.seq (.region 3 (sop 3) false) .ret)))) := rfl
section
variable {g : Gh} {w : World} {Bm m : Nat} {es : Array MapEntry} {clock : Nat} {xs : MapEntry → UInt8}
theorem Qox {fn : Func} {t : Tmp} {R : Ending → World → Prop} {A : Act} {V : World} {v : Value} (hf : fn.results = #[.tmp t]) (hd : A.defers = []) (he : A.eval (.tmp t) = v) (h : R (.returned v) V) : bodyPost Try.prog fn R .ret A V := by
 refine ⟨hd, v, ?_, h⟩
 have : A.tmps.getD t undef = v := he
 simp [results, hf]
 simpa [Array.getD_eq_getD_getElem?] using this
theorem Qr8 (hI : SeqI) (h0 : HR [] (Base.of g w X0) g w X0) (hM : MapAt w Bm m es clock xs) :
  CallsIn Fence.wide 0 Try.prog 71 #[.func (.func 73) #[] #[.pointer (some ⟨Bm, 0, none⟩)]] w (Qcv g w es xs) := by
 have hF : ∀ f, Fence.wide.fn f := fun _ => trivial
 refine callsIn_of_wp Try.func71 Q13j trivial ?_ rfl
 generalize hA : ({ tmps := #[.func (.func 73) #[] #[.pointer (some ⟨Bm, 0, none⟩)]] ++ Array.replicate (Try.f71.ntmps - (#[Value.func (.func 73) #[] #[.pointer (some ⟨Bm, 0, none⟩)]] : Array Value).size) undef, defers := [] } : Act) = A
 have a1 : A.tmps.size = 5 := by rw [← hA]; simp [Try.f71]
 have a2 : A.defers = [] := by rw [← hA]
 have a3 : A.eval (.tmp 0) = .func (.func 73) #[] #[.pointer (some ⟨Bm, 0, none⟩)] := by rw [← hA]; simp [Act.eval, Try.f71, Array.getD]
 clear hA
 refine wpIn_seq (wpIn_region_list ?_)
 refine Qi hF (v := .slice none 0 0) (w' := w) rfl (by simp) rfl (wpListIn_nil ?_)
 refine wpIn_seq (wpIn_region_list ?_)
 refine Qi hF (v := .func (.func 73) #[] #[.pointer (some ⟨Bm, 0, none⟩)]) (w' := w) rfl (by simp) ?_ ?_
 ·simp only [execOp]
  rw [Qd (by decide), a3]
  rfl
 refine Qiv hF rfl rfl rfl (Qeh rfl (.mk' Try.func97 rfl (by decide))) (R := Qcv g w es xs) ?_ ?_
 ·have := Qtr hI h0 hM
  simp only [List.map_toArray, List.map_cons, List.map_nil]
  rw [Qo (by rw [Q5]; omega)]
  exact this
 rintro r w' ⟨g', v, L, rfl, h1, h2, h3⟩
 refine ⟨v, rfl, ?_⟩
 refine Qi hF (v := v) (w' := w') rfl (by simp) ?_ (wpListIn_nil (wpIn_ret ?_))
 ·simp only [execOp]
  rw [Qo (by rw [Q5, Q5]; omega)]
  rfl
 ·exact Qox rfl a2 (Qo (by rw [Q5, Q5, Q5]; omega)) ⟨g', v, L, rfl, h1, h2, h3⟩
structure SortI (S : List UInt8 → List UInt8) : Prop where
 sorts : ∀ l, l ≠ [] → l.length ≤ 1000000000000 → Does Try.prog 72 [.nm 1 (.s 0 l.length 1)] (O1 .u8 l) (.tup []) (O1 .u8 (S l))
 nil : Does Try.prog 72 [.d (.sl 1 [])] X0 (.tup []) X0
 len : ∀ l, (S l).length = l.length
 perm : ∀ l l' : List UInt8, l.Perm l' → S l = S l'
abbrev Quq (S : List UInt8 → List UInt8) (g : Gh) (w : World) (es : Array MapEntry) (xs : MapEntry → UInt8) : Ending → World → Prop := fun r w' =>
 ∃ g' v, r = .returned v ∧ HR [] (Base.of g w X0) g' w' X0 ∧ RA g' w' (.d (.sl 1 ((S (es.toList.map xs)).map (Ty.ds .u8)))) v
theorem Qyr {S : List UInt8 → List UInt8} (hS : SortI S) {B : Base} {g1 : Gh} {w1 : World} {l : List UInt8} (hl : l.length ≤ 1000000000000) (h1 : HR [] B g1 w1 (Xres l)) {u : Value} (hu : RA g1 w1 (resA l) u) :
  Calls Try.prog 72 #[u] w1 fun r w' => ∃ v, r = .returned v ∧ ∃ g', HR [] B g' w' X0 ∧ RA g' w' (.d (.sl 1 ((S l).map (Ty.ds .u8)))) u := by
 cases l with
 | nil =>
  have hnil : S [] = [] := List.eq_nil_of_length_eq_zero (hS.len [])
  have hr := h1.rebase rfl
  have hu' : u = .slice none 0 0 := by
   cases hu with
   | d _ _ h => cases h; rfl
  subst hu'
  refine (hS.nil g1 w1 #[.slice none 0 0] hr rfl ?_).mono ?_
  ·intro i x v hx hv
   cases i with
   | zero => simp at hx hv; subst hx; subst hv; exact .d _ _ (.nil 1 none 0 fun _ => rfl)
   | succ i => simp at hx
  ·rintro r w' ⟨g', v, rfl, _, h3⟩
   refine ⟨v, rfl, g', h1.comp h3 rfl rfl, ?_⟩
   rw [hnil]
   exact .d _ _ (.nil 1 none 0 fun _ => rfl)
 | cons a l =>
  obtain ⟨r1, r2⟩ := h1.renameObj (k := 2000) (m := 1) (o := (XOb.arr .u8 (a :: l)).o) (by simp) (by simp) (Q7i rfl) rfl (by decide)
  generalize hgg : ({ g1 with ρ := upd g1.ρ 1 (g1.ρ 2000) } : Gh) = g2 at r1 r2
  have hρ : g2.ρ 1 = g1.ρ 2000 := by rw [← hgg]; exact upd_same g1.ρ 1 _
  have r3 : HR [] B g2 w1 (O1 .u8 (a :: l)) := r1.alike ⟨fun k => by rfl, rfl⟩
  have r4 := (r3.keepN (nm' := [1]) (fun _ => g2.ρ 1) (fun k hk => by simp at hk; subst hk; exact ⟨rfl, rfl⟩))
  have hr := r4.rebase rfl
  have hu' : RA g2 w1 (.nm 1 (.s 0 (a :: l).length 1)) u := by
   cases hu with
   | nm _ _ _ h =>
    refine .nm _ _ _ ?_
    rw [hρ]; exact h
  refine (hS.sorts (a :: l) (by simp) hl g2 w1 #[u] hr rfl ?_).mono ?_
  ·intro i x v hx hv
   cases i with
   | zero => simp at hx hv; subst hx; subst hv; exact hu'
   | succ i => simp at hx
  ·rintro r w' ⟨g', v, rfl, _, h3⟩
   refine ⟨v, rfl, ?_⟩
   have hk := (h3.keep 1 (by simp [O1])).1
   have hu3 : RA g' w' (.osl 1 (0 * 1) (a :: l).length 1) u := by
    cases hu' with
    | nm _ _ _ h =>
     refine .nm _ _ _ ?_
     rw [hk]
     exact h.mono h3.le
   have h4 := (r4.comp h3 rfl rfl).keepN (nm' := []) (fun _ => 0) (by simp)
   have h4' : HR [] B g' w' (O1 .u8 (S (a :: l))) := ⟨fun k hk => (by cases hk), h4.sane, h4.base, h4.io, h4.le, h4.frame, h4.objs, h4.objγ, h4.objinj, h4.objnew, h4.live, h4.tipinj, h4.tipobj, h4.tipnew, h4.tiplt, h4.eta.base rfl fun _ h => h⟩
   obtain ⟨f1, f2, f3⟩ := h4'.freeze (k := 1) (sz := 1) (es := (S (a :: l)).map (Ty.ds .u8)) (ty := none) (by simp) rfl (by
    intro i cs hi
    rw [List.getElem?_map, Option.map_eq_some_iff] at hi
    obtain ⟨x, _, rfl⟩ := hi
    rfl)
   refine ⟨_, f1.alike ⟨fun k => by rfl, rfl⟩, ?_⟩
   have := f3 0 (a :: l).length u (by simp [hS.len]) hu3
   rw [List.drop_zero, List.take_of_length_le (by simp [hS.len])] at this
   exact this
theorem Qsv {S : List UInt8 → List UInt8} (hS : SortI S) (hI : SeqI) (h0 : HR [] (Base.of g w X0) g w X0) (hM : MapAt w Bm m es clock xs) :
  CallsIn Fence.wide 0 Try.prog 40 #[.func (.func 73) #[] #[.pointer (some ⟨Bm, 0, none⟩)]] w (Quq S g w es xs) := by
 have hF : ∀ f, Fence.wide.fn f := fun _ => trivial
 refine callsIn_of_wp Try.func40 Q13h trivial ?_ rfl
 generalize hA : ({ tmps := #[.func (.func 73) #[] #[.pointer (some ⟨Bm, 0, none⟩)]] ++ Array.replicate (Try.f40.ntmps - (#[Value.func (.func 73) #[] #[.pointer (some ⟨Bm, 0, none⟩)]] : Array Value).size) undef, defers := [] } : Act) = A
 have a1 : A.tmps.size = 9 := by rw [← hA]; simp [Try.f40]
 have a2 : A.defers = [] := by rw [← hA]
 have a3 : A.eval (.tmp 0) = .func (.func 73) #[] #[.pointer (some ⟨Bm, 0, none⟩)] := by rw [← hA]; simp [Act.eval, Try.f40, Array.getD]
 clear hA
 refine wpIn_seq (wpIn_region_list ?_)
 refine Qi hF (v := .slice none 0 0) (w' := w) rfl (by simp) rfl (wpListIn_nil ?_)
 refine wpIn_seq (wpIn_region_list ?_)
 refine Qi hF (v := .func (.func 73) #[] #[.pointer (some ⟨Bm, 0, none⟩)]) (w' := w) rfl (by simp) ?_ ?_
 ·simp only [execOp]
  rw [Qd (by decide), a3]
  rfl
 refine Qiv hF rfl rfl rfl (Qeh rfl (.mk' Try.func71 rfl (by decide))) (R := Qcv g w es xs) ?_ ?_
 ·have := Qr8 hI h0 hM
  simp only [List.map_toArray, List.map_cons, List.map_nil]
  rw [Qo (by rw [Q5]; omega)]
  exact this
 rintro r w1 ⟨g1, u, L, rfl, h1, h2, h3⟩
 refine ⟨u, rfl, ?_⟩
 refine Qi hF (v := u) (w' := w1) rfl (by simp) ?_ (wpListIn_nil ?_)
 ·simp only [execOp]
  rw [Qo (by rw [Q5, Q5]; omega)]
  rfl
 refine wpIn_seq (wpIn_region_list ?_)
 have b1 : ∀ x y z v, (Act.put (Act.put (Act.put (Act.put A (some 2) x) (some 4) y) (some 5) z) (some 3) v).eval (.tmp 3) = v := fun x y z v => Qo (by rw [Q5, Q5, Q5]; omega)
 have b2 : ∀ x y z v, (Act.put (Act.put (Act.put (Act.put A (some 2) x) (some 4) y) (some 5) z) (some 3) v).tmps.size = 9 := fun x y z v => by rw [Q5, Q5, Q5, Q5, a1]
 have b3 : (Act.put (Act.put (Act.put (Act.put A (some 2) (.slice none 0 0)) (some 4) (.func (.func 73) #[] #[.pointer (some ⟨Bm, 0, none⟩)])) (some 5) u) (some 3) u).defers = [] := a2
 show wpListIn _ _ _ _ _ _ (Act.put (Act.put (Act.put (Act.put A (some 2) (.slice none 0 0)) (some 4) (.func (.func 73) #[] #[.pointer (some ⟨Bm, 0, none⟩)])) (some 5) u) (some 3) u) _
 generalize hA3 : Act.put (Act.put (Act.put (Act.put A (some 2) (.slice none 0 0)) (some 4) (.func (.func 73) #[] #[.pointer (some ⟨Bm, 0, none⟩)])) (some 5) u) (some 3) u = A3 at b3 ⊢
 have c1 : A3.eval (.tmp 3) = u := by rw [← hA3]; exact b1 _ _ _ _
 have c2 : A3.tmps.size = 9 := by rw [← hA3]; exact b2 _ _ _ _
 clear hA3 b1 b2
 refine Qi hF (v := u) (w' := w1) rfl (by simp) (by simp only [execOp, c1]; rfl) ?_
 have hlen : (L.map xs).length ≤ 1000000000000 := by
  have := h1.length_eq
  have h5 := hM.size
  simp only [Array.length_toList] at this
  rw [List.length_map]; omega
 refine Qiv hF rfl rfl rfl (Qeh rfl (.mk' Try.func72 rfl (by decide))) (R := fun r w' => ∃ v, r = .returned v ∧ ∃ g', HR [] (Base.of g w X0) g' w' X0 ∧ RA g' w' (.d (.sl 1 ((S (L.map xs)).map (Ty.ds .u8)))) u) ?_ ?_
 ·have := (callsIn_wide (n := 0)).2 (Qyr hS hlen h2 h3)
  simp only [List.map_toArray, List.map_cons, List.map_nil]
  rw [Qo (by omega)]
  exact this
 rintro r w2 ⟨v, rfl, g', h4, h5⟩
 refine ⟨v, rfl, wpListIn_nil ?_⟩
 refine wpIn_seq (wpIn_region_list ?_)
 refine Qi hF (v := u) (w' := w2) rfl (by simp) ?_ ?_
 ·simp only [execOp]
  rw [Qd (by decide), Qd (by decide), c1]
  rfl
 refine Qi hF (v := u) (w' := w2) rfl (by simp) ?_ (wpListIn_nil (wpIn_ret ?_))
 ·simp only [execOp]
  rw [Qo (by rw [Q5, Q5]; omega)]
  rfl
 ·refine Qox rfl b3 (Qo (by rw [Q5, Q5, Q5]; omega)) ⟨g', u, rfl, h4, ?_⟩
  rw [hS.perm _ _ (h1.map xs)] at h5
  exact h5
end
end Go.Proofs.Xg
set_option linter.unusedVariables false
set_option maxRecDepth 100000
namespace Go.Proofs.Xu
open Go Go.Xl Go.Ab Go.Proofs
theorem mixed : Try.prog.follows .mixedOrders = true := by kernel_rfl
noncomputable def Qdi (N : Nat) : Fun [(.int .u32)] (Option (ResT [(.int .i64)])) := fun (x : Int) => Ql (fun (z : (Int × Int × Unit) × Unit × Unit × Unit) => Ql (fun (z : (Int × Int × Unit) × Unit
 × Unit × Unit) => [0, 1, 2, 2, 3, 3, 3, 3, 4, 4, 4, 4, 4, 4, 4, 4, 5, 5, 5, 5, 5, 5, 5, 5, 5, 5, 5, 5, 5, 5, 5, 5, 6, 6, 6, 6, 6, 6, 6, 6, 6, 6, 6, 6, 6, 6, 6, 6, 6, 6, 6, 6, 6, 6, 6, 6, 6, 6, 6, 6, 6, 6, 6, 6, 7, 7, 7,
 7, 7, 7, 7, 7, 7, 7, 7, 7, 7, 7, 7, 7, 7, 7, 7, 7, 7, 7, 7, 7, 7, 7, 7, 7, 7, 7, 7, 7, 7, 7, 7, 7, 7, 7, 7, 7, 7, 7, 7, 7, 7, 7, 7, 7, 7, 7, 7, 7, 7, 7, 7, 7, 7, 7, 7, 7, 7, 7, 7, 7, 8, 8, 8, 8, 8, 8, 8, 8, 8, 8, 8, 8,
 8, 8, 8, 8, 8, 8, 8, 8, 8, 8, 8, 8, 8, 8, 8, 8, 8, 8, 8, 8, 8, 8, 8, 8, 8, 8, 8, 8, 8, 8, 8, 8, 8, 8, 8, 8, 8, 8, 8, 8, 8, 8, 8, 8, 8, 8, 8, 8, 8, 8, 8, 8, 8, 8, 8, 8, 8, 8, 8, 8, 8, 8, 8, 8, 8, 8, 8, 8, 8, 8, 8, 8, 8,
 8, 8, 8, 8, 8, 8, 8, 8, 8, 8, 8, 8, 8, 8, 8, 8, 8, 8, 8, 8, 8, 8, 8, 8, 8, 8, 8, 8, 8, 8, 8, 8, 8, 8, 8, 8, 8, 8, 8, 8, 8, 8, 8][(toU8 (IntKind.u8.wrap z.1.1)).toNat]?.bind fun (c : UInt8) => some (IntKind.i64.wrap
 (z.1.2.1 + (↑c.toNat : Int)))) fun (k : (Int × Int × Unit) × Unit × Unit × Unit → Option Int) => bif decide (256 ≤ z.1.1) then k ((z.1.1.fdiv 256, IntKind.i64.wrap (z.1.2.1 + 8), ()), (), (), ())
 else k ((z.1.1, z.1.2.1, ()), (), (), ())) fun (k : (Int × Int × Unit) × Unit × Unit × Unit → Option Int) => bif decide (65536 ≤ x) then k ((x.fdiv 65536, 16, ()), (), (), ()) else k ((x, 0, ()), (), (), ())
theorem Qla (N : Nat) : runF Try.prog [] [] N Try.f116 (.seq .lf (.join ⟨[(0, .d (.int .u32)), (2, .d (.int .i64))], [], [], [], [], []⟩ .lf (.join ⟨[(0, .d (.int .u32)), (2, .d (.int .i64))], [], [], [], [], []⟩ .lf .lf))) [(.int .u32)] [(.int .i64)] = Qdi N := by kernel_rfl
noncomputable def Qld (N : Nat) : Ent Try.prog := mkFn 116 Try.f116 _ [(.int .u32)] [(.int .i64)] (Qdi N) mixed Try.func116 (.mk' Try.func116 rfl (by decide)) rfl (Qla N)
noncomputable def Q54 (N : Nat) : Fun [(.int .u64)] (Option (ResT [(.int .i64)])) := fun (x : Int) => Ql (fun (z : (Int × Int × Unit) × Unit × Unit × Unit) => Ql (fun (z : (Int × Int × Unit) × Unit
 × Unit × Unit) => Ql (fun (z : (Int × Int × Unit) × Unit × Unit × Unit) => [0, 1, 2, 2, 3, 3, 3, 3, 4, 4, 4, 4, 4, 4, 4, 4, 5, 5, 5, 5, 5, 5, 5, 5, 5, 5, 5, 5, 5, 5, 5, 5, 6, 6, 6, 6, 6, 6, 6, 6, 6, 6, 6, 6, 6, 6,
 6, 6, 6, 6, 6, 6, 6, 6, 6, 6, 6, 6, 6, 6, 6, 6, 6, 6, 7, 7, 7, 7, 7, 7, 7, 7, 7, 7, 7, 7, 7, 7, 7, 7, 7, 7, 7, 7, 7, 7, 7, 7, 7, 7, 7, 7, 7, 7, 7, 7, 7, 7, 7, 7, 7, 7, 7, 7, 7, 7, 7, 7, 7, 7, 7, 7, 7, 7, 7, 7, 7, 7, 7,
 7, 7, 7, 7, 7, 7, 7, 7, 7, 8, 8, 8, 8, 8, 8, 8, 8, 8, 8, 8, 8, 8, 8, 8, 8, 8, 8, 8, 8, 8, 8, 8, 8, 8, 8, 8, 8, 8, 8, 8, 8, 8, 8, 8, 8, 8, 8, 8, 8, 8, 8, 8, 8, 8, 8, 8, 8, 8, 8, 8, 8, 8, 8, 8, 8, 8, 8, 8, 8, 8, 8, 8, 8,
 8, 8, 8, 8, 8, 8, 8, 8, 8, 8, 8, 8, 8, 8, 8, 8, 8, 8, 8, 8, 8, 8, 8, 8, 8, 8, 8, 8, 8, 8, 8, 8, 8, 8, 8, 8, 8, 8, 8, 8, 8, 8, 8, 8, 8, 8, 8, 8, 8, 8, 8, 8, 8, 8, 8, 8, 8, 8, 8, 8, 8, 8, 8, 8][(toU8 (IntKind.u8.wrap
 z.1.1)).toNat]?.bind fun (c : UInt8) => some (IntKind.i64.wrap (z.1.2.1 + (↑c.toNat : Int)))) fun (k : (Int × Int × Unit) × Unit × Unit × Unit → Option Int) => bif decide (256 ≤ z.1.1) then k
 ((z.1.1.fdiv 256, IntKind.i64.wrap (z.1.2.1 + 8), ()), (), (), ()) else k ((z.1.1, z.1.2.1, ()), (), (), ())) fun (k : (Int × Int × Unit) × Unit × Unit × Unit → Option Int) => bif decide (65536 ≤
 z.1.1) then k ((z.1.1.fdiv 65536, IntKind.i64.wrap (z.1.2.1 + 16), ()), (), (), ()) else k ((z.1.1, z.1.2.1, ()), (), (), ())) fun (k : (Int × Int × Unit) × Unit × Unit × Unit → Option Int) =>
 bif decide (4294967296 ≤ x) then k ((x.fdiv 4294967296, 32, ()), (), (), ()) else k ((x, 0, ()), (), (), ())
theorem Qlj (N : Nat) : runF Try.prog [] [] N Try.f117 (.seq .lf (.join ⟨[(0, .d (.int .u64)), (2, .d (.int .i64))], [], [], [], [], []⟩ .lf (.join ⟨[(0, .d (.int .u64)), (2, .d (.int .i64))], [], [], [], [], []⟩ .lf (.join ⟨[(0, .d (.int .u64)), (2, .d (.int .i64))], [], [], [], [], []⟩ .lf .lf)))) [(.int .u64)] [(.int .i64)] = Q54 N := by kernel_rfl
noncomputable def Ql9 (N : Nat) : Ent Try.prog := mkFn 117 Try.f117 _ [(.int .u64)] [(.int .i64)] (Q54 N) mixed Try.func117 (.mk' Try.func117 rfl (by decide)) rfl (Qlj N)
noncomputable def F_math_bits_Len (N : Nat) : Fun [(.int .u64)] (Option (ResT [(.int .i64)])) := fun (x : Int) => Option.bind (Q54 N x) fun (y : Int) => some y
theorem Qom (N : Nat) : runF Try.prog [Qld N, Ql9 N] [] N Try.f82 .lf [(.int .u64)] [(.int .i64)] = F_math_bits_Len N := by kernel_rfl
noncomputable def e_math_bits_Len (N : Nat) : Ent Try.prog := mkFn 82 Try.f82 _ [(.int .u64)] [(.int .i64)] (F_math_bits_Len N) mixed Try.func82 (.mk' Try.func82 rfl (by decide)) rfl (Qom N)
noncomputable def Q29 (N : Nat) : Fun [(.int .i64)] (Option (ResT [(.int .u64)])) := fun (x : Int) => Option.bind (F_math_bits_Len N (IntKind.u64.wrap x)) fun (y : Int) => bif decide (0 ≤ y) then some
 (IntKind.u64.wrap (1 * 2 ^ min y.toNat 64)) else none
theorem Qf3 (N : Nat) : runF Try.prog [e_math_bits_Len N] [] N Try.f141 .lf [(.int .i64)] [(.int .u64)] = Q29 N := by kernel_rfl
noncomputable def Q64 (N : Nat) : Ent Try.prog := mkFn 141 Try.f141 _ [(.int .i64)] [(.int .u64)] (Q29 N) mixed Try.func141 (.mk' Try.func141 rfl (by decide)) rfl (Qf3 N)
@[reducible] def Q40 : CSp := ⟨[.p 1 0], [(1, [.d (.int .u64)], some 163)], [], ⟨[(2, .d (.int .u64))], [(1, [.d (.int .u64)], some 163)], [], [], [], []⟩⟩
noncomputable def Q41 (N : Nat) : CSp.Fun Q40 (Option Q40.out.T) := fun (y : Int) => some ((bits BinOp.xor IntKind.u64 (bits BinOp.xor IntKind.u64 (bits BinOp.xor
 IntKind.u64 y (IntKind.u64.wrap (y * 8192))) ((bits BinOp.xor IntKind.u64 y (IntKind.u64.wrap (y * 8192))).fdiv 128)) (IntKind.u64.wrap (bits BinOp.xor IntKind.u64 (bits BinOp.xor IntKind.u64 y (IntKind.u64.wrap (y *
 8192))) ((bits BinOp.xor IntKind.u64 y (IntKind.u64.wrap (y * 8192))).fdiv 128) * 131072)), ()), ((bits BinOp.xor IntKind.u64 (bits BinOp.xor IntKind.u64 (bits BinOp.xor IntKind.u64 y (IntKind.u64.wrap (y * 8192)))
 ((bits BinOp.xor IntKind.u64 y (IntKind.u64.wrap (y * 8192))).fdiv 128)) (IntKind.u64.wrap (bits BinOp.xor IntKind.u64 (bits BinOp.xor IntKind.u64 y (IntKind.u64.wrap (y * 8192))) ((bits BinOp.xor IntKind.u64 y
 (IntKind.u64.wrap (y * 8192))).fdiv 128) * 131072)), ()), ()), (), ())
theorem Qfz (N : Nat) : runC Try.prog [] [] N Try.f142 .lf Q40 = Q41 N := by kernel_rfl
noncomputable def Q6v (N : Nat) : Ent Try.prog := mkC 142 Try.f142 _ Q40 (Q41 N) mixed Try.func142 (.mk' Try.func142 rfl (by decide)) rfl rfl rfl (Qfz N)
noncomputable def Qs (N : Nat) : Fun [(.int .u64)] (Option (ResT [.bool])) := fun (x : Int) => some (x != x)
theorem Q8q (N : Nat) : runF Try.prog [] [] N Try.f121 .lf [(.int .u64)] [.bool] = Qs N := by kernel_rfl
noncomputable def Q97 (N : Nat) : Ent Try.prog := mkFn 121 Try.f121 _ [(.int .u64)] [.bool] (Qs N) mixed Try.func121 (.mk' Try.func121 rfl (by decide)) rfl (Q8q N)
noncomputable def Q3a (N : Nat) : Fun [(.int .u64), (.int .u64)] (Option (ResT [.bool])) := fun (x x_1 : Int) => Option.bind (Qs N x) fun (y : Bool) => bif y then Option.bind
 (Qs N x_1) fun (y : Bool) => bif !y then some true else some (decide (x < x_1)) else some (decide (x < x_1))
theorem Qlf (N : Nat) : runF Try.prog [Q97 N] [] N Try.f113 .lf [(.int .u64), (.int .u64)] [.bool] = Q3a N := by kernel_rfl
noncomputable def Q1d (N : Nat) : Ent Try.prog := mkFn 113 Try.f113 _ [(.int .u64), (.int .u64)] [.bool] (Q3a N) mixed Try.func113 (.mk' Try.func113 rfl (by decide)) rfl (Qlf N)
noncomputable def Q58 (N : Nat) : Fun [.u8] (Option (ResT [.bool])) := fun (x : UInt8) => some (x != x)
theorem Qli (N : Nat) : runF Try.prog [] [] N Try.f161 .lf [.u8] [.bool] = Q58 N := by kernel_rfl
noncomputable def Qlh (N : Nat) : Ent Try.prog := mkFn 161 Try.f161 _ [.u8] [.bool] (Q58 N) mixed Try.func161 (.mk' Try.func161 rfl (by decide)) rfl (Qli N)
noncomputable def Q3m (N : Nat) : Fun [.u8, .u8] (Option (ResT [.bool])) := fun (x x_1 : UInt8) => Option.bind (Q58 N x) fun (y : Bool) => bif y then Option.bind (Q58 N x_1) fun
 (y : Bool) => bif !y then some true else some (decide (x < x_1)) else some (decide (x < x_1))
theorem Qn2 (N : Nat) : runF Try.prog [Qlh N] [] N Try.f136 .lf [.u8, .u8] [.bool] = Q3m N := by kernel_rfl
noncomputable def Q1m (N : Nat) : Ent Try.prog := mkFn 136 Try.f136 _ [.u8, .u8] [.bool] (Q3m N) mixed Try.func136 (.mk' Try.func136 rfl (by decide)) rfl (Qn2 N)
noncomputable def Q4i (N : Nat) : Fun [.str] (Option (ResT [.bool])) := fun (x : List UInt8) => some (x != x)
theorem Qju (N : Nat) : runF Try.prog [] [] N Try.f183 .lf [.str] [.bool] = Q4i N := by kernel_rfl
noncomputable def Qjk (N : Nat) : Ent Try.prog := mkFn 183 Try.f183 _ [.str] [.bool] (Q4i N) mixed Try.func183 (.mk' Try.func183 rfl (by decide)) rfl (Qju N)
noncomputable def Q3b (N : Nat) : Fun [.str, .str] (Option (ResT [.bool])) := fun (x x_1 : List UInt8) => Option.bind (Q4i N x) fun (y : Bool) => bif y then Option.bind (Q4i N
 x_1) fun (y : Bool) => bif !y then some true else some (Op.bytesLess x x_1) else some (Op.bytesLess x x_1)
theorem Qlc (N : Nat) : runF Try.prog [Qjk N] [] N Try.f168 .lf [.str, .str] [.bool] = Q3b N := by kernel_rfl
noncomputable def Q1f (N : Nat) : Ent Try.prog := mkFn 168 Try.f168 _ [.str, .str] [.bool] (Q3b N) mixed Try.func168 (.mk' Try.func168 rfl (by decide)) rfl (Qlc N)
end Go.Proofs.Xu
