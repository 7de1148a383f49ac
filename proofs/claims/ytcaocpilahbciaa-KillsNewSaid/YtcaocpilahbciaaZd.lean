import Derived.Test.YtcaocpilahbciaaZc
import Derived.Test.YtcaocpilahbciaaZb
import Derived.Below
import Derived.ProofKit
import Derived.Sort.Grow
import Derived.Shelf.GgSortFunc.InsertionK
import Derived.Test.YtcaocpilahbciaaProg
import Derived.KernelRfl
import Derived.Shelf.SlSortCmp.NoneTotal
import Derived.Shelf.SlGeneric
import Derived.Ground.SlsfProg
import Derived.IntWalk
/-
  Functions that hand back a new slice, which owns its block.
-/
set_option linter.unusedVariables false
set_option linter.unusedSimpArgs false
set_option linter.unnecessarySimpa false
namespace Go.Xl
open Go.Ab

/-- at a function's end: no element (none), or a slice that owns its block -/
def finN (P : Program) (fn : Func) (t : Ty) (s : XSt) : Option (Option (List t.T × Nat)) :=
  match xres P s fn.results.toList with
  | some [.os k t' a n] => match lk k s.objs with
    | some (.arr u l) => if h : u.eqb t = true then cond (t'.eqb t) (cond (Nat.beq a 0) (cond (Nat.ble 1000 k) (some (some ((Ty.eqb_eq h ▸ l : List t.T), n))) none) none) none else none
    | _ => none
  | some [x] => match decXV (.sl t) x with
    | some [] => some none
    | _ => none
  | _ => none

def finishN (P : Program) (fn : Func) (t : Ty) : Exit → XSt → Option (Option (List t.T × Nat))
  | .ret, s => finN P fn t s
  | .normal, s => finN P fn t s
  | _, _ => none

def runBN (P : Program) (Γ : List (Ent P)) (own : List Nat) (N : Nat) (fn : Func) (an : An) (t : Ty) (xs : List XV) : Option (Option (List t.T × Nat)) :=
  match fn.body with
  | some c => exec P Γ own [] fn.ntmps N c an ⟨envX 0 xs, [], [], [], []⟩ (finishN P fn t)
  | none => none

/-- what is said of the result -/
def NewS (P : Program) (f : FuncId) (t : Ty) (y : Option (List t.T × Nat)) (xs : List XV) : Prop :=
  match y with
  | none => Does P f (asOf xs) X0 (.d (.sl t.size [])) X0
  | some z => Does P f (asOf xs) X0 (.osl 1 0 z.2 t.size) (O1 t z.1)

/-- a body that ends well -/
theorem does_of_fin {P : Program} {R : Type} {f : FuncId} {fn : Func} {c : Code} {nm : List Nat} {hsm : ∀ j ∈ nm, j < 1000} {xs : List XV} {objs : List (Nat × XOb)} {s0 : XSt} {K : Exit → XSt → Option R} {r : R} {res : AV} {X' : Store}
    (hf : P.funcs[f]? = some fn) (hc : fn.body = some c) (hn : xs.length ≤ fn.ntmps) (hnm : (imObjs objs).map (·.1) = nm) (hs : AWp P ⟨fn.ntmps, nm, hsm⟩ c (PostE s0 K r) (XSt.im ⟨envX 0 xs, objs, [], [], []⟩))
    (hend : ∀ e st', K e st' = some r → e = .ret ∨ e = .normal)
    (fin : ∀ B e st' a' w' g', K e st' = some r → SR ⟨fn.ntmps, nm, hsm⟩ B g' w' st'.im a' → ∃ v g'', (results fn a'.tmps).run P w' = .ok v w' ∧ RA g'' w' res v ∧ HR nm B g'' w' X') :
    Does P f (asOf xs) ⟨imObjs objs, []⟩ res X' := by
  subst hnm
  intro g w vs hr hl ha
  refine calls_of_wp hf hc (wp_mono (hs (Base.of g w ⟨imObjs objs, []⟩) g w _ ?_) ?_)
  · refine ⟨rfl, ?_, hr, ?_⟩
    · rw [asOf_length] at hl
      simp; omega
    · intro t x hx
      have hx' : (envOf 0 (asOf xs)).lookup t = some x := by rw [← envX_im]; exact hx
      obtain ⟨_, hx'⟩ := envOf_lookup hx'
      rw [Nat.sub_zero] at hx'
      have hlt : t < vs.size := by have := (List.getElem?_eq_some_iff.1 hx').1; omega
      refine ⟨vs[t], ?_, ha t x _ hx' (by simp [hlt])⟩
      simp [Array.getElem?_append, hlt]
  · rintro e a' w' ⟨s, g', ⟨st', rfl, hi, hk⟩, hs'⟩
    obtain ⟨v, g'', h1, h2, h3⟩ := fin _ e st' a' w' g' hk hs'
    have key : a'.defers = [] ∧ ∃ v, (results fn a'.tmps).run P w' = .ok v w' ∧ ∃ g' v_1, Ending.returned v = Ending.returned v_1 ∧ RA g' w' res v_1 ∧ HR ((imObjs objs).map (·.1)) (Base.of g w ⟨imObjs objs, []⟩) g' w' X' :=
      ⟨hs'.defers, v, h1, g'', v, rfl, h2, h3⟩
    rcases hend e st' hk with rfl | rfl
    · exact key
    · exact key

theorem runBN_sound {P : Program} {Γ : List (Ent P)} {own : List Nat} {N : Nat} {f : FuncId} {fn : Func} {an : An} {t : Ty} {xs : List XV} {y : Option (List t.T × Nat)} (hm : P.follows .mixedOrders = true) (hf : P.funcs[f]? = some fn)
    (hn : Nat.ble xs.length fn.ntmps = true) (h : runBN P Γ own N fn an t xs = some y) : NewS P f t y xs := by
  unfold runBN at h
  split at h
  · rename_i c hc
    have hs := exec_sound (S := ⟨fn.ntmps, [], by simp⟩) hm rfl c an _ _ _ _ (.refl _) h
    have hend : ∀ e st', finishN P fn t e st' = some y → e = .ret ∨ e = .normal := by
      intro e st' hk
      cases e <;> simp_all [finishN]
    have hkey : ∀ e st', finishN P fn t e st' = some y → finN P fn t st' = some y := by
      intro e st' hk
      cases e <;> simp_all [finishN]
    cases y with
    | none =>
      refine does_of_fin (objs := []) (hsm := by simp [imObjs]) hf hc (Nat.le_of_ble_eq_true hn) rfl hs hend fun B e st' a' w' g' hk hs' => ?_
      have h := hkey e st' hk
      unfold finN at h
      split at h
      · split at h
        · split at h
          · rename_i k t' a n _ _ _ _ _ _
            cases h2 : t'.eqb t <;> cases h3 : Nat.beq a 0 <;> cases h4 : Nat.ble 1000 k <;> simp [h2, h3, h4] at h
          · cases h
        · cases h
      · rename_i x _ hx
        split at h
        · rename_i hd
          obtain ⟨v, hv, hra⟩ := run_results (xres_ok hx) hs'
          have hw : Weak [] st'.im ⟨[], X0⟩ := ⟨by simp, by simp [X0], by simp [X0], by simp⟩
          obtain ⟨g'', ht, hs''⟩ := hs'.weaken' hw
          have hra' := hra.mono ht (.nil _)
          exact ⟨v, g'', hv, decXV_le hd g'' w' v hra', hs''.hr⟩
        · cases h
      · cases h
    | some z =>
      refine does_of_fin (objs := []) (hsm := by simp [imObjs]) hf hc (Nat.le_of_ble_eq_true hn) rfl hs hend fun B e st' a' w' g' hk hs' => ?_
      have h := hkey e st' hk
      unfold finN at h
      split at h
      · rename_i k t' a n hx
        split at h
        · rename_i u l hkl
          split at h
          · rename_i hu
            have := Ty.eqb_eq hu
            subst this
            cases h2 : t'.eqb u with
            | false => simp [h2] at h
            | true =>
            cases h3 : Nat.beq a 0 with
            | false => simp [h2, h3] at h
            | true =>
            cases h4 : Nat.ble 1000 k with
            | false => simp [h2, h3, h4] at h
            | true =>
              simp only [h2, h3, h4, cond_true, Option.some.injEq] at h
              subst h
              have e1 := Ty.eqb_eq h2
              have e2 := Nat.eq_of_beq_eq_true h3
              have e3 := Nat.le_of_ble_eq_true h4
              subst e1; subst e2
              obtain ⟨v, hv, hra⟩ := run_results (xres_ok hx) hs'
              have hw : Weak [] st'.im ⟨[], ⟨[(k, (XOb.arr t' l).o)], []⟩⟩ := ⟨by simp, by
                intro p hp
                simp only [List.mem_singleton] at hp
                subst hp
                exact lk_imA hkl, by simp, by simp⟩
              obtain ⟨g'', ht, hs''⟩ := hs'.weaken' hw
              have hra' := hra.mono ht (.nil _)
              obtain ⟨hr2, ht2⟩ := hs''.hr.renameObj (k := k) (m := 1) (o := (XOb.arr t' l).o) (by simp [imObjs]) (by simp [imObjs]) (by
                have := arr_free [1] t' l
                simp [objsFree, this]) (by simp) (by omega)
              refine ⟨v, _, hv, ?_, hr2.alike ⟨fun j => ?_, rfl⟩⟩
              · refine RA.osl_name (g := g'') (k := k) ?_ (show upd g''.ρ 1 (g''.ρ k) 1 = g''.ρ k from upd_same _ _ _)
                simp only [asOf, tupled, XV.a, Nat.zero_mul] at hra'
                exact hra'
              · simp only [O1, List.lookup_cons, Ab.dropObj]
                by_cases hj : j = 1
                · subst hj; simp
                · simp [hj]
          · cases h
        · cases h
      · split at h <;> cases h
      · cases h
  · cases h

theorem runN_sound {P : Program} {Γ : List (Ent P)} {own : List Nat} {N : Nat} {f : FuncId} {fn : Func} {an : An} {t : Ty} {ks : List AK} (hm : P.follows .mixedOrders = true) (hf : P.funcs[f]? = some fn)
    (hn : Nat.ble ks.length fn.ntmps = true) : SndA (NewS P f t) ks (bindA ks (fun xs => runBN P Γ own N fn an t xs) []) [] := by
  have h1 := Nat.le_of_ble_eq_true hn
  have hB : ∀ acc : List XV, acc.length ≤ fn.ntmps → ∀ y, runBN P Γ own N fn an t acc = some y → NewS P f t y acc :=
    fun acc hl y hy => runBN_sound hm hf (Nat.ble_eq_true_of_le hl) hy
  exact bindA_snd (Q := NewS P f t) fn.ntmps hB ks [] (by simpa using h1)

def runN (P : Program) (Γ : List (Ent P)) (own : List Nat) (N : Nat) (fn : Func) (an : An) (t : Ty) (ks : List AK) : FunA ks (Option (Option (List t.T × Nat))) :=
  bindA ks (fun xs => runBN P Γ own N fn an t xs) []

def nRun {P : Program} {R : Type} (t : Ty) (ks : List AK) (F : FunA ks (Option (Option (List t.T × Nat)))) (o : Oper) (st : XSt) (vs : List XV) (K : Out → Option R) : Option R :=
  match newName o with
  | some m => appA ks F (callArgs o) vs [] fun Fv rd => Option.bind Fv fun y => optCase y (K (quietO st (.d (.sl t [])) rd)) fun z =>
      cond (objsFreeB [m] st) (K ⟨.all, .os m t 0 z.2, rd, (m, .arr t z.1) :: dropX m st.objs, st.live, [m], [m]⟩) none
  | none => none

theorem OpT.drop {P : Program} {o : Oper} {rd : List (Operand × AV)} {X X' : Store} {F : List Nat} {res : AV} {m : Nat} (h : OpT P o rd (Ab.dropObj m X) X' F res) (hm : 1000 ≤ m) : OpT P o rd X X' F res := by
  intro nm hsm B g w a hr hrd
  exact h nm hsm B g w a (hr.dropObj fun hh => by have := hsm m hh; omega) hrd

theorem OpT.alikeR {P : Program} {o : Oper} {rd : List (Operand × AV)} {X X' Y : Store} {F : List Nat} {res : AV} (h : OpT P o rd X X' F res) (e : Ab.Alike X' Y) : OpT P o rd X Y F res := by
  intro nm hsm B g w a hr hrd next Q hn
  exact h nm hsm B g w a hr hrd next Q fun g' w' v h1 h2 h3 => hn g' w' v (h1.alike e) h2 h3

theorem nRun_ok {P : Program} {R : Type} {f : FuncId} {t : Ty} {ks : List AK} {F : FunA ks (Option (Option (List t.T × Nat)))} (hc : CallI P f) (hs : SndA (NewS P f t) ks F []) {o : Oper} {st : XSt} {aops : Array Operand} {ts : Array TypeId} {vs : List XV} {K : Out → Option R} {r : R}
    (ho : o.op = .call { callee := .value (.func f), args := aops, argTypes := ts }) (hv : xevals st aops.toList = some vs) (h : nRun (P := P) t ks F o st vs K = some r) : ∃ out, K out = some r ∧ OpOk P o st out := by
  have e : callArgs o = aops.toList := by simp [callArgs, ho]
  unfold nRun at h
  rw [e] at h
  split at h
  · rename_i m hm
    obtain ⟨Fv, xs, h1, h2, h3, h4, h5⟩ := appA_ok (st := st) ks F aops.toList vs [] [] [] hs hv rfl rfl (by simp [imRd]) rfl h
    obtain ⟨y, hy, hK⟩ := Option.bind_eq_some_iff.1 h5
    simp only [List.nil_append] at h1 h4 hK
    have hd := h2 y hy
    cases y with
    | none =>
      simp only [optCase] at hK
      refine ⟨_, hK, quietO_ok h4 fun X => ?_⟩
      have hda : areData (asOf xs) = true := by
        clear h1 h2 h4 h5 hd hK hy
        induction xs with
        | nil => rfl
        | cons x r ih =>
          simp only [argsX] at h3
          cases hx : argX x with
          | false => simp [hx] at h3
          | true =>
            simp only [hx, cond_true] at h3
            have : isData x.a = true := by
              unfold argX at hx
              split at hx <;> first | rfl | cases hx
            simp only [asOf, areData, this, ih h3, Bool.and_self]
      have := op_call (X := X) (xs := asOf xs) ho hc hd (by rw [asOf_length, h1]; simp) hda rfl
      rw [imRd_zip]
      exact this
    | some z =>
      simp only [optCase] at hK
      cases h6 : objsFreeB [m] st with
      | false => simp [h6] at hK
      | true =>
        simp only [h6, cond_true] at hK
        have hm1 := newName_ge hm
        refine ⟨_, hK, ⟨h4, ?_, fun j x hj hx => ?_⟩⟩
        · refine OpT.drop (m := m) ?_ hm1
          have hoc : ObjCall (Ab.dropObj m st.X) X0 (O1 t z.1) (nf [(1, m)]) [m] := by
            refine ⟨⟨rfl, rfl⟩, by simp [X0], by simp [X0], by simp [O1, arr_names], by simp [O1], by simp [X0], ?_, by simp [X0], ?_⟩
            · intro p hp
              simp only [O1, List.mem_singleton] at hp
              subst hp
              exact .inr ⟨by simp [nf], by simp [nf, Ab.dropObj, lookup_filter]⟩
            · have h6 := objsFreeB_ok h6
              unfold objsFree at h6 ⊢
              simp only [List.isEmpty_cons, Bool.false_or] at h6 ⊢
              rw [List.all_eq_true] at h6 ⊢
              intro p hp
              simp only [Ab.dropObj, List.mem_filter] at hp
              exact h6 p hp.1
          have hcall := op_call_obj (X := Ab.dropObj m st.X) [(1, m)] [m] ho hc hd hoc (by rw [asOf_length, h1]; simp) (argsX_names h3) rfl
          rw [argsX_map h3, ← imRd_zip] at hcall
          have e7 : putObjs (nf [(1, m)]) (O1 t z.1).objs (Ab.dropObj m st.X).objs = Ab.setObj m (XOb.arr t z.1).o (Ab.dropObj m st.X).objs := by
            simp only [O1, putObjs, mapOb_arr]; rfl
          rw [e7] at hcall
          have e8 : mapAV (nf [(1, m)]) (.osl 1 0 z.2 t.size) = (XV.os m t 0 z.2).a := by
            simp only [XV.a, Nat.zero_mul]; rfl
          rw [e8] at hcall
          refine OpT.alikeR hcall ⟨fun j => ?_, rfl⟩
          show (Ab.setObj m (XOb.arr t z.1).o (Ab.dropObj m st.X).objs).lookup j = ((m, (XOb.arr t z.1).o) :: imObjs (dropX m st.objs)).lookup j
          rw [lookup_setObj, List.lookup_cons, dropX_im]
          by_cases hj : j = m
          · subst hj; simp
          · have : (j == m) = false := by simpa using hj
            rw [if_neg hj, this]; rfl
        · simp only [List.mem_cons, List.not_mem_nil, or_false] at hj
          rw [lk_cons_ne hj] at hx
          exact lk_dropX hx
  · cases h

/-- the entry -/
def mkN {P : Program} {Γ : List (Ent P)} {own : List Nat} {N : Nat} (id : FuncId) (fn : Func) (an : An) (t : Ty) (ks : List AK) (F : FunA ks (Option (Option (List t.T × Nat)))) (hm : P.follows .mixedOrders = true) (hf : P.funcs[id]? = some fn)
    (hc : CallI P id) (hn : Nat.ble ks.length fn.ntmps = true) (hE : runN P Γ own N fn an t ks = F) : Ent P where
  id := id
  run := nRun (P := P) t ks F
  ok := by
    intro R o st aops ts vs K r ho hv h
    exact nRun_ok hc (hE ▸ runN_sound hm hf hn) ho hv h

/-- the entry of a function whose contract is known -/
def mkNS {P : Program} (id : FuncId) (t : Ty) (ks : List AK) (F : FunA ks (Option (Option (List t.T × Nat)))) (hc : CallI P id) (hs : SndA (NewS P id t) ks F []) : Ent P where
  id := id
  run := nRun (P := P) t ks F
  ok := by
    intro R o st aops ts vs K r ho hv h
    exact nRun_ok hc hs ho hv h

end Go.Xl
/-
  From a contract to what a row asks: the ghost that protects all that is there, and the readings of arguments.
-/
set_option linter.unusedVariables false
set_option linter.unusedSimpArgs false
namespace Go.Ab
open Go.RowKit

/-- all that is there is protected -/
def fullγ (w : World) (b : Nat) : Nat :=
  match w.heap[b]? with
  | some (.cells c _ _) => c.size
  | _ => 0

def full (w : World) : Gh := { γ := fullγ w, β := fun _ => none, ρ := fun _ => 0 }

theorem full_hr (w : World) : HR [] (Base.of (full w) w X0) (full w) w X0 := by
  refine ⟨by simp, ?_, Nat.le_refl _, ⟨rfl, rfl, rfl, Nat.le_refl _⟩, .refl _ _, fun _ _ _ => ⟨rfl, rfl⟩, by simp [X0], by simp [X0], by simp [X0], by simp [X0], by simp [X0, full], by simp [full], by simp [full], by simp [full], by simp [full]⟩
  intro b i hi
  simp only [full, fullγ] at hi
  split at hi
  · rename_i c T fr h
    rw [cell?_cells h]
    simp [hi]
  · omega

theorem Does.below {P : Program} {f : FuncId} {args : List AV} {res : AV} (h : Does P f args X0 res X0) {w : World} {vs : Array Value} (hl : args.length = vs.size)
    (ha : ∀ (i : Nat) x v, args[i]? = some x → vs[i]? = some v → RA (full w) w x v) :
    Calls P f vs w fun e w' => ∃ v g', e = .returned v ∧ RA g' w' res v ∧ Below w.heap.size w w' := by
  refine (h (full w) w vs (full_hr w) hl ha).mono ?_
  rintro e w' ⟨g', v, rfl, hr, h1⟩
  refine ⟨v, g', rfl, hr, ⟨h1.io.1, h1.io.2.2.1, h1.io.2.1, h1.base, fun b hb => (h1.frame b hb ?_).1⟩⟩
  rintro (⟨k, o, hk, _⟩ | ⟨n, hn⟩)
  · simp [X0] at hk
  · simp [full] at hn

/-- a law -/
theorem Does.law {P : Program} {f : FuncId} {args : List AV} (h : Does P f args X0 (.d (.sc (.bool true))) X0) {w : World} {vs : Array Value} (hl : args.length = vs.size)
    (ha : ∀ (i : Nat) x v, args[i]? = some x → vs[i]? = some v → RA (full w) w x v) :
    Calls P f vs w fun e w' => e = .returned (.bool true) ∧ Below w.heap.size w w' := by
  refine (h.below hl ha).mono ?_
  rintro e w' ⟨v, g', rfl, hr, hb⟩
  exact ⟨by rw [hr.sc_inv], hb⟩

inductive RAs (g : Gh) (w : World) : List AV → List Value → Prop
  | nil : RAs g w [] []
  | cons {x : AV} {v : Value} {r : List AV} {rs : List Value} : RA g w x v → RAs g w r rs → RAs g w (x :: r) (v :: rs)

theorem RAs.get {g : Gh} {w : World} {l : List AV} {vs : List Value} (h : RAs g w l vs) : l.length = vs.length ∧ ∀ (i : Nat) x v, l[i]? = some x → vs[i]? = some v → RA g w x v := by
  induction h with
  | nil => exact ⟨rfl, by simp⟩
  | cons h _ ih =>
    refine ⟨by simp [ih.1], ?_⟩
    intro i x u hx hu
    cases i with
    | zero => simp at hx hu; subst hx; subst hu; exact h
    | succ i => exact ih.2 i x u (by simpa using hx) (by simpa using hu)

theorem Does.lawAs {P : Program} {f : FuncId} {args : List AV} (h : Does P f args X0 (.d (.sc (.bool true))) X0) {w : World} {vs : Array Value} (ha : RAs (full w) w args vs.toList) :
    Calls P f vs w fun e w' => e = .returned (.bool true) ∧ Below w.heap.size w w' :=
  h.law (by have := ha.get.1; simpa using this) fun i x v hx hv => ha.get.2 i x v hx (by simpa using hv)

theorem fullγ_cell {w : World} {b i : Nat} {v : Value} (h : w.cell? ⟨b, i, none⟩ = some v) : i < fullγ w b := by
  unfold World.cell? at h
  unfold fullγ
  simp only at h
  split at h
  · rename_i c T fr hh
    rw [hh]
    simp at h
    exact (Array.getElem?_eq_some_iff.1 h).1
  · cases h

/-- a slice of integers that came in -/
theorem ra_ints {k : IntKind} {w : World} {a : Option Addr} {len cap : Nat} {zs : List Int}
    (h : (a = none ∧ len = 0 ∧ cap = 0 ∧ zs = []) ∨ ∃ x : Addr, a = some x ∧ len ≤ cap ∧ cap ≤ maxLen ∧ zs.length = cap ∧ (∀ i, i < zs.length → w.cell? (x.add i) = some (.int k (zs.getD i 0))) ∧ ∀ n ∈ zs, (Lit.int k n).wf = true) :
    RA (full w) w (.d (.sl 1 ((zs.take len).map fun n => [.int k n]))) (.slice a len cap) := by
  rcases h with ⟨rfl, rfl, rfl, rfl⟩ | ⟨x, rfl, hl, _, hz, hc, _⟩
  · exact .d _ _ (.nil 1 none 0 fun _ => rfl)
  · rcases Nat.eq_zero_or_pos len with h0 | h0
    · subst h0
      exact .d _ _ (.nil 1 (some x) cap (by simp))
    · obtain ⟨b, off, sp⟩ := x
      have hc0 := hc 0 (by omega)
      have hsp : sp = none := by
        simp only [Addr.add, if_true] at hc0
        unfold World.cell? at hc0
        simp only at hc0
        split at hc0
        · cases sp with
          | none => rfl
          | some s => simp at hc0
        · cases hc0
      subst hsp
      have hlen : ((zs.take len).map fun n => [D.int k n]).length = len := by simp; omega
      refine .d _ _ (.ofCells' hlen.symm ?_ hl ?_ ?_)
      · have := hc (len - 1) (by omega)
        rw [addr_add] at this
        have := fullγ_cell this
        show off + len * 1 ≤ fullγ w b
        omega
      · intro i cs hi
        rw [List.getElem?_map, Option.map_eq_some_iff] at hi
        obtain ⟨n, _, rfl⟩ := hi
        rfl
      · intro i j cs c u hi hj hu
        rw [List.getElem?_map, Option.map_eq_some_iff] at hi
        obtain ⟨n, hn, rfl⟩ := hi
        cases j with
        | zero =>
          simp at hj; subst hj
          rw [List.getElem?_take] at hn
          split at hn
          · have hlt : i < zs.length := (List.getElem?_eq_some_iff.1 hn).1
            have h1 := hc i hlt
            rw [addr_add] at h1
            rw [Nat.mul_one, Nat.add_zero, h1] at hu
            have hg : zs.getD i 0 = n := by rw [List.getD_eq_getElem?_getD, hn]; rfl
            rw [hg] at hu
            simp only [Option.some.injEq] at hu
            subst hu
            exact .sc _
          · cases hn
        | succ j => simp at hj

/-- what a slice of integers that came in is -/
def IntRow (k : IntKind) (w : World) (a : Option Addr) (len cap : Nat) (zs : List Int) : Prop :=
  (a = none ∧ len = 0 ∧ cap = 0 ∧ zs = []) ∨ ∃ x : Addr, a = some x ∧ len ≤ cap ∧ cap ≤ maxLen ∧ zs.length = cap ∧ (∀ i, i < zs.length → w.cell? (x.add i) = some (.int k (zs.getD i 0))) ∧ ∀ n ∈ zs, (Lit.int k n).wf = true

theorem row_len {k : IntKind} {w : World} {a : Option Addr} {len cap : Nat} {zs : List Int} (h : IntRow k w a len cap zs) : (zs.take len).length ≤ 9223372036854775807 := by
  rcases h with ⟨_, rfl, _, rfl⟩ | ⟨x, _, hl, hm, _⟩
  · simp
  · have := List.length_take_le len zs
    unfold maxLen at hm
    omega

theorem open_ints_row {H : Type} {enc : TypeId × Value → H} {P : Program} {W : World} {t e : TypeId} {k : IntKind} {d : DataW H} {ps : List MemPlace} {a : Option Addr} {len cap : Nat} (ht : P.underlying t = some (.slice e)) (he : P.underlying e = some (.int k))
    (hc : P.cellsOf e = 1) (h : DataW.Trod enc P W 0 (fun _ => true) true t (.slice a len cap) d ps) : ∃ zs, IntRow k W a len cap zs := by
  obtain ⟨fuel, hf⟩ := h
  rcases ChangeShapes.open_ints ht he hc hf with ⟨hcs, _⟩ | ⟨x, l, c, zs, hcs, _, hl, hm, hz, _, hcell, hwz⟩
  · simp [Value.cells] at hcs
    obtain ⟨rfl, rfl, rfl⟩ := hcs
    exact ⟨[], .inl ⟨rfl, rfl, rfl, rfl⟩⟩
  · simp [Value.cells] at hcs
    obtain ⟨rfl, rfl, rfl⟩ := hcs
    exact ⟨zs, .inr ⟨_, rfl, hl, hm, by simpa using hz, hcell, hwz⟩⟩

end Go.Ab
/-
  A library function that sorts a row in place, called at a slice that owns its block.
-/
set_option linter.unusedVariables false
set_option linter.unusedSimpArgs false
namespace Go.Ab
open Go.Sort Go.Proofs
section
variable {P : Program} {o : Oper} {X : Store}

theorem flatV_length {α : Type} {sz : Nat} {enc : α → List Value} (hk : ∀ x, (enc x).length = sz) (l : List α) : (l.map enc).flatten.length = l.length * sz := by
  induction l with
  | nil => simp
  | cons x r ih => simp only [List.map_cons, List.flatten_cons, List.length_append, ih, hk, List.length_cons, Nat.succ_mul]; omega

theorem flatV_get {α : Type} {sz : Nat} {enc : α → List Value} (hk : ∀ x, (enc x).length = sz) : ∀ (l : List α) (j : Nat), (l.map enc).flatten[j]? = (l[j / sz]?).bind fun x => (enc x)[j % sz]?
  | [], j => by simp
  | x :: r, j => by
    have h0 := hk x
    simp only [List.map_cons, List.flatten_cons, List.getElem?_append]
    by_cases hj : j < (enc x).length
    · rw [if_pos hj, Nat.div_eq_of_lt (by omega), Nat.mod_eq_of_lt (by omega)]
      simp
    · rw [if_neg hj, flatV_get hk r, h0]
      by_cases hz : sz = 0
      · subst hz
        simp
        have : ∀ y, enc y = [] := fun y => List.eq_nil_of_length_eq_zero (hk y)
        cases r <;> simp [this]
      · have hle : sz ≤ j := by omega
        rw [← Nat.sub_add_cancel hle]
        simp only [Nat.add_sub_cancel, Nat.add_mod_right, Nat.add_div_right _ (by omega : 0 < sz)]
        simp

theorem flatK_get {α : Type} [Inhabited α] {sz : Nat} {enc : α → List Value} (hk : ∀ x, (enc x).length = sz) (l : List α) (j : Nat) (hj : j < l.length * sz) : (l.map enc).flatten[j]? = some (flatK enc sz l.toArray)[j]! := by
  have hs : 0 < sz := by
    rcases Nat.eq_zero_or_pos sz with h | h
    · rw [h] at hj; omega
    · exact h
  have h1 : j / sz < l.length := by rw [Nat.div_lt_iff_lt_mul hs]; exact hj
  have h2 : j % sz < sz := Nat.mod_lt _ hs
  rw [flatV_get hk, get_flatK enc sz _ _ (by simpa using hj)]
  have e1 : l[j / sz]? = some l[j / sz] := List.getElem?_eq_getElem h1
  have e2 : l.toArray[j / sz]! = l[j / sz] := by
    rw [getElem!_pos _ _ (by simpa using h1)]; simp
  rw [e1, e2]
  simp only [Option.bind_some]
  have h3 : j % sz < (enc l[j / sz]).length := by rw [hk]; exact h2
  rw [List.getElem!_eq_getElem?_getD, List.getElem?_eq_getElem h3]
  rfl

/-- cells of scalars: the very values -/
theorem sc_eq {g : Gh} {w : World} {v u : Value} (h : RA g w (.d (.sc v)) u) : u = v := by
  cases h with
  | d _ _ h => cases h; rfl

theorem op_sortK {α : Type} [Inhabited α] {f c : FuncId} {s x : Operand} {ts : Array TypeId} {k len sz : Nat} {enc : α → List Value} (hk : ∀ x, (enc x).length = sz) {l : List α} {ty : Option TypeId} (φ : List α → List α)
    (ho : o.op = .call { callee := .value (.func f), args := #[s, x], argTypes := ts }) (hf : CallI P f) (hlk : X.objs.lookup k = some (.cells ((l.map enc).flatten.map fun v => .d (.sc v)) ty)) (hlen : len ≤ l.length) (hφ : ∀ d, (φ d).length = d.length)
    (hN : ∀ p cap w, Calls P f #[.slice p 0 cap, .func (.func c) #[] #[]] w fun e w' => e = .returned (.tuple #[]) ∧ w' = w)
    (hC : ∀ blk cap w, HoldsK enc sz w blk 0 (l.take len).toArray → blk < w.heap.size → Calls P f #[.slice (some ⟨blk, 0, none⟩) len cap, .func (.func c) #[] #[]] w fun e w' => e = .returned (.tuple #[]) ∧ ∃ n os, w' = sortWorldK enc sz w blk 0 n (φ (l.take len)).toArray os) :
    OpT P o [(s, .osl k 0 len sz), (x, .clo c [])] X ⟨setObj k (.cells (((φ (l.take len) ++ l.drop len).map enc).flatten.map fun v => .d (.sc v)) ty) X.objs, X.live⟩ [] (.tup []) := by
  intro nm hsm B g w a hr hrd next Q hnext
  have e1 := rd0 hrd
  have e2 := hrd (x, .clo c []) (by simp)
  simp only at e1 e2
  obtain ⟨cap, q, hcap, hv, hq, T, c', hsh, hc⟩ := e1.osl_inv
  generalize hfv : a.eval x = fv at e2
  cases e2 with
  | clo _ _ vs hl0 _ =>
  have hvs : vs = #[] := by
    apply Array.eq_empty_of_size_eq_zero; rw [← hl0]; rfl
  subst hvs
  unfold Oper.wp
  have hrun : (execOp a.eval o).run P w = .ok (.enter f #[.slice (some ⟨g.ρ k, q, none⟩) len cap, .func (.func c) #[] #[]]) w := by
    have h1 : (execOp a.eval o).run P w = .ok (.enter f (#[s, x].map a.eval)) w := by
      simp only [execOp, ho, resolve]
      simp [Act.eval, Deferred.ofValue, invoke, run_callFunc hf]
    rw [h1]
    have h2 : #[s, x].map a.eval = #[.slice (some ⟨g.ρ k, q, none⟩) len cap, .func (.func c) #[] #[]] := by
      have h3 : #[s, x].map a.eval = #[a.eval s, a.eval x] := by simp only [List.map_toArray, List.map_cons, List.map_nil]
      rw [h3, hv, hfv]
    rw [h2]
  rw [hrun]
  cases hr.objs k _ hlk with
  | cells _ _ arr T' hb hl hcc hty =>
  have hval : ∀ (j : Nat) (v : Value), (l.map enc).flatten[j]? = some v → arr[j]? = some v := by
    intro j v hj
    have hlt : j < arr.size := by
      have := (List.getElem?_eq_some_iff.1 hj).1
      rw [List.length_map] at hl; omega
    have hr' := hcc j (.d (.sc v)) arr[j] (by rw [List.getElem?_map, hj]; rfl) (by simp [hlt])
    rw [← sc_eq hr']; simp [hlt]
  have hsz : (l.map enc).flatten.length = l.length * sz := flatV_length hk l
  have hszarr : l.length * sz ≤ arr.size := by rw [← hsz]; rw [List.length_map] at hl; exact hl
  by_cases hlen0 : len = 0
  · subst hlen0
    refine (hN _ _ _).mono ?_
    rintro e w' ⟨rfl, rfl⟩
    have he : φ (l.take 0) ++ l.drop 0 = l := by
      have : φ (l.take 0) = [] := List.eq_nil_of_length_eq_zero (by rw [hφ]; simp)
      rw [this]; simp
    rw [he] at hnext
    obtain ⟨hw1, hw2⟩ := hr.write hlk (w' := w') (o' := .cells ((l.map enc).flatten.map fun v => .d (.sc v)) ty) rfl ⟨rfl, rfl, rfl, Nat.le_refl _⟩ (fun _ _ => rfl) (fun _ => .cells _ _ arr T' hb hl hcc hty) (fun s h => h)
    exact hnext g w' _ hw1 hw2 (.tup _ _ rfl (by simp))
  · have hq0 : q = 0 := hq.resolve_left (by omega)
    subst hq0
    have hblk : g.ρ k < w.heap.size := obRel_lt (hr.objs k _ hlk)
    have hd : (l.take len).length = len := by simp; omega
    have hH : HoldsK enc sz w (g.ρ k) 0 (l.take len).toArray := by
      intro j hj
      have hj' : j < len * sz := by rw [size_flatK] at hj; simpa [Nat.min_eq_left hlen] using hj
      have hfl : ((l.take len).map enc).flatten[j]? = (l.map enc).flatten[j]? := by
        have : (l.map enc).flatten = ((l.take len).map enc).flatten ++ ((l.drop len).map enc).flatten := by
          rw [← List.flatten_append, ← List.map_append, List.take_append_drop]
        rw [this, List.getElem?_append_left (by rw [flatV_length hk, hd]; exact hj')]
      have := flatK_get hk (l.take len) j (by rw [hd]; exact hj')
      rw [hfl] at this
      have h3 := hval j _ this
      constructor
      · rw [cell?_cells hb, Nat.zero_add, h3]; rfl
      · simp [World.frozen?, hb]
    refine (hC _ cap w hH hblk).mono ?_
    rintro e w' ⟨rfl, n, os, rfl⟩
    generalize hd' : (φ (l.take len)).toArray = d'
    have hd's : d'.size = len := by rw [← hd']; simp [hφ, hd]
    have hnewlen : (φ (l.take len) ++ l.drop len).length = l.length := by simp [hφ]; omega
    let arr' := putCells id 0 (flatK enc sz d') arr
    have hb' : (putRowK enc sz (Sort.ahead w n) (g.ρ k) 0 d').heap[g.ρ k]? = some (.cells arr' T' (0, 0)) := by
      simp only [putRowK, putRow, mapBlock, Array.getElem?_modify, heap_ahead, hb]
      simp [onCells, arr']
    have harr' : arr'.size = arr.size := by simp [arr', putCells]
    have hget : ∀ j (hj : j < arr.size), arr'[j]? = some (if j < len * sz then (flatK enc sz d')[j]! else arr[j]) := by
      intro j hj
      simp only [arr', putCells, Array.getElem?_mapIdx, Array.getElem?_eq_getElem hj, Option.map_some, size_flatK, hd's, Nat.zero_le, true_and, Nat.zero_add, Nat.sub_zero, id]
    have hwr : HR nm B g (putRowK enc sz (Sort.ahead w n) (g.ρ k) 0 d') ⟨setObj k (.cells (((φ (l.take len) ++ l.drop len).map enc).flatten.map fun v => .d (.sc v)) ty) X.objs, X.live⟩ ∧ Trans [] g w g (putRowK enc sz (Sort.ahead w n) (g.ρ k) 0 d') := by
      refine hr.write hlk (by simp [putRowK]) ⟨rfl, rfl, rfl, by simp [putRowK]⟩ (fun b hbne => ?_) (fun _ => ?_) (fun s hs => ?_)
      · simp only [putRowK, putRow, mapBlock, Array.getElem?_modify, heap_ahead]
        rw [if_neg (Ne.symm hbne)]
      · refine .cells _ _ arr' T' hb' (by rw [harr']; simp only [List.length_map]; rw [flatV_length hk, hnewlen]; exact hszarr) ?_ hty
        intro j y v hy hv'
        rw [List.getElem?_map, Option.map_eq_some_iff] at hy
        obtain ⟨u, hu, rfl⟩ := hy
        have hjlt : j < l.length * sz := by
          have := (List.getElem?_eq_some_iff.1 hu).1
          rw [flatV_length hk, hnewlen] at this; exact this
        have hja : j < arr.size := by omega
        rw [hget j hja] at hv'
        simp only [Option.some.injEq] at hv'
        rw [List.map_append, List.flatten_append] at hu
        have hl1 : ((φ (l.take len)).map enc).flatten.length = len * sz := by rw [flatV_length hk, hφ, hd]
        rw [List.getElem?_append, hl1] at hu
        by_cases hj : j < len * sz
        · rw [if_pos hj] at hu hv'
          rw [flatK_get hk _ _ (by rw [hφ, hd]; exact hj), hd'] at hu
          simp only [Option.some.injEq] at hu
          rw [← hv', hu]
          exact .d _ _ (.sc _)
        · rw [if_neg hj] at hu hv'
          have h4 : (l.map enc).flatten[j]? = some u := by
            have : (l.map enc).flatten = ((l.take len).map enc).flatten ++ ((l.drop len).map enc).flatten := by
              rw [← List.flatten_append, ← List.map_append, List.take_append_drop]
            rw [this, List.getElem?_append_right (by rw [flatV_length hk, hd]; omega), flatV_length hk, hd]
            exact hu
          have h5 := hval j u h4
          rw [Array.getElem?_eq_getElem hja] at h5
          simp only [Option.some.injEq] at h5
          rw [← hv', h5]
          exact .d _ _ (.sc _)
      · simp only [World.shape?, hb] at hs
        simp only [World.shape?, hb', harr']
        exact hs
    obtain ⟨h6, h7⟩ := hwr
    have hgrow : HR nm B g (sortWorldK enc sz w (g.ρ k) 0 n d' os) _ ∧ Trans [] g (putRowK enc sz (Sort.ahead w n) (g.ρ k) 0 d') g (sortWorldK enc sz w (g.ρ k) 0 n d' os) :=
      h6.grow (by simp [sortWorldK]) (fun b hbl => heap_grow_old _ _ hbl) ⟨rfl, rfl, rfl, Nat.le_refl _⟩
    exact hnext g _ _ hgrow.1 (h7.trans hgrow.2) (.tup _ _ rfl (by simp))

/-- .. at no element -/
theorem op_sort_nil {f c : FuncId} {s x : Operand} {ts : Array TypeId} {sz : Nat} (ho : o.op = .call { callee := .value (.func f), args := #[s, x], argTypes := ts }) (hf : CallI P f)
    (hN : ∀ p cap w, Calls P f #[.slice p 0 cap, .func (.func c) #[] #[]] w fun e w' => e = .returned (.tuple #[]) ∧ w' = w) :
    OpT P o [(s, .d (.sl sz [])), (x, .clo c [])] X X [] (.tup []) := by
  intro nm hsm B g w a hr hrd next Q hnext
  have e1 := rd0 hrd
  have e2 := hrd (x, .clo c []) (by simp)
  simp only at e1 e2
  have hv : ∃ p cap, a.eval s = .slice p 0 cap := by
    generalize a.eval s = v at e1
    cases e1 with
    | d _ _ h =>
      cases h with
      | nil => exact ⟨_, _, rfl⟩
      | sl _ _ b off len cap hl => subst hl; exact ⟨_, _, rfl⟩
  obtain ⟨p, cap, hv⟩ := hv
  generalize hfv : a.eval x = fv at e2
  cases e2 with
  | clo _ _ vs hl0 _ =>
  have hvs : vs = #[] := by
    apply Array.eq_empty_of_size_eq_zero; rw [← hl0]; rfl
  subst hvs
  unfold Oper.wp
  have hrun : (execOp a.eval o).run P w = .ok (.enter f #[.slice p 0 cap, .func (.func c) #[] #[]]) w := by
    have h1 : (execOp a.eval o).run P w = .ok (.enter f (#[s, x].map a.eval)) w := by
      simp only [execOp, ho, resolve]
      simp [Act.eval, Deferred.ofValue, invoke, run_callFunc hf]
    rw [h1]
    have h2 : #[s, x].map a.eval = #[.slice p 0 cap, .func (.func c) #[] #[]] := by
      have h3 : #[s, x].map a.eval = #[a.eval s, a.eval x] := by simp only [List.map_toArray, List.map_cons, List.map_nil]
      rw [h3, hv, hfv]
    rw [h2]
  rw [hrun]
  refine (hN _ _ _).mono ?_
  rintro e w' ⟨rfl, rfl⟩
  exact hnext g w' _ hr (.refl _ _ _) (.tup _ _ rfl (by simp))

/-- a call of data at any world: the world has grown, no more -/
theorem Does.grown {f : FuncId} {args : List AV} {rv : Value} (h : Does P f args X0 (.d (.sc rv)) X0) {w : World} {vs : Array Value} (hl : args.length = vs.size)
    (ha : ∀ (i : Nat) x v, args[i]? = some x → vs[i]? = some v → RA (full w) w x v) :
    Calls P f vs w fun e w' => e = .returned rv ∧ ∃ q os', w' = Sort.grow (w.drewN q) os' := by
  refine (h (full w) w vs (full_hr w) hl ha).mono ?_
  rintro e w' ⟨g', v, rfl, hr, h1⟩
  rw [sc_eq hr]
  refine ⟨rfl, w'.drawn - w.drawn, w'.heap.extract w.heap.size w'.heap.size, ?_⟩
  have hna : ∀ b, ¬ (Base.of (full w) w X0).allowed b := by
    rintro b (⟨k, o, hk, _⟩ | ⟨n, hn⟩)
    · simp [X0] at hk
    · simp [full] at hn
  have hb : w.heap.size ≤ w'.heap.size := h1.base
  have hheap : w'.heap = w.heap ++ w'.heap.extract w.heap.size w'.heap.size := by
    apply Array.ext_getElem?
    intro b
    rw [Array.getElem?_append]
    split
    · rename_i hlt
      exact (h1.frame b hlt (hna b)).1
    · rename_i hge
      simp only [Array.getElem?_extract]
      split
      · congr 1; omega
      · rw [Array.getElem?_eq_none]; omega
  have hio := h1.io
  have hd : w.drawn + (w'.drawn - w.drawn) = w'.drawn := Nat.add_sub_cancel' hio.2.2.2
  obtain ⟨hp, tp, dr, os, ou⟩ := w'
  obtain ⟨hp0, tp0, dr0, os0, ou0⟩ := w
  simp only at hheap hd ⊢
  obtain ⟨i1, i2, i3, _⟩ := hio
  change os = os0 at i1
  change ou = ou0 at i2
  change tp = tp0 at i3
  subst i1 i2 i3
  unfold Sort.grow World.drewN
  simp only [hd]
  rw [← hheap]

end
end Go.Ab
/-
  Functions that put a row in order, in place: as entries.
-/
set_option linter.unusedVariables false
set_option linter.unusedSimpArgs false
set_option linter.unnecessarySimpa false
namespace Go.Xl
open Go.Ab Go.Sort Go.Proofs

def Ty.dflt : (t : Ty) → t.T
  | .int _ => (0 : Int)
  | .u8 => (0 : UInt8)
  | .bool => false
  | .str => ([] : List UInt8)
  | .sl _ => []
  | .unit => ()
  | .pair a b => (a.dflt, b.dflt)
  | .st1 a => a.dflt

def scOf : D → Value
  | .sc v => v
  | _ => undef

/-- cells of plain values -/
def plainDs : List D → Bool
  | [] => true
  | .sc _ :: r => plainDs r
  | _ :: _ => false

theorem plainDs_eq : ∀ {l : List D}, plainDs l = true → (l.map scOf).map .sc = l
  | [], _ => rfl
  | .sc v :: r, h => by simp only [List.map_cons, scOf]; rw [plainDs_eq (l := r) h]
  | .agg _ :: r, h => by simp [plainDs] at h
  | .sl _ _ :: r, h => by simp [plainDs] at h
  | .ep _ :: r, h => by simp [plainDs] at h
  | .any _ :: r, h => by simp [plainDs] at h

def Ty.vals (t : Ty) (x : t.T) : List Value := (t.ds x).map scOf

structure Ty.Plain (t : Ty) : Prop where
  ok : ∀ x : t.T, plainDs (t.ds x) = true

theorem Ty.Plain.vals {t : Ty} (h : t.Plain) (x : t.T) : (t.vals x).map D.sc = t.ds x := plainDs_eq (h.ok x)
theorem Ty.vals_length (t : Ty) (x : t.T) : (t.vals x).length = t.size := by simp [Ty.vals, Ty.ds_length]

theorem Ty.Plain.flat {t : Ty} (h : t.Plain) (l : List t.T) : ((l.map t.vals).flatten.map fun v => AV.d (.sc v)) = ((l.map t.ds).flatten.map .d) := by
  induction l with
  | nil => rfl
  | cons x r ih =>
    simp only [List.map_cons, List.flatten_cons, List.map_append, ih]
    rw [← h.vals x, List.map_map]; rfl

/-- a contract: f puts a row in order by c -/
structure Sorts (P : Program) (f c : FuncId) (T : Ty) (φ : List T.T → List T.T) : Prop where
  plain : T.Plain
  ci : CallI P f
  len : ∀ d, (φ d).length = d.length
  none : ∀ p cap w, Calls P f #[.slice p 0 cap, .func (.func c) #[] #[]] w fun e w' => e = .returned (.tuple #[]) ∧ w' = w
  some : ∀ [Inhabited T.T] (l : List T.T) blk cap w, l.length ≤ 4611686018427387903 → HoldsK T.vals T.size w blk 0 l.toArray → blk < w.heap.size →
    Calls P f #[.slice (some ⟨blk, 0, .none⟩) l.length cap, .func (.func c) #[] #[]] w fun e w' => e = .returned (.tuple #[]) ∧ ∃ n os, w' = sortWorldK T.vals T.size w blk 0 n (φ l).toArray os


def sortRun {P : Program} {R : Type} (c : FuncId) (T : Ty) (φ : List T.T → List T.T) (o : Oper) (st : XSt) (vs : List XV) (K : Out → Option R) : Option R :=
  match callArgs o, vs with
  | [s, x], [v, .clo c' []] => cond (Nat.beq c' c) (match v with
    | .os k t a len => match lk k st.objs with
      | some (.arr u l) => if h : u.eqb T = true then cond (t.eqb T) (cond (Nat.beq a 0) (cond (Nat.ble len l.length) (cond (Nat.ble len 4611686018427387903)
          (K ⟨.put k (.arr T (φ ((Ty.eqb_eq h ▸ l : List T.T).take len) ++ (Ty.eqb_eq h ▸ l : List T.T).drop len)), .tup [], [(s, .os k T 0 len), (x, .clo c [])],
            xset k (.arr T (φ ((Ty.eqb_eq h ▸ l : List T.T).take len) ++ (Ty.eqb_eq h ▸ l : List T.T).drop len)) st.objs, st.live, [], [k]⟩) none) none) none) none else none
      | _ => none
    | v => match decXV (.sl T) v with
      | some [] => K (quietO st (.tup []) [(s, .d (.sl T [])), (x, .clo c [])])
      | _ => none) none
  | _, _ => none

theorem sortRun_ok {P : Program} {R : Type} {f c : FuncId} {T : Ty} {φ : List T.T → List T.T} (hS : Sorts P f c T φ) {o : Oper} {st : XSt} {aops : Array Operand} {ts : Array TypeId} {vs : List XV} {K : Out → Option R} {r : R}
    (ho : o.op = .call { callee := .value (.func f), args := aops, argTypes := ts }) (hv : xevals st aops.toList = some vs) (h : sortRun (P := P) c T φ o st vs K = some r) : ∃ out, K out = some r ∧ OpOk P o st out := by
  have e : callArgs o = aops.toList := by simp [callArgs, ho]
  unfold sortRun at h
  rw [e] at h
  split at h
  · rename_i s x v c' hl
    have ho' : o.op = .call { callee := .value (.func f), args := #[s, x], argTypes := ts } := by rw [ho, ← hl]
    rw [hl] at hv
    obtain ⟨hs, hv⟩ := xevals_cons hv
    obtain ⟨hx, _⟩ := xevals_cons hv
    cases h1 : Nat.beq c' c with
    | false => simp [h1] at h
    | true =>
    have e1 := Nat.eq_of_beq_eq_true h1
    subst e1
    simp only [h1, cond_true] at h
    have sx : Sees st.im x (.clo c' []) := xeval_sees hx
    split at h
    · rename_i k t a len
      split at h
      · rename_i u l hk
        split at h
        · rename_i hu
          have e2 := Ty.eqb_eq hu
          subst e2
          cases h2 : t.eqb u with
          | false => simp [h2] at h
          | true =>
          cases h3 : Nat.beq a 0 with
          | false => simp [h2, h3] at h
          | true =>
          cases h4 : Nat.ble len l.length with
          | false => simp [h2, h3, h4] at h
          | true =>
          cases h5 : Nat.ble len 4611686018427387903 with
          | false => simp only [h2, h3, h4, h5, cond_true, cond_false] at h; cases h
          | true =>
            simp only [h2, h3, h4, h5, cond_true] at h
            have e3 := Ty.eqb_eq h2
            have e4 := Nat.eq_of_beq_eq_true h3
            have e5 := Nat.le_of_ble_eq_true h4
            have e6 := Nat.le_of_ble_eq_true h5
            subst e3; subst e4
            refine ⟨_, h, ⟨?_, ⟨rfl, rfl, rfl, fun X hX => ?_⟩, ?_⟩⟩
            · intro p hp
              simp only [imRd, List.map_cons, List.map_nil, List.mem_cons, List.not_mem_nil, or_false] at hp
              rcases hp with rfl | rfl
              · exact xeval_sees hs
              · exact sx
            · have hlk : X.objs.lookup k = some (.cells ((l.map t.vals).flatten.map fun v => .d (.sc v)) none) := by
                rw [hX, show st.X.objs.lookup k = _ from lk_imA hk, hS.plain.flat]; rfl
              have key : ∀ [Inhabited t.T], OpT P o (imRd [(s, .os k t 0 len), (x, .clo c' [])]) X ⟨Ab.setObj k (XOb.arr t (φ (l.take len) ++ l.drop len)).o X.objs, X.live⟩ [] (XV.tup []).a := by
                intro _
                have := op_sortK (X := X) (enc := t.vals) (sz := t.size) t.vals_length φ ho' hS.ci hlk e5 hS.len hS.none (fun blk cap w hH hb => by
                  have hd : (l.take len).length = len := by simp; omega
                  have := hS.some (l.take len) blk cap w (by omega) hH hb
                  rw [hd] at this
                  exact this)
                rw [hS.plain.flat] at this
                simp only [imRd, List.map_cons, List.map_nil, XV.a, Nat.zero_mul, asOf]
                exact this
              exact @key ⟨t.dflt⟩
            · intro j y hj hy
              simp only [List.mem_singleton] at hj
              rw [lk_xset _ _ _ _ hj] at hy; exact hy
        · cases h
      · cases h
    · rename_i v hne
      split at h
      · rename_i hd
        refine ⟨_, h, quietO_ok ?_ fun X => ?_⟩
        · intro p hp
          simp only [imRd, List.map_cons, List.map_nil, List.mem_cons, List.not_mem_nil, or_false] at hp
          rcases hp with rfl | rfl
          · exact decXV_sees hs hd
          · exact sx
        · exact op_sort_nil ho' hS.ci hS.none
      · cases h
  · cases h

/-- the entry -/
def mkSort {P : Program} {f c : FuncId} {T : Ty} {φ : List T.T → List T.T} (hS : Sorts P f c T φ) : Ent P where
  id := f
  run := sortRun (P := P) c T φ
  ok := by
    intro R o st aops ts vs K r ho hv h
    exact sortRun_ok hS ho hv h

end Go.Xl
/-
  slices.Clone: a new slice.
-/
set_option linter.unusedVariables false
set_option linter.unusedSimpArgs false
namespace Go.Xl
open Go.Ab

/-- a slice, taken apart -/
def listCase {α β : Type} (l : List α) (a : β) (f : α → List α → β) : β :=
  match l with
  | [] => a
  | y :: r => f y r

def cloneF (t : Ty) (bytes : Nat) (l : List t.T) : Option (Option (List t.T × Nat)) :=
  listCase l (some none) fun y r => cond (fitsB (y :: r).length bytes) (some (some (y :: r, (y :: r).length))) none

theorem NewS.empty {P : Program} {f : FuncId} {t : Ty} {xs : List XV} (h : NewS P f t (some ([], 0)) xs) : NewS P f t none xs := by
  intro g w vs hr hl ha
  refine (h g w vs hr hl ha).mono ?_
  rintro e w' ⟨g', v, rfl, h1, h2⟩
  refine ⟨g', v, rfl, ?_, ?_⟩
  · obtain ⟨cap, o, _, hv, _⟩ := RA.osl_inv h1
    rw [hv]
    exact .d _ _ (.nil _ _ _ (by simp))
  · refine (h2.dropObj (k := 1) (by simp [X0])).alike ⟨fun j => ?_, rfl⟩
    simp only [O1, Ab.dropObj, X0]
    by_cases hj : j = 1
    · subst hj; rfl
    · rfl

theorem clone_sound {P : Program} {own : List Nat} {N : Nat} {f : FuncId} {fn : Func} {an : An} {t : Ty} {bytes : Nat} (hm : P.follows .mixedOrders = true) (hf : P.funcs[f]? = some fn) (hn : Nat.ble 1 fn.ntmps = true)
    (h1 : ∀ y r, runBN P [] own N fn an t [.d (.sl t (y :: r))] = cond (fitsB (0 + (y :: r).length) bytes) (some (some ([] ++ y :: r, 0 + (y :: r).length))) none)
    (h2 : runBN P [] own N fn an t [.d (.v (.slice none 0 0))] = some none) (h3 : ∀ a cap, runBN P [] own N fn an t [.d (.v (.slice (some a) 0 cap))] = some (some ([], 0))) :
    SndA (NewS P f t) [.d (.sl t)] (cloneF t bytes) [] := by
  intro l y hy
  cases l with
  | cons x r =>
    simp only [cloneF, listCase] at hy
    have h1' := h1 x r
    rw [Nat.zero_add, List.nil_append] at h1'
    rw [← h1'] at hy
    exact runBN_sound hm hf hn hy
  | nil =>
    simp only [cloneF, listCase, Option.some.injEq] at hy
    subst hy
    have k2 := runBN_sound (xs := [.d (.v (.slice none 0 0))]) hm hf hn h2
    have k3 := fun a cap => (runBN_sound (xs := [.d (.v (.slice (some a) 0 cap))]) hm hf hn (h3 a cap)).empty
    intro g w vs hr hl ha
    have hsz : vs.size = 1 := by rw [← hl]; rfl
    have e0 := ha 0 _ vs[0] rfl (by simp [hsz])
    generalize hv : vs[0] = v at e0
    have hp : ∃ p cap, v = .slice p 0 cap ∧ (p = none → cap = 0) := by
      cases e0 with
      | d _ _ h =>
        cases h with
        | nil _ p cap h0 => exact ⟨_, _, rfl, h0⟩
        | sl _ _ b off len cap hl => subst hl; exact ⟨_, _, rfl, by simp⟩
    obtain ⟨p, cap, rfl, h0⟩ := hp
    have args : ∀ x : XV, RA g w x.a (.slice p 0 cap) → ∀ (i : Nat) z u, (asOf [x])[i]? = some z → vs[i]? = some u → RA g w z u := by
      intro x hx i z u hz hu
      cases i with
      | zero =>
        simp only [asOf, List.getElem?_cons_zero, Option.some.injEq] at hz
        subst hz
        have : u = vs[0] := by
          rw [Array.getElem?_eq_getElem (by omega)] at hu
          exact (Option.some.inj hu).symm
        rw [this, hv]; exact hx
      | succ i => simp [asOf] at hz
    cases p with
    | none =>
      have := h0 rfl
      subst this
      exact k2 g w vs hr (by simpa [asOf] using hl) (args _ (.d _ _ (.sc _)))
    | some a => exact k3 a cap g w vs hr (by simpa [asOf] using hl) (args _ (.d _ _ (.sc _)))

/-- a new slice as data -/
theorem NewS.frozen {P : Program} {f : FuncId} {t : Ty} {xs : List XV} {z : List t.T × Nat} (h : NewS P f t (some z) xs) (hz : z.2 ≤ z.1.length) : Does P f (asOf xs) X0 (.d (.sl t.size ((z.1.take z.2).map t.ds))) X0 := by
  intro g w vs hr hl ha
  refine (h g w vs hr hl ha).mono ?_
  rintro e w' ⟨g', v, rfl, h1, h2⟩
  obtain ⟨f1, f2, f3⟩ := HR.freeze (k := 1) (sz := t.size) (es := z.1.map t.ds) (ty := none) h2 (by simp [X0]) rfl (by
    intro i cs hc
    rw [List.getElem?_map, Option.map_eq_some_iff] at hc
    obtain ⟨y, _, rfl⟩ := hc
    exact t.ds_length y)
  refine ⟨_, v, rfl, ?_, f1.alike ⟨fun j => ?_, rfl⟩⟩
  · have := f3 0 z.2 v (by simpa using hz) (by simpa using h1)
    rw [List.drop_zero, ← List.map_take] at this
    exact this
  · simp only [O1, Ab.dropObj, X0]
    by_cases hj : j = 1
    · subst hj; rfl
    · rfl

def cloneD (t : Ty) (bytes : Nat) (l : List t.T) : Option (List t.T) :=
  listCase l (some []) fun y r => cond (fitsB (y :: r).length bytes) (some (y :: r)) none

theorem cloneD_sound {P : Program} {f : FuncId} {t : Ty} {bytes : Nat} (h : SndA (NewS P f t) [.d (.sl t)] (cloneF t bytes) []) : SoundF P f [.sl t] [.sl t] (cloneD t bytes) [] := by
  intro l y hy
  cases l with
  | nil =>
    simp only [cloneD, listCase, Option.some.injEq] at hy
    subst hy
    exact h [] none rfl
  | cons x r =>
    simp only [cloneD, listCase] at hy
    cases hb : fitsB (x :: r).length bytes with
    | false => simp only [hb, cond_false] at hy; cases hy
    | true =>
      simp only [hb, cond_true, Option.some.injEq] at hy
      subst hy
      have := h (x :: r) (some (x :: r, (x :: r).length)) (by simp only [cloneF, listCase, hb, cond_true])
      have := this.frozen (Nat.le_refl _)
      rw [List.take_length] at this
      exact this

end Go.Xl
set_option linter.unusedVariables false
set_option maxRecDepth 100000
namespace Go.Proofs.Xg
open Go Go.Xl Go.Ab Go.Proofs
theorem mixed : Try.prog.follows .mixedOrders = true := by kernel_rfl
@[reducible] def tDot : Ty := (.pair (.int .u16) (.int .u64))
/-- cmp.isNaN[uint16] -/
def F_cmp_isNaN_uint16 (N : Nat) : Fun [(.int .u16)] (Option (ResT [.bool])) :=
  fun (x : Int) => some (x != x)
theorem E_cmp_isNaN_uint16 (N : Nat) : runF Try.prog [] [] N Try.f142 .lf [(.int .u16)] [.bool] = F_cmp_isNaN_uint16 N := by kernel_rfl
def e_cmp_isNaN_uint16 (N : Nat) : Ent Try.prog := mkFn 142 Try.f142 .lf [(.int .u16)] [.bool] (F_cmp_isNaN_uint16 N) mixed Try.func142 (.mk' Try.func142 rfl (by decide)) rfl (E_cmp_isNaN_uint16 N)
/-- cmp.Compare[uint16] -/
def F_cmp_Compare_uint16 (N : Nat) : Fun [(.int .u16), (.int .u16)] (Option (ResT [(.int .i64)])) :=
  fun (x x_1 : Int) =>
  Option.bind (F_cmp_isNaN_uint16 N x) fun (y : Bool) =>
    Option.bind (F_cmp_isNaN_uint16 N x_1) fun (y_1 : Bool) =>
      bif y then bif y_1 then some 0 else some (-1)
      else
        bif y_1 then some 1 else bif decide (x < x_1) then some (-1) else bif decide (x_1 < x) then some 1 else some 0
theorem E_cmp_Compare_uint16 (N : Nat) : runF Try.prog [e_cmp_isNaN_uint16 N] [] N Try.f110 .lf [(.int .u16), (.int .u16)] [(.int .i64)] = F_cmp_Compare_uint16 N := by kernel_rfl
def e_cmp_Compare_uint16 (N : Nat) : Ent Try.prog := mkFn 110 Try.f110 .lf [(.int .u16), (.int .u16)] [(.int .i64)] (F_cmp_Compare_uint16 N) mixed Try.func110 (.mk' Try.func110 rfl (by decide)) rfl (E_cmp_Compare_uint16 N)
/-- cmp.isNaN[uint64] -/
def F_cmp_isNaN_uint64 (N : Nat) : Fun [(.int .u64)] (Option (ResT [.bool])) :=
  fun (x : Int) => some (x != x)
theorem E_cmp_isNaN_uint64 (N : Nat) : runF Try.prog [] [] N Try.f143 .lf [(.int .u64)] [.bool] = F_cmp_isNaN_uint64 N := by kernel_rfl
def e_cmp_isNaN_uint64 (N : Nat) : Ent Try.prog := mkFn 143 Try.f143 .lf [(.int .u64)] [.bool] (F_cmp_isNaN_uint64 N) mixed Try.func143 (.mk' Try.func143 rfl (by decide)) rfl (E_cmp_isNaN_uint64 N)
/-- cmp.Compare[uint64] -/
def F_cmp_Compare_uint64 (N : Nat) : Fun [(.int .u64), (.int .u64)] (Option (ResT [(.int .i64)])) :=
  fun (x x_1 : Int) =>
  Option.bind (F_cmp_isNaN_uint64 N x) fun (y : Bool) =>
    Option.bind (F_cmp_isNaN_uint64 N x_1) fun (y_1 : Bool) =>
      bif y then bif y_1 then some 0 else some (-1)
      else
        bif y_1 then some 1 else bif decide (x < x_1) then some (-1) else bif decide (x_1 < x) then some 1 else some 0
theorem E_cmp_Compare_uint64 (N : Nat) : runF Try.prog [e_cmp_isNaN_uint64 N] [] N Try.f111 .lf [(.int .u64), (.int .u64)] [(.int .i64)] = F_cmp_Compare_uint64 N := by kernel_rfl
def e_cmp_Compare_uint64 (N : Nat) : Ent Try.prog := mkFn 111 Try.f111 .lf [(.int .u64), (.int .u64)] [(.int .i64)] (F_cmp_Compare_uint64 N) mixed Try.func111 (.mk' Try.func111 rfl (by decide)) rfl (E_cmp_Compare_uint64 N)
/-- epitaph/dot.Cmp -/
def F_dot_Cmp (N : Nat) : Fun [tDot, tDot] (Option (ResT [(.int .i64)])) :=
  fun (x x_1 : Int × Int) =>
  Option.bind (F_cmp_Compare_uint16 N x.fst x_1.fst) fun (y : Int) =>
    bif y != 0 then some y else Option.bind (F_cmp_Compare_uint64 N x.snd x_1.snd) fun (y : Int) => some y
theorem E_dot_Cmp (N : Nat) : runF Try.prog [e_cmp_Compare_uint16 N, e_cmp_Compare_uint64 N] [] N Try.f81 .lf [tDot, tDot] [(.int .i64)] = F_dot_Cmp N := by kernel_rfl
def e_dot_Cmp (N : Nat) : Ent Try.prog := mkFn 81 Try.f81 .lf [tDot, tDot] [(.int .i64)] (F_dot_Cmp N) mixed Try.func81 (.mk' Try.func81 rfl (by decide)) rfl (E_dot_Cmp N)
def F0_slices_Compact_sDot_Dot (N : Nat) : FunA [] (Option (ResT (rkTys tDot [.s]))) :=
  some []
theorem E0_slices_Compact_sDot_Dot (N : Nat) : runO0 Try.prog [] [] N Try.f113 .lf tDot [] [.s] = F0_slices_Compact_sDot_Dot N := by kernel_rfl
/-- slices.Compact[[]epitaph/api.Dot,epitaph/api.Dot] -/
def F_slices_Compact_sDot_Dot (N : Nat) : List tDot.T → Nat → FunA [] (Option (List tDot.T × ResO [.s])) :=
  fun (l : List (Int × Int)) (n : Nat) =>
  bif decide ((↑n : Int) < 2) then some (l, n)
  else
    iter
      (fun (rec : (Int × Unit) × Unit × Unit × List (Int × Int) × Unit → Option (List (Int × Int) × Nat))
          (z : (Int × Unit) × Unit × Unit × List (Int × Int) × Unit) =>
        bif decide (z.fst.fst < (↑n : Int)) then
          bif decide (0 ≤ z.fst.fst) && decide (z.fst.fst < (↑n : Int)) then
            z.snd.snd.snd.fst[0 + z.fst.fst.toNat]?.bind fun (e : Int × Int) =>
              bif
                  decide (0 ≤ IntKind.i64.wrap (z.fst.fst - 1)) &&
                    decide (IntKind.i64.wrap (z.fst.fst - 1) < (↑n : Int)) then
                z.snd.snd.snd.fst[0 + (IntKind.i64.wrap (z.fst.fst - 1)).toNat]?.bind fun (e_1 : Int × Int) =>
                  bif e.fst == e_1.fst && e.snd == e_1.snd then
                    bif cutOk z.fst.fst (↑n : Int) n then
                      iter
                        (fun
                            (rec :
                              (Int × Int × Unit) × Unit × Unit × List (Int × Int) × Unit →
                                Option (List (Int × Int) × Nat))
                            (z_1 : (Int × Int × Unit) × Unit × Unit × List (Int × Int) × Unit) =>
                          bif decide (z_1.fst.snd.fst < (↑((↑n : Int).toNat - z.fst.fst.toNat) : Int)) then
                            bif
                                decide (0 ≤ z_1.fst.snd.fst) &&
                                  decide (z_1.fst.snd.fst < (↑((↑n : Int).toNat - z.fst.fst.toNat) : Int)) then
                              z_1.snd.snd.snd.fst[0 + z.fst.fst.toNat + z_1.fst.snd.fst.toNat]?.bind
                                fun (e : Int × Int) =>
                                bif
                                    decide (0 ≤ IntKind.i64.wrap (z_1.fst.snd.fst - 1)) &&
                                      decide
                                        (IntKind.i64.wrap (z_1.fst.snd.fst - 1) <
                                          (↑((↑n : Int).toNat - z.fst.fst.toNat) : Int)) then
                                  z_1.snd.snd.snd.fst[0 + z.fst.fst.toNat +
                                          (IntKind.i64.wrap (z_1.fst.snd.fst - 1)).toNat]?.bind
                                    fun (e_2 : Int × Int) =>
                                    bif !(e.fst == e_2.fst && e.snd == e_2.snd) then
                                      bif
                                          decide (0 ≤ z_1.fst.snd.fst) &&
                                            decide
                                              (z_1.fst.snd.fst < (↑((↑n : Int).toNat - z.fst.fst.toNat) : Int)) then
                                        z_1.snd.snd.snd.fst[0 + z.fst.fst.toNat + z_1.fst.snd.fst.toNat]?.bind
                                          fun (e : Int × Int) =>
                                          bif decide (0 ≤ z_1.fst.fst) && decide (z_1.fst.fst < (↑n : Int)) then
                                            z_1.snd.snd.snd.fst[0 + z_1.fst.fst.toNat]?.bind fun (e_3 : Int × Int) =>
                                              rec
                                                ((IntKind.i64.wrap (z_1.fst.fst + 1),
                                                    IntKind.i64.wrap (z_1.fst.snd.fst + 1), ()),
                                                  (), (), z_1.snd.snd.snd.fst.set (0 + z_1.fst.fst.toNat) e, ())
                                          else none
                                      else none
                                    else
                                      rec
                                        ((z_1.fst.fst, IntKind.i64.wrap (z_1.fst.snd.fst + 1), ()), (), (),
                                          z_1.snd.snd.snd.fst, ())
                                else none
                            else none
                          else
                            bif cutOk z_1.fst.fst (↑n : Int) n then
                              bif cutOk 0 z_1.fst.fst n then
                                some (List.take (0 + z_1.fst.fst.toNat) z_1.snd.snd.snd.fst, z_1.fst.fst.toNat - 0)
                              else none
                            else none)
                        N ((z.fst.fst, 1, ()), (), (), z.snd.snd.snd.fst, ())
                    else none
                  else rec ((IntKind.i64.wrap (z.fst.fst + 1), ()), (), (), z.snd.snd.snd.fst, ())
              else none
          else none
        else some (z.snd.snd.snd.fst, n))
      N ((1, ()), (), (), l, ())
theorem E_slices_Compact_sDot_Dot (N : Nat) : runO Try.prog [] [] N Try.f113 (.seq .lf (.seq .lf (.seq (.seq .lf (.blk (.loop ⟨[(3, .d (.int .i64))], [], [0], [], [], [(1, tDot)]⟩ (.seq .lf (.seq (.blk (.seq .lf (.cond (.seq .lf (.seq (.seq .lf (.blk (.loop ⟨[(3, .d (.int .i64)), (5, .d (.int .i64))], [], [0, 4], [], [], [(1, tDot)]⟩ .lf))) .lf)) .lf))) .lf))))) .lf))) tDot [] [.s] = F_slices_Compact_sDot_Dot N := by kernel_rfl
def e_slices_Compact_sDot_Dot (N : Nat) : Ent Try.prog := mkO2 113 Try.f113 (.seq .lf (.seq .lf (.seq (.seq .lf (.blk (.loop ⟨[(3, .d (.int .i64))], [], [0], [], [], [(1, tDot)]⟩ (.seq .lf (.seq (.blk (.seq .lf (.cond (.seq .lf (.seq (.seq .lf (.blk (.loop ⟨[(3, .d (.int .i64)), (5, .d (.int .i64))], [], [0, 4], [], [], [(1, tDot)]⟩ .lf))) .lf)) .lf))) .lf))))) .lf))) .lf tDot [] [.s] (F_slices_Compact_sDot_Dot N) (F0_slices_Compact_sDot_Dot N) mixed Try.func113 (.mk' Try.func113 rfl (by decide)) rfl (E_slices_Compact_sDot_Dot N) (E0_slices_Compact_sDot_Dot N)
end Go.Proofs.Xg
/-
  slices.SortFunc, by the library's contract.
-/
set_option linter.unusedVariables false
set_option linter.unusedSimpArgs false
namespace Go.Xl
open Go.Ab Go.Sort Go.Proofs Go.Shelf Go.RowKit Go.Lib

theorem Ty.Plain.one {t : Ty} (h : t.Plain) (x : t.T) : ∀ v ∈ t.vals x, v.oneCell' = true := by
  intro v hv
  have h1 : D.sc v ∈ t.ds x := by rw [← h.vals x]; exact List.mem_map_of_mem (f := D.sc) hv
  have := t.ds_one x _ h1
  simpa [oneD] using this

theorem Ty.Plain.ra {t : Ty} (h : t.Plain) (ha : t.agg = true) (x : t.T) (g : Gh) (w : World) : RA g w (XV.d (t.xv x)).a (.agg (t.vals x).toArray) := by
  have e : (XV.d (t.xv x)).a = .d (.agg ((t.vals x).map .sc)) := by
    show AV.d (t.dv x) = _
    rw [t.dv_agg x ha, h.vals]
  rw [e]
  refine .d _ _ (.agg _ _ (by simp) ?_)
  intro i c v hc hv
  rw [List.getElem?_map, Option.map_eq_some_iff] at hc
  obtain ⟨u, hu, rfl⟩ := hc
  simp only [List.getElem?_toArray] at hv
  rw [hu] at hv
  cases hv
  exact .sc _

/-- at structs -/
theorem sorts_structs {P : Program} {ρ : Ren} (L : SlLaysF0.n6 P ρ) {f c : FuncId} (hf : ρ.f 6 = f) {T : Ty} (hp : T.Plain) (hagg : T.agg = true) (aE : ∀ w, (isAgg (ρ.t 24)).run P w = .ok true w) (zE : ∀ w, (Go.sizeOf (ρ.t 24)).run P w = .ok T.size w)
    (hci : CallI P f) (cf : T.T → T.T → Int) (hO : SWO (ltOf cf)) (hT : ∀ x y, (ltOf cf) x y = false → (ltOf cf) y x = false → x = y) (hcc : CallI P c)
    (hcmp : ∀ x y, Does P c (asOf [.d (T.xv x), .d (T.xv y)]) X0 (.d (.sc (.int .i64 (cf x y)))) X0) : Sorts P f c T (fun d => d.mergeSort fun x y => !(ltOf cf) y x) where
  plain := hp
  ci := hci
  len d := by simp
  none p cap w := by
    have := AnyF.slices_SortFunc_none L p cap (.func (.func c) #[] #[]) w
    rw [hf] at this; exact this
  some l blk cap w hl hH hblk := by
    have hlays : CmpLays P c #[] T.vals T.size cf blk 0 l.toArray.size w := by
      intro m os dk hs x y
      have := (hcmp x y).grown (w := sortWorldK T.vals T.size w blk 0 m dk os) (vs := #[.agg (T.vals x).toArray, .agg (T.vals y).toArray]) rfl (by
        intro i z v hz hv
        match i with
        | 0 => simp [asOf] at hz hv; subst hz; subst hv; exact hp.ra hagg x _ _
        | 1 => simp [asOf] at hz hv; subst hz; subst hv; exact hp.ra hagg y _ _
        | n + 2 => simp [asOf] at hz)
      simpa using this
    have := AnyQ.slices_SortFunc_total L T.size aE zE T.vals T.vals_length hp.one cf hO c #[] blk 0 cap l.toArray w (run_callFunc hcc) hlays hH hblk (by simp; omega) hT
    rw [hf] at this
    simpa using this

end Go.Xl
/- slices.SortFunc at dots: the shelf's contract, laid (written by the kit's lay-plain) -/
set_option maxRecDepth 100000
namespace Go.Proofs
open Go.Shelf
def Try.sortDot_ren : Go.Shelf.Ren := ⟨fun | 6 => 112 | 15 => 108 | 14 => 144 | 28 => 138 | 29 => 139 | 20 => 167 | 21 => 168 | 22 => 169 | 23 => 170 | 24 => 171 | 25 => 172 | 26 => 173 | 27 => 174 | 46 => 193 | 47 => 162 | 48 => 163 | 49 => 194 | 50 => 195 | 57 => 203 | n => n, fun | 22 => 26 | 24 => 25 | 25 => 52 | 3 => 3 | 39 => 117 | 0 => 0 | 53 => 145 | 55 => 23 | 4 => 4 | 46 => 137 | 45 => 136 | 50 => 142 | 5 => 5 | 9 => 9 | 66 => 169 | 70 => 173 | 76 => 191 | 77 => 192 | n => n, fun | n => n⟩
theorem Try.sortDot : Go.Proofs.SlLaysF0.n6 Try.prog Try.sortDot_ren := {
  mixed := by kernel_rfl
  f6 := ⟨Try.f112.name, by decide, Try.func112.trans (congrArg some (by kernel_rfl))⟩
  f14 := ⟨Try.f144.name, by decide, Try.func144.trans (congrArg some (by kernel_rfl))⟩
  f15 := Try.func108.trans (congrArg some (by kernel_rfl))
  f20 := ⟨Try.f167.name, by decide, Try.func167.trans (congrArg some (by kernel_rfl))⟩
  f21 := ⟨Try.f168.name, by decide, Try.func168.trans (congrArg some (by kernel_rfl))⟩
  f22 := ⟨Try.f169.name, by decide, Try.func169.trans (congrArg some (by kernel_rfl))⟩
  f23 := ⟨Try.f170.name, by decide, Try.func170.trans (congrArg some (by kernel_rfl))⟩
  f24 := ⟨Try.f171.name, by decide, Try.func171.trans (congrArg some (by kernel_rfl))⟩
  f25 := ⟨Try.f172.name, by decide, Try.func172.trans (congrArg some (by kernel_rfl))⟩
  f26 := ⟨Try.f173.name, by decide, Try.func173.trans (congrArg some (by kernel_rfl))⟩
  f27 := ⟨Try.f174.name, by decide, Try.func174.trans (congrArg some (by kernel_rfl))⟩
  f28 := Try.func138.trans (congrArg some (by kernel_rfl))
  f29 := Try.func139.trans (congrArg some (by kernel_rfl))
  f46 := ⟨Try.f193.name, by decide, Try.func193.trans (congrArg some (by kernel_rfl))⟩
  f47 := Try.func162.trans (congrArg some (by kernel_rfl))
  f48 := Try.func163.trans (congrArg some (by kernel_rfl))
  f49 := ⟨Try.f194.name, by decide, Try.func194.trans (congrArg some (by kernel_rfl))⟩
  f50 := ⟨Try.f195.name, by decide, Try.func195.trans (congrArg some (by kernel_rfl))⟩
  f57 := ⟨Try.f203.name, by decide, Try.func203.trans (congrArg some (by kernel_rfl))⟩
  t0 := Try.underlying0
  a0 := Try.isAgg0
  z0 := Try.sizeOf0
  v0 := Try.zeroValue0
  t3 := Try.underlying3
  a3 := Try.isAgg3
  z3 := Try.sizeOf3
  v3 := Try.zeroValue3
  t4 := Try.underlying4
  a4 := Try.isAgg4
  z4 := Try.sizeOf4
  v4 := Try.zeroValue4
  t5 := Try.underlying5
  a5 := Try.isAgg5
  z5 := Try.sizeOf5
  v5 := Try.zeroValue5
  t9 := Try.underlying9
  a9 := Try.isAgg9
  z9 := Try.sizeOf9
  v9 := Try.zeroValue9
  t22 := Try.underlying26
  a22 := Try.isAgg26
  z22 := Try.sizeOf26
  v22 := Try.zeroValue26
  t25 := Try.underlying52
  a25 := Try.isAgg52
  z25 := Try.sizeOf52
  v25 := Try.zeroValue52
  t39 := Try.underlying117
  a39 := Try.isAgg117
  z39 := Try.sizeOf117
  v39 := Try.zeroValue117
  t45 := Try.underlying136
  a45 := Try.isAgg136
  z45 := Try.sizeOf136
  v45 := Try.zeroValue136
  t46 := Try.underlying137
  a46 := Try.isAgg137
  z46 := Try.sizeOf137
  v46 := Try.zeroValue137
  t50 := Try.underlying142
  a50 := Try.isAgg142
  z50 := Try.sizeOf142
  v50 := Try.zeroValue142
  t53 := Try.underlying145
  a53 := Try.isAgg145
  z53 := Try.sizeOf145
  v53 := Try.zeroValue145
  t55 := Try.underlying23
  a55 := Try.isAgg23
  z55 := Try.sizeOf23
  v55 := Try.zeroValue23
  t66 := Try.underlying169
  a66 := Try.isAgg169
  z66 := Try.sizeOf169
  v66 := Try.zeroValue169
  t70 := Try.underlying173
  a70 := Try.isAgg173
  z70 := Try.sizeOf173
  v70 := Try.zeroValue173
  t76 := Try.underlying191
  a76 := Try.isAgg191
  z76 := Try.sizeOf191
  v76 := Try.zeroValue191
  t77 := Try.underlying192
  a77 := Try.isAgg192
  z77 := Try.sizeOf192
  v77 := Try.zeroValue192 }
end Go.Proofs
/-
  Plain laws on what the interpreter leaves: rounds, elements, sizes.
-/
set_option linter.unusedVariables false
set_option linter.unusedSimpArgs false
namespace Go.Xl

/-- rounds come to what G says, if each one does, given that the later ones do -/
theorem iter_eq {σ R : Type} {f : (σ → Option R) → σ → Option R} {G : σ → Option R} (I : Nat → σ → Prop)
    (step : ∀ (n : Nat) (x : σ) (rec : σ → Option R), I n x → (∀ (m : Nat) (y : σ), m < n → I m y → rec y = G y) → f rec x = G x) :
    ∀ (N n : Nat) (x : σ), I n x → n < N → iter f N x = G x
  | 0, n, x, _, h => absurd h (Nat.not_lt_zero _)
  | N + 1, n, x, hi, h => by
    simp only [iter]
    exact step n x _ hi fun m y hm hy => iter_eq I step N m y hy (by omega)

/-- rounds come to something good, if each one does, given that the later ones do -/
theorem iter_ok {σ R : Type} {f : (σ → Option R) → σ → Option R} {Q : R → Prop} (I : Nat → σ → Prop)
    (step : ∀ (n : Nat) (x : σ) (rec : σ → Option R), I n x → (∀ (m : Nat) (y : σ), m < n → I m y → ∃ r, rec y = some r ∧ Q r) → ∃ r, f rec x = some r ∧ Q r) :
    ∀ (N n : Nat) (x : σ), I n x → n < N → ∃ r, iter f N x = some r ∧ Q r
  | 0, n, x, _, h => absurd h (Nat.not_lt_zero _)
  | N + 1, n, x, hi, h => by
    simp only [iter]
    exact step n x _ hi fun m y hm hy => iter_ok I step N m y hy (by omega)

@[simp] theorem at?_nat {α : Type} (l : List α) (n : Nat) : at? l (n : Int) = l[n]? := rfl

theorem i64_nat {n : Nat} (h : n < 9223372036854775808) : IntKind.i64.wrap (n : Int) = (n : Int) := by
  exact IntWalk.i64_in _ (by omega)

theorem i64_succ {n : Nat} (h : n + 1 < 9223372036854775808) : IntKind.i64.wrap ((n : Int) + 1) = ((n + 1 : Nat) : Int) := by
  rw [IntWalk.i64_in _ (by omega)]; rfl

theorem i64_pred {n : Nat} (h : 0 < n) (h' : n < 9223372036854775808) : IntKind.i64.wrap ((n : Int) - 1) = ((n - 1 : Nat) : Int) := by
  rw [IntWalk.i64_in _ (by omega)]; omega

/-- a loop that counts -/
theorem scan_eq {R : Type} (len : Nat) (g : Nat → Option R) {f : ((Int × Unit) × Unit × Unit × Unit → Option R) → (Int × Unit) × Unit × Unit × Unit → Option R} (start : Nat)
    (hs : ∀ (rec : (Int × Unit) × Unit × Unit × Unit → Option R) (k : Nat), start ≤ k → k < len → rec ((((k + 1 : Nat) : Int), ()), (), (), ()) = g (k + 1) → f rec (((k : Int), ()), (), (), ()) = g k)
    (he : ∀ rec (k : Nat), len ≤ k → f rec (((k : Int), ()), (), (), ()) = g k) (N : Nat) (hN : len < N) : iter f N (((start : Int), ()), (), (), ()) = g start := by
  have := iter_eq (f := f) (G := fun z => g z.1.1.toNat) (fun n z => ∃ k : Nat, z = (((k : Int), ()), (), (), ()) ∧ start ≤ k ∧ n = len - k) (by
    rintro n z rec ⟨k, rfl, h1, h2⟩ ih
    by_cases hk : k < len
    · exact hs rec k h1 hk (ih (len - (k + 1)) _ (by omega) ⟨k + 1, rfl, by omega, rfl⟩)
    · exact he rec k (by omega)) N (len - start) (((start : Int), ()), (), (), ()) ⟨start, rfl, Nat.le_refl _, rfl⟩ (by omega)
  exact this

theorem some_of {R : Type} {x : Option R} {t : R} (h : ∃ r, x = some r ∧ r = t) : x = some t := by
  obtain ⟨r, h1, rfl⟩ := h
  exact h1

/-- a loop that gathers -/
theorem fold_loop {A X R : Type} (l : List X) (g : A → X → A) (a0 : A) (fin : A → Option R) {f : ((A × Int × Unit) × Unit × Unit × Unit → Option R) → (A × Int × Unit) × Unit × Unit × Unit → Option R}
    (hs : ∀ (rec : (A × Int × Unit) × Unit × Unit × Unit → Option R) (k : Nat) (a : A) (hk : k < l.length), a = (l.take k).foldl g a0 → f rec ((a, (k : Int), ()), (), (), ()) = rec ((g a l[k], ((k + 1 : Nat) : Int), ()), (), (), ()))
    (he : ∀ (rec : (A × Int × Unit) × Unit × Unit × Unit → Option R), f rec ((l.foldl g a0, (l.length : Int), ()), (), (), ()) = fin (l.foldl g a0)) (N : Nat) (hN : l.length < N) : iter f N ((a0, 0, ()), (), (), ()) = fin (l.foldl g a0) := by
  have := iter_eq (f := f) (G := fun _ => fin (l.foldl g a0)) (fun n z => ∃ k : Nat, z = (((l.take k).foldl g a0, (k : Int), ()), (), (), ()) ∧ k ≤ l.length ∧ n = l.length - k) (by
    rintro n z rec ⟨k, rfl, h1, h2⟩ ih
    by_cases hk : k < l.length
    · rw [hs rec k _ hk rfl]
      refine ih (l.length - (k + 1)) _ (by omega) ⟨k + 1, ?_, by omega, rfl⟩
      have : l.take (k + 1) = l.take k ++ [l[k]] := by
        rw [List.take_add_one, List.getElem?_eq_getElem hk]; rfl
      rw [this, List.foldl_append]
      rfl
    · have : k = l.length := by omega
      subst this
      rw [List.take_length]
      exact he rec) N l.length ((a0, ((0 : Nat) : Int), ()), (), (), ()) ⟨0, by simp, by omega, rfl⟩ hN
  exact this

theorem foldl_filter {X : Type} (p : X → Bool) : ∀ (l a : List X), l.foldl (fun a x => cond (p x) (a ++ [x]) a) a = a ++ l.filter p
  | [], a => by simp
  | x :: r, a => by
    simp only [List.foldl_cons, List.filter_cons]
    rw [foldl_filter p r]
    cases p x <;> simp

theorem foldl_flatMap {X Y : Type} (h : X → List Y) : ∀ (l : List X) (a : List Y), l.foldl (fun a x => a ++ h x) a = a ++ l.flatMap h
  | [], a => by simp
  | x :: r, a => by
    simp only [List.foldl_cons, List.flatMap_cons]
    rw [foldl_flatMap h r]
    simp

theorem fit {n bytes : Nat} (h : n * bytes ≤ 140737488355328) (h2 : n ≤ 4611686018427387904) : fitsB n bytes = true := by
  simp only [fitsB, Bool.and_eq_true, decide_eq_true_eq]
  exact ⟨h, h2⟩

/-! lists in strict order -/

def SAsc {α : Type} (lt : α → α → Bool) (l : List α) : Prop := l.Pairwise fun a b => lt a b = true

theorem SAsc.ext {α : Type} {lt : α → α → Bool} (ha : ∀ x y, lt x y = true → lt y x = false) : ∀ {l m : List α}, SAsc lt l → SAsc lt m → (∀ x, x ∈ l ↔ x ∈ m) → l = m
  | [], [], _, _, _ => rfl
  | [], b :: m, _, _, h => by have := (h b).2 List.mem_cons_self; simp at this
  | a :: l, [], _, _, h => by have := (h a).1 List.mem_cons_self; simp at this
  | a :: l, b :: m, hl, hm, h => by
    have hl' := hl
    have hm' := hm
    simp only [SAsc, List.pairwise_cons] at hl' hm'
    have irr : ∀ x, lt x x = false := by
      intro x
      cases hx : lt x x with
      | false => rfl
      | true => have := ha x x hx; rw [hx] at this; cases this
    have hab : a = b := by
      rcases List.mem_cons.1 ((h a).1 List.mem_cons_self) with e | e
      · exact e
      · rcases List.mem_cons.1 ((h b).2 List.mem_cons_self) with e' | e'
        · exact e'.symm
        · have h1 := hm'.1 a e
          have h2 := hl'.1 b e'
          rw [ha _ _ h1] at h2; cases h2
    subst hab
    congr 1
    refine SAsc.ext ha hl'.2 hm'.2 fun x => ?_
    have hx := h x
    simp only [List.mem_cons] at hx
    constructor
    · intro hxl
      rcases hx.1 (.inr hxl) with e | e
      · subst e
        have := hl'.1 x hxl
        rw [irr] at this; cases this
      · exact e
    · intro hxm
      rcases hx.2 (.inr hxm) with e | e
      · subst e
        have := hm'.1 x hxm
        rw [irr] at this; cases this
      · exact e

/-- how long a slice may be -/
def Fit (N : Nat) : Prop := 9223372036854775808 ≤ N

end Go.Xl
/-
  Dots are put in order: slices.Clone, slices.SortFunc at dots.
-/
set_option maxRecDepth 100000
set_option linter.unusedVariables false
namespace Go.Proofs.Xg
open Go Go.Xl Go.Ab Go.Proofs Go.Sort
theorem Clone_Dot (N : Nat) : SndA (NewS Try.prog 78 tDot) [.d (.sl tDot)] (cloneF tDot 16) [] :=
  clone_sound (own := [5, 7]) (N := N) (an := .lf) mixed Try.func78 rfl (fun y r => by kernel_rfl) (by kernel_rfl) (fun a cap => by kernel_rfl)
def e_slices_Clone_sDot_Dot (N : Nat) : Ent Try.prog := mkNS 78 tDot [.d (.sl tDot)] (cloneF tDot 16) (.mk' Try.func78 rfl (by decide)) (Clone_Dot N)
/-- the order of dots -/
def cfDot (x y : Int × Int) : Int := if x.1 < y.1 then -1 else if y.1 < x.1 then 1 else if x.2 < y.2 then -1 else if y.2 < x.2 then 1 else 0
theorem Cmp_eq (N : Nat) (x y : Int × Int) : F_dot_Cmp N x y = some (cfDot x y) := by
  simp only [F_dot_Cmp, F_cmp_Compare_uint16, F_cmp_Compare_uint64, F_cmp_isNaN_uint16, F_cmp_isNaN_uint64, cfDot, cond_eq_ite, Option.bind_some]
  grind
theorem Cmp_does (x y : Int × Int) : Does Try.prog 81 (asOf [.d (tDot.xv x), .d (tDot.xv y)]) X0 (.d (.sc (.int .i64 (cfDot x y)))) X0 :=
  (runF_sound (Γ := [e_cmp_Compare_uint16 0, e_cmp_Compare_uint64 0]) (own := []) (N := 0) (an := .lf) (args := [tDot, tDot]) (res := [.int .i64]) mixed Try.func81 rfl) x y _ ((congrFun (congrFun (E_dot_Cmp 0) x) y).trans (Cmp_eq 0 x y))
theorem dot_lt (x y : Int × Int) : ltOf cfDot x y = decide (x.1 < y.1 ∨ x.1 = y.1 ∧ x.2 < y.2) := by
  unfold ltOf cfDot
  grind
theorem dot_swo : SWO (ltOf cfDot) where
  irrefl x := by rw [dot_lt]; simp
  trans x y z h1 h2 := by rw [dot_lt] at *; simp at *; omega
  ntrans x y z h1 h2 := by rw [dot_lt] at *; simp at *; omega
theorem dot_total (x y : Int × Int) (h1 : ltOf cfDot x y = false) (h2 : ltOf cfDot y x = false) : x = y := by
  rw [dot_lt] at *; simp at *
  obtain ⟨a, b⟩ := x; obtain ⟨c, d⟩ := y
  simp at *; omega
theorem dot_plain : tDot.Plain := ⟨fun x => rfl⟩
/-- slices.SortFunc -/
def F_SortFunc_Dot (d : List (Int × Int)) : List (Int × Int) := d.mergeSort fun x y => !(ltOf cfDot) y x
theorem Sorts_Dot : Sorts Try.prog 112 81 tDot F_SortFunc_Dot :=
  sorts_structs Try.sortDot (by kernel_rfl) dot_plain rfl Try.isAgg25 Try.sizeOf25 (.mk' Try.func112 rfl (by decide)) cfDot dot_swo dot_total (.mk' Try.func81 rfl (by decide)) Cmp_does
def e_slices_SortFunc_sDot_Dot (N : Nat) : Ent Try.prog := mkSort Sorts_Dot
end Go.Proofs.Xg
set_option linter.unusedVariables false
set_option maxRecDepth 100000
namespace Go.Proofs.Xg
open Go Go.Xl Go.Ab Go.Proofs




/-- epitaph/dot.Sort -/
def F_dot_Sort (N : Nat) : Fun [(.sl tDot)] (Option (ResT [(.sl tDot)])) :=
  fun (x : List (Int × Int)) =>
  (listCase x (some none) fun (y : Xg.tDot.T) (r : List Xg.tDot.T) =>
        bif fitsB (y :: r).length 16 then some (some (y :: r, (y :: r).length)) else none).bind
    fun (y : Option (List (Int × Int) × Nat)) =>
    optCase y (Option.bind (F0_slices_Compact_sDot_Dot N) fun (y : List (Int × Int)) => some y)
      fun (z : List (Int × Int) × Nat) =>
      bif z.snd.ble z.fst.length then
        bif z.snd.ble 4611686018427387903 then
          Option.bind
            (F_slices_Compact_sDot_Dot N (F_SortFunc_Dot (List.take z.snd z.fst) ++ List.drop z.snd z.fst) z.snd)
            fun (y : List (Int × Int) × Nat) =>
            bif (0 + y.snd).ble y.fst.length then some (List.take y.snd (List.drop 0 y.fst)) else none
        else none
      else none
theorem E_dot_Sort (N : Nat) : runF Try.prog [e_slices_Clone_sDot_Dot N, e_dot_Cmp N, e_slices_SortFunc_sDot_Dot N, e_slices_Compact_sDot_Dot N] [] N Try.f84 .lf [(.sl tDot)] [(.sl tDot)] = F_dot_Sort N := by kernel_rfl
def e_dot_Sort (N : Nat) : Ent Try.prog := mkFn 84 Try.f84 .lf [(.sl tDot)] [(.sl tDot)] (F_dot_Sort N) mixed Try.func84 (.mk' Try.func84 rfl (by decide)) rfl (E_dot_Sort N)
end Go.Proofs.Xg
set_option linter.unusedVariables false
set_option maxRecDepth 100000
namespace Go.Proofs.Xg
open Go Go.Xl Go.Ab Go.Proofs
@[reducible] def tEvent : Ty := (.pair tDot (.pair .u8 (.pair (.int .u64) (.pair .u8 (.pair .str (.sl tDot))))))
/-- epitaph/epitaphref13.Few -/
def F_epitaphref13_Few (N : Nat) : Fun [(.sl tEvent), (.int .i64)] (Option (ResT [.bool])) :=
  fun (x : List ((Int × Int) × UInt8 × Int × UInt8 × List UInt8 × List (Int × Int))) (x_1 : Int) =>
  bif decide (x_1 < (↑x.length : Int)) then some false
  else
    iter
      (fun (rec : (Int × Unit) × Unit × Unit × Unit → Option Bool) (z : (Int × Unit) × Unit × Unit × Unit) =>
        bif decide (z.fst.fst < (↑x.length : Int)) then
          (at? x z.fst.fst).bind fun (e : (Int × Int) × UInt8 × Int × UInt8 × List UInt8 × List (Int × Int)) =>
            bif decide (300 < (↑e.snd.snd.snd.snd.snd.length : Int)) then some false
            else
              (at? x z.fst.fst).bind fun (e : (Int × Int) × UInt8 × Int × UInt8 × List UInt8 × List (Int × Int)) =>
                bif decide (200 < (↑e.snd.snd.snd.snd.fst.length : Int)) then some false
                else rec ((IntKind.i64.wrap (z.fst.fst + 1), ()), (), (), ())
        else some true)
      N ((0, ()), (), (), ())
theorem E_epitaphref13_Few (N : Nat) : runF Try.prog [] [] N Try.f12 (.seq .lf (.seq .lf (.seq (.seq .lf (.blk (.loop ⟨[(5, .d (.int .i64))], [], [0], [], [], []⟩ .lf))) .lf))) [(.sl tEvent), (.int .i64)] [.bool] = F_epitaphref13_Few N := by kernel_rfl
def e_epitaphref13_Few (N : Nat) : Ent Try.prog := mkFn 12 Try.f12 (.seq .lf (.seq .lf (.seq (.seq .lf (.blk (.loop ⟨[(5, .d (.int .i64))], [], [0], [], [], []⟩ .lf))) .lf))) [(.sl tEvent), (.int .i64)] [.bool] (F_epitaphref13_Few N) mixed Try.func12 (.mk' Try.func12 rfl (by decide)) rfl (E_epitaphref13_Few N)

/-- epitaph/event.Dots -/
def F_event_Dots (N : Nat) : Fun [(.sl tEvent)] (Option (ResT [(.sl tDot)])) :=
  fun (x : List ((Int × Int) × UInt8 × Int × UInt8 × List UInt8 × List (Int × Int))) =>
  iter
    (fun (rec : (List (Int × Int) × Int × Unit) × Unit × Unit × Unit → Option (List (Int × Int)))
        (z : (List (Int × Int) × Int × Unit) × Unit × Unit × Unit) =>
      bif decide (z.fst.snd.fst < (↑x.length : Int)) then
        (at? x z.fst.snd.fst).bind fun (e : (Int × Int) × UInt8 × Int × UInt8 × List UInt8 × List (Int × Int)) =>
          bif fitsB (z.fst.fst.length + [e.fst].length) 16 then
            bif fitsB ((z.fst.fst ++ [e.fst]).length + e.snd.snd.snd.snd.snd.length) 16 then
              rec
                ((z.fst.fst ++ [e.fst] ++ e.snd.snd.snd.snd.snd, IntKind.i64.wrap (z.fst.snd.fst + 1), ()), (), (), ())
            else none
          else none
      else Option.bind (F_dot_Sort N z.fst.fst) fun (y : List (Int × Int)) => some y)
    N (([], 0, ()), (), (), ())
theorem E_event_Dots (N : Nat) : runF Try.prog [e_dot_Sort N] [] N Try.f32 (.seq .lf (.seq .lf (.seq (.seq .lf (.blk (.loop ⟨[(3, .tip 200003 tDot none), (8, .d (.int .i64))], [], [6, 7], [], [], []⟩ .lf))) .lf))) [(.sl tEvent)] [(.sl tDot)] = F_event_Dots N := by kernel_rfl
def e_event_Dots (N : Nat) : Ent Try.prog := mkFn 32 Try.f32 (.seq .lf (.seq .lf (.seq (.seq .lf (.blk (.loop ⟨[(3, .tip 200003 tDot none), (8, .d (.int .i64))], [], [6, 7], [], [], []⟩ .lf))) .lf))) [(.sl tEvent)] [(.sl tDot)] (F_event_Dots N) mixed Try.func32 (.mk' Try.func32 rfl (by decide)) rfl (E_event_Dots N)
/-- epitaph/epitaphref07.Same -/
def F_epitaphref07_Same (N : Nat) : Fun [(.sl tDot), (.sl tDot)] (Option (ResT [.bool])) :=
  fun (x x_1 : List (Int × Int)) =>
  bif (↑x.length : Int) != (↑x_1.length : Int) then some false
  else
    iter
      (fun (rec : (Int × Unit) × Unit × Unit × Unit → Option Bool) (z : (Int × Unit) × Unit × Unit × Unit) =>
        bif decide (z.fst.fst < (↑x.length : Int)) then
          (at? x z.fst.fst).bind fun (e : Int × Int) =>
            (at? x_1 z.fst.fst).bind fun (e_1 : Int × Int) =>
              bif !(e.fst == e_1.fst && e.snd == e_1.snd) then some false
              else rec ((IntKind.i64.wrap (z.fst.fst + 1), ()), (), (), ())
        else some true)
      N ((0, ()), (), (), ())
theorem E_epitaphref07_Same (N : Nat) : runF Try.prog [] [] N Try.f35 (.seq .lf (.seq .lf (.seq (.seq .lf (.blk (.loop ⟨[(5, .d (.int .i64))], [], [0, 1], [], [], []⟩ .lf))) .lf))) [(.sl tDot), (.sl tDot)] [.bool] = F_epitaphref07_Same N := by kernel_rfl
def e_epitaphref07_Same (N : Nat) : Ent Try.prog := mkFn 35 Try.f35 (.seq .lf (.seq .lf (.seq (.seq .lf (.blk (.loop ⟨[(5, .d (.int .i64))], [], [0, 1], [], [], []⟩ .lf))) .lf))) [(.sl tDot), (.sl tDot)] [.bool] (F_epitaphref07_Same N) mixed Try.func35 (.mk' Try.func35 rfl (by decide)) rfl (E_epitaphref07_Same N)
/-- epitaph/epitaphlaw13.works -/
def F_epitaphlaw13_works (N : Nat) : Fun [] (Option (ResT [.bool])) :=
  Option.bind (F_event_Dots N [((2, 1), 1, 0, 0, [], [(1, 4), (1, 9)])]) fun (y : List (Int × Int)) =>
    Option.bind (F_epitaphref07_Same N y [(1, 4), (1, 9), (2, 1)]) fun (y : Bool) => some y
theorem E_epitaphlaw13_works (N : Nat) : runF Try.prog [e_event_Dots N, e_epitaphref07_Same N] [] N Try.f13 .lf [] [.bool] = F_epitaphlaw13_works N := by kernel_rfl
def e_epitaphlaw13_works (N : Nat) : Ent Try.prog := mkFn 13 Try.f13 .lf [] [.bool] (F_epitaphlaw13_works N) mixed Try.func13 (.mk' Try.func13 rfl (by decide)) rfl (E_epitaphlaw13_works N)
/-- epitaph/dot.Good -/
def F_dot_Good (N : Nat) : Fun [tDot] (Option (ResT [.bool])) :=
  fun (x : Int × Int) =>
  bif decide (0 < x.fst) then bif decide (0 < x.snd) then some (decide (x.snd ≤ 281474976710655)) else some false
  else some false
theorem E_dot_Good (N : Nat) : runF Try.prog [] [] N Try.f57 .lf [tDot] [.bool] = F_dot_Good N := by kernel_rfl
def e_dot_Good (N : Nat) : Ent Try.prog := mkFn 57 Try.f57 .lf [tDot] [.bool] (F_dot_Good N) mixed Try.func57 (.mk' Try.func57 rfl (by decide)) rfl (E_dot_Good N)
/-- epitaph/shift.Split -/
def F_shift_Split (N : Nat) : Fun [(.int .u64)] (Option (ResT [(.int .u16), (.int .u64)])) :=
  fun (x : Int) =>
  some (IntKind.u16.wrap (x.fdiv 281474976710656), bits BinOp.and IntKind.u64 x 281474976710655)
theorem E_shift_Split (N : Nat) : runF Try.prog [] [] N Try.f93 .lf [(.int .u64)] [(.int .u16), (.int .u64)] = F_shift_Split N := by kernel_rfl
def e_shift_Split (N : Nat) : Ent Try.prog := mkFn 93 Try.f93 .lf [(.int .u64)] [(.int .u16), (.int .u64)] (F_shift_Split N) mixed Try.func93 (.mk' Try.func93 rfl (by decide)) rfl (E_shift_Split N)
/-- epitaph/dot.Unpack -/
def F_dot_Unpack (N : Nat) : Fun [(.int .u64)] (Option (ResT [tDot, .bool])) :=
  fun (x : Int) =>
  Option.bind (F_shift_Split N x) fun (y : Int × Int) =>
    Option.bind (F_dot_Good N y) fun (y_1 : Bool) => bif !y_1 then some ((0, 0), false) else some (y, true)
theorem E_dot_Unpack (N : Nat) : runF Try.prog [e_dot_Good N, e_shift_Split N] [] N Try.f56 .lf [(.int .u64)] [tDot, .bool] = F_dot_Unpack N := by kernel_rfl
def e_dot_Unpack (N : Nat) : Ent Try.prog := mkFn 56 Try.f56 .lf [(.int .u64)] [tDot, .bool] (F_dot_Unpack N) mixed Try.func56 (.mk' Try.func56 rfl (by decide)) rfl (E_dot_Unpack N)
/-- epitaph/field.Good -/
def F_field_Good (N : Nat) : Fun [.u8] (Option (ResT [.bool])) :=
  fun (x : UInt8) => bif decide (1 ≤ x) then some (decide (x ≤ 5)) else some false
theorem E_field_Good (N : Nat) : runF Try.prog [] [] N Try.f58 .lf [.u8] [.bool] = F_field_Good N := by kernel_rfl
def e_field_Good (N : Nat) : Ent Try.prog := mkFn 58 Try.f58 .lf [.u8] [.bool] (F_field_Good N) mixed Try.func58 (.mk' Try.func58 rfl (by decide)) rfl (E_field_Good N)
/-- epitaph/field.Text -/
def F_field_Text (N : Nat) : Fun [.str] (Option (ResT [.bool])) :=
  fun (x : List UInt8) =>
  bif decide (60 < (↑x.length : Int)) then some false
  else
    iter
      (fun (rec : (Int × Unit) × Unit × Unit × Unit → Option Bool) (z : (Int × Unit) × Unit × Unit × Unit) =>
        bif decide (z.fst.fst < (↑x.length : Int)) then
          (at? x z.fst.fst).bind fun (c : UInt8) =>
            bif decide (c < 32) then some false
            else
              (at? x z.fst.fst).bind fun (c : UInt8) =>
                bif decide (126 < c) then some false else rec ((IntKind.i64.wrap (z.fst.fst + 1), ()), (), (), ())
        else some true)
      N ((0, ()), (), (), ())
theorem E_field_Text (N : Nat) : runF Try.prog [] [] N Try.f59 (.seq .lf (.seq .lf (.seq (.seq .lf (.blk (.loop ⟨[(9, .d (.int .i64))], [], [0, 8], [], [], []⟩ .lf))) .lf))) [.str] [.bool] = F_field_Text N := by kernel_rfl
def e_field_Text (N : Nat) : Ent Try.prog := mkFn 59 Try.f59 (.seq .lf (.seq .lf (.seq (.seq .lf (.blk (.loop ⟨[(9, .d (.int .i64))], [], [0, 8], [], [], []⟩ .lf))) .lf))) [.str] [.bool] (F_field_Text N) mixed Try.func59 (.mk' Try.func59 rfl (by decide)) rfl (E_field_Text N)

/-- epitaph/dot.Rising -/
def F_dot_Rising (N : Nat) : Fun [(.sl tDot)] (Option (ResT [.bool])) :=
  fun (x : List (Int × Int)) =>
  iter
    (fun (rec : (Int × Unit) × Unit × Unit × Unit → Option Bool) (z : (Int × Unit) × Unit × Unit × Unit) =>
      bif decide (z.fst.fst < (↑x.length : Int)) then
        bif decide (0 < z.fst.fst) then
          (at? x (IntKind.i64.wrap (z.fst.fst - 1))).bind fun (e : Int × Int) =>
            (at? x z.fst.fst).bind fun (e_1 : Int × Int) =>
              Option.bind (F_dot_Cmp N e e_1) fun (y : Int) =>
                bif decide (0 ≤ y) then some false else rec ((IntKind.i64.wrap (z.fst.fst + 1), ()), (), (), ())
        else rec ((IntKind.i64.wrap (z.fst.fst + 1), ()), (), (), ())
      else some true)
    N ((0, ()), (), (), ())
theorem E_dot_Rising (N : Nat) : runF Try.prog [e_dot_Cmp N] [] N Try.f60 (.seq .lf (.seq (.seq .lf (.blk (.loop ⟨[(6, .d (.int .i64))], [], [0, 5], [], [], []⟩ .lf))) .lf)) [(.sl tDot)] [.bool] = F_dot_Rising N := by kernel_rfl
def e_dot_Rising (N : Nat) : Ent Try.prog := mkFn 60 Try.f60 (.seq .lf (.seq (.seq .lf (.blk (.loop ⟨[(6, .d (.int .i64))], [], [0, 5], [], [], []⟩ .lf))) .lf)) [(.sl tDot)] [.bool] (F_dot_Rising N) mixed Try.func60 (.mk' Try.func60 rfl (by decide)) rfl (E_dot_Rising N)
/-- epitaph/event.Good -/
def F_event_Good (N : Nat) : Fun [tEvent] (Option (ResT [.bool])) :=
  fun (x : (Int × Int) × UInt8 × Int × UInt8 × List UInt8 × List (Int × Int)) =>
  Option.bind (F_dot_Unpack N x.snd.snd.fst) fun (y : (Int × Int) × Bool) =>
    bif !y.snd then some false
    else
      Option.bind (F_dot_Good N x.fst) fun (y : Bool) =>
        bif !y then some false
        else
          joinAt
            (fun (z : Unit × Unit × Unit × Unit) =>
              bif decide (256 < (↑x.snd.snd.snd.snd.snd.length : Int)) then some false
              else
                Option.bind (F_dot_Rising N x.snd.snd.snd.snd.snd) fun (y : Bool) =>
                  bif !y then some false
                  else
                    iter
                      (fun (rec : (Int × Unit) × Unit × Unit × Unit → Option Bool)
                          (z : (Int × Unit) × Unit × Unit × Unit) =>
                        bif decide (z.fst.fst < (↑x.snd.snd.snd.snd.snd.length : Int)) then
                          (at? x.snd.snd.snd.snd.snd z.fst.fst).bind fun (e : Int × Int) =>
                            Option.bind (F_dot_Good N e) fun (y : Bool) =>
                              bif !y then some false
                              else
                                bif e.fst == x.fst.fst && e.snd == x.fst.snd then some false
                                else rec ((IntKind.i64.wrap (z.fst.fst + 1), ()), (), (), ())
                        else some true)
                      N ((0, ()), (), (), ()))
            fun (k : Unit × Unit × Unit × Unit → Option Bool) =>
            bif x.snd.fst == 1 then
              Option.bind (F_field_Good N x.snd.snd.snd.fst) fun (y : Bool) =>
                bif !y then some false
                else
                  Option.bind (F_field_Text N x.snd.snd.snd.snd.fst) fun (y : Bool) =>
                    bif !y then some false else k ((), (), (), ())
            else
              bif x.snd.fst == 2 then
                bif x.snd.snd.snd.fst != 0 then some false
                else bif x.snd.snd.snd.snd.fst != [] then some false else k ((), (), (), ())
              else some false
theorem E_event_Good (N : Nat) : runF Try.prog [e_dot_Unpack N, e_dot_Good N, e_field_Good N, e_field_Text N, e_dot_Rising N] [] N Try.f14 (.seq .lf (.seq .lf (.join ⟨[], [], [1], [1001], [], []⟩ .lf (.seq .lf (.seq (.seq .lf (.blk (.loop ⟨[(58, .d (.int .i64))], [], [1, 56, 57], [1001], [], []⟩ .lf))) .lf))))) [tEvent] [.bool] = F_event_Good N := by kernel_rfl
def e_event_Good (N : Nat) : Ent Try.prog := mkFn 14 Try.f14 (.seq .lf (.seq .lf (.join ⟨[], [], [1], [1001], [], []⟩ .lf (.seq .lf (.seq (.seq .lf (.blk (.loop ⟨[(58, .d (.int .i64))], [], [1, 56, 57], [1001], [], []⟩ .lf))) .lf))))) [tEvent] [.bool] (F_event_Good N) mixed Try.func14 (.mk' Try.func14 rfl (by decide)) rfl (E_event_Good N)
/-- epitaph/epitaphref07.Has -/
def F_epitaphref07_Has (N : Nat) : Fun [(.sl tDot), tDot] (Option (ResT [.bool])) :=
  fun (x : List (Int × Int)) (x_1 : Int × Int) =>
  iter
    (fun (rec : (Int × Unit) × Unit × Unit × Unit → Option Bool) (z : (Int × Unit) × Unit × Unit × Unit) =>
      bif decide (z.fst.fst < (↑x.length : Int)) then
        (at? x z.fst.fst).bind fun (e : Int × Int) =>
          bif e.fst == x_1.fst && e.snd == x_1.snd then some true
          else rec ((IntKind.i64.wrap (z.fst.fst + 1), ()), (), (), ())
      else some false)
    N ((0, ()), (), (), ())
theorem E_epitaphref07_Has (N : Nat) : runF Try.prog [] [] N Try.f20 (.seq .lf (.seq (.seq .lf (.blk (.loop ⟨[(5, .d (.int .i64))], [], [0, 3], [1003], [], []⟩ .lf))) .lf)) [(.sl tDot), tDot] [.bool] = F_epitaphref07_Has N := by kernel_rfl
def e_epitaphref07_Has (N : Nat) : Ent Try.prog := mkFn 20 Try.f20 (.seq .lf (.seq (.seq .lf (.blk (.loop ⟨[(5, .d (.int .i64))], [], [0, 3], [1003], [], []⟩ .lf))) .lf)) [(.sl tDot), tDot] [.bool] (F_epitaphref07_Has N) mixed Try.func20 (.mk' Try.func20 rfl (by decide)) rfl (E_epitaphref07_Has N)
/-- epitaph/epitaphref07.Good -/
def F_epitaphref07_Good (N : Nat) : Fun [tDot] (Option (ResT [.bool])) :=
  fun (x : Int × Int) =>
  bif decide (1 ≤ x.fst) then bif decide (1 ≤ x.snd) then some (decide (x.snd < 281474976710656)) else some false
  else some false
theorem E_epitaphref07_Good (N : Nat) : runF Try.prog [] [] N Try.f62 .lf [tDot] [.bool] = F_epitaphref07_Good N := by kernel_rfl
def e_epitaphref07_Good (N : Nat) : Ent Try.prog := mkFn 62 Try.f62 .lf [tDot] [.bool] (F_epitaphref07_Good N) mixed Try.func62 (.mk' Try.func62 rfl (by decide)) rfl (E_epitaphref07_Good N)
/-- epitaph/epitaphref01.Split -/
def F_epitaphref01_Split (N : Nat) : Fun [(.int .u64)] (Option (ResT [(.int .u16), (.int .u64)])) :=
  fun (x : Int) => some (IntKind.u16.wrap (IntKind.u64.wrap (x.tdiv 281474976710656)), x.tmod 281474976710656)
theorem E_epitaphref01_Split (N : Nat) : runF Try.prog [] [] N Try.f94 .lf [(.int .u64)] [(.int .u16), (.int .u64)] = F_epitaphref01_Split N := by kernel_rfl
def e_epitaphref01_Split (N : Nat) : Ent Try.prog := mkFn 94 Try.f94 .lf [(.int .u64)] [(.int .u16), (.int .u64)] (F_epitaphref01_Split N) mixed Try.func94 (.mk' Try.func94 rfl (by decide)) rfl (E_epitaphref01_Split N)
/-- epitaph/epitaphref07.Unpack -/
def F_epitaphref07_Unpack (N : Nat) : Fun [(.int .u64)] (Option (ResT [tDot, .bool])) :=
  fun (x : Int) =>
  Option.bind (F_epitaphref01_Split N x) fun (y : Int × Int) =>
    Option.bind (F_epitaphref07_Good N y) fun (y_1 : Bool) => bif !y_1 then some ((0, 0), false) else some (y, true)
theorem E_epitaphref07_Unpack (N : Nat) : runF Try.prog [e_epitaphref07_Good N, e_epitaphref01_Split N] [] N Try.f61 .lf [(.int .u64)] [tDot, .bool] = F_epitaphref07_Unpack N := by kernel_rfl
def e_epitaphref07_Unpack (N : Nat) : Ent Try.prog := mkFn 61 Try.f61 .lf [(.int .u64)] [tDot, .bool] (F_epitaphref07_Unpack N) mixed Try.func61 (.mk' Try.func61 rfl (by decide)) rfl (E_epitaphref07_Unpack N)
/-- epitaph/epitaphref11.Good -/
def F_epitaphref11_Good (N : Nat) : Fun [.u8] (Option (ResT [.bool])) :=
  fun (x : UInt8) => bif decide (1 ≤ x) then some (decide (x ≤ 5)) else some false
theorem E_epitaphref11_Good (N : Nat) : runF Try.prog [] [] N Try.f63 .lf [.u8] [.bool] = F_epitaphref11_Good N := by kernel_rfl
def e_epitaphref11_Good (N : Nat) : Ent Try.prog := mkFn 63 Try.f63 .lf [.u8] [.bool] (F_epitaphref11_Good N) mixed Try.func63 (.mk' Try.func63 rfl (by decide)) rfl (E_epitaphref11_Good N)
/-- epitaph/epitaphref11.Text -/
def F_epitaphref11_Text (N : Nat) : Fun [.str] (Option (ResT [.bool])) :=
  fun (x : List UInt8) =>
  iter
    (fun (rec : (Int × Unit) × Unit × Unit × Unit → Option Bool) (z : (Int × Unit) × Unit × Unit × Unit) =>
      bif decide (z.fst.fst < (↑x.length : Int)) then
        (at? x z.fst.fst).bind fun (c : UInt8) =>
          bif decide (c < 32) then some false
          else
            (at? x z.fst.fst).bind fun (c : UInt8) =>
              bif decide (126 < c) then some false else rec ((IntKind.i64.wrap (z.fst.fst + 1), ()), (), (), ())
      else some (decide ((↑x.length : Int) ≤ 60)))
    N ((0, ()), (), (), ())
theorem E_epitaphref11_Text (N : Nat) : runF Try.prog [] [] N Try.f64 (.seq .lf (.seq (.seq .lf (.blk (.loop ⟨[(3, .d (.int .i64))], [], [0], [], [], []⟩ .lf))) .lf)) [.str] [.bool] = F_epitaphref11_Text N := by kernel_rfl
def e_epitaphref11_Text (N : Nat) : Ent Try.prog := mkFn 64 Try.f64 (.seq .lf (.seq (.seq .lf (.blk (.loop ⟨[(3, .d (.int .i64))], [], [0], [], [], []⟩ .lf))) .lf)) [.str] [.bool] (F_epitaphref11_Text N) mixed Try.func64 (.mk' Try.func64 rfl (by decide)) rfl (E_epitaphref11_Text N)
/-- epitaph/epitaphref07.Cmp -/
def F_epitaphref07_Cmp (N : Nat) : Fun [tDot, tDot] (Option (ResT [(.int .i64)])) :=
  fun (x x_1 : Int × Int) =>
  bif x.fst == x_1.fst && x.snd == x_1.snd then some 0
  else
    bif decide (x.fst < x_1.fst) then some (-1)
    else bif x.fst == x_1.fst then bif decide (x.snd < x_1.snd) then some (-1) else some 1 else some 1
theorem E_epitaphref07_Cmp (N : Nat) : runF Try.prog [] [] N Try.f33 .lf [tDot, tDot] [(.int .i64)] = F_epitaphref07_Cmp N := by kernel_rfl
def e_epitaphref07_Cmp (N : Nat) : Ent Try.prog := mkFn 33 Try.f33 .lf [tDot, tDot] [(.int .i64)] (F_epitaphref07_Cmp N) mixed Try.func33 (.mk' Try.func33 rfl (by decide)) rfl (E_epitaphref07_Cmp N)
/-- epitaph/epitaphref07.Rising -/
def F_epitaphref07_Rising (N : Nat) : Fun [(.sl tDot)] (Option (ResT [.bool])) :=
  fun (x : List (Int × Int)) =>
  iter
    (fun (rec : (Int × Unit) × Unit × Unit × Unit → Option Bool) (z : (Int × Unit) × Unit × Unit × Unit) =>
      bif decide (z.fst.fst < (↑x.length : Int)) then
        (at? x (IntKind.i64.wrap (z.fst.fst - 1))).bind fun (e : Int × Int) =>
          (at? x z.fst.fst).bind fun (e_1 : Int × Int) =>
            Option.bind (F_epitaphref07_Cmp N e e_1) fun (y : Int) =>
              bif decide (0 ≤ y) then some false else rec ((IntKind.i64.wrap (z.fst.fst + 1), ()), (), (), ())
      else some true)
    N ((1, ()), (), (), ())
theorem E_epitaphref07_Rising (N : Nat) : runF Try.prog [e_epitaphref07_Cmp N] [] N Try.f65 (.seq .lf (.seq (.seq .lf (.blk (.loop ⟨[(3, .d (.int .i64))], [], [0], [], [], []⟩ .lf))) .lf)) [(.sl tDot)] [.bool] = F_epitaphref07_Rising N := by kernel_rfl
def e_epitaphref07_Rising (N : Nat) : Ent Try.prog := mkFn 65 Try.f65 (.seq .lf (.seq (.seq .lf (.blk (.loop ⟨[(3, .d (.int .i64))], [], [0], [], [], []⟩ .lf))) .lf)) [(.sl tDot)] [.bool] (F_epitaphref07_Rising N) mixed Try.func65 (.mk' Try.func65 rfl (by decide)) rfl (E_epitaphref07_Rising N)
/-- epitaph/epitaphref13.Good -/
def F_epitaphref13_Good (N : Nat) : Fun [tEvent] (Option (ResT [.bool])) :=
  fun (x : (Int × Int) × UInt8 × Int × UInt8 × List UInt8 × List (Int × Int)) =>
  Option.bind (F_epitaphref07_Unpack N x.snd.snd.fst) fun (y : (Int × Int) × Bool) =>
    bif !y.snd then some false
    else
      Option.bind (F_epitaphref07_Good N x.fst) fun (y : Bool) =>
        bif !y then some false
        else
          bif x.snd.fst != 1 then
            bif x.snd.fst != 2 then some false
            else
              bif x.snd.fst == 1 then
                Option.bind (F_epitaphref11_Good N x.snd.snd.snd.fst) fun (y : Bool) =>
                  bif !y then some false
                  else
                    Option.bind (F_epitaphref11_Text N x.snd.snd.snd.snd.fst) fun (y : Bool) =>
                      bif !y then some false
                      else
                        bif x.snd.fst == 2 then
                          bif x.snd.snd.snd.fst != 0 then some false
                          else
                            bif x.snd.snd.snd.snd.fst != [] then some false
                            else
                              iter
                                (fun (rec : (Int × Unit) × Unit × Unit × Unit → Option Bool)
                                    (z : (Int × Unit) × Unit × Unit × Unit) =>
                                  bif decide (z.fst.fst < (↑x.snd.snd.snd.snd.snd.length : Int)) then
                                    (at? x.snd.snd.snd.snd.snd z.fst.fst).bind fun (e : Int × Int) =>
                                      Option.bind (F_epitaphref07_Good N e) fun (y : Bool) =>
                                        bif !y then some false
                                        else rec ((IntKind.i64.wrap (z.fst.fst + 1), ()), (), (), ())
                                  else
                                    bif decide ((↑x.snd.snd.snd.snd.snd.length : Int) ≤ 256) then
                                      Option.bind (F_epitaphref07_Rising N x.snd.snd.snd.snd.snd) fun (y : Bool) =>
                                        bif y then
                                          Option.bind (F_epitaphref07_Has N x.snd.snd.snd.snd.snd x.fst)
                                            fun (y : Bool) => some !y
                                        else some false
                                    else some false)
                                N ((0, ()), (), (), ())
                        else
                          iter
                            (fun (rec : (Int × Unit) × Unit × Unit × Unit → Option Bool)
                                (z : (Int × Unit) × Unit × Unit × Unit) =>
                              bif decide (z.fst.fst < (↑x.snd.snd.snd.snd.snd.length : Int)) then
                                (at? x.snd.snd.snd.snd.snd z.fst.fst).bind fun (e : Int × Int) =>
                                  Option.bind (F_epitaphref07_Good N e) fun (y : Bool) =>
                                    bif !y then some false else rec ((IntKind.i64.wrap (z.fst.fst + 1), ()), (), (), ())
                              else
                                bif decide ((↑x.snd.snd.snd.snd.snd.length : Int) ≤ 256) then
                                  Option.bind (F_epitaphref07_Rising N x.snd.snd.snd.snd.snd) fun (y : Bool) =>
                                    bif y then
                                      Option.bind (F_epitaphref07_Has N x.snd.snd.snd.snd.snd x.fst) fun (y : Bool) =>
                                        some !y
                                    else some false
                                else some false)
                            N ((0, ()), (), (), ())
              else
                bif x.snd.fst == 2 then
                  bif x.snd.snd.snd.fst != 0 then some false
                  else
                    bif x.snd.snd.snd.snd.fst != [] then some false
                    else
                      iter
                        (fun (rec : (Int × Unit) × Unit × Unit × Unit → Option Bool)
                            (z : (Int × Unit) × Unit × Unit × Unit) =>
                          bif decide (z.fst.fst < (↑x.snd.snd.snd.snd.snd.length : Int)) then
                            (at? x.snd.snd.snd.snd.snd z.fst.fst).bind fun (e : Int × Int) =>
                              Option.bind (F_epitaphref07_Good N e) fun (y : Bool) =>
                                bif !y then some false else rec ((IntKind.i64.wrap (z.fst.fst + 1), ()), (), (), ())
                          else
                            bif decide ((↑x.snd.snd.snd.snd.snd.length : Int) ≤ 256) then
                              Option.bind (F_epitaphref07_Rising N x.snd.snd.snd.snd.snd) fun (y : Bool) =>
                                bif y then
                                  Option.bind (F_epitaphref07_Has N x.snd.snd.snd.snd.snd x.fst) fun (y : Bool) =>
                                    some !y
                                else some false
                            else some false)
                        N ((0, ()), (), (), ())
                else
                  iter
                    (fun (rec : (Int × Unit) × Unit × Unit × Unit → Option Bool)
                        (z : (Int × Unit) × Unit × Unit × Unit) =>
                      bif decide (z.fst.fst < (↑x.snd.snd.snd.snd.snd.length : Int)) then
                        (at? x.snd.snd.snd.snd.snd z.fst.fst).bind fun (e : Int × Int) =>
                          Option.bind (F_epitaphref07_Good N e) fun (y : Bool) =>
                            bif !y then some false else rec ((IntKind.i64.wrap (z.fst.fst + 1), ()), (), (), ())
                      else
                        bif decide ((↑x.snd.snd.snd.snd.snd.length : Int) ≤ 256) then
                          Option.bind (F_epitaphref07_Rising N x.snd.snd.snd.snd.snd) fun (y : Bool) =>
                            bif y then
                              Option.bind (F_epitaphref07_Has N x.snd.snd.snd.snd.snd x.fst) fun (y : Bool) => some !y
                            else some false
                        else some false)
                    N ((0, ()), (), (), ())
          else
            bif x.snd.fst == 1 then
              Option.bind (F_epitaphref11_Good N x.snd.snd.snd.fst) fun (y : Bool) =>
                bif !y then some false
                else
                  Option.bind (F_epitaphref11_Text N x.snd.snd.snd.snd.fst) fun (y : Bool) =>
                    bif !y then some false
                    else
                      bif x.snd.fst == 2 then
                        bif x.snd.snd.snd.fst != 0 then some false
                        else
                          bif x.snd.snd.snd.snd.fst != [] then some false
                          else
                            iter
                              (fun (rec : (Int × Unit) × Unit × Unit × Unit → Option Bool)
                                  (z : (Int × Unit) × Unit × Unit × Unit) =>
                                bif decide (z.fst.fst < (↑x.snd.snd.snd.snd.snd.length : Int)) then
                                  (at? x.snd.snd.snd.snd.snd z.fst.fst).bind fun (e : Int × Int) =>
                                    Option.bind (F_epitaphref07_Good N e) fun (y : Bool) =>
                                      bif !y then some false
                                      else rec ((IntKind.i64.wrap (z.fst.fst + 1), ()), (), (), ())
                                else
                                  bif decide ((↑x.snd.snd.snd.snd.snd.length : Int) ≤ 256) then
                                    Option.bind (F_epitaphref07_Rising N x.snd.snd.snd.snd.snd) fun (y : Bool) =>
                                      bif y then
                                        Option.bind (F_epitaphref07_Has N x.snd.snd.snd.snd.snd x.fst) fun (y : Bool) =>
                                          some !y
                                      else some false
                                  else some false)
                              N ((0, ()), (), (), ())
                      else
                        iter
                          (fun (rec : (Int × Unit) × Unit × Unit × Unit → Option Bool)
                              (z : (Int × Unit) × Unit × Unit × Unit) =>
                            bif decide (z.fst.fst < (↑x.snd.snd.snd.snd.snd.length : Int)) then
                              (at? x.snd.snd.snd.snd.snd z.fst.fst).bind fun (e : Int × Int) =>
                                Option.bind (F_epitaphref07_Good N e) fun (y : Bool) =>
                                  bif !y then some false else rec ((IntKind.i64.wrap (z.fst.fst + 1), ()), (), (), ())
                            else
                              bif decide ((↑x.snd.snd.snd.snd.snd.length : Int) ≤ 256) then
                                Option.bind (F_epitaphref07_Rising N x.snd.snd.snd.snd.snd) fun (y : Bool) =>
                                  bif y then
                                    Option.bind (F_epitaphref07_Has N x.snd.snd.snd.snd.snd x.fst) fun (y : Bool) =>
                                      some !y
                                  else some false
                              else some false)
                          N ((0, ()), (), (), ())
            else
              bif x.snd.fst == 2 then
                bif x.snd.snd.snd.fst != 0 then some false
                else
                  bif x.snd.snd.snd.snd.fst != [] then some false
                  else
                    iter
                      (fun (rec : (Int × Unit) × Unit × Unit × Unit → Option Bool)
                          (z : (Int × Unit) × Unit × Unit × Unit) =>
                        bif decide (z.fst.fst < (↑x.snd.snd.snd.snd.snd.length : Int)) then
                          (at? x.snd.snd.snd.snd.snd z.fst.fst).bind fun (e : Int × Int) =>
                            Option.bind (F_epitaphref07_Good N e) fun (y : Bool) =>
                              bif !y then some false else rec ((IntKind.i64.wrap (z.fst.fst + 1), ()), (), (), ())
                        else
                          bif decide ((↑x.snd.snd.snd.snd.snd.length : Int) ≤ 256) then
                            Option.bind (F_epitaphref07_Rising N x.snd.snd.snd.snd.snd) fun (y : Bool) =>
                              bif y then
                                Option.bind (F_epitaphref07_Has N x.snd.snd.snd.snd.snd x.fst) fun (y : Bool) => some !y
                              else some false
                          else some false)
                      N ((0, ()), (), (), ())
              else
                iter
                  (fun (rec : (Int × Unit) × Unit × Unit × Unit → Option Bool)
                      (z : (Int × Unit) × Unit × Unit × Unit) =>
                    bif decide (z.fst.fst < (↑x.snd.snd.snd.snd.snd.length : Int)) then
                      (at? x.snd.snd.snd.snd.snd z.fst.fst).bind fun (e : Int × Int) =>
                        Option.bind (F_epitaphref07_Good N e) fun (y : Bool) =>
                          bif !y then some false else rec ((IntKind.i64.wrap (z.fst.fst + 1), ()), (), (), ())
                    else
                      bif decide ((↑x.snd.snd.snd.snd.snd.length : Int) ≤ 256) then
                        Option.bind (F_epitaphref07_Rising N x.snd.snd.snd.snd.snd) fun (y : Bool) =>
                          bif y then
                            Option.bind (F_epitaphref07_Has N x.snd.snd.snd.snd.snd x.fst) fun (y : Bool) => some !y
                          else some false
                      else some false)
                  N ((0, ()), (), (), ())
theorem E_epitaphref13_Good (N : Nat) : runF Try.prog [e_epitaphref07_Has N, e_epitaphref07_Unpack N, e_epitaphref07_Good N, e_epitaphref11_Good N, e_epitaphref11_Text N, e_epitaphref07_Rising N] [] N Try.f15 (.seq .lf (.seq .lf (.seq .lf (.seq .lf (.seq (.seq .lf (.blk (.loop ⟨[(5, .d (.int .i64))], [], [1], [1001], [], []⟩ .lf))) .lf))))) [tEvent] [.bool] = F_epitaphref13_Good N := by kernel_rfl
def e_epitaphref13_Good (N : Nat) : Ent Try.prog := mkFn 15 Try.f15 (.seq .lf (.seq .lf (.seq .lf (.seq .lf (.seq (.seq .lf (.blk (.loop ⟨[(5, .d (.int .i64))], [], [1], [1001], [], []⟩ .lf))) .lf))))) [tEvent] [.bool] (F_epitaphref13_Good N) mixed Try.func15 (.mk' Try.func15 rfl (by decide)) rfl (E_epitaphref13_Good N)
/-- slices.Equal[[]epitaph/api.Dot,epitaph/api.Dot] -/
def F_slices_Equal_sDot_Dot (N : Nat) : Fun [(.sl tDot), (.sl tDot)] (Option (ResT [.bool])) :=
  fun (x x_1 : List (Int × Int)) =>
  bif (↑x.length : Int) != (↑x_1.length : Int) then some false
  else
    iter
      (fun (rec : (Int × Unit) × Unit × Unit × Unit → Option Bool) (z : (Int × Unit) × Unit × Unit × Unit) =>
        bif decide (z.fst.fst < (↑x.length : Int)) then
          (at? x z.fst.fst).bind fun (e : Int × Int) =>
            (at? x_1 z.fst.fst).bind fun (e_1 : Int × Int) =>
              bif !(e.fst == e_1.fst && e.snd == e_1.snd) then some false
              else rec ((IntKind.i64.wrap (z.fst.fst + 1), ()), (), (), ())
        else some true)
      N ((0, ()), (), (), ())
theorem E_slices_Equal_sDot_Dot (N : Nat) : runF Try.prog [] [] N Try.f95 (.seq .lf (.seq .lf (.seq (.seq .lf (.blk (.loop ⟨[(13, .d (.int .i64))], [], [0, 1, 12], [], [], []⟩ .lf))) .lf))) [(.sl tDot), (.sl tDot)] [.bool] = F_slices_Equal_sDot_Dot N := by kernel_rfl
def e_slices_Equal_sDot_Dot (N : Nat) : Ent Try.prog := mkFn 95 Try.f95 (.seq .lf (.seq .lf (.seq (.seq .lf (.blk (.loop ⟨[(13, .d (.int .i64))], [], [0, 1, 12], [], [], []⟩ .lf))) .lf))) [(.sl tDot), (.sl tDot)] [.bool] (F_slices_Equal_sDot_Dot N) mixed Try.func95 (.mk' Try.func95 rfl (by decide)) rfl (E_slices_Equal_sDot_Dot N)
/-- epitaph/dot.Same -/
def F_dot_Same (N : Nat) : Fun [(.sl tDot), (.sl tDot)] (Option (ResT [.bool])) :=
  fun (x x_1 : List (Int × Int)) => Option.bind (F_slices_Equal_sDot_Dot N x x_1) fun (y : Bool) => some y
theorem E_dot_Same (N : Nat) : runF Try.prog [e_slices_Equal_sDot_Dot N] [] N Try.f66 .lf [(.sl tDot), (.sl tDot)] [.bool] = F_dot_Same N := by kernel_rfl
def e_dot_Same (N : Nat) : Ent Try.prog := mkFn 66 Try.f66 .lf [(.sl tDot), (.sl tDot)] [.bool] (F_dot_Same N) mixed Try.func66 (.mk' Try.func66 rfl (by decide)) rfl (E_dot_Same N)
/-- epitaph/event.Same -/
def F_event_Same (N : Nat) : Fun [tEvent, tEvent] (Option (ResT [.bool])) :=
  fun (x x_1 : (Int × Int) × UInt8 × Int × UInt8 × List UInt8 × List (Int × Int)) =>
  bif x.fst.fst == x_1.fst.fst && x.fst.snd == x_1.fst.snd then
    bif x.snd.fst == x_1.snd.fst then
      bif x.snd.snd.fst == x_1.snd.snd.fst then
        bif x.snd.snd.snd.fst == x_1.snd.snd.snd.fst then
          bif x.snd.snd.snd.snd.fst == x_1.snd.snd.snd.snd.fst then
            Option.bind (F_dot_Same N x.snd.snd.snd.snd.snd x_1.snd.snd.snd.snd.snd) fun (y : Bool) => some y
          else some false
        else some false
      else some false
    else some false
  else some false
theorem E_event_Same (N : Nat) : runF Try.prog [e_dot_Same N] [] N Try.f16 .lf [tEvent, tEvent] [.bool] = F_event_Same N := by kernel_rfl
def e_event_Same (N : Nat) : Ent Try.prog := mkFn 16 Try.f16 .lf [tEvent, tEvent] [.bool] (F_event_Same N) mixed Try.func16 (.mk' Try.func16 rfl (by decide)) rfl (E_event_Same N)
/-- epitaph/epitaphref13.Same -/
def F_epitaphref13_Same (N : Nat) : Fun [tEvent, tEvent] (Option (ResT [.bool])) :=
  fun (x x_1 : (Int × Int) × UInt8 × Int × UInt8 × List UInt8 × List (Int × Int)) =>
  bif x.fst.fst == x_1.fst.fst && x.fst.snd == x_1.fst.snd then
    bif x.snd.fst == x_1.snd.fst then
      bif x.snd.snd.fst == x_1.snd.snd.fst then
        bif x.snd.snd.snd.fst == x_1.snd.snd.snd.fst then
          bif x.snd.snd.snd.snd.fst == x_1.snd.snd.snd.snd.fst then
            Option.bind (F_epitaphref07_Same N x.snd.snd.snd.snd.snd x_1.snd.snd.snd.snd.snd) fun (y : Bool) => some y
          else some false
        else some false
      else some false
    else some false
  else some false
theorem E_epitaphref13_Same (N : Nat) : runF Try.prog [e_epitaphref07_Same N] [] N Try.f17 .lf [tEvent, tEvent] [.bool] = F_epitaphref13_Same N := by kernel_rfl
def e_epitaphref13_Same (N : Nat) : Ent Try.prog := mkFn 17 Try.f17 .lf [tEvent, tEvent] [.bool] (F_epitaphref13_Same N) mixed Try.func17 (.mk' Try.func17 rfl (by decide)) rfl (E_epitaphref13_Same N)
/-- epitaph/event.Clashes -/
def F_event_Clashes (N : Nat) : Fun [tEvent, tEvent] (Option (ResT [.bool])) :=
  fun (x x_1 : (Int × Int) × UInt8 × Int × UInt8 × List UInt8 × List (Int × Int)) =>
  bif x.fst.fst == x_1.fst.fst && x.fst.snd == x_1.fst.snd then
    Option.bind (F_event_Same N x x_1) fun (y : Bool) => some !y
  else some false
theorem E_event_Clashes (N : Nat) : runF Try.prog [e_event_Same N] [] N Try.f18 .lf [tEvent, tEvent] [.bool] = F_event_Clashes N := by kernel_rfl
def e_event_Clashes (N : Nat) : Ent Try.prog := mkFn 18 Try.f18 .lf [tEvent, tEvent] [.bool] (F_event_Clashes N) mixed Try.func18 (.mk' Try.func18 rfl (by decide)) rfl (E_event_Clashes N)
/-- slices.Index[[]epitaph/api.Dot,epitaph/api.Dot] -/
def F_slices_Index_sDot_Dot (N : Nat) : Fun [(.sl tDot), tDot] (Option (ResT [(.int .i64)])) :=
  fun (x : List (Int × Int)) (x_1 : Int × Int) =>
  iter
    (fun (rec : (Int × Unit) × Unit × Unit × Unit → Option Int) (z : (Int × Unit) × Unit × Unit × Unit) =>
      bif decide (z.fst.fst < (↑x.length : Int)) then
        (at? x z.fst.fst).bind fun (e : Int × Int) =>
          bif x_1.fst == e.fst && x_1.snd == e.snd then some z.fst.fst
          else rec ((IntKind.i64.wrap (z.fst.fst + 1), ()), (), (), ())
      else some (-1))
    N ((0, ()), (), (), ())
theorem E_slices_Index_sDot_Dot (N : Nat) : runF Try.prog [] [] N Try.f118 (.seq .lf (.seq (.seq .lf (.blk (.loop ⟨[(8, .d (.int .i64))], [], [0, 3, 7], [1003], [], []⟩ .lf))) .lf)) [(.sl tDot), tDot] [(.int .i64)] = F_slices_Index_sDot_Dot N := by kernel_rfl
def e_slices_Index_sDot_Dot (N : Nat) : Ent Try.prog := mkFn 118 Try.f118 (.seq .lf (.seq (.seq .lf (.blk (.loop ⟨[(8, .d (.int .i64))], [], [0, 3, 7], [1003], [], []⟩ .lf))) .lf)) [(.sl tDot), tDot] [(.int .i64)] (F_slices_Index_sDot_Dot N) mixed Try.func118 (.mk' Try.func118 rfl (by decide)) rfl (E_slices_Index_sDot_Dot N)
/-- slices.Contains[[]epitaph/api.Dot,epitaph/api.Dot] -/
def F_slices_Contains_sDot_Dot (N : Nat) : Fun [(.sl tDot), tDot] (Option (ResT [.bool])) :=
  fun (x : List (Int × Int)) (x_1 : Int × Int) =>
  Option.bind (F_slices_Index_sDot_Dot N x x_1) fun (y : Int) => some (decide (0 ≤ y))
theorem E_slices_Contains_sDot_Dot (N : Nat) : runF Try.prog [e_slices_Index_sDot_Dot N] [] N Try.f96 .lf [(.sl tDot), tDot] [.bool] = F_slices_Contains_sDot_Dot N := by kernel_rfl
def e_slices_Contains_sDot_Dot (N : Nat) : Ent Try.prog := mkFn 96 Try.f96 .lf [(.sl tDot), tDot] [.bool] (F_slices_Contains_sDot_Dot N) mixed Try.func96 (.mk' Try.func96 rfl (by decide)) rfl (E_slices_Contains_sDot_Dot N)
/-- epitaph/dot.Has -/
def F_dot_Has (N : Nat) : Fun [(.sl tDot), tDot] (Option (ResT [.bool])) :=
  fun (x : List (Int × Int)) (x_1 : Int × Int) =>
  Option.bind (F_slices_Contains_sDot_Dot N x x_1) fun (y : Bool) => some y
theorem E_dot_Has (N : Nat) : runF Try.prog [e_slices_Contains_sDot_Dot N] [] N Try.f67 .lf [(.sl tDot), tDot] [.bool] = F_dot_Has N := by kernel_rfl
def e_dot_Has (N : Nat) : Ent Try.prog := mkFn 67 Try.f67 .lf [(.sl tDot), tDot] [.bool] (F_dot_Has N) mixed Try.func67 (.mk' Try.func67 rfl (by decide)) rfl (E_dot_Has N)
/-- epitaph/event.Kills -/
def F_event_Kills (N : Nat) : Fun [tEvent, tDot] (Option (ResT [.bool])) :=
  fun (x : (Int × Int) × UInt8 × Int × UInt8 × List UInt8 × List (Int × Int)) (x_1 : Int × Int) =>
  Option.bind (F_dot_Has N x.snd.snd.snd.snd.snd x_1) fun (y : Bool) => some y
theorem E_event_Kills (N : Nat) : runF Try.prog [e_dot_Has N] [] N Try.f19 .lf [tEvent, tDot] [.bool] = F_event_Kills N := by kernel_rfl
def e_event_Kills (N : Nat) : Ent Try.prog := mkFn 19 Try.f19 .lf [tEvent, tDot] [.bool] (F_event_Kills N) mixed Try.func19 (.mk' Try.func19 rfl (by decide)) rfl (E_event_Kills N)
/-- epitaph/epitaphlaw13.EventTells -/
def F_epitaphlaw13_EventTells (N : Nat) : Fun [tEvent, tEvent, tDot] (Option (ResT [.bool])) :=
  fun (x x_1 : (Int × Int) × UInt8 × Int × UInt8 × List UInt8 × List (Int × Int)) (x_2 : Int × Int) =>
  Option.bind (F_epitaphref13_Few N [x, x_1] 2) fun (y : Bool) =>
    bif !y then Option.bind (F_epitaphlaw13_works N) fun (y : Bool) => some y
    else
      Option.bind (F_event_Good N x) fun (y : Bool) =>
        Option.bind (F_epitaphref13_Good N x) fun (y_1 : Bool) =>
          bif y == y_1 then
            Option.bind (F_event_Good N x_1) fun (y : Bool) =>
              Option.bind (F_epitaphref13_Good N x_1) fun (y_2 : Bool) =>
                bif y == y_2 then
                  Option.bind (F_event_Same N x x_1) fun (y : Bool) =>
                    Option.bind (F_epitaphref13_Same N x x_1) fun (y_3 : Bool) =>
                      bif y == y_3 then
                        Option.bind (F_event_Clashes N x x_1) fun (y : Bool) =>
                          bif x.fst.fst == x_1.fst.fst && x.fst.snd == x_1.fst.snd then
                            Option.bind (F_epitaphref13_Same N x x_1) fun (y_4 : Bool) =>
                              bif y == !y_4 then
                                Option.bind (F_event_Kills N x x_2) fun (y : Bool) =>
                                  Option.bind (F_epitaphref07_Has N x.snd.snd.snd.snd.snd x_2) fun (y_5 : Bool) =>
                                    bif y == y_5 then Option.bind (F_epitaphlaw13_works N) fun (y : Bool) => some y
                                    else some false
                              else some false
                          else
                            bif y == false then
                              Option.bind (F_event_Kills N x x_2) fun (y : Bool) =>
                                Option.bind (F_epitaphref07_Has N x.snd.snd.snd.snd.snd x_2) fun (y_4 : Bool) =>
                                  bif y == y_4 then Option.bind (F_epitaphlaw13_works N) fun (y : Bool) => some y
                                  else some false
                            else some false
                      else some false
                else some false
          else some false
theorem E_epitaphlaw13_EventTells (N : Nat) : runF Try.prog [e_epitaphref13_Few N, e_epitaphlaw13_works N, e_event_Good N, e_epitaphref13_Good N, e_event_Same N, e_epitaphref13_Same N, e_event_Clashes N, e_event_Kills N, e_epitaphref07_Has N] [] N Try.f3 .lf [tEvent, tEvent, tDot] [.bool] = F_epitaphlaw13_EventTells N := by kernel_rfl
def e_epitaphlaw13_EventTells (N : Nat) : Ent Try.prog := mkFn 3 Try.f3 .lf [tEvent, tEvent, tDot] [.bool] (F_epitaphlaw13_EventTells N) mixed Try.func3 (.mk' Try.func3 rfl (by decide)) rfl (E_epitaphlaw13_EventTells N)
end Go.Proofs.Xg
/-
  A function of which nothing is known.
-/
namespace Go.Xl
open Go.Ab
def mkNone {P : Program} (f : FuncId) : Ent P where
  id := f
  run := fun _ _ _ _ => none
  ok := by intros; contradiction
end Go.Xl
set_option linter.unusedVariables false
set_option maxRecDepth 100000
namespace Go.Proofs.Xg
open Go Go.Xl Go.Ab Go.Proofs
/-- slices.Clone, its result never written -/
noncomputable def F_slices_Clone_sDot_Dot_d (N : Nat) : Fun [(.sl tDot)] (Option (ResT [(.sl tDot)])) := cloneD tDot 16
noncomputable def e_slices_Clone_sDot_Dot_d (N : Nat) : Ent Try.prog := mkEnt 78 [(.sl tDot)] [(.sl tDot)] (F_slices_Clone_sDot_Dot_d N) (.mk' Try.func78 rfl (by decide)) (cloneD_sound (Clone_Dot N))
/-- epitaph/event.Copy -/
noncomputable def F_event_Copy (N : Nat) : Fun [tEvent] (Option (ResT [tEvent])) :=
  fun (x : (Int × Int) × UInt8 × Int × UInt8 × List UInt8 × List (Int × Int)) =>
  Option.bind (F_slices_Clone_sDot_Dot_d N x.snd.snd.snd.snd.snd) fun (y : List (Int × Int)) =>
    some (x.fst, x.snd.fst, x.snd.snd.fst, x.snd.snd.snd.fst, x.snd.snd.snd.snd.fst, y)
theorem E_event_Copy (N : Nat) : runF Try.prog [e_slices_Clone_sDot_Dot_d N] [] N Try.f30 .lf [tEvent] [tEvent] = F_event_Copy N := by kernel_rfl
noncomputable def e_event_Copy (N : Nat) : Ent Try.prog := mkFn 30 Try.f30 .lf [tEvent] [tEvent] (F_event_Copy N) mixed Try.func30 (.mk' Try.func30 rfl (by decide)) rfl (E_event_Copy N)

/-- epitaph/event.Sort$1 -/
noncomputable def F_event_Sort_1 (N : Nat) : Fun [tEvent, tEvent] (Option (ResT [(.int .i64)])) :=
  fun (x x_1 : (Int × Int) × UInt8 × Int × UInt8 × List UInt8 × List (Int × Int)) =>
  Option.bind (F_dot_Cmp N x.fst x_1.fst) fun (y : Int) => some y
theorem E_event_Sort_1 (N : Nat) : runF Try.prog [e_dot_Cmp N] [] N Try.f80 .lf [tEvent, tEvent] [(.int .i64)] = F_event_Sort_1 N := by kernel_rfl
noncomputable def e_event_Sort_1 (N : Nat) : Ent Try.prog := mkFn 80 Try.f80 .lf [tEvent, tEvent] [(.int .i64)] (F_event_Sort_1 N) mixed Try.func80 (.mk' Try.func80 rfl (by decide)) rfl (E_event_Sort_1 N)
noncomputable def F0_slices_insertionSortCmpFunc_Event (N : Nat) : FunA [.d (.int .i64), .d (.int .i64), .c 80] (Option (ResT (rkTys tEvent []))) :=
  fun (x x_1 : Int) =>
  iter
    (fun (rec : (Int × Unit) × Unit × Unit × Unit → Option Unit) (z : (Int × Unit) × Unit × Unit × Unit) =>
      bif decide (z.fst.fst < x_1) then
        iter
          (fun (rec_1 : (Int × Unit) × Unit × Unit × Unit → Option Unit)
              (z_1 : (Int × Unit) × Unit × Unit × Unit) =>
            bif decide (x < z_1.fst.fst) then
              (at? [] z_1.fst.fst).bind fun (e : (Int × Int) × UInt8 × Int × UInt8 × List UInt8 × List (Int × Int)) =>
                (at? [] (IntKind.i64.wrap (z_1.fst.fst - 1))).bind
                  fun (e_1 : (Int × Int) × UInt8 × Int × UInt8 × List UInt8 × List (Int × Int)) =>
                  Option.bind (F_event_Sort_1 N e e_1) fun (y : Int) =>
                    bif decide (y < 0) then
                      (at? [] (IntKind.i64.wrap (z_1.fst.fst - 1))).bind
                        fun (e : (Int × Int) × UInt8 × Int × UInt8 × List UInt8 × List (Int × Int)) =>
                        (at? [] z_1.fst.fst).bind
                          fun (e : (Int × Int) × UInt8 × Int × UInt8 × List UInt8 × List (Int × Int)) =>
                          (at? [] z_1.fst.fst).bind
                            fun (e : (Int × Int) × UInt8 × Int × UInt8 × List UInt8 × List (Int × Int)) => none
                    else rec ((IntKind.i64.wrap (z.fst.fst + 1), ()), (), (), ())
            else rec ((IntKind.i64.wrap (z.fst.fst + 1), ()), (), (), ()))
          N ((z.fst.fst, ()), (), (), ())
      else some ())
    N ((IntKind.i64.wrap (x + 1), ()), (), (), ())
theorem E0_slices_insertionSortCmpFunc_Event (N : Nat) : runO0 Try.prog [e_event_Sort_1 N] [] N Try.f140 (.seq .lf (.blk (.loop ⟨[(8, .d (.int .i64))], [], [0, 1, 2, 3], [], [], []⟩ (.seq .lf (.seq (.blk (.seq .lf (.blk (.loop ⟨[(9, .d (.int .i64))], [], [0, 1, 2, 3, 8], [], [], []⟩ .lf)))) .lf))))) tEvent [.d (.int .i64), .d (.int .i64), .c 80] [] = F0_slices_insertionSortCmpFunc_Event N := by kernel_rfl
/-- slices.insertionSortCmpFunc[epitaph/api.Event] -/
noncomputable def F_slices_insertionSortCmpFunc_Event (N : Nat) : List tEvent.T → Nat → FunA [.d (.int .i64), .d (.int .i64), .c 80] (Option (List tEvent.T × ResO [])) :=
  fun (l : List ((Int × Int) × UInt8 × Int × UInt8 × List UInt8 × List (Int × Int))) (n : Nat) (x x_1 : Int) =>
  iter
    (fun
        (rec :
          (Int × Unit) ×
              Unit × Unit × List ((Int × Int) × UInt8 × Int × UInt8 × List UInt8 × List (Int × Int)) × Unit →
            Option (List ((Int × Int) × UInt8 × Int × UInt8 × List UInt8 × List (Int × Int)) × Unit))
        (z :
          (Int × Unit) ×
            Unit × Unit × List ((Int × Int) × UInt8 × Int × UInt8 × List UInt8 × List (Int × Int)) × Unit) =>
      bif decide (z.fst.fst < x_1) then
        iter
          (fun
              (rec_1 :
                (Int × Unit) ×
                    Unit × Unit × List ((Int × Int) × UInt8 × Int × UInt8 × List UInt8 × List (Int × Int)) × Unit →
                  Option (List ((Int × Int) × UInt8 × Int × UInt8 × List UInt8 × List (Int × Int)) × Unit))
              (z_1 :
                (Int × Unit) ×
                  Unit × Unit × List ((Int × Int) × UInt8 × Int × UInt8 × List UInt8 × List (Int × Int)) × Unit) =>
            bif decide (x < z_1.fst.fst) then
              bif decide (0 ≤ z_1.fst.fst) && decide (z_1.fst.fst < (↑n : Int)) then
                z_1.snd.snd.snd.fst[0 + z_1.fst.fst.toNat]?.bind
                  fun (e : (Int × Int) × UInt8 × Int × UInt8 × List UInt8 × List (Int × Int)) =>
                  bif
                      decide (0 ≤ IntKind.i64.wrap (z_1.fst.fst - 1)) &&
                        decide (IntKind.i64.wrap (z_1.fst.fst - 1) < (↑n : Int)) then
                    z_1.snd.snd.snd.fst[0 + (IntKind.i64.wrap (z_1.fst.fst - 1)).toNat]?.bind
                      fun (e_1 : (Int × Int) × UInt8 × Int × UInt8 × List UInt8 × List (Int × Int)) =>
                      Option.bind (F_event_Sort_1 N e e_1) fun (y : Int) =>
                        bif decide (y < 0) then
                          bif
                              decide (0 ≤ IntKind.i64.wrap (z_1.fst.fst - 1)) &&
                                decide (IntKind.i64.wrap (z_1.fst.fst - 1) < (↑n : Int)) then
                            z_1.snd.snd.snd.fst[0 + (IntKind.i64.wrap (z_1.fst.fst - 1)).toNat]?.bind
                              fun (e : (Int × Int) × UInt8 × Int × UInt8 × List UInt8 × List (Int × Int)) =>
                              bif decide (0 ≤ z_1.fst.fst) && decide (z_1.fst.fst < (↑n : Int)) then
                                z_1.snd.snd.snd.fst[0 + z_1.fst.fst.toNat]?.bind
                                  fun (e_2 : (Int × Int) × UInt8 × Int × UInt8 × List UInt8 × List (Int × Int)) =>
                                  bif decide (0 ≤ z_1.fst.fst) && decide (z_1.fst.fst < (↑n : Int)) then
                                    z_1.snd.snd.snd.fst[0 + z_1.fst.fst.toNat]?.bind
                                      fun (e_3 : (Int × Int) × UInt8 × Int × UInt8 × List UInt8 × List (Int × Int)) =>
                                      bif
                                          decide (0 ≤ IntKind.i64.wrap (z_1.fst.fst - 1)) &&
                                            decide (IntKind.i64.wrap (z_1.fst.fst - 1) < (↑n : Int)) then
                                        (z_1.snd.snd.snd.fst.set (0 + z_1.fst.fst.toNat)
                                                e)[0 + (IntKind.i64.wrap (z_1.fst.fst - 1)).toNat]?.bind
                                          fun
                                            (e_4 : (Int × Int) × UInt8 × Int × UInt8 × List UInt8 × List (Int × Int)) =>
                                          rec_1
                                            ((IntKind.i64.wrap (z_1.fst.fst - 1), ()), (), (),
                                              (z_1.snd.snd.snd.fst.set (0 + z_1.fst.fst.toNat) e).set
                                                (0 + (IntKind.i64.wrap (z_1.fst.fst - 1)).toNat) e_2,
                                              ())
                                      else none
                                  else none
                              else none
                          else none
                        else rec ((IntKind.i64.wrap (z.fst.fst + 1), ()), (), (), z_1.snd.snd.snd.fst, ())
                  else none
              else none
            else rec ((IntKind.i64.wrap (z.fst.fst + 1), ()), (), (), z_1.snd.snd.snd.fst, ()))
          N ((z.fst.fst, ()), (), (), z.snd.snd.snd.fst, ())
      else some (z.snd.snd.snd.fst, ()))
    N ((IntKind.i64.wrap (x + 1), ()), (), (), l, ())
theorem E_slices_insertionSortCmpFunc_Event (N : Nat) : runO Try.prog [e_event_Sort_1 N] [] N Try.f140 (.seq .lf (.blk (.loop ⟨[(8, .d (.int .i64))], [], [0, 1, 2, 3], [], [], [(1, tEvent)]⟩ (.seq .lf (.seq (.blk (.seq .lf (.blk (.loop ⟨[(9, .d (.int .i64))], [], [0, 1, 2, 3, 8], [], [], [(1, tEvent)]⟩ .lf)))) .lf))))) tEvent [.d (.int .i64), .d (.int .i64), .c 80] [] = F_slices_insertionSortCmpFunc_Event N := by kernel_rfl
noncomputable def e_slices_insertionSortCmpFunc_Event (N : Nat) : Ent Try.prog := mkO2 140 Try.f140 (.seq .lf (.blk (.loop ⟨[(8, .d (.int .i64))], [], [0, 1, 2, 3], [], [], [(1, tEvent)]⟩ (.seq .lf (.seq (.blk (.seq .lf (.blk (.loop ⟨[(9, .d (.int .i64))], [], [0, 1, 2, 3, 8], [], [], [(1, tEvent)]⟩ .lf)))) .lf))))) (.seq .lf (.blk (.loop ⟨[(8, .d (.int .i64))], [], [0, 1, 2, 3], [], [], []⟩ (.seq .lf (.seq (.blk (.seq .lf (.blk (.loop ⟨[(9, .d (.int .i64))], [], [0, 1, 2, 3, 8], [], [], []⟩ .lf)))) .lf))))) tEvent [.d (.int .i64), .d (.int .i64), .c 80] [] (F_slices_insertionSortCmpFunc_Event N) (F0_slices_insertionSortCmpFunc_Event N) mixed Try.func140 (.mk' Try.func140 rfl (by decide)) rfl (E_slices_insertionSortCmpFunc_Event N) (E0_slices_insertionSortCmpFunc_Event N)
noncomputable def e_slices_symMergeCmpFunc_Event (N : Nat) : Ent Try.prog := mkNone 141
noncomputable def F0_slices_stableCmpFunc_Event (N : Nat) : FunA [.d (.int .i64), .c 80] (Option (ResT (rkTys tEvent []))) :=
  fun (x : Int) =>
  iter
    (fun (rec : (Int × Int × Unit) × Unit × Unit × Unit → Option Unit)
        (z : (Int × Int × Unit) × Unit × Unit × Unit) =>
      bif decide (z.fst.snd.fst ≤ x) then
        Option.bind (F0_slices_insertionSortCmpFunc_Event N z.fst.fst z.fst.snd.fst) fun (y : Unit) =>
          rec ((z.fst.snd.fst, IntKind.i64.wrap (z.fst.snd.fst + 20), ()), (), (), ())
      else
        Option.bind (F0_slices_insertionSortCmpFunc_Event N z.fst.fst x) fun (y : Unit) =>
          iter
            (fun (rec : (Int × Unit) × Unit × Unit × Unit → Option Unit)
                (z : (Int × Unit) × Unit × Unit × Unit) =>
              bif decide (z.fst.fst < x) then
                iter
                  (fun (rec_1 : (Int × Int × Unit) × Unit × Unit × Unit → Option Unit)
                      (z_1 : (Int × Int × Unit) × Unit × Unit × Unit) =>
                    bif decide (z_1.fst.snd.fst ≤ x) then none
                    else
                      bif decide (IntKind.i64.wrap (z_1.fst.fst + z.fst.fst) < x) then none
                      else rec ((IntKind.i64.wrap (z.fst.fst * 2), ()), (), (), ()))
                  N ((0, IntKind.i64.wrap (2 * z.fst.fst), ()), (), (), ())
              else some ())
            N ((20, ()), (), (), ()))
    N ((0, 20, ()), (), (), ())
theorem E0_slices_stableCmpFunc_Event (N : Nat) : runO0 Try.prog [e_slices_insertionSortCmpFunc_Event N, e_slices_symMergeCmpFunc_Event N, e_event_Sort_1 N] [] N Try.f109 (.seq .lf (.seq .lf (.seq (.blk (.loop ⟨[(7, .d (.int .i64)), (8, .d (.int .i64))], [], [0, 1, 2, 6], [], [], []⟩ .lf)) (.seq .lf (.blk (.loop ⟨[(6, .d (.int .i64))], [], [0, 1, 2], [], [], []⟩ (.seq .lf (.blk (.seq .lf (.seq (.blk (.loop ⟨[(7, .d (.int .i64)), (8, .d (.int .i64))], [], [0, 1, 2, 6], [], [], []⟩ .lf)) .lf)))))))))) tEvent [.d (.int .i64), .c 80] [] = F0_slices_stableCmpFunc_Event N := by kernel_rfl
/-- slices.stableCmpFunc[epitaph/api.Event] -/
noncomputable def F_slices_stableCmpFunc_Event (N : Nat) : List tEvent.T → Nat → FunA [.d (.int .i64), .c 80] (Option (List tEvent.T × ResO [])) :=
  fun (l : List ((Int × Int) × UInt8 × Int × UInt8 × List UInt8 × List (Int × Int))) (n : Nat) (x : Int) =>
  iter
    (fun
        (rec :
          (Int × Int × Unit) ×
              Unit × Unit × List ((Int × Int) × UInt8 × Int × UInt8 × List UInt8 × List (Int × Int)) × Unit →
            Option (List ((Int × Int) × UInt8 × Int × UInt8 × List UInt8 × List (Int × Int)) × Unit))
        (z :
          (Int × Int × Unit) ×
            Unit × Unit × List ((Int × Int) × UInt8 × Int × UInt8 × List UInt8 × List (Int × Int)) × Unit) =>
      bif decide (z.fst.snd.fst ≤ x) then
        Option.bind (F_slices_insertionSortCmpFunc_Event N z.snd.snd.snd.fst n z.fst.fst z.fst.snd.fst)
          fun (y : List ((Int × Int) × UInt8 × Int × UInt8 × List UInt8 × List (Int × Int)) × Unit) =>
          rec ((z.fst.snd.fst, IntKind.i64.wrap (z.fst.snd.fst + 20), ()), (), (), y.fst, ())
      else
        Option.bind (F_slices_insertionSortCmpFunc_Event N z.snd.snd.snd.fst n z.fst.fst x)
          fun (y : List ((Int × Int) × UInt8 × Int × UInt8 × List UInt8 × List (Int × Int)) × Unit) =>
          iter
            (fun
                (rec :
                  (Int × Unit) ×
                      Unit × Unit × List ((Int × Int) × UInt8 × Int × UInt8 × List UInt8 × List (Int × Int)) × Unit →
                    Option (List ((Int × Int) × UInt8 × Int × UInt8 × List UInt8 × List (Int × Int)) × Unit))
                (z :
                  (Int × Unit) ×
                    Unit × Unit × List ((Int × Int) × UInt8 × Int × UInt8 × List UInt8 × List (Int × Int)) × Unit) =>
              bif decide (z.fst.fst < x) then
                iter
                  (fun
                      (rec_1 :
                        (Int × Int × Unit) ×
                            Unit ×
                              Unit × List ((Int × Int) × UInt8 × Int × UInt8 × List UInt8 × List (Int × Int)) × Unit →
                          Option (List ((Int × Int) × UInt8 × Int × UInt8 × List UInt8 × List (Int × Int)) × Unit))
                      (z_1 :
                        (Int × Int × Unit) ×
                          Unit ×
                            Unit × List ((Int × Int) × UInt8 × Int × UInt8 × List UInt8 × List (Int × Int)) × Unit) =>
                    bif decide (z_1.fst.snd.fst ≤ x) then none
                    else
                      bif decide (IntKind.i64.wrap (z_1.fst.fst + z.fst.fst) < x) then none
                      else rec ((IntKind.i64.wrap (z.fst.fst * 2), ()), (), (), z_1.snd.snd.snd.fst, ()))
                  N ((0, IntKind.i64.wrap (2 * z.fst.fst), ()), (), (), z.snd.snd.snd.fst, ())
              else some (z.snd.snd.snd.fst, ()))
            N ((20, ()), (), (), y.fst, ()))
    N ((0, 20, ()), (), (), l, ())
theorem E_slices_stableCmpFunc_Event (N : Nat) : runO Try.prog [e_slices_insertionSortCmpFunc_Event N, e_slices_symMergeCmpFunc_Event N, e_event_Sort_1 N] [] N Try.f109 (.seq .lf (.seq .lf (.seq (.blk (.loop ⟨[(7, .d (.int .i64)), (8, .d (.int .i64))], [], [0, 1, 2, 6], [], [], [(1, tEvent)]⟩ .lf)) (.seq .lf (.blk (.loop ⟨[(6, .d (.int .i64))], [], [0, 1, 2], [], [], [(1, tEvent)]⟩ (.seq .lf (.blk (.seq .lf (.seq (.blk (.loop ⟨[(7, .d (.int .i64)), (8, .d (.int .i64))], [], [0, 1, 2, 6], [], [], [(1, tEvent)]⟩ .lf)) .lf)))))))))) tEvent [.d (.int .i64), .c 80] [] = F_slices_stableCmpFunc_Event N := by kernel_rfl
noncomputable def e_slices_stableCmpFunc_Event (N : Nat) : Ent Try.prog := mkO2 109 Try.f109 (.seq .lf (.seq .lf (.seq (.blk (.loop ⟨[(7, .d (.int .i64)), (8, .d (.int .i64))], [], [0, 1, 2, 6], [], [], [(1, tEvent)]⟩ .lf)) (.seq .lf (.blk (.loop ⟨[(6, .d (.int .i64))], [], [0, 1, 2], [], [], [(1, tEvent)]⟩ (.seq .lf (.blk (.seq .lf (.seq (.blk (.loop ⟨[(7, .d (.int .i64)), (8, .d (.int .i64))], [], [0, 1, 2, 6], [], [], [(1, tEvent)]⟩ .lf)) .lf)))))))))) (.seq .lf (.seq .lf (.seq (.blk (.loop ⟨[(7, .d (.int .i64)), (8, .d (.int .i64))], [], [0, 1, 2, 6], [], [], []⟩ .lf)) (.seq .lf (.blk (.loop ⟨[(6, .d (.int .i64))], [], [0, 1, 2], [], [], []⟩ (.seq .lf (.blk (.seq .lf (.seq (.blk (.loop ⟨[(7, .d (.int .i64)), (8, .d (.int .i64))], [], [0, 1, 2, 6], [], [], []⟩ .lf)) .lf)))))))))) tEvent [.d (.int .i64), .c 80] [] (F_slices_stableCmpFunc_Event N) (F0_slices_stableCmpFunc_Event N) mixed Try.func109 (.mk' Try.func109 rfl (by decide)) rfl (E_slices_stableCmpFunc_Event N) (E0_slices_stableCmpFunc_Event N)
noncomputable def F0_slices_SortStableFunc_sEvent_Event (N : Nat) : FunA [.c 80] (Option (ResT (rkTys tEvent []))) :=
  Option.bind (F0_slices_stableCmpFunc_Event N 0) fun (y : Unit) => some ()
theorem E0_slices_SortStableFunc_sEvent_Event (N : Nat) : runO0 Try.prog [e_slices_stableCmpFunc_Event N, e_event_Sort_1 N] [] N Try.f79 .lf tEvent [.c 80] [] = F0_slices_SortStableFunc_sEvent_Event N := by kernel_rfl
/-- slices.SortStableFunc[[]epitaph/api.Event,epitaph/api.Event] -/
noncomputable def F_slices_SortStableFunc_sEvent_Event (N : Nat) : List tEvent.T → Nat → FunA [.c 80] (Option (List tEvent.T × ResO [])) :=
  fun (l : List ((Int × Int) × UInt8 × Int × UInt8 × List UInt8 × List (Int × Int))) (n : Nat) =>
  Option.bind (F_slices_stableCmpFunc_Event N l n (↑n : Int))
    fun (y : List ((Int × Int) × UInt8 × Int × UInt8 × List UInt8 × List (Int × Int)) × Unit) => some (y.fst, ())
theorem E_slices_SortStableFunc_sEvent_Event (N : Nat) : runO Try.prog [e_slices_stableCmpFunc_Event N, e_event_Sort_1 N] [] N Try.f79 .lf tEvent [.c 80] [] = F_slices_SortStableFunc_sEvent_Event N := by kernel_rfl
noncomputable def e_slices_SortStableFunc_sEvent_Event (N : Nat) : Ent Try.prog := mkO2 79 Try.f79 .lf .lf tEvent [.c 80] [] (F_slices_SortStableFunc_sEvent_Event N) (F0_slices_SortStableFunc_sEvent_Event N) mixed Try.func79 (.mk' Try.func79 rfl (by decide)) rfl (E_slices_SortStableFunc_sEvent_Event N) (E0_slices_SortStableFunc_sEvent_Event N)
/-- epitaph/event.Sort$2 -/
noncomputable def F_event_Sort_2 (N : Nat) : Fun [tEvent, tEvent] (Option (ResT [.bool])) :=
  fun (x x_1 : (Int × Int) × UInt8 × Int × UInt8 × List UInt8 × List (Int × Int)) =>
  some (x.fst.fst == x_1.fst.fst && x.fst.snd == x_1.fst.snd)
theorem E_event_Sort_2 (N : Nat) : runF Try.prog [] [] N Try.f83 .lf [tEvent, tEvent] [.bool] = F_event_Sort_2 N := by kernel_rfl
noncomputable def e_event_Sort_2 (N : Nat) : Ent Try.prog := mkFn 83 Try.f83 .lf [tEvent, tEvent] [.bool] (F_event_Sort_2 N) mixed Try.func83 (.mk' Try.func83 rfl (by decide)) rfl (E_event_Sort_2 N)
noncomputable def F0_slices_CompactFunc_sEvent_Event (N : Nat) : FunA [.c 83] (Option (ResT (rkTys tEvent [.s]))) :=
  some []
theorem E0_slices_CompactFunc_sEvent_Event (N : Nat) : runO0 Try.prog [e_event_Sort_2 N] [] N Try.f82 (.seq .lf (.seq .lf (.seq (.seq .lf (.blk (.loop ⟨[(5, .d (.int .i64))], [], [0, 1], [], [], []⟩ (.seq .lf (.seq (.blk (.seq .lf (.cond (.seq .lf (.seq (.seq .lf (.blk (.loop ⟨[(5, .d (.int .i64)), (7, .d (.int .i64))], [], [0, 1, 6], [], [], []⟩ .lf))) .lf)) .lf))) .lf))))) .lf))) tEvent [.c 83] [.s] = F0_slices_CompactFunc_sEvent_Event N := by kernel_rfl
/-- slices.CompactFunc[[]epitaph/api.Event,epitaph/api.Event] -/
noncomputable def F_slices_CompactFunc_sEvent_Event (N : Nat) : List tEvent.T → Nat → FunA [.c 83] (Option (List tEvent.T × ResO [.s])) :=
  fun (l : List ((Int × Int) × UInt8 × Int × UInt8 × List UInt8 × List (Int × Int))) (n : Nat) =>
  bif decide ((↑n : Int) < 2) then some (l, n)
  else
    iter
      (fun
          (rec :
            (Int × Unit) ×
                Unit × Unit × List ((Int × Int) × UInt8 × Int × UInt8 × List UInt8 × List (Int × Int)) × Unit →
              Option (List ((Int × Int) × UInt8 × Int × UInt8 × List UInt8 × List (Int × Int)) × Nat))
          (z :
            (Int × Unit) ×
              Unit × Unit × List ((Int × Int) × UInt8 × Int × UInt8 × List UInt8 × List (Int × Int)) × Unit) =>
        bif decide (z.fst.fst < (↑n : Int)) then
          bif decide (0 ≤ z.fst.fst) && decide (z.fst.fst < (↑n : Int)) then
            z.snd.snd.snd.fst[0 + z.fst.fst.toNat]?.bind
              fun (e : (Int × Int) × UInt8 × Int × UInt8 × List UInt8 × List (Int × Int)) =>
              bif
                  decide (0 ≤ IntKind.i64.wrap (z.fst.fst - 1)) &&
                    decide (IntKind.i64.wrap (z.fst.fst - 1) < (↑n : Int)) then
                z.snd.snd.snd.fst[0 + (IntKind.i64.wrap (z.fst.fst - 1)).toNat]?.bind
                  fun (e_1 : (Int × Int) × UInt8 × Int × UInt8 × List UInt8 × List (Int × Int)) =>
                  Option.bind (F_event_Sort_2 N e e_1) fun (y : Bool) =>
                    bif y then
                      bif cutOk z.fst.fst (↑n : Int) n then
                        iter
                          (fun
                              (rec :
                                (Int × Int × Unit) ×
                                    Unit ×
                                      Unit ×
                                        List ((Int × Int) × UInt8 × Int × UInt8 × List UInt8 × List (Int × Int)) ×
                                          Unit →
                                  Option
                                    (List ((Int × Int) × UInt8 × Int × UInt8 × List UInt8 × List (Int × Int)) × Nat))
                              (z_1 :
                                (Int × Int × Unit) ×
                                  Unit ×
                                    Unit ×
                                      List ((Int × Int) × UInt8 × Int × UInt8 × List UInt8 × List (Int × Int)) ×
                                        Unit) =>
                            bif decide (z_1.fst.snd.fst < (↑((↑n : Int).toNat - z.fst.fst.toNat) : Int)) then
                              bif
                                  decide (0 ≤ z_1.fst.snd.fst) &&
                                    decide (z_1.fst.snd.fst < (↑((↑n : Int).toNat - z.fst.fst.toNat) : Int)) then
                                z_1.snd.snd.snd.fst[0 + z.fst.fst.toNat + z_1.fst.snd.fst.toNat]?.bind
                                  fun (e : (Int × Int) × UInt8 × Int × UInt8 × List UInt8 × List (Int × Int)) =>
                                  bif
                                      decide (0 ≤ IntKind.i64.wrap (z_1.fst.snd.fst - 1)) &&
                                        decide
                                          (IntKind.i64.wrap (z_1.fst.snd.fst - 1) <
                                            (↑((↑n : Int).toNat - z.fst.fst.toNat) : Int)) then
                                    z_1.snd.snd.snd.fst[0 + z.fst.fst.toNat +
                                            (IntKind.i64.wrap (z_1.fst.snd.fst - 1)).toNat]?.bind
                                      fun (e_2 : (Int × Int) × UInt8 × Int × UInt8 × List UInt8 × List (Int × Int)) =>
                                      Option.bind (F_event_Sort_2 N e e_2) fun (y : Bool) =>
                                        bif !y then
                                          bif
                                              decide (0 ≤ z_1.fst.snd.fst) &&
                                                decide
                                                  (z_1.fst.snd.fst < (↑((↑n : Int).toNat - z.fst.fst.toNat) : Int)) then
                                            z_1.snd.snd.snd.fst[0 + z.fst.fst.toNat + z_1.fst.snd.fst.toNat]?.bind
                                              fun
                                                (e :
                                                  (Int × Int) × UInt8 × Int × UInt8 × List UInt8 × List (Int × Int)) =>
                                              bif decide (0 ≤ z_1.fst.fst) && decide (z_1.fst.fst < (↑n : Int)) then
                                                z_1.snd.snd.snd.fst[0 + z_1.fst.fst.toNat]?.bind
                                                  fun
                                                    (e_3 :
                                                      (Int × Int) ×
                                                        UInt8 × Int × UInt8 × List UInt8 × List (Int × Int)) =>
                                                  rec
                                                    ((IntKind.i64.wrap (z_1.fst.fst + 1),
                                                        IntKind.i64.wrap (z_1.fst.snd.fst + 1), ()),
                                                      (), (), z_1.snd.snd.snd.fst.set (0 + z_1.fst.fst.toNat) e, ())
                                              else none
                                          else none
                                        else
                                          rec
                                            ((z_1.fst.fst, IntKind.i64.wrap (z_1.fst.snd.fst + 1), ()), (), (),
                                              z_1.snd.snd.snd.fst, ())
                                  else none
                              else none
                            else
                              bif cutOk z_1.fst.fst (↑n : Int) n then
                                bif cutOk 0 z_1.fst.fst n then
                                  some (List.take (0 + z_1.fst.fst.toNat) z_1.snd.snd.snd.fst, z_1.fst.fst.toNat - 0)
                                else none
                              else none)
                          N ((z.fst.fst, 1, ()), (), (), z.snd.snd.snd.fst, ())
                      else none
                    else rec ((IntKind.i64.wrap (z.fst.fst + 1), ()), (), (), z.snd.snd.snd.fst, ())
              else none
          else none
        else some (z.snd.snd.snd.fst, n))
      N ((1, ()), (), (), l, ())
theorem E_slices_CompactFunc_sEvent_Event (N : Nat) : runO Try.prog [e_event_Sort_2 N] [] N Try.f82 (.seq .lf (.seq .lf (.seq (.seq .lf (.blk (.loop ⟨[(5, .d (.int .i64))], [], [0, 1], [], [], [(1, tEvent)]⟩ (.seq .lf (.seq (.blk (.seq .lf (.cond (.seq .lf (.seq (.seq .lf (.blk (.loop ⟨[(5, .d (.int .i64)), (7, .d (.int .i64))], [], [0, 1, 6], [], [], [(1, tEvent)]⟩ .lf))) .lf)) .lf))) .lf))))) .lf))) tEvent [.c 83] [.s] = F_slices_CompactFunc_sEvent_Event N := by kernel_rfl
noncomputable def e_slices_CompactFunc_sEvent_Event (N : Nat) : Ent Try.prog := mkO2 82 Try.f82 (.seq .lf (.seq .lf (.seq (.seq .lf (.blk (.loop ⟨[(5, .d (.int .i64))], [], [0, 1], [], [], [(1, tEvent)]⟩ (.seq .lf (.seq (.blk (.seq .lf (.cond (.seq .lf (.seq (.seq .lf (.blk (.loop ⟨[(5, .d (.int .i64)), (7, .d (.int .i64))], [], [0, 1, 6], [], [], [(1, tEvent)]⟩ .lf))) .lf)) .lf))) .lf))))) .lf))) (.seq .lf (.seq .lf (.seq (.seq .lf (.blk (.loop ⟨[(5, .d (.int .i64))], [], [0, 1], [], [], []⟩ (.seq .lf (.seq (.blk (.seq .lf (.cond (.seq .lf (.seq (.seq .lf (.blk (.loop ⟨[(5, .d (.int .i64)), (7, .d (.int .i64))], [], [0, 1, 6], [], [], []⟩ .lf))) .lf)) .lf))) .lf))))) .lf))) tEvent [.c 83] [.s] (F_slices_CompactFunc_sEvent_Event N) (F0_slices_CompactFunc_sEvent_Event N) mixed Try.func82 (.mk' Try.func82 rfl (by decide)) rfl (E_slices_CompactFunc_sEvent_Event N) (E0_slices_CompactFunc_sEvent_Event N)
/-- epitaph/event.Sort -/
noncomputable def F_event_Sort (N : Nat) : Fun [(.sl tEvent)] (Option (ResT [(.sl tEvent)])) :=
  fun (x : List ((Int × Int) × UInt8 × Int × UInt8 × List UInt8 × List (Int × Int))) =>
  iter
    (fun
        (rec :
          (Int × Unit) ×
              Unit ×
                (Option (List ((Int × Int) × UInt8 × Int × UInt8 × List UInt8 × List (Int × Int)) × Nat) × Unit) ×
                  Unit →
            Option (List ((Int × Int) × UInt8 × Int × UInt8 × List UInt8 × List (Int × Int))))
        (z :
          (Int × Unit) ×
            Unit ×
              (Option (List ((Int × Int) × UInt8 × Int × UInt8 × List UInt8 × List (Int × Int)) × Nat) × Unit) ×
                Unit) =>
      optCase z.snd.snd.fst.fst
        (bif decide (z.fst.fst < (↑x.length : Int)) then
          (at? x z.fst.fst).bind fun (e : (Int × Int) × UInt8 × Int × UInt8 × List UInt8 × List (Int × Int)) =>
            Option.bind (F_event_Copy N e)
              fun (y : (Int × Int) × UInt8 × Int × UInt8 × List UInt8 × List (Int × Int)) =>
              rec ((IntKind.i64.wrap (z.fst.fst + 1), ()), (), (some ([y], [y].length), ()), ())
        else
          Option.bind (F0_slices_SortStableFunc_sEvent_Event N) fun (y : Unit) =>
            Option.bind (F0_slices_CompactFunc_sEvent_Event N)
              fun (y : List ((Int × Int) × UInt8 × Int × UInt8 × List UInt8 × List (Int × Int))) => some y)
        fun (y : List ((Int × Int) × UInt8 × Int × UInt8 × List UInt8 × List (Int × Int)) × Nat) =>
        bif decide (z.fst.fst < (↑x.length : Int)) then
          (at? x z.fst.fst).bind fun (e : (Int × Int) × UInt8 × Int × UInt8 × List UInt8 × List (Int × Int)) =>
            Option.bind (F_event_Copy N e)
              fun (y_1 : (Int × Int) × UInt8 × Int × UInt8 × List UInt8 × List (Int × Int)) =>
              bif y.fst.length.beq y.snd then
                bif fitsB (y.snd + [y_1].length) 80 then
                  rec
                    ((IntKind.i64.wrap (z.fst.fst + 1), ()), (), (some (y.fst ++ [y_1], y.snd + [y_1].length), ()), ())
                else none
              else none
        else
          Option.bind (F_slices_SortStableFunc_sEvent_Event N y.fst y.snd)
            fun (y_1 : List ((Int × Int) × UInt8 × Int × UInt8 × List UInt8 × List (Int × Int)) × Unit) =>
            Option.bind (F_slices_CompactFunc_sEvent_Event N y_1.fst y.snd)
              fun (y : List ((Int × Int) × UInt8 × Int × UInt8 × List UInt8 × List (Int × Int)) × Nat) =>
              bif (0 + y.snd).ble y.fst.length then some (List.take y.snd (List.drop 0 y.fst)) else none)
    N ((0, ()), (), (none, ()), ())
theorem E_event_Sort (N : Nat) : runF Try.prog [e_event_Copy N, e_slices_SortStableFunc_sEvent_Event N, e_event_Sort_1 N, e_slices_CompactFunc_sEvent_Event N, e_event_Sort_2 N] [16] N Try.f31 (.seq .lf (.seq .lf (.seq (.seq .lf (.blk (.loop ⟨[(8, .d (.int .i64))], [], [6, 7], [], [(3, 400003, tEvent)], []⟩ .lf))) .lf))) [(.sl tEvent)] [(.sl tEvent)] = F_event_Sort N := by kernel_rfl
noncomputable def e_event_Sort (N : Nat) : Ent Try.prog := mkFn 31 Try.f31 (.seq .lf (.seq .lf (.seq (.seq .lf (.blk (.loop ⟨[(8, .d (.int .i64))], [], [6, 7], [], [(3, 400003, tEvent)], []⟩ .lf))) .lf))) [(.sl tEvent)] [(.sl tEvent)] (F_event_Sort N) mixed Try.func31 (.mk' Try.func31 rfl (by decide)) rfl (E_event_Sort N)
end Go.Proofs.Xg
/-
  Lists without neighbours that are the same.
-/
set_option linter.unusedVariables false
set_option linter.unusedSimpArgs false
namespace Go.Proofs.Xg
open Go Go.Xl Go.Ab Go.Proofs Go.Sort

section
variable {α : Type} [DecidableEq α]

def compGo (p : α) : List α → List α
  | [] => []
  | y :: r => if y = p then compGo p r else y :: compGo y r

/-- each one once, of those that stand side by side -/
def comp : List α → List α
  | [] => []
  | x :: r => x :: compGo x r

theorem compGo_snoc (q y : α) : ∀ (p : α) (l : List α), (p :: l).getLast? = some q → compGo p (l ++ [y]) = if y = q then compGo p l else compGo p l ++ [y]
  | p, [], h => by
    simp at h
    subst h
    simp [compGo]
  | p, x :: r, h => by
    rw [List.getLast?_cons_cons] at h
    simp only [List.cons_append, compGo]
    have ih := compGo_snoc q y x r h
    by_cases hx : x = p
    · subst hx
      rw [if_pos rfl, if_pos rfl, ih]
    · rw [if_neg hx, if_neg hx, ih]
      by_cases hy : y = q
      · rw [if_pos hy, if_pos hy]
      · rw [if_neg hy, if_neg hy]; rfl

theorem comp_take_succ {l : List α} {m : Nat} (hm : 0 < m) {a b : α} (ha : l[m - 1]? = some a) (hb : l[m]? = some b) : comp (l.take (m + 1)) = if b = a then comp (l.take m) else comp (l.take m) ++ [b] := by
  have hlt : m < l.length := (List.getElem?_eq_some_iff.1 hb).1
  have e : l.take (m + 1) = l.take m ++ [b] := by
    rw [List.take_add_one, hb]; rfl
  rw [e]
  cases hl : l.take m with
  | nil => simp at hl; rcases hl with h | h <;> (subst h; simp at *)
  | cons x r =>
    have hlast : (x :: r).getLast? = some a := by
      rw [← hl, List.getLast?_eq_getElem?, List.length_take, List.getElem?_take, Nat.min_eq_left (by omega), if_pos (by omega)]; exact ha
    simp only [List.cons_append, comp]
    rw [compGo_snoc a b x r hlast]
    by_cases h : b = a
    · rw [if_pos h, if_pos h]
    · rw [if_neg h, if_neg h]

theorem comp_one (l : List α) : comp (l.take 1) = l.take 1 := by
  cases l with
  | nil => rfl
  | cons x r => simp [comp, compGo]
end

theorem dot_eq (e f : Int × Int) : (e.fst == f.fst && e.snd == f.snd) = decide (e = f) := by
  obtain ⟨a, b⟩ := e; obtain ⟨c, d⟩ := f
  by_cases h1 : a = c <;> by_cases h2 : b = d <;> simp [h1, h2]

end Go.Proofs.Xg
/-
  slices.Compact at dots.
-/
set_option linter.unusedVariables false
set_option linter.unusedSimpArgs false
namespace Go.Proofs.Xg
open Go Go.Xl Go.Ab Go.Proofs Go.Sort

theorem getElem?_lt {α : Type} {l : List α} {i : Nat} (h : i < l.length) : l[i]? = some l[i] := List.getElem?_eq_getElem h

theorem toNat_nat (n : Nat) : ((n : Int)).toNat = n := rfl

/-- what Compact is said to do -/
def CompactQ (l : List (Int × Int)) (r : List (Int × Int) × Nat) : Prop := r.1.take r.2 = comp l ∧ r.2 ≤ r.1.length

theorem compact_eq (N : Nat) (l : List (Int × Int)) (hb : l.length < 4611686018427387904) (hN : l.length < N) : ∃ r, F_slices_Compact_sDot_Dot N l l.length = some r ∧ CompactQ l r := by
  unfold F_slices_Compact_sDot_Dot
  simp only [cond_eq_ite, dot_eq]
  by_cases h2 : ((l.length : Nat) : Int) < 2
  · rw [if_pos (by simpa using h2)]
    refine ⟨_, rfl, ?_, Nat.le_refl _⟩
    have : l = l.take 1 := by rw [List.take_of_length_le (by omega)]
    rw [List.take_length, this, comp_one]
  · rw [if_neg (by simpa using h2)]
    refine iter_ok (fun n z => ∃ k : Nat, z = (((k : Int), ()), (), (), l, ()) ∧ 1 ≤ k ∧ k ≤ l.length ∧ n = l.length - k ∧ comp (l.take k) = l.take k) ?_ N (l.length - 1) _ ⟨1, rfl, by omega, by omega, rfl, comp_one l⟩ (by omega)
    rintro n z rec ⟨k, rfl, k1, k2, hn, hc⟩ ih
    simp only
    by_cases hk : k < l.length
    · have e1 : IntKind.i64.wrap ((k : Int) - 1) = ((k - 1 : Nat) : Int) := i64_pred (by omega) (by omega)
      have e2 : IntKind.i64.wrap ((k : Int) + 1) = ((k + 1 : Nat) : Int) := i64_succ (by omega)
      simp only [e1, e2, toNat_nat, Nat.zero_add, getElem?_lt hk, getElem?_lt (show k - 1 < l.length by omega), Option.bind_some]
      rw [if_pos (by simp; omega), if_pos (by simp; omega), if_pos (by simp; omega)]
      have hstep := comp_take_succ (l := l) (m := k) (by omega) (getElem?_lt (show k - 1 < l.length by omega)) (getElem?_lt hk)
      by_cases he : l[k] = l[k - 1]
      · rw [if_pos (by simpa using he), if_pos (by simp [cutOk]; omega)]
        refine iter_ok (fun n z => ∃ (i q : Nat) (c : List (Int × Int)), z = (((i : Int), (q : Int), ()), (), (), c, ()) ∧ 1 ≤ q ∧ k + q ≤ l.length ∧ i + 1 ≤ k + q ∧ c.length = l.length ∧
          (∀ j, i ≤ j → c[j]? = l[j]?) ∧ c.take i = comp (l.take (k + q)) ∧ n = l.length - (k + q)) ?_ N (l.length - (k + 1)) _
          ⟨k, 1, l, rfl, by omega, by omega, by omega, rfl, fun _ _ => rfl, by rw [hstep, if_pos he, hc], rfl⟩ (by omega)
        rintro n z rec ⟨i, q, c, rfl, q1, q2, q3, hcl, hcj, hct, hn⟩ ih'
        simp only
        by_cases hq : k + q < l.length
        · have f1 : IntKind.i64.wrap ((q : Int) - 1) = ((q - 1 : Nat) : Int) := i64_pred (by omega) (by omega)
          have f2 : IntKind.i64.wrap ((q : Int) + 1) = ((q + 1 : Nat) : Int) := i64_succ (by omega)
          have f3 : IntKind.i64.wrap ((i : Int) + 1) = ((i + 1 : Nat) : Int) := i64_succ (by omega)
          have g1 : c[k + q]? = some l[k + q] := by rw [hcj _ (by omega), getElem?_lt hq]
          have g2 : c[k + (q - 1)]? = some l[k + (q - 1)] := by rw [hcj _ (by omega), getElem?_lt (by omega)]
          have g3 : c[i]? = some (c[i]'(by omega)) := getElem?_lt (by omega)
          simp only [f1, f2, f3, toNat_nat, Nat.zero_add, g1, g2, g3, Option.bind_some]
          rw [if_pos (by simp; omega), if_pos (by simp; omega), if_pos (by simp; omega)]
          have hs := comp_take_succ (l := l) (m := k + q) (a := l[k + (q - 1)]) (by omega) (by rw [show k + q - 1 = k + (q - 1) by omega]; exact getElem?_lt _) (getElem?_lt hq)
          by_cases hne : l[k + q] = l[k + (q - 1)]
          · rw [if_neg (by simpa using hne)]
            refine ih' (l.length - (k + (q + 1))) _ (by omega) ⟨i, q + 1, c, rfl, by omega, by omega, by omega, hcl, hcj, ?_, rfl⟩
            rw [hct, ← Nat.add_assoc, hs, if_pos hne]
          · rw [if_pos (by simpa using hne), if_pos (by simp; omega), if_pos (by simp; omega)]
            refine ih' (l.length - (k + (q + 1))) _ (by omega) ⟨i + 1, q + 1, c.set i l[k + q], rfl, by omega, by omega, by omega, by simpa using hcl, ?_, ?_, rfl⟩
            · intro j hj
              rw [List.getElem?_set_ne (by omega)]
              exact hcj j (by omega)
            · rw [← Nat.add_assoc, hs, if_neg hne, ← hct, List.take_add_one, List.take_set_of_le (Nat.le_refl _), List.getElem?_set_self (by omega)]; rfl
        · rw [if_neg (by simp; omega), if_pos (by simp [cutOk]; omega), if_pos (by simp [cutOk]; omega)]
          refine ⟨_, rfl, ?_, ?_⟩
          · have : k + q = l.length := by omega
            rw [this, List.take_length] at hct
            simp only [toNat_nat, Nat.zero_add, Nat.sub_zero, CompactQ]
            rw [← hct, List.take_take, Nat.min_self]
          · simp only [toNat_nat, Nat.sub_zero, Nat.zero_add, List.length_take]; omega
      · rw [if_neg (by simpa using he)]
        refine ih (l.length - (k + 1)) _ (by omega) ⟨k + 1, rfl, by omega, by omega, rfl, ?_⟩
        rw [hstep, if_neg he, hc, List.take_add_one, getElem?_lt hk]; rfl
    · rw [if_neg (by simp; omega)]
      refine ⟨_, rfl, ?_, Nat.le_refl _⟩
      have : k = l.length := by omega
      subst this
      rw [List.take_length] at hc ⊢
      exact hc.symm

end Go.Proofs.Xg
/-
  dot.Sort: in order, each once.
-/
set_option linter.unusedVariables false
set_option linter.unusedSimpArgs false
namespace Go.Proofs.Xg
open Go Go.Xl Go.Ab Go.Proofs Go.Sort

/-- dots in order, each once -/
def sortDots (l : List (Int × Int)) : List (Int × Int) := comp (F_SortFunc_Dot l)

theorem sort_length (l : List (Int × Int)) : (F_SortFunc_Dot l).length = l.length := by simp [F_SortFunc_Dot]

theorem dotSort_eq (N : Nat) (l : List (Int × Int)) (hb : l.length * 16 ≤ 140737488355328) (hN : l.length < N) : F_dot_Sort N l = some (sortDots l) := by
  unfold F_dot_Sort
  cases l with
  | nil =>
    simp only [listCase, optCase, Option.bind_some, sortDots, F_SortFunc_Dot, List.mergeSort_nil, comp]
    rfl
  | cons x r =>
    have hlen : (x :: r).length < 4611686018427387904 := by omega
    have hfit : fitsB (x :: r).length 16 = true := by
      simp only [fitsB, Bool.and_eq_true, decide_eq_true_eq]
      omega
    generalize hl : x :: r = l at *
    have hs := sort_length l
    obtain ⟨q, hq, h1, h2⟩ := compact_eq N (F_SortFunc_Dot l) (by omega) (by omega)
    rw [hs] at hq
    have e : listCase l (some none) (fun (y : Int × Int) r => bif fitsB (y :: r).length 16 then some (some (y :: r, (y :: r).length)) else none) = some (some (l, l.length)) := by
      subst hl
      simp only [listCase, hfit, cond_true]
    rw [e]
    simp only [Option.bind_some, optCase, List.take_length, List.drop_length, List.append_nil, hq]
    have b1 : Nat.ble l.length l.length = true := by simp
    have b2 : Nat.ble l.length 4611686018427387903 = true := by simp only [Nat.ble_eq]; omega
    have b3 : Nat.ble (0 + q.2) q.1.length = true := by simp only [Nat.ble_eq]; omega
    simp only [b1, b2, b3, cond_true, List.drop_zero, h1]
    rfl

end Go.Proofs.Xg
/-
  EventTells: plain laws.
-/
set_option linter.unusedVariables false
set_option linter.unusedSimpArgs false
namespace Go.Proofs.Xg
open Go Go.Xl Go.Ab Go.Proofs Go.Sort

theorem getl {α : Type} {l : List α} {i : Nat} (h : i < l.length) : l[i]? = some l[i] := List.getElem?_eq_getElem h

theorem dec_lt (a b : Nat) : decide ((a : Int) < (b : Int)) = decide (a < b) := by simp

theorem refHas_eq (N : Nat) (l : List (Int × Int)) (d : Int × Int) (hl : l.length < 9223372036854775807) (hN : l.length < N) : F_epitaphref07_Has N l d = some (decide (d ∈ l)) := by
  unfold F_epitaphref07_Has
  refine (scan_eq l.length (fun k => some (decide (d ∈ l.drop k))) 0 ?_ ?_ N hN).trans rfl
  · intro rec k _ hk hr
    simp only [dec_lt, at?_nat, getl hk, Option.bind_some, i64_succ (show k + 1 < 9223372036854775808 by omega), hr, decide_eq_true hk, cond_true, dot_eq]
    have e : l.drop k = l[k] :: l.drop (k + 1) := List.drop_eq_getElem_cons hk
    rw [e]
    by_cases h : l[k] = d
    · subst h; simp [-List.getElem_cons_drop]
    · rw [decide_eq_false h, cond_false]
      have : (d ∈ l[k] :: l.drop (k + 1)) ↔ d ∈ l.drop (k + 1) := by simp [-List.getElem_cons_drop, Ne.symm h]
      simp only [this]
  · intro rec k hk
    simp only [dec_lt, decide_eq_false (show ¬ k < l.length by omega), cond_false]
    rw [List.drop_eq_nil_of_le hk]; rfl

theorem index_eq (N : Nat) (l : List (Int × Int)) (d : Int × Int) (hl : l.length < 9223372036854775807) (hN : l.length < N) :
    ∃ i : Int, F_slices_Index_sDot_Dot N l d = some i ∧ decide (0 ≤ i) = decide (d ∈ l) := by
  unfold F_slices_Index_sDot_Dot
  refine iter_ok (Q := fun i : Int => decide (0 ≤ i) = decide (d ∈ l)) (fun n z => ∃ k : Nat, z = (((k : Int), ()), (), (), ()) ∧ k ≤ l.length ∧ n = l.length - k ∧ ¬ d ∈ l.take k) ?_ N l.length _ ⟨0, rfl, Nat.zero_le _, rfl, by simp⟩ hN
  rintro n z rec ⟨k, rfl, h1, h2, h3⟩ ih
  by_cases hk : k < l.length
  · simp only [dec_lt, at?_nat, getl hk, Option.bind_some, i64_succ (show k + 1 < 9223372036854775808 by omega), decide_eq_true hk, cond_true, dot_eq]
    by_cases he : d = l[k]
    · refine ⟨(k : Int), by simp [he], ?_⟩
      have : d ∈ l := by rw [he]; exact List.getElem_mem hk
      rw [decide_eq_true this]; simp
    · rw [decide_eq_false he, cond_false]
      refine ih (l.length - (k + 1)) _ (by omega) ⟨k + 1, rfl, by omega, rfl, ?_⟩
      rw [List.take_add_one, List.mem_append, getl hk]
      simp [h3, he]
  · simp only [dec_lt, decide_eq_false hk, cond_false]
    refine ⟨-1, rfl, ?_⟩
    rw [List.take_of_length_le (by omega)] at h3
    rw [decide_eq_false h3]; rfl

theorem has_eq (N : Nat) (l : List (Int × Int)) (d : Int × Int) (hl : l.length < 9223372036854775807) (hN : l.length < N) : F_dot_Has N l d = some (decide (d ∈ l)) := by
  obtain ⟨i, h1, h2⟩ := index_eq N l d hl hN
  unfold F_dot_Has F_slices_Contains_sDot_Dot
  rw [h1]
  simp only [Option.bind_some, h2]

theorem same_eq (N : Nat) (l m : List (Int × Int)) (hl : l.length < 9223372036854775807) (hN : l.length < N) : F_epitaphref07_Same N l m = some (decide (l = m)) := by
  unfold F_epitaphref07_Same
  by_cases hlen : l.length = m.length
  · have h0 : ((l.length : Int) != (m.length : Int)) = false := by simp [hlen]
    simp only [h0, cond_false]
    refine (scan_eq l.length (fun k => some (decide (l.drop k = m.drop k))) 0 ?_ ?_ N hN).trans rfl
    · intro rec k _ hk hr
      have hk' : k < m.length := by omega
      simp only [dec_lt, at?_nat, getl hk, getl hk', Option.bind_some, i64_succ (show k + 1 < 9223372036854775808 by omega), hr, decide_eq_true hk, cond_true, dot_eq]
      have e1 : l.drop k = l[k] :: l.drop (k + 1) := List.drop_eq_getElem_cons hk
      have e2 : m.drop k = m[k] :: m.drop (k + 1) := List.drop_eq_getElem_cons hk'
      rw [e1, e2]
      by_cases he : l[k] = m[k] <;> simp [-List.getElem_cons_drop, he]
    · intro rec k hk
      simp only [dec_lt, decide_eq_false (show ¬ k < l.length by omega), cond_false]
      rw [List.drop_eq_nil_of_le hk, List.drop_eq_nil_of_le (by omega)]; rfl
  · have h0 : ((l.length : Int) != (m.length : Int)) = true := by simp; omega
    have h1 : ¬ l = m := fun h => hlen (by rw [h])
    simp only [h0, cond_true, decide_eq_false h1]

theorem equal_eq (N : Nat) (l m : List (Int × Int)) (hl : l.length < 9223372036854775807) (hN : l.length < N) : F_dot_Same N l m = some (decide (l = m)) := by
  have : F_slices_Equal_sDot_Dot N l m = F_epitaphref07_Same N l m := rfl
  unfold F_dot_Same
  rw [this, same_eq N l m hl hN]; rfl

abbrev Ev := (Int × Int) × UInt8 × Int × UInt8 × List UInt8 × List (Int × Int)

def sameE (a b : Ev) : Bool :=
  a.1.1 == b.1.1 && a.1.2 == b.1.2 && a.2.1 == b.2.1 && a.2.2.1 == b.2.2.1 && a.2.2.2.1 == b.2.2.2.1 && a.2.2.2.2.1 == b.2.2.2.2.1 && decide (a.2.2.2.2.2 = b.2.2.2.2.2)

theorem eventSame_eq (N : Nat) (a b : Ev) (hl : a.2.2.2.2.2.length < 9223372036854775807) (hN : a.2.2.2.2.2.length < N) : F_event_Same N a b = some (sameE a b) := by
  unfold F_event_Same sameE
  simp only [equal_eq N _ _ hl hN, Option.bind_some]
  cases a.1.1 == b.1.1 <;> cases a.1.2 == b.1.2 <;> cases a.2.1 == b.2.1 <;> cases a.2.2.1 == b.2.2.1 <;> cases a.2.2.2.1 == b.2.2.2.1 <;> cases a.2.2.2.2.1 == b.2.2.2.2.1 <;> rfl

theorem refSame_eq (N : Nat) (a b : Ev) (hl : a.2.2.2.2.2.length < 9223372036854775807) (hN : a.2.2.2.2.2.length < N) : F_epitaphref13_Same N a b = some (sameE a b) := by
  unfold F_epitaphref13_Same sameE
  simp only [same_eq N _ _ hl hN, Option.bind_some]
  cases a.1.1 == b.1.1 <;> cases a.1.2 == b.1.2 <;> cases a.2.1 == b.2.1 <;> cases a.2.2.1 == b.2.2.1 <;> cases a.2.2.2.1 == b.2.2.2.1 <;> cases a.2.2.2.2.1 == b.2.2.2.2.1 <;> rfl

theorem clashes_eq (N : Nat) (a b : Ev) (hl : a.2.2.2.2.2.length < 9223372036854775807) (hN : a.2.2.2.2.2.length < N) : F_event_Clashes N a b = some (a.1.1 == b.1.1 && a.1.2 == b.1.2 && !(sameE a b)) := by
  unfold F_event_Clashes
  simp only [eventSame_eq N _ _ hl hN, Option.bind_some]
  cases a.1.1 == b.1.1 <;> cases a.1.2 == b.1.2 <;> rfl

theorem kills_eq (N : Nat) (a : Ev) (d : Int × Int) (hl : a.2.2.2.2.2.length < 9223372036854775807) (hN : a.2.2.2.2.2.length < N) : F_event_Kills N a d = some (decide (d ∈ a.2.2.2.2.2)) := by
  unfold F_event_Kills
  simp only [has_eq N _ _ hl hN, Option.bind_some]

end Go.Proofs.Xg
/-
  Plain laws on lists in order: insertion, each once.
-/
set_option linter.unusedVariables false
set_option linter.unusedSimpArgs false
namespace Go.Xl

/-- an order, and what is neither ahead nor behind -/
structure LO {α : Type} (lt eq : α → α → Bool) : Prop where
  asymm : ∀ x y, lt x y = true → lt y x = false
  ntrans : ∀ x y z, lt x y = false → lt y z = false → lt x z = false
  eq_def : ∀ x y, eq x y = (!lt x y && !lt y x)

section
variable {α : Type} {lt eq : α → α → Bool}

theorem LO.irrefl (h : LO lt eq) (x : α) : lt x x = false := by
  cases hx : lt x x with
  | false => rfl
  | true => have := h.asymm x x hx; rw [hx] at this; cases this

theorem LO.trans (h : LO lt eq) {x y z : α} (h1 : lt x y = true) (h2 : lt y z = true) : lt x z = true := by
  cases hx : lt x z with
  | true => rfl
  | false =>
    have := h.ntrans x z y hx (h.asymm _ _ h2)
    rw [h1] at this; cases this

/-- x < y ≤ z -/
theorem LO.lt_le (h : LO lt eq) {x y z : α} (h1 : lt x y = true) (h2 : lt z y = false) : lt x z = true := by
  cases hx : lt x z with
  | true => rfl
  | false => have := h.ntrans x z y hx h2; rw [h1] at this; cases this

/-- x ≤ y < z -/
theorem LO.le_lt (h : LO lt eq) {x y z : α} (h1 : lt y x = false) (h2 : lt y z = true) : lt x z = true := by
  cases hx : lt x z with
  | true => rfl
  | false => have := h.ntrans y x z h1 hx; rw [h2] at this; cases this

theorem LO.eq_true (h : LO lt eq) {x y : α} : eq x y = true ↔ lt x y = false ∧ lt y x = false := by
  rw [h.eq_def]; simp

theorem LO.eq_symm (h : LO lt eq) (x y : α) : eq x y = eq y x := by rw [h.eq_def, h.eq_def, Bool.and_comm]

/-- in its place, behind those that are the same -/
def insR (lt : α → α → Bool) (x : α) : List α → List α
  | [] => [x]
  | y :: r => cond (lt x y) (x :: y :: r) (y :: insR lt x r)

/-- one by one -/
def isort (lt : α → α → Bool) (l : List α) : List α := l.foldl (fun p x => insR lt x p) []

/-- in order -/
def Asc (lt : α → α → Bool) (l : List α) : Prop := l.Pairwise fun a b => lt b a = false

/-- each one once, of those that stand side by side; the first one stays -/
def compGoB (eq : α → α → Bool) (p : α) : List α → List α
  | [] => []
  | y :: r => cond (eq y p) (compGoB eq p r) (y :: compGoB eq y r)
def compB (eq : α → α → Bool) : List α → List α
  | [] => []
  | x :: r => x :: compGoB eq x r

/-- one more, but that one with its key is there -/
def putR (lt eq : α → α → Bool) (x : α) (q : List α) : List α := cond (q.any (eq x)) q (insR lt x q)

theorem insR_mem {x z : α} {l : List α} : z ∈ insR lt x l ↔ z = x ∨ z ∈ l := by
  induction l with
  | nil => simp [insR]
  | cons y r ih =>
    simp only [insR]
    cases lt x y with
    | true => simp
    | false => simp [ih]; constructor <;> rintro (h | h | h) <;> simp [h]

theorem insR_length (x : α) (l : List α) : (insR lt x l).length = l.length + 1 := by
  induction l with
  | nil => rfl
  | cons y r ih =>
    simp only [insR]
    cases lt x y <;> simp [ih]

theorem insR_asc (h : LO lt eq) {x : α} {l : List α} (hl : Asc lt l) : Asc lt (insR lt x l) := by
  induction l with
  | nil => simp [insR, Asc]
  | cons y r ih =>
    simp only [Asc, List.pairwise_cons] at hl ⊢
    simp only [insR]
    cases hx : lt x y with
    | true =>
      simp only [cond_true, List.pairwise_cons, List.mem_cons]
      refine ⟨?_, hl.1, hl.2⟩
      rintro z (rfl | hz)
      · exact h.asymm _ _ hx
      · exact h.asymm _ _ (h.lt_le hx (hl.1 z hz))
    | false =>
      simp only [cond_false, List.pairwise_cons]
      refine ⟨fun z hz => ?_, ih hl.2⟩
      rcases insR_mem.1 hz with rfl | hz
      · exact hx
      · exact hl.1 z hz

theorem isort_snoc (l : List α) (x : α) : isort lt (l ++ [x]) = insR lt x (isort lt l) := by simp [isort]

theorem isort_asc (h : LO lt eq) (l : List α) : Asc lt (isort lt l) := by
  have : ∀ (l p : List α), Asc lt p → Asc lt (l.foldl (fun p x => insR lt x p) p) := by
    intro l
    induction l with
    | nil => intro p hp; exact hp
    | cons y r ih => intro p hp; exact ih _ (insR_asc h hp)
  exact this l [] (by simp [Asc])

theorem isort_length (l : List α) : (isort lt l).length = l.length := by
  have : ∀ (l p : List α), (l.foldl (fun p x => insR lt x p) p).length = p.length + l.length := by
    intro l
    induction l with
    | nil => intro p; simp
    | cons y r ih => intro p; rw [List.foldl_cons, ih, insR_length]; simp; omega
  simpa [isort] using this l []

theorem isort_mem {z : α} (l : List α) : z ∈ isort lt l ↔ z ∈ l := by
  have : ∀ (l p : List α), z ∈ l.foldl (fun p x => insR lt x p) p ↔ z ∈ p ∨ z ∈ l := by
    intro l
    induction l with
    | nil => intro p; simp
    | cons y r ih => intro p; rw [List.foldl_cons, ih, insR_mem]; simp; constructor <;> rintro (h | h) <;> grind
  simpa [isort] using this l []

theorem compGoB_mem {p z : α} {l : List α} (h : z ∈ compGoB eq p l) : z ∈ l := by
  induction l generalizing p with
  | nil => simp [compGoB] at h
  | cons y r ih =>
    simp only [compGoB] at h
    cases hy : eq y p with
    | true => rw [hy] at h; exact List.mem_cons_of_mem _ (ih h)
    | false =>
      rw [hy] at h
      rcases List.mem_cons.1 h with rfl | h
      · exact List.mem_cons_self
      · exact List.mem_cons_of_mem _ (ih h)

theorem compB_mem {z : α} {l : List α} (h : z ∈ compB eq l) : z ∈ l := by
  cases l with
  | nil => simp [compB] at h
  | cons x r =>
    rcases List.mem_cons.1 h with rfl | h
    · exact List.mem_cons_self
    · exact List.mem_cons_of_mem _ (compGoB_mem h)

theorem any_false {x : α} {q : List α} (h : LO lt eq) (hq : ∀ z ∈ q, lt x z = true) : q.any (eq x) = false := by
  rw [List.any_eq_false]
  intro z hz he
  have := (h.eq_true.1 he).1
  rw [hq z hz] at this; cases this

theorem insR_front {x y : α} {q : List α} (hx : lt x y = true) : insR lt x (y :: q) = x :: y :: q := by simp [insR, hx]
theorem insR_back {x y : α} {q : List α} (hx : lt x y = false) : insR lt x (y :: q) = y :: insR lt x q := by simp [insR, hx]

theorem compGoB_ins (h : LO lt eq) (x : α) : ∀ (r : List α) (y : α), Asc lt (y :: r) → lt x y = false → compGoB eq y (insR lt x r) = cond (eq x y) (compGoB eq y r) (putR lt eq x (compGoB eq y r))
  | [], y, hs, hx => by
    simp only [insR, compGoB, putR, List.any_nil, cond_false]
  | z :: r, y, hs, hx => by
    have hs' := hs
    simp only [Asc, List.pairwise_cons, List.mem_cons] at hs'
    obtain ⟨hy, hz, hr⟩ := hs'
    have hyz : lt z y = false := hy z (.inl rfl)
    cases hxz : lt x z with
    | true =>
      rw [insR_front hxz]
      have ezx : eq z x = false := by
        rw [h.eq_symm, h.eq_def, hxz]; rfl
      have hall : ∀ w ∈ z :: compGoB eq z r, lt x w = true := by
        intro w hw
        rcases List.mem_cons.1 hw with rfl | hw
        · exact hxz
        · exact h.lt_le hxz (hz w (compGoB_mem hw))
      cases he : eq x y with
      | true => simp only [compGoB, he, cond_true]
      | false =>
        have ezy : eq z y = false := by
          rw [h.eq_def, hyz]
          have : lt y z = true := h.le_lt hx hxz
          rw [this]; rfl
        simp only [compGoB, he, ezx, ezy, cond_false, putR]
        rw [any_false h hall, cond_false, insR_front hxz]
    | false =>
      rw [insR_back hxz]
      cases hezy : eq z y with
      | true =>
        simp only [compGoB, hezy, cond_true]
        refine compGoB_ins h x r y ?_ hx
        simp only [Asc, List.pairwise_cons]
        exact ⟨fun w hw => hy w (.inr hw), hr⟩
      | false =>
        have hyz' : lt y z = true := by
          cases hh : lt y z with
          | true => rfl
          | false => rw [h.eq_def, hyz, hh] at hezy; cases hezy
        have hyx : lt y x = true := h.lt_le hyz' hxz
        have exy : eq x y = false := by rw [h.eq_def, hyx]; simp
        simp only [compGoB, hezy, cond_false, exy]
        rw [compGoB_ins h x r z (by simp only [Asc, List.pairwise_cons]; exact ⟨hz, hr⟩) hxz]
        cases hexz : eq x z with
        | true => simp only [cond_true, putR, List.any_cons, hexz, Bool.true_or]
        | false =>
          simp only [cond_false, putR, List.any_cons, hexz, Bool.false_or]
          cases ha : (compGoB eq z r).any (eq x) with
          | true => simp
          | false => simp only [cond_false]; rw [insR_back hxz]

theorem compB_ins (h : LO lt eq) (x : α) {p : List α} (hp : Asc lt p) : compB eq (insR lt x p) = putR lt eq x (compB eq p) := by
  cases p with
  | nil => rfl
  | cons y r =>
    have hs := hp
    simp only [Asc, List.pairwise_cons] at hs
    cases hx : lt x y with
    | true =>
      rw [insR_front hx]
      have eyx : eq y x = false := by rw [h.eq_symm, h.eq_def, hx]; rfl
      have hall : ∀ w ∈ y :: compGoB eq y r, lt x w = true := by
        intro w hw
        rcases List.mem_cons.1 hw with rfl | hw
        · exact hx
        · exact h.lt_le hx (hs.1 w (compGoB_mem hw))
      simp only [compB, compGoB, eyx, cond_false, putR]
      rw [any_false h hall, cond_false, insR_front hx]
    | false =>
      rw [insR_back hx]
      simp only [compB]
      rw [compGoB_ins h x r y hp hx]
      cases he : eq x y with
      | true => simp only [cond_true, putR, List.any_cons, he, Bool.true_or]
      | false =>
        simp only [cond_false, putR, List.any_cons, he, Bool.false_or]
        cases ha : (compGoB eq y r).any (eq x) with
        | true => simp
        | false => simp only [cond_false]; rw [insR_back hx]

/-- sorted and each once is put one by one -/
theorem compB_isort (h : LO lt eq) (l : List α) : compB eq (isort lt l) = l.foldl (fun q x => putR lt eq x q) [] := by
  have : ∀ (l p : List α), Asc lt p → compB eq (l.foldl (fun p x => insR lt x p) p) = l.foldl (fun q x => putR lt eq x q) (compB eq p) := by
    intro l
    induction l with
    | nil => intro p _; rfl
    | cons x r ih =>
      intro p hp
      simp only [List.foldl_cons]
      rw [ih _ (insR_asc h hp), compB_ins h x hp]
  exact this l [] (by simp [Asc])

/-! rows of lists, read off the end -/

theorem LO.eq_cong (h : LO lt eq) {x p : α} (hx : eq x p = true) (y : α) : eq y x = eq y p := by
  obtain ⟨h1, h2⟩ := h.eq_true.1 hx
  rw [Bool.eq_iff_iff, h.eq_true, h.eq_true]
  exact ⟨fun ⟨a, b⟩ => ⟨h.ntrans _ _ _ a h1, h.ntrans _ _ _ h2 b⟩, fun ⟨a, b⟩ => ⟨h.ntrans _ _ _ a h2, h.ntrans _ _ _ h1 b⟩⟩

theorem compGoB_snoc (h : LO lt eq) (q y : α) : ∀ (p : α) (l : List α), (p :: l).getLast? = some q → compGoB eq p (l ++ [y]) = cond (eq y q) (compGoB eq p l) (compGoB eq p l ++ [y])
  | p, [], hq => by
    simp at hq
    subst hq
    simp [compGoB]
  | p, x :: r, hq => by
    rw [List.getLast?_cons_cons] at hq
    simp only [List.cons_append, compGoB]
    cases hx : eq x p with
    | true =>
      simp only [cond_true]
      cases r with
      | nil =>
        simp at hq
        subst hq
        simp [compGoB, h.eq_cong hx y]
      | cons z s => exact compGoB_snoc h q y p (z :: s) (by rw [List.getLast?_cons_cons] at hq ⊢; exact hq)
    | false =>
      simp only [cond_false]
      rw [compGoB_snoc h q y x r hq]
      cases hy : eq y q <;> simp

theorem compB_take_succ (h : LO lt eq) {l : List α} {m : Nat} (hm : 0 < m) {a b : α} (ha : l[m - 1]? = some a) (hb : l[m]? = some b) : compB eq (l.take (m + 1)) = cond (eq b a) (compB eq (l.take m)) (compB eq (l.take m) ++ [b]) := by
  have hlt : m < l.length := (List.getElem?_eq_some_iff.1 hb).1
  have e : l.take (m + 1) = l.take m ++ [b] := by
    rw [List.take_add_one, hb]; rfl
  rw [e]
  cases hl : l.take m with
  | nil => simp at hl; rcases hl with h | h <;> (subst h; simp at *)
  | cons x r =>
    have hlast : (x :: r).getLast? = some a := by
      rw [← hl, List.getLast?_eq_getElem?, List.length_take, List.getElem?_take, Nat.min_eq_left (by omega), if_pos (by omega)]; exact ha
    simp only [List.cons_append, compB]
    rw [compGoB_snoc h a b x r hlast]
    cases eq b a <;> simp

theorem compB_one (l : List α) : compB eq (l.take 1) = l.take 1 := by
  cases l with
  | nil => rfl
  | cons x r => simp [compB, compGoB]

end
end Go.Xl
/-
  slices.SortStableFunc at events (up to 20), slices.CompactFunc: what they come to.
-/
set_option linter.unusedVariables false
set_option linter.unusedSimpArgs false
set_option maxRecDepth 100000
namespace Go.Proofs.Xg
open Go Go.Xl Go.Ab Go.Proofs Go.Sort

/-- events by their dots -/
def ltE (x y : Ev) : Bool := ltOf cfDot x.1 y.1
def eqE (x y : Ev) : Bool := x.1.1 == y.1.1 && x.1.2 == y.1.2

theorem lo_E : LO ltE eqE where
  asymm x y h := by
    unfold ltE at *
    rw [dot_lt] at *
    simp at *; omega
  ntrans x y z h1 h2 := by
    unfold ltE at *
    rw [dot_lt] at *
    simp at *; omega
  eq_def x y := by
    unfold ltE eqE
    rw [dot_lt, dot_lt, Bool.eq_iff_iff]
    simp
    omega

theorem sort1_eq (N : Nat) (x y : Ev) : F_event_Sort_1 N x y = some (cfDot x.1 y.1) := by
  unfold F_event_Sort_1
  rw [Cmp_eq]; rfl

theorem insR_split {α : Type} {lt : α → α → Bool} {x : α} : ∀ {p q : List α}, (∀ y ∈ p, lt x y = false) → (∀ y ∈ q, lt x y = true) → insR lt x (p ++ q) = p ++ x :: q
  | [], [], _, _ => rfl
  | [], y :: q, _, h => by
    simp only [List.nil_append]
    exact insR_front (h y List.mem_cons_self)
  | y :: p, q, h, h' => by
    simp only [List.cons_append]
    rw [insR_back (h y List.mem_cons_self), insR_split (fun z hz => h z (List.mem_cons_of_mem _ hz)) h']

theorem set_swap {α : Type} (pre : List α) (x y : α) (S : List α) : ((pre ++ y :: x :: S).set (pre.length + 1) y).set pre.length x = pre ++ x :: y :: S := by
  rw [List.set_append_right _ _ (by omega), List.set_append_right _ _ (by omega)]
  have : pre.length + 1 - pre.length = 1 := by omega
  rw [this, Nat.sub_self]
  rfl

theorem get_pre {α : Type} (pre : List α) (y : α) (S : List α) : (pre ++ y :: S)[pre.length]? = some y := by simp

theorem get_pre1 {α : Type} (pre : List α) (y x : α) (S : List α) : (pre ++ y :: x :: S)[pre.length + 1]? = some x := by
  rw [List.getElem?_append_right (by omega)]
  have : pre.length + 1 - pre.length = 1 := by omega
  rw [this]; rfl

theorem insertion_eq (N : Nat) (l : List Ev) (a b : Nat) (hab : a ≤ b) (hb : b ≤ l.length) (hl : l.length < 4611686018427387904) (hN : l.length < N) :
    F_slices_insertionSortCmpFunc_Event N l l.length a b = some (l.take a ++ isort ltE ((l.take b).drop a) ++ l.drop b, ()) := by
  unfold F_slices_insertionSortCmpFunc_Event
  have e0 : IntKind.i64.wrap ((a : Int) + 1) = ((a + 1 : Nat) : Int) := i64_succ (by omega)
  rw [e0]
  refine some_of ?_
  refine iter_ok (Q := fun r => r = (l.take a ++ isort ltE ((l.take b).drop a) ++ l.drop b, ())) (fun n z => ∃ (i : Nat) (arr : List Ev), z = (((i : Int), ()), (), (), arr, ()) ∧ a + 1 ≤ i ∧ i ≤ b + 1 ∧ n = b - i ∧
    arr = l.take a ++ isort ltE ((l.take (min i b)).drop a) ++ l.drop (min i b)) ?_ N (b - (a + 1)) _ ⟨a + 1, l, rfl, Nat.le_refl _, by omega, rfl, ?_⟩ (by omega)
  · rintro n z rec ⟨i, arr, rfl, hi1, hi2, rfl, harr⟩ ih
    simp only [dec_lt]
    by_cases hib : i < b
    · rw [decide_eq_true hib, cond_true]
      have hil : i < l.length := by omega
      have hm : min i b = i := by omega
      rw [hm] at harr
      have hP : ((l.take (i + 1)).drop a) = ((l.take i).drop a) ++ [l[i]] := by
        rw [List.take_add_one, getl hil, List.drop_append_of_le_length (by simp; omega)]; rfl
      have hdrop : l.drop i = l[i] :: l.drop (i + 1) := List.drop_eq_getElem_cons hil
      have hasc := isort_asc lo_E ((l.take i).drop a)
      have hPl : (isort ltE ((l.take i).drop a)).length = i - a := by rw [isort_length]; simp; omega
      have hA : (l.take a).length = a := by simp; omega
      have next : ∀ arr', arr' = l.take a ++ insR ltE l[i] (isort ltE ((l.take i).drop a)) ++ l.drop (i + 1) → ∃ r, rec ((IntKind.i64.wrap ((i : Int) + 1), ()), (), (), arr', ()) = some r ∧ r = (l.take a ++ isort ltE ((l.take b).drop a) ++ l.drop b, ()) := by
        intro arr' he
        rw [i64_succ (by omega)]
        refine ih (b - (i + 1)) _ (by omega) ⟨i + 1, arr', rfl, by omega, by omega, rfl, ?_⟩
        have hm' : min (i + 1) b = i + 1 := by omega
        rw [hm', hP, isort_snoc, he]
      generalize isort ltE ((l.take i).drop a) = P at *
      generalize l[i] = x at *
      refine iter_ok (Q := fun r => r = (l.take a ++ isort ltE ((l.take b).drop a) ++ l.drop b, ())) (fun m z => ∃ p q : List Ev, P = p ++ q ∧ (∀ y ∈ q, ltE x y = true) ∧ z = ((((a + p.length : Nat) : Int), ()), (), (), l.take a ++ p ++ x :: (q ++ l.drop (i + 1)), ()) ∧ m = p.length) ?_ N (i - a) _
        ⟨P, [], by simp, by simp, by rw [harr, hdrop, hPl]; simp; omega, by rw [hPl]⟩ (by omega)
      rintro m z1 rec1 ⟨p, q, hpq, hq, rfl, rfl⟩ ih1
      simp only [dec_lt]
      rcases List.eq_nil_or_concat p with rfl | ⟨p', y, rfl⟩
      · rw [decide_eq_false (by simp), cond_false]
        refine next _ ?_
        rw [hpq, insR_split (by simp) hq]
        simp
      · rw [List.concat_eq_append] at *
        have hlen : (p' ++ [y]).length = p'.length + 1 := by simp
        have hpl : p'.length + 1 + q.length = i - a := by rw [← hPl, hpq]; simp; omega
        have hj : a + (p'.length + 1) < l.length := by omega
        have harr' : l.take a ++ (p' ++ [y]) ++ x :: (q ++ l.drop (i + 1)) = (l.take a ++ p') ++ y :: x :: (q ++ l.drop (i + 1)) := by simp
        have hpre : (l.take a ++ p').length = a + p'.length := by simp; omega
        have w1 : IntKind.i64.wrap (((a + (p'.length + 1) : Nat) : Int) - 1) = ((a + p'.length : Nat) : Int) := by
          rw [i64_pred (by omega) (by omega)]; congr 1
        rw [hlen, harr']
        generalize hpg : l.take a ++ p' = pre at *
        have g1 : (pre ++ y :: x :: (q ++ l.drop (i + 1)))[0 + (((a + (p'.length + 1) : Nat) : Int)).toNat]? = some x := by
          rw [toNat_nat, Nat.zero_add, show a + (p'.length + 1) = pre.length + 1 by omega]; exact get_pre1 _ _ _ _
        have g2 : (pre ++ y :: x :: (q ++ l.drop (i + 1)))[0 + (((a + p'.length : Nat) : Int)).toNat]? = some y := by
          rw [toNat_nat, Nat.zero_add, show a + p'.length = pre.length by omega]; exact get_pre _ _ _
        have c1 : decide (a < a + (p'.length + 1)) = true := by simp
        have c2 : decide ((0 : Int) ≤ ((a + (p'.length + 1) : Nat) : Int)) = true := decide_eq_true (Int.natCast_nonneg _)
        have c3 : decide (a + (p'.length + 1) < l.length) = true := by simpa using hj
        have c4 : decide ((0 : Int) ≤ ((a + p'.length : Nat) : Int)) = true := decide_eq_true (Int.natCast_nonneg _)
        have c5 : decide (a + p'.length < l.length) = true := by simp; omega
        simp only [w1, dec_lt, c1, c2, c3, c4, c5, Bool.and_self, cond_true, g1, g2, Option.bind_some, sort1_eq]
        cases hlt : ltE x y with
        | true =>
          have hc : decide (cfDot x.1 y.1 < 0) = true := hlt
          rw [hc, cond_true]
          have g3 : ((pre ++ y :: x :: (q ++ l.drop (i + 1))).set (0 + (((a + (p'.length + 1) : Nat) : Int)).toNat) y)[0 + (((a + p'.length : Nat) : Int)).toNat]? = some y := by
            rw [toNat_nat, toNat_nat, Nat.zero_add, Nat.zero_add, List.getElem?_set_ne (by omega), show a + p'.length = pre.length by omega]; exact get_pre _ _ _
          rw [g3, Option.bind_some]
          have hs : ((pre ++ y :: x :: (q ++ l.drop (i + 1))).set (0 + (((a + (p'.length + 1) : Nat) : Int)).toNat) y).set (0 + (((a + p'.length : Nat) : Int)).toNat) x = pre ++ x :: y :: (q ++ l.drop (i + 1)) := by
            rw [toNat_nat, toNat_nat, Nat.zero_add, Nat.zero_add, show a + (p'.length + 1) = pre.length + 1 by omega, show a + p'.length = pre.length by omega]
            exact set_swap _ _ _ _
          rw [hs]
          refine ih1 p'.length _ (by simp) ⟨p', y :: q, by rw [hpq]; simp, ?_, by rw [hpg]; rfl, rfl⟩
          intro z hz
          rcases List.mem_cons.1 hz with rfl | hz
          · exact hlt
          · exact hq z hz
        | false =>
          have hc : decide (cfDot x.1 y.1 < 0) = false := hlt
          rw [hc, cond_false]
          refine next _ ?_
          rw [hpq, insR_split ?_ hq]
          · rw [← hpg]; simp
          · intro z hz
            rcases List.mem_append.1 hz with hz | hz
            · rw [hpq] at hasc
              have : ltE y z = false := by
                have h1 := (List.pairwise_append.1 hasc).1
                exact (List.pairwise_append.1 h1).2.2 z hz y (by simp)
              exact lo_E.ntrans _ _ _ hlt this
            · rw [List.mem_singleton.1 hz]; exact hlt
    · rw [decide_eq_false hib, cond_false]
      have hm : min i b = b := by omega
      rw [hm] at harr
      exact ⟨_, rfl, by rw [harr]⟩
  · by_cases h : a < b
    · have hm : min (a + 1) b = a + 1 := by omega
      have ha : a < l.length := by omega
      rw [hm]
      have : ((l.take (a + 1)).drop a) = [l[a]] := by
        rw [List.take_add_one, getl ha, List.drop_append_of_le_length (by simp; omega)]
        simp
      rw [this]
      have h2 : l.drop a = l[a] :: l.drop (a + 1) := List.drop_eq_getElem_cons ha
      have h3 : isort ltE [l[a]] = [l[a]] := rfl
      rw [h3, List.append_assoc, List.singleton_append, ← h2, List.take_append_drop]
    · have hm : min (a + 1) b = b := by omega
      have : b = a := by omega
      subst this
      rw [hm]
      have : (l.take b).drop b = [] := by simp
      rw [this]
      have h3 : isort ltE ([] : List Ev) = [] := rfl
      rw [h3, List.append_nil, List.take_append_drop]

end Go.Proofs.Xg
/-
  event.Sort: what it comes to.
-/
set_option linter.unusedVariables false
set_option linter.unusedSimpArgs false
set_option maxRecDepth 100000
namespace Go.Proofs.Xg
open Go Go.Xl Go.Ab Go.Proofs Go.Sort

theorem insertion_all (N : Nat) (l : List Ev) (hl : l.length < 4611686018427387904) (hN : l.length < N) :
    F_slices_insertionSortCmpFunc_Event N l l.length 0 l.length = some (isort ltE l, ()) := by
  have := insertion_eq N l 0 l.length (Nat.zero_le _) (Nat.le_refl _) hl hN
  simpa using this

theorem stable_eq (N : Nat) (l : List Ev) (h20 : l.length ≤ 20) (hN : 30 < N) : F_slices_stableCmpFunc_Event N l l.length l.length = some (isort ltE l, ()) := by
  unfold F_slices_stableCmpFunc_Event
  have e1 : ∀ M, iter (fun (rec : (Int × Unit) × Unit × Unit × List Ev × Unit → Option (List Ev × Unit)) (z : (Int × Unit) × Unit × Unit × List Ev × Unit) =>
      bif decide (z.fst.fst < (l.length : Int)) then
        iter (fun (rec_1 : (Int × Int × Unit) × Unit × Unit × List Ev × Unit → Option (List Ev × Unit)) (z_1 : (Int × Int × Unit) × Unit × Unit × List Ev × Unit) =>
            bif decide (z_1.fst.snd.fst ≤ (l.length : Int)) then none
            else bif decide (IntKind.i64.wrap (z_1.fst.fst + z.fst.fst) < (l.length : Int)) then none
              else rec ((IntKind.i64.wrap (z.fst.fst * 2), ()), (), (), z_1.snd.snd.snd.fst, ()))
          N ((0, IntKind.i64.wrap (2 * z.fst.fst), ()), (), (), z.snd.snd.snd.fst, ())
      else some (z.snd.snd.snd.fst, ())) (N - 3 + 1 + 1 + 1) ((20, ()), (), (), M, ()) = some (M, ()) := by
    intro M
    simp only [iter]
    rw [decide_eq_false (by omega), cond_false]
  rw [show N = N - 3 + 1 + 1 + 1 by omega] at e1 ⊢
  have hi := isort_length (lt := ltE) l
  have hins := insertion_all (N - 3 + 1 + 1 + 1) l (by omega) (by omega)
  by_cases h : l.length = 20
  · have e2 : IntKind.i64.wrap (20 + 20) = 40 := by decide
    have hins2 := insertion_eq (N - 3 + 1 + 1 + 1) (isort ltE l) 20 20 (Nat.le_refl _) (by omega) (by omega) (by omega)
    rw [hi, h] at hins2
    rw [h] at hins
    have e3 : (isort ltE l).take 20 ++ isort ltE (((isort ltE l).take 20).drop 20) ++ (isort ltE l).drop 20 = isort ltE l := by
      have : ((isort ltE l).take 20).drop 20 = [] := by simp
      rw [this]
      show _ ++ [] ++ _ = _
      rw [List.append_nil, List.take_append_drop]
    rw [e3] at hins2
    rw [h] at e1 ⊢
    simp only [iter]
    rw [decide_eq_true (by decide), cond_true]
    simp only [iter] at e1
    have hins' : F_slices_insertionSortCmpFunc_Event (N - 3 + 1 + 1 + 1) l 20 0 20 = some (isort ltE l, ()) := hins
    have hins2' : F_slices_insertionSortCmpFunc_Event (N - 3 + 1 + 1 + 1) (isort ltE l) 20 20 20 = some (isort ltE l, ()) := hins2
    have c1 : decide ((40 : Int) ≤ ((20 : Nat) : Int)) = false := by decide
    have c2 : (((20 : Nat) : Int)) = (20 : Int) := rfl
    simp only [c2] at *
    rw [hins']
    simp only [Option.bind_some, e2, c1, cond_false, hins2']
    exact e1 _
  · simp only [iter]
    simp only [iter] at e1
    rw [decide_eq_false (by omega), cond_false]
    rw [hins]
    simp only [Option.bind_some]
    exact e1 _

theorem sortStable_eq (N : Nat) (l : List Ev) (h20 : l.length ≤ 20) (hN : 30 < N) : F_slices_SortStableFunc_sEvent_Event N l l.length = some (isort ltE l, ()) := by
  unfold F_slices_SortStableFunc_sEvent_Event
  rw [stable_eq N l h20 hN]
  rfl

theorem sort2_eq (N : Nat) (x y : Ev) : F_event_Sort_2 N x y = some (eqE x y) := rfl

theorem compactE_eq (N : Nat) (l : List Ev) (hb : l.length < 4611686018427387904) (hN : l.length < N) : ∃ r : List Ev × Nat, F_slices_CompactFunc_sEvent_Event N l l.length = some r ∧ r.1.take r.2 = compB eqE l ∧ r.2 ≤ r.1.length := by
  unfold F_slices_CompactFunc_sEvent_Event
  simp only [cond_eq_ite, sort2_eq, Option.bind_some]
  by_cases h2 : ((l.length : Nat) : Int) < 2
  · rw [if_pos (by simpa using h2)]
    refine ⟨_, rfl, ?_, Nat.le_refl _⟩
    have : l = l.take 1 := by rw [List.take_of_length_le (by omega)]
    rw [List.take_length, this, compB_one]
  · rw [if_neg (by simpa using h2)]
    refine iter_ok (Q := fun (r : List Ev × Nat) => r.1.take r.2 = compB eqE l ∧ r.2 ≤ r.1.length) (fun n z => ∃ k : Nat, z = (((k : Int), ()), (), (), l, ()) ∧ 1 ≤ k ∧ k ≤ l.length ∧ n = l.length - k ∧ compB eqE (l.take k) = l.take k) ?_ N (l.length - 1) _ ⟨1, rfl, by omega, by omega, rfl, compB_one l⟩ (by omega)
    rintro n z rec ⟨k, rfl, k1, k2, hn, hc⟩ ih
    simp only
    by_cases hk : k < l.length
    · have e1 : IntKind.i64.wrap ((k : Int) - 1) = ((k - 1 : Nat) : Int) := i64_pred (by omega) (by omega)
      have e2 : IntKind.i64.wrap ((k : Int) + 1) = ((k + 1 : Nat) : Int) := i64_succ (by omega)
      simp only [e1, e2, toNat_nat, Nat.zero_add, getElem?_lt hk, getElem?_lt (show k - 1 < l.length by omega), Option.bind_some]
      rw [if_pos (by simp; omega), if_pos (by simp; omega), if_pos (by simp; omega)]
      have hstep := compB_take_succ lo_E (l := l) (m := k) (by omega) (getElem?_lt (show k - 1 < l.length by omega)) (getElem?_lt hk)
      cases he : eqE l[k] l[k - 1] with
      | true =>
        rw [he] at hstep
        rw [if_pos rfl, if_pos (by simp [cutOk]; omega)]
        refine iter_ok (Q := fun (r : List Ev × Nat) => r.1.take r.2 = compB eqE l ∧ r.2 ≤ r.1.length) (fun n z => ∃ (i q : Nat) (c : List Ev), z = (((i : Int), (q : Int), ()), (), (), c, ()) ∧ 1 ≤ q ∧ k + q ≤ l.length ∧ i + 1 ≤ k + q ∧ c.length = l.length ∧
          (∀ j, i ≤ j → c[j]? = l[j]?) ∧ c.take i = compB eqE (l.take (k + q)) ∧ n = l.length - (k + q)) ?_ N (l.length - (k + 1)) _
          ⟨k, 1, l, rfl, by omega, by omega, by omega, rfl, fun _ _ => rfl, by rw [hstep, cond_true, hc], rfl⟩ (by omega)
        rintro n z rec ⟨i, q, c, rfl, q1, q2, q3, hcl, hcj, hct, hn⟩ ih'
        simp only
        by_cases hq : k + q < l.length
        · have f1 : IntKind.i64.wrap ((q : Int) - 1) = ((q - 1 : Nat) : Int) := i64_pred (by omega) (by omega)
          have f2 : IntKind.i64.wrap ((q : Int) + 1) = ((q + 1 : Nat) : Int) := i64_succ (by omega)
          have f3 : IntKind.i64.wrap ((i : Int) + 1) = ((i + 1 : Nat) : Int) := i64_succ (by omega)
          have g1 : c[k + q]? = some l[k + q] := by rw [hcj _ (by omega), getElem?_lt hq]
          have g2 : c[k + (q - 1)]? = some l[k + (q - 1)] := by rw [hcj _ (by omega), getElem?_lt (by omega)]
          have g3 : c[i]? = some (c[i]'(by omega)) := getElem?_lt (by omega)
          simp only [f1, f2, f3, toNat_nat, Nat.zero_add, g1, g2, g3, Option.bind_some]
          rw [if_pos (by simp; omega), if_pos (by simp; omega), if_pos (by simp; omega)]
          have hs := compB_take_succ lo_E (l := l) (m := k + q) (a := l[k + (q - 1)]) (by omega) (by rw [show k + q - 1 = k + (q - 1) by omega]; exact getElem?_lt _) (getElem?_lt hq)
          cases hne : eqE l[k + q] l[k + (q - 1)] with
          | true =>
            rw [hne] at hs
            rw [if_neg (by simp)]
            refine ih' (l.length - (k + (q + 1))) _ (by omega) ⟨i, q + 1, c, rfl, by omega, by omega, by omega, hcl, hcj, ?_, rfl⟩
            rw [hct, ← Nat.add_assoc, hs, cond_true]
          | false =>
            rw [hne] at hs
            rw [if_pos (by simp), if_pos (by simp; omega), if_pos (by simp; omega)]
            refine ih' (l.length - (k + (q + 1))) _ (by omega) ⟨i + 1, q + 1, c.set i l[k + q], rfl, by omega, by omega, by omega, by simpa using hcl, ?_, ?_, rfl⟩
            · intro j hj
              rw [List.getElem?_set_ne (by omega)]
              exact hcj j (by omega)
            · rw [← Nat.add_assoc, hs, cond_false, ← hct, List.take_add_one, List.take_set_of_le (Nat.le_refl _), List.getElem?_set_self (by omega)]; rfl
        · rw [if_neg (by simp; omega), if_pos (by simp [cutOk]; omega), if_pos (by simp [cutOk]; omega)]
          refine ⟨_, rfl, ?_, ?_⟩
          · have : k + q = l.length := by omega
            rw [this, List.take_length] at hct
            simp only [toNat_nat, Nat.zero_add, Nat.sub_zero]
            rw [← hct, List.take_take, Nat.min_self]
          · simp only [toNat_nat, Nat.sub_zero, Nat.zero_add, List.length_take]; omega
      | false =>
        rw [he] at hstep
        rw [if_neg (by simp)]
        refine ih (l.length - (k + 1)) _ (by omega) ⟨k + 1, rfl, by omega, by omega, rfl, ?_⟩
        rw [hstep, cond_false, hc, List.take_add_one, getElem?_lt hk]; rfl
    · rw [if_neg (by simp; omega)]
      refine ⟨_, rfl, ?_, Nat.le_refl _⟩
      have : k = l.length := by omega
      subst this
      rw [List.take_length] at hc ⊢
      exact hc.symm

/-- events in order, the first one of each dot -/
def sortE (l : List Ev) : List Ev := compB eqE (isort ltE l)

/-- what is small enough -/
def smE (e : Ev) : Prop := e.2.2.2.2.2.length ≤ 5000

theorem copy_eq (N : Nat) (e : Ev) (he : smE e) : F_event_Copy N e = some e := by
  unfold F_event_Copy
  have : F_slices_Clone_sDot_Dot_d N e.2.2.2.2.2 = some e.2.2.2.2.2 := by
    unfold F_slices_Clone_sDot_Dot_d cloneD
    unfold smE at he
    cases hk : e.2.2.2.2.2 with
    | nil => rfl
    | cons y r =>
      rw [hk] at he
      have hfit : fitsB (y :: r).length 16 = true := by
        simp only [fitsB, Bool.and_eq_true, decide_eq_true_eq]
        omega
      simp only [listCase, hfit, cond_true]
  rw [this]; rfl

theorem sort0_eq (N : Nat) (hN : 0 < N) : F0_slices_SortStableFunc_sEvent_Event N = some () := by
  have h1 : F0_slices_insertionSortCmpFunc_Event N 0 0 = some () := by
    unfold F0_slices_insertionSortCmpFunc_Event
    have e : IntKind.i64.wrap (0 + 1) = 1 := by decide
    rw [e]
    obtain ⟨M, rfl⟩ : ∃ M, N = M + 1 := ⟨N - 1, by omega⟩
    simp only [iter]
    rfl
  unfold F0_slices_SortStableFunc_sEvent_Event
  have h2 : F0_slices_stableCmpFunc_Event N 0 = some () := by
    unfold F0_slices_stableCmpFunc_Event
    obtain ⟨M, rfl⟩ : ∃ M, N = M + 1 := ⟨N - 1, by omega⟩
    simp only [iter]
    rw [decide_eq_false (by decide), cond_false]
    rw [h1]
    simp only [Option.bind_some]
    rw [decide_eq_false (by decide), cond_false]
  rw [h2]; rfl

theorem eventSort_eq (N : Nat) (l : List Ev) (h20 : l.length ≤ 20) (hsm : ∀ e ∈ l, smE e) (hN : 30 < N) : F_event_Sort N l = some (sortE l) := by
  unfold F_event_Sort
  refine some_of ?_
  refine iter_ok (Q := fun r => r = sortE l) (fun n z => ∃ k : Nat, z = (((k : Int), ()), (), ((if k = 0 then none else some (l.take k, k)), ()), ()) ∧ k ≤ l.length ∧ n = l.length - k) ?_ N l.length _ ⟨0, rfl, Nat.zero_le _, by omega⟩ (by omega)
  rintro n z rec ⟨k, rfl, hk, rfl⟩ ih
  simp only [dec_lt]
  by_cases hkl : k < l.length
  · have hc := copy_eq N l[k] (hsm _ (List.getElem_mem hkl))
    have hw : IntKind.i64.wrap ((k : Int) + 1) = ((k + 1 : Nat) : Int) := i64_succ (by omega)
    by_cases h0 : k = 0
    · subst h0
      rw [if_pos rfl]
      simp only [optCase]
      rw [decide_eq_true hkl]
      simp only [cond_true, at?_nat]
      rw [getl hkl]
      simp only [Option.bind_some]
      rw [hc, hw]
      simp only [Option.bind_some]
      refine ih (l.length - 1) _ (by omega) ⟨1, ?_, by omega, rfl⟩
      have : l.take 1 = [l[0]] := by
        rw [List.take_add_one, getl hkl]; rfl
      rw [this, if_neg (by omega)]
      rfl
    · have hlt : (l.take k).length = k := by simp; omega
      have hb : Nat.beq (l.take k).length k = true := by rw [hlt]; exact Nat.beq_refl k
      have hf : fitsB (k + [l[k]].length) 80 = true := by
        simp only [fitsB, List.length_singleton, Bool.and_eq_true, decide_eq_true_eq]; omega
      rw [if_neg h0]
      simp only [optCase]
      rw [decide_eq_true hkl]
      simp only [cond_true, at?_nat]
      rw [getl hkl]
      simp only [Option.bind_some]
      rw [hc]
      simp only [Option.bind_some]
      rw [hb, hf, hw]
      simp only [cond_true]
      refine ih (l.length - (k + 1)) _ (by omega) ⟨k + 1, ?_, by omega, rfl⟩
      have : l.take (k + 1) = l.take k ++ [l[k]] := by
        rw [List.take_add_one, getl hkl]; rfl
      rw [this, if_neg (by omega)]
      rfl
  · have hkl' : k = l.length := by omega
    by_cases h0 : k = 0
    · have : l = [] := List.eq_nil_of_length_eq_zero (by omega)
      subst this
      rw [if_pos h0]
      simp only [optCase]
      rw [decide_eq_false hkl]
      simp only [cond_false]
      rw [sort0_eq N (by omega)]
      exact ⟨_, rfl, rfl⟩
    · rw [hkl'] at h0 ⊢
      rw [if_neg h0]
      simp only [optCase]
      rw [decide_eq_false (by omega)]
      simp only [cond_false, List.take_length]
      rw [sortStable_eq N l h20 hN]
      simp only [Option.bind_some]
      have hi := isort_length (lt := ltE) l
      obtain ⟨r, h1, h2, h3⟩ := compactE_eq N (isort ltE l) (by omega) (by omega)
      rw [hi] at h1
      rw [h1]
      simp only [Option.bind_some]
      have hb : Nat.ble (0 + r.2) r.1.length = true := by simp only [Nat.ble_eq]; omega
      rw [hb, cond_true, List.drop_zero, h2]
      exact ⟨_, rfl, rfl⟩

end Go.Proofs.Xg
/-
  Calls with objects and functions that captured variables: names mapped, states weakened.
-/
set_option linter.unusedVariables false
set_option linter.unusedSimpArgs false
set_option linter.unnecessarySimpa false
namespace Go.Xl
open Go.Ab

mutual
/-- names and labels mapped -/
def XV.mp (f fl : Nat → Nat) : XV → XV
  | .d x => .d x
  | .nm k p => .nm (f k) p
  | .tip n t l ty => .tip (fl n) t l ty
  | .tup l => .tup (mpL f fl l)
  | .agg l => .agg (mpL f fl l)
  | .clo g l => .clo g (mpL f fl l)
  | .os k t a len => .os (f k) t a len
  | .el k t i fo => .el (f k) t i fo
def mpL (f fl : Nat → Nat) : List XV → List XV
  | [] => []
  | x :: r => x.mp f fl :: mpL f fl r
end

mutual
theorem XV.mp_a (f fl : Nat → Nat) : ∀ x : XV, (x.mp f fl).a = mapL f fl x.a
  | .d x => rfl
  | .nm k p => rfl
  | .tip n t l ty => rfl
  | .tup l => by simp only [XV.mp, XV.a, mapL, mpL_a f fl l]
  | .agg l => by simp only [XV.mp, XV.a, mapL, mpL_a f fl l]
  | .clo g l => by simp only [XV.mp, XV.a, mapL, mpL_a f fl l]
  | .os k t a len => rfl
  | .el k t i fo => rfl
theorem mpL_a (f fl : Nat → Nat) : ∀ l : List XV, asOf (mpL f fl l) = mapLs f fl (asOf l)
  | [] => rfl
  | x :: r => by simp only [mpL, asOf, mapLs, XV.mp_a f fl x, mpL_a f fl r]
end

theorem mpL_map (f fl : Nat → Nat) (l : List XV) : mpL f fl l = l.map (XV.mp f fl) := by
  induction l with
  | nil => rfl
  | cons x r ih => simp [mpL, ih]

mutual
/-- no names, no labels but these -/
def XV.nms (ks ls : List Nat) : XV → Bool
  | .d _ => true
  | .nm k _ => inl k ks
  | .tip n _ _ _ => inl n ls
  | .tup l => nmsL ks ls l
  | .agg l => nmsL ks ls l
  | .clo _ l => nmsL ks ls l
  | .os k _ _ _ => inl k ks
  | .el k _ _ _ => inl k ks
def nmsL (ks ls : List Nat) : List XV → Bool
  | [] => true
  | x :: r => cond (x.nms ks ls) (nmsL ks ls r) false
end

theorem inl_con {k : Nat} {l : List Nat} (h : inl k l = true) : l.contains k = true := List.contains_iff_mem.2 ((inl_eq k l).1 h)

mutual
theorem XV.nms_a {ks ls : List Nat} : ∀ {x : XV}, x.nms ks ls = true → namesL ks ls x.a = true
  | .d x, h => rfl
  | .nm k p, h => inl_con h
  | .tip n t l ty, h => inl_con h
  | .tup l, h => by simp only [XV.nms] at h; simp only [XV.a, namesL]; exact nmsL_a h
  | .agg l, h => by simp only [XV.nms] at h; simp only [XV.a, namesL]; exact nmsL_a h
  | .clo g l, h => by simp only [XV.nms] at h; simp only [XV.a, namesL]; exact nmsL_a h
  | .os k t a len, h => inl_con h
  | .el k t i fo, h => inl_con h
theorem nmsL_a {ks ls : List Nat} : ∀ {l : List XV}, nmsL ks ls l = true → namesLs ks ls (asOf l) = true
  | [], h => rfl
  | x :: r, h => by
    simp only [nmsL] at h
    cases hx : x.nms ks ls with
    | false => simp [hx] at h
    | true =>
      simp only [hx, cond_true] at h
      simp only [asOf, namesLs, XV.nms_a hx, nmsL_a h, Bool.and_self]
end

def XOb.mp (f fl : Nat → Nat) : XOb → XOb
  | .cells cs ty => .cells (mpL f fl cs) ty
  | .arr t l => .arr t l

theorem mapLs_map_d (f fl : Nat → Nat) : ∀ l : List D, mapLs f fl (l.map .d) = l.map .d
  | [] => rfl
  | x :: r => by simp only [List.map_cons, mapLs, mapL, mapLs_map_d f fl r]

theorem XOb.mp_o (f fl : Nat → Nat) (o : XOb) : (o.mp f fl).o = mapObL f fl o.o := by
  cases o with
  | cells cs ty => simp only [XOb.mp, XOb.o, mapObL, mpL_a]
  | arr t l => simp only [XOb.mp, XOb.o, mapObL, mapLs_map_d]

def XOb.nms (ks ls : List Nat) : XOb → Bool
  | .cells cs _ => nmsL ks ls cs
  | .arr _ _ => true

theorem namesLs_map_d (ks ls : List Nat) : ∀ l : List D, namesLs ks ls (l.map .d) = true
  | [] => rfl
  | x :: r => by simp only [List.map_cons, namesLs, namesL, namesLs_map_d ks ls r, Bool.and_self]

theorem XOb.nms_o {ks ls : List Nat} {o : XOb} (h : o.nms ks ls = true) : namesObL ks ls o.o = true := by
  cases o with
  | cells cs ty => simp only [XOb.nms] at h; simp only [XOb.o, namesObL]; exact nmsL_a h
  | arr t l => simp only [XOb.o, namesObL]; exact namesLs_map_d _ _ _

def objsNms (ks ls : List Nat) : List (Nat × XOb) → Bool
  | [] => true
  | p :: r => cond (p.2.nms ks ls) (objsNms ks ls r) false

theorem objsNms_im {ks ls : List Nat} : ∀ {l : List (Nat × XOb)}, objsNms ks ls l = true → ((imObjs l).all fun p => namesObL ks ls p.2) = true
  | [], _ => rfl
  | p :: r, h => by
    simp only [objsNms] at h
    cases hx : p.2.nms ks ls with
    | false => simp [hx] at h
    | true =>
      simp only [hx, cond_true] at h
      have := objsNms_im h
      simp only [imObjs, List.map_cons, List.all_cons, XOb.nms_o hx, Bool.true_and] at this ⊢
      exact this

/-- objects put in their places, under mapped names -/
def putXs (f fl : Nat → Nat) : List (Nat × XOb) → List (Nat × XOb) → List (Nat × XOb)
  | [], acc => acc
  | p :: r, acc => putXs f fl r (xset (f p.1) (p.2.mp f fl) acc)

theorem putXs_im (f fl : Nat → Nat) : ∀ (l acc : List (Nat × XOb)), imObjs (putXs f fl l acc) = putObjsL f fl (imObjs l) (imObjs acc)
  | [], acc => rfl
  | p :: r, acc => by
    have := putXs_im f fl r (xset (f p.1) (p.2.mp f fl) acc)
    rw [im_xset, XOb.mp_o] at this
    exact this

theorem putXs_other (f fl : Nat → Nat) : ∀ (l acc : List (Nat × XOb)) (j : Nat), (∀ p ∈ l, f p.1 ≠ j) → lk j (putXs f fl l acc) = lk j acc
  | [], acc, j, h => rfl
  | p :: r, acc, j, h => by
    simp only [putXs]
    rw [putXs_other f fl r _ j (fun q hq => h q (List.mem_cons_of_mem _ hq)), lk_xset _ _ _ _ (fun e => h p (List.mem_cons_self ..) e.symm)]

/-- an object that may stand for another one -/
inductive ObLe : Ob → Ob → Prop
  | refl (o : Ob) : ObLe o o
  | cells {cs cs' : List AV} {ty ty' : Option TypeId} : cs.length = cs'.length → (∀ (i : Nat) x y, cs[i]? = some x → cs'[i]? = some y → ALe x y) → (ty' = ty ∨ ty' = none) → ObLe (.cells cs ty) (.cells cs' ty')

theorem obRel_weak {g : Gh} {w : World} {b : Nat} {o o' : Ob} (h : ObRel g w b o) (hle : ObLe o o') : ObRel g w b o' := by
  cases hle with
  | refl => exact h
  | cells hl hc ht =>
    cases h with
    | cells _ _ arr T h1 h2 h3 h4 =>
      refine .cells _ _ arr T h1 (hl ▸ h2) ?_ ?_
      · intro i y v hy hv
        have hlt := (List.getElem?_eq_some_iff.1 hy).1
        obtain ⟨x, hx⟩ : ∃ x, _ = some x := ⟨_, List.getElem?_eq_getElem (l := _) (i := i) (by rw [hl]; exact hlt)⟩
        exact hc i x y hx hy g w v (h3 i x v hx hv)
      · intro t hh
        rcases ht with e | e
        · exact h4 t (e ▸ hh)
        · rw [e] at hh; cases hh

theorem hr_weak {nm : List Nat} {B : Base} {g : Gh} {w : World} {X Y : Store} (h : HR nm B g w X) (hle : ∀ k o', Y.objs.lookup k = some o' → ∃ o, X.objs.lookup k = some o ∧ ObLe o o')
    (hk : ∀ k, (X.objs.lookup k).isSome → (Y.objs.lookup k).isSome) (hl : Y.live = X.live) : HR nm B g w Y where
  keep k hm := ⟨(h.keep k hm).1, hk k (h.keep k hm).2⟩
  sane := h.sane
  base := h.base
  io := h.io
  le := h.le
  frame := h.frame
  objs k o' ho := by obtain ⟨o, h1, h2⟩ := hle k o' ho; exact obRel_weak (h.objs k o h1) h2
  objγ k o' ho := by obtain ⟨o, h1, h2⟩ := hle k o' ho; exact h.objγ k o h1
  objinj k k' o o' ho ho' := by
    obtain ⟨_, h1, _⟩ := hle k o ho
    obtain ⟨_, h2, _⟩ := hle k' o' ho'
    exact h.objinj k k' _ _ h1 h2
  objnew k o' ho := by obtain ⟨o, h1, h2⟩ := hle k o' ho; exact h.objnew k o h1
  live n := by rw [hl]; exact h.live n
  tipinj := h.tipinj
  tipobj n b k o' hn ho := by obtain ⟨o, h1, h2⟩ := hle k o' ho; exact h.tipobj n b k o hn h1
  tipnew := h.tipnew
  tiplt := h.tiplt

theorem opT_weak {P : Program} {o : Oper} {rd : List (Operand × AV)} {X Y X' : Store} {F : List Nat} {res : AV} (h : OpT P o rd Y X' F res) (hle : ∀ k o', Y.objs.lookup k = some o' → ∃ o, X.objs.lookup k = some o ∧ ObLe o o')
    (hk : ∀ k, (X.objs.lookup k).isSome → (Y.objs.lookup k).isSome) (hl : Y.live = X.live) : OpT P o rd X X' F res :=
  fun nm hsm B g w a hr => h nm hsm B g w a (hr_weak hr hle hk hl)

/-- A call by way of a function value that captured variables. -/
theorem op_call_clo_lab {P : Program} {X : Store} {o : Oper} {fn : FuncId} {c : Operand} {args : Array Operand} {ts : Array TypeId} {xs caps : List AV} {res : AV} {Xc Xc' : Store} (f fl : Nat → Nat) (F : List Nat)
    (ho : o.op = .call { callee := .value c, args := args, argTypes := ts }) (hf : CallI P fn) (hs : Does P fn (xs ++ caps) Xc res Xc') (hc : LabCall X Xc Xc' f fl F)
    (hl : xs.length = args.size) (hd : namesLs (Xc.objs.map (·.1)) Xc.live (xs ++ caps) = true) (hdr : namesL (Xc'.objs.map (·.1)) Xc'.live res = true) :
    OpT P o ((c, .clo fn (mapLs f fl caps)) :: args.toList.zip (mapLs f fl xs)) X ⟨putObjsL f fl Xc'.objs X.objs, liveAfter fl X Xc Xc'⟩ F (mapL f fl res) := by
  intro nm hsm B g w a hr hrd next Q hn
  have e1 := rd0 hrd
  simp only at e1
  unfold Oper.wp
  generalize hcv : a.eval c = vc at e1
  cases e1 with
  | clo _ _ vs hlen hvs =>
    have : (execOp a.eval o).run P w = .ok (.enter fn (args.map a.eval ++ vs)) w := by
      simp only [execOp, ho, resolve]
      simp [hcv, Deferred.ofValue, invoke, run_callFunc hf]
    rw [this]
    have hm : ∀ l m : List AV, mapLs f fl (l ++ m) = mapLs f fl l ++ mapLs f fl m := fun l m => by rw [mapLs_eq, mapLs_eq, mapLs_eq, List.map_append]
    have hml : (mapLs f fl xs).length = args.size := by rw [mapLs_eq, List.length_map, hl]
    have hmc : caps.length = vs.size := by rw [mapLs_eq, List.length_map] at hlen; exact hlen
    refine (hs.useLab hc hd hdr hr (vs := args.map a.eval ++ vs) (by simp [hl, hmc]) ?_).mono ?_
    · intro i x v hx hv
      rw [hm, List.getElem?_append] at hx
      split at hx
      · rename_i hlt
        rw [Array.getElem?_append_left (by simp; omega)] at hv
        exact rds_args (fun p hp => hrd p (List.mem_cons_of_mem _ hp)) i x v hx hv
      · rename_i hge
        rw [Array.getElem?_append_right (by simp; omega)] at hv
        refine hvs _ x v hx ?_
        rw [hml]; simpa using hv
    · rintro e w' ⟨v, g', rfl, h1, h2, h3⟩
      exact hn g' w' v h1 h2 h3

/-- A call by a function's name. -/
theorem op_call_f_lab {P : Program} {X : Store} {o : Oper} {fn : FuncId} {args : Array Operand} {ts : Array TypeId} {xs : List AV} {res : AV} {Xc Xc' : Store} (f fl : Nat → Nat) (F : List Nat)
    (ho : o.op = .call { callee := .value (.func fn), args := args, argTypes := ts }) (hf : CallI P fn) (hs : Does P fn xs Xc res Xc') (hc : LabCall X Xc Xc' f fl F)
    (hl : xs.length = args.size) (hd : namesLs (Xc.objs.map (·.1)) Xc.live xs = true) (hdr : namesL (Xc'.objs.map (·.1)) Xc'.live res = true) :
    OpT P o (args.toList.zip (mapLs f fl xs)) X ⟨putObjsL f fl Xc'.objs X.objs, liveAfter fl X Xc Xc'⟩ F (mapL f fl res) := by
  intro nm hsm B g w a hr hrd next Q hn
  unfold Oper.wp
  have : (execOp a.eval o).run P w = .ok (.enter fn (args.map a.eval)) w := by
    simp only [execOp, ho, resolve]
    simp [Act.eval, Deferred.ofValue, invoke, run_callFunc hf]
  rw [this]
  refine (hs.useLab hc hd hdr hr (by simpa using hl) (rds_args hrd)).mono ?_
  rintro e w' ⟨v, g', rfl, h1, h2, h3⟩
  exact hn g' w' v h1 h2 h3

end Go.Xl
/-
  Functions that are given objects, and functions with what they captured: what they come to, as functions in Lean.
-/
set_option linter.unusedVariables false
set_option linter.unusedSimpArgs false
set_option linter.unnecessarySimpa false
namespace Go.Xl
open Go.Ab

/-- an argument: data, a pointer to an object, a slice that owns its block, a function and the variables that it captured -/
inductive AS where
  | d (t : Ty)
  | p (k off : Nat)
  | os (k : Nat) (t : Ty)
  | clo (f : Nat) (ps : List (Nat × Nat))

structure CSp where
  args : List AS
  objs : List (Nat × List VK × Option TypeId)
  arrs : List (Nat × Ty)
  out : Cut

def CSp.names (S : CSp) : List Nat := namesOf S.objs ++ arrNames S.arrs
def CSp.labs (S : CSp) : List Nat := labsOfObjs S.objs
def CSp.s0 (S : CSp) (xs : List XV) (objs : List (Nat × XOb)) : XSt := ⟨envX 0 xs, objs, S.labs, [], []⟩

@[reducible] def CurA : List AS → Type → Type
  | [], R => R
  | .d t :: r, R => t.T → CurA r R
  | .p _ _ :: r, R => CurA r R
  | .os _ _ :: r, R => Nat → CurA r R
  | .clo _ _ :: r, R => CurA r R
@[reducible] def CurC : List VK → Type → Type
  | [], R => R
  | .d t :: r, R => t.T → CurC r R
  | .p _ _ :: r, R => CurC r R
  | .tip _ t _ :: r, R => List t.T → CurC r R
@[reducible] def CurO : List (Nat × List VK × Option TypeId) → Type → Type
  | [], R => R
  | p :: r, R => CurC p.2.1 (CurO r R)
@[reducible] def CurR : List (Nat × Ty) → Type → Type
  | [], R => R
  | p :: r, R => List p.2.T → CurR r R
@[reducible] def CSp.Fun (S : CSp) (R : Type) : Type := CurA S.args (CurO S.objs (CurR S.arrs R))

def psX (ps : List (Nat × Nat)) : List XV := ps.map fun p => .nm p.1 (.p p.2)

def lamA {α : Type} : (l : List AS) → (List XV → α) → List XV → CurA l α
  | [], f, acc => f acc
  | .d t :: r, f, acc => fun y => lamA r f (acc ++ [.d (t.xv y)])
  | .p k off :: r, f, acc => lamA r f (acc ++ [.nm k (.p off)])
  | .os k t :: r, f, acc => fun n => lamA r f (acc ++ [.os k t 0 n])
  | .clo g ps :: r, f, acc => lamA r f (acc ++ [.clo g (psX ps)])
def lamC {α : Type} : (l : List VK) → (List XV → α) → List XV → CurC l α
  | [], f, acc => f acc
  | .d t :: r, f, acc => fun y => lamC r f (acc ++ (t.enc y).map .d)
  | .p k off :: r, f, acc => lamC r f (acc ++ [.nm k (.p off)])
  | .tip n t ty :: r, f, acc => fun l => lamC r f (acc ++ [.tip n t l ty])
def lamO {α : Type} : (l : List (Nat × List VK × Option TypeId)) → (List (Nat × XOb) → α) → List (Nat × XOb) → CurO l α
  | [], f, acc => f acc
  | p :: r, f, acc => lamC p.2.1 (fun cs => lamO r f (acc ++ [(p.1, .cells cs p.2.2)])) []
def lamR {α : Type} : (l : List (Nat × Ty)) → (List (Nat × XOb) → α) → List (Nat × XOb) → CurR l α
  | [], f, acc => f acc
  | p :: r, f, acc => fun l => lamR r f (acc ++ [(p.1, .arr p.2 l)])

def GndA {β : Type} (Q : β → List XV → Prop) : (l : List AS) → CurA l β → List XV → Prop
  | [], F, acc => Q F acc
  | .d t :: r, F, acc => ∀ y : t.T, GndA Q r (F y) (acc ++ [.d (t.xv y)])
  | .p k off :: r, F, acc => GndA Q r F (acc ++ [.nm k (.p off)])
  | .os k t :: r, F, acc => ∀ n : Nat, GndA Q r (F n) (acc ++ [.os k t 0 n])
  | .clo g ps :: r, F, acc => GndA Q r F (acc ++ [.clo g (psX ps)])
def GndC {β : Type} (Q : β → List XV → Prop) : (l : List VK) → CurC l β → List XV → Prop
  | [], F, acc => Q F acc
  | .d t :: r, F, acc => ∀ y : t.T, GndC Q r (F y) (acc ++ (t.enc y).map .d)
  | .p k off :: r, F, acc => GndC Q r F (acc ++ [.nm k (.p off)])
  | .tip n t ty :: r, F, acc => ∀ l : List t.T, GndC Q r (F l) (acc ++ [.tip n t l ty])
def GndO {β : Type} (Q : β → List (Nat × XOb) → Prop) : (l : List (Nat × List VK × Option TypeId)) → CurO l β → List (Nat × XOb) → Prop
  | [], F, acc => Q F acc
  | p :: r, F, acc => GndC (fun F' cs => GndO Q r F' (acc ++ [(p.1, .cells cs p.2.2)])) p.2.1 F []
def GndR {β : Type} (Q : β → List (Nat × XOb) → Prop) : (l : List (Nat × Ty)) → CurR l β → List (Nat × XOb) → Prop
  | [], F, acc => Q F acc
  | p :: r, F, acc => ∀ l : List p.2.T, GndR Q r (F l) (acc ++ [(p.1, .arr p.2 l)])

theorem lamA_gnd {α : Type} {Q : α → List XV → Prop} {f : List XV → α} (m : Nat) (h : ∀ acc, acc.length = m → Q (f acc) acc) : ∀ (l : List AS) (acc : List XV), acc.length + l.length = m → GndA Q l (lamA l f acc) acc
  | [], acc, hm => h acc (by simpa using hm)
  | .d t :: r, acc, hm => fun y => lamA_gnd m h r _ (by simp at hm ⊢; omega)
  | .p k off :: r, acc, hm => by
    simp only [GndA, lamA]
    exact lamA_gnd m h r (acc ++ [.nm k (.p off)]) (by simp at hm ⊢; omega)
  | .os k t :: r, acc, hm => fun n => lamA_gnd m h r _ (by simp at hm ⊢; omega)
  | .clo g ps :: r, acc, hm => by
    simp only [GndA, lamA]
    exact lamA_gnd m h r (acc ++ [.clo g (psX ps)]) (by simp at hm ⊢; omega)
theorem lamC_gnd {α : Type} {Q : α → List XV → Prop} {f : List XV → α} (h : ∀ acc, Q (f acc) acc) : ∀ (l : List VK) (acc : List XV), GndC Q l (lamC l f acc) acc
  | [], acc => h acc
  | .d t :: r, acc => fun y => lamC_gnd h r _
  | .p k off :: r, acc => by
    simp only [GndC, lamC]
    exact lamC_gnd h r (acc ++ [.nm k (.p off)])
  | .tip n t ty :: r, acc => fun l => lamC_gnd h r _
theorem lamO_gnd {α : Type} {Q : α → List (Nat × XOb) → Prop} {f : List (Nat × XOb) → α} (ns : List Nat) (h : ∀ acc, acc.map (·.1) = ns → Q (f acc) acc) : ∀ (l : List (Nat × List VK × Option TypeId)) (acc : List (Nat × XOb)), acc.map (·.1) ++ namesOf l = ns → GndO Q l (lamO l f acc) acc
  | [], acc, hm => h acc (by simpa [namesOf] using hm)
  | p :: r, acc, hm => lamC_gnd (fun cs => lamO_gnd ns h r _ (by simpa [namesOf] using hm)) p.2.1 []
theorem lamR_gnd {α : Type} {Q : α → List (Nat × XOb) → Prop} {f : List (Nat × XOb) → α} (ns : List Nat) (h : ∀ acc, acc.map (·.1) = ns → Q (f acc) acc) : ∀ (l : List (Nat × Ty)) (acc : List (Nat × XOb)), acc.map (·.1) ++ arrNames l = ns → GndR Q l (lamR l f acc) acc
  | [], acc, hm => h acc (by simpa [arrNames] using hm)
  | p :: r, acc, hm => fun l => lamR_gnd ns h r _ (by simpa [arrNames] using hm)

section
variable (P : Program) (Γ : List (Ent P)) (own : List Nat) (N : Nat) (fn : Func) (an : An) (S : CSp)

def finX (S : CSp) (xs : List XV) (objs : List (Nat × XOb)) (s : XSt) : Option S.out.T := proj S.names (keepL (S.s0 xs objs) S.out) S.out s

def finC (S : CSp) (xs : List XV) (objs : List (Nat × XOb)) : Exit → XSt → Option S.out.T
  | .ret, s => finX S xs objs s
  | .normal, s => finX S xs objs s
  | _, _ => none

def runBC (xs : List XV) (objs : List (Nat × XOb)) : Option S.out.T :=
  match fn.body with
  | some c => exec P Γ own S.names fn.ntmps N c an (S.s0 xs objs) (finC S xs objs)
  | none => none

def runC : S.Fun (Option S.out.T) := lamA S.args (fun xs => lamO S.objs (fun os => lamR S.arrs (fun os' => runBC P Γ own N fn an S xs os') os) []) []
end

def GoodC (P : Program) (f : FuncId) (fn : Func) (S : CSp) (y : S.out.T) (xs : List XV) (objs : List (Nat × XOb)) : Prop :=
  objs.map (·.1) = S.names ∧ ∀ rs, xres P (gen (S.s0 xs objs) S.out y) fn.results.toList = some rs → Does P f (asOf xs) ⟨imObjs objs, S.labs⟩ (tupX rs).a (gen (S.s0 xs objs) S.out y).X

def SndC (P : Program) (f : FuncId) (fn : Func) (S : CSp) (F : S.Fun (Option S.out.T)) : Prop :=
  GndA (fun F' xs => GndO (fun F'' os => GndR (fun F3 os' => ∀ y, F3 = some y → GoodC P f fn S y xs os') S.arrs F'' os) S.objs F' []) S.args F []

def smallL : List Nat → Bool
  | [] => true
  | n :: r => cond (Nat.blt n 1000) (smallL r) false

theorem smallL_spec : ∀ {l : List Nat}, smallL l = true → ∀ j ∈ l, j < 1000
  | [], _ => by simp
  | n :: r, h => by
    simp only [smallL] at h
    cases hb : Nat.blt n 1000 with
    | false => simp [hb] at h
    | true =>
      simp only [hb, cond_true] at h
      intro j hj
      rcases List.mem_cons.1 hj with rfl | hj
      · simpa [Nat.blt_eq] using hb
      · exact smallL_spec h j hj

def noKeepS (S : CSp) : Bool := match S.out.keepS with
  | [] => true
  | _ => false

theorem imObjs_names (l : List (Nat × XOb)) : (imObjs l).map (·.1) = l.map (·.1) := by simp [imObjs]

theorem runBC_sound {P : Program} {Γ : List (Ent P)} {own : List Nat} {N : Nat} {f : FuncId} {fn : Func} {an : An} {S : CSp} {xs : List XV} {objs : List (Nat × XOb)} {y : S.out.T} (hm : P.follows .mixedOrders = true) (hf : P.funcs[f]? = some fn)
    (hn : xs.length ≤ fn.ntmps) (hsm : smallL S.names = true) (hks : noKeepS S = true) (hnames : objs.map (·.1) = S.names) (h : runBC P Γ own N fn an S xs objs = some y) : GoodC P f fn S y xs objs := by
  unfold runBC at h
  split at h
  · rename_i c hc
    have hs := exec_sound (S := ⟨fn.ntmps, S.names, smallL_spec hsm⟩) hm rfl c an _ _ _ _ (.refl _) h
    have hks' : S.out.keepS = [] := by
      unfold noKeepS at hks
      split at hks
      · assumption
      · cases hks
    refine ⟨hnames, fun rs hrs => ?_⟩
    intro g w vs hr hl ha
    have hnm : (imObjs objs).map (·.1) = S.names := by rw [imObjs_names, hnames]
    refine calls_of_wp hf hc (wp_mono (hs (Base.of g w ⟨imObjs objs, S.labs⟩) g w _ ?_) ?_)
    · refine ⟨rfl, ?_, ?_, ?_⟩
      · rw [asOf_length] at hl
        simp; omega
      · have := hr
        rw [hnm] at this
        exact this
      · intro s x hx
        have hx' : (envOf 0 (asOf xs)).lookup s = some x := by rw [← envX_im]; exact hx
        obtain ⟨_, hx'⟩ := envOf_lookup hx'
        rw [Nat.sub_zero] at hx'
        have hlt : s < vs.size := by have := (List.getElem?_eq_some_iff.1 hx').1; omega
        refine ⟨vs[s], ?_, ha s x _ hx' (by simp [hlt])⟩
        simp [Array.getElem?_append, hlt]
    · rintro e a' w' ⟨s, g', ⟨st', rfl, hi, hk⟩, hs'⟩
      have fin : finX S xs objs st' = some y →
          a'.defers = [] ∧ ∃ v, (results fn a'.tmps).run P w' = .ok v w' ∧ ∃ g' v_1, Ending.returned v = Ending.returned v_1 ∧ RA g' w' (tupX rs).a v_1 ∧ HR ((imObjs objs).map (·.1)) (Base.of g w ⟨imObjs objs, S.labs⟩) g' w' (gen (S.s0 xs objs) S.out y).X := by
        intro h
        unfold finX at h
        obtain ⟨g'', hs''⟩ := cut_sound h (by rw [hks']; simp) (fun k _ x hk hx => hi.objs k x hk hx) hs' rfl
        obtain ⟨v, hv, hra⟩ := run_results (xres_ok hrs) hs''
        rw [← tupX_a] at hra
        exact ⟨hs''.defers, v, hv, g'', v, rfl, hra, by rw [hnm]; exact hs''.hr⟩
      cases e with
      | ret => exact fin hk
      | normal => exact fin hk
      | _ => simp [finC] at hk
  · cases h


theorem runC_sound {P : Program} {Γ : List (Ent P)} {own : List Nat} {N : Nat} {f : FuncId} {fn : Func} {an : An} {S : CSp} (hm : P.follows .mixedOrders = true) (hf : P.funcs[f]? = some fn)
    (hn : Nat.ble S.args.length fn.ntmps = true) (hsm : smallL S.names = true) (hks : noKeepS S = true) : SndC P f fn S (runC P Γ own N fn an S) := by
  unfold SndC runC
  refine lamA_gnd S.args.length (fun xs hxs => ?_) S.args [] (by simp)
  refine lamO_gnd (namesOf S.objs) (fun os hos => ?_) S.objs [] (by simp)
  refine lamR_gnd S.names (fun os' hos' => ?_) S.arrs os (by rw [hos]; rfl)
  intro y hy
  exact runBC_sound hm hf (by have := Nat.le_of_ble_eq_true hn; omega) hsm hks hos' hy

end Go.Xl
