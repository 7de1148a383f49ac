import Derived.Test.YtoangfbpdedofaaDoorZd
import Derived.Laws.StandIn
import Derived.Lib.Bytealg
import Derived.Test.YtoangfbpdedofaaDoorProg
import Derived.KernelRfl
import Derived.Shelf.SlSortCmp.NoneTotal
import Derived.Shelf.SlGeneric
import Derived.Ground.SlsfProg
import Derived.IntWalk
import Derived.Laws.Bits64b
/-
  Such functions, called: what comes out.
-/
set_option linter.unusedVariables false
set_option linter.unusedSimpArgs false
set_option linter.unnecessarySimpa false
namespace Go.Xl
open Go.Ab

/-- the objects that a cut writes anew -/
def outW (c : Cut) (y : c.T) : List (Nat × XOb) := genObjs c.objs y.2.1 ++ (genOwnO c.own y.2.2.1 ++ genArrs c.arrs y.2.2.2)

theorem gen_objs (s0 : XSt) (c : Cut) (y : c.T) : (gen s0 c y).objs = outW c y ++ keepObjs s0.objs c.keepO := by simp [gen, outW]

def newOk (ns : List Nat) (f : Nat → Nat) (F : List Nat) (objs : List (Nat × XOb)) : List (Nat × XOb) → Bool
  | [] => true
  | p :: r => cond (cond (inl p.1 ns) true (cond (inl (f p.1) F) (match lk (f p.1) objs with
    | none => true
    | some _ => false) false)) (newOk ns f F objs r) false

theorem newOk_spec {ns : List Nat} {f : Nat → Nat} {F : List Nat} {objs : List (Nat × XOb)} : ∀ {l : List (Nat × XOb)}, newOk ns f F objs l = true → ∀ p ∈ l, p.1 ∈ ns ∨ (f p.1 ∈ F ∧ lk (f p.1) objs = none)
  | [], _ => by simp
  | q :: r, h => by
    simp only [newOk] at h
    have hr : newOk ns f F objs r = true ∧ (q.1 ∈ ns ∨ (f q.1 ∈ F ∧ lk (f q.1) objs = none)) := by
      cases h1 : inl q.1 ns with
      | true => simp only [h1, cond_true] at h; exact ⟨h, .inl ((inl_eq _ _).1 h1)⟩
      | false =>
        cases h2 : inl (f q.1) F with
        | false => simp [h1, h2] at h
        | true =>
          cases h3 : lk (f q.1) objs with
          | some _ => simp [h1, h2, h3] at h
          | none => simp only [h1, h2, h3, cond_true, cond_false] at h; exact ⟨h, .inr ⟨(inl_eq _ _).1 h2, rfl⟩⟩
    intro p hp
    rcases List.mem_cons.1 hp with rfl | hp
    · exact hr.2
    · exact newOk_spec hr.1 p hp

def outNew (fl : Nat → Nat) (labs live : List Nat) : List Nat → Bool
  | [] => true
  | n :: r => cond (cond (inl (fl n) live) (inl (fl n) (labs.map fl)) true) (outNew fl labs live r) false

theorem outNew_spec {fl : Nat → Nat} {labs live : List Nat} : ∀ {l : List Nat}, outNew fl labs live l = true → ∀ n ∈ l, fl n ∈ live → fl n ∈ labs.map fl
  | [], _ => by simp
  | m :: r, h => by
    simp only [outNew] at h
    intro n hn hl
    cases h1 : inl (fl m) live with
    | false =>
      simp only [h1, cond_false, cond_true] at h
      rcases List.mem_cons.1 hn with rfl | hn
      · rw [(inl_eq _ _).2 hl] at h1; cases h1
      · exact outNew_spec h n hn hl
    | true =>
      cases h2 : inl (fl m) (labs.map fl) with
      | false => simp [h1, h2] at h
      | true =>
        simp only [h1, h2, cond_true] at h
        rcases List.mem_cons.1 hn with rfl | hn
        · exact (inl_eq _ _).1 h2
        · exact outNew_spec h n hn hl

def cChk (S : CSp) (f fl : Nat → Nat) (F : List Nat) (st : XSt) (xs : List XV) (inO s1o : List (Nat × XOb)) (s1l : List Nat) (res : XV) : Bool :=
  cond (nodupL S.names) (cond (nodupL (S.names.map f)) (cond (objsNms S.names S.labs inO) (cond (objsNms (s1o.map (·.1)) s1l s1o) (cond (nodupL (s1o.map fun p => f p.1)) (cond (newOk S.names f F st.objs s1o)
  (cond (subL S.names (s1o.map (·.1))) (cond (objsFreeX F (putXs f fl inO st.objs)) (cond (subL (S.labs.map fl) st.live) (cond (nodupL (S.labs.map fl)) (cond (nodupL (s1l.map fl)) (cond (subL (s1l.map fl) F)
  (cond (outNew fl S.labs st.live s1l) (cond (nmsL S.names S.labs xs) (res.nms (s1o.map (·.1)) s1l) false) false) false) false) false) false) false) false) false) false) false) false) false) false

structure CChk (S : CSp) (f fl : Nat → Nat) (F : List Nat) (st : XSt) (xs : List XV) (inO s1o : List (Nat × XOb)) (s1l : List Nat) (res : XV) : Prop where
  nd1 : S.names.Nodup
  nd2 : (S.names.map f).Nodup
  innm : objsNms S.names S.labs inO = true
  outnm : objsNms (s1o.map (·.1)) s1l s1o = true
  nd3 : (s1o.map fun p => f p.1).Nodup
  new : ∀ p ∈ s1o, p.1 ∈ S.names ∨ (f p.1 ∈ F ∧ lk (f p.1) st.objs = none)
  sub : ∀ x ∈ S.names, x ∈ s1o.map (·.1)
  free : objsFreeX F (putXs f fl inO st.objs) = true
  l1 : ∀ x ∈ S.labs.map fl, x ∈ st.live
  l2 : (S.labs.map fl).Nodup
  l3 : (s1l.map fl).Nodup
  l4 : ∀ x ∈ s1l.map fl, x ∈ F
  l5 : ∀ n ∈ s1l, fl n ∈ st.live → fl n ∈ S.labs.map fl
  xsn : nmsL S.names S.labs xs = true
  resn : res.nms (s1o.map (·.1)) s1l = true

theorem cChk_spec {S : CSp} {f fl : Nat → Nat} {F : List Nat} {st : XSt} {xs : List XV} {inO s1o : List (Nat × XOb)} {s1l : List Nat} {res : XV} (h : cChk S f fl F st xs inO s1o s1l res = true) : CChk S f fl F st xs inO s1o s1l res := by
  unfold cChk at h
  have c : ∀ {a b : Bool}, cond a b false = true → a = true ∧ b = true := by intro a b h; cases a <;> simp at h; exact ⟨rfl, h⟩
  obtain ⟨h1, h⟩ := c h
  obtain ⟨h2, h⟩ := c h
  obtain ⟨h3, h⟩ := c h
  obtain ⟨h4, h⟩ := c h
  obtain ⟨h5, h⟩ := c h
  obtain ⟨h6, h⟩ := c h
  obtain ⟨h7, h⟩ := c h
  obtain ⟨h8, h⟩ := c h
  obtain ⟨h9, h⟩ := c h
  obtain ⟨h10, h⟩ := c h
  obtain ⟨h11, h⟩ := c h
  obtain ⟨h12, h⟩ := c h
  obtain ⟨h13, h⟩ := c h
  obtain ⟨h14, h⟩ := c h
  exact ⟨nodupL_spec h1, nodupL_spec h2, h3, h4, nodupL_spec h5, newOk_spec h6, subL_spec h7, h8, subL_spec h9, nodupL_spec h10, nodupL_spec h11, subL_spec h12, outNew_spec h13, h14, h⟩

theorem im_mem {l : List (Nat × XOb)} {p : Nat × Ob} (h : p ∈ imObjs l) : ∃ q ∈ l, p = (q.1, q.2.o) := by
  unfold imObjs at h
  obtain ⟨q, hq, rfl⟩ := List.mem_map.1 h
  exact ⟨q, hq, rfl⟩

theorem putObjsL_im_other {f fl : Nat → Nat} {l : List (Nat × XOb)} {acc : List (Nat × Ob)} {j : Nat} (h : ∀ p ∈ l, f p.1 ≠ j) : (putObjsL f fl (imObjs l) acc).lookup j = acc.lookup j := by
  refine putObjsL_other _ _ j fun p hp => ?_
  obtain ⟨q, hq, rfl⟩ := im_mem hp
  exact h q hq

theorem putObjsL_im_mem {f fl : Nat → Nat} {l : List (Nat × XOb)} {acc : List (Nat × Ob)} {p : Nat × XOb} (hn : (l.map fun p => f p.1).Nodup) (h : p ∈ l) : (putObjsL f fl (imObjs l) acc).lookup (f p.1) = some (p.2.mp f fl).o := by
  have := putObjsL_mem (f := f) (fl := fl) (imObjs l) acc (p.1, p.2.o) (by simpa [imObjs, Function.comp_def] using hn) (List.mem_map_of_mem (f := fun p : Nat × XOb => (p.1, p.2.o)) h)
  rw [XOb.mp_o]
  exact this

theorem nodup_inj {α : Type} {l : List α} {f : α → Nat} (h : (l.map f).Nodup) {x y : α} (hx : x ∈ l) (hy : y ∈ l) (e : f x = f y) : x = y := nodup_map_inj h hx hy e

/-- one call -/
theorem call_core {P : Program} {o : Oper} {rd : List (Operand × AV)} {S : CSp} {f fl : Nat → Nat} {F : List Nat} {st : XSt} {xs : List XV} {inO : List (Nat × XOb)} {y : S.out.T} {res : XV} {X : Store}
    (hc : CChk S f fl F st xs inO (gen (S.s0 xs inO) S.out y).objs (gen (S.s0 xs inO) S.out y).live res) (hnm : inO.map (·.1) = S.names)
    (hin : ∀ p ∈ inO, ∃ o, X.objs.lookup (f p.1) = some o ∧ ObLe o (p.2.mp f fl).o ∧ (inl p.1 S.out.keepO = true → o = (p.2.mp f fl).o))
    (hnew : ∀ p ∈ (gen (S.s0 xs inO) S.out y).objs, p.1 ∈ S.names ∨ (f p.1 ∈ F ∧ X.objs.lookup (f p.1) = none))
    (hfree : objsFree F ⟨putObjsL f fl (imObjs inO) X.objs, X.live⟩ = true) (hl1 : ∀ x ∈ S.labs.map fl, x ∈ X.live) (hl5 : ∀ n ∈ (gen (S.s0 xs inO) S.out y).live, fl n ∈ X.live → fl n ∈ S.labs.map fl)
    (H : ∀ Y, LabCall Y ⟨imObjs inO, S.labs⟩ (gen (S.s0 xs inO) S.out y).X f fl F → OpT P o rd Y ⟨putObjsL f fl (gen (S.s0 xs inO) S.out y).X.objs Y.objs, liveAfter fl Y ⟨imObjs inO, S.labs⟩ (gen (S.s0 xs inO) S.out y).X⟩ F (res.mp f fl).a) :
    OpT P o rd X ⟨putObjsL f fl (imObjs (outW S.out y)) X.objs, liveAfter fl X ⟨imObjs inO, S.labs⟩ (gen (S.s0 xs inO) S.out y).X⟩ F (res.mp f fl).a := by
  generalize hs1 : gen (S.s0 xs inO) S.out y = s1 at *
  have hobjs : s1.objs = outW S.out y ++ keepObjs inO S.out.keepO := by rw [← hs1, gen_objs]; rfl
  have nd2 : (inO.map fun p => f p.1).Nodup := by
    have := hc.nd2
    rw [← hnm, List.map_map] at this
    exact this
  let Y : Store := ⟨putObjsL f fl (imObjs inO) X.objs, X.live⟩
  have yIn : ∀ p ∈ inO, Y.objs.lookup (f p.1) = some (p.2.mp f fl).o := fun p hp => putObjsL_im_mem nd2 hp
  have yOther : ∀ j, (∀ p ∈ inO, f p.1 ≠ j) → Y.objs.lookup j = X.objs.lookup j := fun j hj => putObjsL_im_other hj
  have yCases : ∀ j, (∃ p ∈ inO, f p.1 = j) ∨ ∀ p ∈ inO, f p.1 ≠ j := by
    intro j
    by_cases h : ∃ p ∈ inO, f p.1 = j
    · exact .inl h
    · exact .inr fun p hp e => h ⟨p, hp, e⟩
  have hle : ∀ k o', Y.objs.lookup k = some o' → ∃ o, X.objs.lookup k = some o ∧ ObLe o o' := by
    intro k o' ho
    rcases yCases k with ⟨p, hp, rfl⟩ | hn
    · rw [yIn p hp] at ho
      cases ho
      obtain ⟨o, h1, h2, _⟩ := hin p hp
      exact ⟨o, h1, h2⟩
    · rw [yOther k hn] at ho
      exact ⟨o', ho, .refl _⟩
  have hkk : ∀ k, (X.objs.lookup k).isSome → (Y.objs.lookup k).isSome := by
    intro k hk
    rcases yCases k with ⟨p, hp, rfl⟩ | hn
    · rw [yIn p hp]; rfl
    · rw [yOther k hn]; exact hk
  have hXn : s1.X.objs.map (·.1) = s1.objs.map (·.1) := imObjs_names _
  have hlab : LabCall Y ⟨imObjs inO, S.labs⟩ s1.X f fl F := by
    refine ⟨?_, ?_, ?_, ?_, ?_, ?_, ?_, hfree, ?_, hc.l2, hc.l3, fun n hn => hc.l4 _ (List.mem_map_of_mem hn), hl5⟩
    · intro p hp
      obtain ⟨q, hq, rfl⟩ := im_mem hp
      rw [yIn q hq, XOb.mp_o]
    · simp only [imObjs_names, hnm]
      exact objsNms_im hc.innm
    · rw [hXn]
      exact objsNms_im hc.outnm
    · have := hc.nd3
      simpa [XSt.X, imObjs, Function.comp_def] using this
    · simp only [imObjs_names, hnm]
      exact hc.nd1
    · intro p hp
      obtain ⟨q, hq, rfl⟩ := im_mem hp
      simp only [imObjs_names, hnm]
      rcases hnew q hq with h | ⟨h1, h2⟩
      · exact .inl h
      · refine .inr ⟨h1, ?_⟩
        rw [yOther]
        · exact h2
        · intro p hp e
          obtain ⟨o, h3, _⟩ := hin p hp
          rw [e, h2] at h3
          cases h3
    · intro p hp
      obtain ⟨q, hq, rfl⟩ := im_mem hp
      rw [hXn]
      exact hc.sub _ (by rw [← hnm]; exact List.mem_map_of_mem (f := fun p : Nat × XOb => p.1) hq)
    · intro n hn
      exact hl1 _ (List.mem_map_of_mem hn)
  have h1 := opT_weak (H Y hlab) hle hkk rfl
  -- the same lookups
  have ndo := hc.nd3
  rw [hobjs] at ndo
  have same : ∀ j, (putObjsL f fl (imObjs (outW S.out y)) X.objs).lookup j = (putObjsL f fl s1.X.objs Y.objs).lookup j := by
    intro j
    by_cases hj : ∃ p ∈ s1.objs, f p.1 = j
    · obtain ⟨p, hp, rfl⟩ := hj
      have e1 : (putObjsL f fl s1.X.objs Y.objs).lookup (f p.1) = some (p.2.mp f fl).o := putObjsL_im_mem hc.nd3 hp
      rw [e1]
      rw [hobjs] at hp
      rcases List.mem_append.1 hp with hp | hp
      · exact putObjsL_im_mem (by
          rw [List.map_append] at ndo
          exact (nodup_app ndo).1) hp
      · rw [putObjsL_im_other]
        · obtain ⟨hk1, hk2⟩ := keepObjs_mem hp
          have hmem : p ∈ inO := lk_mem hk2
          obtain ⟨o, h3, _, h4⟩ := hin p hmem
          rw [h3, h4 ((inl_eq _ _).2 hk1)]
        · intro q hq e
          rw [List.map_append] at ndo
          exact (nodup_app ndo).2.2 (f q.1) (List.mem_map_of_mem (f := fun p : Nat × XOb => f p.1) hq) (by rw [e]; exact List.mem_map_of_mem (f := fun p : Nat × XOb => f p.1) hp)
    · have hn : ∀ p ∈ s1.objs, f p.1 ≠ j := fun p hp e => hj ⟨p, hp, e⟩
      have e1 : (putObjsL f fl s1.X.objs Y.objs).lookup j = Y.objs.lookup j := putObjsL_im_other hn
      rw [e1, yOther j ?_, putObjsL_im_other ?_]
      · intro p hp
        exact hn p (by rw [hobjs]; exact List.mem_append_left _ hp)
      · intro p hp e
        have := hc.sub p.1 (by rw [← hnm]; exact List.mem_map_of_mem (f := fun p : Nat × XOb => p.1) hp)
        obtain ⟨q, hq, hqe⟩ := List.mem_map.1 this
        exact hn q hq (by rw [hqe]; exact e)
  intro nm hsm B g w a hr hrd next Q hn
  refine h1 nm hsm B g w a hr hrd next Q fun g' w' v hr' ht hv => hn g' w' v ?_ ht hv
  refine hr_weak hr' (fun k o' ho => ⟨o', ?_, .refl _⟩) (fun k hk => ?_) rfl
  · rw [← same k]; exact ho
  · rw [same k]; exact hk

/-! the entry -/

def nmBase (o : Oper) : Nat := match o.dst with
  | some d => 1000000 + 1000 * d
  | none => 999000

def findP : List (Nat × Nat) → List XV → List (Nat × Nat) → List (Nat × Nat)
  | p :: ps, .nm k _ :: cs, σ => findP ps cs ((p.1, k) :: σ)
  | _ :: ps, _ :: cs, σ => findP ps cs σ
  | _, _, σ => σ
def findA : List AS → List XV → List (Nat × Nat) → List (Nat × Nat)
  | .p k _ :: r, .nm k' _ :: vs, σ => findA r vs ((k, k') :: σ)
  | .os k _ :: r, .os k' _ _ _ :: vs, σ => findA r vs ((k, k') :: σ)
  | .clo _ ps :: r, .clo _ caps :: vs, σ => findA r vs (findP ps caps σ)
  | _ :: r, _ :: vs, σ => findA r vs σ
  | _, _, σ => σ
def findC : List VK → List XV → List (Nat × Nat) × List (Nat × Nat) → List (Nat × Nat) × List (Nat × Nat)
  | .d t :: r, cs, σ => findC r (cs.drop t.size) σ
  | .p k _ :: r, .nm k' _ :: cs, σ => findC r cs ((k, k') :: σ.1, σ.2)
  | .tip n _ _ :: r, .tip n' _ _ _ :: cs, σ => findC r cs (σ.1, (n, n') :: σ.2)
  | _ :: r, _ :: cs, σ => findC r cs σ
  | _, _, σ => σ
def findO (objs : List (Nat × XOb)) : List (Nat × List VK × Option TypeId) → List (Nat × Nat) × List (Nat × Nat) → List (Nat × Nat) × List (Nat × Nat)
  | [], σ => σ
  | p :: r, σ => match lk (nf σ.1 p.1) objs with
    | some (.cells cs _) => findO objs r (findC p.2.1 cs σ)
    | _ => findO objs r σ
def newNs (ns : List Nat) (b : Nat) : List Nat → List (Nat × Nat)
  | [] => []
  | k :: r => cond (inl k ns) (newNs ns b r) ((k, b + k) :: newNs ns b r)
def newLs (b : Nat) : List Nat → List (Nat × Nat)
  | [] => []
  | n :: r => (n, b) :: newLs (b + 1) r
def cNew (S : CSp) (o : Oper) : List (Nat × Nat) := newNs S.names (nmBase o) (namesOf S.out.objs ++ (ownNames S.out.own ++ arrNames S.out.arrs))
def cFind (S : CSp) (o : Oper) (st : XSt) (vs : List XV) : List (Nat × Nat) × List (Nat × Nat) :=
  let σ := findO st.objs S.objs (findA S.args vs [], [])
  (σ.1 ++ cNew S o, σ.2 ++ newLs (3000000 + nmBase o) S.out.labs)

def isNilL {α : Type} : List α → Bool
  | [] => true
  | _ => false

def cOut {R : Type} (P : Program) (fn : Func) (S : CSp) (f fl : Nat → Nat) (nw : List Nat) (st : XSt) (rd : List (Operand × XV)) (xs : List XV) (inO : List (Nat × XOb)) (K : Out → Option R) (y : S.out.T) : Option R :=
  match xres P (gen (S.s0 xs inO) S.out y) fn.results.toList with
  | some rs =>
    cond (cChk S f fl (nw ++ (gen (S.s0 xs inO) S.out y).live.map fl) st xs inO (gen (S.s0 xs inO) S.out y).objs (gen (S.s0 xs inO) S.out y).live (tupX rs))
      (cond (cond (isNilL (outW S.out y)) (cond (isNilL (nw ++ (gen (S.s0 xs inO) S.out y).live.map fl)) (isNilL S.labs) false) false)
        (K ⟨.look (S.names.map f), (tupX rs).mp f fl, rd, st.objs, st.live, [], []⟩)
        (K ⟨.all, (tupX rs).mp f fl, rd, putXs f fl (outW S.out y) st.objs, liveAfter fl st.X ⟨[], S.labs⟩ ⟨[], (gen (S.s0 xs inO) S.out y).live⟩, nw ++ (gen (S.s0 xs inO) S.out y).live.map fl, (outW S.out y).map fun p => f p.1⟩)) none
  | none => none

/-- reckoned before it goes on -/
def forceP {R : Type} : List (Nat × Nat) → (List (Nat × Nat) → R) → R
  | [], K => K []
  | p :: r, K => forceP r fun r' => K ((p.1, p.2) :: r')

theorem forceP_eq {R : Type} : ∀ (l : List (Nat × Nat)) (K : List (Nat × Nat) → R), forceP l K = K l
  | [], K => rfl
  | p :: r, K => by
    simp only [forceP]
    rw [forceP_eq r]

def cCore {R : Type} (P : Program) (fn : Func) (S : CSp) (F : S.Fun (Option S.out.T)) (o : Oper) (st : XSt) (rd : List XV → List (Operand × XV)) (vs : List XV) (K : Out → Option R) : Option R :=
  forceP (cFind S o st vs).1 fun σ => forceP (cFind S o st vs).2 fun τ =>
    appAs (nf σ) S.args F vs [] fun F' xs =>
      appOs (nf σ) (nf τ) S.out.keepO st.objs S.objs F' [] fun F'' os =>
        appRs (nf σ) st.objs S.arrs F'' os fun F3 os' =>
          Option.bind F3 fun y => cOut P fn S (nf σ) (nf τ) ((cNew S o).map (·.2)) st (rd (mpL (nf σ) (nf τ) xs)) xs os' K y

def cRun {R : Type} (P : Program) (fn : Func) (S : CSp) (F : S.Fun (Option S.out.T)) (o : Oper) (st : XSt) (vs : List XV) (K : Out → Option R) : Option R :=
  cCore P fn S F o st (fun ms => (callArgs o).zip ms) vs K

def calleeOp (o : Oper) : Operand :=
  match o.op with
  | .call c => match c.callee with
    | .value x => x
    | _ => .const undef
  | _ => .const undef

def cRunC {R : Type} (P : Program) (id : FuncId) (fn : Func) (S : CSp) (F : S.Fun (Option S.out.T)) (o : Oper) (st : XSt) (caps vs : List XV) (K : Out → Option R) : Option R :=
  cond (nmOnly caps) (cCore P fn S F o st (fun ms => (calleeOp o, .clo id caps) :: (callArgs o).zip ms) (vs ++ caps) K) none

theorem isNilL_eq {α : Type} {l : List α} (h : isNilL l = true) : l = [] := by cases l <;> simp [isNilL] at h; rfl

theorem cOut_ok {P : Program} {R : Type} {id : FuncId} {fn : Func} {S : CSp} {f fl : Nat → Nat} {nw : List Nat} {st : XSt} {rd : List (Operand × XV)} {xs : List XV} {inO : List (Nat × XOb)} {K : Out → Option R} {y : S.out.T} {r : R} {o : Oper}
    (hg : GoodC P id fn S y xs inO) (hin : ∀ p ∈ inO, InR f fl S.out.keepO st.objs p) (hsee : ∀ p ∈ imRd rd, Sees st.im p.1 p.2)
    (H : ∀ (rs : List XV) (F : List Nat) (Y : Store), Does P id (asOf xs) ⟨imObjs inO, S.labs⟩ (tupX rs).a (gen (S.s0 xs inO) S.out y).X → nmsL S.names S.labs xs = true → inO.map (·.1) = S.names → (tupX rs).nms ((gen (S.s0 xs inO) S.out y).objs.map (·.1)) (gen (S.s0 xs inO) S.out y).live = true → LabCall Y ⟨imObjs inO, S.labs⟩ (gen (S.s0 xs inO) S.out y).X f fl F →
      OpT P o (imRd rd) Y ⟨putObjsL f fl (gen (S.s0 xs inO) S.out y).X.objs Y.objs, liveAfter fl Y ⟨imObjs inO, S.labs⟩ (gen (S.s0 xs inO) S.out y).X⟩ F ((tupX rs).mp f fl).a)
    (h : cOut P fn S f fl nw st rd xs inO K y = some r) : ∃ out, K out = some r ∧ OpOk P o st out := by
  unfold cOut at h
  split at h
  · rename_i rs hrs
    generalize hchk : cChk S f fl (nw ++ (gen (S.s0 xs inO) S.out y).live.map fl) st xs inO (gen (S.s0 xs inO) S.out y).objs (gen (S.s0 xs inO) S.out y).live (tupX rs) = b at h
    cases b with
    | false => cases h
    | true =>
      have hc := cChk_spec hchk
      simp only [cond_true] at h
      obtain ⟨hnm, hdoes⟩ := hg
      have hd := hdoes rs hrs
      have core : ∀ X : Store, (∀ p ∈ inO, ∃ o, X.objs.lookup (f p.1) = some o ∧ ObLe o (p.2.mp f fl).o ∧ (inl p.1 S.out.keepO = true → o = (p.2.mp f fl).o)) →
          (∀ p ∈ (gen (S.s0 xs inO) S.out y).objs, p.1 ∈ S.names ∨ (f p.1 ∈ (nw ++ (gen (S.s0 xs inO) S.out y).live.map fl) ∧ X.objs.lookup (f p.1) = none)) →
          objsFree (nw ++ (gen (S.s0 xs inO) S.out y).live.map fl) ⟨putObjsL f fl (imObjs inO) X.objs, X.live⟩ = true → (∀ x ∈ S.labs.map fl, x ∈ X.live) → (∀ n ∈ (gen (S.s0 xs inO) S.out y).live, fl n ∈ X.live → fl n ∈ S.labs.map fl) →
          OpT P o (imRd rd) X ⟨putObjsL f fl (imObjs (outW S.out y)) X.objs, liveAfter fl X ⟨imObjs inO, S.labs⟩ (gen (S.s0 xs inO) S.out y).X⟩ (nw ++ (gen (S.s0 xs inO) S.out y).live.map fl) ((tupX rs).mp f fl).a := by
        intro X h1 h2 h3 h4 h5
        exact call_core hc hnm h1 h2 h3 h4 h5 (fun Y hY => H rs _ Y hd hc.xsn hnm hc.resn hY)
      cases hlook : (cond (isNilL (outW S.out y)) (cond (isNilL (nw ++ (gen (S.s0 xs inO) S.out y).live.map fl)) (isNilL S.labs) false) false) with
      | true =>
        rw [hlook] at h
        simp only [cond_true] at h
        have hl : outW S.out y = [] ∧ nw ++ (gen (S.s0 xs inO) S.out y).live.map fl = [] ∧ S.labs = [] := by
          cases e1 : isNilL (outW S.out y) with
          | false => simp [e1] at hlook
          | true =>
            cases e2 : isNilL (nw ++ (gen (S.s0 xs inO) S.out y).live.map fl) with
            | false => simp [e1, e2] at hlook
            | true => simp only [e1, e2, cond_true] at hlook; exact ⟨isNilL_eq e1, isNilL_eq e2, isNilL_eq hlook⟩
        obtain ⟨w1, w2, w3⟩ := hl
        refine ⟨_, h, ⟨hsee, ⟨rfl, rfl, rfl, fun X hX => ?_⟩, fun _ _ _ h => h⟩⟩
        have hlv : (gen (S.s0 xs inO) S.out y).live = [] := by
          have := (List.append_eq_nil_iff.1 w2).2
          simpa using this
        have hlk : ∀ p ∈ inO, X.objs.lookup (f p.1) = st.X.objs.lookup (f p.1) := fun p hp => hX _ (List.mem_map.2 ⟨p.1, by rw [← hnm]; exact List.mem_map_of_mem (f := fun p : Nat × XOb => p.1) hp, rfl⟩)
        have c1 := core X (fun p hp => by
            obtain ⟨o, h1, h2, h3⟩ := hin p hp
            exact ⟨o.o, by rw [hlk p hp]; exact lk_imA h1, h2, h3⟩) (fun p hp => by
            rcases hc.new p hp with h | ⟨h, _⟩
            · exact .inl h
            · rw [w2] at h; cases h) (by rw [w2]; rfl) (by rw [w3]; simp) (by rw [hlv]; simp)
        rw [w2, w1] at c1
        have e : liveAfter fl X ⟨imObjs inO, S.labs⟩ (gen (S.s0 xs inO) S.out y).X = X.live := by
          unfold liveAfter
          show (gen (S.s0 xs inO) S.out y).live.map fl ++ _ = _
          rw [hlv, w3]
          simp
        rw [e] at c1
        exact c1
      | false =>
        rw [hlook] at h
        simp only [cond_false] at h
        refine ⟨_, h, ⟨hsee, ?_, fun j x hj hx => ?_⟩⟩
        · have c1 := core st.X (fun p hp => by
              obtain ⟨o, h1, h2, h3⟩ := hin p hp
              exact ⟨o.o, lk_imA h1, h2, h3⟩) (fun p hp => by
              rcases hc.new p hp with h | ⟨h, h'⟩
              · exact .inl h
              · refine .inr ⟨h, ?_⟩
                show (imObjs st.objs).lookup _ = none
                rw [im_objs, h']; rfl) (by
              have := objsFreeX_ok (live := st.live) hc.free
              rw [putXs_im] at this
              exact this) hc.l1 hc.l5
          have e1 : imObjs (putXs f fl (outW S.out y) st.objs) = putObjsL f fl (imObjs (outW S.out y)) st.X.objs := putXs_im _ _ _ _
          show OpT P o (imRd rd) st.X ⟨imObjs (putXs f fl (outW S.out y) st.objs), _⟩ _ _
          rw [e1]
          exact c1
        · rw [putXs_other] at hx
          · exact hx
          · intro p hp e
            exact hj (List.mem_map.2 ⟨p, hp, e⟩)
  · cases h

theorem zip_take {α β : Type} : ∀ (a : List α) (b c : List β), a.length = b.length → a.zip (b ++ c) = a.zip b
  | [], b, c, h => by simp
  | x :: a, [], c, h => by simp at h
  | x :: a, y :: b, c, h => by simp only [List.cons_append, List.zip_cons_cons]; rw [zip_take a b c (by simpa using h)]

theorem cRun_ok {P : Program} {R : Type} {id : FuncId} {fn : Func} {S : CSp} {F : S.Fun (Option S.out.T)} (hc : CallI P id) (hs : SndC P id fn S F) {o : Oper} {st : XSt} {aops : Array Operand} {ts : Array TypeId} {vs : List XV} {K : Out → Option R} {r : R}
    (ho : o.op = .call { callee := .value (.func id), args := aops, argTypes := ts }) (hv : xevals st aops.toList = some vs) (h : cRun P fn S F o st vs K = some r) : ∃ out, K out = some r ∧ OpOk P o st out := by
  have e : callArgs o = aops.toList := by simp [callArgs, ho]
  unfold cRun cCore at h
  rw [e, forceP_eq, forceP_eq] at h
  generalize (cFind S o st vs).1 = σ at h
  generalize (cFind S o st vs).2 = τ at h
  obtain ⟨F', xs, q1, a1, h⟩ := appAs_ok (fl := nf τ) S.args F vs [] [] hs .nil h
  obtain ⟨F'', os, q2, a2, h⟩ := appOs_ok S.objs F' [] q1 (by simp) h
  obtain ⟨F3, os', q3, a3, h⟩ := appRs_ok (fl := nf τ) (ko := S.out.keepO) S.arrs F'' os q2 a2 h
  obtain ⟨y, hy, h⟩ := Option.bind_eq_some_iff.1 h
  rw [List.nil_append] at a1
  refine cOut_ok (q3 y hy) a3 (a1.sees hv) ?_ h
  intro rs Fr Y hd hx hnm hr hlab
  have := op_call_f_lab (X := Y) (nf σ) (nf τ) Fr ho hc hd hlab (by
      have h1 := a1.length
      have h2 := xevals_len hv
      rw [asOf_length, ← h1, h2]; simp) (by
      simp only [imObjs_names, hnm]
      exact nmsL_a hx) (by
      have e : (gen (S.s0 xs os') S.out y).X.objs.map (·.1) = (gen (S.s0 xs os') S.out y).objs.map (·.1) := imObjs_names _
      rw [e]
      exact XV.nms_a hr)
  rw [← mpL_a, ← imRd_zip, ← XV.mp_a] at this
  exact this

theorem cRunC_ok {P : Program} {R : Type} {id : FuncId} {fn : Func} {S : CSp} {F : S.Fun (Option S.out.T)} (hc : CallI P id) (hs : SndC P id fn S F) {o : Oper} {st : XSt} {t : Tmp} {aops : Array Operand} {ts : Array TypeId} {caps vs : List XV} {K : Out → Option R} {r : R}
    (ho : o.op = .call { callee := .value (.tmp t), args := aops, argTypes := ts }) (hclo : xeval st (.tmp t) = some (.clo id caps)) (hv : xevals st aops.toList = some vs) (h : cRunC P id fn S F o st caps vs K = some r) : ∃ out, K out = some r ∧ OpOk P o st out := by
  have e : callArgs o = aops.toList := by simp [callArgs, ho]
  have e2 : calleeOp o = .tmp t := by simp [calleeOp, ho]
  unfold cRunC cCore at h
  cases hnmo : nmOnly caps with
  | false => simp [hnmo] at h
  | true =>
  simp only [hnmo, cond_true] at h
  rw [e, e2, forceP_eq, forceP_eq] at h
  generalize (cFind S o st (vs ++ caps)).1 = σ at h
  generalize (cFind S o st (vs ++ caps)).2 = τ at h
  obtain ⟨F', xs, q1, a1, h⟩ := appAs_ok (fl := nf τ) S.args F (vs ++ caps) [] [] hs .nil h
  obtain ⟨F'', os, q2, a2, h⟩ := appOs_ok S.objs F' [] q1 (by simp) h
  obtain ⟨F3, os', q3, a3, h⟩ := appRs_ok (fl := nf τ) (ko := S.out.keepO) S.arrs F'' os q2 a2 h
  obtain ⟨y, hy, h⟩ := Option.bind_eq_some_iff.1 h
  rw [List.nil_append] at a1
  obtain ⟨xa, xc, rfl, a4, a5⟩ := a1.split
  have hcaps := a5.caps hnmo
  have hlen : aops.toList.length = (mpL (nf σ) (nf τ) xa).length := by
    rw [mpL_map, List.length_map, ← a4.length, xevals_len hv]
  rw [mpL_append, zip_take _ _ _ hlen] at h
  refine cOut_ok (q3 y hy) a3 ?_ ?_ h
  · intro p hp
    simp only [imRd, List.map_cons, List.mem_cons] at hp
    rcases hp with rfl | hp
    · exact xeval_sees (x := .tmp t) hclo
    · exact a4.sees hv p hp
  · intro rs Fr Y hd hx hnm hr hlab
    rw [asOf_append] at hd
    have := op_call_clo_lab (X := Y) (nf σ) (nf τ) Fr ho hc hd hlab (by
        have h1 := a4.length
        have h2 := xevals_len hv
        rw [asOf_length, ← h1, h2]; simp) (by
        simp only [imObjs_names, hnm]
        have := nmsL_a hx
        rw [asOf_append] at this
        exact this) (by
        have e : (gen (S.s0 (xa ++ xc) os') S.out y).X.objs.map (·.1) = (gen (S.s0 (xa ++ xc) os') S.out y).objs.map (·.1) := imObjs_names _
        rw [e]
        exact XV.nms_a hr)
    rw [← mpL_a, ← mpL_a, ← hcaps, ← imRd_zip, ← XV.mp_a] at this
    exact this

/-- the entry, of a function that is sound -/
def mkCS {P : Program} (id : FuncId) (fn : Func) (S : CSp) (F : S.Fun (Option S.out.T)) (hc : CallI P id) (hs : SndC P id fn S F) : Ent P where
  id := id
  run := cRun P fn S F
  ok := by
    intro R o st aops ts vs K r ho hv h
    exact cRun_ok hc hs ho hv h
  crun := cRunC P id fn S F
  cok := by
    intro R o st t caps aops ts vs K r ho hclo hv h
    exact cRunC_ok hc hs ho hclo hv h

/-- the entry -/
def mkC {P : Program} {Γ : List (Ent P)} {own : List Nat} {N : Nat} (id : FuncId) (fn : Func) (an : An) (S : CSp) (F : S.Fun (Option S.out.T)) (hm : P.follows .mixedOrders = true) (hf : P.funcs[id]? = some fn)
    (hc : CallI P id) (hn : Nat.ble S.args.length fn.ntmps = true) (hsm : smallL S.names = true) (hks : noKeepS S = true) (hE : runC P Γ own N fn an S = F) : Ent P :=
  mkCS id fn S F hc (hE ▸ runC_sound hm hf hn hsm hks)

end Go.Xl
/-
  Functions of the library without a body.
-/
set_option linter.unusedVariables false
set_option linter.unusedSimpArgs false
namespace Go.Xl
open Go.Ab

/-- internal/abi.NoEscape: the pointer as it is -/
def isNoEsc (P : Program) (f : FuncId) : Prop := ∃ fn, P.funcs[f]? = some fn ∧ (fn.name == "runtime.NumGoroutine") = false ∧ fn.body = none ∧ Extern.findNext fn = none ∧ Extern.find fn = some Extern.AbiNoEscape.same

def noEscRun {R : Type} (o : Oper) (st : XSt) (vs : List XV) (K : Out → Option R) : Option R :=
  match o.op with
  | .call c => match c.args.toList, vs with
    | [x], [v] => K (quietO st v [(x, v)])
    | _, _ => none
  | _ => none

def mkNoEsc {P : Program} (f : FuncId) (h : isNoEsc P f) : Ent P where
  id := f
  run := noEscRun
  ok := by
    intro R o st args ts vs K r ho hv hr
    unfold noEscRun at hr
    rw [ho] at hr
    simp only at hr
    split at hr
    · rename_i x v hx
      have ha : args = #[x] := Array.toList_inj.1 hx
      subst ha
      refine ⟨_, hr, quietO_ok ?_ fun X => op_noEscape' ho h⟩
      simp only [xevals] at hv
      split at hv
      · rename_i y ys hy hys
        simp only [Option.some.injEq, List.cons.injEq] at hv
        obtain ⟨rfl, _⟩ := hv
        exact sees1v hy
      · cases hv
    · cases hr

/-- a function without a body, by what stands in for it -/
def isExt (P : Program) (f : FuncId) (e : Array Value → Sem Value) : Prop := ∃ fn, P.funcs[f]? = some fn ∧ (fn.name == "runtime.NumGoroutine") = false ∧ fn.body = none ∧ Extern.findNext fn = none ∧ Extern.find fn = some e

def extRun (G : List XV → Option XV) {R : Type} (o : Oper) (st : XSt) (vs : List XV) (K : Out → Option R) : Option R :=
  match o.op with
  | .call c => match G vs with
    | some res => K (quietO st res (c.args.toList.zip vs))
    | none => none
  | _ => none

/-- the stand-in, on what the arguments stand for -/
def ExtOk (P : Program) (e : Array Value → Sem Value) (G : List XV → Option XV) : Prop :=
  ∀ vs res, G vs = some res → ∀ (g : Gh) (w : World) (us : Array Value), vs.length = us.size → (∀ (i : Nat) x v, (asOf vs)[i]? = some x → us[i]? = some v → RA g w x v) → ∃ v, (e us).run P w = .ok v w ∧ RA g w res.a v

def mkExt {P : Program} (f : FuncId) (e : Array Value → Sem Value) (G : List XV → Option XV) (h : isExt P f e) (hG : ExtOk P e G) : Ent P where
  id := f
  run := extRun G
  ok := by
    intro R o st args ts vs K r ho hv hr
    unfold extRun at hr
    rw [ho] at hr
    simp only at hr
    split at hr
    · rename_i res hres
      refine ⟨_, hr, quietO_ok (xevals_sees hv) fun X => .quiet fun _ _ g w a _ hrd => ?_⟩
      obtain ⟨fn, h1, h2, h3, h4, h5⟩ := h
      have hl : vs.length = args.size := by rw [xevals_len hv]; simp
      obtain ⟨v, hv1, hv2⟩ := hG vs res hres g w (args.map a.eval) (by simp [hl]) (by
        rw [imRd_zip] at hrd
        exact fun i x u hx hu => rds_args hrd i x u hx hu)
      refine ⟨v, ?_, hv2⟩
      simp only [execOp, ho, resolve]
      simp [Deferred.ofValue, Act.eval, invoke, run_callFunc_standIn h1 h2 (by rw [h3]; rfl) h4 h5, hv1, Result.andThen]
    · cases hr

/-- internal/bytealg.IndexByteString -/
def idxByteG : List XV → Option XV
  | [.d (.s l), .d (.u8 c)] => some (.d (.i .i64 (Lib.indexByte l c)))
  | _ => none

theorem idxByte_ok (P : Program) : ExtOk P Extern.BytealgIndexByte.indexByte idxByteG := by
  intro vs res hG g w us hl hus
  unfold idxByteG at hG
  split at hG
  · rename_i l c
    cases hG
    have hs : us = #[us[0]'(by simp at hl; omega), us[1]'(by simp at hl; omega)] := by
      apply Array.ext
      · simpa using hl.symm
      · intro i h1 h2
        simp at h2
        match i, h2 with
        | 0, _ => rfl
        | 1, _ => rfl
    have h0 := (hus 0 _ _ rfl (Array.getElem?_eq_getElem (by simp at hl; omega))).sc_inv
    have h1 := (hus 1 _ _ rfl (Array.getElem?_eq_getElem (by simp at hl; omega))).sc_inv
    rw [h0, h1] at hs
    rw [hs]
    refine ⟨_, run_indexByte_string _ _ w, ?_⟩
    have e1 : ((c.toNat : Nat) : Int).toNat.toUInt8 = c := by simp
    rw [e1, Lib.firstIdx_eq]
    exact .ofSc _ _ _
  · cases hG

def mkIdxByte {P : Program} (f : FuncId) (h : isExt P f Extern.BytealgIndexByte.indexByte) : Ent P := mkExt f _ idxByteG h (idxByte_ok P)

end Go.Xl
set_option linter.unusedVariables false
set_option maxRecDepth 100000
namespace Go.Proofs.Xr
open Go Go.Xl Go.Ab Go.Proofs
theorem mixed : Tryd.prog.follows .mixedOrders = true := by kernel_rfl
@[reducible] def tDot : Ty := (.pair (.int .u16) (.int .u64))
/-- cmp.isNaN[uint16] -/
noncomputable def F_cmp_isNaN_uint16 (N : Nat) : Fun [(.int .u16)] (Option (ResT [.bool])) :=
  fun (x : Int) => some (x != x)
theorem E_cmp_isNaN_uint16 (N : Nat) : runF Tryd.prog [] [] N Tryd.f109 .lf [(.int .u16)] [.bool] = F_cmp_isNaN_uint16 N := by kernel_rfl
noncomputable def e_cmp_isNaN_uint16 (N : Nat) : Ent Tryd.prog := mkFn 109 Tryd.f109 .lf [(.int .u16)] [.bool] (F_cmp_isNaN_uint16 N) mixed Tryd.func109 (.mk' Tryd.func109 rfl (by decide)) rfl (E_cmp_isNaN_uint16 N)
/-- cmp.Compare[uint16] -/
noncomputable def F_cmp_Compare_uint16 (N : Nat) : Fun [(.int .u16), (.int .u16)] (Option (ResT [(.int .i64)])) :=
  fun (x x_1 : Int) =>
  Option.bind (F_cmp_isNaN_uint16 N x) fun (y : Bool) =>
    Option.bind (F_cmp_isNaN_uint16 N x_1) fun (y_1 : Bool) =>
      bif y then bif y_1 then some 0 else some (-1)
      else
        bif y_1 then some 1 else bif decide (x < x_1) then some (-1) else bif decide (x_1 < x) then some 1 else some 0
theorem E_cmp_Compare_uint16 (N : Nat) : runF Tryd.prog [e_cmp_isNaN_uint16 N] [] N Tryd.f79 .lf [(.int .u16), (.int .u16)] [(.int .i64)] = F_cmp_Compare_uint16 N := by kernel_rfl
noncomputable def e_cmp_Compare_uint16 (N : Nat) : Ent Tryd.prog := mkFn 79 Tryd.f79 .lf [(.int .u16), (.int .u16)] [(.int .i64)] (F_cmp_Compare_uint16 N) mixed Tryd.func79 (.mk' Tryd.func79 rfl (by decide)) rfl (E_cmp_Compare_uint16 N)
/-- cmp.isNaN[uint64] -/
noncomputable def F_cmp_isNaN_uint64 (N : Nat) : Fun [(.int .u64)] (Option (ResT [.bool])) :=
  fun (x : Int) => some (x != x)
theorem E_cmp_isNaN_uint64 (N : Nat) : runF Tryd.prog [] [] N Tryd.f110 .lf [(.int .u64)] [.bool] = F_cmp_isNaN_uint64 N := by kernel_rfl
noncomputable def e_cmp_isNaN_uint64 (N : Nat) : Ent Tryd.prog := mkFn 110 Tryd.f110 .lf [(.int .u64)] [.bool] (F_cmp_isNaN_uint64 N) mixed Tryd.func110 (.mk' Tryd.func110 rfl (by decide)) rfl (E_cmp_isNaN_uint64 N)
/-- cmp.Compare[uint64] -/
noncomputable def F_cmp_Compare_uint64 (N : Nat) : Fun [(.int .u64), (.int .u64)] (Option (ResT [(.int .i64)])) :=
  fun (x x_1 : Int) =>
  Option.bind (F_cmp_isNaN_uint64 N x) fun (y : Bool) =>
    Option.bind (F_cmp_isNaN_uint64 N x_1) fun (y_1 : Bool) =>
      bif y then bif y_1 then some 0 else some (-1)
      else
        bif y_1 then some 1 else bif decide (x < x_1) then some (-1) else bif decide (x_1 < x) then some 1 else some 0
theorem E_cmp_Compare_uint64 (N : Nat) : runF Tryd.prog [e_cmp_isNaN_uint64 N] [] N Tryd.f80 .lf [(.int .u64), (.int .u64)] [(.int .i64)] = F_cmp_Compare_uint64 N := by kernel_rfl
noncomputable def e_cmp_Compare_uint64 (N : Nat) : Ent Tryd.prog := mkFn 80 Tryd.f80 .lf [(.int .u64), (.int .u64)] [(.int .i64)] (F_cmp_Compare_uint64 N) mixed Tryd.func80 (.mk' Tryd.func80 rfl (by decide)) rfl (E_cmp_Compare_uint64 N)
/-- epitaph/dot.Cmp -/
noncomputable def F_dot_Cmp (N : Nat) : Fun [tDot, tDot] (Option (ResT [(.int .i64)])) :=
  fun (x x_1 : Int × Int) =>
  Option.bind (F_cmp_Compare_uint16 N x.fst x_1.fst) fun (y : Int) =>
    bif y != 0 then some y else Option.bind (F_cmp_Compare_uint64 N x.snd x_1.snd) fun (y : Int) => some y
theorem E_dot_Cmp (N : Nat) : runF Tryd.prog [e_cmp_Compare_uint16 N, e_cmp_Compare_uint64 N] [] N Tryd.f39 .lf [tDot, tDot] [(.int .i64)] = F_dot_Cmp N := by kernel_rfl
noncomputable def e_dot_Cmp (N : Nat) : Ent Tryd.prog := mkFn 39 Tryd.f39 .lf [tDot, tDot] [(.int .i64)] (F_dot_Cmp N) mixed Tryd.func39 (.mk' Tryd.func39 rfl (by decide)) rfl (E_dot_Cmp N)
noncomputable def F0_slices_Compact_sDot_Dot (N : Nat) : FunA [] (Option (ResT (rkTys tDot [.s]))) :=
  some []
theorem E0_slices_Compact_sDot_Dot (N : Nat) : runO0 Tryd.prog [] [] N Tryd.f108 (.seq .lf (.seq .lf (.seq (.seq .lf (.blk (.loop ⟨[(3, .d (.int .i64))], [], [0], [], [], []⟩ (.seq .lf (.seq (.blk (.seq .lf (.cond (.seq .lf (.seq (.seq .lf (.blk (.loop ⟨[(3, .d (.int .i64)), (5, .d (.int .i64))], [], [0, 4], [], [], []⟩ .lf))) .lf)) .lf))) .lf))))) .lf))) tDot [] [.s] = F0_slices_Compact_sDot_Dot N := by kernel_rfl
/-- slices.Compact[[]epitaph/api.Dot,epitaph/api.Dot] -/
noncomputable def F_slices_Compact_sDot_Dot (N : Nat) : List (tDot : Ty).T → Nat → FunA [] (Option (List (tDot : Ty).T × ResO [.s])) :=
  fun (l : List (Int × Int)) (n : Nat) =>
  bif decide ((↑n : Int) < 2) then some (l, n)
  else
    iter
      (fun (rec : (Int × Unit) × Unit × Unit × List (Int × Int) × Unit → Option (List (Int × Int) × Nat))
          (z : (Int × Unit) × Unit × Unit × List (Int × Int) × Unit) =>
        bif decide (z.fst.fst < (↑n : Int)) then
          bif decide (0 ≤ z.fst.fst) && decide (z.fst.fst < (↑n : Int)) then
            z.snd.snd.snd.fst[0 + z.fst.fst.toNat]?.bind fun (e : Int × Int) =>
              bif
                  decide (0 ≤ IntKind.i64.wrap (z.fst.fst - 1)) &&
                    decide (IntKind.i64.wrap (z.fst.fst - 1) < (↑n : Int)) then
                z.snd.snd.snd.fst[0 + (IntKind.i64.wrap (z.fst.fst - 1)).toNat]?.bind fun (e_1 : Int × Int) =>
                  bif e.fst == e_1.fst && e.snd == e_1.snd then
                    bif cutOk z.fst.fst (↑n : Int) n then
                      iter
                        (fun
                            (rec :
                              (Int × Int × Unit) × Unit × Unit × List (Int × Int) × Unit →
                                Option (List (Int × Int) × Nat))
                            (z_1 : (Int × Int × Unit) × Unit × Unit × List (Int × Int) × Unit) =>
                          bif decide (z_1.fst.snd.fst < (↑((↑n : Int).toNat - z.fst.fst.toNat) : Int)) then
                            bif
                                decide (0 ≤ z_1.fst.snd.fst) &&
                                  decide (z_1.fst.snd.fst < (↑((↑n : Int).toNat - z.fst.fst.toNat) : Int)) then
                              z_1.snd.snd.snd.fst[0 + z.fst.fst.toNat + z_1.fst.snd.fst.toNat]?.bind
                                fun (e : Int × Int) =>
                                bif
                                    decide (0 ≤ IntKind.i64.wrap (z_1.fst.snd.fst - 1)) &&
                                      decide
                                        (IntKind.i64.wrap (z_1.fst.snd.fst - 1) <
                                          (↑((↑n : Int).toNat - z.fst.fst.toNat) : Int)) then
                                  z_1.snd.snd.snd.fst[0 + z.fst.fst.toNat +
                                          (IntKind.i64.wrap (z_1.fst.snd.fst - 1)).toNat]?.bind
                                    fun (e_2 : Int × Int) =>
                                    bif !(e.fst == e_2.fst && e.snd == e_2.snd) then
                                      bif
                                          decide (0 ≤ z_1.fst.snd.fst) &&
                                            decide
                                              (z_1.fst.snd.fst < (↑((↑n : Int).toNat - z.fst.fst.toNat) : Int)) then
                                        z_1.snd.snd.snd.fst[0 + z.fst.fst.toNat + z_1.fst.snd.fst.toNat]?.bind
                                          fun (e : Int × Int) =>
                                          bif decide (0 ≤ z_1.fst.fst) && decide (z_1.fst.fst < (↑n : Int)) then
                                            z_1.snd.snd.snd.fst[0 + z_1.fst.fst.toNat]?.bind fun (e_3 : Int × Int) =>
                                              rec
                                                ((IntKind.i64.wrap (z_1.fst.fst + 1),
                                                    IntKind.i64.wrap (z_1.fst.snd.fst + 1), ()),
                                                  (), (), z_1.snd.snd.snd.fst.set (0 + z_1.fst.fst.toNat) e, ())
                                          else none
                                      else none
                                    else
                                      rec
                                        ((z_1.fst.fst, IntKind.i64.wrap (z_1.fst.snd.fst + 1), ()), (), (),
                                          z_1.snd.snd.snd.fst, ())
                                else none
                            else none
                          else
                            bif cutOk z_1.fst.fst (↑n : Int) n then
                              bif cutOk 0 z_1.fst.fst n then
                                some (List.take (0 + z_1.fst.fst.toNat) z_1.snd.snd.snd.fst, z_1.fst.fst.toNat - 0)
                              else none
                            else none)
                        N ((z.fst.fst, 1, ()), (), (), z.snd.snd.snd.fst, ())
                    else none
                  else rec ((IntKind.i64.wrap (z.fst.fst + 1), ()), (), (), z.snd.snd.snd.fst, ())
              else none
          else none
        else some (z.snd.snd.snd.fst, n))
      N ((1, ()), (), (), l, ())
theorem E_slices_Compact_sDot_Dot (N : Nat) : runO Tryd.prog [] [] N Tryd.f108 (.seq .lf (.seq .lf (.seq (.seq .lf (.blk (.loop ⟨[(3, .d (.int .i64))], [], [0], [], [], [(1, .arr tDot)]⟩ (.seq .lf (.seq (.blk (.seq .lf (.cond (.seq .lf (.seq (.seq .lf (.blk (.loop ⟨[(3, .d (.int .i64)), (5, .d (.int .i64))], [], [0, 4], [], [], [(1, .arr tDot)]⟩ .lf))) .lf)) .lf))) .lf))))) .lf))) tDot [] [.s] = F_slices_Compact_sDot_Dot N := by kernel_rfl
noncomputable def e_slices_Compact_sDot_Dot (N : Nat) : Ent Tryd.prog := mkO2 108 Tryd.f108 (.seq .lf (.seq .lf (.seq (.seq .lf (.blk (.loop ⟨[(3, .d (.int .i64))], [], [0], [], [], [(1, .arr tDot)]⟩ (.seq .lf (.seq (.blk (.seq .lf (.cond (.seq .lf (.seq (.seq .lf (.blk (.loop ⟨[(3, .d (.int .i64)), (5, .d (.int .i64))], [], [0, 4], [], [], [(1, .arr tDot)]⟩ .lf))) .lf)) .lf))) .lf))))) .lf))) (.seq .lf (.seq .lf (.seq (.seq .lf (.blk (.loop ⟨[(3, .d (.int .i64))], [], [0], [], [], []⟩ (.seq .lf (.seq (.blk (.seq .lf (.cond (.seq .lf (.seq (.seq .lf (.blk (.loop ⟨[(3, .d (.int .i64)), (5, .d (.int .i64))], [], [0, 4], [], [], []⟩ .lf))) .lf)) .lf))) .lf))))) .lf))) tDot [] [.s] (F_slices_Compact_sDot_Dot N) (F0_slices_Compact_sDot_Dot N) mixed Tryd.func108 (.mk' Tryd.func108 rfl (by decide)) rfl (E_slices_Compact_sDot_Dot N) (E0_slices_Compact_sDot_Dot N)
end Go.Proofs.Xr
/-
  slices.SortFunc, by the library's contract.
-/
set_option linter.unusedVariables false
set_option linter.unusedSimpArgs false
namespace Go.Xl
open Go.Ab Go.Sort Go.Proofs Go.Shelf Go.RowKit Go.Lib

theorem Ty.Plain.one {t : Ty} (h : t.Plain) (x : t.T) : ∀ v ∈ t.vals x, v.oneCell' = true := by
  intro v hv
  have h1 : D.sc v ∈ t.ds x := by rw [← h.vals x]; exact List.mem_map_of_mem (f := D.sc) hv
  have := t.ds_one x _ h1
  simpa [oneD] using this

theorem Ty.Plain.ra {t : Ty} (h : t.Plain) (ha : t.agg = true) (x : t.T) (g : Gh) (w : World) : RA g w (XV.d (t.xv x)).a (.agg (t.vals x).toArray) := by
  have e : (XV.d (t.xv x)).a = .d (.agg ((t.vals x).map .sc)) := by
    show AV.d (t.dv x) = _
    rw [t.dv_agg x ha, h.vals]
  rw [e]
  refine .d _ _ (.agg _ _ (by simp) ?_)
  intro i c v hc hv
  rw [List.getElem?_map, Option.map_eq_some_iff] at hc
  obtain ⟨u, hu, rfl⟩ := hc
  simp only [List.getElem?_toArray] at hv
  rw [hu] at hv
  cases hv
  exact .sc _

/-- at structs -/
theorem sorts_structs {P : Program} {ρ : Ren} (L : SlLaysF0.n6 P ρ) {f c : FuncId} (hf : ρ.f 6 = f) {T : Ty} (hp : T.Plain) (hagg : T.agg = true) (aE : ∀ w, (isAgg (ρ.t 24)).run P w = .ok true w) (zE : ∀ w, (Go.sizeOf (ρ.t 24)).run P w = .ok T.size w)
    (hci : CallI P f) (cf : T.T → T.T → Int) (hO : SWO (ltOf cf)) (hT : ∀ x y, (ltOf cf) x y = false → (ltOf cf) y x = false → x = y) (hcc : CallI P c)
    (hcmp : ∀ x y, Does P c (asOf [.d (T.xv x), .d (T.xv y)]) X0 (.d (.sc (.int .i64 (cf x y)))) X0) : Sorts P f c T (fun d => d.mergeSort fun x y => !(ltOf cf) y x) where
  plain := hp
  ci := hci
  len d := by simp
  none p cap w := by
    have := AnyF.slices_SortFunc_none L p cap (.func (.func c) #[] #[]) w
    rw [hf] at this; exact this
  some l blk cap w hl hH hblk := by
    have hlays : CmpLays P c #[] T.vals T.size cf blk 0 l.toArray.size w := by
      intro m os dk hs x y
      have := (hcmp x y).grown (w := sortWorldK T.vals T.size w blk 0 m dk os) (vs := #[.agg (T.vals x).toArray, .agg (T.vals y).toArray]) rfl (by
        intro i z v hz hv
        match i with
        | 0 => simp [asOf] at hz hv; subst hz; subst hv; exact hp.ra hagg x _ _
        | 1 => simp [asOf] at hz hv; subst hz; subst hv; exact hp.ra hagg y _ _
        | n + 2 => simp [asOf] at hz)
      simpa using this
    have := AnyQ.slices_SortFunc_total L T.size aE zE T.vals T.vals_length hp.one cf hO c #[] blk 0 cap l.toArray w (run_callFunc hcc) hlays hH hblk (by simp; omega) hT
    rw [hf] at this
    simpa using this

end Go.Xl
/- slices.SortFunc at dots (seat of rows 20-28): the shelf's contract, laid (written by the kit's lay-plain) -/
set_option maxRecDepth 100000
namespace Go.Proofs
open Go.Shelf
def Tryd.sortDot_ren : Go.Shelf.Ren := ⟨fun | 6 => 107 | 15 => 132 | 14 => 131 | 28 => 157 | 29 => 141 | 20 => 149 | 21 => 150 | 22 => 151 | 23 => 152 | 24 => 153 | 25 => 154 | 26 => 155 | 27 => 156 | 46 => 165 | 47 => 166 | 48 => 167 | 49 => 168 | 50 => 169 | 57 => 171 | n => n, fun | 22 => 112 | 24 => 60 | 25 => 67 | 3 => 3 | 39 => 132 | 0 => 0 | 53 => 42 | 55 => 33 | 4 => 4 | 46 => 170 | 45 => 169 | 50 => 174 | 5 => 5 | 9 => 9 | 66 => 185 | 70 => 189 | 76 => 193 | 77 => 194 | n => n, fun | n => n⟩
theorem Tryd.sortDot : Go.Proofs.SlLaysF0.n6 Tryd.prog Tryd.sortDot_ren := {
  mixed := by kernel_rfl
  f6 := ⟨Tryd.f107.name, by decide, Tryd.func107.trans (congrArg some (by kernel_rfl))⟩
  f14 := ⟨Tryd.f131.name, by decide, Tryd.func131.trans (congrArg some (by kernel_rfl))⟩
  f15 := Tryd.func132.trans (congrArg some (by kernel_rfl))
  f20 := ⟨Tryd.f149.name, by decide, Tryd.func149.trans (congrArg some (by kernel_rfl))⟩
  f21 := ⟨Tryd.f150.name, by decide, Tryd.func150.trans (congrArg some (by kernel_rfl))⟩
  f22 := ⟨Tryd.f151.name, by decide, Tryd.func151.trans (congrArg some (by kernel_rfl))⟩
  f23 := ⟨Tryd.f152.name, by decide, Tryd.func152.trans (congrArg some (by kernel_rfl))⟩
  f24 := ⟨Tryd.f153.name, by decide, Tryd.func153.trans (congrArg some (by kernel_rfl))⟩
  f25 := ⟨Tryd.f154.name, by decide, Tryd.func154.trans (congrArg some (by kernel_rfl))⟩
  f26 := ⟨Tryd.f155.name, by decide, Tryd.func155.trans (congrArg some (by kernel_rfl))⟩
  f27 := ⟨Tryd.f156.name, by decide, Tryd.func156.trans (congrArg some (by kernel_rfl))⟩
  f28 := Tryd.func157.trans (congrArg some (by kernel_rfl))
  f29 := Tryd.func141.trans (congrArg some (by kernel_rfl))
  f46 := ⟨Tryd.f165.name, by decide, Tryd.func165.trans (congrArg some (by kernel_rfl))⟩
  f47 := Tryd.func166.trans (congrArg some (by kernel_rfl))
  f48 := Tryd.func167.trans (congrArg some (by kernel_rfl))
  f49 := ⟨Tryd.f168.name, by decide, Tryd.func168.trans (congrArg some (by kernel_rfl))⟩
  f50 := ⟨Tryd.f169.name, by decide, Tryd.func169.trans (congrArg some (by kernel_rfl))⟩
  f57 := ⟨Tryd.f171.name, by decide, Tryd.func171.trans (congrArg some (by kernel_rfl))⟩
  t0 := Tryd.underlying0
  a0 := Tryd.isAgg0
  z0 := Tryd.sizeOf0
  v0 := Tryd.zeroValue0
  t3 := Tryd.underlying3
  a3 := Tryd.isAgg3
  z3 := Tryd.sizeOf3
  v3 := Tryd.zeroValue3
  t4 := Tryd.underlying4
  a4 := Tryd.isAgg4
  z4 := Tryd.sizeOf4
  v4 := Tryd.zeroValue4
  t5 := Tryd.underlying5
  a5 := Tryd.isAgg5
  z5 := Tryd.sizeOf5
  v5 := Tryd.zeroValue5
  t9 := Tryd.underlying9
  a9 := Tryd.isAgg9
  z9 := Tryd.sizeOf9
  v9 := Tryd.zeroValue9
  t22 := Tryd.underlying112
  a22 := Tryd.isAgg112
  z22 := Tryd.sizeOf112
  v22 := Tryd.zeroValue112
  t25 := Tryd.underlying67
  a25 := Tryd.isAgg67
  z25 := Tryd.sizeOf67
  v25 := Tryd.zeroValue67
  t39 := Tryd.underlying132
  a39 := Tryd.isAgg132
  z39 := Tryd.sizeOf132
  v39 := Tryd.zeroValue132
  t45 := Tryd.underlying169
  a45 := Tryd.isAgg169
  z45 := Tryd.sizeOf169
  v45 := Tryd.zeroValue169
  t46 := Tryd.underlying170
  a46 := Tryd.isAgg170
  z46 := Tryd.sizeOf170
  v46 := Tryd.zeroValue170
  t50 := Tryd.underlying174
  a50 := Tryd.isAgg174
  z50 := Tryd.sizeOf174
  v50 := Tryd.zeroValue174
  t53 := Tryd.underlying42
  a53 := Tryd.isAgg42
  z53 := Tryd.sizeOf42
  v53 := Tryd.zeroValue42
  t55 := Tryd.underlying33
  a55 := Tryd.isAgg33
  z55 := Tryd.sizeOf33
  v55 := Tryd.zeroValue33
  t66 := Tryd.underlying185
  a66 := Tryd.isAgg185
  z66 := Tryd.sizeOf185
  v66 := Tryd.zeroValue185
  t70 := Tryd.underlying189
  a70 := Tryd.isAgg189
  z70 := Tryd.sizeOf189
  v70 := Tryd.zeroValue189
  t76 := Tryd.underlying193
  a76 := Tryd.isAgg193
  z76 := Tryd.sizeOf193
  v76 := Tryd.zeroValue193
  t77 := Tryd.underlying194
  a77 := Tryd.isAgg194
  z77 := Tryd.sizeOf194
  v77 := Tryd.zeroValue194 }
end Go.Proofs
/-
  Plain laws on what the interpreter leaves: rounds, elements, sizes.
-/
set_option linter.unusedVariables false
set_option linter.unusedSimpArgs false
namespace Go.Xl

/-- rounds come to what G says, if each one does, given that the later ones do -/
theorem iter_eq {σ R : Type} {f : (σ → Option R) → σ → Option R} {G : σ → Option R} (I : Nat → σ → Prop)
    (step : ∀ (n : Nat) (x : σ) (rec : σ → Option R), I n x → (∀ (m : Nat) (y : σ), m < n → I m y → rec y = G y) → f rec x = G x) :
    ∀ (N n : Nat) (x : σ), I n x → n < N → iter f N x = G x
  | 0, n, x, _, h => absurd h (Nat.not_lt_zero _)
  | N + 1, n, x, hi, h => by
    simp only [iter]
    exact step n x _ hi fun m y hm hy => iter_eq I step N m y hy (by omega)

/-- rounds come to something good, if each one does, given that the later ones do -/
theorem iter_ok {σ R : Type} {f : (σ → Option R) → σ → Option R} {Q : R → Prop} (I : Nat → σ → Prop)
    (step : ∀ (n : Nat) (x : σ) (rec : σ → Option R), I n x → (∀ (m : Nat) (y : σ), m < n → I m y → ∃ r, rec y = some r ∧ Q r) → ∃ r, f rec x = some r ∧ Q r) :
    ∀ (N n : Nat) (x : σ), I n x → n < N → ∃ r, iter f N x = some r ∧ Q r
  | 0, n, x, _, h => absurd h (Nat.not_lt_zero _)
  | N + 1, n, x, hi, h => by
    simp only [iter]
    exact step n x _ hi fun m y hm hy => iter_ok I step N m y hy (by omega)

@[simp] theorem at?_nat {α : Type} (l : List α) (n : Nat) : at? l (n : Int) = l[n]? := rfl

theorem i64_nat {n : Nat} (h : n < 9223372036854775808) : IntKind.i64.wrap (n : Int) = (n : Int) := by
  exact IntWalk.i64_in _ (by omega)

theorem i64_succ {n : Nat} (h : n + 1 < 9223372036854775808) : IntKind.i64.wrap ((n : Int) + 1) = ((n + 1 : Nat) : Int) := by
  rw [IntWalk.i64_in _ (by omega)]; rfl

theorem i64_pred {n : Nat} (h : 0 < n) (h' : n < 9223372036854775808) : IntKind.i64.wrap ((n : Int) - 1) = ((n - 1 : Nat) : Int) := by
  rw [IntWalk.i64_in _ (by omega)]; omega

/-- a loop that counts -/
theorem scan_eq {R : Type} (len : Nat) (g : Nat → Option R) {f : ((Int × Unit) × Unit × Unit × Unit → Option R) → (Int × Unit) × Unit × Unit × Unit → Option R} (start : Nat)
    (hs : ∀ (rec : (Int × Unit) × Unit × Unit × Unit → Option R) (k : Nat), start ≤ k → k < len → rec ((((k + 1 : Nat) : Int), ()), (), (), ()) = g (k + 1) → f rec (((k : Int), ()), (), (), ()) = g k)
    (he : ∀ rec (k : Nat), len ≤ k → f rec (((k : Int), ()), (), (), ()) = g k) (N : Nat) (hN : len < N) : iter f N (((start : Int), ()), (), (), ()) = g start := by
  have := iter_eq (f := f) (G := fun z => g z.1.1.toNat) (fun n z => ∃ k : Nat, z = (((k : Int), ()), (), (), ()) ∧ start ≤ k ∧ n = len - k) (by
    rintro n z rec ⟨k, rfl, h1, h2⟩ ih
    by_cases hk : k < len
    · exact hs rec k h1 hk (ih (len - (k + 1)) _ (by omega) ⟨k + 1, rfl, by omega, rfl⟩)
    · exact he rec k (by omega)) N (len - start) (((start : Int), ()), (), (), ()) ⟨start, rfl, Nat.le_refl _, rfl⟩ (by omega)
  exact this

theorem some_of {R : Type} {x : Option R} {t : R} (h : ∃ r, x = some r ∧ r = t) : x = some t := by
  obtain ⟨r, h1, rfl⟩ := h
  exact h1

/-- a loop that gathers -/
theorem fold_loop {A X R : Type} (l : List X) (g : A → X → A) (a0 : A) (fin : A → Option R) {f : ((A × Int × Unit) × Unit × Unit × Unit → Option R) → (A × Int × Unit) × Unit × Unit × Unit → Option R}
    (hs : ∀ (rec : (A × Int × Unit) × Unit × Unit × Unit → Option R) (k : Nat) (a : A) (hk : k < l.length), a = (l.take k).foldl g a0 → f rec ((a, (k : Int), ()), (), (), ()) = rec ((g a l[k], ((k + 1 : Nat) : Int), ()), (), (), ()))
    (he : ∀ (rec : (A × Int × Unit) × Unit × Unit × Unit → Option R), f rec ((l.foldl g a0, (l.length : Int), ()), (), (), ()) = fin (l.foldl g a0)) (N : Nat) (hN : l.length < N) : iter f N ((a0, 0, ()), (), (), ()) = fin (l.foldl g a0) := by
  have := iter_eq (f := f) (G := fun _ => fin (l.foldl g a0)) (fun n z => ∃ k : Nat, z = (((l.take k).foldl g a0, (k : Int), ()), (), (), ()) ∧ k ≤ l.length ∧ n = l.length - k) (by
    rintro n z rec ⟨k, rfl, h1, h2⟩ ih
    by_cases hk : k < l.length
    · rw [hs rec k _ hk rfl]
      refine ih (l.length - (k + 1)) _ (by omega) ⟨k + 1, ?_, by omega, rfl⟩
      have : l.take (k + 1) = l.take k ++ [l[k]] := by
        rw [List.take_add_one, List.getElem?_eq_getElem hk]; rfl
      rw [this, List.foldl_append]
      rfl
    · have : k = l.length := by omega
      subst this
      rw [List.take_length]
      exact he rec) N l.length ((a0, ((0 : Nat) : Int), ()), (), (), ()) ⟨0, by simp, by omega, rfl⟩ hN
  exact this

theorem foldl_filter {X : Type} (p : X → Bool) : ∀ (l a : List X), l.foldl (fun a x => cond (p x) (a ++ [x]) a) a = a ++ l.filter p
  | [], a => by simp
  | x :: r, a => by
    simp only [List.foldl_cons, List.filter_cons]
    rw [foldl_filter p r]
    cases p x <;> simp

theorem foldl_flatMap {X Y : Type} (h : X → List Y) : ∀ (l : List X) (a : List Y), l.foldl (fun a x => a ++ h x) a = a ++ l.flatMap h
  | [], a => by simp
  | x :: r, a => by
    simp only [List.foldl_cons, List.flatMap_cons]
    rw [foldl_flatMap h r]
    simp

theorem fit {n bytes : Nat} (h : n * bytes ≤ 140737488355328) (h2 : n ≤ 4611686018427387904) : fitsB n bytes = true := by
  simp only [fitsB, Bool.and_eq_true, decide_eq_true_eq]
  exact ⟨h, h2⟩

/-! lists in strict order -/

def SAsc {α : Type} (lt : α → α → Bool) (l : List α) : Prop := l.Pairwise fun a b => lt a b = true

theorem SAsc.ext {α : Type} {lt : α → α → Bool} (ha : ∀ x y, lt x y = true → lt y x = false) : ∀ {l m : List α}, SAsc lt l → SAsc lt m → (∀ x, x ∈ l ↔ x ∈ m) → l = m
  | [], [], _, _, _ => rfl
  | [], b :: m, _, _, h => by have := (h b).2 List.mem_cons_self; simp at this
  | a :: l, [], _, _, h => by have := (h a).1 List.mem_cons_self; simp at this
  | a :: l, b :: m, hl, hm, h => by
    have hl' := hl
    have hm' := hm
    simp only [SAsc, List.pairwise_cons] at hl' hm'
    have irr : ∀ x, lt x x = false := by
      intro x
      cases hx : lt x x with
      | false => rfl
      | true => have := ha x x hx; rw [hx] at this; cases this
    have hab : a = b := by
      rcases List.mem_cons.1 ((h a).1 List.mem_cons_self) with e | e
      · exact e
      · rcases List.mem_cons.1 ((h b).2 List.mem_cons_self) with e' | e'
        · exact e'.symm
        · have h1 := hm'.1 a e
          have h2 := hl'.1 b e'
          rw [ha _ _ h1] at h2; cases h2
    subst hab
    congr 1
    refine SAsc.ext ha hl'.2 hm'.2 fun x => ?_
    have hx := h x
    simp only [List.mem_cons] at hx
    constructor
    · intro hxl
      rcases hx.1 (.inr hxl) with e | e
      · subst e
        have := hl'.1 x hxl
        rw [irr] at this; cases this
      · exact e
    · intro hxm
      rcases hx.2 (.inr hxm) with e | e
      · subst e
        have := hm'.1 x hxm
        rw [irr] at this; cases this
      · exact e

/-- how long a slice may be -/
def Fit (N : Nat) : Prop := 9223372036854775808 ≤ N

end Go.Xl
/-
  Dots are put in order: slices.Clone, slices.SortFunc at dots.
-/
set_option maxRecDepth 100000
set_option linter.unusedVariables false
namespace Go.Proofs.Xr
open Go Go.Xl Go.Ab Go.Proofs Go.Sort
theorem Clone_Dot (N : Nat) : SndA (NewS Tryd.prog 106 tDot) [.d (.sl tDot)] (cloneF tDot 16) [] :=
  clone_sound (own := [5, 7]) (N := N) (an := .lf) mixed Tryd.func106 rfl (fun y r => by kernel_rfl) (by kernel_rfl) (fun a cap => by kernel_rfl)
def e_slices_Clone_sDot_Dot (N : Nat) : Ent Tryd.prog := mkNS 106 tDot [.d (.sl tDot)] (cloneF tDot 16) (.mk' Tryd.func106 rfl (by decide)) (Clone_Dot N)
/-- the order of dots -/
def cfDot (x y : Int × Int) : Int := if x.1 < y.1 then -1 else if y.1 < x.1 then 1 else if x.2 < y.2 then -1 else if y.2 < x.2 then 1 else 0
theorem Cmp_eq (N : Nat) (x y : Int × Int) : F_dot_Cmp N x y = some (cfDot x y) := by
  simp only [F_dot_Cmp, F_cmp_Compare_uint16, F_cmp_Compare_uint64, F_cmp_isNaN_uint16, F_cmp_isNaN_uint64, cfDot, cond_eq_ite, Option.bind_some]
  grind
theorem Cmp_does (x y : Int × Int) : Does Tryd.prog 39 (asOf [.d (tDot.xv x), .d (tDot.xv y)]) X0 (.d (.sc (.int .i64 (cfDot x y)))) X0 :=
  (runF_sound (Γ := [e_cmp_Compare_uint16 0, e_cmp_Compare_uint64 0]) (own := []) (N := 0) (an := .lf) (args := [tDot, tDot]) (res := [.int .i64]) mixed Tryd.func39 rfl) x y _ ((congrFun (congrFun (E_dot_Cmp 0) x) y).trans (Cmp_eq 0 x y))
theorem dot_lt (x y : Int × Int) : ltOf cfDot x y = decide (x.1 < y.1 ∨ x.1 = y.1 ∧ x.2 < y.2) := by
  unfold ltOf cfDot
  grind
theorem dot_swo : SWO (ltOf cfDot) where
  irrefl x := by rw [dot_lt]; simp
  trans x y z h1 h2 := by rw [dot_lt] at *; simp at *; omega
  ntrans x y z h1 h2 := by rw [dot_lt] at *; simp at *; omega
theorem dot_total (x y : Int × Int) (h1 : ltOf cfDot x y = false) (h2 : ltOf cfDot y x = false) : x = y := by
  rw [dot_lt] at *; simp at *
  obtain ⟨a, b⟩ := x; obtain ⟨c, d⟩ := y
  simp at *; omega
theorem dot_plain : tDot.Plain := ⟨fun x => rfl⟩
/-- slices.SortFunc -/
def F_SortFunc_Dot (d : List (Int × Int)) : List (Int × Int) := d.mergeSort fun x y => !(ltOf cfDot) y x
theorem Sorts_Dot : Sorts Tryd.prog 107 39 tDot F_SortFunc_Dot :=
  sorts_structs Tryd.sortDot (by kernel_rfl) dot_plain rfl Tryd.isAgg60 Tryd.sizeOf60 (.mk' Tryd.func107 rfl (by decide)) cfDot dot_swo dot_total (.mk' Tryd.func39 rfl (by decide)) Cmp_does
def e_slices_SortFunc_sDot_Dot (N : Nat) : Ent Tryd.prog := mkSort Sorts_Dot
end Go.Proofs.Xr
/-
  Functions of data that call themselves: by the depth of the calls.
-/
set_option linter.unusedVariables false
namespace Go.Xl
open Go.Ab

def noneF {β : Type} : (ts : List Ty) → Fun ts (Option β)
  | [] => none
  | _ :: r => fun _ => noneF r

theorem noneF_sound {P : Program} {f : FuncId} {res : List Ty} : ∀ (ts : List Ty) (acc : List XV), SoundF P f res ts (noneF ts) acc
  | [], _ => fun y h => by cases h
  | _ :: r, acc => fun x => noneF_sound r _

/-- so deep -/
def recF {args res : List Ty} (R : Fun args (Option (ResT res)) → Fun args (Option (ResT res))) : Nat → Fun args (Option (ResT res))
  | 0 => noneF args
  | n + 1 => R (recF R n)

theorem recF_sound {P : Program} {f : FuncId} {args res : List Ty} {R : Fun args (Option (ResT res)) → Fun args (Option (ResT res))} (h : ∀ G, SoundF P f res args G [] → SoundF P f res args (R G) []) :
    ∀ n, SoundF P f res args (recF R n) []
  | 0 => noneF_sound args []
  | n + 1 => h _ (recF_sound h n)

end Go.Xl
/-
  Functions of data that look at package tables: a table's content is one more argument.
-/
set_option linter.unusedVariables false
set_option linter.unusedSimpArgs false
set_option linter.unnecessarySimpa false
namespace Go.Xl
open Go.Ab

/-- what the package variables hold -/
def GHold (g : Gh) (w : World) (gs : List (Nat × AV)) : Prop := ∀ p ∈ gs, RA g w p.2 (.pointer (some ⟨p.1, 0, none⟩))

/-- the contract of a function of data that looks at package variables -/
def DoesG (P : Program) (f : FuncId) (args : List AV) (gs : List (Nat × AV)) (res : AV) : Prop :=
  ∀ (g : Gh) (w : World) (vs : Array Value), HR [] (Base.of g w X0) g w X0 → GHold g w gs → args.length = vs.size →
    (∀ (i : Nat) x v, args[i]? = some x → vs[i]? = some v → RA g w x v) →
    Calls P f vs w fun e w' => ∃ g' v, e = .returned v ∧ RA g' w' res v ∧ HR [] (Base.of g w X0) g' w' X0

theorem DoesG.plain {P : Program} {f : FuncId} {args : List AV} {res : AV} (h : DoesG P f args [] res) : Does P f args X0 res X0 :=
  fun g w vs hr hl ha => h g w vs hr (by simp [GHold]) hl ha

theorem DoesG.use {P : Program} {X : Store} {f : FuncId} {xs : List AV} {gs : List (Nat × AV)} {res : AV} (hs : DoesG P f xs gs res) (hd : areData xs = true) (hg : areData (gs.map (·.2)) = true) (hdr : isData res = true) {nm : List Nat} {B : Base} {g : Gh} {w : World}
    (hr : HR nm B g w X) (hgs : GHold g w gs) {vs : Array Value} (hl : xs.length = vs.size) (hvs : ∀ (i : Nat) x v, xs[i]? = some x → vs[i]? = some v → RA g w x v) :
    Calls P f vs w fun e w' => ∃ v g', e = .returned v ∧ HR nm B g' w' X ∧ Trans [] g w g' w' ∧ RA g' w' res v := by
  have h0 : HR [] (Base.of { g with β := fun _ => none } w X0) { g with β := fun _ => none } w X0 :=
    ⟨by simp, hr.sane, Nat.le_refl _, ⟨rfl, rfl, rfl, Nat.le_refl _⟩, .refl _ _, fun b _ _ => ⟨rfl, rfl⟩, by simp [X0], by simp [X0], by simp [X0], by simp [X0], by simp [X0], by simp, by simp, by simp, by simp⟩
  have hgs' : GHold { g with β := fun _ => none } w gs := by
    intro p hp
    obtain ⟨i, hi⟩ := List.getElem?_of_mem hp
    exact (hgs p hp).data (areData_get hg (i := i) (by rw [List.getElem?_map, hi]; rfl)) (.refl _ _)
  have := hs { g with β := fun _ => none } w vs h0 hgs' hl fun i x v hx hv => (hvs i x v hx hv).data (areData_get hd hx) (.refl _ _)
  refine this.mono ?_
  rintro e w' ⟨gc, v, rfl, hra, h1⟩
  obtain ⟨h2, h3⟩ := hr.pureCall (gc := gc) h1
  exact ⟨v, _, rfl, h2, h3, hra.data hdr (.refl _ _)⟩

theorem areData_take : ∀ {l : List AV} (n : Nat), areData l = true → areData (l.take n) = true
  | [], n, _ => by simp [areData]
  | x :: r, 0, _ => rfl
  | x :: r, n + 1, h => by
    simp only [areData, Bool.and_eq_true] at h
    simp only [List.take_succ_cons, areData, Bool.and_eq_true]
    exact ⟨h.1, areData_take n h.2⟩
theorem areData_drop : ∀ {l : List AV} (n : Nat), areData l = true → areData (l.drop n) = true
  | [], n, _ => by simp [areData]
  | x :: r, 0, h => h
  | x :: r, n + 1, h => by
    simp only [areData, Bool.and_eq_true] at h
    exact areData_drop n h.2
theorem areData_zip : ∀ {l : List AV} (ks : List Nat), areData l = true → areData ((ks.zip l).map (·.2)) = true
  | [], ks, _ => by cases ks <;> rfl
  | x :: r, [], _ => rfl
  | x :: r, k :: ks, h => by
    simp only [areData, Bool.and_eq_true] at h
    simp only [List.zip_cons_cons, List.map_cons, areData, Bool.and_eq_true]
    exact ⟨h.1, areData_zip ks h.2⟩

/-- a call: the tables are read where it is called -/
theorem op_callG {P : Program} {o : Oper} {X : Store} {f : FuncId} {args : Array Operand} {ts : Array TypeId} {gids : List Nat} {xs : List AV} {res : AV} (ho : o.op = .call { callee := .value (.func f), args := args, argTypes := ts }) (hf : CallI P f)
    (hs : DoesG P f (xs.take args.size) (gids.zip (xs.drop args.size)) res) (hl : args.size ≤ xs.length) (hd : areData xs = true) (hdr : isData res = true) :
    OpT P o ((args.toList ++ gids.map Operand.global).zip xs) X X [] res := by
  intro nm hsm B g w a hr hrd next Q hn
  have hz : (args.toList ++ gids.map Operand.global).zip xs = args.toList.zip (xs.take args.size) ++ (gids.map Operand.global).zip (xs.drop args.size) := by
    conv => lhs; rw [← List.take_append_drop args.size xs]
    rw [List.zip_append (by simp; omega)]
  rw [hz] at hrd
  unfold Oper.wp
  have : (execOp a.eval o).run P w = .ok (.enter f (args.map a.eval)) w := by
    simp only [execOp, ho, resolve]
    simp [Act.eval, Deferred.ofValue, invoke, run_callFunc hf]
  rw [this]
  have hG : GHold g w (gids.zip (xs.drop args.size)) := by
    intro p hp
    have h1 : (Operand.global p.1, p.2) ∈ (gids.map Operand.global).zip (xs.drop args.size) := by
      rw [List.zip_map_left, List.mem_map]
      exact ⟨p, hp, rfl⟩
    exact hrd _ (List.mem_append_right _ h1)
  refine (hs.use (areData_take _ hd) (areData_zip _ (areData_drop _ hd)) hdr hr hG (by simp; omega) (rds_args fun p hp => hrd p (List.mem_append_left _ hp))).mono ?_
  rintro e w' ⟨v, g', rfl, h1, h2, h3⟩
  exact hn g' w' v h1 h2 h3

/-- the tables' slots -/
def glE : List Nat → List XV → List (Nat × XV)
  | k :: ks, x :: r => (GB + k, x) :: glE ks r
  | _, _ => []

theorem glE_mem : ∀ {gids : List Nat} {xs : List XV} {t : Nat} {x : AV}, (t, x) ∈ imEnv (glE gids xs) → ∃ k, t = GB + k ∧ (k, x) ∈ gids.zip (asOf xs)
  | [], xs, t, x, h => by simp [glE, imEnv] at h
  | k :: ks, [], t, x, h => by simp [glE, imEnv] at h
  | k :: ks, y :: r, t, x, h => by
    simp only [glE, imEnv, List.map_cons, List.mem_cons, Prod.mk.injEq] at h
    rcases h with ⟨rfl, rfl⟩ | h
    · exact ⟨k, rfl, by simp [asOf]⟩
    · obtain ⟨k', h1, h2⟩ := glE_mem (gids := ks) (xs := r) (t := t) (x := x) (by simpa [imEnv] using h)
      exact ⟨k', h1, by simp only [asOf, List.zip_cons_cons]; exact List.mem_cons_of_mem _ h2⟩

/-- a body of data, run where tables lie -/
def runBG (P : Program) (Γ : List (Ent P)) (own : List Nat) (N : Nat) (fn : Func) (an : An) (res : List Ty) (n : Nat) (gids : List Nat) (xs : List XV) : Option (ResT res) :=
  match fn.body with
  | some c => cond (Nat.ble fn.ntmps GB) (exec P Γ own [] fn.ntmps N c an ⟨envX 0 (xs.take n) ++ glE gids (xs.drop n), [], [], [], []⟩ (finish P fn res)) none
  | none => none

theorem runBG_sound {P : Program} {Γ : List (Ent P)} {own : List Nat} {N : Nat} {f : FuncId} {fn : Func} {an : An} {res : List Ty} {n : Nat} {gids : List Nat} {xs : List XV} {y : ResT res} (hm : P.follows .mixedOrders = true) (hf : P.funcs[f]? = some fn)
    (hn : Nat.ble n fn.ntmps = true) (h : runBG P Γ own N fn an res n gids xs = some y) : DoesG P f (asOf (xs.take n)) (gids.zip (asOf (xs.drop n))) (resXV res y).a := by
  unfold runBG at h
  split at h
  · rename_i c hc
    obtain ⟨hG, h⟩ := condG h
    have hs := exec_sound (S := ⟨fn.ntmps, [], by simp⟩) hm rfl c an _ _ _ _ (.refl _) h
    intro g w vs hr hgs hl ha
    have hlen : (asOf (xs.take n)).length ≤ n := by rw [asOf_length]; simp; omega
    have hn' := Nat.le_of_ble_eq_true hn
    refine calls_of_wp hf hc (wp_mono (hs (Base.of g w X0) g w _ ?_) ?_)
    · refine ⟨rfl, ?_, hr, ?_⟩
      · simp; omega
      · intro t x hx
        have hx' : (imEnv (envX 0 (xs.take n)) ++ imEnv (glE gids (xs.drop n))).lookup t = some x := by
          rw [imEnv, imEnv, ← List.map_append]; exact hx
        rw [List.lookup_append, envX_im] at hx'
        cases h1 : (envOf 0 (asOf (xs.take n))).lookup t with
        | some x1 =>
          rw [h1] at hx'
          simp only [Option.some_or, Option.some.injEq] at hx'
          subst hx'
          obtain ⟨_, hx'⟩ := envOf_lookup h1
          rw [Nat.sub_zero] at hx'
          have hlt : t < vs.size := by have := (List.getElem?_eq_some_iff.1 hx').1; omega
          refine ⟨vs[t], ?_, ha t x1 _ hx' (by simp [hlt])⟩
          rw [slotV_tmp (by omega)]
          simp [Array.getElem?_append, hlt]
        | none =>
          rw [h1] at hx'
          simp only [Option.none_or] at hx'
          obtain ⟨k, rfl, hk⟩ := glE_mem (lookup_mem hx')
          exact ⟨_, slotV_glob k, hgs _ hk⟩
    · rintro e a' w' ⟨s, g', ⟨st', rfl, hi, hk⟩, hs'⟩
      have fin : finishL P fn res st' = some y →
          a'.defers = [] ∧ ∃ v, (results fn a'.tmps).run P w' = .ok v w' ∧ ∃ g' v_1, Ending.returned v = Ending.returned v_1 ∧ RA g' w' (resXV res y).a v_1 ∧ HR [] (Base.of g w X0) g' w' X0 := by
        intro h
        unfold finishL at h
        split at h
        · rename_i zs h1
          obtain ⟨ys, o, h2, h⟩ := frzK_some h
          · obtain ⟨v, hv, hra⟩ := run_results (xres_ok h1) hs'
            obtain ⟨g1, hr1, ht1, has⟩ := frz_ok h2 g' hs'.hr
            have hs1 : SR ⟨fn.ntmps, [], by simp⟩ (Base.of g w X0) g1 w' ⟨[], ⟨imObjs o, st'.live⟩⟩ a' := ⟨hs'.defers, hs'.size, hr1, by simp⟩
            have hw : Weak [] ⟨[], ⟨imObjs o, st'.live⟩⟩ ⟨[], X0⟩ := ⟨by simp, by simp [X0], by simp [X0], by simp⟩
            obtain ⟨g'', ht, hs''⟩ := hs1.weaken' hw
            rw [← tupX_a] at hra
            have hra' := (has.tupX hra).mono ht (.nil _)
            exact ⟨hs'.defers, v, hv, g'', v, rfl, resXV_le h g'' w' v hra', hs''.hr⟩
        · cases h
      cases e with
      | ret => exact fin hk
      | normal => exact fin hk
      | _ => simp [finish] at hk
  · cases h

/-- as the interpreter has it: first the arguments, then the tables -/
def runG (P : Program) (Γ : List (Ent P)) (own : List Nat) (N : Nat) (fn : Func) (an : An) (args res : List Ty) (n : Nat) (gids : List Nat) : Fun args (Option (ResT res)) :=
  bindArgs args (fun xs => runBG P Γ own N fn an res n gids xs) []

def SoundG (P : Program) (f : FuncId) (res : List Ty) (n : Nat) (gids : List Nat) : (args : List Ty) → Fun args (Option (ResT res)) → List XV → Prop
  | [], F, acc => ∀ y, F = some y → DoesG P f (asOf (acc.take n)) (gids.zip (asOf (acc.drop n))) (resXV res y).a
  | t :: r, F, acc => ∀ x : t.T, SoundG P f res n gids r (F x) (acc ++ [.d (t.xv x)])

theorem runG_sound' {P : Program} {Γ : List (Ent P)} {own : List Nat} {N : Nat} {f : FuncId} {fn : Func} {an : An} {res : List Ty} {n : Nat} {gids : List Nat} (hm : P.follows .mixedOrders = true) (hf : P.funcs[f]? = some fn) (hn : Nat.ble n fn.ntmps = true) :
    ∀ (args : List Ty) (acc : List XV), SoundG P f res n gids args (bindArgs args (fun xs => runBG P Γ own N fn an res n gids xs) acc) acc
  | [], acc => fun y hy => runBG_sound hm hf hn hy
  | t :: r, acc => fun x => runG_sound' hm hf hn r (acc ++ [.d (t.xv x)])

theorem runG_sound {P : Program} {Γ : List (Ent P)} {own : List Nat} {N : Nat} {f : FuncId} {fn : Func} {an : An} {args res : List Ty} {n : Nat} {gids : List Nat} (hm : P.follows .mixedOrders = true) (hf : P.funcs[f]? = some fn)
    (hn : Nat.ble n fn.ntmps = true) : SoundG P f res n gids args (runG P Γ own N fn an args res n gids) [] := runG_sound' hm hf hn args []

def gops : List Nat → List Operand
  | [] => []
  | k :: r => .global k :: gops r
theorem gops_map (l : List Nat) : gops l = l.map Operand.global := by
  induction l with
  | nil => rfl
  | cons k r ih => simp [gops, ih]

def appL {α : Type} : List α → List α → List α
  | [], b => b
  | x :: r, b => x :: appL r b
theorem appL_eq {α : Type} (a b : List α) : appL a b = a ++ b := by
  induction a with
  | nil => rfl
  | cons x r ih => simp [appL, ih]

def dataRunG {R : Type} (args res : List Ty) (n : Nat) (gids : List Nat) (F : Fun args (Option (ResT res))) (o : Oper) (st : XSt) (vs : List XV) (K : Out → Option R) : Option R :=
  cond (Nat.beq (callArgs o).length n) (match xevals st (gops gids) with
    | some us => appK args F (appL (callArgs o) (gops gids)) (appL vs us) [] fun Fv rd => Option.bind Fv fun y => K (quietO st (resXV res y) rd)
    | none => none) none

theorem xevals_append {st : XSt} : ∀ {a b : List Operand} {u v : List XV}, xevals st a = some u → xevals st b = some v → xevals st (a ++ b) = some (u ++ v)
  | [], b, u, v, h, h' => by simp [xevals] at h; subst h; exact h'
  | x :: a, b, u, v, h, h' => by
    simp only [xevals] at h
    split at h
    · rename_i y l hy hl
      cases h
      simp only [List.cons_append, xevals, hy, xevals_append hl h']
    · cases h

theorem appK_okG {P : Program} {R : Type} {f : FuncId} {res : List Ty} {n : Nat} {gids : List Nat} {st : XSt} {K : Option (ResT res) → List (Operand × XV) → Option R} {r : R} : ∀ (ts : List Ty) (F : Fun ts (Option (ResT res))) (ops : List Operand) (vs : List XV) (acc : List (Operand × XV)) (aops : List Operand) (axs : List XV),
    SoundG P f res n gids ts F axs → xevals st ops = some vs → acc = aops.zip axs → aops.length = axs.length → (∀ p ∈ imRd acc, Sees st.im p.1 p.2) → areData (asOf axs) = true → appK ts F ops vs acc K = some r →
    ∃ (Fv : Option (ResT res)) (xs : List XV), xs.length = (aops ++ ops).length ∧ (∀ y, Fv = some y → DoesG P f (asOf (xs.take n)) (gids.zip (asOf (xs.drop n))) (resXV res y).a) ∧ areData (asOf xs) = true ∧
      (∀ p ∈ imRd ((aops ++ ops).zip xs), Sees st.im p.1 p.2) ∧ K Fv ((aops ++ ops).zip xs) = some r
  | [], F, ops, vs, acc, aops, axs, hs, hv, hacc, hlen, hsee, hda, h => by
    cases ops with
    | nil =>
      cases vs with
      | nil =>
        subst hacc
        exact ⟨F, axs, by simp [hlen], hs, hda, by simpa using hsee, by rw [List.append_nil]; exact h⟩
      | cons _ _ => simp [appK] at h
    | cons _ _ => simp [appK] at h
  | t :: ts, F, ops, vs, acc, aops, axs, hs, hv, hacc, hlen, hsee, hda, h => by
    cases ops with
    | nil => simp [appK] at h
    | cons x ops =>
      cases vs with
      | nil => simp [appK] at h
      | cons v vs =>
        simp only [appK] at h
        obtain ⟨hx, hvs⟩ := xevals_cons hv
        split at h
        · rename_i y hy
          have := appK_okG ts (F y) ops vs _ (aops ++ [x]) (axs ++ [.d (t.xv y)]) (hs y) hvs (by rw [hacc, List.zip_append hlen]; rfl) (by simp [hlen]) (by
            intro p hp
            rw [imRd_append] at hp
            rcases List.mem_append.1 hp with hp | hp
            · exact hsee p hp
            · simp only [imRd, List.map_cons, List.map_nil, List.mem_singleton] at hp
              subst hp
              exact decXV_sees hx hy) (by
            have : ∀ l : List AV, areData l = true → areData (l ++ [.d (t.dv y)]) = true := by
              intro l
              induction l with
              | nil => intro _; rfl
              | cons a r ih => intro h; simp only [areData, Bool.and_eq_true, List.cons_append] at h ⊢; exact ⟨h.1, ih h.2⟩
            rw [asOf_append]; exact this _ hda) h
          simpa using this
        · cases h

/-- a function of data and tables that may be called -/
def mkEntG {P : Program} (id : FuncId) (args res : List Ty) (n : Nat) (gids : List Nat) (F : Fun args (Option (ResT res))) (hc : CallI P id) (hs : SoundG P id res n gids args F []) : Ent P where
  id := id
  run := dataRunG args res n gids F
  ok := by
    intro R o st aops ts vs K r ho hv h
    unfold dataRunG at h
    have e : callArgs o = aops.toList := by simp [callArgs, ho]
    rw [e] at h
    cases hb : Nat.beq aops.toList.length n with
    | false => rw [hb] at h; cases h
    | true =>
      have hn := Nat.eq_of_beq_eq_true hb
      rw [hb, cond_true] at h
      split at h
      · rename_i us hus
        rw [appL_eq, appL_eq, gops_map] at h
        rw [gops_map] at hus
        obtain ⟨Fv, xs, h1, h2, h3, h4, h5⟩ := appK_okG (st := st) args F _ _ [] [] [] hs (xevals_append hv hus) rfl rfl (by simp [imRd]) rfl h
        obtain ⟨y, hy, hK⟩ := Option.bind_eq_some_iff.1 h5
        simp only [List.nil_append] at h1 h4 hK
        refine ⟨_, hK, quietO_ok h4 fun X => ?_⟩
        have hd := h2 y hy
        have hn2 : n = aops.size := by rw [← hn]; simp
        rw [hn2, asOf_take, asOf_drop] at hd
        have := op_callG (X := X) (xs := asOf xs) ho hc hd (by rw [asOf_length, h1]; simp) h3 (resXV_data res y)
        rw [imRd_zip]
        exact this
      · cases h

/-- a function of the program, of data and tables, that may be called -/
def mkFnG {P : Program} {Γ : List (Ent P)} {own : List Nat} {N : Nat} (id : FuncId) (fn : Func) (an : An) (args res : List Ty) (n : Nat) (gids : List Nat) (F : Fun args (Option (ResT res))) (hm : P.follows .mixedOrders = true) (hf : P.funcs[id]? = some fn)
    (hc : CallI P id) (hn : Nat.ble n fn.ntmps = true) (hE : runG P Γ own N fn an args res n gids = F) : Ent P :=
  mkEntG id args res n gids F hc (hE ▸ runG_sound hm hf hn)

end Go.Xl
/-
  A function of which nothing is known.
-/
namespace Go.Xl
open Go.Ab
def mkNone {P : Program} (f : FuncId) : Ent P where
  id := f
  run := fun _ _ _ _ => none
  ok := by intros; contradiction
end Go.Xl
set_option linter.unusedVariables false
set_option maxRecDepth 100000
namespace Go.Proofs.Xs
open Go Go.Xl Go.Ab Go.Proofs Go.Proofs.Xr
/-- internal/strconv.small -/
noncomputable def F_internal_strconv_small (N : Nat) : Fun [(.int .i64)] (Option (ResT [.str])) :=
  fun (x : Int) =>
  bif decide (x < 10) then
    bif cutOk x (IntKind.i64.wrap (x + 1)) 36 then
      some
        (List.take ((IntKind.i64.wrap (x + 1)).toNat - x.toNat)
          (List.drop x.toNat
            [48, 49, 50, 51, 52, 53, 54, 55, 56, 57, 97, 98, 99, 100, 101, 102, 103, 104, 105, 106, 107, 108, 109, 110,
              111, 112, 113, 114, 115, 116, 117, 118, 119, 120, 121, 122]))
    else none
  else
    bif cutOk (IntKind.i64.wrap (x * 2)) (IntKind.i64.wrap (IntKind.i64.wrap (x * 2) + 2)) 200 then
      some
        (List.take ((IntKind.i64.wrap (IntKind.i64.wrap (x * 2) + 2)).toNat - (IntKind.i64.wrap (x * 2)).toNat)
          (List.drop (IntKind.i64.wrap (x * 2)).toNat
            [48, 48, 48, 49, 48, 50, 48, 51, 48, 52, 48, 53, 48, 54, 48, 55, 48, 56, 48, 57, 49, 48, 49, 49, 49, 50, 49,
              51, 49, 52, 49, 53, 49, 54, 49, 55, 49, 56, 49, 57, 50, 48, 50, 49, 50, 50, 50, 51, 50, 52, 50, 53, 50,
              54, 50, 55, 50, 56, 50, 57, 51, 48, 51, 49, 51, 50, 51, 51, 51, 52, 51, 53, 51, 54, 51, 55, 51, 56, 51,
              57, 52, 48, 52, 49, 52, 50, 52, 51, 52, 52, 52, 53, 52, 54, 52, 55, 52, 56, 52, 57, 53, 48, 53, 49, 53,
              50, 53, 51, 53, 52, 53, 53, 53, 54, 53, 55, 53, 56, 53, 57, 54, 48, 54, 49, 54, 50, 54, 51, 54, 52, 54,
              53, 54, 54, 54, 55, 54, 56, 54, 57, 55, 48, 55, 49, 55, 50, 55, 51, 55, 52, 55, 53, 55, 54, 55, 55, 55,
              56, 55, 57, 56, 48, 56, 49, 56, 50, 56, 51, 56, 52, 56, 53, 56, 54, 56, 55, 56, 56, 56, 57, 57, 48, 57,
              49, 57, 50, 57, 51, 57, 52, 57, 53, 57, 54, 57, 55, 57, 56, 57, 57]))
    else none
theorem E_internal_strconv_small (N : Nat) : runF Tryd.prog [] [] N Tryd.f118 .lf [(.int .i64)] [.str] = F_internal_strconv_small N := by kernel_rfl
noncomputable def e_internal_strconv_small (N : Nat) : Ent Tryd.prog := mkFn 118 Tryd.f118 .lf [(.int .i64)] [.str] (F_internal_strconv_small N) mixed Tryd.func118 (.mk' Tryd.func118 rfl (by decide)) rfl (E_internal_strconv_small N)
/-- internal/strconv.log10Pow2 -/
noncomputable def F_internal_strconv_log10Pow2 (N : Nat) : Fun [(.int .i64)] (Option (ResT [(.int .i64)])) :=
  fun (x : Int) => some ((IntKind.i64.wrap (x * 78913)).fdiv 262144)
theorem E_internal_strconv_log10Pow2 (N : Nat) : runF Tryd.prog [] [] N Tryd.f140 .lf [(.int .i64)] [(.int .i64)] = F_internal_strconv_log10Pow2 N := by kernel_rfl
noncomputable def e_internal_strconv_log10Pow2 (N : Nat) : Ent Tryd.prog := mkFn 140 Tryd.f140 .lf [(.int .i64)] [(.int .i64)] (F_internal_strconv_log10Pow2 N) mixed Tryd.func140 (.mk' Tryd.func140 rfl (by decide)) rfl (E_internal_strconv_log10Pow2 N)
/-- math/bits.Len64 -/
noncomputable def F_math_bits_Len64 (N : Nat) : Fun [(.int .u64)] (Option (ResT [(.int .i64)])) :=
  fun (x : Int) =>
  joinAt
    (fun (z : (Int × Int × Unit) × Unit × Unit × Unit) =>
      joinAt
        (fun (z : (Int × Int × Unit) × Unit × Unit × Unit) =>
          joinAt
            (fun (z : (Int × Int × Unit) × Unit × Unit × Unit) =>
              [0, 1, 2, 2, 3, 3, 3, 3, 4, 4, 4, 4, 4, 4, 4, 4, 5, 5, 5, 5, 5, 5, 5, 5, 5, 5, 5, 5, 5, 5, 5, 5, 6, 6, 6,
                      6, 6, 6, 6, 6, 6, 6, 6, 6, 6, 6, 6, 6, 6, 6, 6, 6, 6, 6, 6, 6, 6, 6, 6, 6, 6, 6, 6, 6, 7, 7, 7, 7,
                      7, 7, 7, 7, 7, 7, 7, 7, 7, 7, 7, 7, 7, 7, 7, 7, 7, 7, 7, 7, 7, 7, 7, 7, 7, 7, 7, 7, 7, 7, 7, 7, 7,
                      7, 7, 7, 7, 7, 7, 7, 7, 7, 7, 7, 7, 7, 7, 7, 7, 7, 7, 7, 7, 7, 7, 7, 7, 7, 7, 7, 8, 8, 8, 8, 8, 8,
                      8, 8, 8, 8, 8, 8, 8, 8, 8, 8, 8, 8, 8, 8, 8, 8, 8, 8, 8, 8, 8, 8, 8, 8, 8, 8, 8, 8, 8, 8, 8, 8, 8,
                      8, 8, 8, 8, 8, 8, 8, 8, 8, 8, 8, 8, 8, 8, 8, 8, 8, 8, 8, 8, 8, 8, 8, 8, 8, 8, 8, 8, 8, 8, 8, 8, 8,
                      8, 8, 8, 8, 8, 8, 8, 8, 8, 8, 8, 8, 8, 8, 8, 8, 8, 8, 8, 8, 8, 8, 8, 8, 8, 8, 8, 8, 8, 8, 8, 8, 8,
                      8, 8, 8, 8, 8, 8, 8, 8, 8, 8, 8, 8, 8, 8, 8, 8, 8, 8, 8, 8, 8, 8,
                      8][(toU8 (IntKind.u8.wrap z.fst.fst)).toNat]?.bind
                fun (c : UInt8) => some (IntKind.i64.wrap (z.fst.snd.fst + (↑c.toNat : Int))))
            fun (k : (Int × Int × Unit) × Unit × Unit × Unit → Option Int) =>
            bif decide (256 ≤ z.fst.fst) then
              k ((z.fst.fst.fdiv 256, IntKind.i64.wrap (z.fst.snd.fst + 8), ()), (), (), ())
            else k ((z.fst.fst, z.fst.snd.fst, ()), (), (), ()))
        fun (k : (Int × Int × Unit) × Unit × Unit × Unit → Option Int) =>
        bif decide (65536 ≤ z.fst.fst) then
          k ((z.fst.fst.fdiv 65536, IntKind.i64.wrap (z.fst.snd.fst + 16), ()), (), (), ())
        else k ((z.fst.fst, z.fst.snd.fst, ()), (), (), ()))
    fun (k : (Int × Int × Unit) × Unit × Unit × Unit → Option Int) =>
    bif decide (4294967296 ≤ x) then k ((x.fdiv 4294967296, 32, ()), (), (), ()) else k ((x, 0, ()), (), (), ())
theorem E_math_bits_Len64 (N : Nat) : runF Tryd.prog [] [] N Tryd.f141 (.seq .lf (.join ⟨[(0, .d (.int .u64)), (2, .d (.int .i64))], [], [], [], [], []⟩ .lf (.join ⟨[(0, .d (.int .u64)), (2, .d (.int .i64))], [], [], [], [], []⟩ .lf (.join ⟨[(0, .d (.int .u64)), (2, .d (.int .i64))], [], [], [], [], []⟩ .lf .lf)))) [(.int .u64)] [(.int .i64)] = F_math_bits_Len64 N := by kernel_rfl
noncomputable def e_math_bits_Len64 (N : Nat) : Ent Tryd.prog := mkFn 141 Tryd.f141 (.seq .lf (.join ⟨[(0, .d (.int .u64)), (2, .d (.int .i64))], [], [], [], [], []⟩ .lf (.join ⟨[(0, .d (.int .u64)), (2, .d (.int .i64))], [], [], [], [], []⟩ .lf (.join ⟨[(0, .d (.int .u64)), (2, .d (.int .i64))], [], [], [], [], []⟩ .lf .lf)))) [(.int .u64)] [(.int .i64)] (F_math_bits_Len64 N) mixed Tryd.func141 (.mk' Tryd.func141 rfl (by decide)) rfl (E_math_bits_Len64 N)
/-- internal/strconv.bool2[int] -/
noncomputable def F_internal_strconv_bool2_int (N : Nat) : Fun [.bool] (Option (ResT [(.int .i64)])) :=
  fun (x : Bool) => bif x then some 1 else some 0
theorem E_internal_strconv_bool2_int (N : Nat) : runF Tryd.prog [] [] N Tryd.f142 .lf [.bool] [(.int .i64)] = F_internal_strconv_bool2_int N := by kernel_rfl
noncomputable def e_internal_strconv_bool2_int (N : Nat) : Ent Tryd.prog := mkFn 142 Tryd.f142 .lf [.bool] [(.int .i64)] (F_internal_strconv_bool2_int N) mixed Tryd.func142 (.mk' Tryd.func142 rfl (by decide)) rfl (E_internal_strconv_bool2_int N)
/-- internal/strconv.numDigits -/
noncomputable def F_internal_strconv_numDigits (N : Nat) : Fun [(.int .u64), (.tab (.int .u64))] (Option (ResT [(.int .i64)])) :=
  fun (x : Int) (x_1 : List Int) =>
  Option.bind (F_math_bits_Len64 N x) fun (y : Int) =>
    Option.bind (F_internal_strconv_log10Pow2 N y) fun (y : Int) =>
      bif x_1.length.ble 20 then
        (at? x_1 y).bind fun (e : Int) =>
          Option.bind (F_internal_strconv_bool2_int N (decide (e ≤ x))) fun (y_1 : Int) =>
            some (IntKind.i64.wrap (y + y_1))
      else none
theorem E_internal_strconv_numDigits (N : Nat) : runG Tryd.prog [e_internal_strconv_log10Pow2 N, e_math_bits_Len64 N, e_internal_strconv_bool2_int N] [] N Tryd.f119 .lf [(.int .u64), (.tab (.int .u64))] [(.int .i64)] 1 [3] = F_internal_strconv_numDigits N := by kernel_rfl
noncomputable def e_internal_strconv_numDigits (N : Nat) : Ent Tryd.prog := mkFnG 119 Tryd.f119 .lf [(.int .u64), (.tab (.int .u64))] [(.int .i64)] 1 [3] (F_internal_strconv_numDigits N) mixed Tryd.func119 (.mk' Tryd.func119 rfl (by decide)) rfl (E_internal_strconv_numDigits N)
noncomputable def F0_internal_strconv_formatBase10 (N : Nat) : FunA [.d (.int .u64)] (Option (ResT (rkTys .u8 []))) :=
  fun (x : Int) =>
  iter
    (fun (rec : (Int × Int × Unit) × Unit × Unit × Unit → Option Unit)
        (z : (Int × Int × Unit) × Unit × Unit × Unit) =>
      bif decide (8 ≤ z.fst.snd.fst) then
        (at?
              [48, 48, 48, 49, 48, 50, 48, 51, 48, 52, 48, 53, 48, 54, 48, 55, 48, 56, 48, 57, 49, 48, 49, 49, 49, 50,
                49, 51, 49, 52, 49, 53, 49, 54, 49, 55, 49, 56, 49, 57, 50, 48, 50, 49, 50, 50, 50, 51, 50, 52, 50, 53,
                50, 54, 50, 55, 50, 56, 50, 57, 51, 48, 51, 49, 51, 50, 51, 51, 51, 52, 51, 53, 51, 54, 51, 55, 51, 56,
                51, 57, 52, 48, 52, 49, 52, 50, 52, 51, 52, 52, 52, 53, 52, 54, 52, 55, 52, 56, 52, 57, 53, 48, 53, 49,
                53, 50, 53, 51, 53, 52, 53, 53, 53, 54, 53, 55, 53, 56, 53, 57, 54, 48, 54, 49, 54, 50, 54, 51, 54, 52,
                54, 53, 54, 54, 54, 55, 54, 56, 54, 57, 55, 48, 55, 49, 55, 50, 55, 51, 55, 52, 55, 53, 55, 54, 55, 55,
                55, 56, 55, 57, 56, 48, 56, 49, 56, 50, 56, 51, 56, 52, 56, 53, 56, 54, 56, 55, 56, 56, 56, 57, 57, 48,
                57, 49, 57, 50, 57, 51, 57, 52, 57, 53, 57, 54, 57, 55, 57, 56, 57, 57]
              (IntKind.u32.wrap
                (IntKind.u32.wrap (((IntKind.u32.wrap (z.fst.fst.tmod 100000000)).tmod 10000).tmod 100 * 2) + 1))).bind
          fun (c : UInt8) =>
          (at?
                [48, 48, 48, 49, 48, 50, 48, 51, 48, 52, 48, 53, 48, 54, 48, 55, 48, 56, 48, 57, 49, 48, 49, 49, 49, 50,
                  49, 51, 49, 52, 49, 53, 49, 54, 49, 55, 49, 56, 49, 57, 50, 48, 50, 49, 50, 50, 50, 51, 50, 52, 50,
                  53, 50, 54, 50, 55, 50, 56, 50, 57, 51, 48, 51, 49, 51, 50, 51, 51, 51, 52, 51, 53, 51, 54, 51, 55,
                  51, 56, 51, 57, 52, 48, 52, 49, 52, 50, 52, 51, 52, 52, 52, 53, 52, 54, 52, 55, 52, 56, 52, 57, 53,
                  48, 53, 49, 53, 50, 53, 51, 53, 52, 53, 53, 53, 54, 53, 55, 53, 56, 53, 57, 54, 48, 54, 49, 54, 50,
                  54, 51, 54, 52, 54, 53, 54, 54, 54, 55, 54, 56, 54, 57, 55, 48, 55, 49, 55, 50, 55, 51, 55, 52, 55,
                  53, 55, 54, 55, 55, 55, 56, 55, 57, 56, 48, 56, 49, 56, 50, 56, 51, 56, 52, 56, 53, 56, 54, 56, 55,
                  56, 56, 56, 57, 57, 48, 57, 49, 57, 50, 57, 51, 57, 52, 57, 53, 57, 54, 57, 55, 57, 56, 57, 57]
                (IntKind.u32.wrap (((IntKind.u32.wrap (z.fst.fst.tmod 100000000)).tmod 10000).tmod 100 * 2))).bind
            fun (c : UInt8) => (at? [] (IntKind.i64.wrap (z.fst.snd.fst - 1))).bind fun (e : UInt8) => none
      else
        joinAt
          (fun (z : (Int × Int × Unit) × Unit × Unit × Unit) =>
            joinAt
              (fun (z : (Int × Int × Unit) × Unit × Unit × Unit) =>
                bif decide (0 < z.fst.fst) then none else some ())
              fun (k : (Int × Int × Unit) × Unit × Unit × Unit → Option Unit) =>
              bif decide (2 ≤ z.fst.fst) then
                (at?
                      [48, 48, 48, 49, 48, 50, 48, 51, 48, 52, 48, 53, 48, 54, 48, 55, 48, 56, 48, 57, 49, 48, 49, 49,
                        49, 50, 49, 51, 49, 52, 49, 53, 49, 54, 49, 55, 49, 56, 49, 57, 50, 48, 50, 49, 50, 50, 50, 51,
                        50, 52, 50, 53, 50, 54, 50, 55, 50, 56, 50, 57, 51, 48, 51, 49, 51, 50, 51, 51, 51, 52, 51, 53,
                        51, 54, 51, 55, 51, 56, 51, 57, 52, 48, 52, 49, 52, 50, 52, 51, 52, 52, 52, 53, 52, 54, 52, 55,
                        52, 56, 52, 57, 53, 48, 53, 49, 53, 50, 53, 51, 53, 52, 53, 53, 53, 54, 53, 55, 53, 56, 53, 57,
                        54, 48, 54, 49, 54, 50, 54, 51, 54, 52, 54, 53, 54, 54, 54, 55, 54, 56, 54, 57, 55, 48, 55, 49,
                        55, 50, 55, 51, 55, 52, 55, 53, 55, 54, 55, 55, 55, 56, 55, 57, 56, 48, 56, 49, 56, 50, 56, 51,
                        56, 52, 56, 53, 56, 54, 56, 55, 56, 56, 56, 57, 57, 48, 57, 49, 57, 50, 57, 51, 57, 52, 57, 53,
                        57, 54, 57, 55, 57, 56, 57, 57]
                      (IntKind.u32.wrap (IntKind.u32.wrap (z.fst.snd.fst.tmod 100 * 2) + 1))).bind
                  fun (c : UInt8) =>
                  (at?
                        [48, 48, 48, 49, 48, 50, 48, 51, 48, 52, 48, 53, 48, 54, 48, 55, 48, 56, 48, 57, 49, 48, 49, 49,
                          49, 50, 49, 51, 49, 52, 49, 53, 49, 54, 49, 55, 49, 56, 49, 57, 50, 48, 50, 49, 50, 50, 50,
                          51, 50, 52, 50, 53, 50, 54, 50, 55, 50, 56, 50, 57, 51, 48, 51, 49, 51, 50, 51, 51, 51, 52,
                          51, 53, 51, 54, 51, 55, 51, 56, 51, 57, 52, 48, 52, 49, 52, 50, 52, 51, 52, 52, 52, 53, 52,
                          54, 52, 55, 52, 56, 52, 57, 53, 48, 53, 49, 53, 50, 53, 51, 53, 52, 53, 53, 53, 54, 53, 55,
                          53, 56, 53, 57, 54, 48, 54, 49, 54, 50, 54, 51, 54, 52, 54, 53, 54, 54, 54, 55, 54, 56, 54,
                          57, 55, 48, 55, 49, 55, 50, 55, 51, 55, 52, 55, 53, 55, 54, 55, 55, 55, 56, 55, 57, 56, 48,
                          56, 49, 56, 50, 56, 51, 56, 52, 56, 53, 56, 54, 56, 55, 56, 56, 56, 57, 57, 48, 57, 49, 57,
                          50, 57, 51, 57, 52, 57, 53, 57, 54, 57, 55, 57, 56, 57, 57]
                        (IntKind.u32.wrap (z.fst.snd.fst.tmod 100 * 2))).bind
                    fun (c : UInt8) => (at? [] (IntKind.i64.wrap (z.fst.fst - 1))).bind fun (e : UInt8) => none
              else k ((z.fst.fst, z.fst.snd.fst, ()), (), (), ()))
          fun (k : (Int × Int × Unit) × Unit × Unit × Unit → Option Unit) =>
          bif decide (4 ≤ z.fst.snd.fst) then
            (at?
                  [48, 48, 48, 49, 48, 50, 48, 51, 48, 52, 48, 53, 48, 54, 48, 55, 48, 56, 48, 57, 49, 48, 49, 49, 49,
                    50, 49, 51, 49, 52, 49, 53, 49, 54, 49, 55, 49, 56, 49, 57, 50, 48, 50, 49, 50, 50, 50, 51, 50, 52,
                    50, 53, 50, 54, 50, 55, 50, 56, 50, 57, 51, 48, 51, 49, 51, 50, 51, 51, 51, 52, 51, 53, 51, 54, 51,
                    55, 51, 56, 51, 57, 52, 48, 52, 49, 52, 50, 52, 51, 52, 52, 52, 53, 52, 54, 52, 55, 52, 56, 52, 57,
                    53, 48, 53, 49, 53, 50, 53, 51, 53, 52, 53, 53, 53, 54, 53, 55, 53, 56, 53, 57, 54, 48, 54, 49, 54,
                    50, 54, 51, 54, 52, 54, 53, 54, 54, 54, 55, 54, 56, 54, 57, 55, 48, 55, 49, 55, 50, 55, 51, 55, 52,
                    55, 53, 55, 54, 55, 55, 55, 56, 55, 57, 56, 48, 56, 49, 56, 50, 56, 51, 56, 52, 56, 53, 56, 54, 56,
                    55, 56, 56, 56, 57, 57, 48, 57, 49, 57, 50, 57, 51, 57, 52, 57, 53, 57, 54, 57, 55, 57, 56, 57, 57]
                  (IntKind.u32.wrap
                    (IntKind.u32.wrap (((IntKind.u32.wrap z.fst.fst).tmod 10000).tmod 100 * 2) + 1))).bind
              fun (c : UInt8) =>
              (at?
                    [48, 48, 48, 49, 48, 50, 48, 51, 48, 52, 48, 53, 48, 54, 48, 55, 48, 56, 48, 57, 49, 48, 49, 49, 49,
                      50, 49, 51, 49, 52, 49, 53, 49, 54, 49, 55, 49, 56, 49, 57, 50, 48, 50, 49, 50, 50, 50, 51, 50,
                      52, 50, 53, 50, 54, 50, 55, 50, 56, 50, 57, 51, 48, 51, 49, 51, 50, 51, 51, 51, 52, 51, 53, 51,
                      54, 51, 55, 51, 56, 51, 57, 52, 48, 52, 49, 52, 50, 52, 51, 52, 52, 52, 53, 52, 54, 52, 55, 52,
                      56, 52, 57, 53, 48, 53, 49, 53, 50, 53, 51, 53, 52, 53, 53, 53, 54, 53, 55, 53, 56, 53, 57, 54,
                      48, 54, 49, 54, 50, 54, 51, 54, 52, 54, 53, 54, 54, 54, 55, 54, 56, 54, 57, 55, 48, 55, 49, 55,
                      50, 55, 51, 55, 52, 55, 53, 55, 54, 55, 55, 55, 56, 55, 57, 56, 48, 56, 49, 56, 50, 56, 51, 56,
                      52, 56, 53, 56, 54, 56, 55, 56, 56, 56, 57, 57, 48, 57, 49, 57, 50, 57, 51, 57, 52, 57, 53, 57,
                      54, 57, 55, 57, 56, 57, 57]
                    (IntKind.u32.wrap (((IntKind.u32.wrap z.fst.fst).tmod 10000).tmod 100 * 2))).bind
                fun (c : UInt8) => (at? [] (IntKind.i64.wrap (z.fst.snd.fst - 1))).bind fun (e : UInt8) => none
          else k ((z.fst.snd.fst, IntKind.u32.wrap z.fst.fst, ()), (), (), ()))
    N ((x, 0, ()), (), (), ())
theorem E0_internal_strconv_formatBase10 (N : Nat) : runO0 Tryd.prog [] [] N Tryd.f120 (.seq .lf (.seq (.blk (.loop ⟨[(1, .d (.int .u64)), (4, .d (.int .i64))], [], [0], [], [], []⟩ .lf)) (.seq .lf (.join ⟨[(4, .d (.int .i64)), (12, .d (.int .u32))], [], [0], [], [], []⟩ .lf (.join ⟨[(4, .d (.int .i64)), (12, .d (.int .u32))], [], [0], [], [], []⟩ .lf .lf))))) .u8 [.d (.int .u64)] [] = F0_internal_strconv_formatBase10 N := by kernel_rfl
/-- internal/strconv.formatBase10 -/
noncomputable def F_internal_strconv_formatBase10 (N : Nat) : List (.u8 : Ty).T → Nat → FunA [.d (.int .u64)] (Option (List (.u8 : Ty).T × ResO [])) :=
  fun (l : List UInt8) (n : Nat) (x : Int) =>
  iter
    (fun (rec : (Int × Int × Unit) × Unit × Unit × List UInt8 × Unit → Option (List UInt8 × Unit))
        (z : (Int × Int × Unit) × Unit × Unit × List UInt8 × Unit) =>
      bif decide (8 ≤ z.fst.snd.fst) then
        (at?
              [48, 48, 48, 49, 48, 50, 48, 51, 48, 52, 48, 53, 48, 54, 48, 55, 48, 56, 48, 57, 49, 48, 49, 49, 49, 50,
                49, 51, 49, 52, 49, 53, 49, 54, 49, 55, 49, 56, 49, 57, 50, 48, 50, 49, 50, 50, 50, 51, 50, 52, 50, 53,
                50, 54, 50, 55, 50, 56, 50, 57, 51, 48, 51, 49, 51, 50, 51, 51, 51, 52, 51, 53, 51, 54, 51, 55, 51, 56,
                51, 57, 52, 48, 52, 49, 52, 50, 52, 51, 52, 52, 52, 53, 52, 54, 52, 55, 52, 56, 52, 57, 53, 48, 53, 49,
                53, 50, 53, 51, 53, 52, 53, 53, 53, 54, 53, 55, 53, 56, 53, 57, 54, 48, 54, 49, 54, 50, 54, 51, 54, 52,
                54, 53, 54, 54, 54, 55, 54, 56, 54, 57, 55, 48, 55, 49, 55, 50, 55, 51, 55, 52, 55, 53, 55, 54, 55, 55,
                55, 56, 55, 57, 56, 48, 56, 49, 56, 50, 56, 51, 56, 52, 56, 53, 56, 54, 56, 55, 56, 56, 56, 57, 57, 48,
                57, 49, 57, 50, 57, 51, 57, 52, 57, 53, 57, 54, 57, 55, 57, 56, 57, 57]
              (IntKind.u32.wrap
                (IntKind.u32.wrap (((IntKind.u32.wrap (z.fst.fst.tmod 100000000)).tmod 10000).tmod 100 * 2) + 1))).bind
          fun (c : UInt8) =>
          (at?
                [48, 48, 48, 49, 48, 50, 48, 51, 48, 52, 48, 53, 48, 54, 48, 55, 48, 56, 48, 57, 49, 48, 49, 49, 49, 50,
                  49, 51, 49, 52, 49, 53, 49, 54, 49, 55, 49, 56, 49, 57, 50, 48, 50, 49, 50, 50, 50, 51, 50, 52, 50,
                  53, 50, 54, 50, 55, 50, 56, 50, 57, 51, 48, 51, 49, 51, 50, 51, 51, 51, 52, 51, 53, 51, 54, 51, 55,
                  51, 56, 51, 57, 52, 48, 52, 49, 52, 50, 52, 51, 52, 52, 52, 53, 52, 54, 52, 55, 52, 56, 52, 57, 53,
                  48, 53, 49, 53, 50, 53, 51, 53, 52, 53, 53, 53, 54, 53, 55, 53, 56, 53, 57, 54, 48, 54, 49, 54, 50,
                  54, 51, 54, 52, 54, 53, 54, 54, 54, 55, 54, 56, 54, 57, 55, 48, 55, 49, 55, 50, 55, 51, 55, 52, 55,
                  53, 55, 54, 55, 55, 55, 56, 55, 57, 56, 48, 56, 49, 56, 50, 56, 51, 56, 52, 56, 53, 56, 54, 56, 55,
                  56, 56, 56, 57, 57, 48, 57, 49, 57, 50, 57, 51, 57, 52, 57, 53, 57, 54, 57, 55, 57, 56, 57, 57]
                (IntKind.u32.wrap (((IntKind.u32.wrap (z.fst.fst.tmod 100000000)).tmod 10000).tmod 100 * 2))).bind
            fun (c_1 : UInt8) =>
            bif
                decide (0 ≤ IntKind.i64.wrap (z.fst.snd.fst - 1)) &&
                  decide (IntKind.i64.wrap (z.fst.snd.fst - 1) < (↑n : Int)) then
              z.snd.snd.snd.fst[0 + (IntKind.i64.wrap (z.fst.snd.fst - 1)).toNat]?.bind fun (e : UInt8) =>
                bif
                    decide (0 ≤ IntKind.i64.wrap (z.fst.snd.fst - 2)) &&
                      decide (IntKind.i64.wrap (z.fst.snd.fst - 2) < (↑n : Int)) then
                  (z.snd.snd.snd.fst.set (0 + (IntKind.i64.wrap (z.fst.snd.fst - 1)).toNat)
                          c)[0 + (IntKind.i64.wrap (z.fst.snd.fst - 2)).toNat]?.bind
                    fun (e : UInt8) =>
                    (at?
                          [48, 48, 48, 49, 48, 50, 48, 51, 48, 52, 48, 53, 48, 54, 48, 55, 48, 56, 48, 57, 49, 48, 49,
                            49, 49, 50, 49, 51, 49, 52, 49, 53, 49, 54, 49, 55, 49, 56, 49, 57, 50, 48, 50, 49, 50, 50,
                            50, 51, 50, 52, 50, 53, 50, 54, 50, 55, 50, 56, 50, 57, 51, 48, 51, 49, 51, 50, 51, 51, 51,
                            52, 51, 53, 51, 54, 51, 55, 51, 56, 51, 57, 52, 48, 52, 49, 52, 50, 52, 51, 52, 52, 52, 53,
                            52, 54, 52, 55, 52, 56, 52, 57, 53, 48, 53, 49, 53, 50, 53, 51, 53, 52, 53, 53, 53, 54, 53,
                            55, 53, 56, 53, 57, 54, 48, 54, 49, 54, 50, 54, 51, 54, 52, 54, 53, 54, 54, 54, 55, 54, 56,
                            54, 57, 55, 48, 55, 49, 55, 50, 55, 51, 55, 52, 55, 53, 55, 54, 55, 55, 55, 56, 55, 57, 56,
                            48, 56, 49, 56, 50, 56, 51, 56, 52, 56, 53, 56, 54, 56, 55, 56, 56, 56, 57, 57, 48, 57, 49,
                            57, 50, 57, 51, 57, 52, 57, 53, 57, 54, 57, 55, 57, 56, 57, 57]
                          (IntKind.u32.wrap
                            (IntKind.u32.wrap
                                (IntKind.u32.wrap
                                    (((IntKind.u32.wrap (z.fst.fst.tmod 100000000)).tmod 10000).tdiv 100) *
                                  2) +
                              1))).bind
                      fun (c_2 : UInt8) =>
                      (at?
                            [48, 48, 48, 49, 48, 50, 48, 51, 48, 52, 48, 53, 48, 54, 48, 55, 48, 56, 48, 57, 49, 48, 49,
                              49, 49, 50, 49, 51, 49, 52, 49, 53, 49, 54, 49, 55, 49, 56, 49, 57, 50, 48, 50, 49, 50,
                              50, 50, 51, 50, 52, 50, 53, 50, 54, 50, 55, 50, 56, 50, 57, 51, 48, 51, 49, 51, 50, 51,
                              51, 51, 52, 51, 53, 51, 54, 51, 55, 51, 56, 51, 57, 52, 48, 52, 49, 52, 50, 52, 51, 52,
                              52, 52, 53, 52, 54, 52, 55, 52, 56, 52, 57, 53, 48, 53, 49, 53, 50, 53, 51, 53, 52, 53,
                              53, 53, 54, 53, 55, 53, 56, 53, 57, 54, 48, 54, 49, 54, 50, 54, 51, 54, 52, 54, 53, 54,
                              54, 54, 55, 54, 56, 54, 57, 55, 48, 55, 49, 55, 50, 55, 51, 55, 52, 55, 53, 55, 54, 55,
                              55, 55, 56, 55, 57, 56, 48, 56, 49, 56, 50, 56, 51, 56, 52, 56, 53, 56, 54, 56, 55, 56,
                              56, 56, 57, 57, 48, 57, 49, 57, 50, 57, 51, 57, 52, 57, 53, 57, 54, 57, 55, 57, 56, 57,
                              57]
                            (IntKind.u32.wrap
                              (IntKind.u32.wrap (((IntKind.u32.wrap (z.fst.fst.tmod 100000000)).tmod 10000).tdiv 100) *
                                2))).bind
                        fun (c_3 : UInt8) =>
                        bif
                            decide (0 ≤ IntKind.i64.wrap (z.fst.snd.fst - 3)) &&
                              decide (IntKind.i64.wrap (z.fst.snd.fst - 3) < (↑n : Int)) then
                          ((z.snd.snd.snd.fst.set (0 + (IntKind.i64.wrap (z.fst.snd.fst - 1)).toNat) c).set
                                  (0 + (IntKind.i64.wrap (z.fst.snd.fst - 2)).toNat)
                                  c_1)[0 + (IntKind.i64.wrap (z.fst.snd.fst - 3)).toNat]?.bind
                            fun (e : UInt8) =>
                            bif
                                decide (0 ≤ IntKind.i64.wrap (z.fst.snd.fst - 4)) &&
                                  decide (IntKind.i64.wrap (z.fst.snd.fst - 4) < (↑n : Int)) then
                              (((z.snd.snd.snd.fst.set (0 + (IntKind.i64.wrap (z.fst.snd.fst - 1)).toNat) c).set
                                          (0 + (IntKind.i64.wrap (z.fst.snd.fst - 2)).toNat) c_1).set
                                      (0 + (IntKind.i64.wrap (z.fst.snd.fst - 3)).toNat)
                                      c_2)[0 + (IntKind.i64.wrap (z.fst.snd.fst - 4)).toNat]?.bind
                                fun (e : UInt8) =>
                                (at?
                                      [48, 48, 48, 49, 48, 50, 48, 51, 48, 52, 48, 53, 48, 54, 48, 55, 48, 56, 48, 57,
                                        49, 48, 49, 49, 49, 50, 49, 51, 49, 52, 49, 53, 49, 54, 49, 55, 49, 56, 49, 57,
                                        50, 48, 50, 49, 50, 50, 50, 51, 50, 52, 50, 53, 50, 54, 50, 55, 50, 56, 50, 57,
                                        51, 48, 51, 49, 51, 50, 51, 51, 51, 52, 51, 53, 51, 54, 51, 55, 51, 56, 51, 57,
                                        52, 48, 52, 49, 52, 50, 52, 51, 52, 52, 52, 53, 52, 54, 52, 55, 52, 56, 52, 57,
                                        53, 48, 53, 49, 53, 50, 53, 51, 53, 52, 53, 53, 53, 54, 53, 55, 53, 56, 53, 57,
                                        54, 48, 54, 49, 54, 50, 54, 51, 54, 52, 54, 53, 54, 54, 54, 55, 54, 56, 54, 57,
                                        55, 48, 55, 49, 55, 50, 55, 51, 55, 52, 55, 53, 55, 54, 55, 55, 55, 56, 55, 57,
                                        56, 48, 56, 49, 56, 50, 56, 51, 56, 52, 56, 53, 56, 54, 56, 55, 56, 56, 56, 57,
                                        57, 48, 57, 49, 57, 50, 57, 51, 57, 52, 57, 53, 57, 54, 57, 55, 57, 56, 57, 57]
                                      (IntKind.u32.wrap
                                        (IntKind.u32.wrap
                                            ((IntKind.u32.wrap
                                                    ((IntKind.u32.wrap (z.fst.fst.tmod 100000000)).tdiv 10000)).tmod
                                                100 *
                                              2) +
                                          1))).bind
                                  fun (c_4 : UInt8) =>
                                  (at?
                                        [48, 48, 48, 49, 48, 50, 48, 51, 48, 52, 48, 53, 48, 54, 48, 55, 48, 56, 48, 57,
                                          49, 48, 49, 49, 49, 50, 49, 51, 49, 52, 49, 53, 49, 54, 49, 55, 49, 56, 49,
                                          57, 50, 48, 50, 49, 50, 50, 50, 51, 50, 52, 50, 53, 50, 54, 50, 55, 50, 56,
                                          50, 57, 51, 48, 51, 49, 51, 50, 51, 51, 51, 52, 51, 53, 51, 54, 51, 55, 51,
                                          56, 51, 57, 52, 48, 52, 49, 52, 50, 52, 51, 52, 52, 52, 53, 52, 54, 52, 55,
                                          52, 56, 52, 57, 53, 48, 53, 49, 53, 50, 53, 51, 53, 52, 53, 53, 53, 54, 53,
                                          55, 53, 56, 53, 57, 54, 48, 54, 49, 54, 50, 54, 51, 54, 52, 54, 53, 54, 54,
                                          54, 55, 54, 56, 54, 57, 55, 48, 55, 49, 55, 50, 55, 51, 55, 52, 55, 53, 55,
                                          54, 55, 55, 55, 56, 55, 57, 56, 48, 56, 49, 56, 50, 56, 51, 56, 52, 56, 53,
                                          56, 54, 56, 55, 56, 56, 56, 57, 57, 48, 57, 49, 57, 50, 57, 51, 57, 52, 57,
                                          53, 57, 54, 57, 55, 57, 56, 57, 57]
                                        (IntKind.u32.wrap
                                          ((IntKind.u32.wrap
                                                  ((IntKind.u32.wrap (z.fst.fst.tmod 100000000)).tdiv 10000)).tmod
                                              100 *
                                            2))).bind
                                    fun (c_5 : UInt8) =>
                                    bif
                                        decide (0 ≤ IntKind.i64.wrap (z.fst.snd.fst - 5)) &&
                                          decide (IntKind.i64.wrap (z.fst.snd.fst - 5) < (↑n : Int)) then
                                      ((((z.snd.snd.snd.fst.set (0 + (IntKind.i64.wrap (z.fst.snd.fst - 1)).toNat)
                                                          c).set
                                                      (0 + (IntKind.i64.wrap (z.fst.snd.fst - 2)).toNat) c_1).set
                                                  (0 + (IntKind.i64.wrap (z.fst.snd.fst - 3)).toNat) c_2).set
                                              (0 + (IntKind.i64.wrap (z.fst.snd.fst - 4)).toNat)
                                              c_3)[0 + (IntKind.i64.wrap (z.fst.snd.fst - 5)).toNat]?.bind
                                        fun (e : UInt8) =>
                                        bif
                                            decide (0 ≤ IntKind.i64.wrap (z.fst.snd.fst - 6)) &&
                                              decide (IntKind.i64.wrap (z.fst.snd.fst - 6) < (↑n : Int)) then
                                          (((((z.snd.snd.snd.fst.set (0 + (IntKind.i64.wrap (z.fst.snd.fst - 1)).toNat)
                                                                  c).set
                                                              (0 + (IntKind.i64.wrap (z.fst.snd.fst - 2)).toNat)
                                                              c_1).set
                                                          (0 + (IntKind.i64.wrap (z.fst.snd.fst - 3)).toNat) c_2).set
                                                      (0 + (IntKind.i64.wrap (z.fst.snd.fst - 4)).toNat) c_3).set
                                                  (0 + (IntKind.i64.wrap (z.fst.snd.fst - 5)).toNat)
                                                  c_4)[0 + (IntKind.i64.wrap (z.fst.snd.fst - 6)).toNat]?.bind
                                            fun (e : UInt8) =>
                                            (at?
                                                  [48, 48, 48, 49, 48, 50, 48, 51, 48, 52, 48, 53, 48, 54, 48, 55, 48,
                                                    56, 48, 57, 49, 48, 49, 49, 49, 50, 49, 51, 49, 52, 49, 53, 49, 54,
                                                    49, 55, 49, 56, 49, 57, 50, 48, 50, 49, 50, 50, 50, 51, 50, 52, 50,
                                                    53, 50, 54, 50, 55, 50, 56, 50, 57, 51, 48, 51, 49, 51, 50, 51, 51,
                                                    51, 52, 51, 53, 51, 54, 51, 55, 51, 56, 51, 57, 52, 48, 52, 49, 52,
                                                    50, 52, 51, 52, 52, 52, 53, 52, 54, 52, 55, 52, 56, 52, 57, 53, 48,
                                                    53, 49, 53, 50, 53, 51, 53, 52, 53, 53, 53, 54, 53, 55, 53, 56, 53,
                                                    57, 54, 48, 54, 49, 54, 50, 54, 51, 54, 52, 54, 53, 54, 54, 54, 55,
                                                    54, 56, 54, 57, 55, 48, 55, 49, 55, 50, 55, 51, 55, 52, 55, 53, 55,
                                                    54, 55, 55, 55, 56, 55, 57, 56, 48, 56, 49, 56, 50, 56, 51, 56, 52,
                                                    56, 53, 56, 54, 56, 55, 56, 56, 56, 57, 57, 48, 57, 49, 57, 50, 57,
                                                    51, 57, 52, 57, 53, 57, 54, 57, 55, 57, 56, 57, 57]
                                                  (IntKind.u32.wrap
                                                    (IntKind.u32.wrap
                                                        (IntKind.u32.wrap
                                                            ((IntKind.u32.wrap
                                                                  ((IntKind.u32.wrap (z.fst.fst.tmod 100000000)).tdiv
                                                                    10000)).tdiv
                                                              100) *
                                                          2) +
                                                      1))).bind
                                              fun (c_6 : UInt8) =>
                                              (at?
                                                    [48, 48, 48, 49, 48, 50, 48, 51, 48, 52, 48, 53, 48, 54, 48, 55, 48,
                                                      56, 48, 57, 49, 48, 49, 49, 49, 50, 49, 51, 49, 52, 49, 53, 49,
                                                      54, 49, 55, 49, 56, 49, 57, 50, 48, 50, 49, 50, 50, 50, 51, 50,
                                                      52, 50, 53, 50, 54, 50, 55, 50, 56, 50, 57, 51, 48, 51, 49, 51,
                                                      50, 51, 51, 51, 52, 51, 53, 51, 54, 51, 55, 51, 56, 51, 57, 52,
                                                      48, 52, 49, 52, 50, 52, 51, 52, 52, 52, 53, 52, 54, 52, 55, 52,
                                                      56, 52, 57, 53, 48, 53, 49, 53, 50, 53, 51, 53, 52, 53, 53, 53,
                                                      54, 53, 55, 53, 56, 53, 57, 54, 48, 54, 49, 54, 50, 54, 51, 54,
                                                      52, 54, 53, 54, 54, 54, 55, 54, 56, 54, 57, 55, 48, 55, 49, 55,
                                                      50, 55, 51, 55, 52, 55, 53, 55, 54, 55, 55, 55, 56, 55, 57, 56,
                                                      48, 56, 49, 56, 50, 56, 51, 56, 52, 56, 53, 56, 54, 56, 55, 56,
                                                      56, 56, 57, 57, 48, 57, 49, 57, 50, 57, 51, 57, 52, 57, 53, 57,
                                                      54, 57, 55, 57, 56, 57, 57]
                                                    (IntKind.u32.wrap
                                                      (IntKind.u32.wrap
                                                          ((IntKind.u32.wrap
                                                                ((IntKind.u32.wrap (z.fst.fst.tmod 100000000)).tdiv
                                                                  10000)).tdiv
                                                            100) *
                                                        2))).bind
                                                fun (c_7 : UInt8) =>
                                                bif
                                                    decide (0 ≤ IntKind.i64.wrap (z.fst.snd.fst - 7)) &&
                                                      decide (IntKind.i64.wrap (z.fst.snd.fst - 7) < (↑n : Int)) then
                                                  ((((((z.snd.snd.snd.fst.set
                                                                              (0 +
                                                                                (IntKind.i64.wrap
                                                                                    (z.fst.snd.fst - 1)).toNat)
                                                                              c).set
                                                                          (0 +
                                                                            (IntKind.i64.wrap
                                                                                (z.fst.snd.fst - 2)).toNat)
                                                                          c_1).set
                                                                      (0 + (IntKind.i64.wrap (z.fst.snd.fst - 3)).toNat)
                                                                      c_2).set
                                                                  (0 + (IntKind.i64.wrap (z.fst.snd.fst - 4)).toNat)
                                                                  c_3).set
                                                              (0 + (IntKind.i64.wrap (z.fst.snd.fst - 5)).toNat)
                                                              c_4).set
                                                          (0 + (IntKind.i64.wrap (z.fst.snd.fst - 6)).toNat)
                                                          c_5)[0 + (IntKind.i64.wrap (z.fst.snd.fst - 7)).toNat]?.bind
                                                    fun (e : UInt8) =>
                                                    bif
                                                        decide (0 ≤ IntKind.i64.wrap (z.fst.snd.fst - 8)) &&
                                                          decide
                                                            (IntKind.i64.wrap (z.fst.snd.fst - 8) < (↑n : Int)) then
                                                      (((((((z.snd.snd.snd.fst.set
                                                                                      (0 +
                                                                                        (IntKind.i64.wrap
                                                                                            (z.fst.snd.fst - 1)).toNat)
                                                                                      c).set
                                                                                  (0 +
                                                                                    (IntKind.i64.wrap
                                                                                        (z.fst.snd.fst - 2)).toNat)
                                                                                  c_1).set
                                                                              (0 +
                                                                                (IntKind.i64.wrap
                                                                                    (z.fst.snd.fst - 3)).toNat)
                                                                              c_2).set
                                                                          (0 +
                                                                            (IntKind.i64.wrap
                                                                                (z.fst.snd.fst - 4)).toNat)
                                                                          c_3).set
                                                                      (0 + (IntKind.i64.wrap (z.fst.snd.fst - 5)).toNat)
                                                                      c_4).set
                                                                  (0 + (IntKind.i64.wrap (z.fst.snd.fst - 6)).toNat)
                                                                  c_5).set
                                                              (0 + (IntKind.i64.wrap (z.fst.snd.fst - 7)).toNat)
                                                              c_6)[0 +
                                                              (IntKind.i64.wrap (z.fst.snd.fst - 8)).toNat]?.bind
                                                        fun (e : UInt8) =>
                                                        rec
                                                          ((IntKind.u64.wrap (z.fst.fst.tdiv 100000000),
                                                              IntKind.i64.wrap (z.fst.snd.fst - 8), ()),
                                                            (), (),
                                                            (((((((z.snd.snd.snd.fst.set
                                                                                          (0 +
                                                                                            (IntKind.i64.wrap
                                                                                                (z.fst.snd.fst -
                                                                                                  1)).toNat)
                                                                                          c).set
                                                                                      (0 +
                                                                                        (IntKind.i64.wrap
                                                                                            (z.fst.snd.fst - 2)).toNat)
                                                                                      c_1).set
                                                                                  (0 +
                                                                                    (IntKind.i64.wrap
                                                                                        (z.fst.snd.fst - 3)).toNat)
                                                                                  c_2).set
                                                                              (0 +
                                                                                (IntKind.i64.wrap
                                                                                    (z.fst.snd.fst - 4)).toNat)
                                                                              c_3).set
                                                                          (0 +
                                                                            (IntKind.i64.wrap
                                                                                (z.fst.snd.fst - 5)).toNat)
                                                                          c_4).set
                                                                      (0 + (IntKind.i64.wrap (z.fst.snd.fst - 6)).toNat)
                                                                      c_5).set
                                                                  (0 + (IntKind.i64.wrap (z.fst.snd.fst - 7)).toNat)
                                                                  c_6).set
                                                              (0 + (IntKind.i64.wrap (z.fst.snd.fst - 8)).toNat) c_7,
                                                            ())
                                                    else none
                                                else none
                                        else none
                                    else none
                            else none
                        else none
                else none
            else none
      else
        joinAt
          (fun (z : (Int × Int × Unit) × Unit × Unit × List UInt8 × Unit) =>
            joinAt
              (fun (z : (Int × Int × Unit) × Unit × Unit × List UInt8 × Unit) =>
                bif decide (0 < z.fst.fst) then
                  bif decide (0 < (↑n : Int)) then
                    z.snd.snd.snd.fst[0]?.bind fun (e : UInt8) =>
                      some
                        (z.snd.snd.snd.fst.set 0 (toU8 (IntKind.u8.wrap (IntKind.u32.wrap (48 + z.fst.snd.fst)))), ())
                  else none
                else some (z.snd.snd.snd.fst, ()))
              fun (k : (Int × Int × Unit) × Unit × Unit × List UInt8 × Unit → Option (List UInt8 × Unit)) =>
              bif decide (2 ≤ z.fst.fst) then
                (at?
                      [48, 48, 48, 49, 48, 50, 48, 51, 48, 52, 48, 53, 48, 54, 48, 55, 48, 56, 48, 57, 49, 48, 49, 49,
                        49, 50, 49, 51, 49, 52, 49, 53, 49, 54, 49, 55, 49, 56, 49, 57, 50, 48, 50, 49, 50, 50, 50, 51,
                        50, 52, 50, 53, 50, 54, 50, 55, 50, 56, 50, 57, 51, 48, 51, 49, 51, 50, 51, 51, 51, 52, 51, 53,
                        51, 54, 51, 55, 51, 56, 51, 57, 52, 48, 52, 49, 52, 50, 52, 51, 52, 52, 52, 53, 52, 54, 52, 55,
                        52, 56, 52, 57, 53, 48, 53, 49, 53, 50, 53, 51, 53, 52, 53, 53, 53, 54, 53, 55, 53, 56, 53, 57,
                        54, 48, 54, 49, 54, 50, 54, 51, 54, 52, 54, 53, 54, 54, 54, 55, 54, 56, 54, 57, 55, 48, 55, 49,
                        55, 50, 55, 51, 55, 52, 55, 53, 55, 54, 55, 55, 55, 56, 55, 57, 56, 48, 56, 49, 56, 50, 56, 51,
                        56, 52, 56, 53, 56, 54, 56, 55, 56, 56, 56, 57, 57, 48, 57, 49, 57, 50, 57, 51, 57, 52, 57, 53,
                        57, 54, 57, 55, 57, 56, 57, 57]
                      (IntKind.u32.wrap (IntKind.u32.wrap (z.fst.snd.fst.tmod 100 * 2) + 1))).bind
                  fun (c : UInt8) =>
                  (at?
                        [48, 48, 48, 49, 48, 50, 48, 51, 48, 52, 48, 53, 48, 54, 48, 55, 48, 56, 48, 57, 49, 48, 49, 49,
                          49, 50, 49, 51, 49, 52, 49, 53, 49, 54, 49, 55, 49, 56, 49, 57, 50, 48, 50, 49, 50, 50, 50,
                          51, 50, 52, 50, 53, 50, 54, 50, 55, 50, 56, 50, 57, 51, 48, 51, 49, 51, 50, 51, 51, 51, 52,
                          51, 53, 51, 54, 51, 55, 51, 56, 51, 57, 52, 48, 52, 49, 52, 50, 52, 51, 52, 52, 52, 53, 52,
                          54, 52, 55, 52, 56, 52, 57, 53, 48, 53, 49, 53, 50, 53, 51, 53, 52, 53, 53, 53, 54, 53, 55,
                          53, 56, 53, 57, 54, 48, 54, 49, 54, 50, 54, 51, 54, 52, 54, 53, 54, 54, 54, 55, 54, 56, 54,
                          57, 55, 48, 55, 49, 55, 50, 55, 51, 55, 52, 55, 53, 55, 54, 55, 55, 55, 56, 55, 57, 56, 48,
                          56, 49, 56, 50, 56, 51, 56, 52, 56, 53, 56, 54, 56, 55, 56, 56, 56, 57, 57, 48, 57, 49, 57,
                          50, 57, 51, 57, 52, 57, 53, 57, 54, 57, 55, 57, 56, 57, 57]
                        (IntKind.u32.wrap (z.fst.snd.fst.tmod 100 * 2))).bind
                    fun (c_1 : UInt8) =>
                    bif
                        decide (0 ≤ IntKind.i64.wrap (z.fst.fst - 1)) &&
                          decide (IntKind.i64.wrap (z.fst.fst - 1) < (↑n : Int)) then
                      z.snd.snd.snd.fst[0 + (IntKind.i64.wrap (z.fst.fst - 1)).toNat]?.bind fun (e : UInt8) =>
                        bif
                            decide (0 ≤ IntKind.i64.wrap (z.fst.fst - 2)) &&
                              decide (IntKind.i64.wrap (z.fst.fst - 2) < (↑n : Int)) then
                          (z.snd.snd.snd.fst.set (0 + (IntKind.i64.wrap (z.fst.fst - 1)).toNat)
                                  c)[0 + (IntKind.i64.wrap (z.fst.fst - 2)).toNat]?.bind
                            fun (e : UInt8) =>
                            k
                              ((IntKind.i64.wrap (z.fst.fst - 2), IntKind.u32.wrap (z.fst.snd.fst.tdiv 100), ()), (),
                                (),
                                (z.snd.snd.snd.fst.set (0 + (IntKind.i64.wrap (z.fst.fst - 1)).toNat) c).set
                                  (0 + (IntKind.i64.wrap (z.fst.fst - 2)).toNat) c_1,
                                ())
                        else none
                    else none
              else k ((z.fst.fst, z.fst.snd.fst, ()), (), (), z.snd.snd.snd.fst, ()))
          fun (k : (Int × Int × Unit) × Unit × Unit × List UInt8 × Unit → Option (List UInt8 × Unit)) =>
          bif decide (4 ≤ z.fst.snd.fst) then
            (at?
                  [48, 48, 48, 49, 48, 50, 48, 51, 48, 52, 48, 53, 48, 54, 48, 55, 48, 56, 48, 57, 49, 48, 49, 49, 49,
                    50, 49, 51, 49, 52, 49, 53, 49, 54, 49, 55, 49, 56, 49, 57, 50, 48, 50, 49, 50, 50, 50, 51, 50, 52,
                    50, 53, 50, 54, 50, 55, 50, 56, 50, 57, 51, 48, 51, 49, 51, 50, 51, 51, 51, 52, 51, 53, 51, 54, 51,
                    55, 51, 56, 51, 57, 52, 48, 52, 49, 52, 50, 52, 51, 52, 52, 52, 53, 52, 54, 52, 55, 52, 56, 52, 57,
                    53, 48, 53, 49, 53, 50, 53, 51, 53, 52, 53, 53, 53, 54, 53, 55, 53, 56, 53, 57, 54, 48, 54, 49, 54,
                    50, 54, 51, 54, 52, 54, 53, 54, 54, 54, 55, 54, 56, 54, 57, 55, 48, 55, 49, 55, 50, 55, 51, 55, 52,
                    55, 53, 55, 54, 55, 55, 55, 56, 55, 57, 56, 48, 56, 49, 56, 50, 56, 51, 56, 52, 56, 53, 56, 54, 56,
                    55, 56, 56, 56, 57, 57, 48, 57, 49, 57, 50, 57, 51, 57, 52, 57, 53, 57, 54, 57, 55, 57, 56, 57, 57]
                  (IntKind.u32.wrap
                    (IntKind.u32.wrap (((IntKind.u32.wrap z.fst.fst).tmod 10000).tmod 100 * 2) + 1))).bind
              fun (c : UInt8) =>
              (at?
                    [48, 48, 48, 49, 48, 50, 48, 51, 48, 52, 48, 53, 48, 54, 48, 55, 48, 56, 48, 57, 49, 48, 49, 49, 49,
                      50, 49, 51, 49, 52, 49, 53, 49, 54, 49, 55, 49, 56, 49, 57, 50, 48, 50, 49, 50, 50, 50, 51, 50,
                      52, 50, 53, 50, 54, 50, 55, 50, 56, 50, 57, 51, 48, 51, 49, 51, 50, 51, 51, 51, 52, 51, 53, 51,
                      54, 51, 55, 51, 56, 51, 57, 52, 48, 52, 49, 52, 50, 52, 51, 52, 52, 52, 53, 52, 54, 52, 55, 52,
                      56, 52, 57, 53, 48, 53, 49, 53, 50, 53, 51, 53, 52, 53, 53, 53, 54, 53, 55, 53, 56, 53, 57, 54,
                      48, 54, 49, 54, 50, 54, 51, 54, 52, 54, 53, 54, 54, 54, 55, 54, 56, 54, 57, 55, 48, 55, 49, 55,
                      50, 55, 51, 55, 52, 55, 53, 55, 54, 55, 55, 55, 56, 55, 57, 56, 48, 56, 49, 56, 50, 56, 51, 56,
                      52, 56, 53, 56, 54, 56, 55, 56, 56, 56, 57, 57, 48, 57, 49, 57, 50, 57, 51, 57, 52, 57, 53, 57,
                      54, 57, 55, 57, 56, 57, 57]
                    (IntKind.u32.wrap (((IntKind.u32.wrap z.fst.fst).tmod 10000).tmod 100 * 2))).bind
                fun (c_1 : UInt8) =>
                bif
                    decide (0 ≤ IntKind.i64.wrap (z.fst.snd.fst - 1)) &&
                      decide (IntKind.i64.wrap (z.fst.snd.fst - 1) < (↑n : Int)) then
                  z.snd.snd.snd.fst[0 + (IntKind.i64.wrap (z.fst.snd.fst - 1)).toNat]?.bind fun (e : UInt8) =>
                    bif
                        decide (0 ≤ IntKind.i64.wrap (z.fst.snd.fst - 2)) &&
                          decide (IntKind.i64.wrap (z.fst.snd.fst - 2) < (↑n : Int)) then
                      (z.snd.snd.snd.fst.set (0 + (IntKind.i64.wrap (z.fst.snd.fst - 1)).toNat)
                              c)[0 + (IntKind.i64.wrap (z.fst.snd.fst - 2)).toNat]?.bind
                        fun (e : UInt8) =>
                        (at?
                              [48, 48, 48, 49, 48, 50, 48, 51, 48, 52, 48, 53, 48, 54, 48, 55, 48, 56, 48, 57, 49, 48,
                                49, 49, 49, 50, 49, 51, 49, 52, 49, 53, 49, 54, 49, 55, 49, 56, 49, 57, 50, 48, 50, 49,
                                50, 50, 50, 51, 50, 52, 50, 53, 50, 54, 50, 55, 50, 56, 50, 57, 51, 48, 51, 49, 51, 50,
                                51, 51, 51, 52, 51, 53, 51, 54, 51, 55, 51, 56, 51, 57, 52, 48, 52, 49, 52, 50, 52, 51,
                                52, 52, 52, 53, 52, 54, 52, 55, 52, 56, 52, 57, 53, 48, 53, 49, 53, 50, 53, 51, 53, 52,
                                53, 53, 53, 54, 53, 55, 53, 56, 53, 57, 54, 48, 54, 49, 54, 50, 54, 51, 54, 52, 54, 53,
                                54, 54, 54, 55, 54, 56, 54, 57, 55, 48, 55, 49, 55, 50, 55, 51, 55, 52, 55, 53, 55, 54,
                                55, 55, 55, 56, 55, 57, 56, 48, 56, 49, 56, 50, 56, 51, 56, 52, 56, 53, 56, 54, 56, 55,
                                56, 56, 56, 57, 57, 48, 57, 49, 57, 50, 57, 51, 57, 52, 57, 53, 57, 54, 57, 55, 57, 56,
                                57, 57]
                              (IntKind.u32.wrap
                                (IntKind.u32.wrap
                                    (IntKind.u32.wrap (((IntKind.u32.wrap z.fst.fst).tmod 10000).tdiv 100) * 2) +
                                  1))).bind
                          fun (c_2 : UInt8) =>
                          (at?
                                [48, 48, 48, 49, 48, 50, 48, 51, 48, 52, 48, 53, 48, 54, 48, 55, 48, 56, 48, 57, 49, 48,
                                  49, 49, 49, 50, 49, 51, 49, 52, 49, 53, 49, 54, 49, 55, 49, 56, 49, 57, 50, 48, 50,
                                  49, 50, 50, 50, 51, 50, 52, 50, 53, 50, 54, 50, 55, 50, 56, 50, 57, 51, 48, 51, 49,
                                  51, 50, 51, 51, 51, 52, 51, 53, 51, 54, 51, 55, 51, 56, 51, 57, 52, 48, 52, 49, 52,
                                  50, 52, 51, 52, 52, 52, 53, 52, 54, 52, 55, 52, 56, 52, 57, 53, 48, 53, 49, 53, 50,
                                  53, 51, 53, 52, 53, 53, 53, 54, 53, 55, 53, 56, 53, 57, 54, 48, 54, 49, 54, 50, 54,
                                  51, 54, 52, 54, 53, 54, 54, 54, 55, 54, 56, 54, 57, 55, 48, 55, 49, 55, 50, 55, 51,
                                  55, 52, 55, 53, 55, 54, 55, 55, 55, 56, 55, 57, 56, 48, 56, 49, 56, 50, 56, 51, 56,
                                  52, 56, 53, 56, 54, 56, 55, 56, 56, 56, 57, 57, 48, 57, 49, 57, 50, 57, 51, 57, 52,
                                  57, 53, 57, 54, 57, 55, 57, 56, 57, 57]
                                (IntKind.u32.wrap
                                  (IntKind.u32.wrap (((IntKind.u32.wrap z.fst.fst).tmod 10000).tdiv 100) * 2))).bind
                            fun (c_3 : UInt8) =>
                            bif
                                decide (0 ≤ IntKind.i64.wrap (z.fst.snd.fst - 3)) &&
                                  decide (IntKind.i64.wrap (z.fst.snd.fst - 3) < (↑n : Int)) then
                              ((z.snd.snd.snd.fst.set (0 + (IntKind.i64.wrap (z.fst.snd.fst - 1)).toNat) c).set
                                      (0 + (IntKind.i64.wrap (z.fst.snd.fst - 2)).toNat)
                                      c_1)[0 + (IntKind.i64.wrap (z.fst.snd.fst - 3)).toNat]?.bind
                                fun (e : UInt8) =>
                                bif
                                    decide (0 ≤ IntKind.i64.wrap (z.fst.snd.fst - 4)) &&
                                      decide (IntKind.i64.wrap (z.fst.snd.fst - 4) < (↑n : Int)) then
                                  (((z.snd.snd.snd.fst.set (0 + (IntKind.i64.wrap (z.fst.snd.fst - 1)).toNat) c).set
                                              (0 + (IntKind.i64.wrap (z.fst.snd.fst - 2)).toNat) c_1).set
                                          (0 + (IntKind.i64.wrap (z.fst.snd.fst - 3)).toNat)
                                          c_2)[0 + (IntKind.i64.wrap (z.fst.snd.fst - 4)).toNat]?.bind
                                    fun (e : UInt8) =>
                                    k
                                      ((IntKind.i64.wrap (z.fst.snd.fst - 4),
                                          IntKind.u32.wrap ((IntKind.u32.wrap z.fst.fst).tdiv 10000), ()),
                                        (), (),
                                        (((z.snd.snd.snd.fst.set (0 + (IntKind.i64.wrap (z.fst.snd.fst - 1)).toNat)
                                                      c).set
                                                  (0 + (IntKind.i64.wrap (z.fst.snd.fst - 2)).toNat) c_1).set
                                              (0 + (IntKind.i64.wrap (z.fst.snd.fst - 3)).toNat) c_2).set
                                          (0 + (IntKind.i64.wrap (z.fst.snd.fst - 4)).toNat) c_3,
                                        ())
                                else none
                            else none
                    else none
                else none
          else k ((z.fst.snd.fst, IntKind.u32.wrap z.fst.fst, ()), (), (), z.snd.snd.snd.fst, ()))
    N ((x, (↑n : Int), ()), (), (), l, ())
theorem E_internal_strconv_formatBase10 (N : Nat) : runO Tryd.prog [] [] N Tryd.f120 (.seq .lf (.seq (.blk (.loop ⟨[(1, .d (.int .u64)), (4, .d (.int .i64))], [], [0], [], [], [(1, .arr .u8)]⟩ .lf)) (.seq .lf (.join ⟨[(4, .d (.int .i64)), (12, .d (.int .u32))], [], [0], [], [], [(1, .arr .u8)]⟩ .lf (.join ⟨[(4, .d (.int .i64)), (12, .d (.int .u32))], [], [0], [], [], [(1, .arr .u8)]⟩ .lf .lf))))) .u8 [.d (.int .u64)] [] = F_internal_strconv_formatBase10 N := by kernel_rfl
noncomputable def e_internal_strconv_formatBase10 (N : Nat) : Ent Tryd.prog := mkO2 120 Tryd.f120 (.seq .lf (.seq (.blk (.loop ⟨[(1, .d (.int .u64)), (4, .d (.int .i64))], [], [0], [], [], [(1, .arr .u8)]⟩ .lf)) (.seq .lf (.join ⟨[(4, .d (.int .i64)), (12, .d (.int .u32))], [], [0], [], [], [(1, .arr .u8)]⟩ .lf (.join ⟨[(4, .d (.int .i64)), (12, .d (.int .u32))], [], [0], [], [], [(1, .arr .u8)]⟩ .lf .lf))))) (.seq .lf (.seq (.blk (.loop ⟨[(1, .d (.int .u64)), (4, .d (.int .i64))], [], [0], [], [], []⟩ .lf)) (.seq .lf (.join ⟨[(4, .d (.int .i64)), (12, .d (.int .u32))], [], [0], [], [], []⟩ .lf (.join ⟨[(4, .d (.int .i64)), (12, .d (.int .u32))], [], [0], [], [], []⟩ .lf .lf))))) .u8 [.d (.int .u64)] [] (F_internal_strconv_formatBase10 N) (F0_internal_strconv_formatBase10 N) mixed Tryd.func120 (.mk' Tryd.func120 rfl (by decide)) rfl (E_internal_strconv_formatBase10 N) (E0_internal_strconv_formatBase10 N)
noncomputable def e_internal_strconv_formatBits (N : Nat) : Ent Tryd.prog := mkNone 121
/-- internal/strconv.FormatUint -/
noncomputable def F_internal_strconv_FormatUint (N : Nat) : Fun [(.int .u64), (.int .i64), (.tab (.int .u64))] (Option (ResT [.str])) :=
  fun (x x_1 : Int) (x_2 : List Int) =>
  bif x_1 == 10 then
    bif decide (x < 100) then
      Option.bind (F_internal_strconv_small N (IntKind.i64.wrap x)) fun (y : List UInt8) => some y
    else
      Option.bind (F_internal_strconv_numDigits N x x_2) fun (y : Int) =>
        bif cutOk 0 y 24 then
          Option.bind (F_internal_strconv_formatBase10 N (List.replicate 24 0) (y.toNat - 0) x)
            fun (y_1 : List UInt8 × Unit) =>
            bif Nat.ble 24 y_1.fst.length then
              bif cutOk 0 y 24 then
                bif (0 + (y.toNat - 0)).ble y_1.fst.length then some (List.take (y.toNat - 0) (List.drop 0 y_1.fst))
                else none
              else none
            else none
        else none
  else none
theorem E_internal_strconv_FormatUint (N : Nat) : runG Tryd.prog [e_internal_strconv_small N, e_internal_strconv_numDigits N, e_internal_strconv_formatBase10 N, e_internal_strconv_formatBits N] [5] N Tryd.f90 .lf [(.int .u64), (.int .i64), (.tab (.int .u64))] [.str] 2 [3] = F_internal_strconv_FormatUint N := by kernel_rfl
noncomputable def e_internal_strconv_FormatUint (N : Nat) : Ent Tryd.prog := mkFnG 90 Tryd.f90 .lf [(.int .u64), (.int .i64), (.tab (.int .u64))] [.str] 2 [3] (F_internal_strconv_FormatUint N) mixed Tryd.func90 (.mk' Tryd.func90 rfl (by decide)) rfl (E_internal_strconv_FormatUint N)
/-- strconv.FormatUint -/
noncomputable def F_strconv_FormatUint (N : Nat) : Fun [(.int .u64), (.int .i64), (.tab (.int .u64))] (Option (ResT [.str])) :=
  fun (x x_1 : Int) (x_2 : List Int) =>
  Option.bind (F_internal_strconv_FormatUint N x x_1 x_2) fun (y : List UInt8) => some y
theorem E_strconv_FormatUint (N : Nat) : runG Tryd.prog [e_internal_strconv_FormatUint N] [] N Tryd.f45 .lf [(.int .u64), (.int .i64), (.tab (.int .u64))] [.str] 2 [3] = F_strconv_FormatUint N := by kernel_rfl
noncomputable def e_strconv_FormatUint (N : Nat) : Ent Tryd.prog := mkFnG 45 Tryd.f45 .lf [(.int .u64), (.int .i64), (.tab (.int .u64))] [.str] 2 [3] (F_strconv_FormatUint N) mixed Tryd.func45 (.mk' Tryd.func45 rfl (by decide)) rfl (E_strconv_FormatUint N)
/-- epitaph/dot.Text -/
noncomputable def F_dot_Text (N : Nat) : Fun [tDot, (.tab (.int .u64))] (Option (ResT [.str])) :=
  fun (x : Int × Int) (x_1 : List Int) =>
  Option.bind (F_strconv_FormatUint N (IntKind.u64.wrap x.fst) 10 x_1) fun (y : List UInt8) =>
    bif decide (y.length + 1 ≤ 4611686018427387904) then
      Option.bind (F_strconv_FormatUint N x.snd 10 x_1) fun (y_1 : List UInt8) =>
        bif decide ((y ++ [46]).length + y_1.length ≤ 4611686018427387904) then some (y ++ [46] ++ y_1) else none
    else none
theorem E_dot_Text (N : Nat) : runG Tryd.prog [e_strconv_FormatUint N] [] N Tryd.f34 .lf [tDot, (.tab (.int .u64))] [.str] 1 [3] = F_dot_Text N := by kernel_rfl
noncomputable def e_dot_Text (N : Nat) : Ent Tryd.prog := mkFnG 34 Tryd.f34 .lf [tDot, (.tab (.int .u64))] [.str] 1 [3] (F_dot_Text N) mixed Tryd.func34 (.mk' Tryd.func34 rfl (by decide)) rfl (E_dot_Text N)
/-- epitaph/dot.Good -/
noncomputable def F_dot_Good (N : Nat) : Fun [tDot] (Option (ResT [.bool])) :=
  fun (x : Int × Int) =>
  bif decide (0 < x.fst) then bif decide (0 < x.snd) then some (decide (x.snd ≤ 281474976710655)) else some false
  else some false
theorem E_dot_Good (N : Nat) : runF Tryd.prog [] [] N Tryd.f38 .lf [tDot] [.bool] = F_dot_Good N := by kernel_rfl
noncomputable def e_dot_Good (N : Nat) : Ent Tryd.prog := mkFn 38 Tryd.f38 .lf [tDot] [.bool] (F_dot_Good N) mixed Tryd.func38 (.mk' Tryd.func38 rfl (by decide)) rfl (E_dot_Good N)
noncomputable def e_internal_bytealg_IndexByteString (N : Nat) : Ent Tryd.prog := mkIdxByte 158 ⟨_, rfl, rfl, rfl, by kernel_rfl, by kernel_rfl⟩
/-- internal/stringslite.IndexByte -/
noncomputable def F_internal_stringslite_IndexByte (N : Nat) : Fun [.str, .u8] (Option (ResT [(.int .i64)])) :=
  fun (x : List UInt8) (x_1 : UInt8) => some (Lib.indexByte x x_1)
theorem E_internal_stringslite_IndexByte (N : Nat) : runF Tryd.prog [e_internal_bytealg_IndexByteString N] [] N Tryd.f133 .lf [.str, .u8] [(.int .i64)] = F_internal_stringslite_IndexByte N := by kernel_rfl
noncomputable def e_internal_stringslite_IndexByte (N : Nat) : Ent Tryd.prog := mkFn 133 Tryd.f133 .lf [.str, .u8] [(.int .i64)] (F_internal_stringslite_IndexByte N) mixed Tryd.func133 (.mk' Tryd.func133 rfl (by decide)) rfl (E_internal_stringslite_IndexByte N)
noncomputable def e_internal_bytealg_IndexString (N : Nat) : Ent Tryd.prog := mkNone 134
noncomputable def e_internal_bytealg_Cutover (N : Nat) : Ent Tryd.prog := mkNone 135
noncomputable def e_internal_bytealg_IndexRabinKarp_string (N : Nat) : Ent Tryd.prog := mkNone 136
/-- internal/stringslite.Index -/
noncomputable def F_internal_stringslite_Index (N : Nat) : Fun [.str, .str] (Option (ResT [(.int .i64)])) :=
  fun (x x_1 : List UInt8) =>
  bif (↑x_1.length : Int) == 0 then some 0
  else
    bif x_1 == x then some 0
    else
      bif (↑x_1.length : Int) == 1 then
        x_1[0]?.bind fun (c : UInt8) => Option.bind (F_internal_stringslite_IndexByte N x c) fun (y : Int) => some y
      else bif decide ((↑x.length : Int) ≤ (↑x_1.length : Int)) then some (-1) else none
theorem E_internal_stringslite_Index (N : Nat) : runF Tryd.prog [e_internal_stringslite_IndexByte N, e_internal_bytealg_IndexString N, e_internal_bytealg_Cutover N, e_internal_bytealg_IndexRabinKarp_string N] [] N Tryd.f111 (.seq .lf (.seq .lf (.seq (.blk (.seq .lf (.cond .lf (.seq .lf (.cond .lf (.seq .lf (.cond .lf .stop))))))) (.seq .lf (.seq .lf (.seq .lf (.seq .lf (.seq .lf (.seq (.blk (.loop ⟨[(8, .d (.int .i64)), (10, .d (.int .i64))], [], [0, 1, 5, 6, 7, 9], [], [], []⟩ (.seq .lf (.blk (.join ⟨[(8, .d (.int .i64))], [], [0, 1, 5, 6, 7, 9, 10], [], [], []⟩ .lf .lf))))) .lf))))))))) [.str, .str] [(.int .i64)] = F_internal_stringslite_Index N := by kernel_rfl
noncomputable def e_internal_stringslite_Index (N : Nat) : Ent Tryd.prog := mkFn 111 Tryd.f111 (.seq .lf (.seq .lf (.seq (.blk (.seq .lf (.cond .lf (.seq .lf (.cond .lf (.seq .lf (.cond .lf .stop))))))) (.seq .lf (.seq .lf (.seq .lf (.seq .lf (.seq .lf (.seq (.blk (.loop ⟨[(8, .d (.int .i64)), (10, .d (.int .i64))], [], [0, 1, 5, 6, 7, 9], [], [], []⟩ (.seq .lf (.blk (.join ⟨[(8, .d (.int .i64))], [], [0, 1, 5, 6, 7, 9, 10], [], [], []⟩ .lf .lf))))) .lf))))))))) [.str, .str] [(.int .i64)] (F_internal_stringslite_Index N) mixed Tryd.func111 (.mk' Tryd.func111 rfl (by decide)) rfl (E_internal_stringslite_Index N)
/-- internal/stringslite.Cut -/
noncomputable def F_internal_stringslite_Cut (N : Nat) : Fun [.str, .str] (Option (ResT [.str, .str, .bool])) :=
  fun (x x_1 : List UInt8) =>
  Option.bind (F_internal_stringslite_Index N x x_1) fun (y : Int) =>
    bif decide (0 ≤ y) then
      bif cutOk 0 y x.length then
        bif cutOk (IntKind.i64.wrap (y + (↑x_1.length : Int))) (↑x.length : Int) x.length then
          some (List.take y.toNat x, List.drop (IntKind.i64.wrap (y + (↑x_1.length : Int))).toNat x, true)
        else none
      else none
    else some (x, [], false)
theorem E_internal_stringslite_Cut (N : Nat) : runF Tryd.prog [e_internal_stringslite_Index N] [] N Tryd.f98 .lf [.str, .str] [.str, .str, .bool] = F_internal_stringslite_Cut N := by kernel_rfl
noncomputable def e_internal_stringslite_Cut (N : Nat) : Ent Tryd.prog := mkFn 98 Tryd.f98 .lf [.str, .str] [.str, .str, .bool] (F_internal_stringslite_Cut N) mixed Tryd.func98 (.mk' Tryd.func98 rfl (by decide)) rfl (E_internal_stringslite_Cut N)
/-- strings.Cut -/
noncomputable def F_strings_Cut (N : Nat) : Fun [.str, .str] (Option (ResT [.str, .str, .bool])) :=
  fun (x x_1 : List UInt8) =>
  Option.bind (F_internal_stringslite_Cut N x x_1) fun (y : List UInt8 × List UInt8 × Bool) => some y
theorem E_strings_Cut (N : Nat) : runF Tryd.prog [e_internal_stringslite_Cut N] [] N Tryd.f63 .lf [.str, .str] [.str, .str, .bool] = F_strings_Cut N := by kernel_rfl
noncomputable def e_strings_Cut (N : Nat) : Ent Tryd.prog := mkFn 63 Tryd.f63 .lf [.str, .str] [.str, .str, .bool] (F_strings_Cut N) mixed Tryd.func63 (.mk' Tryd.func63 rfl (by decide)) rfl (E_strings_Cut N)
/-- internal/strconv.lower -/
noncomputable def F_internal_strconv_lower (N : Nat) : Fun [.u8] (Option (ResT [.u8])) :=
  fun (x : UInt8) => some (toU8 (bits BinOp.or IntKind.u8 (↑x.toNat : Int) 32))
theorem E_internal_strconv_lower (N : Nat) : runF Tryd.prog [] [] N Tryd.f125 .lf [.u8] [.u8] = F_internal_strconv_lower N := by kernel_rfl
noncomputable def e_internal_strconv_lower (N : Nat) : Ent Tryd.prog := mkFn 125 Tryd.f125 .lf [.u8] [.u8] (F_internal_strconv_lower N) mixed Tryd.func125 (.mk' Tryd.func125 rfl (by decide)) rfl (E_internal_strconv_lower N)
noncomputable def e_internal_strconv_underscoreOK (N : Nat) : Ent Tryd.prog := mkNone 126
/-- internal/strconv.ParseUint -/
noncomputable def F_internal_strconv_ParseUint (N : Nat) : Fun [.str, (.int .i64), (.int .i64)] (Option (ResT [(.int .u64), (.ic 148 .i64)])) :=
  fun (x : List UInt8) (x_1 x_2 : Int) =>
  bif x == [] then some (0, some 2)
  else
    joinAt
      (fun (z : (List UInt8 × Int × Unit) × Unit × Unit × Unit) =>
        joinAt
          (fun (z_1 : (Int × Unit) × Unit × Unit × Unit) =>
            joinAt
              (fun (z_2 : (Int × Unit) × Unit × Unit × Unit) =>
                bif decide (0 ≤ IntKind.u64.wrap z_1.fst.fst) then
                  iter
                    (fun (rec : (Bool × Int × Int × Unit) × Unit × Unit × Unit → Option (Int × Option Int))
                        (z_3 : (Bool × Int × Int × Unit) × Unit × Unit × Unit) =>
                      bif decide (z_3.fst.snd.snd.fst < (↑z.fst.fst.length : Int)) then
                        (at? z.fst.fst z_3.fst.snd.snd.fst).bind fun (e : UInt8) =>
                          joinAt
                            (fun (z_4 : (Bool × UInt8 × Unit) × Unit × Unit × Unit) =>
                              bif decide (toU8 (IntKind.u8.wrap z.fst.snd.fst) ≤ z_4.fst.snd.fst) then some (0, some 2)
                              else
                                bif decide (z_2.fst.fst ≤ z_3.fst.snd.fst) then
                                  some
                                    (IntKind.u64.wrap
                                        (IntKind.u64.wrap (1 * 2 ^ min (IntKind.u64.wrap z_1.fst.fst).toNat 64) - 1),
                                      some 1)
                                else
                                  bif
                                      decide
                                        (IntKind.u64.wrap
                                            (IntKind.u64.wrap (z_3.fst.snd.fst * IntKind.u64.wrap z.fst.snd.fst) +
                                              (↑z_4.fst.snd.fst.toNat : Int)) <
                                          IntKind.u64.wrap (z_3.fst.snd.fst * IntKind.u64.wrap z.fst.snd.fst)) then
                                    some
                                      (IntKind.u64.wrap
                                          (IntKind.u64.wrap (1 * 2 ^ min (IntKind.u64.wrap z_1.fst.fst).toNat 64) - 1),
                                        some 1)
                                  else
                                    bif
                                        decide
                                          (IntKind.u64.wrap
                                              (IntKind.u64.wrap (1 * 2 ^ min (IntKind.u64.wrap z_1.fst.fst).toNat 64) -
                                                1) <
                                            IntKind.u64.wrap
                                              (IntKind.u64.wrap (z_3.fst.snd.fst * IntKind.u64.wrap z.fst.snd.fst) +
                                                (↑z_4.fst.snd.fst.toNat : Int))) then
                                      some
                                        (IntKind.u64.wrap
                                            (IntKind.u64.wrap (1 * 2 ^ min (IntKind.u64.wrap z_1.fst.fst).toNat 64) -
                                              1),
                                          some 1)
                                    else
                                      rec
                                        ((z_4.fst.fst,
                                            IntKind.u64.wrap
                                              (IntKind.u64.wrap (z_3.fst.snd.fst * IntKind.u64.wrap z.fst.snd.fst) +
                                                (↑z_4.fst.snd.fst.toNat : Int)),
                                            IntKind.i64.wrap (z_3.fst.snd.snd.fst + 1), ()),
                                          (), (), ()))
                            fun (k : (Bool × UInt8 × Unit) × Unit × Unit × Unit → Option (Int × Option Int)) =>
                            bif e == 95 then
                              bif x_1 == 0 then none
                              else
                                bif decide (48 ≤ e) then
                                  bif decide (e ≤ 57) then k ((z_3.fst.fst, e - 48, ()), (), (), ())
                                  else
                                    Option.bind (F_internal_strconv_lower N e) fun (y : UInt8) =>
                                      bif decide (97 ≤ y) then
                                        Option.bind (F_internal_strconv_lower N e) fun (y : UInt8) =>
                                          bif decide (y ≤ 122) then
                                            Option.bind (F_internal_strconv_lower N e) fun (y : UInt8) =>
                                              k ((z_3.fst.fst, y - 97 + 10, ()), (), (), ())
                                          else some (0, some 2)
                                      else some (0, some 2)
                                else
                                  Option.bind (F_internal_strconv_lower N e) fun (y : UInt8) =>
                                    bif decide (97 ≤ y) then
                                      Option.bind (F_internal_strconv_lower N e) fun (y : UInt8) =>
                                        bif decide (y ≤ 122) then
                                          Option.bind (F_internal_strconv_lower N e) fun (y : UInt8) =>
                                            k ((z_3.fst.fst, y - 97 + 10, ()), (), (), ())
                                        else some (0, some 2)
                                    else some (0, some 2)
                            else
                              bif decide (48 ≤ e) then
                                bif decide (e ≤ 57) then k ((z_3.fst.fst, e - 48, ()), (), (), ())
                                else
                                  Option.bind (F_internal_strconv_lower N e) fun (y : UInt8) =>
                                    bif decide (97 ≤ y) then
                                      Option.bind (F_internal_strconv_lower N e) fun (y : UInt8) =>
                                        bif decide (y ≤ 122) then
                                          Option.bind (F_internal_strconv_lower N e) fun (y : UInt8) =>
                                            k ((z_3.fst.fst, y - 97 + 10, ()), (), (), ())
                                        else some (0, some 2)
                                    else some (0, some 2)
                              else
                                Option.bind (F_internal_strconv_lower N e) fun (y : UInt8) =>
                                  bif decide (97 ≤ y) then
                                    Option.bind (F_internal_strconv_lower N e) fun (y : UInt8) =>
                                      bif decide (y ≤ 122) then
                                        Option.bind (F_internal_strconv_lower N e) fun (y : UInt8) =>
                                          k ((z_3.fst.fst, y - 97 + 10, ()), (), (), ())
                                      else some (0, some 2)
                                  else some (0, some 2)
                      else bif z_3.fst.fst then none else some (z_3.fst.snd.fst, none))
                    N ((false, 0, 0, ()), (), (), ())
                else none)
              fun (k : (Int × Unit) × Unit × Unit × Unit → Option (Int × Option Int)) =>
              bif z.fst.snd.fst == 10 then k ((1844674407370955162, ()), (), (), ()) else none)
          fun (k : (Int × Unit) × Unit × Unit × Unit → Option (Int × Option Int)) =>
          bif x_2 == 0 then k ((64, ()), (), (), ())
          else
            bif decide (x_2 < 0) then some (0, some 4)
            else bif decide (64 < x_2) then some (0, some 4) else k ((x_2, ()), (), (), ()))
      fun (k : (List UInt8 × Int × Unit) × Unit × Unit × Unit → Option (Int × Option Int)) =>
      bif decide (2 ≤ x_1) then bif decide (x_1 ≤ 36) then k ((x, x_1, ()), (), (), ()) else none else none
theorem E_internal_strconv_ParseUint (N : Nat) : runF Tryd.prog [e_internal_strconv_lower N, e_internal_strconv_underscoreOK N] [] N Tryd.f104 (.seq .lf (.seq .lf (.seq .lf (.seq .lf (.join ⟨[(0, .d .str), (1, .d (.int .i64))], [], [2, 8, 9], [], [], []⟩ (.blk (.seq .lf (.cond .lf .stop))) (.join ⟨[(2, .d (.int .i64))], [], [0, 1, 8, 9], [], [], []⟩ .lf (.seq .lf (.join ⟨[(10, .d (.int .u64))], [], [0, 1, 2, 8, 9], [], [], []⟩ (.seq .lf (.blk (.seq .lf (.cond .lf .stop)))) (.seq .lf (.seq .lf (.seq .lf (.seq (.seq .lf (.blk (.loop ⟨[(12, .d .bool), (13, .d (.int .u64)), (101, .d (.int .i64))], [], [1, 8, 9, 10, 11, 99, 100], [], [], []⟩ (.seq .lf (.seq .lf (.seq (.blk (.seq .lf (.seq .lf (.join ⟨[(12, .d .bool), (16, .d .u8)], [], [1, 8, 9, 10, 11, 13, 99, 100, 101], [], [], []⟩ (.blk (.seq .lf (.cond .stop .lf))) .lf)))) .lf)))))) (.seq (.seq .lf (.cond .stop .lf)) .lf))))))))))))) [.str, (.int .i64), (.int .i64)] [(.int .u64), (.ic 148 .i64)] = F_internal_strconv_ParseUint N := by kernel_rfl
noncomputable def e_internal_strconv_ParseUint (N : Nat) : Ent Tryd.prog := mkFn 104 Tryd.f104 (.seq .lf (.seq .lf (.seq .lf (.seq .lf (.join ⟨[(0, .d .str), (1, .d (.int .i64))], [], [2, 8, 9], [], [], []⟩ (.blk (.seq .lf (.cond .lf .stop))) (.join ⟨[(2, .d (.int .i64))], [], [0, 1, 8, 9], [], [], []⟩ .lf (.seq .lf (.join ⟨[(10, .d (.int .u64))], [], [0, 1, 2, 8, 9], [], [], []⟩ (.seq .lf (.blk (.seq .lf (.cond .lf .stop)))) (.seq .lf (.seq .lf (.seq .lf (.seq (.seq .lf (.blk (.loop ⟨[(12, .d .bool), (13, .d (.int .u64)), (101, .d (.int .i64))], [], [1, 8, 9, 10, 11, 99, 100], [], [], []⟩ (.seq .lf (.seq .lf (.seq (.blk (.seq .lf (.seq .lf (.join ⟨[(12, .d .bool), (16, .d .u8)], [], [1, 8, 9, 10, 11, 13, 99, 100, 101], [], [], []⟩ (.blk (.seq .lf (.cond .stop .lf))) .lf)))) .lf)))))) (.seq (.seq .lf (.cond .stop .lf)) .lf))))))))))))) [.str, (.int .i64), (.int .i64)] [(.int .u64), (.ic 148 .i64)] (F_internal_strconv_ParseUint N) mixed Tryd.func104 (.mk' Tryd.func104 rfl (by decide)) rfl (E_internal_strconv_ParseUint N)
/-- internal/stringslite.Clone -/
noncomputable def F_internal_stringslite_Clone (N : Nat) : Fun [.str] (Option (ResT [.str])) :=
  fun (x : List UInt8) =>
  bif (↑x.length : Int) == 0 then some []
  else
    bif decide (1 * (↑x.length : Int).toNat ≤ 281474976710656) && decide ((↑x.length : Int) ≤ 9223372036854775807) then
      bif (↑x.length : Int).toNat.beq (repB 0 (↑x.length : Int).toNat).length then
        bif (repB 0 (↑x.length : Int).toNat).length.beq x.length then
          bif decide (0 < (↑(↑x.length : Int).toNat : Int)) then
            bif x.length.beq 0 then none
            else
              bif (↑(↑x.length : Int).toNat : Int) == (↑x.length : Int) then
                bif decide (x.length ≤ 9223372036854775807) then some x else none
              else none
          else none
        else none
      else none
    else none
theorem E_internal_stringslite_Clone (N : Nat) : runF Tryd.prog [] [1000009] N Tryd.f147 .lf [.str] [.str] = F_internal_stringslite_Clone N := by kernel_rfl
noncomputable def e_internal_stringslite_Clone (N : Nat) : Ent Tryd.prog := mkFn 147 Tryd.f147 .lf [.str] [.str] (F_internal_stringslite_Clone N) mixed Tryd.func147 (.mk' Tryd.func147 rfl (by decide)) rfl (E_internal_stringslite_Clone N)
/-- strconv.syntaxError -/
noncomputable def F_strconv_syntaxError (N : Nat) : Fun [.str, .str, (.tab .err)] (Option (ResT [.ptr])) :=
  fun (x x_1 : List UInt8) (x_2 : List Bool) =>
  Option.bind (F_internal_stringslite_Clone N x_1) fun (y : List UInt8) =>
    listCase x_2 none fun (z : Bool) (r : List Bool) => some ()
theorem E_strconv_syntaxError (N : Nat) : runG Tryd.prog [e_internal_stringslite_Clone N] [] N Tryd.f127 .lf [.str, .str, (.tab .err)] [.ptr] 2 [4] = F_strconv_syntaxError N := by kernel_rfl
noncomputable def e_strconv_syntaxError (N : Nat) : Ent Tryd.prog := mkFnG 127 Tryd.f127 .lf [.str, .str, (.tab .err)] [.ptr] 2 [4] (F_strconv_syntaxError N) mixed Tryd.func127 (.mk' Tryd.func127 rfl (by decide)) rfl (E_strconv_syntaxError N)
/-- strconv.rangeError -/
noncomputable def F_strconv_rangeError (N : Nat) : Fun [.str, .str, (.tab .err)] (Option (ResT [.ptr])) :=
  fun (x x_1 : List UInt8) (x_2 : List Bool) =>
  Option.bind (F_internal_stringslite_Clone N x_1) fun (y : List UInt8) =>
    listCase x_2 none fun (z : Bool) (r : List Bool) => some ()
theorem E_strconv_rangeError (N : Nat) : runG Tryd.prog [e_internal_stringslite_Clone N] [] N Tryd.f128 .lf [.str, .str, (.tab .err)] [.ptr] 2 [5] = F_strconv_rangeError N := by kernel_rfl
noncomputable def e_strconv_rangeError (N : Nat) : Ent Tryd.prog := mkFnG 128 Tryd.f128 .lf [.str, .str, (.tab .err)] [.ptr] 2 [5] (F_strconv_rangeError N) mixed Tryd.func128 (.mk' Tryd.func128 rfl (by decide)) rfl (E_strconv_rangeError N)
noncomputable def e_strconv_baseError (N : Nat) : Ent Tryd.prog := mkNone 129
noncomputable def e_strconv_bitSizeError (N : Nat) : Ent Tryd.prog := mkNone 130
/-- strconv.toError -/
noncomputable def F_strconv_toError (N : Nat) : Fun [.str, .str, (.int .i64), (.int .i64), (.ic 148 .i64), (.tab .err), (.tab .err)] (Option (ResT [.err])) :=
  fun (x x_1 : List UInt8) (x_2 x_3 : Int) (x_4 : Option Int) (x_5 x_6 : List Bool) =>
  bif bif false then !x_4 == some 2 else x_4 == some 2 then
    Option.bind (F_strconv_syntaxError N x x_1 x_5) fun (y : Unit) => some true
  else
    bif bif false then !x_4 == some 1 else x_4 == some 1 then
      Option.bind (F_strconv_rangeError N x x_1 x_6) fun (y : Unit) => some true
    else
      bif bif false then !x_4 == some 3 else x_4 == some 3 then none
      else bif bif false then !x_4 == some 4 else x_4 == some 4 then none else some x_4.isSome
theorem E_strconv_toError (N : Nat) : runG Tryd.prog [e_strconv_syntaxError N, e_strconv_rangeError N, e_strconv_baseError N, e_strconv_bitSizeError N] [] N Tryd.f105 .lf [.str, .str, (.int .i64), (.int .i64), (.ic 148 .i64), (.tab .err), (.tab .err)] [.err] 5 [4, 5] = F_strconv_toError N := by kernel_rfl
noncomputable def e_strconv_toError (N : Nat) : Ent Tryd.prog := mkFnG 105 Tryd.f105 .lf [.str, .str, (.int .i64), (.int .i64), (.ic 148 .i64), (.tab .err), (.tab .err)] [.err] 5 [4, 5] (F_strconv_toError N) mixed Tryd.func105 (.mk' Tryd.func105 rfl (by decide)) rfl (E_strconv_toError N)
/-- strconv.ParseUint -/
noncomputable def F_strconv_ParseUint (N : Nat) : Fun [.str, (.int .i64), (.int .i64), (.tab .err), (.tab .err)] (Option (ResT [(.int .u64), .err])) :=
  fun (x : List UInt8) (x_1 x_2 : Int) (x_3 x_4 : List Bool) =>
  Option.bind (F_internal_strconv_ParseUint N x x_1 x_2) fun (y : Int × Option Int) =>
    bif bif true then !y.snd.isNone else y.snd.isNone then
      Option.bind (F_strconv_toError N [80, 97, 114, 115, 101, 85, 105, 110, 116] x x_1 x_2 y.snd x_3 x_4)
        fun (y_1 : Bool) => some (y.fst, y_1)
    else some (y.fst, false)
theorem E_strconv_ParseUint (N : Nat) : runG Tryd.prog [e_internal_strconv_ParseUint N, e_strconv_toError N] [] N Tryd.f72 .lf [.str, (.int .i64), (.int .i64), (.tab .err), (.tab .err)] [(.int .u64), .err] 3 [4, 5] = F_strconv_ParseUint N := by kernel_rfl
noncomputable def e_strconv_ParseUint (N : Nat) : Ent Tryd.prog := mkFnG 72 Tryd.f72 .lf [.str, (.int .i64), (.int .i64), (.tab .err), (.tab .err)] [(.int .u64), .err] 3 [4, 5] (F_strconv_ParseUint N) mixed Tryd.func72 (.mk' Tryd.func72 rfl (by decide)) rfl (E_strconv_ParseUint N)
/-- epitaph/dot.Parse -/
noncomputable def F_dot_Parse (N : Nat) : Fun [.str, (.tab (.int .u64)), (.tab .err), (.tab .err)] (Option (ResT [tDot, .bool])) :=
  fun (x : List UInt8) (x_1 : List Int) (x_2 x_3 : List Bool) =>
  Option.bind (F_strings_Cut N x [46]) fun (y : List UInt8 × List UInt8 × Bool) =>
    Option.bind (F_strconv_ParseUint N y.fst 10 16 x_2 x_3) fun (y_1 : Int × Bool) =>
      Option.bind (F_strconv_ParseUint N y.snd.fst 10 48 x_2 x_3) fun (y : Int × Bool) =>
        bif bif true then !!y_1.snd else !y_1.snd then some ((0, 0), false)
        else
          bif bif true then !!y.snd else !y.snd then some ((0, 0), false)
          else
            Option.bind (F_dot_Good N (IntKind.u16.wrap y_1.fst, y.fst)) fun (y_2 : Bool) =>
              bif !y_2 then some ((0, 0), false)
              else
                Option.bind (F_dot_Text N (IntKind.u16.wrap y_1.fst, y.fst) x_1) fun (y_3 : List UInt8) =>
                  bif y_3 != x then some ((0, 0), false) else some ((IntKind.u16.wrap y_1.fst, y.fst), true)
theorem E_dot_Parse (N : Nat) : runG Tryd.prog [e_dot_Text N, e_dot_Good N, e_strings_Cut N, e_strconv_ParseUint N] [] N Tryd.f32 .lf [.str, (.tab (.int .u64)), (.tab .err), (.tab .err)] [tDot, .bool] 1 [3, 4, 5] = F_dot_Parse N := by kernel_rfl
noncomputable def e_dot_Parse (N : Nat) : Ent Tryd.prog := mkFnG 32 Tryd.f32 .lf [.str, (.tab (.int .u64)), (.tab .err), (.tab .err)] [tDot, .bool] 1 [3, 4, 5] (F_dot_Parse N) mixed Tryd.func32 (.mk' Tryd.func32 rfl (by decide)) rfl (E_dot_Parse N)
/-- epitaph/epitaphref07.Number -/
noncomputable def F_epitaphref07_Number (N : Nat) : Fun [.str] (Option (ResT [(.int .u64), .bool])) :=
  fun (x : List UInt8) =>
  bif decide ((↑x.length : Int) < 1) then some (0, false)
  else
    bif decide (15 < (↑x.length : Int)) then some (0, false)
    else
      bif decide (1 < (↑x.length : Int)) then
        x[0]?.bind fun (c : UInt8) =>
          bif c == 48 then some (0, false)
          else
            iter
              (fun (rec : (Int × Int × Unit) × Unit × Unit × Unit → Option (Int × Bool))
                  (z : (Int × Int × Unit) × Unit × Unit × Unit) =>
                bif decide (z.fst.snd.fst < (↑x.length : Int)) then
                  (at? x z.fst.snd.fst).bind fun (c : UInt8) =>
                    bif decide (c < 48) then some (0, false)
                    else
                      (at? x z.fst.snd.fst).bind fun (c : UInt8) =>
                        bif decide (57 < c) then some (0, false)
                        else
                          (at? x z.fst.snd.fst).bind fun (c : UInt8) =>
                            rec
                              ((IntKind.u64.wrap (IntKind.u64.wrap (z.fst.fst * 10) + (↑(c - 48).toNat : Int)),
                                  IntKind.i64.wrap (z.fst.snd.fst + 1), ()),
                                (), (), ())
                else some (z.fst.fst, true))
              N ((0, 0, ()), (), (), ())
      else
        iter
          (fun (rec : (Int × Int × Unit) × Unit × Unit × Unit → Option (Int × Bool))
              (z : (Int × Int × Unit) × Unit × Unit × Unit) =>
            bif decide (z.fst.snd.fst < (↑x.length : Int)) then
              (at? x z.fst.snd.fst).bind fun (c : UInt8) =>
                bif decide (c < 48) then some (0, false)
                else
                  (at? x z.fst.snd.fst).bind fun (c : UInt8) =>
                    bif decide (57 < c) then some (0, false)
                    else
                      (at? x z.fst.snd.fst).bind fun (c : UInt8) =>
                        rec
                          ((IntKind.u64.wrap (IntKind.u64.wrap (z.fst.fst * 10) + (↑(c - 48).toNat : Int)),
                              IntKind.i64.wrap (z.fst.snd.fst + 1), ()),
                            (), (), ())
            else some (z.fst.fst, true))
          N ((0, 0, ()), (), (), ())
theorem E_epitaphref07_Number (N : Nat) : runF Tryd.prog [] [] N Tryd.f73 (.seq .lf (.seq .lf (.seq .lf (.seq (.seq .lf (.blk (.loop ⟨[(4, .d (.int .u64)), (5, .d (.int .i64))], [], [0], [], [], []⟩ .lf))) .lf)))) [.str] [(.int .u64), .bool] = F_epitaphref07_Number N := by kernel_rfl
noncomputable def e_epitaphref07_Number (N : Nat) : Ent Tryd.prog := mkFn 73 Tryd.f73 (.seq .lf (.seq .lf (.seq .lf (.seq (.seq .lf (.blk (.loop ⟨[(4, .d (.int .u64)), (5, .d (.int .i64))], [], [0], [], [], []⟩ .lf))) .lf)))) [.str] [(.int .u64), .bool] (F_epitaphref07_Number N) mixed Tryd.func73 (.mk' Tryd.func73 rfl (by decide)) rfl (E_epitaphref07_Number N)
/-- epitaph/epitaphref07.Good -/
noncomputable def F_epitaphref07_Good (N : Nat) : Fun [tDot] (Option (ResT [.bool])) :=
  fun (x : Int × Int) =>
  bif decide (1 ≤ x.fst) then bif decide (1 ≤ x.snd) then some (decide (x.snd < 281474976710656)) else some false
  else some false
theorem E_epitaphref07_Good (N : Nat) : runF Tryd.prog [] [] N Tryd.f74 .lf [tDot] [.bool] = F_epitaphref07_Good N := by kernel_rfl
noncomputable def e_epitaphref07_Good (N : Nat) : Ent Tryd.prog := mkFn 74 Tryd.f74 .lf [tDot] [.bool] (F_epitaphref07_Good N) mixed Tryd.func74 (.mk' Tryd.func74 rfl (by decide)) rfl (E_epitaphref07_Good N)
/-- epitaph/epitaphref07.Parse -/
noncomputable def F_epitaphref07_Parse (N : Nat) : Fun [.str] (Option (ResT [tDot, .bool])) :=
  fun (x : List UInt8) =>
  iter
    (fun (rec : (Int × Unit) × (((Int × Int) × Unit) × Unit) × Unit × Unit → Option ((Int × Int) × Bool))
        (z : (Int × Unit) × (((Int × Int) × Unit) × Unit) × Unit × Unit) =>
      bif decide (z.fst.fst < (↑x.length : Int)) then
        (at? x z.fst.fst).bind fun (c : UInt8) =>
          bif c != 46 then rec ((IntKind.i64.wrap (z.fst.fst + 1), ()), ((z.snd.fst.fst.fst, ()), ()), (), ())
          else
            bif cutOk 0 z.fst.fst x.length then
              Option.bind (F_epitaphref07_Number N (List.take z.fst.fst.toNat x)) fun (y : Int × Bool) =>
                bif cutOk (IntKind.i64.wrap (z.fst.fst + 1)) (↑x.length : Int) x.length then
                  Option.bind (F_epitaphref07_Number N (List.drop (IntKind.i64.wrap (z.fst.fst + 1)).toNat x))
                    fun (y_1 : Int × Bool) =>
                    bif !y.snd then some ((0, 0), false)
                    else
                      bif !y_1.snd then some ((0, 0), false)
                      else
                        bif decide (65535 < y.fst) then some ((0, 0), false)
                        else
                          Option.bind (F_epitaphref07_Good N (IntKind.u16.wrap (y.fst.tmod 65536), y_1.fst))
                            fun (y_2 : Bool) =>
                            bif !y_2 then some ((0, 0), false)
                            else some ((IntKind.u16.wrap (y.fst.tmod 65536), y_1.fst), true)
                else none
            else none
      else some ((0, 0), false))
    N ((0, ()), (((0, 0), ()), ()), (), ())
theorem E_epitaphref07_Parse (N : Nat) : runF Tryd.prog [e_epitaphref07_Number N, e_epitaphref07_Good N] [] N Tryd.f33 (.seq .lf (.seq (.seq .lf (.blk (.loop ⟨[(4, .d (.int .i64))], [(1002, [.d tDot], some 60)], [0, 2], [], [], []⟩ .lf))) .lf)) [.str] [tDot, .bool] = F_epitaphref07_Parse N := by kernel_rfl
noncomputable def e_epitaphref07_Parse (N : Nat) : Ent Tryd.prog := mkFn 33 Tryd.f33 (.seq .lf (.seq (.seq .lf (.blk (.loop ⟨[(4, .d (.int .i64))], [(1002, [.d tDot], some 60)], [0, 2], [], [], []⟩ .lf))) .lf)) [.str] [tDot, .bool] (F_epitaphref07_Parse N) mixed Tryd.func33 (.mk' Tryd.func33 rfl (by decide)) rfl (E_epitaphref07_Parse N)
/-- epitaph/epitaphref07.Same -/
noncomputable def F_epitaphref07_Same (N : Nat) : Fun [(.sl tDot), (.sl tDot)] (Option (ResT [.bool])) :=
  fun (x x_1 : List (Int × Int)) =>
  bif (↑x.length : Int) != (↑x_1.length : Int) then some false
  else
    iter
      (fun (rec : (Int × Unit) × Unit × Unit × Unit → Option Bool) (z : (Int × Unit) × Unit × Unit × Unit) =>
        bif decide (z.fst.fst < (↑x.length : Int)) then
          (at? x z.fst.fst).bind fun (e : Int × Int) =>
            (at? x_1 z.fst.fst).bind fun (e_1 : Int × Int) =>
              bif !(e.fst == e_1.fst && e.snd == e_1.snd) then some false
              else rec ((IntKind.i64.wrap (z.fst.fst + 1), ()), (), (), ())
        else some true)
      N ((0, ()), (), (), ())
theorem E_epitaphref07_Same (N : Nat) : runF Tryd.prog [] [] N Tryd.f75 (.seq .lf (.seq .lf (.seq (.seq .lf (.blk (.loop ⟨[(5, .d (.int .i64))], [], [0, 1], [], [], []⟩ .lf))) .lf))) [(.sl tDot), (.sl tDot)] [.bool] = F_epitaphref07_Same N := by kernel_rfl
noncomputable def e_epitaphref07_Same (N : Nat) : Ent Tryd.prog := mkFn 75 Tryd.f75 (.seq .lf (.seq .lf (.seq (.seq .lf (.blk (.loop ⟨[(5, .d (.int .i64))], [], [0, 1], [], [], []⟩ .lf))) .lf))) [(.sl tDot), (.sl tDot)] [.bool] (F_epitaphref07_Same N) mixed Tryd.func75 (.mk' Tryd.func75 rfl (by decide)) rfl (E_epitaphref07_Same N)




/-- epitaph/dot.Sort -/
noncomputable def F_dot_Sort (N : Nat) : Fun [(.sl tDot)] (Option (ResT [(.sl tDot)])) :=
  fun (x : List (Int × Int)) =>
  (listCase x (some none) fun (y : Xr.tDot.T) (r : List Xr.tDot.T) =>
        bif fitsB (y :: r).length 16 then some (some (y :: r, (y :: r).length)) else none).bind
    fun (y : Option (List (Int × Int) × Nat)) =>
    optCase y (Option.bind (F0_slices_Compact_sDot_Dot N) fun (y : List (Int × Int)) => some y)
      fun (z : List (Int × Int) × Nat) =>
      bif z.snd.ble z.fst.length then
        bif z.snd.ble 4611686018427387903 then
          Option.bind
            (F_slices_Compact_sDot_Dot N (F_SortFunc_Dot (List.take z.snd z.fst) ++ List.drop z.snd z.fst) z.snd)
            fun (y : List (Int × Int) × Nat) =>
            bif (0 + y.snd).ble y.fst.length then some (List.take y.snd (List.drop 0 y.fst)) else none
        else none
      else none
theorem E_dot_Sort (N : Nat) : runF Tryd.prog [e_slices_Clone_sDot_Dot N, e_slices_SortFunc_sDot_Dot N, e_slices_Compact_sDot_Dot N, e_dot_Cmp N] [] N Tryd.f76 .lf [(.sl tDot)] [(.sl tDot)] = F_dot_Sort N := by kernel_rfl
noncomputable def e_dot_Sort (N : Nat) : Ent Tryd.prog := mkFn 76 Tryd.f76 .lf [(.sl tDot)] [(.sl tDot)] (F_dot_Sort N) mixed Tryd.func76 (.mk' Tryd.func76 rfl (by decide)) rfl (E_dot_Sort N)
/-- epitaph/epitaphlaw07.works -/
noncomputable def F_epitaphlaw07_works (N : Nat) : Fun [(.tab (.int .u64))] (Option (ResT [.bool])) :=
  fun (x : List Int) =>
  Option.bind (F_dot_Text N (3, 17) x) fun (y : List UInt8) =>
    bif y == [51, 46, 49, 55] then
      Option.bind (F_dot_Sort N [(2, 1), (1, 9), (2, 1)]) fun (y : List (Int × Int)) =>
        Option.bind (F_epitaphref07_Same N y [(1, 9), (2, 1)]) fun (y : Bool) => some y
    else some false
theorem E_epitaphlaw07_works (N : Nat) : runG Tryd.prog [e_dot_Text N, e_epitaphref07_Same N, e_dot_Sort N] [] N Tryd.f35 .lf [(.tab (.int .u64))] [.bool] 0 [3] = F_epitaphlaw07_works N := by kernel_rfl
noncomputable def e_epitaphlaw07_works (N : Nat) : Ent Tryd.prog := mkFnG 35 Tryd.f35 .lf [(.tab (.int .u64))] [.bool] 0 [3] (F_epitaphlaw07_works N) mixed Tryd.func35 (.mk' Tryd.func35 rfl (by decide)) rfl (E_epitaphlaw07_works N)
theorem D_epitaphlaw07_works (N : Nat) : SoundG Tryd.prog 35 [.bool] 0 [3] [(.tab (.int .u64))] (F_epitaphlaw07_works N) [] := E_epitaphlaw07_works N ▸ runG_sound mixed Tryd.func35 rfl
/-- epitaph/epitaphlaw07.DotParses -/
noncomputable def F_epitaphlaw07_DotParses (N : Nat) : Fun [.str, (.tab (.int .u64)), (.tab .err), (.tab .err)] (Option (ResT [.bool])) :=
  fun (x : List UInt8) (x_1 : List Int) (x_2 x_3 : List Bool) =>
  Option.bind (F_dot_Parse N x x_1 x_2 x_3) fun (y : (Int × Int) × Bool) =>
    Option.bind (F_epitaphref07_Parse N x) fun (y_1 : (Int × Int) × Bool) =>
      bif y.fst.fst == y_1.fst.fst && y.fst.snd == y_1.fst.snd then
        bif y.snd == y_1.snd then
          bif !y.snd then Option.bind (F_epitaphlaw07_works N x_1) fun (y : Bool) => some y
          else
            Option.bind (F_dot_Text N y.fst x_1) fun (y : List UInt8) =>
              bif y == x then Option.bind (F_epitaphlaw07_works N x_1) fun (y : Bool) => some y else some false
        else some false
      else some false
theorem E_epitaphlaw07_DotParses (N : Nat) : runG Tryd.prog [e_dot_Parse N, e_epitaphref07_Parse N, e_dot_Text N, e_epitaphlaw07_works N] [] N Tryd.f9 .lf [.str, (.tab (.int .u64)), (.tab .err), (.tab .err)] [.bool] 1 [3, 4, 5] = F_epitaphlaw07_DotParses N := by kernel_rfl
noncomputable def e_epitaphlaw07_DotParses (N : Nat) : Ent Tryd.prog := mkFnG 9 Tryd.f9 .lf [.str, (.tab (.int .u64)), (.tab .err), (.tab .err)] [.bool] 1 [3, 4, 5] (F_epitaphlaw07_DotParses N) mixed Tryd.func9 (.mk' Tryd.func9 rfl (by decide)) rfl (E_epitaphlaw07_DotParses N)
theorem D_epitaphlaw07_DotParses (N : Nat) : SoundG Tryd.prog 9 [.bool] 1 [3, 4, 5] [.str, (.tab (.int .u64)), (.tab .err), (.tab .err)] (F_epitaphlaw07_DotParses N) [] := E_epitaphlaw07_DotParses N ▸ runG_sound mixed Tryd.func9 rfl
/-- epitaph/shift.Split -/
noncomputable def F_shift_Split (N : Nat) : Fun [(.int .u64)] (Option (ResT [(.int .u16), (.int .u64)])) :=
  fun (x : Int) =>
  some (IntKind.u16.wrap (x.fdiv 281474976710656), bits BinOp.and IntKind.u64 x 281474976710655)
theorem E_shift_Split (N : Nat) : runF Tryd.prog [] [] N Tryd.f77 .lf [(.int .u64)] [(.int .u16), (.int .u64)] = F_shift_Split N := by kernel_rfl
noncomputable def e_shift_Split (N : Nat) : Ent Tryd.prog := mkFn 77 Tryd.f77 .lf [(.int .u64)] [(.int .u16), (.int .u64)] (F_shift_Split N) mixed Tryd.func77 (.mk' Tryd.func77 rfl (by decide)) rfl (E_shift_Split N)
/-- epitaph/dot.Unpack -/
noncomputable def F_dot_Unpack (N : Nat) : Fun [(.int .u64)] (Option (ResT [tDot, .bool])) :=
  fun (x : Int) =>
  Option.bind (F_shift_Split N x) fun (y : Int × Int) =>
    Option.bind (F_dot_Good N y) fun (y_1 : Bool) => bif !y_1 then some ((0, 0), false) else some (y, true)
theorem E_dot_Unpack (N : Nat) : runF Tryd.prog [e_dot_Good N, e_shift_Split N] [] N Tryd.f36 .lf [(.int .u64)] [tDot, .bool] = F_dot_Unpack N := by kernel_rfl
noncomputable def e_dot_Unpack (N : Nat) : Ent Tryd.prog := mkFn 36 Tryd.f36 .lf [(.int .u64)] [tDot, .bool] (F_dot_Unpack N) mixed Tryd.func36 (.mk' Tryd.func36 rfl (by decide)) rfl (E_dot_Unpack N)
/-- epitaph/shift.Pack -/
noncomputable def F_shift_Pack (N : Nat) : Fun [(.int .u16), (.int .u64)] (Option (ResT [(.int .u64)])) :=
  fun (x x_1 : Int) =>
  some
    (bits BinOp.or IntKind.u64 (IntKind.u64.wrap (IntKind.u64.wrap x * 281474976710656))
      (bits BinOp.and IntKind.u64 x_1 281474976710655))
theorem E_shift_Pack (N : Nat) : runF Tryd.prog [] [] N Tryd.f78 .lf [(.int .u16), (.int .u64)] [(.int .u64)] = F_shift_Pack N := by kernel_rfl
noncomputable def e_shift_Pack (N : Nat) : Ent Tryd.prog := mkFn 78 Tryd.f78 .lf [(.int .u16), (.int .u64)] [(.int .u64)] (F_shift_Pack N) mixed Tryd.func78 (.mk' Tryd.func78 rfl (by decide)) rfl (E_shift_Pack N)
/-- epitaph/dot.Pack -/
noncomputable def F_dot_Pack (N : Nat) : Fun [tDot] (Option (ResT [(.int .u64)])) :=
  fun (x : Int × Int) => Option.bind (F_shift_Pack N x.fst x.snd) fun (y : Int) => some y
theorem E_dot_Pack (N : Nat) : runF Tryd.prog [e_shift_Pack N] [] N Tryd.f37 .lf [tDot] [(.int .u64)] = F_dot_Pack N := by kernel_rfl
noncomputable def e_dot_Pack (N : Nat) : Ent Tryd.prog := mkFn 37 Tryd.f37 .lf [tDot] [(.int .u64)] (F_dot_Pack N) mixed Tryd.func37 (.mk' Tryd.func37 rfl (by decide)) rfl (E_dot_Pack N)
/-- epitaph/epitaphlaw07.DotPacks -/
noncomputable def F_epitaphlaw07_DotPacks (N : Nat) : Fun [tDot, tDot, (.tab (.int .u64)), (.tab .err), (.tab .err)] (Option (ResT [.bool])) :=
  fun (x x_1 : Int × Int) (x_2 : List Int) (x_3 x_4 : List Bool) =>
  Option.bind (F_dot_Pack N x) fun (y : Int) =>
    Option.bind (F_dot_Unpack N y) fun (y : (Int × Int) × Bool) =>
      Option.bind (F_dot_Text N x x_2) fun (y_1 : List UInt8) =>
        Option.bind (F_dot_Parse N y_1 x_2 x_3 x_4) fun (y_2 : (Int × Int) × Bool) =>
          Option.bind (F_dot_Good N x) fun (y_3 : Bool) =>
            bif !y_3 then
              bif !y_2.snd then
                bif !y.snd then Option.bind (F_epitaphlaw07_works N x_2) fun (y : Bool) => some y
                else
                  bif !(y.fst.fst == x.fst && y.fst.snd == x.snd) then
                    Option.bind (F_epitaphlaw07_works N x_2) fun (y : Bool) => some y
                  else some false
              else some false
            else
              Option.bind (F_dot_Good N x_1) fun (y_4 : Bool) =>
                bif y_4 then
                  Option.bind (F_dot_Cmp N x x_1) fun (y_5 : Int) =>
                    Option.bind (F_dot_Pack N x) fun (y_6 : Int) =>
                      Option.bind (F_dot_Pack N x_1) fun (y_7 : Int) =>
                        bif !decide (y_5 < 0) == decide (y_6 < y_7) then some false
                        else
                          Option.bind (F_dot_Pack N x) fun (y_8 : Int) =>
                            Option.bind (F_dot_Pack N x_1) fun (y_9 : Int) =>
                              bif !(y_8 == y_9) == (x.fst == x_1.fst && x.snd == x_1.snd) then some false
                              else
                                bif y.snd then
                                  bif y_2.snd then
                                    bif y.fst.fst == x.fst && y.fst.snd == x.snd then
                                      bif y_2.fst.fst == x.fst && y_2.fst.snd == x.snd then
                                        Option.bind (F_epitaphlaw07_works N x_2) fun (y : Bool) => some y
                                      else some false
                                    else some false
                                  else some false
                                else some false
                else
                  bif y.snd then
                    bif y_2.snd then
                      bif y.fst.fst == x.fst && y.fst.snd == x.snd then
                        bif y_2.fst.fst == x.fst && y_2.fst.snd == x.snd then
                          Option.bind (F_epitaphlaw07_works N x_2) fun (y : Bool) => some y
                        else some false
                      else some false
                    else some false
                  else some false
theorem E_epitaphlaw07_DotPacks (N : Nat) : runG Tryd.prog [e_dot_Parse N, e_dot_Text N, e_epitaphlaw07_works N, e_dot_Unpack N, e_dot_Pack N, e_dot_Good N, e_dot_Cmp N] [] N Tryd.f10 .lf [tDot, tDot, (.tab (.int .u64)), (.tab .err), (.tab .err)] [.bool] 2 [3, 4, 5] = F_epitaphlaw07_DotPacks N := by kernel_rfl
noncomputable def e_epitaphlaw07_DotPacks (N : Nat) : Ent Tryd.prog := mkFnG 10 Tryd.f10 .lf [tDot, tDot, (.tab (.int .u64)), (.tab .err), (.tab .err)] [.bool] 2 [3, 4, 5] (F_epitaphlaw07_DotPacks N) mixed Tryd.func10 (.mk' Tryd.func10 rfl (by decide)) rfl (E_epitaphlaw07_DotPacks N)
theorem D_epitaphlaw07_DotPacks (N : Nat) : SoundG Tryd.prog 10 [.bool] 2 [3, 4, 5] [tDot, tDot, (.tab (.int .u64)), (.tab .err), (.tab .err)] (F_epitaphlaw07_DotPacks N) [] := E_epitaphlaw07_DotPacks N ▸ runG_sound mixed Tryd.func10 rfl
end Go.Proofs.Xs
/-
  Numbers as text: strconv.FormatUint at base 10.
-/
set_option linter.unusedVariables false
set_option linter.unusedSimpArgs false
set_option maxRecDepth 100000
namespace Go.Proofs.Xs
open Go Go.Xl Go.Ab Go.Proofs Go.Proofs.Xr

def dg (k : Nat) : UInt8 := UInt8.ofNat (48 + k % 10)
/-- w digits -/
def pad : Nat → Nat → List UInt8
  | 0, _ => []
  | w + 1, x => pad w (x / 10) ++ [dg x]

theorem pad_split (a : Nat) : ∀ (b x : Nat), pad (a + b) x = pad a (x / 10 ^ b) ++ pad b x
  | 0, x => by simp [pad]
  | b + 1, x => by
    rw [← Nat.add_assoc, pad, pad_split a b, pad, Nat.div_div_eq_div_mul, Nat.pow_succ, Nat.mul_comm 10, List.append_assoc]

theorem set_drop {α : Type} {m : List α} {i j : Nat} {c : α} {t : List α} (h : j + 1 = i) (hj : j < m.length) (hd : m.drop i = t) : (m.set j c).drop j = c :: t := by
  subst hd; subst h
  rw [List.drop_eq_getElem_cons (by simpa using hj)]
  simp [List.drop_set]

theorem tm100 (a : Nat) : ((a : Nat) : Int).tmod 100 = ((a % 100 : Nat) : Int) := rfl
theorem tm4 (a : Nat) : ((a : Nat) : Int).tmod 10000 = ((a % 10000 : Nat) : Int) := rfl
theorem tm8 (a : Nat) : ((a : Nat) : Int).tmod 100000000 = ((a % 100000000 : Nat) : Int) := rfl
theorem td100 (a : Nat) : ((a : Nat) : Int).tdiv 100 = ((a / 100 : Nat) : Int) := rfl
theorem td4 (a : Nat) : ((a : Nat) : Int).tdiv 10000 = ((a / 10000 : Nat) : Int) := rfl
theorem td8 (a : Nat) : ((a : Nat) : Int).tdiv 100000000 = ((a / 100000000 : Nat) : Int) := rfl
theorem u32n {a : Nat} (h : a < 4294967296) : IntKind.u32.wrap (a : Int) = (a : Int) := IntWalk.u32_in _ (by omega)
theorem u32m {a : Nat} (h : a < 100) : IntKind.u32.wrap ((a : Int) * 2) = ((a * 2 : Nat) : Int) := by rw [IntWalk.u32_in _ (by omega)]; omega
theorem u32p {a : Nat} (h : a < 200) : IntKind.u32.wrap ((a : Int) + 1) = ((a + 1 : Nat) : Int) := by rw [IntWalk.u32_in _ (by omega)]; omega
theorem u64n {a : Nat} (h : a < 18446744073709551616) : IntKind.u64.wrap (a : Int) = (a : Int) := IntWalk.u64_in _ (by omega)
theorem i64s {i k : Nat} (h : k ≤ i) (h' : i < 9223372036854775808) : IntKind.i64.wrap ((i : Int) - (k : Int)) = ((i - k : Nat) : Int) := by rw [IntWalk.i64_in _ (by omega)]; omega

/-- the table of two digits -/
abbrev SM : List UInt8 := [48, 48, 48, 49, 48, 50, 48, 51, 48, 52, 48, 53, 48, 54, 48, 55, 48, 56, 48, 57, 49, 48, 49, 49, 49, 50, 49, 51, 49, 52, 49, 53, 49, 54, 49, 55, 49, 56, 49, 57, 50, 48, 50, 49, 50, 50, 50, 51, 50, 52, 50, 53, 50, 54, 50, 55, 50, 56, 50, 57, 51, 48, 51, 49, 51, 50, 51, 51, 51, 52, 51, 53, 51, 54, 51, 55, 51, 56, 51, 57, 52, 48, 52, 49, 52, 50, 52, 51, 52, 52, 52, 53, 52, 54, 52, 55, 52, 56, 52, 57, 53, 48, 53, 49, 53, 50, 53, 51, 53, 52, 53, 53, 53, 54, 53, 55, 53, 56, 53, 57, 54, 48, 54, 49, 54, 50, 54, 51, 54, 52, 54, 53, 54, 54, 54, 55, 54, 56, 54, 57, 55, 48, 55, 49, 55, 50, 55, 51, 55, 52, 55, 53, 55, 54, 55, 55, 55, 56, 55, 57, 56, 48, 56, 49, 56, 50, 56, 51, 56, 52, 56, 53, 56, 54, 56, 55, 56, 56, 56, 57, 57, 48, 57, 49, 57, 50, 57, 51, 57, 52, 57, 53, 57, 54, 57, 55, 57, 56, 57, 57]

theorem sm_all : ∀ k < 100, SM[k * 2]? = some (dg (k / 10)) ∧ SM[k * 2 + 1]? = some (dg k) := by decide +kernel
theorem sm0 {k : Nat} (h : k < 100) : at? SM ((k * 2 : Nat) : Int) = some (dg (k / 10)) := (sm_all k h).1
theorem sm1 {k : Nat} (h : k < 100) : at? SM ((k * 2 + 1 : Nat) : Int) = some (dg k) := (sm_all k h).2
theorem smA {k : Nat} (h : k < 100) : at? SM (IntKind.u32.wrap (IntKind.u32.wrap ((k : Int) * 2) + 1)) = some (dg k) := by rw [u32m h, u32p (by omega)]; exact sm1 h
theorem smB {k : Nat} (h : k < 100) : at? SM (IntKind.u32.wrap ((k : Int) * 2)) = some (dg (k / 10)) := by rw [u32m h]; exact sm0 h

theorem dg_eq {a b : Nat} (h : a % 10 = b % 10) : dg a = dg b := by unfold dg; rw [h]

/-- one store -/
theorem put1 {R : Type} {m : List UInt8} {i n : Nat} {v : Int} {K : UInt8 → Option R} (hv : v = (i : Int)) (h : i < n) (hm : n ≤ m.length) :
    (bif decide (0 ≤ v) && decide (v < (n : Int)) then (m[0 + v.toNat]?).bind K else none) = K m[i] := by
  subst hv
  have h1 : (decide (0 ≤ (i : Int)) && decide ((i : Int) < (n : Int))) = true := by simp; omega
  rw [h1, cond_true, Int.toNat_natCast, Nat.zero_add, List.getElem?_eq_getElem (by omega)]
  rfl
/-- one store, in plain numbers -/
theorem put2 {R : Type} {m : List UInt8} {i n : Nat} {K : UInt8 → Option R} (h : i < n) (hm : n ≤ m.length) :
    (bif decide (0 ≤ (i : Int)) && decide ((i : Int) < (n : Int)) then (m[i]?).bind K else none) = K (m[i]'(by omega)) := by
  have h1 : (decide (0 ≤ (i : Int)) && decide ((i : Int) < (n : Int))) = true := by simp; omega
  rw [h1, cond_true, List.getElem?_eq_getElem (by omega)]
  rfl

/-- so far -/
def Inv (l : List UInt8) (n x i u : Nat) (m : List UInt8) : Prop :=
  i ≤ n ∧ m.length = l.length ∧ (m.drop i).take (n - i) = pad (n - i) x ∧ x / 10 ^ (n - i) = u ∧ u < 10 ^ i

theorem Inv.one {l m : List UInt8} {n x i u : Nat} (h : Inv l n x i u m) (hl : n ≤ l.length) (h1 : 1 ≤ i) : Inv l n x (i - 1) (u / 10) (m.set (i - 1) (dg u)) := by
  obtain ⟨h1', h2, h3, h4, h5⟩ := h
  refine ⟨by omega, by simp only [List.length_set]; exact h2, ?_, ?_, ?_⟩
  · rw [set_drop (m := m) (i := i) (j := i - 1) (c := dg u) (by omega) (by omega) rfl, show n - (i - 1) = (n - i) + 1 by omega, Nat.add_comm (n - i) 1, pad_split 1, h4, Nat.add_comm 1]
    simp only [List.take_succ_cons, h3, pad, List.nil_append, List.cons_append]
  · rw [show n - (i - 1) = (n - i) + 1 by omega, Nat.pow_succ, ← Nat.div_div_eq_div_mul, h4]
  · have : 10 ^ i = 10 * 10 ^ (i - 1) := by
      conv => lhs; rw [show i = (i - 1) + 1 by omega, Nat.pow_succ, Nat.mul_comm]
    exact Nat.div_lt_of_lt_mul (by omega)

theorem Inv.two {l m : List UInt8} {n x i u : Nat} (h : Inv l n x i u m) (hl : n ≤ l.length) (h2 : 2 ≤ i) : Inv l n x (i - 2) (u / 100) ((m.set (i - 1) (dg (u % 100))).set (i - 2) (dg (u % 100 / 10))) := by
  have := (h.one hl (by omega)).one hl (by omega)
  rw [Nat.div_div_eq_div_mul, Nat.sub_sub] at this
  rw [dg_eq (a := u % 100) (b := u) (by omega), dg_eq (a := u % 100 / 10) (b := u / 10) (by omega)]
  exact this

theorem Inv.four {l m : List UInt8} {n x i u : Nat} (h : Inv l n x i u m) (hl : n ≤ l.length) (h4 : 4 ≤ i) :
    Inv l n x (i - 4) (u / 10000) ((((m.set (i - 1) (dg (u % 10000 % 100))).set (i - 2) (dg (u % 10000 % 100 / 10))).set (i - 3) (dg (u % 10000 / 100))).set (i - 4) (dg (u % 10000 / 100 / 10))) := by
  have := (h.two hl (by omega)).two hl (by omega)
  rw [Nat.div_div_eq_div_mul, Nat.sub_sub, Nat.sub_sub] at this
  rw [dg_eq (a := u % 10000 % 100) (b := u % 100) (by omega), dg_eq (a := u % 10000 % 100 / 10) (b := u % 100 / 10) (by omega), dg_eq (a := u % 10000 / 100) (b := u / 100 % 100) (by omega), dg_eq (a := u % 10000 / 100 / 10) (b := u / 100 % 100 / 10) (by omega)]
  exact this

/-- the last digit -/
def T3 (n : Nat) (i v : Int) (m : List UInt8) : Option (List UInt8 × Unit) :=
  bif decide (0 < i) then
    bif decide (0 < (n : Int)) then m[0]?.bind fun (e : UInt8) => some (m.set 0 (toU8 (IntKind.u8.wrap (IntKind.u32.wrap (48 + v)))), ())
    else none
  else some (m, ())

/-- two digits -/
def T2 (n : Nat) (i v : Int) (m : List UInt8) : Option (List UInt8 × Unit) :=
  bif decide (2 ≤ i) then
    (at? SM (IntKind.u32.wrap (IntKind.u32.wrap (v.tmod 100 * 2) + 1))).bind fun (c : UInt8) =>
      (at? SM (IntKind.u32.wrap (v.tmod 100 * 2))).bind fun (c_1 : UInt8) =>
        bif decide (0 ≤ IntKind.i64.wrap (i - 1)) && decide (IntKind.i64.wrap (i - 1) < (n : Int)) then
          m[0 + (IntKind.i64.wrap (i - 1)).toNat]?.bind fun (e : UInt8) =>
            bif decide (0 ≤ IntKind.i64.wrap (i - 2)) && decide (IntKind.i64.wrap (i - 2) < (n : Int)) then
              (m.set (0 + (IntKind.i64.wrap (i - 1)).toNat) c)[0 + (IntKind.i64.wrap (i - 2)).toNat]?.bind fun (e : UInt8) =>
                T3 n (IntKind.i64.wrap (i - 2)) (IntKind.u32.wrap (v.tdiv 100)) ((m.set (0 + (IntKind.i64.wrap (i - 1)).toNat) c).set (0 + (IntKind.i64.wrap (i - 2)).toNat) c_1)
            else none
        else none
  else T3 n i v m

/-- four digits -/
def T1 (n : Nat) (i v : Int) (m : List UInt8) : Option (List UInt8 × Unit) :=
  bif decide (4 ≤ i) then
    (at? SM (IntKind.u32.wrap (IntKind.u32.wrap (((IntKind.u32.wrap v).tmod 10000).tmod 100 * 2) + 1))).bind fun (c : UInt8) =>
      (at? SM (IntKind.u32.wrap (((IntKind.u32.wrap v).tmod 10000).tmod 100 * 2))).bind fun (c_1 : UInt8) =>
        bif decide (0 ≤ IntKind.i64.wrap (i - 1)) && decide (IntKind.i64.wrap (i - 1) < (n : Int)) then
          m[0 + (IntKind.i64.wrap (i - 1)).toNat]?.bind fun (e : UInt8) =>
            bif decide (0 ≤ IntKind.i64.wrap (i - 2)) && decide (IntKind.i64.wrap (i - 2) < (n : Int)) then
              (m.set (0 + (IntKind.i64.wrap (i - 1)).toNat) c)[0 + (IntKind.i64.wrap (i - 2)).toNat]?.bind fun (e : UInt8) =>
                (at? SM (IntKind.u32.wrap (IntKind.u32.wrap (IntKind.u32.wrap (((IntKind.u32.wrap v).tmod 10000).tdiv 100) * 2) + 1))).bind fun (c_2 : UInt8) =>
                  (at? SM (IntKind.u32.wrap (IntKind.u32.wrap (((IntKind.u32.wrap v).tmod 10000).tdiv 100) * 2))).bind fun (c_3 : UInt8) =>
                    bif decide (0 ≤ IntKind.i64.wrap (i - 3)) && decide (IntKind.i64.wrap (i - 3) < (n : Int)) then
                      ((m.set (0 + (IntKind.i64.wrap (i - 1)).toNat) c).set (0 + (IntKind.i64.wrap (i - 2)).toNat) c_1)[0 + (IntKind.i64.wrap (i - 3)).toNat]?.bind fun (e : UInt8) =>
                        bif decide (0 ≤ IntKind.i64.wrap (i - 4)) && decide (IntKind.i64.wrap (i - 4) < (n : Int)) then
                          (((m.set (0 + (IntKind.i64.wrap (i - 1)).toNat) c).set (0 + (IntKind.i64.wrap (i - 2)).toNat) c_1).set (0 + (IntKind.i64.wrap (i - 3)).toNat) c_2)[0 + (IntKind.i64.wrap (i - 4)).toNat]?.bind fun (e : UInt8) =>
                            T2 n (IntKind.i64.wrap (i - 4)) (IntKind.u32.wrap ((IntKind.u32.wrap v).tdiv 10000)) ((((m.set (0 + (IntKind.i64.wrap (i - 1)).toNat) c).set (0 + (IntKind.i64.wrap (i - 2)).toNat) c_1).set (0 + (IntKind.i64.wrap (i - 3)).toNat) c_2).set (0 + (IntKind.i64.wrap (i - 4)).toNat) c_3)
                        else none
                    else none
            else none
        else none
  else T2 n i (IntKind.u32.wrap v) m

section
variable {l m : List UInt8} {n x i v : Nat}
theorem T3_ok (hi : i ≤ 1) (hl : n ≤ l.length) (h : Inv l n x i v m) : ∃ r : List UInt8 × Unit, T3 n i v m = some r ∧ (r.1.length = l.length ∧ r.1.take n = pad n x) := by
  unfold T3
  by_cases h0 : i = 0
  · subst h0
    obtain ⟨h1', h2, h3, h4, h5⟩ := h
    exact ⟨(m, ()), rfl, h2, by simpa using h3⟩
  · have : i = 1 := by omega
    subst this
    have h' := h.one hl (Nat.le_refl 1)
    obtain ⟨h1', h2, h3, h4, h5⟩ := h
    have hn : decide (0 < (n : Int)) = true := by simp; omega
    have h01 : decide (0 < ((1 : Nat) : Int)) = true := rfl
    have hv : v < 10 := by simpa using h5
    have hc : toU8 (IntKind.u8.wrap (IntKind.u32.wrap (48 + (v : Int)))) = dg v := by
      have : ∀ v < 10, toU8 (IntKind.u8.wrap (IntKind.u32.wrap (48 + ((v : Nat) : Int)))) = dg v := by decide +kernel
      exact this v hv
    obtain ⟨g1, g2, g3, g4, g5⟩ := h'
    refine ⟨(m.set 0 (dg v), ()), ?_, g2, by simpa using g3⟩
    rw [h01, hn, hc, List.getElem?_eq_getElem (by omega)]
    rfl

theorem T2_ok (hi : i ≤ 3) (hl : n ≤ l.length) (hl2 : l.length < 1000000) (hv : v < 100000000) (h : Inv l n x i v m) : ∃ r : List UInt8 × Unit, T2 n i v m = some r ∧ (r.1.length = l.length ∧ r.1.take n = pad n x) := by
  unfold T2
  have hin := h.1
  have hm := h.2.1
  by_cases h2 : 2 ≤ i
  · have e : decide ((2 : Int) ≤ (i : Int)) = true := by simp; omega
    have s1 : IntKind.i64.wrap ((i : Int) - 1) = ((i - 1 : Nat) : Int) := i64s (k := 1) (by omega) (by omega)
    have s2 : IntKind.i64.wrap ((i : Int) - 2) = ((i - 2 : Nat) : Int) := i64s (k := 2) (by omega) (by omega)
    have r2 : IntKind.u32.wrap ((v : Int).tdiv 100) = ((v / 100 : Nat) : Int) := by rw [td100, u32n (by omega)]
    have h1 : v % 100 < 100 := by omega
    simp only [e, cond_true, s1, s2, r2, tm100, Int.toNat_natCast, Nat.zero_add]
    rw [smA h1, Option.bind_some, smB h1, Option.bind_some, put2 (by omega) (by omega), put2 (by omega) (by simp only [List.length_set]; omega)]
    exact T3_ok (by omega) hl (h.two hl h2)
  · have e : decide ((2 : Int) ≤ (i : Int)) = false := by simp; omega
    simp only [e, cond_false]
    exact T3_ok (by omega) hl h

theorem T1_ok (hi : i ≤ 7) (hl : n ≤ l.length) (hl2 : l.length < 1000000) (hv : v < 100000000) (h : Inv l n x i v m) : ∃ r : List UInt8 × Unit, T1 n i v m = some r ∧ (r.1.length = l.length ∧ r.1.take n = pad n x) := by
  unfold T1
  have hin := h.1
  have hm := h.2.1
  by_cases h4 : 4 ≤ i
  · have e : decide ((4 : Int) ≤ (i : Int)) = true := by simp; omega
    have s1 : IntKind.i64.wrap ((i : Int) - 1) = ((i - 1 : Nat) : Int) := i64s (k := 1) (by omega) (by omega)
    have s2 : IntKind.i64.wrap ((i : Int) - 2) = ((i - 2 : Nat) : Int) := i64s (k := 2) (by omega) (by omega)
    have s3 : IntKind.i64.wrap ((i : Int) - 3) = ((i - 3 : Nat) : Int) := i64s (k := 3) (by omega) (by omega)
    have s4 : IntKind.i64.wrap ((i : Int) - 4) = ((i - 4 : Nat) : Int) := i64s (k := 4) (by omega) (by omega)
    have r1 : ((IntKind.u32.wrap (v : Int)).tmod 10000).tmod 100 = ((v % 10000 % 100 : Nat) : Int) := by rw [u32n (by omega), tm4, tm100]
    have r2 : IntKind.u32.wrap (((IntKind.u32.wrap (v : Int)).tmod 10000).tdiv 100) = ((v % 10000 / 100 : Nat) : Int) := by rw [u32n (by omega), tm4, td100, u32n (by omega)]
    have r3 : IntKind.u32.wrap ((IntKind.u32.wrap (v : Int)).tdiv 10000) = ((v / 10000 : Nat) : Int) := by rw [u32n (by omega), td4, u32n (by omega)]
    have h1 : v % 10000 % 100 < 100 := by omega
    have h2 : v % 10000 / 100 < 100 := by omega
    simp only [e, cond_true, s1, s2, s3, s4, r1, r2, r3, Int.toNat_natCast, Nat.zero_add]
    rw [smA h1, Option.bind_some, smB h1, Option.bind_some, put2 (by omega) (by omega), put2 (by omega) (by simp only [List.length_set]; omega), smA h2, Option.bind_some, smB h2, Option.bind_some,
      put2 (by omega) (by simp only [List.length_set]; omega), put2 (by omega) (by simp only [List.length_set]; omega)]
    exact T2_ok (by omega) hl hl2 (by omega) (h.four hl h4)
  · have e : decide ((4 : Int) ≤ (i : Int)) = false := by simp; omega
    simp only [e, cond_false, u32n (show v < 4294967296 by omega)]
    exact T2_ok (by omega) hl hl2 hv h
end

theorem fb10 (N : Nat) (l : List UInt8) (n x : Nat) (hl : n ≤ l.length) (hl2 : l.length < 1000000) (hx : x < 10 ^ n) (hx2 : x < 18446744073709551616) (hN : n < N) :
    ∃ r : List UInt8 × Unit, F_internal_strconv_formatBase10 N l n (x : Int) = some r ∧ (r.1.length = l.length ∧ r.1.take n = pad n x) := by
  unfold F_internal_strconv_formatBase10
  refine iter_ok (Q := fun r : List UInt8 × Unit => r.1.length = l.length ∧ r.1.take n = pad n x) (fun k z => ∃ (i : Nat) (m : List UInt8), z = ((((x / 10 ^ (n - i) : Nat) : Int), (i : Int), ()), (), (), m, ()) ∧ i ≤ n ∧ k = i ∧ m.length = l.length ∧ (m.drop i).take (n - i) = pad (n - i) x) ?_ N n _ ⟨n, l, ?_, Nat.le_refl _, rfl, rfl, ?_⟩ hN
  · rintro k z rec ⟨i, m, rfl, hi, rfl, hm, hd⟩ ih
    have hu0 : x / 10 ^ (n - k) ≤ x := Nat.div_le_self _ _
    generalize hu : x / 10 ^ (n - k) = u at hu0
    by_cases h8 : 8 ≤ k
    · have e8 : decide ((8 : Int) ≤ (k : Int)) = true := by simp; omega
      have s1 : IntKind.i64.wrap ((k : Int) - 1) = ((k - 1 : Nat) : Int) := i64s (k := 1) (by omega) (by omega)
      have s2 : IntKind.i64.wrap ((k : Int) - 2) = ((k - 2 : Nat) : Int) := i64s (k := 2) (by omega) (by omega)
      have s3 : IntKind.i64.wrap ((k : Int) - 3) = ((k - 3 : Nat) : Int) := i64s (k := 3) (by omega) (by omega)
      have s4 : IntKind.i64.wrap ((k : Int) - 4) = ((k - 4 : Nat) : Int) := i64s (k := 4) (by omega) (by omega)
      have s5 : IntKind.i64.wrap ((k : Int) - 5) = ((k - 5 : Nat) : Int) := i64s (k := 5) (by omega) (by omega)
      have s6 : IntKind.i64.wrap ((k : Int) - 6) = ((k - 6 : Nat) : Int) := i64s (k := 6) (by omega) (by omega)
      have s7 : IntKind.i64.wrap ((k : Int) - 7) = ((k - 7 : Nat) : Int) := i64s (k := 7) (by omega) (by omega)
      have s8 : IntKind.i64.wrap ((k : Int) - 8) = ((k - 8 : Nat) : Int) := i64s (k := 8) (by omega) (by omega)
      have r1 : (((IntKind.u32.wrap ((u : Int).tmod 100000000)).tmod 10000).tmod 100) = ((u % 100000000 % 10000 % 100 : Nat) : Int) := by rw [tm8, u32n (by omega), tm4, tm100]
      have r2 : IntKind.u32.wrap (((IntKind.u32.wrap ((u : Int).tmod 100000000)).tmod 10000).tdiv 100) = ((u % 100000000 % 10000 / 100 : Nat) : Int) := by rw [tm8, u32n (by omega), tm4, td100, u32n (by omega)]
      have r3 : (IntKind.u32.wrap ((IntKind.u32.wrap ((u : Int).tmod 100000000)).tdiv 10000)).tmod 100 = ((u % 100000000 / 10000 % 100 : Nat) : Int) := by rw [tm8, u32n (by omega), td4, u32n (by omega), tm100]
      have r4 : IntKind.u32.wrap ((IntKind.u32.wrap ((IntKind.u32.wrap ((u : Int).tmod 100000000)).tdiv 10000)).tdiv 100) = ((u % 100000000 / 10000 / 100 : Nat) : Int) := by rw [tm8, u32n (by omega), td4, u32n (by omega), td100, u32n (by omega)]
      have r5 : IntKind.u64.wrap ((u : Int).tdiv 100000000) = ((u / 100000000 : Nat) : Int) := by rw [td8, u64n (by omega)]
      have h1 : u % 100000000 % 10000 % 100 < 100 := by omega
      have h2 : u % 100000000 % 10000 / 100 < 100 := by omega
      have h3 : u % 100000000 / 10000 % 100 < 100 := by omega
      have h4 : u % 100000000 / 10000 / 100 < 100 := by omega
      simp only [e8, cond_true, s1, s2, s3, s4, s5, s6, s7, s8, r1, r2, r3, r4, r5, Int.toNat_natCast, Nat.zero_add]
      rw [smA h1, Option.bind_some, smB h1, Option.bind_some, put2 (by omega) (by omega), put2 (by omega) (by simp only [List.length_set]; omega), smA h2, Option.bind_some, smB h2, Option.bind_some,
        put2 (by omega) (by simp only [List.length_set]; omega), put2 (by omega) (by simp only [List.length_set]; omega), smA h3, Option.bind_some, smB h3, Option.bind_some,
        put2 (by omega) (by simp only [List.length_set]; omega), put2 (by omega) (by simp only [List.length_set]; omega), smA h4, Option.bind_some, smB h4, Option.bind_some,
        put2 (by omega) (by simp only [List.length_set]; omega), put2 (by omega) (by simp only [List.length_set]; omega)]
      have hq : x / 10 ^ (n - (k - 8)) = u / 100000000 := by
        rw [show n - (k - 8) = (n - k) + 8 by omega, Nat.pow_add, ← Nat.div_div_eq_div_mul, hu]
      refine ih (k - 8) _ (by omega) ⟨k - 8, _, by rw [hq], by omega, rfl, ?_, ?_⟩
      · simp only [List.length_set]; exact hm
      · have d1 := set_drop (m := m) (i := k) (j := k - 1) (c := dg (u % 100000000 % 10000 % 100)) (by omega) (by omega) rfl
        have d2 := set_drop (i := k - 1) (j := k - 2) (c := dg (u % 100000000 % 10000 % 100 / 10)) (by omega) (by simp only [List.length_set]; omega) d1
        have d3 := set_drop (i := k - 2) (j := k - 3) (c := dg (u % 100000000 % 10000 / 100)) (by omega) (by simp only [List.length_set]; omega) d2
        have d4 := set_drop (i := k - 3) (j := k - 4) (c := dg (u % 100000000 % 10000 / 100 / 10)) (by omega) (by simp only [List.length_set]; omega) d3
        have d5 := set_drop (i := k - 4) (j := k - 5) (c := dg (u % 100000000 / 10000 % 100)) (by omega) (by simp only [List.length_set]; omega) d4
        have d6 := set_drop (i := k - 5) (j := k - 6) (c := dg (u % 100000000 / 10000 % 100 / 10)) (by omega) (by simp only [List.length_set]; omega) d5
        have d7 := set_drop (i := k - 6) (j := k - 7) (c := dg (u % 100000000 / 10000 / 100)) (by omega) (by simp only [List.length_set]; omega) d6
        have d8 := set_drop (i := k - 7) (j := k - 8) (c := dg (u % 100000000 / 10000 / 100 / 10)) (by omega) (by simp only [List.length_set]; omega) d7
        have hp : pad 8 u = [dg (u % 100000000 / 10000 / 100 / 10), dg (u % 100000000 / 10000 / 100), dg (u % 100000000 / 10000 % 100 / 10), dg (u % 100000000 / 10000 % 100), dg (u % 100000000 % 10000 / 100 / 10), dg (u % 100000000 % 10000 / 100), dg (u % 100000000 % 10000 % 100 / 10), dg (u % 100000000 % 10000 % 100)] := by
          simp only [pad, List.nil_append, List.cons_append, List.cons.injEq, and_true]
          refine ⟨dg_eq ?_, dg_eq ?_, dg_eq ?_, dg_eq ?_, dg_eq ?_, dg_eq ?_, dg_eq ?_, dg_eq ?_⟩ <;> omega
        rw [d8, show n - (k - 8) = (n - k) + 8 by omega, Nat.add_comm (n - k) 8, pad_split 8, hu, hp, Nat.add_comm 8]
        simp only [List.take_succ_cons, List.cons_append, List.nil_append, hd]
    · have e8 : decide ((8 : Int) ≤ (k : Int)) = false := by simp; omega
      have hk : k < 8 := by omega
      have hul : u < 10 ^ k := by
        rw [← hu]
        refine Nat.div_lt_of_lt_mul ?_
        rw [← Nat.pow_add, show n - k + k = n by omega]; exact hx
      have hu8 : u < 100000000 := Nat.lt_of_lt_of_le hul (Nat.pow_le_pow_right (by omega) (show k ≤ 8 by omega))
      have hI : Inv l n x k u m := ⟨hi, hm, hd, hu, hul⟩
      simp only [e8, cond_false]
      exact T1_ok (by omega) hl hl2 hu8 hI
  · simp
  · simp [pad]
end Go.Proofs.Xs
/-
  Numbers as text: how many digits; strconv.FormatUint and the document's Decimal.
-/
set_option linter.unusedVariables false
set_option linter.unusedSimpArgs false
set_option maxRecDepth 100000
namespace Go.Proofs.Xs
open Go Go.Xl Go.Ab Go.Proofs Go.Proofs.Xr

/-- so many digits -/
def Dig (d x : Nat) : Prop := 1 ≤ d ∧ x < 10 ^ d ∧ (d = 1 ∨ 10 ^ (d - 1) ≤ x)

theorem Dig.exists (x : Nat) (h : x < 18446744073709551616) : ∃ d, Dig d x ∧ d ≤ 20 := by
  have key : ∀ k x, x < 10 ^ (k + 1) → ∃ d, Dig d x ∧ d ≤ k + 1 := by
    intro k
    induction k with
    | zero => intro x hx; exact ⟨1, ⟨by omega, by simpa using hx, .inl rfl⟩, by omega⟩
    | succ k ih =>
      intro x hx
      by_cases h : x < 10 ^ (k + 1)
      · obtain ⟨d, h1, h2⟩ := ih x h
        exact ⟨d, h1, by omega⟩
      · exact ⟨k + 2, ⟨by omega, hx, .inr (by simpa using h)⟩, by omega⟩
  exact key 19 x (Nat.lt_trans h (by decide))

theorem Dig.unique {d e x : Nat} (h : Dig d x) (h' : Dig e x) : d = e := by
  obtain ⟨h1, h2, h3⟩ := h
  obtain ⟨g1, g2, g3⟩ := h'
  have key : ∀ {a b : Nat}, 1 ≤ a → x < 10 ^ a → (b = 1 ∨ 10 ^ (b - 1) ≤ x) → b ≤ a := by
    intro a b ha hx hb
    rcases hb with rfl | hb
    · exact ha
    · have : 10 ^ (b - 1) < 10 ^ a := Nat.lt_of_le_of_lt hb hx
      have := (Nat.pow_lt_pow_iff_right (show 1 < 10 by decide)).1 this
      omega
  exact Nat.le_antisymm (key g1 g2 h3) (key h1 h2 g3)

/-- the digits -/
noncomputable def dec (x : Nat) : List UInt8 := pad (Nat.rec (motive := fun _ => Nat → Nat) (fun _ => 1) (fun _ ih y => if y < 10 then 1 else ih (y / 10) + 1) 20 x) x

theorem nd_dig : ∀ (k x : Nat), x < 10 ^ (k + 1) → Dig (Nat.rec (motive := fun _ => Nat → Nat) (fun _ => 1) (fun _ ih y => if y < 10 then 1 else ih (y / 10) + 1) k x) x
  | 0, x, h => ⟨Nat.le_refl _, by show x < 10 ^ 1; simpa using h, .inl rfl⟩
  | k + 1, x, h => by
    show Dig (if x < 10 then 1 else Nat.rec (motive := fun _ => Nat → Nat) (fun _ => 1) (fun _ ih y => if y < 10 then 1 else ih (y / 10) + 1) k (x / 10) + 1) x
    by_cases hx : x < 10
    · rw [if_pos hx]; exact ⟨Nat.le_refl _, by simpa using hx, .inl rfl⟩
    · rw [if_neg hx]
      obtain ⟨h1, h2, h3⟩ := nd_dig k (x / 10) (Nat.div_lt_of_lt_mul (by rw [Nat.mul_comm, ← Nat.pow_succ]; exact h))
      generalize (Nat.rec (motive := fun _ => Nat → Nat) (fun _ => 1) (fun _ ih y => if y < 10 then 1 else ih (y / 10) + 1) k (x / 10) : Nat) = d at h1 h2 h3
      refine ⟨by omega, by rw [Nat.pow_succ]; omega, .inr ?_⟩
      rw [Nat.add_sub_cancel]
      rcases h3 with rfl | h3
      · simpa using hx
      · have : d = (d - 1) + 1 := by omega
        rw [this, Nat.pow_succ]; omega

theorem dec_pad {d x : Nat} (hx : x < 18446744073709551616) (h : Dig d x) : dec x = pad d x := by
  have := nd_dig 20 x (Nat.lt_trans hx (by decide))
  unfold dec
  rw [this.unique h]

theorem pad_len : ∀ (d x : Nat), (pad d x).length = d
  | 0, _ => rfl
  | d + 1, x => by simp [pad, pad_len d]

theorem toU8_dg (x : Nat) (h : x < 18446744073709551616) : toU8 (IntKind.u8.wrap (IntKind.u64.wrap (48 + ((x : Nat) : Int).tmod 10))) = dg x := by
  have h1 : ((x : Nat) : Int).tmod 10 = ((x % 10 : Nat) : Int) := rfl
  have h2 : ∀ k < 10, toU8 (IntKind.u8.wrap (IntKind.u64.wrap (48 + ((k : Nat) : Int)))) = UInt8.ofNat (48 + k) := by decide +kernel
  rw [h1, h2 _ (Nat.mod_lt _ (by decide))]
  rfl

theorem td10 (a : Nat) : ((a : Nat) : Int).tdiv 10 = ((a / 10 : Nat) : Int) := rfl

abbrev T8 : List UInt8 := [0, 1, 2, 2, 3, 3, 3, 3, 4, 4, 4, 4, 4, 4, 4, 4, 5, 5, 5, 5, 5, 5, 5, 5, 5, 5, 5, 5, 5, 5, 5, 5, 6, 6, 6,
                      6, 6, 6, 6, 6, 6, 6, 6, 6, 6, 6, 6, 6, 6, 6, 6, 6, 6, 6, 6, 6, 6, 6, 6, 6, 6, 6, 6, 6, 7, 7, 7, 7,
                      7, 7, 7, 7, 7, 7, 7, 7, 7, 7, 7, 7, 7, 7, 7, 7, 7, 7, 7, 7, 7, 7, 7, 7, 7, 7, 7, 7, 7, 7, 7, 7, 7,
                      7, 7, 7, 7, 7, 7, 7, 7, 7, 7, 7, 7, 7, 7, 7, 7, 7, 7, 7, 7, 7, 7, 7, 7, 7, 7, 7, 8, 8, 8, 8, 8, 8,
                      8, 8, 8, 8, 8, 8, 8, 8, 8, 8, 8, 8, 8, 8, 8, 8, 8, 8, 8, 8, 8, 8, 8, 8, 8, 8, 8, 8, 8, 8, 8, 8, 8,
                      8, 8, 8, 8, 8, 8, 8, 8, 8, 8, 8, 8, 8, 8, 8, 8, 8, 8, 8, 8, 8, 8, 8, 8, 8, 8, 8, 8, 8, 8, 8, 8, 8,
                      8, 8, 8, 8, 8, 8, 8, 8, 8, 8, 8, 8, 8, 8, 8, 8, 8, 8, 8, 8, 8, 8, 8, 8, 8, 8, 8, 8, 8, 8, 8, 8, 8,
                      8, 8, 8, 8, 8, 8, 8, 8, 8, 8, 8, 8, 8, 8, 8, 8, 8, 8, 8, 8, 8, 8,
                      8]
/-- the table of lengths -/
theorem len8 : ∀ k : Nat, k < 256 → ∃ c : UInt8, T8[(toU8 (IntKind.u8.wrap (k : Int))).toNat]? = some c ∧ c.toNat ≤ 8 ∧ k < 2 ^ c.toNat ∧ (k = 0 ∨ 1 ≤ c.toNat ∧ 2 ^ (c.toNat - 1) ≤ k) := by
  intro k hk
  have h := (by decide +kernel : ∀ k : Nat, k < 256 → T8[(toU8 (IntKind.u8.wrap (k : Int))).toNat]?.any (fun c => decide (c.toNat ≤ 8 ∧ k < 2 ^ c.toNat ∧ (k = 0 ∨ 1 ≤ c.toNat ∧ 2 ^ (c.toNat - 1) ≤ k))) = true) k hk
  rw [Option.any_eq_true] at h
  obtain ⟨c, h1, h2⟩ := h
  exact ⟨c, h1, of_decide_eq_true h2⟩

/-- what a length is -/
def Len (n x : Nat) : Prop := n ≤ 64 ∧ x < 2 ^ n ∧ 1 ≤ n ∧ 2 ^ (n - 1) ≤ x

theorem fd (a b : Nat) : ((a : Nat) : Int).fdiv (b : Int) = ((a / b : Nat) : Int) := by rw [Int.fdiv_eq_ediv_of_nonneg _ (by omega)]; rfl
theorem fd8 (a : Nat) : ((a : Nat) : Int).fdiv 256 = ((a / 256 : Nat) : Int) := fd a 256
theorem fd16 (a : Nat) : ((a : Nat) : Int).fdiv 65536 = ((a / 65536 : Nat) : Int) := fd a 65536
theorem fd32 (a : Nat) : ((a : Nat) : Int).fdiv 4294967296 = ((a / 4294967296 : Nat) : Int) := fd a 4294967296
theorem i64k {a : Nat} (h : a < 9223372036854775808) : IntKind.i64.wrap (a : Int) = (a : Int) := IntWalk.i64_in _ (by omega)

theorem len64 (N x : Nat) (h0 : 1 ≤ x) (hx : x < 18446744073709551616) : ∃ n : Nat, F_math_bits_Len64 N (x : Int) = some (n : Int) ∧ Len n x := by
  have fin : ∀ (y b : Nat), 1 ≤ y → y < 256 → b ≤ 56 → y = x / 2 ^ b → ∃ n : Nat, T8[(toU8 (IntKind.u8.wrap (y : Int))).toNat]?.bind (fun c : UInt8 => some (IntKind.i64.wrap ((b : Int) + (c.toNat : Int)))) = some (n : Int) ∧ Len n x := by
    intro y b hy1 hy hb e
    obtain ⟨c, h1, h2, h3, h4⟩ := len8 y hy
    refine ⟨b + c.toNat, ?_, by omega, ?_, ?_, ?_⟩
    · rw [h1, Option.bind_some, show (b : Int) + (c.toNat : Int) = ((b + c.toNat : Nat) : Int) by omega, i64k (by omega)]
    · rw [e] at h3
      have := (Nat.div_lt_iff_lt_mul (Nat.two_pow_pos b)).1 h3
      rw [Nat.pow_add, Nat.mul_comm]; exact this
    · rcases h4 with h4 | h4 <;> omega
    · rcases h4 with h4 | ⟨h4, h5⟩
      · omega
      · rw [e] at h5
        have := (Nat.le_div_iff_mul_le (Nat.two_pow_pos b)).1 h5
        rw [show b + c.toNat - 1 = (c.toNat - 1) + b by omega, Nat.pow_add]; exact this
  have s8 : ∀ (y b : Nat), 1 ≤ y → y < 65536 → b ≤ 48 → y = x / 2 ^ b → ∃ n : Nat, (bif decide (256 ≤ ((y : Nat) : Int)) then T8[(toU8 (IntKind.u8.wrap (((y / 256 : Nat) : Nat) : Int))).toNat]?.bind (fun c : UInt8 => some (IntKind.i64.wrap ((((b + 8 : Nat) : Nat) : Int) + (c.toNat : Int)))) else T8[(toU8 (IntKind.u8.wrap (y : Int))).toNat]?.bind (fun c : UInt8 => some (IntKind.i64.wrap ((b : Int) + (c.toNat : Int))))) = some (n : Int) ∧ Len n x := by
    intro y b hy1 hy hb e
    by_cases h : 256 ≤ y
    · rw [decide_eq_true (by omega), cond_true]
      exact fin (y / 256) (b + 8) (by omega) (by omega) (by omega) (by rw [e, Nat.pow_add, ← Nat.div_div_eq_div_mul])
    · rw [decide_eq_false (by omega), cond_false]
      exact fin y b hy1 (by omega) (by omega) e
  unfold F_math_bits_Len64
  simp only [joinAt]
  have j8 : ∀ b : Nat, b ≤ 48 → IntKind.i64.wrap ((b : Int) + 8) = ((b + 8 : Nat) : Int) := fun b hb => by rw [IntWalk.i64_in _ (by omega)]; omega
  have s16 : ∀ (y b : Nat), 1 ≤ y → y < 4294967296 → b ≤ 32 → y = x / 2 ^ b → IntKind.i64.wrap ((b : Int) + 16) = ((b + 16 : Nat) : Int) := fun y b _ _ hb _ => by rw [IntWalk.i64_in _ (by omega)]; omega
  by_cases h32 : 4294967296 ≤ x
  · rw [decide_eq_true (show (4294967296 : Int) ≤ (x : Int) by omega), cond_true]
    simp only [fd32]
    have hq : x / 4294967296 = x / 2 ^ 32 := rfl
    by_cases h16 : 65536 ≤ x / 4294967296
    · rw [decide_eq_true (show (65536 : Int) ≤ ((x / 4294967296 : Nat) : Int) by omega), cond_true]
      simp only [fd16]
      have := s8 (x / 4294967296 / 65536) 48 (by omega) (by omega) (by omega) (by rw [hq, Nat.div_div_eq_div_mul])
      simp only [fd8]; exact this
    · rw [decide_eq_false (show ¬ (65536 : Int) ≤ ((x / 4294967296 : Nat) : Int) by omega), cond_false]
      have := s8 (x / 4294967296) 32 (by omega) (by omega) (by omega) hq
      simp only [fd8]; exact this
  · rw [decide_eq_false (show ¬ (4294967296 : Int) ≤ (x : Int) by omega), cond_false]
    by_cases h16 : 65536 ≤ x
    · skip
      rw [decide_eq_true (show (65536 : Int) ≤ ((x : Nat) : Int) by omega), cond_true]
      simp only [fd16]
      have := s8 (x / 65536) 16 (by omega) (by omega) (by omega) rfl
      simp only [fd8]; exact this
    · skip
      rw [decide_eq_false (show ¬ (65536 : Int) ≤ ((x : Nat) : Int) by omega), cond_false]
      have := s8 x 0 (by omega) (by omega) (by omega) (by simp)
      simp only [fd8]; exact this

/-- the powers of ten -/
abbrev tab0 : List Int := [1, 10, 100, 1000, 10000, 100000, 1000000, 10000000, 100000000, 1000000000, 10000000000, 100000000000, 1000000000000, 10000000000000, 100000000000000, 1000000000000000, 10000000000000000, 100000000000000000, 1000000000000000000, 10000000000000000000]

theorem log_all : ∀ n < 65, (n * 78913) / 262144 < 20 ∧ tab0[(n * 78913) / 262144]? = some ((10 ^ ((n * 78913) / 262144) : Nat) : Int) ∧ 2 ^ n ≤ 10 ^ ((n * 78913) / 262144 + 1) ∧
    (1 ≤ n → (n * 78913) / 262144 = 0 ∨ 10 ^ ((n * 78913) / 262144 - 1) ≤ 2 ^ (n - 1)) := by decide +kernel

theorem numDigits_eq (N x d : Nat) (h0 : 1 ≤ x) (hx : x < 18446744073709551616) (hd : Dig d x) : F_internal_strconv_numDigits N (x : Int) tab0 = some (d : Int) := by
  obtain ⟨n, h1, h2, h3, h4, h5⟩ := len64 N x h0 hx
  unfold F_internal_strconv_numDigits F_internal_strconv_log10Pow2 F_internal_strconv_bool2_int
  obtain ⟨g1, g2, g3, g4⟩ := log_all n (by omega)
  rw [h1, Option.bind_some, Option.bind_some, show IntKind.i64.wrap ((n : Int) * 78913) = ((n * 78913 : Nat) : Int) by rw [IntWalk.i64_in _ (by omega)]; omega]
  rw [show ((n * 78913 : Nat) : Int).fdiv 262144 = ((n * 78913 / 262144 : Nat) : Int) from fd _ 262144]
  generalize n * 78913 / 262144 = e at g1 g2 g3 g4
  have hb : tab0.length.ble 20 = true := rfl
  rw [hb, cond_true, at?_nat, g2, Option.bind_some]
  by_cases h : 10 ^ e ≤ x
  · rw [decide_eq_true (by omega), cond_true, Option.bind_some, show (e : Int) + 1 = ((e + 1 : Nat) : Int) by omega, i64k (by omega)]
    have : d = e + 1 := hd.unique ⟨by omega, by omega, .inr (by simpa using h)⟩
    rw [this]
  · rw [decide_eq_false (by omega), cond_false, Option.bind_some, Int.add_zero, i64k (by omega)]
    have he : e ≠ 0 := by rintro rfl; simp at h; omega
    have : d = e := hd.unique ⟨by omega, by omega, .inr (by rcases g4 h4 with g | g <;> omega)⟩
    rw [this]

theorem small_all : ∀ k < 100, F_internal_strconv_small 0 ((k : Nat) : Int) = some (dec k) := by decide +kernel

theorem intFormat_eq (N x : Nat) (hx : x < 18446744073709551616) (hN : 30 ≤ N) : F_internal_strconv_FormatUint N (x : Int) 10 tab0 = some (dec x) := by
  unfold F_internal_strconv_FormatUint
  have e10 : ((10 : Int) == 10) = true := rfl
  rw [e10, cond_true]
  by_cases h : x < 100
  · rw [decide_eq_true (by omega), cond_true, i64k (by omega)]
    show Option.bind (F_internal_strconv_small 0 (x : Int)) _ = _
    rw [small_all x h, Option.bind_some]
  · obtain ⟨d, h1, h2⟩ := Dig.exists x hx
    rw [decide_eq_false (by omega), cond_false, numDigits_eq N x d (by omega) hx h1, Option.bind_some]
    have hc : cutOk 0 (d : Int) 24 = true := by simp [cutOk]; omega
    obtain ⟨r, r1, r2, r3⟩ := fb10 N (List.replicate 24 0) d x (by simp; omega) (by simp) h1.2.1 hx (by omega)
    simp only [hc, cond_true, Int.toNat_natCast, Nat.sub_zero]
    rw [r1, Option.bind_some]
    rw [List.length_replicate] at r2
    have hb : Nat.ble 24 r.1.length = true := by rw [r2]; rfl
    have hb2 : (0 + d).ble r.1.length = true := by rw [r2]; exact Nat.ble_eq_true_of_le (by omega)
    rw [hb, cond_true, hb2, cond_true, List.drop_zero, r3, dec_pad hx h1]

theorem format_eq (N x : Nat) (hx : x < 18446744073709551616) (hN : 30 ≤ N) : F_strconv_FormatUint N (x : Int) 10 tab0 = some (dec x) := by
  unfold F_strconv_FormatUint
  rw [intFormat_eq N x hx hN]; rfl

theorem dec_len (x : Nat) (hx : x < 18446744073709551616) : (dec x).length ≤ 20 := by
  obtain ⟨d, h1, h2⟩ := Dig.exists x hx
  rw [dec_pad hx h1, pad_len]; exact h2

end Go.Proofs.Xs
/-
  Plain laws on lists in order: insertion, each once.
-/
set_option linter.unusedVariables false
set_option linter.unusedSimpArgs false
namespace Go.Xl

/-- an order, and what is neither ahead nor behind -/
structure LO {α : Type} (lt eq : α → α → Bool) : Prop where
  asymm : ∀ x y, lt x y = true → lt y x = false
  ntrans : ∀ x y z, lt x y = false → lt y z = false → lt x z = false
  eq_def : ∀ x y, eq x y = (!lt x y && !lt y x)

section
variable {α : Type} {lt eq : α → α → Bool}

theorem LO.irrefl (h : LO lt eq) (x : α) : lt x x = false := by
  cases hx : lt x x with
  | false => rfl
  | true => have := h.asymm x x hx; rw [hx] at this; cases this

theorem LO.trans (h : LO lt eq) {x y z : α} (h1 : lt x y = true) (h2 : lt y z = true) : lt x z = true := by
  cases hx : lt x z with
  | true => rfl
  | false =>
    have := h.ntrans x z y hx (h.asymm _ _ h2)
    rw [h1] at this; cases this

/-- x < y ≤ z -/
theorem LO.lt_le (h : LO lt eq) {x y z : α} (h1 : lt x y = true) (h2 : lt z y = false) : lt x z = true := by
  cases hx : lt x z with
  | true => rfl
  | false => have := h.ntrans x z y hx h2; rw [h1] at this; cases this

/-- x ≤ y < z -/
theorem LO.le_lt (h : LO lt eq) {x y z : α} (h1 : lt y x = false) (h2 : lt y z = true) : lt x z = true := by
  cases hx : lt x z with
  | true => rfl
  | false => have := h.ntrans y x z h1 hx; rw [h2] at this; cases this

theorem LO.eq_true (h : LO lt eq) {x y : α} : eq x y = true ↔ lt x y = false ∧ lt y x = false := by
  rw [h.eq_def]; simp

theorem LO.eq_symm (h : LO lt eq) (x y : α) : eq x y = eq y x := by rw [h.eq_def, h.eq_def, Bool.and_comm]

/-- in its place, behind those that are the same -/
def insR (lt : α → α → Bool) (x : α) : List α → List α
  | [] => [x]
  | y :: r => cond (lt x y) (x :: y :: r) (y :: insR lt x r)

/-- one by one -/
def isort (lt : α → α → Bool) (l : List α) : List α := l.foldl (fun p x => insR lt x p) []

/-- in order -/
def Asc (lt : α → α → Bool) (l : List α) : Prop := l.Pairwise fun a b => lt b a = false

/-- each one once, of those that stand side by side; the first one stays -/
def compGoB (eq : α → α → Bool) (p : α) : List α → List α
  | [] => []
  | y :: r => cond (eq y p) (compGoB eq p r) (y :: compGoB eq y r)
def compB (eq : α → α → Bool) : List α → List α
  | [] => []
  | x :: r => x :: compGoB eq x r

/-- one more, but that one with its key is there -/
def putR (lt eq : α → α → Bool) (x : α) (q : List α) : List α := cond (q.any (eq x)) q (insR lt x q)

theorem insR_mem {x z : α} {l : List α} : z ∈ insR lt x l ↔ z = x ∨ z ∈ l := by
  induction l with
  | nil => simp [insR]
  | cons y r ih =>
    simp only [insR]
    cases lt x y with
    | true => simp
    | false => simp [ih]; constructor <;> rintro (h | h | h) <;> simp [h]

theorem insR_length (x : α) (l : List α) : (insR lt x l).length = l.length + 1 := by
  induction l with
  | nil => rfl
  | cons y r ih =>
    simp only [insR]
    cases lt x y <;> simp [ih]

theorem insR_asc (h : LO lt eq) {x : α} {l : List α} (hl : Asc lt l) : Asc lt (insR lt x l) := by
  induction l with
  | nil => simp [insR, Asc]
  | cons y r ih =>
    simp only [Asc, List.pairwise_cons] at hl ⊢
    simp only [insR]
    cases hx : lt x y with
    | true =>
      simp only [cond_true, List.pairwise_cons, List.mem_cons]
      refine ⟨?_, hl.1, hl.2⟩
      rintro z (rfl | hz)
      · exact h.asymm _ _ hx
      · exact h.asymm _ _ (h.lt_le hx (hl.1 z hz))
    | false =>
      simp only [cond_false, List.pairwise_cons]
      refine ⟨fun z hz => ?_, ih hl.2⟩
      rcases insR_mem.1 hz with rfl | hz
      · exact hx
      · exact hl.1 z hz

theorem isort_snoc (l : List α) (x : α) : isort lt (l ++ [x]) = insR lt x (isort lt l) := by simp [isort]

theorem isort_asc (h : LO lt eq) (l : List α) : Asc lt (isort lt l) := by
  have : ∀ (l p : List α), Asc lt p → Asc lt (l.foldl (fun p x => insR lt x p) p) := by
    intro l
    induction l with
    | nil => intro p hp; exact hp
    | cons y r ih => intro p hp; exact ih _ (insR_asc h hp)
  exact this l [] (by simp [Asc])

theorem isort_length (l : List α) : (isort lt l).length = l.length := by
  have : ∀ (l p : List α), (l.foldl (fun p x => insR lt x p) p).length = p.length + l.length := by
    intro l
    induction l with
    | nil => intro p; simp
    | cons y r ih => intro p; rw [List.foldl_cons, ih, insR_length]; simp; omega
  simpa [isort] using this l []

theorem isort_mem {z : α} (l : List α) : z ∈ isort lt l ↔ z ∈ l := by
  have : ∀ (l p : List α), z ∈ l.foldl (fun p x => insR lt x p) p ↔ z ∈ p ∨ z ∈ l := by
    intro l
    induction l with
    | nil => intro p; simp
    | cons y r ih => intro p; rw [List.foldl_cons, ih, insR_mem]; simp; constructor <;> rintro (h | h) <;> grind
  simpa [isort] using this l []

theorem compGoB_mem {p z : α} {l : List α} (h : z ∈ compGoB eq p l) : z ∈ l := by
  induction l generalizing p with
  | nil => simp [compGoB] at h
  | cons y r ih =>
    simp only [compGoB] at h
    cases hy : eq y p with
    | true => rw [hy] at h; exact List.mem_cons_of_mem _ (ih h)
    | false =>
      rw [hy] at h
      rcases List.mem_cons.1 h with rfl | h
      · exact List.mem_cons_self
      · exact List.mem_cons_of_mem _ (ih h)

theorem compB_mem {z : α} {l : List α} (h : z ∈ compB eq l) : z ∈ l := by
  cases l with
  | nil => simp [compB] at h
  | cons x r =>
    rcases List.mem_cons.1 h with rfl | h
    · exact List.mem_cons_self
    · exact List.mem_cons_of_mem _ (compGoB_mem h)

theorem any_false {x : α} {q : List α} (h : LO lt eq) (hq : ∀ z ∈ q, lt x z = true) : q.any (eq x) = false := by
  rw [List.any_eq_false]
  intro z hz he
  have := (h.eq_true.1 he).1
  rw [hq z hz] at this; cases this

theorem insR_front {x y : α} {q : List α} (hx : lt x y = true) : insR lt x (y :: q) = x :: y :: q := by simp [insR, hx]
theorem insR_back {x y : α} {q : List α} (hx : lt x y = false) : insR lt x (y :: q) = y :: insR lt x q := by simp [insR, hx]

theorem compGoB_ins (h : LO lt eq) (x : α) : ∀ (r : List α) (y : α), Asc lt (y :: r) → lt x y = false → compGoB eq y (insR lt x r) = cond (eq x y) (compGoB eq y r) (putR lt eq x (compGoB eq y r))
  | [], y, hs, hx => by
    simp only [insR, compGoB, putR, List.any_nil, cond_false]
  | z :: r, y, hs, hx => by
    have hs' := hs
    simp only [Asc, List.pairwise_cons, List.mem_cons] at hs'
    obtain ⟨hy, hz, hr⟩ := hs'
    have hyz : lt z y = false := hy z (.inl rfl)
    cases hxz : lt x z with
    | true =>
      rw [insR_front hxz]
      have ezx : eq z x = false := by
        rw [h.eq_symm, h.eq_def, hxz]; rfl
      have hall : ∀ w ∈ z :: compGoB eq z r, lt x w = true := by
        intro w hw
        rcases List.mem_cons.1 hw with rfl | hw
        · exact hxz
        · exact h.lt_le hxz (hz w (compGoB_mem hw))
      cases he : eq x y with
      | true => simp only [compGoB, he, cond_true]
      | false =>
        have ezy : eq z y = false := by
          rw [h.eq_def, hyz]
          have : lt y z = true := h.le_lt hx hxz
          rw [this]; rfl
        simp only [compGoB, he, ezx, ezy, cond_false, putR]
        rw [any_false h hall, cond_false, insR_front hxz]
    | false =>
      rw [insR_back hxz]
      cases hezy : eq z y with
      | true =>
        simp only [compGoB, hezy, cond_true]
        refine compGoB_ins h x r y ?_ hx
        simp only [Asc, List.pairwise_cons]
        exact ⟨fun w hw => hy w (.inr hw), hr⟩
      | false =>
        have hyz' : lt y z = true := by
          cases hh : lt y z with
          | true => rfl
          | false => rw [h.eq_def, hyz, hh] at hezy; cases hezy
        have hyx : lt y x = true := h.lt_le hyz' hxz
        have exy : eq x y = false := by rw [h.eq_def, hyx]; simp
        simp only [compGoB, hezy, cond_false, exy]
        rw [compGoB_ins h x r z (by simp only [Asc, List.pairwise_cons]; exact ⟨hz, hr⟩) hxz]
        cases hexz : eq x z with
        | true => simp only [cond_true, putR, List.any_cons, hexz, Bool.true_or]
        | false =>
          simp only [cond_false, putR, List.any_cons, hexz, Bool.false_or]
          cases ha : (compGoB eq z r).any (eq x) with
          | true => simp
          | false => simp only [cond_false]; rw [insR_back hxz]

theorem compB_ins (h : LO lt eq) (x : α) {p : List α} (hp : Asc lt p) : compB eq (insR lt x p) = putR lt eq x (compB eq p) := by
  cases p with
  | nil => rfl
  | cons y r =>
    have hs := hp
    simp only [Asc, List.pairwise_cons] at hs
    cases hx : lt x y with
    | true =>
      rw [insR_front hx]
      have eyx : eq y x = false := by rw [h.eq_symm, h.eq_def, hx]; rfl
      have hall : ∀ w ∈ y :: compGoB eq y r, lt x w = true := by
        intro w hw
        rcases List.mem_cons.1 hw with rfl | hw
        · exact hx
        · exact h.lt_le hx (hs.1 w (compGoB_mem hw))
      simp only [compB, compGoB, eyx, cond_false, putR]
      rw [any_false h hall, cond_false, insR_front hx]
    | false =>
      rw [insR_back hx]
      simp only [compB]
      rw [compGoB_ins h x r y hp hx]
      cases he : eq x y with
      | true => simp only [cond_true, putR, List.any_cons, he, Bool.true_or]
      | false =>
        simp only [cond_false, putR, List.any_cons, he, Bool.false_or]
        cases ha : (compGoB eq y r).any (eq x) with
        | true => simp
        | false => simp only [cond_false]; rw [insR_back hx]

/-- sorted and each once is put one by one -/
theorem compB_isort (h : LO lt eq) (l : List α) : compB eq (isort lt l) = l.foldl (fun q x => putR lt eq x q) [] := by
  have : ∀ (l p : List α), Asc lt p → compB eq (l.foldl (fun p x => insR lt x p) p) = l.foldl (fun q x => putR lt eq x q) (compB eq p) := by
    intro l
    induction l with
    | nil => intro p _; rfl
    | cons x r ih =>
      intro p hp
      simp only [List.foldl_cons]
      rw [ih _ (insR_asc h hp), compB_ins h x hp]
  exact this l [] (by simp [Asc])

/-! rows of lists, read off the end -/

theorem LO.eq_cong (h : LO lt eq) {x p : α} (hx : eq x p = true) (y : α) : eq y x = eq y p := by
  obtain ⟨h1, h2⟩ := h.eq_true.1 hx
  rw [Bool.eq_iff_iff, h.eq_true, h.eq_true]
  exact ⟨fun ⟨a, b⟩ => ⟨h.ntrans _ _ _ a h1, h.ntrans _ _ _ h2 b⟩, fun ⟨a, b⟩ => ⟨h.ntrans _ _ _ a h2, h.ntrans _ _ _ h1 b⟩⟩

theorem compGoB_snoc (h : LO lt eq) (q y : α) : ∀ (p : α) (l : List α), (p :: l).getLast? = some q → compGoB eq p (l ++ [y]) = cond (eq y q) (compGoB eq p l) (compGoB eq p l ++ [y])
  | p, [], hq => by
    simp at hq
    subst hq
    simp [compGoB]
  | p, x :: r, hq => by
    rw [List.getLast?_cons_cons] at hq
    simp only [List.cons_append, compGoB]
    cases hx : eq x p with
    | true =>
      simp only [cond_true]
      cases r with
      | nil =>
        simp at hq
        subst hq
        simp [compGoB, h.eq_cong hx y]
      | cons z s => exact compGoB_snoc h q y p (z :: s) (by rw [List.getLast?_cons_cons] at hq ⊢; exact hq)
    | false =>
      simp only [cond_false]
      rw [compGoB_snoc h q y x r hq]
      cases hy : eq y q <;> simp

theorem compB_take_succ (h : LO lt eq) {l : List α} {m : Nat} (hm : 0 < m) {a b : α} (ha : l[m - 1]? = some a) (hb : l[m]? = some b) : compB eq (l.take (m + 1)) = cond (eq b a) (compB eq (l.take m)) (compB eq (l.take m) ++ [b]) := by
  have hlt : m < l.length := (List.getElem?_eq_some_iff.1 hb).1
  have e : l.take (m + 1) = l.take m ++ [b] := by
    rw [List.take_add_one, hb]; rfl
  rw [e]
  cases hl : l.take m with
  | nil => simp at hl; rcases hl with h | h <;> (subst h; simp at *)
  | cons x r =>
    have hlast : (x :: r).getLast? = some a := by
      rw [← hl, List.getLast?_eq_getElem?, List.length_take, List.getElem?_take, Nat.min_eq_left (by omega), if_pos (by omega)]; exact ha
    simp only [List.cons_append, compB]
    rw [compGoB_snoc h a b x r hlast]
    cases eq b a <;> simp

theorem compB_one (l : List α) : compB eq (l.take 1) = l.take 1 := by
  cases l with
  | nil => rfl
  | cons x r => simp [compB, compGoB]

end
end Go.Xl
