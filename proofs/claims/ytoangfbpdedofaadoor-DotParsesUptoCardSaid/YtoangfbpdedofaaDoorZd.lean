import Derived.Test.YtoangfbpdedofaaDoorZc
import Derived.Test.YtoangfbpdedofaaDoorZb
import Derived.Below
import Derived.ProofKit
import Derived.Sort.Grow
import Derived.Shelf.GgSortFunc.InsertionK
/-
  Cuts: at a loop's head, or where ways meet: what is kept, what is a typed variable.
-/
set_option linter.unusedVariables false
set_option linter.unusedSimpArgs false
set_option linter.unnecessarySimpa false
namespace Go.Xl
open Go.Ab

/-- a typed variable of a cut -/
inductive VK where
  | d (t : Ty)
  | tip (n : Nat) (t : Ty) (ty : Option TypeId)
  | p (k off : Nat)
  | z (k off : Nat)

@[reducible] def VK.T : VK → Type
  | .d t => t.T
  | .tip _ t _ => List t.T
  | .p _ _ => Unit
  | .z _ _ => Bool

def VK.val : (v : VK) → v.T → XV
  | .d t, x => .d (t.xv x)
  | .tip n t ty, l => .tip n t l ty
  | .p k off, _ => .nm k (.p off)
  | .z k off, b => .nm k (.z b off)

/-- the cells that a variable takes in an object -/
def VK.cells : (v : VK) → v.T → List XV
  | .d t, x => (t.enc x).map .d
  | .tip n t ty, l => [.tip n t l ty]
  | .p k off, _ => [.nm k (.p off)]
  | .z k off, b => [.nm k (.z b off)]

def decXV (t : Ty) : XV → Option t.T
  | .d x => t.decv x
  | .tip _ u l _ => t.decv (.sl u l)
  | _ => none

theorem nmp_le (k off : Nat) : ALe (XV.nm k (.p off)).a (.d XD.pp.d) := by
  intro g w v hr
  simp only [XV.a] at hr
  cases hr with
  | nm _ _ _ h => exact .d _ _ (.any _ _ ⟨_, h⟩ (by rw [show v = _ from h]; rfl))

theorem decXV_le {t : Ty} {x : XV} {y : t.T} (h : decXV t x = some y) : ALe x.a (.d (t.dv y)) := by
  unfold decXV at h
  split at h
  · exact ALe.d (t.decv_spec h)
  · rename_i n u l ty
    have := t.decv_spec h
    intro g w v hr
    exact ALe.d this g w v (ALe.tip _ _ _ _ g w v hr)
  · cases h

/-- what is handed back, as data: a pointer is some pointer -/
def decXVr (t : Ty) : XV → Option t.T
  | .nm _ (.p _) => t.decv .pp
  | x => decXV t x

theorem decXVr_le {t : Ty} {x : XV} {y : t.T} (h : decXVr t x = some y) : ALe x.a (.d (t.dv y)) := by
  unfold decXVr at h
  split at h
  · have := t.decv_spec h
    intro g w v hr
    exact ALe.d this g w v (nmp_le _ _ g w v hr)
  · exact decXV_le h

def tyLe (have_ want : Option TypeId) : Bool :=
  match want with
  | none => true
  | some e => match have_ with
    | some e' => Nat.beq e' e
    | none => false

abbrev Lab := List (Nat × Option Nat)

def projTip (n : Nat) (t : Ty) (ty : Option TypeId) : XV → Option (List t.T × Lab)
  | .tip m u l ty' => if h : u.eqb t = true then cond (tyLe ty' ty) (some (Ty.eqb_eq h ▸ l, [(n, some m)])) none else none
  | .d (.v (.slice none 0 0)) => some ([], [(n, none)])
  | _ => none

def projPtr (k off : Nat) : XV → Option (Unit × Lab)
  | .nm k' (.p off') => cond (Nat.beq k' k) (cond (Nat.beq off' off) (some ((), [])) none) none
  | _ => none

def projZ (k off : Nat) : XV → Option (Bool × Lab)
  | .nm k' (.p off') => cond (Nat.beq k' k) (cond (Nat.beq off' off) (some (false, [])) none) none
  | .nm k' (.z b off') => cond (Nat.beq k' k) (cond (Nat.beq off' off) (some (b, [])) none) none
  | .d (.v (.pointer none)) => some (true, [])
  | _ => none

/-- read a variable; the labels: new, old (none: a nil slice) -/
def VK.proj : (v : VK) → XV → Option (v.T × Lab)
  | .d t => fun x => match decXV t x with
    | some y => some (y, [])
    | none => none
  | .tip n t ty => projTip n t ty
  | .p k off => projPtr k off
  | .z k off => projZ k off

/-- objects that are no rows of cells -/
inductive OK where
  | arr (t : Ty)
  | sit
  | map (k v : Ty)
  | mit (m : Nat)
  | mitn
@[reducible] def OK.T : OK → Type
  | .arr t => List t.T
  | .sit => List UInt8 × Nat
  | .map k v => List (Nat × k.T × v.T) × Nat
  | .mit _ => Nat × List Nat × Nat
  | .mitn => Unit
def OK.ob : (o : OK) → o.T → XOb
  | .arr t, l => .arr t l
  | .sit, x => .sit x.1 x.2
  | .map k v, x => .map k v x.1 x.2
  | .mit m, x => .mit m x.1 x.2.1 x.2.2
  | .mitn, _ => .mitn
def OK.dec : (o : OK) → XOb → Option o.T
  | .arr t, .arr u l => if h : u.eqb t = true then some (Ty.eqb_eq h ▸ l) else none
  | .sit, .sit s p => some (s, p)
  | .map k v, .map k' v' es c => if h : k'.eqb k = true then if h' : v'.eqb v = true then some (Ty.eqb_eq h ▸ Ty.eqb_eq h' ▸ es, c) else none else none
  | .mit m, .mit m' a b c => cond (Nat.beq m' m) (some (a, b, c)) none
  | .mitn, .mitn => some ()
  | _, _ => none
theorem OK.dec_eq {o : OK} {x : XOb} {y : o.T} (h : o.dec x = some y) : x = o.ob y := by
  unfold OK.dec at h
  split at h
  · split at h
    · rename_i he
      have e := Ty.eqb_eq he
      subst e
      cases h; rfl
    · cases h
  · cases h; rfl
  · split at h
    · rename_i he
      split at h
      · rename_i he'
        have e := Ty.eqb_eq he
        have e' := Ty.eqb_eq he'
        subst e; subst e'
        cases h; rfl
      · cases h
    · cases h
  · rename_i m m' a b c
    cases hb : Nat.beq m' m with
    | false => simp [hb] at h
    | true =>
      simp only [hb, cond_true, Option.some.injEq] at h
      subst h
      rw [Nat.eq_of_beq_eq_true hb]; rfl
  · rfl
  · cases h
/-- the objects that it names are none of these -/
def OK.okp (ns : List Nat) : OK → Bool
  | .mit m => cond (inl m ns) false true
  | _ => true
def okArrs (ns : List Nat) : List (Nat × OK) → Bool
  | [] => true
  | p :: r => cond (p.2.okp ns) (okArrs ns r) false

structure Cut where
  vars : List (Tmp × VK)
  objs : List (Nat × List VK × Option TypeId)
  keepS : List Tmp
  keepO : List Nat
  own : List (Tmp × Nat × Ty) := []
  arrs : List (Nat × OK) := []

@[reducible] def VarsT : List (Tmp × VK) → Type
  | [] => Unit
  | p :: r => p.2.T × VarsT r

@[reducible] def CellsT : List VK → Type
  | [] => Unit
  | v :: r => v.T × CellsT r

@[reducible] def ObjsT : List (Nat × List VK × Option TypeId) → Type
  | [] => Unit
  | p :: r => CellsT p.2.1 × ObjsT r

@[reducible] def OwnT : List (Tmp × Nat × Ty) → Type
  | [] => Unit
  | p :: r => Option (List p.2.2.T × Nat) × OwnT r

@[reducible] def ArrsT : List (Nat × OK) → Type
  | [] => Unit
  | p :: r => p.2.T × ArrsT r

@[reducible] def Cut.T (c : Cut) : Type := VarsT c.vars × ObjsT c.objs × OwnT c.own × ArrsT c.arrs

def genOwnE : (l : List (Tmp × Nat × Ty)) → OwnT l → List (Nat × XV)
  | [], _ => []
  | p :: r, x => (p.1, match x.1 with
    | none => .d (.v (.slice none 0 0))
    | some y => .os p.2.1 p.2.2 0 y.2) :: genOwnE r x.2

def genOwnO : (l : List (Tmp × Nat × Ty)) → OwnT l → List (Nat × XOb)
  | [], _ => []
  | p :: r, x => match x.1 with
    | none => genOwnO r x.2
    | some y => (p.2.1, .arr p.2.2 y.1) :: genOwnO r x.2

def genArrs : (l : List (Nat × OK)) → ArrsT l → List (Nat × XOb)
  | [], _ => []
  | p :: r, x => (p.1, p.2.ob x.1) :: genArrs r x.2

def ownNames : List (Tmp × Nat × Ty) → List Nat
  | [] => []
  | p :: r => p.2.1 :: ownNames r

def arrNames : List (Nat × OK) → List Nat
  | [] => []
  | p :: r => p.1 :: arrNames r

/-- names of the objects that a cut has under their own names -/
def Cut.others (c : Cut) : List Nat := (c.objs.map (·.1) ++ arrNames c.arrs) ++ c.keepO

def genVars : (l : List (Tmp × VK)) → VarsT l → List (Nat × XV)
  | [], _ => []
  | p :: r, x => (p.1, p.2.val x.1) :: genVars r x.2

def genCells : (l : List VK) → CellsT l → List XV
  | [], _ => []
  | v :: r, x => v.cells x.1 ++ genCells r x.2

def genObjs : (l : List (Nat × List VK × Option TypeId)) → ObjsT l → List (Nat × XOb)
  | [], _ => []
  | p :: r, x => (p.1, .cells (genCells p.2.1 x.1) p.2.2) :: genObjs r x.2

/-- what is kept -/
def keepEnv (env : List (Nat × XV)) : List Tmp → List (Nat × XV)
  | [] => []
  | t :: r => match lk t env with
    | some x => (t, x) :: keepEnv env r
    | none => keepEnv env r

def keepObjs (objs : List (Nat × XOb)) : List Nat → List (Nat × XOb)
  | [] => []
  | t :: r => match lk t objs with
    | some x => (t, x) :: keepObjs objs r
    | none => keepObjs objs r

def labsOfVars : List (Tmp × VK) → List Nat
  | [] => []
  | (_, .tip n _ _) :: r => n :: labsOfVars r
  | (_, .d _) :: r => labsOfVars r
  | (_, .p _ _) :: r => labsOfVars r
  | (_, .z _ _) :: r => labsOfVars r
def labsOfCells : List VK → List Nat
  | [] => []
  | .tip n _ _ :: r => n :: labsOfCells r
  | .d _ :: r => labsOfCells r
  | .p _ _ :: r => labsOfCells r
  | .z _ _ :: r => labsOfCells r
def labsOfObjs : List (Nat × List VK × Option TypeId) → List Nat
  | [] => []
  | p :: r => labsOfCells p.2.1 ++ labsOfObjs r

def Cut.labs (c : Cut) : List Nat := labsOfVars c.vars ++ labsOfObjs c.objs

def addL (n : Nat) (live acc : List Nat) : List Nat := cond (inl n live) (cond (inl n acc) acc (n :: acc)) acc
def tipsCells (live : List Nat) : List XV → List Nat → List Nat
  | [], acc => acc
  | .tip n _ _ _ :: r, acc => tipsCells live r (addL n live acc)
  | _ :: r, acc => tipsCells live r acc
def tipsEnv (live : List Nat) : List (Nat × XV) → List Nat → List Nat
  | [], acc => acc
  | (_, .tip n _ _ _) :: r, acc => tipsEnv live r (addL n live acc)
  | _ :: r, acc => tipsEnv live r acc
def tipsObjs (live : List Nat) : List (Nat × XOb) → List Nat → List Nat
  | [], acc => acc
  | (_, .cells cs _) :: r, acc => tipsObjs live r (tipsCells live cs acc)
  | _ :: r, acc => tipsObjs live r acc
/-- labels of what is kept -/
def keepL (s0 : XSt) (c : Cut) : List Nat := tipsObjs s0.live (keepObjs s0.objs c.keepO) (tipsEnv s0.live (keepEnv s0.env c.keepS) [])

/-- the state at a cut -/
def gen (s0 : XSt) (c : Cut) (x : c.T) : XSt :=
  ⟨genVars c.vars x.1 ++ (genOwnE c.own x.2.2.1 ++ keepEnv s0.env c.keepS), genObjs c.objs x.2.1 ++ (genOwnO c.own x.2.2.1 ++ (genArrs c.arrs x.2.2.2 ++ keepObjs s0.objs c.keepO)), c.labs ++ keepL s0 c, [], []⟩

def projVars (env : List (Nat × XV)) : (l : List (Tmp × VK)) → Option (VarsT l × Lab)
  | [] => some ((), [])
  | p :: r => match lk p.1 env with
    | some v => match p.2.proj v with
      | some (x, σ) => match projVars env r with
        | some (xs, τ) => some ((x, xs), σ ++ τ)
        | none => none
      | none => none
    | none => none

/-- cells as data, slices that were appended to among them -/
def allXt : List XV → Option (List XD)
  | [] => some []
  | x :: r => match x.asD, allXt r with
    | some y, some l => some (y :: l)
    | _, _ => none

theorem asD_le {x : XV} {y : XD} (h : x.asD = some y) : ALe x.a (.d y.d) := by
  cases x with
  | d u => simp only [XV.asD, Option.some.injEq] at h; subst h; exact .refl _
  | tip n t l ty => simp only [XV.asD, Option.some.injEq] at h; subst h; exact ALe.tip _ _ _ _
  | _ => simp [XV.asD] at h

theorem allXt_get : ∀ {cs : List XV} {ds : List XD}, allXt cs = some ds → cs.length = ds.length ∧ ∀ (i : Nat) x y, cs[i]? = some x → ds[i]? = some y → ALe x.a (.d y.d)
  | [], ds, h => by simp [allXt] at h; subst h; exact ⟨rfl, by simp⟩
  | x :: r, ds, h => by
    simp only [allXt] at h
    split at h
    · rename_i y l hy hl
      cases h
      obtain ⟨h1, h2⟩ := allXt_get hl
      refine ⟨by simp [h1], fun i a b ha hb => ?_⟩
      cases i with
      | zero => simp at ha hb; subst ha; subst hb; exact asD_le hy
      | succ i => exact h2 i a b (by simpa using ha) (by simpa using hb)
    · cases h

/-- read the cells of an object -/
def projCells : (l : List VK) → List XV → Option (CellsT l × Lab)
  | [], cs => match cs with
    | [] => some ((), [])
    | _ => none
  | .d t :: r, cs => match allXt (cs.take t.size) with
    | some ds => match t.dec ds with
      | some (x, []) => match projCells r (cs.drop t.size) with
        | some (xs, τ) => some ((x, xs), τ)
        | none => none
      | _ => none
    | none => none
  | .p k off :: r, cs => match cs with
    | c :: cs' => match (VK.p k off).proj c with
      | some (x, σ) => match projCells r cs' with
        | some (xs, τ) => some ((x, xs), σ ++ τ)
        | none => none
      | none => none
    | [] => none
  | .z k off :: r, cs => match cs with
    | c :: cs' => match (VK.z k off).proj c with
      | some (x, σ) => match projCells r cs' with
        | some (xs, τ) => some ((x, xs), σ ++ τ)
        | none => none
      | none => none
    | [] => none
  | .tip n t ty :: r, cs => match cs with
    | c :: cs' => match (VK.tip n t ty).proj c with
      | some (x, σ) => match projCells r cs' with
        | some (xs, τ) => some ((x, xs), σ ++ τ)
        | none => none
      | none => none
    | [] => none

def tyEqO (a b : Option TypeId) : Bool :=
  match a, b with
  | none, none => true
  | some x, some y => Nat.beq x y
  | _, _ => false

theorem tyEqO_eq {a b : Option TypeId} (h : tyEqO a b = true) : a = b := by
  unfold tyEqO at h
  split at h
  · rfl
  · rw [Nat.eq_of_beq_eq_true h]
  · cases h

def projObjs (objs : List (Nat × XOb)) : (l : List (Nat × List VK × Option TypeId)) → Option (ObjsT l × Lab)
  | [] => some ((), [])
  | p :: r => match lk p.1 objs with
    | some (.cells cs ty) => cond (tyEqO ty p.2.2) (match projCells p.2.1 cs with
      | some (x, σ) => match projObjs objs r with
        | some (xs, τ) => some ((x, xs), σ ++ τ)
        | none => none
      | none => none) none
    | _ => none

/-- slices that own their blocks; the names: new, old -/
def projOwn (env : List (Nat × XV)) (objs : List (Nat × XOb)) : (l : List (Tmp × Nat × Ty)) → Option (OwnT l × List (Nat × Nat))
  | [] => some ((), [])
  | p :: r => match lk p.1 env, projOwn env objs r with
    | some (.os k ty a len), some (xs, τ) => match lk k objs with
      | some (.arr tu l) => if h : tu.eqb p.2.2 = true then cond (ty.eqb p.2.2) (cond (Nat.beq a 0) (some ((some (Ty.eqb_eq h ▸ l, len), xs), (p.2.1, k) :: τ)) none) none else none
      | _ => none
    | some (.d (.v (.slice none 0 0))), some (xs, τ) => some ((none, xs), τ)
    | _, _ => none

def projArrs (objs : List (Nat × XOb)) : (l : List (Nat × OK)) → Option (ArrsT l)
  | [] => some ()
  | p :: r => match lk p.1 objs, projArrs objs r with
    | some o, some xs => match p.2.dec o with
      | some y => some (y, xs)
      | none => none
    | _, _ => none

def keptEnv (s : XSt) (ns : List Nat) : List Tmp → Bool
  | [] => true
  | t :: r => cond (inl t s.wl) false (match lk t s.env with
    | some x => cond (isFree ns x.a) (keptEnv s ns r) false
    | none => false)

def keptObjs (s : XSt) (ns : List Nat) : List Nat → Bool
  | [] => true
  | t :: r => cond (inl t s.ol) false (match lk t s.objs with
    | some x => cond (obFree ns x.o) (keptObjs s ns r) false
    | none => false)

def oldLabs : Lab → List Nat
  | [] => []
  | (_, some m) :: r => m :: oldLabs r
  | (_, none) :: r => oldLabs r

def subL (a b : List Nat) : Bool :=
  match a with
  | [] => true
  | x :: r => cond (inl x b) (subL r b) false

def nodupL : List Nat → Bool
  | [] => true
  | x :: r => cond (inl x r) false (nodupL r)

def hasAll (l : List Nat) : List (Nat × XOb) → Bool
  | objs => match l with
    | [] => true
    | k :: r => match lk k objs with
      | some _ => hasAll r objs
      | none => false

def slotsOf : List (Tmp × VK) → List Nat
  | [] => []
  | p :: r => p.1 :: slotsOf r
def namesOf : List (Nat × List VK × Option TypeId) → List Nat
  | [] => []
  | p :: r => p.1 :: namesOf r

/-- nothing of a is in b -/
def apart (a b : List Nat) : Bool :=
  match a with
  | [] => true
  | x :: r => cond (inl x b) false (apart r b)

theorem apart_spec : ∀ {a b : List Nat}, apart a b = true → ∀ x ∈ a, x ∉ b
  | [], b, _ => by simp
  | y :: r, b, h => by
    simp only [apart] at h
    cases hy : inl y b with
    | true => simp [hy] at h
    | false =>
      simp only [hy, cond_false] at h
      intro x hx
      rcases List.mem_cons.1 hx with rfl | hx
      · intro hm; rw [(inl_eq _ _).2 hm] at hy; cases hy
      · exact apart_spec h x hx

def ownSlots : List (Tmp × Nat × Ty) → List Nat
  | [] => []
  | p :: r => p.1 :: ownSlots r

/-- no pointer to one of these -/
def VK.okp (ns : List Nat) : VK → Bool
  | .p k _ => cond (inl k ns) false true
  | .z k _ => cond (inl k ns) false true
  | _ => true
def okVars (ns : List Nat) : List (Tmp × VK) → Bool
  | [] => true
  | p :: r => cond (p.2.okp ns) (okVars ns r) false
def okCells (ns : List Nat) : List VK → Bool
  | [] => true
  | p :: r => cond (p.okp ns) (okCells ns r) false
def okObjs (ns : List Nat) : List (Nat × List VK × Option TypeId) → Bool
  | [] => true
  | p :: r => cond (okCells ns p.2.1) (okObjs ns r) false

/-- what the names of slices that own their blocks must be -/
def ownOk {α : Type} (c : Cut) (ν : List (Nat × Nat)) (x : Option α) : Option α :=
  cond (nodupL (ownNames c.own)) (cond (apart (ownNames c.own) c.others) (cond (nodupL (ν.map (·.2))) (cond (apart (ν.map (·.2)) c.others) (cond ((ownNames c.own).all (Nat.ble 1000)) (cond (apart c.labs (ownNames c.own)) (cond (okVars (ownNames c.own) c.vars) (cond (okObjs (ownNames c.own) c.objs) (cond (okArrs (c.labs ++ ownNames c.own) c.arrs) x none) none) none) none) none) none) none) none) none

/-- the variables of a cut, read off a state that comes to it. s0: the state at which it began -/
def proj (nm : List Nat) (kl : List Nat) (c : Cut) (s : XSt) : Option c.T :=
  match projVars s.env c.vars, projObjs s.objs c.objs, projOwn s.env s.objs c.own, projArrs s.objs c.arrs with
  | some (x, σ), some (y, τ), some (u, ν), some v =>
    cond (keptEnv s (c.labs ++ ownNames c.own) c.keepS) (cond (keptObjs s (c.labs ++ ownNames c.own) c.keepO) (cond (subL (oldLabs (σ ++ τ) ++ kl) s.live)
      (cond (nodupL (oldLabs (σ ++ τ) ++ kl)) (cond (nodupL (c.labs ++ kl)) (cond (subL nm c.others) (cond (apart c.keepS (slotsOf c.vars ++ ownSlots c.own)) (cond (apart c.keepO (namesOf c.objs ++ (ownNames c.own ++ arrNames c.arrs))) (ownOk c ν (some (x, y, u, v))) none) none) none) none) none) none) none) none
  | _, _, _, _ => none

/-! what it means -/

def labOf (τ : Lab) (n : Nat) : Option (Option Nat) := lk n τ

/-- the ghost behind a cut -/
def cutGh (g : Gh) (τ : Lab) (keepL : List Nat) (ν : List (Nat × Nat)) : Gh :=
  { g with ρ := fun j => match lk j ν with | some k => g.ρ k | none => g.ρ j, β := fun n => cond (inl n keepL) (g.β n) (match lk n τ with
    | some (some m) => g.β m
    | some none => some none
    | none => none) }

theorem inl_app {k : Nat} {a b : List Nat} : inl k (a ++ b) = (inl k a || inl k b) := by
  rw [Bool.eq_iff_iff, inl_eq, Bool.or_eq_true, inl_eq, inl_eq, List.mem_append]

theorem subL_spec : ∀ {a b : List Nat}, subL a b = true → ∀ x ∈ a, x ∈ b
  | [], b, _ => by simp
  | y :: r, b, h => by
    simp only [subL] at h
    cases hy : inl y b with
    | false => simp [hy] at h
    | true =>
      simp only [hy, cond_true] at h
      intro x hx
      rcases List.mem_cons.1 hx with rfl | hx
      · exact (inl_eq _ _).1 hy
      · exact subL_spec h x hx

theorem nodupL_spec : ∀ {a : List Nat}, nodupL a = true → a.Nodup
  | [], _ => .nil
  | y :: r, h => by
    simp only [nodupL] at h
    cases hy : inl y r with
    | true => simp [hy] at h
    | false =>
      simp only [hy, cond_false] at h
      refine List.nodup_cons.2 ⟨fun hm => ?_, nodupL_spec h⟩
      rw [(inl_eq _ _).2 hm] at hy
      cases hy

/-- what a variable holds at the cut, in the new ghost -/
theorem VK.proj_ra {v : VK} {x : XV} {y : v.T} {σ : Lab} (h : v.proj x = some (y, σ)) {g g' : Gh} {w : World} {u : Value} {ns : List Nat} (hγ : g'.γ = g.γ) (hρ : ∀ k, k ∉ ns → g'.ρ k = g.ρ k) (hok : v.okp ns = true)
    (hσ : ∀ n m, (n, some m) ∈ σ → ∀ ob, g'.β n = some ob → g.β m = some ob) (hr : RA g w x.a u) : RA g' w (v.val y).a u := by
  cases v with
  | d t =>
    simp only [VK.proj] at h
    split at h
    · rename_i y' hy
      cases h
      have hle : ALe x.a (.d (t.dv y)) := decXV_le hy
      have := hle g w u hr
      cases this with
      | d _ _ h1 => exact .d _ _ (hγ ▸ h1)
    · cases h
  | tip n t ty =>
    change projTip n t ty x = some (y, σ) at h
    unfold projTip at h
    split at h
    · rename_i m u' l' ty''
      split at h
      · rename_i he
        have e0 := Ty.eqb_eq he
        subst e0
        cases ht : tyLe ty'' ty with
        | false => simp [ht] at h
        | true =>
          simp only [ht, cond_true, Option.some.injEq, Prod.mk.injEq] at h
          obtain ⟨rfl, rfl⟩ := h
          simp only [XV.a] at hr
          cases hr with
          | tip _ _ _ _ _ h1 h2 =>
            refine .tip _ _ _ _ _ (hγ ▸ h1) ?_
            unfold TipOk at h2 ⊢
            split at h2
            · rename_i a len cap
              intro ob hob
              obtain ⟨a1, a2, a3, a4, a5⟩ := h2 ob (hσ n m (by simp) ob hob)
              refine ⟨a1, a2, by rw [hγ]; exact a3, a4, fun e hte => ?_⟩
              refine a5 e ?_
              subst hte
              simp only [tyLe] at ht
              split at ht
              · rw [Nat.eq_of_beq_eq_true ht]
              · cases ht
            · trivial
      · cases h
    · simp only [Option.some.injEq, Prod.mk.injEq] at h
      obtain ⟨rfl, rfl⟩ := h
      simp only [XV.a, XD.d] at hr
      cases hr with
      | d _ _ h1 =>
        cases h1
        exact .tip _ _ _ _ _ (.nil _ none 0 fun _ => rfl) trivial
    · cases h
  | p k off =>
    change projPtr k off x = some (y, σ) at h
    unfold projPtr at h
    split at h
    · rename_i k' off'
      cases h1 : Nat.beq k' k with
      | false => simp [h1] at h
      | true =>
        cases h2 : Nat.beq off' off with
        | false => simp [h1, h2] at h
        | true =>
          have e1 := Nat.eq_of_beq_eq_true h1
          have e2 := Nat.eq_of_beq_eq_true h2
          subst e1; subst e2
          simp only [XV.a] at hr
          cases hr with
          | nm _ _ _ h => exact .nm _ _ _ (by
              rw [hρ]
              · exact h
              · intro hm
                simp [VK.okp, (inl_eq _ _).2 hm] at hok)
    · cases h
  | z k off =>
    change projZ k off x = some (y, σ) at h
    have hk : k ∉ ns := by
      intro hm
      simp [VK.okp, (inl_eq _ _).2 hm] at hok
    unfold projZ at h
    split at h
    · rename_i k' off'
      cases h1 : Nat.beq k' k with
      | false => simp [h1] at h
      | true =>
        cases h2 : Nat.beq off' off with
        | false => simp [h1, h2] at h
        | true =>
          have e1 := Nat.eq_of_beq_eq_true h1
          have e2 := Nat.eq_of_beq_eq_true h2
          subst e1; subst e2
          simp only [h1, h2, cond_true, Option.some.injEq, Prod.mk.injEq] at h
          obtain ⟨rfl, rfl⟩ := h
          simp only [XV.a] at hr
          cases hr with
          | nm _ _ _ h => exact .nm _ _ _ (by rw [hρ _ hk]; exact h)
    · rename_i k' b off'
      cases h1 : Nat.beq k' k with
      | false => simp [h1] at h
      | true =>
        cases h2 : Nat.beq off' off with
        | false => simp [h1, h2] at h
        | true =>
          have e1 := Nat.eq_of_beq_eq_true h1
          have e2 := Nat.eq_of_beq_eq_true h2
          subst e1; subst e2
          simp only [h1, h2, cond_true, Option.some.injEq, Prod.mk.injEq] at h
          obtain ⟨rfl, rfl⟩ := h
          simp only [XV.a] at hr
          cases hr with
          | nm _ _ _ h => exact .nm _ _ _ (by rw [hρ _ hk]; exact h)
    · cases h
      simp only [XV.a, XD.d] at hr
      cases hr with
      | d _ _ h1 =>
        cases h1
        exact .nm _ _ _ rfl
    · cases h

end Go.Xl
/-
  A state that comes to a cut is one of the cut's states.
-/
set_option linter.unusedVariables false
set_option linter.unusedSimpArgs false
set_option linter.unnecessarySimpa false
namespace Go.Xl
open Go.Ab

theorem projTip_labs {n : Nat} {t : Ty} {ty : Option TypeId} {x : XV} {y : List t.T} {σ : Lab} (h : projTip n t ty x = some (y, σ)) : σ.map (·.1) = [n] := by
  unfold projTip at h
  split at h
  · split at h
    · rename_i m u' l' ty'' he
      cases ht : tyLe ty'' ty with
      | false => simp [ht] at h
      | true => simp only [ht, cond_true, Option.some.injEq, Prod.mk.injEq] at h; rw [← h.2]; rfl
    · cases h
  · simp only [Option.some.injEq, Prod.mk.injEq] at h; rw [← h.2]; rfl
  · cases h

theorem projD_labs {t : Ty} {x : XV} {y : t.T} {σ : Lab} (h : (VK.d t).proj x = some (y, σ)) : σ = [] := by
  simp only [VK.proj] at h
  split at h
  · cases h; rfl
  · cases h

theorem projP_labs {k off : Nat} {x : XV} {y : Unit} {σ : Lab} (h : (VK.p k off).proj x = some (y, σ)) : σ = [] := by
  change projPtr k off x = some (y, σ) at h
  unfold projPtr at h
  split at h
  · rename_i k' off'
    cases h1 : Nat.beq k' k with
    | false => simp [h1] at h
    | true =>
      cases h2 : Nat.beq off' off with
      | false => simp [h1, h2] at h
      | true => simp only [h1, h2, cond_true, Option.some.injEq, Prod.mk.injEq] at h; exact h.2.symm
  · cases h

theorem projZ_labs {k off : Nat} {x : XV} {y : Bool} {σ : Lab} (h : (VK.z k off).proj x = some (y, σ)) : σ = [] := by
  change projZ k off x = some (y, σ) at h
  unfold projZ at h
  split at h
  · rename_i k' off'
    cases h1 : Nat.beq k' k with
    | false => simp [h1] at h
    | true =>
      cases h2 : Nat.beq off' off with
      | false => simp [h1, h2] at h
      | true => simp only [h1, h2, cond_true, Option.some.injEq, Prod.mk.injEq] at h; exact h.2.symm
  · rename_i k' b off'
    cases h1 : Nat.beq k' k with
    | false => simp [h1] at h
    | true =>
      cases h2 : Nat.beq off' off with
      | false => simp [h1, h2] at h
      | true => simp only [h1, h2, cond_true, Option.some.injEq, Prod.mk.injEq] at h; exact h.2.symm
  · cases h; rfl
  · cases h

theorem projVars_labs {env : List (Nat × XV)} : ∀ {l : List (Tmp × VK)} {x : VarsT l} {σ : Lab}, projVars env l = some (x, σ) → σ.map (·.1) = labsOfVars l
  | [], x, σ, h => by simp [projVars] at h; rw [h]; rfl
  | (t, v) :: r, x, σ, h => by
    unfold projVars at h
    split at h
    · rename_i z hz
      split at h
      · rename_i y σ1 hy
        split at h
        · rename_i ys τ hys
          simp only [Option.some.injEq, Prod.mk.injEq] at h
          rw [← h.2, List.map_append, projVars_labs hys]
          cases v with
          | d t => rw [projD_labs hy]; rfl
          | tip n t ty => rw [projTip_labs hy]; rfl
          | p k off => rw [projP_labs hy]; rfl
          | z k off => rw [projZ_labs hy]; rfl
        · cases h
      · cases h
    · cases h

theorem projCells_labs : ∀ {l : List VK} {cs : List XV} {x : CellsT l} {σ : Lab}, projCells l cs = some (x, σ) → σ.map (·.1) = labsOfCells l
  | [], cs, x, σ, h => by
    unfold projCells at h
    split at h
    · cases h; rfl
    · cases h
  | .d t :: r, cs, x, σ, h => by
    unfold projCells at h
    split at h
    · split at h
      · split at h
        · rename_i ys τ hys
          cases h
          exact projCells_labs (l := r) hys
        · cases h
      · cases h
    · cases h
  | .p k off :: r, cs, x, σ, h => by
    unfold projCells at h
    split at h
    · split at h
      · rename_i y σ1 hy
        split at h
        · rename_i ys τ hys
          cases h
          rw [List.map_append, projP_labs hy, projCells_labs hys]; rfl
        · cases h
      · cases h
    · cases h
  | .z k off :: r, cs, x, σ, h => by
    unfold projCells at h
    split at h
    · split at h
      · rename_i y σ1 hy
        split at h
        · rename_i ys τ hys
          cases h
          rw [List.map_append, projZ_labs hy, projCells_labs hys]; rfl
        · cases h
      · cases h
    · cases h
  | .tip n t ty :: r, cs, x, σ, h => by
    unfold projCells at h
    split at h
    · split at h
      · rename_i y σ1 hy
        split at h
        · rename_i ys τ hys
          cases h
          rw [List.map_append, projTip_labs hy, projCells_labs hys]; rfl
        · cases h
      · cases h
    · cases h

theorem projObjs_labs {objs : List (Nat × XOb)} : ∀ {l : List (Nat × List VK × Option TypeId)} {x : ObjsT l} {σ : Lab}, projObjs objs l = some (x, σ) → σ.map (·.1) = labsOfObjs l
  | [], x, σ, h => by simp [projObjs] at h; rw [h]; rfl
  | p :: r, x, σ, h => by
    unfold projObjs at h
    split at h
    · rename_i cs ty hk
      cases ht : tyEqO ty p.2.2 with
      | false => simp [ht] at h
      | true =>
        simp only [ht, cond_true] at h
        split at h
        · rename_i y σ1 hy
          split at h
          · rename_i ys τ hys
            cases h
            rw [List.map_append, projCells_labs hy, projObjs_labs hys]; rfl
          · cases h
        · cases h
    · cases h

/-- cells of an array -/
def CellsOk (g : Gh) (w : World) (cs : List XV) (vs : List Value) : Prop := ∀ (i : Nat) x v, cs[i]? = some x → vs[i]? = some v → RA g w x.a v

theorem CellsOk.split {g : Gh} {w : World} {a b : List XV} {vs : List Value} (h : CellsOk g w a (vs.take a.length)) (h' : CellsOk g w b (vs.drop a.length)) : CellsOk g w (a ++ b) vs := by
  intro i x v hx hv
  rw [List.getElem?_append] at hx
  split at hx
  · rename_i hlt
    refine h i x v hx ?_
    rw [List.getElem?_take, if_pos hlt]; exact hv
  · refine h' (i - a.length) x v hx ?_
    rw [List.getElem?_drop, show a.length + (i - a.length) = i by omega]; exact hv

theorem allX_map : ∀ {cs : List XV} {ds : List XD}, allX cs = some ds → cs = ds.map .d
  | [], ds, h => by simp [allX] at h; subst h; rfl
  | x :: r, ds, h => by
    cases x with
    | d x =>
      simp only [allX] at h
      split at h
      · rename_i l hl
        cases h
        rw [allX_map hl]; rfl
      · cases h
    | _ => simp [allX] at h

theorem okCells_cons {ns : List Nat} {v : VK} {r : List VK} (h : okCells ns (v :: r) = true) : v.okp ns = true ∧ okCells ns r = true := by
  simp only [okCells] at h
  cases hv : v.okp ns with
  | false => simp [hv] at h
  | true => simp only [hv, cond_true] at h; exact ⟨rfl, h⟩

theorem projCells_ra {g g' : Gh} {w : World} {ns : List Nat} (hγ : g'.γ = g.γ) (hρ : ∀ k, k ∉ ns → g'.ρ k = g.ρ k) : ∀ {l : List VK} {cs : List XV} {x : CellsT l} {σ : Lab} {vs : List Value}, okCells ns l = true → projCells l cs = some (x, σ) →
    (∀ n m, (n, some m) ∈ σ → ∀ ob, g'.β n = some ob → g.β m = some ob) → CellsOk g w cs vs → CellsOk g' w (genCells l x) vs ∧ (genCells l x).length = cs.length
  | [], cs, x, σ, vs, hok, h, hσ, hc => by
    unfold projCells at h
    split at h
    · exact ⟨fun i x v hx => by simp [genCells] at hx, rfl⟩
    · cases h
  | .d t :: r, cs, x, σ, vs, hok, h, hσ, hc => by
    unfold projCells at h
    split at h
    · rename_i ds hds
      split at h
      · rename_i y hy
        split at h
        · rename_i ys τ hys
          cases h
          obtain ⟨zs, hz, hle⟩ := t.dec_spec hy
          simp only [dsOf, List.append_nil] at hz
          subst hz
          have hm := allXt_get hds
          have hlen : ds.length = t.size := by rw [← dsOf_length, hle.length, Ty.ds_length]
          have hle1 : t.size ≤ cs.length := by
            have : (cs.take t.size).length = ds.length := hm.1
            rw [List.length_take, hlen] at this; omega
          have ih := projCells_ra hγ hρ (vs := vs.drop t.size) (okCells_cons hok).2 hys hσ (by
            intro i x v hx hv
            rw [List.getElem?_drop] at hx hv
            exact hc _ x v hx hv)
          simp only [genCells, VK.cells]
          refine ⟨CellsOk.split ?_ (by simpa [Ty.enc_length] using ih.1), by simp [Ty.enc_length, ih.2]; omega⟩
          intro i x v hx hv
          rw [List.getElem?_map, Option.map_eq_some_iff] at hx
          obtain ⟨z, hz, rfl⟩ := hx
          simp only [List.length_map] at hv
          rw [List.getElem?_take] at hv
          split at hv
          · have hd : (t.ds y)[i]? = some z.d := by rw [← Ty.enc_ds, dsOf_map, List.getElem?_map, hz]; rfl
            obtain ⟨u, hu, hule⟩ := hle.get hd
            rw [dsOf_map, List.getElem?_map, Option.map_eq_some_iff] at hu
            obtain ⟨u', hu', rfl⟩ := hu
            have hi : i < t.size := by
              have := (List.getElem?_eq_some_iff.1 hu').1; omega
            obtain ⟨c0, hcs⟩ : ∃ c0, cs[i]? = some c0 := ⟨_, List.getElem?_eq_getElem (by omega)⟩
            have hct : (cs.take t.size)[i]? = some c0 := by rw [List.getElem?_take, if_pos hi]; exact hcs
            have := hm.2 i c0 u' hct hu' g w v (hc i _ v hcs hv)
            have := ALe.d hule g w v this
            simp only [XV.a]
            cases this with
            | d _ _ h1 => exact .d _ _ (hγ ▸ h1)
          · cases hv
        · cases h
      · cases h
    · cases h
  | .tip n t ty :: r, cs, x, σ, vs, hok, h, hσ, hc => by
    unfold projCells at h
    split at h
    · rename_i c cs'
      split at h
      · rename_i y σ1 hy
        split at h
        · rename_i ys τ hys
          cases h
          have ih := projCells_ra hγ hρ (vs := vs.drop 1) (okCells_cons hok).2 hys (fun n m hm => hσ n m (List.mem_append_right _ hm)) (by
            intro i x v hx hv
            rw [List.getElem?_drop] at hv
            exact hc (i + 1) x v (by simpa using hx) (by rw [Nat.add_comm]; exact hv))
          simp only [genCells, VK.cells]
          refine ⟨CellsOk.split (a := [_]) ?_ (by simpa using ih.1), by simp [ih.2]⟩
          intro i x v hx hv
          cases i with
          | succ i => simp at hx
          | zero =>
            simp at hx
            subst hx
            have hv' : vs[0]? = some v := by
              rw [List.getElem?_take] at hv; simpa using hv
            exact VK.proj_ra (v := .tip n t ty) hy hγ hρ (okCells_cons hok).1 (fun n m hm => hσ n m (List.mem_append_left _ hm)) (hc 0 c v rfl hv')
        · cases h
      · cases h
    · cases h
  | .p k off :: r, cs, x, σ, vs, hok, h, hσ, hc => by
    unfold projCells at h
    split at h
    · rename_i c cs'
      split at h
      · rename_i y σ1 hy
        split at h
        · rename_i ys τ hys
          cases h
          have ih := projCells_ra hγ hρ (vs := vs.drop 1) (okCells_cons hok).2 hys (fun n m hm => hσ n m (List.mem_append_right _ hm)) (by
            intro i x v hx hv
            rw [List.getElem?_drop] at hv
            exact hc (i + 1) x v (by simpa using hx) (by rw [Nat.add_comm]; exact hv))
          simp only [genCells, VK.cells]
          refine ⟨CellsOk.split (a := [_]) ?_ (by simpa using ih.1), by simp [ih.2]⟩
          intro i x v hx hv
          cases i with
          | succ i => simp at hx
          | zero =>
            simp at hx
            subst hx
            have hv' : vs[0]? = some v := by
              rw [List.getElem?_take] at hv; simpa using hv
            exact VK.proj_ra (v := .p k off) hy hγ hρ (okCells_cons hok).1 (fun n m hm => hσ n m (List.mem_append_left _ hm)) (hc 0 c v rfl hv')
        · cases h
      · cases h
    · cases h
  | .z k off :: r, cs, x, σ, vs, hok, h, hσ, hc => by
    unfold projCells at h
    split at h
    · rename_i c cs'
      split at h
      · rename_i y σ1 hy
        split at h
        · rename_i ys τ hys
          cases h
          have ih := projCells_ra hγ hρ (vs := vs.drop 1) (okCells_cons hok).2 hys (fun n m hm => hσ n m (List.mem_append_right _ hm)) (by
            intro i x v hx hv
            rw [List.getElem?_drop] at hv
            exact hc (i + 1) x v (by simpa using hx) (by rw [Nat.add_comm]; exact hv))
          simp only [genCells, VK.cells]
          refine ⟨CellsOk.split (a := [_]) ?_ (by simpa using ih.1), by simp [ih.2]⟩
          intro i x v hx hv
          cases i with
          | succ i => simp at hx
          | zero =>
            simp at hx
            subst hx
            have hv' : vs[0]? = some v := by
              rw [List.getElem?_take] at hv; simpa using hv
            exact VK.proj_ra (v := .z k off) hy hγ hρ (okCells_cons hok).1 (fun n m hm => hσ n m (List.mem_append_left _ hm)) (hc 0 c v rfl hv')
        · cases h
      · cases h
    · cases h

theorem lk_mem {α : Type} {k : Nat} {x : α} : ∀ {l : List (Nat × α)}, lk k l = some x → (k, x) ∈ l
  | [], h => by cases h
  | p :: r, h => by
    simp only [lk] at h
    cases hb : Nat.beq p.1 k with
    | true =>
      simp only [hb, cond_true, Option.some.injEq] at h
      have := Nat.eq_of_beq_eq_true hb
      subst h; subst this
      exact List.mem_cons_self
    | false =>
      simp only [hb, cond_false] at h
      exact List.mem_cons_of_mem _ (lk_mem h)

theorem lk_none {α : Type} {k : Nat} : ∀ {l : List (Nat × α)}, lk k l = none → k ∉ l.map (·.1)
  | [], _ => by simp
  | p :: r, h => by
    simp only [lk] at h
    cases hb : Nat.beq p.1 k with
    | true => simp [hb] at h
    | false =>
      simp only [hb, cond_false] at h
      have : p.1 ≠ k := Nat.ne_of_beq_eq_false hb
      simp only [List.map_cons, List.mem_cons, not_or]
      exact ⟨Ne.symm this, lk_none h⟩

theorem lk_isSome {α : Type} {k : Nat} {l : List (Nat × α)} (h : k ∈ l.map (·.1)) : ∃ x, lk k l = some x := by
  cases hl : lk k l with
  | some x => exact ⟨x, rfl⟩
  | none => exact absurd h (lk_none hl)

theorem lk_append {α : Type} {k : Nat} {a b : List (Nat × α)} : lk k (a ++ b) = match lk k a with | some x => some x | none => lk k b := by
  induction a with
  | nil => rfl
  | cons p r ih =>
    simp only [List.cons_append, lk, ih]
    cases Nat.beq p.1 k <;> rfl

theorem lk_of_mem {α : Type} {k : Nat} {x : α} : ∀ {l : List (Nat × α)}, (l.map (·.1)).Nodup → (k, x) ∈ l → lk k l = some x
  | [], _, h => by simp at h
  | p :: r, hnd, h => by
    simp only [List.map_cons, List.nodup_cons] at hnd
    simp only [lk]
    rcases List.mem_cons.1 h with h' | h'
    · subst h'; simp
    · have hne : p.1 ≠ k := fun he => hnd.1 (he ▸ List.mem_map_of_mem (f := (·.1)) h')
      rw [nbF hne]
      exact lk_of_mem hnd.2 h'

theorem okVars_cons {ns : List Nat} {v : Tmp × VK} {r : List (Tmp × VK)} (h : okVars ns (v :: r) = true) : v.2.okp ns = true ∧ okVars ns r = true := by
  simp only [okVars] at h
  cases hv : v.2.okp ns with
  | false => simp [hv] at h
  | true => simp only [hv, cond_true] at h; exact ⟨rfl, h⟩

theorem okObjs_cons {ns : List Nat} {v : Nat × List VK × Option TypeId} {r : List (Nat × List VK × Option TypeId)} (h : okObjs ns (v :: r) = true) : okCells ns v.2.1 = true ∧ okObjs ns r = true := by
  simp only [okObjs] at h
  cases hv : okCells ns v.2.1 with
  | false => simp [hv] at h
  | true => simp only [hv, cond_true] at h; exact ⟨rfl, h⟩

theorem projVars_mem {env : List (Nat × XV)} : ∀ {l : List (Tmp × VK)} {x : VarsT l} {σ : Lab} {t : Nat} {y : XV}, projVars env l = some (x, σ) → (t, y) ∈ genVars l x →
    ∃ (v : VK) (z : XV) (u : v.T) (σ' : Lab), lk t env = some z ∧ v.proj z = some (u, σ') ∧ y = v.val u ∧ (∀ p ∈ σ', p ∈ σ) ∧ ∀ ns, okVars ns l = true → v.okp ns = true
  | [], x, σ, t, y, h, hm => by simp [genVars] at hm
  | p :: r, x, σ, t, y, h, hm => by
    unfold projVars at h
    split at h
    · rename_i z hz
      split at h
      · rename_i u σ1 hu
        split at h
        · rename_i ys τ hys
          cases h
          simp only [genVars, List.mem_cons] at hm
          rcases hm with hm | hm
          · cases hm
            exact ⟨p.2, z, u, σ1, hz, hu, rfl, fun q hq => List.mem_append_left _ hq, fun ns hn => (okVars_cons hn).1⟩
          · obtain ⟨v, z, u, σ', h1, h2, h3, h4, h5⟩ := projVars_mem hys hm
            exact ⟨v, z, u, σ', h1, h2, h3, fun q hq => List.mem_append_right _ (h4 q hq), fun ns hn => h5 ns (okVars_cons hn).2⟩
        · cases h
      · cases h
    · cases h

theorem projObjs_mem {objs : List (Nat × XOb)} : ∀ {l : List (Nat × List VK × Option TypeId)} {x : ObjsT l} {σ : Lab} {k : Nat} {y : XOb}, projObjs objs l = some (x, σ) → (k, y) ∈ genObjs l x →
    ∃ (vs : List VK) (cs : List XV) (ty : Option TypeId) (u : CellsT vs) (σ' : Lab), lk k objs = some (.cells cs ty) ∧ projCells vs cs = some (u, σ') ∧ y = .cells (genCells vs u) ty ∧ (∀ p ∈ σ', p ∈ σ) ∧ k ∈ l.map (·.1) ∧ ∀ ns, okObjs ns l = true → okCells ns vs = true
  | [], x, σ, k, y, h, hm => by simp [genObjs] at hm
  | p :: r, x, σ, k, y, h, hm => by
    unfold projObjs at h
    split at h
    · rename_i cs ty hk
      cases ht : tyEqO ty p.2.2 with
      | false => simp [ht] at h
      | true =>
        simp only [ht, cond_true] at h
        have := tyEqO_eq ht
        split at h
        · rename_i u σ1 hu
          split at h
          · rename_i ys τ hys
            cases h
            simp only [genObjs, List.mem_cons] at hm
            rcases hm with hm | hm
            · cases hm
              exact ⟨p.2.1, cs, ty, u, σ1, hk, hu, by rw [this], fun q hq => List.mem_append_left _ hq, List.mem_cons_self, fun ns hn => (okObjs_cons hn).1⟩
            · obtain ⟨vs, cs, ty, u, σ', h1, h2, h3, h4, h6, h5⟩ := projObjs_mem hys hm
              exact ⟨vs, cs, ty, u, σ', h1, h2, h3, fun q hq => List.mem_append_right _ (h4 q hq), List.mem_cons_of_mem _ h6, fun ns hn => h5 ns (okObjs_cons hn).2⟩
          · cases h
        · cases h
    · cases h

theorem keepEnv_mem {env : List (Nat × XV)} : ∀ {l : List Tmp} {t : Nat} {y : XV}, (t, y) ∈ keepEnv env l → t ∈ l ∧ lk t env = some y
  | [], t, y, h => by simp [keepEnv] at h
  | a :: r, t, y, h => by
    unfold keepEnv at h
    split at h
    · rename_i x hx
      rcases List.mem_cons.1 h with h | h
      · cases h; exact ⟨List.mem_cons_self, hx⟩
      · have := keepEnv_mem h; exact ⟨List.mem_cons_of_mem _ this.1, this.2⟩
    · have := keepEnv_mem h; exact ⟨List.mem_cons_of_mem _ this.1, this.2⟩

theorem keepObjs_mem {objs : List (Nat × XOb)} : ∀ {l : List Nat} {t : Nat} {y : XOb}, (t, y) ∈ keepObjs objs l → t ∈ l ∧ lk t objs = some y
  | [], t, y, h => by simp [keepObjs] at h
  | a :: r, t, y, h => by
    unfold keepObjs at h
    split at h
    · rename_i x hx
      rcases List.mem_cons.1 h with h | h
      · cases h; exact ⟨List.mem_cons_self, hx⟩
      · have := keepObjs_mem h; exact ⟨List.mem_cons_of_mem _ this.1, this.2⟩
    · have := keepObjs_mem h; exact ⟨List.mem_cons_of_mem _ this.1, this.2⟩

theorem notIn {a : Nat} {l : List Nat} (hw : inl a l = false) : a ∉ l := by
  intro hm
  rw [(inl_eq _ _).2 hm] at hw
  cases hw

theorem keptEnv_spec {s : XSt} {ns : List Nat} : ∀ {l : List Tmp}, keptEnv s ns l = true → ∀ t ∈ l, t ∉ s.wl ∧ ∃ x, lk t s.env = some x ∧ isFree ns x.a = true
  | [], _ => by simp
  | a :: r, h => by
    unfold keptEnv at h
    cases hw : inl a s.wl with
    | true => simp [hw] at h
    | false =>
      simp only [hw, cond_false] at h
      split at h
      · rename_i x hx
        cases hf : isFree ns x.a with
        | false => simp [hf] at h
        | true =>
          simp only [hf, cond_true] at h
          intro t ht
          rcases List.mem_cons.1 ht with rfl | ht
          · exact ⟨notIn hw, x, hx, hf⟩
          · exact keptEnv_spec h t ht
      · cases h

theorem keptObjs_spec {s : XSt} {ns : List Nat} : ∀ {l : List Nat}, keptObjs s ns l = true → ∀ t ∈ l, t ∉ s.ol ∧ ∃ x, lk t s.objs = some x ∧ obFree ns x.o = true
  | [], _ => by simp
  | a :: r, h => by
    unfold keptObjs at h
    cases hw : inl a s.ol with
    | true => simp [hw] at h
    | false =>
      simp only [hw, cond_false] at h
      split at h
      · rename_i x hx
        cases hf : obFree ns x.o with
        | false => simp [hf] at h
        | true =>
          simp only [hf, cond_true] at h
          intro t ht
          rcases List.mem_cons.1 ht with rfl | ht
          · exact ⟨notIn hw, x, hx, hf⟩
          · exact keptObjs_spec h t ht
      · cases h

theorem oldLabs_mem : ∀ {τ : Lab} {m : Nat}, m ∈ oldLabs τ ↔ ∃ n, (n, some m) ∈ τ
  | [], m => by simp [oldLabs]
  | (n, some k) :: r, m => by
    simp only [oldLabs, List.mem_cons, oldLabs_mem (τ := r), Prod.mk.injEq, Option.some.injEq]
    constructor
    · rintro (rfl | ⟨n', h⟩)
      · exact ⟨n, .inl ⟨rfl, rfl⟩⟩
      · exact ⟨n', .inr h⟩
    · rintro ⟨n', ⟨rfl, rfl⟩ | h⟩
      · exact .inl rfl
      · exact .inr ⟨n', h⟩
  | (n, none) :: r, m => by
    simp only [oldLabs, List.mem_cons, oldLabs_mem (τ := r), Prod.mk.injEq, reduceCtorEq, and_false, false_or]

theorem oldLabs_inj : ∀ {τ : Lab} {n n' m : Nat}, (oldLabs τ).Nodup → (n, some m) ∈ τ → (n', some m) ∈ τ → n = n'
  | [], n, n', m, _, h, _ => by simp at h
  | (a, some k) :: r, n, n', m, hnd, h, h' => by
    simp only [oldLabs, List.nodup_cons] at hnd
    rcases List.mem_cons.1 h with h1 | h1 <;> rcases List.mem_cons.1 h' with h2 | h2
    · cases h1; cases h2; rfl
    · cases h1; exact absurd (oldLabs_mem.2 ⟨n', h2⟩) hnd.1
    · cases h2; exact absurd (oldLabs_mem.2 ⟨n, h1⟩) hnd.1
    · exact oldLabs_inj hnd.2 h1 h2
  | (a, none) :: r, n, n', m, hnd, h, h' => by
    simp only [oldLabs] at hnd
    simp only [List.mem_cons, Prod.mk.injEq, reduceCtorEq, and_false, false_or] at h h'
    exact oldLabs_inj hnd h h'

theorem imEnv_mem {l : List (Nat × XV)} {t : Nat} {x : AV} (h : (imEnv l).lookup t = some x) : ∃ y, lk t l = some y ∧ x = y.a := by
  rw [im_env] at h
  obtain ⟨y, hy, rfl⟩ := Option.map_eq_some_iff.1 h
  exact ⟨y, hy, rfl⟩

theorem imObjs_mem {l : List (Nat × XOb)} {t : Nat} {x : Ob} (h : (imObjs l).lookup t = some x) : ∃ y, lk t l = some y ∧ x = y.o := by
  rw [im_objs] at h
  obtain ⟨y, hy, rfl⟩ := Option.map_eq_some_iff.1 h
  exact ⟨y, hy, rfl⟩

theorem projOwn_memE {env : List (Nat × XV)} {objs : List (Nat × XOb)} : ∀ {l : List (Tmp × Nat × Ty)} {x : OwnT l} {ν : List (Nat × Nat)} {t : Nat} {y : XV}, projOwn env objs l = some (x, ν) → (t, y) ∈ genOwnE l x →
    (y = .d (.v (.slice none 0 0)) ∧ lk t env = some y) ∨ ∃ (n k : Nat) (ty : Ty) (len : Nat), (n, k) ∈ ν ∧ lk t env = some (.os k ty 0 len) ∧ y = .os n ty 0 len
  | [], x, ν, t, y, h, hm => by simp [genOwnE] at hm
  | p :: r, x, ν, t, y, h, hm => by
    unfold projOwn at h
    split at h
    · rename_i k ty a len xs τ hv hr
      split at h
      · rename_i tu l hk
        split at h
        · rename_i he
          cases h1 : ty.eqb p.2.2 with
          | false => simp [h1] at h
          | true =>
          cases h2 : Nat.beq a 0 with
          | false => simp [h1, h2] at h
          | true =>
            simp only [h1, h2, cond_true, Option.some.injEq, Prod.mk.injEq] at h
            obtain ⟨rfl, rfl⟩ := h
            have e1 := Ty.eqb_eq h1
            have e2 := Nat.eq_of_beq_eq_true h2
            subst e2
            simp only [genOwnE, List.mem_cons] at hm
            rcases hm with hm | hm
            · cases hm
              exact .inr ⟨p.2.1, k, ty, len, List.mem_cons_self, hv, by rw [e1]⟩
            · rcases projOwn_memE hr hm with h | ⟨n, k', ty', len', h1, h2, h3⟩
              · exact .inl h
              · exact .inr ⟨n, k', ty', len', List.mem_cons_of_mem _ h1, h2, h3⟩
        · cases h
      · cases h
    · rename_i xs τ hv hr
      simp only [Option.some.injEq, Prod.mk.injEq] at h
      obtain ⟨rfl, rfl⟩ := h
      simp only [genOwnE, List.mem_cons] at hm
      rcases hm with hm | hm
      · cases hm; exact .inl ⟨rfl, hv⟩
      · exact projOwn_memE hr hm
    · cases h

theorem projOwn_memO {env : List (Nat × XV)} {objs : List (Nat × XOb)} : ∀ {l : List (Tmp × Nat × Ty)} {x : OwnT l} {ν : List (Nat × Nat)} {n : Nat} {y : XOb}, projOwn env objs l = some (x, ν) → (n, y) ∈ genOwnO l x →
    ∃ k, (n, k) ∈ ν ∧ lk k objs = some y
  | [], x, ν, t, y, h, hm => by simp [genOwnO] at hm
  | p :: r, x, ν, t, y, h, hm => by
    unfold projOwn at h
    split at h
    · rename_i k ty a len xs τ hv hr
      split at h
      · rename_i tu l hk
        split at h
        · rename_i he
          cases h1 : ty.eqb p.2.2 with
          | false => simp [h1] at h
          | true =>
          cases h2 : Nat.beq a 0 with
          | false => simp [h1, h2] at h
          | true =>
            simp only [h1, h2, cond_true, Option.some.injEq, Prod.mk.injEq] at h
            obtain ⟨rfl, rfl⟩ := h
            simp only [genOwnO, List.mem_cons] at hm
            rcases hm with hm | hm
            · cases hm
              refine ⟨k, List.mem_cons_self, ?_⟩
              rw [hk]
              have e0 := Ty.eqb_eq he
              obtain ⟨a1, a2, a3⟩ := p
              simp only at he e0 ⊢
              subst e0
              rfl
            · obtain ⟨k', h1, h2⟩ := projOwn_memO hr hm
              exact ⟨k', List.mem_cons_of_mem _ h1, h2⟩
        · cases h
      · cases h
    · rename_i xs τ hv hr
      simp only [Option.some.injEq, Prod.mk.injEq] at h
      obtain ⟨rfl, rfl⟩ := h
      exact projOwn_memO hr hm
    · cases h

theorem projOwn_names {env : List (Nat × XV)} {objs : List (Nat × XOb)} : ∀ {l : List (Tmp × Nat × Ty)} {x : OwnT l} {ν : List (Nat × Nat)}, projOwn env objs l = some (x, ν) → ∀ p ∈ ν, p.1 ∈ ownNames l
  | [], x, ν, h => by simp [projOwn] at h; simp [h]
  | p :: r, x, ν, h => by
    unfold projOwn at h
    split at h
    · rename_i k ty a len xs τ hv hr
      split at h
      · split at h
        · cases h1 : ty.eqb p.2.2 with
          | false => simp [h1] at h
          | true =>
          cases h2 : Nat.beq a 0 with
          | false => simp [h1, h2] at h
          | true =>
            simp only [h1, h2, cond_true, Option.some.injEq, Prod.mk.injEq] at h
            obtain ⟨rfl, rfl⟩ := h
            intro q hq
            rcases List.mem_cons.1 hq with rfl | hq
            · exact List.mem_cons_self
            · exact List.mem_cons_of_mem _ (projOwn_names hr q hq)
        · cases h
      · cases h
    · rename_i xs τ hv hr
      simp only [Option.some.injEq, Prod.mk.injEq] at h
      obtain ⟨rfl, rfl⟩ := h
      intro q hq
      exact List.mem_cons_of_mem _ (projOwn_names hr q hq)
    · cases h

/-- names come in the order of the list -/
theorem projOwn_nodup {env : List (Nat × XV)} {objs : List (Nat × XOb)} : ∀ {l : List (Tmp × Nat × Ty)} {x : OwnT l} {ν : List (Nat × Nat)}, projOwn env objs l = some (x, ν) → (ownNames l).Nodup → (ν.map (·.1)).Nodup
  | [], x, ν, h, _ => by simp [projOwn] at h; simp [h]
  | p :: r, x, ν, h, hnd => by
    simp only [ownNames, List.nodup_cons] at hnd
    unfold projOwn at h
    split at h
    · rename_i k ty a len xs τ hv hr
      split at h
      · split at h
        · cases h1 : ty.eqb p.2.2 with
          | false => simp [h1] at h
          | true =>
          cases h2 : Nat.beq a 0 with
          | false => simp [h1, h2] at h
          | true =>
            simp only [h1, h2, cond_true, Option.some.injEq, Prod.mk.injEq] at h
            obtain ⟨rfl, rfl⟩ := h
            simp only [List.map_cons, List.nodup_cons]
            refine ⟨fun hm => ?_, projOwn_nodup hr hnd.2⟩
            obtain ⟨q, hq, he⟩ := List.mem_map.1 hm
            exact hnd.1 (he ▸ projOwn_names hr q hq)
        · cases h
      · cases h
    · rename_i xs τ hv hr
      simp only [Option.some.injEq, Prod.mk.injEq] at h
      obtain ⟨rfl, rfl⟩ := h
      exact projOwn_nodup hr hnd.2
    · cases h

theorem projArrs_mem {objs : List (Nat × XOb)} : ∀ {l : List (Nat × OK)} {x : ArrsT l} {k : Nat} {y : XOb}, projArrs objs l = some x → (k, y) ∈ genArrs l x → lk k objs = some y ∧ k ∈ arrNames l
  | [], x, k, y, h, hm => by simp [genArrs] at hm
  | p :: r, x, k, y, h, hm => by
    unfold projArrs at h
    split at h
    · rename_i o xs hk hr
      split at h
      · rename_i z he
        cases h
        simp only [genArrs, List.mem_cons] at hm
        rcases hm with hm | hm
        · cases hm
          refine ⟨?_, List.mem_cons_self⟩
          rw [hk, OK.dec_eq he]
        · obtain ⟨h1, h2⟩ := projArrs_mem hr hm
          exact ⟨h1, List.mem_cons_of_mem _ h2⟩
      · cases h
    · cases h

end Go.Xl
/-
  A state that comes to a cut is one of the cut's states: the ghost.
-/
set_option linter.unusedVariables false
set_option linter.unusedSimpArgs false
set_option linter.unnecessarySimpa false
namespace Go.Xl
open Go.Ab

theorem nodup_app {a b : List Nat} (h : (a ++ b).Nodup) : a.Nodup ∧ b.Nodup ∧ ∀ x ∈ a, x ∉ b := by
  rw [List.nodup_append] at h
  exact ⟨h.1, h.2.1, fun x hx hb => h.2.2 x hx x hb rfl⟩

theorem genOwnO_arr : ∀ {l : List (Tmp × Nat × Ty)} {x : OwnT l} {n : Nat} {y : XOb}, (n, y) ∈ genOwnO l x → n ∈ ownNames l ∧ ∃ t u, y = .arr t u
  | [], x, n, y, h => by simp [genOwnO] at h
  | p :: r, x, n, y, h => by
    unfold genOwnO at h
    split at h
    · exact ⟨List.mem_cons_of_mem _ (genOwnO_arr h).1, (genOwnO_arr h).2⟩
    · rcases List.mem_cons.1 h with h | h
      · cases h; exact ⟨List.mem_cons_self, _, _, rfl⟩
      · exact ⟨List.mem_cons_of_mem _ (genOwnO_arr h).1, (genOwnO_arr h).2⟩

theorem lk_imA {objs : List (Nat × XOb)} {k : Nat} {y : XOb} (h : lk k objs = some y) : (imObjs objs).lookup k = some y.o := by rw [im_objs, h]; rfl

theorem genArrs_free {ns : List Nat} : ∀ {l : List (Nat × OK)} {x : ArrsT l} {n : Nat} {y : XOb}, okArrs ns l = true → (n, y) ∈ genArrs l x → obFree ns y.o = true
  | [], x, n, y, ho, h => by simp [genArrs] at h
  | (q, ok) :: r, x, n, y, ho, h => by
    have ho' : ok.okp ns = true ∧ okArrs ns r = true := by
      simp only [okArrs] at ho
      cases hx : ok.okp ns with
      | false => simp [hx] at ho
      | true => simp only [hx, cond_true] at ho; exact ⟨rfl, ho⟩
    unfold genArrs at h
    rcases List.mem_cons.1 h with h | h
    · cases h
      cases ok with
      | arr t => exact arr_free _ _ _
      | mit m =>
        have h1 := ho'.1
        simp only [OK.okp] at h1
        show (!ns.contains m) = true
        cases hc : ns.contains m with
        | false => rfl
        | true => rw [(inl_eq m ns).2 (List.contains_iff_mem.1 hc)] at h1; cases h1
      | _ => rfl
    · exact genArrs_free ho'.2 h

theorem genArrs_names : ∀ (l : List (Nat × OK)) (x : ArrsT l), (genArrs l x).map (·.1) = arrNames l
  | [], x => rfl
  | p :: r, x => by simp only [genArrs, List.map_cons, arrNames, genArrs_names r]

theorem genObjs_names : ∀ (l : List (Nat × List VK × Option TypeId)) (y : ObjsT l), (genObjs l y).map (·.1) = l.map (·.1)
  | [], y => rfl
  | p :: r, y => by simp only [genObjs, List.map_cons, genObjs_names r]

theorem ownOk_spec {α : Type} {c : Cut} {ν : List (Nat × Nat)} {x : Option α} {y : α} (h : ownOk c ν x = some y) : (ownNames c.own).Nodup ∧ (∀ k ∈ ownNames c.own, k ∉ c.others) ∧ (ν.map (·.2)).Nodup ∧ (∀ k ∈ ν.map (·.2), k ∉ c.others) ∧
    (∀ k ∈ ownNames c.own, 1000 ≤ k) ∧ (∀ k ∈ c.labs, k ∉ ownNames c.own) ∧ okVars (ownNames c.own) c.vars = true ∧ okObjs (ownNames c.own) c.objs = true ∧ okArrs (c.labs ++ ownNames c.own) c.arrs = true ∧ x = some y := by
  unfold ownOk at h
  cases h1 : nodupL (ownNames c.own) with
  | false => simp [h1] at h
  | true =>
  cases h2 : apart (ownNames c.own) c.others with
  | false => simp [h1, h2] at h
  | true =>
  cases h3 : nodupL (ν.map (·.2)) with
  | false => simp [h1, h2, h3] at h
  | true =>
  cases h4 : apart (ν.map (·.2)) c.others with
  | false => simp [h1, h2, h3, h4] at h
  | true =>
  cases h5 : (ownNames c.own).all (Nat.ble 1000) with
  | false => simp only [h1, h2, h3, h4, h5, cond_true, cond_false] at h; cases h
  | true =>
  cases h6 : apart c.labs (ownNames c.own) with
  | false => simp only [h1, h2, h3, h4, h5, h6, cond_true, cond_false] at h; cases h
  | true =>
  cases h7 : okVars (ownNames c.own) c.vars with
  | false => simp only [h1, h2, h3, h4, h5, h6, h7, cond_true, cond_false] at h; cases h
  | true =>
  cases h8 : okObjs (ownNames c.own) c.objs with
  | false => simp only [h1, h2, h3, h4, h5, h6, h7, h8, cond_true, cond_false] at h; cases h
  | true =>
  cases h9 : okArrs (c.labs ++ ownNames c.own) c.arrs with
  | false => simp only [h1, h2, h3, h4, h5, h6, h7, h8, h9, cond_true, cond_false] at h; cases h
  | true =>
    simp only [h1, h2, h3, h4, h5, h6, h7, h8, h9, cond_true] at h
    exact ⟨nodupL_spec h1, apart_spec h2, nodupL_spec h3, apart_spec h4, fun k hk => Nat.le_of_ble_eq_true (List.all_eq_true.1 h5 k hk), apart_spec h6, rfl, rfl, rfl, h⟩

/-- what a projection says -/
theorem proj_spec {nm kl : List Nat} {c : Cut} {s : XSt} {x : c.T} (h : proj nm kl c s = some x) : ∃ (σ τ0 : Lab) (ν : List (Nat × Nat)), projVars s.env c.vars = some (x.1, σ) ∧ projObjs s.objs c.objs = some (x.2.1, τ0) ∧
    projOwn s.env s.objs c.own = some (x.2.2.1, ν) ∧ projArrs s.objs c.arrs = some x.2.2.2 ∧ keptEnv s (c.labs ++ ownNames c.own) c.keepS = true ∧ keptObjs s (c.labs ++ ownNames c.own) c.keepO = true ∧
    (∀ n ∈ oldLabs (σ ++ τ0) ++ kl, n ∈ s.live) ∧ (oldLabs (σ ++ τ0) ++ kl).Nodup ∧ (c.labs ++ kl).Nodup ∧ (∀ k ∈ nm, k ∈ c.others) ∧ (∀ t ∈ c.keepS, t ∉ slotsOf c.vars ++ ownSlots c.own) ∧
    (∀ k ∈ c.keepO, k ∉ namesOf c.objs ++ (ownNames c.own ++ arrNames c.arrs)) ∧ ownOk c ν (some x) = some x := by
  unfold proj at h
  split at h
  · rename_i x1 σ y1 τ0 u1 ν v1 hx hy hu hv
    cases h1 : keptEnv s (c.labs ++ ownNames c.own) c.keepS with
    | false => simp [h1] at h
    | true =>
    cases h2 : keptObjs s (c.labs ++ ownNames c.own) c.keepO with
    | false => simp [h1, h2] at h
    | true =>
    cases h3 : subL (oldLabs (σ ++ τ0) ++ kl) s.live with
    | false => simp only [h1, h2, h3, cond_true, cond_false] at h; cases h
    | true =>
    cases h4 : nodupL (oldLabs (σ ++ τ0) ++ kl) with
    | false => simp only [h1, h2, h3, h4, cond_true, cond_false] at h; cases h
    | true =>
    cases h5 : nodupL (c.labs ++ kl) with
    | false => simp only [h1, h2, h3, h4, h5, cond_true, cond_false] at h; cases h
    | true =>
    cases h6 : subL nm c.others with
    | false => simp only [h1, h2, h3, h4, h5, h6, cond_true, cond_false] at h; cases h
    | true =>
    cases h7 : apart c.keepS (slotsOf c.vars ++ ownSlots c.own) with
    | false => simp only [h1, h2, h3, h4, h5, h6, h7, cond_true, cond_false] at h; cases h
    | true =>
    cases h8 : apart c.keepO (namesOf c.objs ++ (ownNames c.own ++ arrNames c.arrs)) with
    | false => simp only [h1, h2, h3, h4, h5, h6, h7, h8, cond_true, cond_false] at h; cases h
    | true =>
      simp only [h1, h2, h3, h4, h5, h6, h7, h8, cond_true] at h
      have h9 := (ownOk_spec h).2.2.2.2.2.2.2.2.2
      cases h9
      exact ⟨σ, τ0, ν, hx, hy, hu, hv, rfl, rfl, subL_spec h3, nodupL_spec h4, nodupL_spec h5, subL_spec h6, apart_spec h7, apart_spec h8, h⟩
  · cases h

theorem RA.osl_name {g g' : Gh} {w : World} {k k' off len sz : Nat} {v : Value} (h : RA g w (.osl k off len sz) v) (hk : g'.ρ k' = g.ρ k) : RA g' w (.osl k' off len sz) v := by
  cases h with
  | nm _ _ _ h => exact .nm _ _ _ (by rw [hk]; exact h)

theorem cut_sound {nm : List Nat} {c : Cut} {s s0 : XSt} {x : c.T} (h : proj nm (keepL s0 c) c s = some x) (hi1 : ∀ t ∈ c.keepS, ∀ x, t ∉ s.wl → lk t s.env = some x → lk t s0.env = some x)
    (hi2 : ∀ k ∈ c.keepO, ∀ x, k ∉ s.ol → lk k s.objs = some x → lk k s0.objs = some x) {S : Sig} {B : Base} {g : Gh} {w : World} {a : Act} (hs : SR S B g w s.im a)
    (hnm : S.names = nm) : ∃ g', SR S B g' w (gen s0 c x).im a := by
  generalize hkl : keepL s0 c = kl at h
  obtain ⟨σ, τ0, ν, hx, hy, hu, hv, h1, h2, l3, l4, l5, l6, l7, l8, hown⟩ := proj_spec h
  obtain ⟨w1, w2, w3, w4, w5, w6, w7, w8, w9, -⟩ := ownOk_spec hown
  generalize hτ : σ ++ τ0 = τ at l3 l4
  have k1 := keptEnv_spec h1
  have k2 := keptObjs_spec h2
  obtain ⟨n4a, n4b, n4c⟩ := nodup_app l4
  obtain ⟨n5a, n5b, n5c⟩ := nodup_app l5
  have hmap : τ.map (·.1) = c.labs := by
    rw [← hτ, List.map_append, projVars_labs hx, projObjs_labs hy]; rfl
  have hνn := projOwn_nodup hu w1
  have hνm := projOwn_names hu
  have hr := hs.hr
  let g' := cutGh g τ kl ν
  have hβ : ∀ n, g'.β n = cond (inl n kl) (g.β n) (match lk n τ with | some (some m) => g.β m | some none => some none | none => none) := fun n => rfl
  have hρ : ∀ k, k ∉ ownNames c.own → g'.ρ k = g.ρ k := by
    intro k hk
    show (match lk k ν with | some k => g.ρ k | none => g.ρ k) = g.ρ k
    cases hl : lk k ν with
    | none => rfl
    | some z => exact absurd (hνm _ (lk_mem hl)) hk
  have hρν : ∀ n k, (n, k) ∈ ν → g'.ρ n = g.ρ k := by
    intro n k hm
    show (match lk n ν with | some k => g.ρ k | none => g.ρ n) = g.ρ k
    rw [lk_of_mem hνn hm]
  have βkeep : ∀ n, n ∈ kl → g'.β n = g.β n := by
    intro n hn
    rw [hβ, (inl_eq _ _).2 hn]; rfl
  have βnew : ∀ n m, (n, some m) ∈ τ → g'.β n = g.β m := by
    intro n m hm
    have hn : n ∈ c.labs := by rw [← hmap]; exact List.mem_map_of_mem (f := (·.1)) hm
    have hk : inl n kl = false := by
      cases hh : inl n kl with
      | false => rfl
      | true => exact absurd ((inl_eq _ _).1 hh) (n5c n hn)
    rw [hβ, hk, lk_of_mem (by rw [hmap]; exact n5a) hm]; rfl
  have βother : ∀ n, n ∉ c.labs → n ∉ kl → g'.β n = none := by
    intro n hn hk
    have hk' : inl n kl = false := by
      cases hh : inl n kl with
      | false => rfl
      | true => exact absurd ((inl_eq _ _).1 hh) hk
    rw [hβ, hk']
    cases hl : lk n τ with
    | none => rfl
    | some z => exact absurd (by rw [← hmap]; exact List.mem_map_of_mem (f := (·.1)) (lk_mem hl)) hn
  -- where a live label comes from
  have βsrc : ∀ n b, g'.β n = some (some b) → (n ∈ kl ∧ g.β n = some (some b)) ∨ ∃ m, (n, some m) ∈ τ ∧ g.β m = some (some b) := by
    intro n b hb
    by_cases hk : n ∈ kl
    · exact .inl ⟨hk, by rw [← βkeep n hk]; exact hb⟩
    · by_cases hn : n ∈ c.labs
      · rw [← hmap] at hn
        obtain ⟨z, hz⟩ := lk_isSome hn
        cases z with
        | some m => exact .inr ⟨m, lk_mem hz, by rw [← βnew n m (lk_mem hz)]; exact hb⟩
        | none =>
          have hk' : inl n kl = false := by
            cases hh : inl n kl with
            | false => rfl
            | true => exact absurd ((inl_eq _ _).1 hh) hk
          rw [hβ, hk', hz] at hb
          simp at hb
      · rw [βother n hn hk] at hb; cases hb
  have ht : Trans (c.labs ++ ownNames c.own) g w g' w := ⟨.refl _ _, fun k hk => hρ k fun hm => hk (List.mem_append_right _ hm), fun n ob hn he => by
    by_cases hk : n ∈ kl
    · exact ⟨by rw [← βkeep n hk]; exact he, fun _ _ => ⟨rfl, rfl⟩⟩
    · rw [βother n (fun hm => hn (List.mem_append_left _ hm)) hk] at he; cases he⟩
  have hσ : ∀ n m, (n, some m) ∈ τ → ∀ ob, g'.β n = some ob → g.β m = some ob := fun n m hm ob he => by rw [← βnew n m hm]; exact he
  have notOwn : ∀ k, k ∈ c.others → k ∉ ownNames c.own := fun k hk hm => w2 k hm hk
  -- the objects
  have hobj : ∀ k o, (imObjs (gen s0 c x).objs).lookup k = some o → ∃ k0 p, s.im.X.objs.lookup k0 = some p ∧ g'.ρ k = g.ρ k0 ∧ ObRel g' w (g.ρ k0) o ∧ ((k, k0) ∈ ν ∨ (k0 = k ∧ k ∈ c.others)) := by
    intro k o hk
    obtain ⟨y, hyl, rfl⟩ := imObjs_mem hk
    have hm := lk_mem hyl
    rcases List.mem_append.1 hm with hm | hm
    · obtain ⟨vs, cs, ty, u, σ', e1, e2, rfl, e4, e5, e6⟩ := projObjs_mem hy hm
      have hoth : k ∈ c.others := List.mem_append_left _ (List.mem_append_left _ e5)
      refine ⟨k, _, lk_im e1, hρ k (notOwn k hoth), ?_, .inr ⟨rfl, hoth⟩⟩
      have := hr.objs k _ (lk_im e1)
      cases this with
      | cells _ _ arr T r1 r2 r3 r4 =>
        have pc := projCells_ra (g := g) (g' := g') (w := w) (ns := ownNames c.own) (vs := arr.toList) rfl hρ (e6 _ w8) e2 (fun n m hm => hσ n m (by rw [← hτ]; exact List.mem_append_right _ (e4 _ hm))) (by
          intro i x v hx hv
          exact r3 i x.a v (by rw [asOf_get, hx]; rfl) (by simpa using hv))
        refine .cells _ _ arr T r1 (by rw [asOf_length, pc.2, ← asOf_length]; exact r2) ?_ r4
        intro i x v hx hv
        rw [asOf_get, Option.map_eq_some_iff] at hx
        obtain ⟨z, hz, rfl⟩ := hx
        exact pc.1 i z v hz (by simpa using hv)
    · rcases List.mem_append.1 hm with hm | hm
      · obtain ⟨k0, q1, q2⟩ := projOwn_memO hu hm
        obtain ⟨_, t, u, rfl⟩ := genOwnO_arr hm
        exact ⟨k0, _, lk_imA q2, hρν _ _ q1, (hr.objs k0 _ (lk_imA q2)).keep ht rfl (.inr (arr_free _ _ _)), .inl q1⟩
      · rcases List.mem_append.1 hm with hm | hm
        · obtain ⟨q1, q2⟩ := projArrs_mem hv hm
          have hoth : k ∈ c.others := List.mem_append_left _ (List.mem_append_right _ q2)
          exact ⟨k, _, lk_imA q1, hρ k (notOwn k hoth), (hr.objs k _ (lk_imA q1)).keep ht rfl (.inr (genArrs_free w9 hm)), .inr ⟨rfl, hoth⟩⟩
        · obtain ⟨hk1, hk2⟩ := keepObjs_mem hm
          obtain ⟨q1, z, q2, q3⟩ := k2 k hk1
          have := hi2 k hk1 z q1 q2
          rw [hk2] at this
          cases this
          have hl : s.im.X.objs.lookup k = some y.o := by
            show (imObjs s.objs).lookup k = _
            rw [im_objs, q2]; rfl
          have hoth : k ∈ c.others := List.mem_append_right _ hk1
          exact ⟨k, _, hl, hρ k (notOwn k hoth), (hr.objs k _ hl).keep ht rfl (.inr q3), .inr ⟨rfl, hoth⟩⟩
  refine ⟨g', hs.defers, hs.size, ?_, ?_⟩
  · refine ⟨?_, hr.sane, hr.base, hr.io, hr.le, hr.frame, ?_, ?_, ?_, ?_, ?_, ?_, ?_, ?_, ?_⟩
    · intro k hk
      have hk' := l6 k (hnm ▸ hk)
      refine ⟨(hρ k (notOwn k hk')).trans (hr.keep k hk).1, ?_⟩
      show ((imObjs (gen s0 c x).objs).lookup k).isSome = true
      rw [im_objs, Option.isSome_map]
      have key : k ∈ (gen s0 c x).objs.map (·.1) := by
        unfold gen
        simp only [List.map_append, genObjs_names, genArrs_names, List.mem_append]
        unfold Cut.others at hk'
        simp only [List.mem_append] at hk'
        rcases hk' with (hm | hm) | hm
        · exact .inl hm
        · exact .inr (.inr (.inl hm))
        · refine .inr (.inr (.inr ?_))
          obtain ⟨q1, z, q2, q3⟩ := k2 k hm
          have hz := hi2 k hm z q1 q2
          have : ∀ (l : List Nat), k ∈ l → k ∈ (keepObjs s0.objs l).map (·.1) := by
            intro l
            induction l with
            | nil => simp
            | cons j r ih =>
              intro hj
              unfold keepObjs
              rcases List.mem_cons.1 hj with rfl | hj
              · rw [hz]; exact List.mem_cons_self
              · split
                · exact List.mem_cons_of_mem _ (ih hj)
                · exact ih hj
          exact this _ hm
      obtain ⟨z, hz⟩ := lk_isSome key
      rw [hz]; rfl
    · intro k o hk
      obtain ⟨k0, p, hp, he, ho, _⟩ := hobj k o hk
      rw [he]; exact ho
    · intro k o hk; obtain ⟨k0, p, hp, he, _⟩ := hobj k o hk; show g.γ (g'.ρ k) = 0; rw [he]; exact hr.objγ k0 p hp
    · intro k k' o o' hk hk' he
      obtain ⟨k0, p, hp, e1, _, d1⟩ := hobj k o hk
      obtain ⟨k0', q, hq, e2, _, d2⟩ := hobj k' o' hk'
      have he' : g.ρ k0 = g.ρ k0' := by rw [← e1, ← e2]; exact he
      have := hr.objinj k0 k0' p q hp hq he'
      subst this
      rcases d1 with d1 | ⟨d1, d1'⟩ <;> rcases d2 with d2 | ⟨d2, d2'⟩
      · have inj : ∀ (ν : List (Nat × Nat)), (ν.map (·.2)).Nodup → (k, k0) ∈ ν → (k', k0) ∈ ν → k = k' := by
          intro ν
          induction ν with
          | nil => intro _ h; simp at h
          | cons p r ih =>
            intro hnd h h'
            simp only [List.map_cons, List.nodup_cons] at hnd
            rcases List.mem_cons.1 h with z | z <;> rcases List.mem_cons.1 h' with z' | z'
            · subst z; cases z'; rfl
            · subst z; exact absurd (List.mem_map.2 ⟨_, z', rfl⟩) hnd.1
            · subst z'; exact absurd (List.mem_map.2 ⟨_, z, rfl⟩) hnd.1
            · exact ih hnd.2 z z'
        exact inj ν w3 d1 d2
      · subst d2; exact absurd d2' (w4 _ (List.mem_map_of_mem (f := (·.2)) d1))
      · subst d1; exact absurd d1' (w4 _ (List.mem_map_of_mem (f := (·.2)) d2))
      · exact d1.symm.trans d2
    · intro k o hk; obtain ⟨k0, p, hp, he, _⟩ := hobj k o hk; show B.n0 ≤ g'.ρ k ∨ B.allowed (g'.ρ k); rw [he]; exact hr.objnew k0 p hp
    · intro n
      show n ∈ c.labs ++ keepL s0 c ↔ _
      rw [hkl]
      rw [List.mem_append]
      constructor
      · rintro (hn | hn)
        · have hn' := hn
          rw [← hmap] at hn'
          obtain ⟨z, hz⟩ := lk_isSome hn'
          cases z with
          | some m =>
            rw [βnew n m (lk_mem hz)]
            exact (hr.live m).1 (l3 m (List.mem_append_left _ (oldLabs_mem.2 ⟨n, lk_mem hz⟩)))
          | none =>
            have hk' : inl n kl = false := by
              cases hh : inl n kl with
              | false => rfl
              | true => exact absurd ((inl_eq _ _).1 hh) (n5c n hn)
            rw [hβ, hk', hz]; rfl
        · rw [βkeep n hn]
          exact (hr.live n).1 (l3 n (List.mem_append_right _ hn))
      · intro hn
        by_cases hk : n ∈ kl
        · exact .inr hk
        · by_cases hl : n ∈ c.labs
          · exact .inl hl
          · rw [βother n hl hk] at hn; cases hn
    · intro n m b hn hm
      rcases βsrc n b hn with ⟨a1, a2⟩ | ⟨p, a1, a2⟩ <;> rcases βsrc m b hm with ⟨b1, b2⟩ | ⟨q, b1, b2⟩
      · exact hr.tipinj n m b a2 b2
      · have := hr.tipinj n q b a2 b2
        subst this
        exact absurd a1 (n4c n (oldLabs_mem.2 ⟨m, b1⟩))
      · have := hr.tipinj p m b a2 b2
        subst this
        exact absurd b1 (n4c p (oldLabs_mem.2 ⟨n, a1⟩))
      · have := hr.tipinj p q b a2 b2
        subst this
        exact oldLabs_inj n4a a1 b1
    · intro n b k o hn hk
      obtain ⟨k0, p, hp, he, _⟩ := hobj k o hk
      rw [he]
      rcases βsrc n b hn with ⟨a1, a2⟩ | ⟨m, a1, a2⟩
      · exact hr.tipobj n b k0 p a2 hp
      · exact hr.tipobj m b k0 p a2 hp
    · intro n b hn
      rcases βsrc n b hn with ⟨a1, a2⟩ | ⟨m, a1, a2⟩
      · exact hr.tipnew n b a2
      · exact hr.tipnew m b a2
    · intro n b hn
      rcases βsrc n b hn with ⟨a1, a2⟩ | ⟨m, a1, a2⟩
      · exact hr.tiplt n b a2
      · exact hr.tiplt m b a2
  · intro t y hty
    obtain ⟨z, hz, rfl⟩ := imEnv_mem hty
    rcases List.mem_append.1 (lk_mem hz) with hm | hm
    · obtain ⟨v, z0, u, σ', e1, e2, rfl, e4, e5⟩ := projVars_mem hx hm
      obtain ⟨val, hv, hra⟩ := hs.env t z0.a (lk_sees e1)
      exact ⟨val, hv, VK.proj_ra (g := g) (g' := g') (w := w) (ns := ownNames c.own) e2 rfl hρ (e5 _ w7) (fun n m hm => hσ n m (by rw [← hτ]; exact List.mem_append_left _ (e4 _ hm))) hra⟩
    · rcases List.mem_append.1 hm with hm | hm
      · rcases projOwn_memE hu hm with ⟨rfl, e1⟩ | ⟨n, k, ty, len, e1, e2, rfl⟩
        · obtain ⟨val, hv, hra⟩ := hs.env t _ (lk_sees e1)
          exact ⟨val, hv, hra.mono ht (.d _)⟩
        · obtain ⟨val, hv, hra⟩ := hs.env t _ (lk_sees e2)
          exact ⟨val, hv, RA.osl_name hra (hρν _ _ e1)⟩
      · obtain ⟨hk1, hk2⟩ := keepEnv_mem hm
        obtain ⟨q1, z1, q2, q3⟩ := k1 t hk1
        have := hi1 t hk1 z1 q1 q2
        rw [hk2] at this
        cases this
        obtain ⟨val, hv, hra⟩ := hs.env t z.a (lk_sees q2)
        exact ⟨val, hv, hra.mono ht (free_of q3)⟩

theorem proj_apart {nm kl : List Nat} {c : Cut} {s : XSt} {x : c.T} (h : proj nm kl c s = some x) : (∀ t ∈ c.keepS, t ∉ slotsOf c.vars ++ ownSlots c.own) ∧ ∀ k ∈ c.keepO, k ∉ namesOf c.objs ++ (ownNames c.own ++ arrNames c.arrs) := by
  obtain ⟨σ, τ0, ν, hx, hy, hu, hv, h1, h2, l3, l4, l5, l6, l7, l8, hown⟩ := proj_spec h
  exact ⟨l7, l8⟩

end Go.Xl
/-
  Code, loops, functions: the interpreter, and that what it says holds.
-/
set_option linter.unusedVariables false
set_option linter.unusedSimpArgs false
set_option linter.unnecessarySimpa false
namespace Go.Xl
open Go.Ab

/-- notes beside the code: where ways meet, loops -/
inductive An where
  | lf
  | seq (a b : An)
  | join (c : Cut) (a b : An)
  | cond (a b : An)
  | blk (a : An)
  | loop (c : Cut) (a : An)
  | stop

def An.l : An → An
  | .seq a _ => a
  | .cond a _ => a
  | .blk a => a
  | .join _ a _ => a
  | .loop _ a => a
  | .lf => .lf
  | .stop => .lf
def An.r : An → An
  | .seq _ b => b
  | .cond _ b => b
  | .join _ _ b => b
  | _ => .lf

/-- a way that is not followed: nothing is said of it -/
def unstop {R : Type} : An → Option R → Option R
  | .stop, _ => none
  | _, x => x
theorem unstop_some {R : Type} {an : An} {x : Option R} {r : R} (h : unstop an x = some r) : x = some r := by
  cases an <;> first | exact h | cases h

/-- rounds: at most so many -/
def iter {σ : Type} {R : Type} (f : (σ → Option R) → σ → Option R) : Nat → σ → Option R
  | 0, _ => none
  | n + 1, x => f (iter f n) x

/-- where ways meet -/
def joinAt {σ : Type} {R : Type} (k : σ → Option R) (f : (σ → Option R) → Option R) : Option R := f k

/-- a slice that owns its block may be nil -/
def optCase {α β : Type} (x : Option α) (a : β) (f : α → β) : β :=
  match x with
  | none => a
  | some y => f y

def caseOwn {R : Type} : (l : List (Tmp × Nat × Ty)) → OwnT l → (OwnT l → Option R) → Option R
  | [], u, K => K u
  | _ :: r, u, K => optCase u.1 (caseOwn r u.2 fun v => K (none, v)) (fun y => caseOwn r u.2 fun v => K (some y, v))

theorem caseOwn_eq {R : Type} : ∀ (l : List (Tmp × Nat × Ty)) (u : OwnT l) (K : OwnT l → Option R), caseOwn l u K = K u
  | [], u, K => rfl
  | p :: r, u, K => by
    obtain ⟨a, v⟩ := u
    unfold caseOwn
    cases a with
    | none => exact caseOwn_eq r v _
    | some y => exact caseOwn_eq r v _

def exitIs (i j : Nat) : Bool := Nat.beq i j

/-- as the cut begins -/
def base (st : XSt) : XSt := ⟨st.env, st.objs, st.live, [], []⟩
/-- behind a cut: what has been written since -/
def relog (c : Cut) (st s : XSt) : XSt := ⟨s.env, s.objs, s.live, s.wl ++ ((slotsOf c.vars ++ ownSlots c.own) ++ st.wl), s.ol ++ ((namesOf c.objs ++ (ownNames c.own ++ arrNames c.arrs)) ++ st.ol)⟩
def relog0 (st s : XSt) : XSt := ⟨s.env, s.objs, s.live, s.wl ++ st.wl, s.ol ++ st.ol⟩

section
variable (P : Program) (Γ : List (Ent P)) (own nm : List Nat) (nt N : Nat) {R : Type}

def onNormal (f : XSt → Option R) (K : Exit → XSt → Option R) : Exit → XSt → Option R
  | .normal, s => f s
  | e, s => K e s

def onBlock (id : Nat) (K : Exit → XSt → Option R) : Exit → XSt → Option R
  | .exit j, s => cond (exitIs j id) (K .normal s) (K (.exit j) s)
  | e, s => K e s

def knowOp (x : Operand) (b : Bool) (st : XSt) : XSt :=
  match x with
  | .tmp t => knowSt t b st
  | _ => st

def exec : Code → An → XSt → (Exit → XSt → Option R) → Option R
  | .skip, _, st, K => K .normal st
  | .label _, _, st, K => K .normal st
  | .exit id, _, st, K => K (.exit id) st
  | .ret, _, st, K => K .ret st
  | .region _ ops draw, _, st, K => xops P Γ own nt ops draw st.env (K .normal) ops.toList [] st
  | .seq a b, an, st, K =>
    match an with
    | .join c x y =>
      joinAt (fun z => caseOwn c.own z.2.2.1 fun u => exec b y (relog c st (gen (base st) c (z.1, z.2.1, u, z.2.2.2))) K)
        (fun k => exec a x (base st) (onNormal (fun s => Option.bind (proj nm (keepL (base st) c) c s) k) (fun e s => K e (relog0 st s))))
    | _ => exec a an.l st (onNormal (fun s => exec b an.r s K) K)
  | .cond c a b, an, st, K =>
    match xeval st c with
    | some (.d (.b v)) => cond v (unstop an.l (exec a an.l (knowOp c true st) K)) (unstop an.r (exec b an.r (knowOp c false st) K))
    | _ => none
  | .block id c, an, st, K => exec c an.l st (onBlock id K)
  | .loop b, an, st, K =>
    match an with
    | .loop c x => Option.bind (proj nm (keepL (base st) c) c (base st)) (iter (fun rec z => caseOwn c.own z.2.2.1 fun u => exec b x (gen (base st) c (z.1, z.2.1, u, z.2.2.2)) (onNormal (fun s => Option.bind (proj nm (keepL (base st) c) c s) rec) (fun e s => K e (relog c st s)))) N)
    | _ => none
  | _, _, _, _ => none

end

section
variable {P : Program} {Γ : List (Ent P)} {own nm : List Nat} {N : Nat} {R : Type}

/-- what holds where a walk arrives -/
def PostE (s0 : XSt) (K : Exit → XSt → Option R) (r : R) : Exit → St → Prop := fun e s => ∃ st', s = st'.im ∧ Inv s0 st' ∧ K e st' = some r

theorem genVars_slot {t : Nat} {y : XV} : ∀ (l : List (Tmp × VK)) (x : VarsT l), (t, y) ∈ genVars l x → t ∈ slotsOf l
  | [], x, h => by simp [genVars] at h
  | p :: r, x, h => by
    simp only [genVars, List.mem_cons] at h
    simp only [slotsOf, List.mem_cons]
    rcases h with h | h
    · cases h; exact .inl rfl
    · exact .inr (genVars_slot r _ h)

theorem genOwnE_slot {t : Nat} {y : XV} : ∀ (l : List (Tmp × Nat × Ty)) (x : OwnT l), (t, y) ∈ genOwnE l x → t ∈ ownSlots l
  | [], x, h => by simp [genOwnE] at h
  | p :: r, x, h => by
    simp only [genOwnE, List.mem_cons] at h
    simp only [ownSlots, List.mem_cons]
    rcases h with h | h
    · cases h; exact .inl rfl
    · exact .inr (genOwnE_slot r _ h)

theorem genObjs_name {k : Nat} {y : XOb} : ∀ (l : List (Nat × List VK × Option TypeId)) (x : ObjsT l), (k, y) ∈ genObjs l x → k ∈ namesOf l
  | [], x, h => by simp [genObjs] at h
  | p :: r, x, h => by
    simp only [genObjs, List.mem_cons] at h
    simp only [namesOf, List.mem_cons]
    rcases h with h | h
    · cases h; exact .inl rfl
    · exact .inr (genObjs_name r _ h)

theorem lk_gen {s0 : XSt} {c : Cut} {x : c.T} {t : Nat} {y : XV} (h : lk t (gen s0 c x).env = some y) : t ∈ slotsOf c.vars ++ ownSlots c.own ∨ lk t s0.env = some y := by
  rcases List.mem_append.1 (lk_mem h) with hm | hm
  · exact .inl (List.mem_append_left _ (genVars_slot _ _ hm))
  · rcases List.mem_append.1 hm with hm | hm
    · exact .inl (List.mem_append_right _ (genOwnE_slot _ _ hm))
    · exact .inr (keepEnv_mem hm).2

theorem lk_genO {s0 : XSt} {c : Cut} {x : c.T} {t : Nat} {y : XOb} (h : lk t (gen s0 c x).objs = some y) : t ∈ namesOf c.objs ++ (ownNames c.own ++ arrNames c.arrs) ∨ lk t s0.objs = some y := by
  rcases List.mem_append.1 (lk_mem h) with hm | hm
  · exact .inl (List.mem_append_left _ (genObjs_name _ _ hm))
  · rcases List.mem_append.1 hm with hm | hm
    · exact .inl (List.mem_append_right _ (List.mem_append_left _ (genOwnO_arr hm).1))
    · rcases List.mem_append.1 hm with hm | hm
      · exact .inl (List.mem_append_right _ (List.mem_append_right _ (by rw [← genArrs_names]; exact List.mem_map_of_mem (f := (·.1)) hm)))
      · exact .inr (keepObjs_mem hm).2

/-- behind a cut, seen from its beginning's beginning -/
theorem Inv.relog {s0 st s : XSt} {c : Cut} {x : c.T} (h : Inv s0 st) (h' : Inv (gen (base st) c x) s) : Inv s0 (relog c st s) := by
  refine ⟨fun t y ht hy => ?_, fun k y hk hy => ?_⟩
  · unfold Xl.relog at ht hy
    simp only at ht hy
    rw [List.mem_append, List.mem_append (s := slotsOf c.vars ++ ownSlots c.own), not_or, not_or] at ht
    have h1 := h'.env t y ht.1 hy
    rcases lk_gen h1 with h2 | h2
    · exact absurd h2 ht.2.1
    · exact h.env t y ht.2.2 h2
  · unfold Xl.relog at hk hy
    simp only at hk hy
    rw [List.mem_append, List.mem_append (s := namesOf c.objs ++ (ownNames c.own ++ arrNames c.arrs)), not_or, not_or] at hk
    have h1 := h'.objs k y hk.1 hy
    rcases lk_genO h1 with h2 | h2
    · exact absurd h2 hk.2.1
    · exact h.objs k y hk.2.2 h2

theorem Inv.relog0 {s0 st s : XSt} (h : Inv s0 st) (h' : Inv (base st) s) : Inv s0 (relog0 st s) := by
  refine ⟨fun t y ht hy => ?_, fun k y hk hy => ?_⟩
  · simp only [Xl.relog0, List.mem_append, not_or] at ht hy
    exact h.env t y ht.2 (h'.env t y ht.1 hy)
  · simp only [Xl.relog0, List.mem_append, not_or] at hk hy
    exact h.objs k y hk.2 (h'.objs k y hk.1 hy)

/-- seen from the state at the cut's beginning -/
theorem Inv.from_gen {st s : XSt} {c : Cut} {x : c.T} (h' : Inv (gen (base st) c x) s) (t : Nat) : True := trivial

theorem relog_im (c : Cut) (st s : XSt) : (relog c st s).im = s.im := rfl
theorem relog0_im (st s : XSt) : (relog0 st s).im = s.im := rfl
theorem base_im (st : XSt) : (base st).im = st.im := rfl
theorem Inv.base (st : XSt) : Inv (base st) (Xl.base st) := .refl _

theorem knowOp_ok {S : Sig} {st : XSt} {x : Operand} {b : Bool} {s0 : XSt} (hx : xeval st x = some (.d (.b b))) (hi : Inv s0 st) :
    Inv s0 (knowOp x b st) ∧ ∀ (B : Base) (g : Gh) (w : World) (a : Act), SR S B g w st.im a → SR S B g w (knowOp x b st).im a := by
  cases x with
  | tmp t =>
    replace hx := (xeval_tmp hx).2
    exact ⟨hi.know hx, fun B g w a h => h.known (lk_sees hx)⟩
  | const v => exact ⟨hi, fun _ _ _ _ h => h⟩
  | func f => exact ⟨hi, fun _ _ _ _ h => h⟩
  | global g => exact ⟨hi, fun _ _ _ _ h => h⟩

theorem range_spec (ops : Array Oper) : ∀ (j : Nat) o, ops.toList[j]? = some o → ops[0 + j]? = some o := by
  intro j o h
  rw [Nat.zero_add]
  simpa using h

theorem awp_conseq {S : Sig} {c : Code} {Q Q' : Exit → St → Prop} {st : St} (h : AWp P S c Q st) (hq : ∀ e s, Q e s → ∀ (B : Base) (g : Gh) (w : World) (a : Act), SR S B g w s a → ∃ s' g', Q' e s' ∧ SR S B g' w s' a) : AWp P S c Q' st := by
  intro B g w a hs
  refine wp_mono (h B g w a hs) ?_
  rintro e a' w' ⟨s, g', q, hs'⟩
  exact hq e s q B g' w' a' hs'

theorem exec_sound (hm : P.follows .mixedOrders = true) {S : Sig} (hnm : S.names = nm) : ∀ (c : Code) (an : An) (st s0 : XSt) (K : Exit → XSt → Option R) (r : R), Inv s0 st →
    exec P Γ own nm S.N N c an st K = some r → AWp P S c (PostE s0 K r) st.im := by
  intro c
  induction c with
  | skip => intro an st s0 K r hi h; exact awp_skip ⟨st, rfl, hi, h⟩
  | label l => intro an st s0 K r hi h; exact awp_label ⟨st, rfl, hi, h⟩
  | exit id => intro an st s0 K r hi h; exact awp_exit ⟨st, rfl, hi, h⟩
  | ret => intro an st s0 K r hi h; exact awp_ret ⟨st, rfl, hi, h⟩
  | region id ops draw =>
    intro an st s0 K r hi h
    simp only [exec] at h
    cases draw with
    | false =>
      have := xops_rw (S := S) ops.toList 0 [] st (range_spec ops) hi h
      refine awp_rw (n := ops.toList.length) (by simp) ?_
      rw [List.range_eq_range']
      exact this
    | true =>
      have := xops_dw (S := S) ops.toList 0 [] st (range_spec ops) hi h
      exact awp_dw ops.toList.length hm this
  | seq a b iha ihb =>
    intro an st s0 K r hi h
    have plain : exec P Γ own nm S.N N a an.l st (onNormal (fun s => exec P Γ own nm S.N N b an.r s K) K) = some r → AWp P S (.seq a b) (PostE s0 K r) st.im := by
      intro h
      refine awp_seq (awp_mono (iha _ st s0 _ r hi h) ?_)
      rintro e s ⟨st', rfl, hi', hk⟩
      cases e with
      | normal => exact ihb _ st' s0 K r hi' hk
      | _ => exact ⟨st', rfl, hi', hk⟩
    unfold exec at h
    split at h
    · rename_i cut x y
      unfold joinAt at h
      refine awp_seq (awp_mono (iha x (base st) (base st) _ r (.refl _) h) ?_)
      rintro e s ⟨st', rfl, hi', hk⟩
      cases e with
      | normal =>
        simp only [onNormal, Option.bind_eq_some_iff] at hk
        obtain ⟨z, hz, hk⟩ := hk
        rw [caseOwn_eq] at hk
        intro B g w act hs
        obtain ⟨g', hs'⟩ := cut_sound (s0 := base st) hz (fun t _ => hi'.env t) (fun k _ => hi'.objs k) hs hnm
        refine ihb y (relog cut st (gen (base st) cut z)) s0 K r (hi.relog (.refl _)) hk B g' w act hs'
      | _ => exact ⟨relog0 st st', rfl, hi.relog0 hi', hk⟩
    · exact plain h
  | cond c a b iha ihb =>
    intro an st s0 K r hi h
    unfold exec at h
    split at h
    · rename_i v hv
      have hsees := xeval_sees hv
      refine awp_cond (b := v) hsees (fun hb => ?_) (fun hb => ?_)
      · subst hb
        simp only [cond_true] at h
        replace h := unstop_some h
        obtain ⟨k1, k2⟩ := knowOp_ok (S := S) hv hi
        intro B g w act hs
        exact iha _ _ s0 K r k1 h B g w act (k2 B g w act hs)
      · subst hb
        simp only [cond_false] at h
        replace h := unstop_some h
        obtain ⟨k1, k2⟩ := knowOp_ok (S := S) hv hi
        intro B g w act hs
        exact ihb _ _ s0 K r k1 h B g w act (k2 B g w act hs)
    · cases h
  | block id c ih =>
    intro an st s0 K r hi h
    simp only [exec] at h
    refine awp_block (awp_mono (ih _ st s0 _ r hi h) ?_)
    rintro e s ⟨st', rfl, hi', hk⟩
    cases e with
    | exit j =>
      simp only [onBlock, exitIs] at hk
      simp only [blockQ]
      cases hb : Nat.beq j id with
      | true =>
        simp only [hb, cond_true] at hk
        rw [if_pos (Nat.eq_of_beq_eq_true hb)]
        exact ⟨st', rfl, hi', hk⟩
      | false =>
        simp only [hb, cond_false] at hk
        rw [if_neg (Nat.ne_of_beq_eq_false hb)]
        exact ⟨st', rfl, hi', hk⟩
    | _ => exact ⟨st', rfl, hi', hk⟩
  | loop b ih =>
    intro an st s0 K r hi h
    unfold exec at h
    split at h
    · rename_i cut x
      obtain ⟨z0, hz0, h⟩ := Option.bind_eq_some_iff.1 h
      intro B g w act hs
      obtain ⟨g', hs'⟩ := cut_sound (s0 := base st) hz0 (fun _ _ _ _ h => h) (fun _ _ _ _ h => h) hs hnm
      generalize hf : (fun (rec : cut.T → Option R) (z : cut.T) => caseOwn cut.own z.2.2.1 fun u => exec P Γ own nm S.N N b x (gen (base st) cut (z.1, z.2.1, u, z.2.2.2)) (onNormal (fun s => Option.bind (proj nm (keepL (base st) cut) cut s) rec) (fun e s => K e (relog cut st s)))) = f at h
      have key : ∀ (n : Nat) (z : cut.T), iter f n z = some r → AWp P S (.loop b) (PostE s0 K r) (gen (base st) cut z).im := by
        intro n z hn
        refine awp_loop (fun n s => ∃ z, iter f n z = some r ∧ s = (gen (base st) cut z).im) n ⟨z, hn, rfl⟩ ?_
        rintro n s ⟨z, hn, rfl⟩
        cases n with
        | zero => simp [iter] at hn
        | succ n =>
          simp only [iter] at hn
          rw [← hf] at hn
          replace hn := (caseOwn_eq _ _ _).symm.trans hn
          refine awp_conseq (ih x _ (gen (base st) cut z) _ r (.refl _) hn) ?_
          rintro e s ⟨st', rfl, hi', hk⟩ B g w act hs
          cases e with
          | normal =>
            simp only [onNormal, Option.bind_eq_some_iff] at hk
            obtain ⟨z', hz', hk⟩ := hk
            obtain ⟨ap1, ap2⟩ := proj_apart hz'
            obtain ⟨g', hs'⟩ := cut_sound (s := st') (s0 := base st) hz' (fun t ht y hw hy => (lk_gen (hi'.env t y hw hy)).resolve_left (ap1 t ht)) (fun k hk y hw hy => (lk_genO (hi'.objs k y hw hy)).resolve_left (ap2 k hk)) hs hnm
            exact ⟨_, g', ⟨n, Nat.lt_succ_self n, z', by rw [hf] at hk; exact hk, rfl⟩, hs'⟩
          | _ => exact ⟨_, g, ⟨relog cut st st', rfl, hi.relog hi', hk⟩, hs⟩
      exact key N z0 h B g' w act hs'
    · cases h
  | _ =>
    intros
    simp_all [exec]

end
end Go.Xl
/-
  Functions of data: what they come to, as functions in Lean.
-/
set_option linter.unusedVariables false
set_option linter.unusedSimpArgs false
set_option linter.unnecessarySimpa false
namespace Go.Xl
open Go.Ab

@[reducible] def Fun : List Ty → Type → Type
  | [], R => R
  | t :: r, R => t.T → Fun r R

@[reducible] def ResT : List Ty → Type
  | [] => Unit
  | [t] => t.T
  | t :: u :: r => t.T × ResT (u :: r)

def resL : (ts : List Ty) → ResT ts → List XV
  | [], _ => []
  | [t], x => [.d (t.xv x)]
  | t :: u :: r, x => .d (t.xv x.1) :: resL (u :: r) x.2

def tupX : List XV → XV
  | [x] => x
  | l => .tup l

def resXV (ts : List Ty) (x : ResT ts) : XV := tupX (resL ts x)

theorem tupX_a (l : List XV) : (tupX l).a = tupled (asOf l) := by
  cases l with
  | nil => rfl
  | cons x r => cases r <;> rfl

def decRes : (ts : List Ty) → List XV → Option (ResT ts)
  | [], [] => some ()
  | [t], [x] => decXVr t x
  | t :: u :: r, x :: xs => match decXVr t x, decRes (u :: r) xs with
    | some y, some ys => some (y, ys)
    | _, _ => none
  | _, _ => none

inductive AsLe : List AV → List AV → Prop
  | nil : AsLe [] []
  | cons {x y : AV} {r s : List AV} : ALe x y → AsLe r s → AsLe (x :: r) (y :: s)

theorem AsLe.length {a b : List AV} (h : AsLe a b) : a.length = b.length := by
  induction h with
  | nil => rfl
  | cons _ _ ih => simp [ih]

theorem AsLe.get {a b : List AV} (h : AsLe a b) : ∀ {i : Nat} {y : AV}, b[i]? = some y → ∃ x, a[i]? = some x ∧ ALe x y := by
  induction h with
  | nil => intro i y hy; simp at hy
  | cons h1 _ ih =>
    intro i y hy
    cases i with
    | zero => simp at hy; subst hy; exact ⟨_, rfl, h1⟩
    | succ i => simp at hy; simpa using ih hy

theorem AsLe.tup {a b : List AV} (h : AsLe a b) : ALe (.tup a) (.tup b) := by
  intro g w v hr
  cases hr with
  | tup _ vs hl hc =>
    refine .tup b vs (h.length ▸ hl) fun i c u hb hu => ?_
    obtain ⟨x, hx, hle⟩ := h.get hb
    exact hle _ _ _ (hc i x u hx hu)

theorem decRes_le : ∀ {ts : List Ty} {xs : List XV} {y : ResT ts}, decRes ts xs = some y → AsLe (asOf xs) (asOf (resL ts y))
  | [], xs, y, h => by
    cases xs with
    | nil => exact .nil
    | cons _ _ => simp [decRes] at h
  | [t], xs, y, h => by
    cases xs with
    | nil => simp [decRes] at h
    | cons x r =>
      cases r with
      | nil => exact .cons (decXVr_le h) .nil
      | cons _ _ => simp [decRes] at h
  | t :: u :: r, xs, y, h => by
    cases xs with
    | nil => simp [decRes] at h
    | cons x xs =>
      simp only [decRes] at h
      split at h
      · rename_i y1 ys h1 h2
        cases h
        exact .cons (decXVr_le h1) (decRes_le h2)
      · cases h

theorem resXV_le {ts : List Ty} {xs : List XV} {y : ResT ts} (h : decRes ts xs = some y) : ALe (tupX xs).a (resXV ts y).a := by
  have hl := decRes_le h
  unfold resXV
  rw [tupX_a, tupX_a]
  generalize asOf xs = a at hl
  generalize asOf (resL ts y) = b at hl
  cases hl with
  | nil => exact .refl _
  | cons h1 h2 =>
    cases h2 with
    | nil => exact h1
    | cons h3 h4 => exact (AsLe.cons h1 (.cons h3 h4)).tup

/-- what a function hands back -/
def xres (P : Program) (st : XSt) : List ResultVar → Option (List XV)
  | [] => some []
  | .tmp t :: r => match xeval st (.tmp t), xres P st r with
    | some x, some l => some (x :: l)
    | _, _ => none
  | .cell a ty :: r => match xeval st (.tmp a), tyI P ty, xres P st r with
    | some (.nm k (.p off)), some (agg, sz), some l => match lk k st.objs with
      | some (.cells cs _) => cond agg (cond (Nat.ble (off + sz) cs.length) (some (xjoin ((cs.drop off).take sz) :: l)) none)
          (cond (Nat.beq sz 1) (match cs[off]? with
            | some v => some (v :: l)
            | none => none) none)
      | _ => none
    | _, _, _ => none

theorem xres_ok {P : Program} {st : XSt} : ∀ {rs : List ResultVar} {xs : List XV}, xres P st rs = some xs → RVs P st.im rs (asOf xs)
  | [], xs, h => by simp [xres] at h; subst h; exact .nil
  | .tmp t :: r, xs, h => by
    simp only [xres] at h
    split at h
    · rename_i x l hx hl
      cases h
      exact .cons _ _ _ _ (.tmp t _ (xeval_tmp hx).1 (.eq _ (lk_sees (xeval_tmp hx).2))) (xres_ok hl)
    · cases h
  | .cell a ty :: r, xs, h => by
    simp only [xres] at h
    split at h
    · rename_i k off agg sz l ha ht hl
      have hT := tyI_I ht
      split at h
      · rename_i cs oty hk
        have hk' := lk_im hk
        cases agg with
        | true =>
          simp only [cond_true] at h
          cases hb : Nat.ble (off + sz) cs.length with
          | false => simp [hb] at h
          | true =>
            simp only [hb, cond_true, Option.some.injEq] at h
            subst h
            simp only [asOf]
            refine .cons _ _ _ _ (.cell a ty k off _ (xeval_tmp ha).1 (.eq _ (lk_sees (xeval_tmp ha).2)) (.agg sz (asOf cs) oty _ hT hk' (by rw [asOf_length]; exact Nat.le_of_ble_eq_true hb) ?_)) (xres_ok hl)
            rw [xjoin_a, asOf_take, asOf_drop]
        | false =>
          simp only [cond_false] at h
          cases hb : Nat.beq sz 1 with
          | false => simp [hb] at h
          | true =>
            have := Nat.eq_of_beq_eq_true hb
            subst this
            simp only [hb, cond_true] at h
            split at h
            · rename_i v hv
              cases h
              exact .cons _ _ _ _ (.cell a ty k off _ (xeval_tmp ha).1 (.eq _ (lk_sees (xeval_tmp ha).2)) (.one (asOf cs) oty _ hT hk' (by rw [asOf_get, hv]; rfl))) (xres_ok hl)
            · cases h
      · cases h
    · cases h

def envX : Nat → List XV → List (Nat × XV)
  | _, [] => []
  | n, x :: r => (n, x) :: envX (n + 1) r

theorem envX_im (n : Nat) (l : List XV) : imEnv (envX n l) = envOf n (asOf l) := by
  induction l generalizing n with
  | nil => rfl
  | cons x r ih => simp only [envX, imEnv, List.map_cons, asOf, envOf] at ih ⊢; rw [ih]

/-- a result that owns its block becomes data -/
def frz : List XV → List (Nat × XOb) → Option (List XV × List (Nat × XOb))
  | [], objs => some ([], objs)
  | .os k t a len :: r, objs => match lk k objs with
    | some (.arr u l) => cond (u.eqb t) (cond (Nat.ble (a + len) l.length) (match frz r (dropX k objs) with
      | some (ys, o) => some (.d (.sl u ((l.drop a).take len)) :: ys, o)
      | none => none) none) none
    | _ => none
  | x :: r, objs => match frz r objs with
    | some (ys, o) => some (x :: ys, o)
    | none => none

inductive AsTo (g : Gh) (g' : Gh) (w : World) : List XV → List XV → Prop
  | nil : AsTo g g' w [] []
  | cons {x y : XV} {r s : List XV} : (∀ v, RA g w x.a v → RA g' w y.a v) → AsTo g g' w r s → AsTo g g' w (x :: r) (y :: s)

theorem AsTo.pre {g g1 g' : Gh} {w : World} {l m : List XV} (h : AsTo g1 g' w l m) (ht : Trans [] g w g1 w) : AsTo g g' w l m := by
  induction h with
  | nil => exact .nil
  | cons h1 _ ih => exact .cons (fun v hv => h1 v (hv.mono ht (.nil _))) ih

theorem AsTo.post {g g1 g' : Gh} {w : World} {l m : List XV} (h : AsTo g g1 w l m) (ht : Trans [] g1 w g' w) : AsTo g g' w l m := by
  induction h with
  | nil => exact .nil
  | cons h1 _ ih => exact .cons (fun v hv => (h1 v hv).mono ht (.nil _)) ih

theorem AsTo.length {g g' : Gh} {w : World} {l m : List XV} (h : AsTo g g' w l m) : l.length = m.length := by
  induction h with
  | nil => rfl
  | cons _ _ ih => simp [ih]

theorem AsTo.get {g g' : Gh} {w : World} {l m : List XV} (h : AsTo g g' w l m) : ∀ {i : Nat} {y : XV}, m[i]? = some y → ∃ x, l[i]? = some x ∧ ∀ v, RA g w x.a v → RA g' w y.a v := by
  induction h with
  | nil => intro i y hy; simp at hy
  | cons h1 _ ih =>
    intro i y hy
    cases i with
    | zero => simp at hy; subst hy; exact ⟨_, rfl, h1⟩
    | succ i => simp at hy; simpa using ih hy

theorem AsTo.tupX {g g' : Gh} {w : World} {l m : List XV} (h : AsTo g g' w l m) {v : Value} (hr : RA g w (tupX l).a v) : RA g' w (tupX m).a v := by
  have tup : ∀ l m : List XV, AsTo g g' w l m → RA g w (.tup (asOf l)) v → RA g' w (.tup (asOf m)) v := by
    intro l m h hr
    cases hr with
    | tup _ vs hl hc =>
      refine .tup _ vs (by rw [asOf_length, ← h.length, ← asOf_length]; exact hl) fun i c u hb hu => ?_
      rw [asOf_get, Option.map_eq_some_iff] at hb
      obtain ⟨y, hy, rfl⟩ := hb
      obtain ⟨x, hx, hxy⟩ := h.get hy
      exact hxy u (hc i x.a u (by rw [asOf_get, hx]; rfl) hu)
  cases h with
  | nil => exact tup [] [] .nil hr
  | cons h1 h2 =>
    cases h2 with
    | nil => exact h1 v hr
    | cons h3 h4 => exact tup _ _ (.cons h1 (.cons h3 h4)) hr

theorem frz_ok {B : Base} {w : World} {live : List Nat} : ∀ {xs ys : List XV} {objs objs' : List (Nat × XOb)}, frz xs objs = some (ys, objs') → ∀ g, HR [] B g w ⟨imObjs objs, live⟩ →
    ∃ g', HR [] B g' w ⟨imObjs objs', live⟩ ∧ Trans [] g w g' w ∧ AsTo g g' w xs ys
  | [], ys, objs, objs', h, g, hr => by
    simp only [frz, Option.some.injEq, Prod.mk.injEq] at h
    obtain ⟨rfl, rfl⟩ := h
    exact ⟨g, hr, .refl _ _ _, .nil⟩
  | x :: r, ys, objs, objs', h, g, hr => by
    have other : (match frz r objs with | some (ys, o) => some (x :: ys, o) | none => none) = some (ys, objs') → ∃ g', HR [] B g' w ⟨imObjs objs', live⟩ ∧ Trans [] g w g' w ∧ AsTo g g' w (x :: r) ys := by
      intro h
      split at h
      · rename_i zs o hz
        cases h
        obtain ⟨g', h1, h2, h3⟩ := frz_ok hz g hr
        exact ⟨g', h1, h2, .cons (fun v hv => hv.mono h2 (.nil _)) h3⟩
      · cases h
    cases x with
    | os k t a len =>
      simp only [frz] at h
      split at h
      · rename_i u l hk
        cases h1 : u.eqb t with
        | false => simp [h1] at h
        | true =>
        cases h2 : Nat.ble (a + len) l.length with
        | false => simp [h1, h2] at h
        | true =>
          simp only [h1, h2, cond_true] at h
          split at h
          · rename_i zs o hz
            cases h
            have := Ty.eqb_eq h1
            subst this
            have ho := lk_imA hk
            obtain ⟨f1, f2, f3⟩ := hr.freeze (k := k) (sz := u.size) (es := l.map u.ds) (ty := none) (by simp) ho (by
              intro i cs hc
              rw [List.getElem?_map, Option.map_eq_some_iff] at hc
              obtain ⟨y, _, rfl⟩ := hc
              exact u.ds_length y)
            have e : Ab.dropObj k ⟨imObjs objs, live⟩ = ⟨imObjs (dropX k objs), live⟩ := by
              rw [dropX_im]; rfl
            rw [e] at f1
            obtain ⟨g', h3, h4, h5⟩ := frz_ok hz _ f1
            refine ⟨g', h3, f2.trans h4, .cons (fun v hv => ?_) (h5.pre f2)⟩
            have hle := Nat.le_of_ble_eq_true h2
            have := f3 a len v (by simpa using hle) hv
            have := this.mono h4 (.nil _)
            simp only [XV.a, XD.d]
            rw [List.map_take, List.map_drop]
            exact this
          · cases h
      · cases h
    | _ => exact other h

/-- the same, what comes next in hand -/
def frzK {R : Type} : List XV → List (Nat × XOb) → (List XV → Option R) → Option R
  | [], _, K => K []
  | .os k t a len :: r, objs, K => match lk k objs with
    | some (.arr u l) => cond (u.eqb t) (cond (Nat.ble (a + len) l.length) (frzK r (dropX k objs) fun ys => K (.d (.sl u ((l.drop a).take len)) :: ys)) none) none
    | _ => none
  | x :: r, objs, K => frzK r objs fun ys => K (x :: ys)

theorem frzK_some {R : Type} {y : R} : ∀ {xs : List XV} {objs : List (Nat × XOb)} {K : List XV → Option R}, frzK xs objs K = some y → ∃ ys o, frz xs objs = some (ys, o) ∧ K ys = some y
  | [], objs, K, h => ⟨[], objs, rfl, h⟩
  | x :: r, objs, K, h => by
    have other : (frzK r objs fun ys => K (x :: ys)) = some y → ∃ ys o, (match frz r objs with | some (ys, o) => some (x :: ys, o) | none => none) = some (ys, o) ∧ K ys = some y := by
      intro h
      obtain ⟨ys, o, h1, h2⟩ := frzK_some h
      exact ⟨x :: ys, o, by rw [h1], h2⟩
    cases x with
    | os k t a len =>
      simp only [frzK] at h
      split at h
      · rename_i u l hk
        cases h1 : u.eqb t with
        | false => simp [h1] at h
        | true =>
        cases h2 : Nat.ble (a + len) l.length with
        | false => simp [h1, h2] at h
        | true =>
          simp only [h1, h2, cond_true] at h
          obtain ⟨ys, o, h3, h4⟩ := frzK_some h
          exact ⟨.d (.sl u ((l.drop a).take len)) :: ys, o, by simp only [frz, hk, h1, h2, h3, cond_true], h4⟩
      · cases h
    | _ => exact other h

/-- at a function's end -/
def finishL (P : Program) (fn : Func) (res : List Ty) (s : XSt) : Option (ResT res) :=
  match xres P s fn.results.toList with
  | some xs => frzK xs s.objs fun ys => decRes res ys
  | none => none

def finish (P : Program) (fn : Func) (res : List Ty) : Exit → XSt → Option (ResT res)
  | .ret, s => finishL P fn res s
  | .normal, s => finishL P fn res s
  | _, _ => none

/-- a body of data, run -/
def runB (P : Program) (Γ : List (Ent P)) (own : List Nat) (N : Nat) (fn : Func) (an : An) (res : List Ty) (xs : List XV) : Option (ResT res) :=
  match fn.body with
  | some c => cond (Nat.ble fn.ntmps GB) (exec P Γ own [] fn.ntmps N c an ⟨envX 0 xs, [], [], [], []⟩ (finish P fn res)) none
  | none => none

theorem Does.le {P : Program} {f : FuncId} {args : List AV} {X X' : Store} {res res' : AV} (h : Does P f args X res X') (hle : ALe res res') : Does P f args X res' X' := by
  intro g w vs hr hl ha
  exact (h g w vs hr hl ha).mono fun e w' ⟨g', v, h1, h2, h3⟩ => ⟨g', v, h1, hle g' w' v h2, h3⟩

theorem condG {α : Type} {n : Nat} {x : Option α} {y : α} (h : cond (Nat.ble n GB) x none = some y) : n ≤ GB ∧ x = some y := by
  cases hb : Nat.ble n GB with
  | false => simp [hb] at h
  | true => exact ⟨Nat.le_of_ble_eq_true hb, by simpa [hb] using h⟩

theorem runB_sound {P : Program} {Γ : List (Ent P)} {own : List Nat} {N : Nat} {f : FuncId} {fn : Func} {an : An} {res : List Ty} {xs : List XV} {y : ResT res} (hm : P.follows .mixedOrders = true) (hf : P.funcs[f]? = some fn)
    (hn : Nat.ble xs.length fn.ntmps = true) (h : runB P Γ own N fn an res xs = some y) : Does P f (asOf xs) X0 (resXV res y).a X0 := by
  unfold runB at h
  split at h
  · rename_i c hc
    obtain ⟨hG, h⟩ := condG h
    have hs := exec_sound (S := ⟨fn.ntmps, [], by simp⟩) hm rfl c an ⟨envX 0 xs, [], [], [], []⟩ ⟨envX 0 xs, [], [], [], []⟩ _ _ (.refl _) h
    have key : ∀ s', ∀ zs, xres P s' fn.results.toList = some zs → decRes res zs = some y → True := fun _ _ _ _ => trivial
    -- the result as it stands
    intro g w vs hr hl ha
    refine calls_of_wp hf hc (wp_mono (hs (Base.of g w X0) g w _ ?_) ?_)
    · refine ⟨rfl, ?_, hr, ?_⟩
      · have := Nat.le_of_ble_eq_true hn
        rw [asOf_length] at hl
        simp; omega
      · intro t x hx
        have hx' : (envOf 0 (asOf xs)).lookup t = some x := by rw [← envX_im]; exact hx
        obtain ⟨_, hx'⟩ := envOf_lookup hx'
        rw [Nat.sub_zero] at hx'
        have hlt : t < vs.size := by have := (List.getElem?_eq_some_iff.1 hx').1; omega
        refine ⟨vs[t], ?_, ha t x _ hx' (by simp [hlt])⟩
        have := Nat.le_of_ble_eq_true hn
        rw [asOf_length] at hl
        rw [slotV_tmp (by omega)]
        simp [Array.getElem?_append, hlt]
    · rintro e a' w' ⟨s, g', ⟨st', rfl, hi, hk⟩, hs'⟩
      have fin : finishL P fn res st' = some y →
          a'.defers = [] ∧ ∃ v, (results fn a'.tmps).run P w' = .ok v w' ∧ ∃ g' v_1, Ending.returned v = Ending.returned v_1 ∧ RA g' w' (resXV res y).a v_1 ∧ HR (X0.objs.map (·.1)) (Base.of g w X0) g' w' X0 := by
        intro h
        unfold finishL at h
        split at h
        · rename_i zs h1
          obtain ⟨ys, o, h2, h⟩ := frzK_some h
          · obtain ⟨v, hv, hra⟩ := run_results (xres_ok h1) hs'
            obtain ⟨g1, hr1, ht1, has⟩ := frz_ok h2 g' hs'.hr
            have hs1 : SR ⟨fn.ntmps, [], by simp⟩ (Base.of g w X0) g1 w' ⟨[], ⟨imObjs o, st'.live⟩⟩ a' := ⟨hs'.defers, hs'.size, hr1, by simp⟩
            have hw : Weak [] ⟨[], ⟨imObjs o, st'.live⟩⟩ ⟨[], X0⟩ := ⟨by simp, by simp [X0], by simp [X0], by simp⟩
            obtain ⟨g'', ht, hs''⟩ := hs1.weaken' hw
            rw [← tupX_a] at hra
            have hra' := (has.tupX hra).mono ht (.nil _)
            exact ⟨hs'.defers, v, hv, g'', v, rfl, resXV_le h g'' w' v hra', hs''.hr⟩
        · cases h
      cases e with
      | ret => exact fin hk
      | normal => exact fin hk
      | _ => simp [finish] at hk
  · cases h

/-- arguments taken one by one -/
def bindArgs {α : Type} : (ts : List Ty) → (List XV → α) → List XV → Fun ts α
  | [], f, acc => f acc
  | t :: r, f, acc => fun x => bindArgs r f (acc ++ [.d (t.xv x)])

/-- a function of data, as the interpreter has it -/
def runF (P : Program) (Γ : List (Ent P)) (own : List Nat) (N : Nat) (fn : Func) (an : An) (args res : List Ty) : Fun args (Option (ResT res)) :=
  bindArgs args (fun xs => runB P Γ own N fn an res xs) []

/-- what a function of data comes to is what F says -/
def SoundF (P : Program) (f : FuncId) (res : List Ty) : (args : List Ty) → Fun args (Option (ResT res)) → List XV → Prop
  | [], F, acc => ∀ y, F = some y → Does P f (asOf acc) X0 (resXV res y).a X0
  | t :: r, F, acc => ∀ x : t.T, SoundF P f res r (F x) (acc ++ [.d (t.xv x)])

theorem bindArgs_sound {P : Program} {Γ : List (Ent P)} {own : List Nat} {N : Nat} {f : FuncId} {fn : Func} {an : An} {res : List Ty} (hm : P.follows .mixedOrders = true) (hf : P.funcs[f]? = some fn) :
    ∀ (args : List Ty) (acc : List XV), Nat.ble (acc.length + args.length) fn.ntmps = true → SoundF P f res args (bindArgs args (fun xs => runB P Γ own N fn an res xs) acc) acc
  | [], acc, hn => fun y hy => runB_sound hm hf (by simpa using hn) hy
  | t :: r, acc, hn => fun x => bindArgs_sound hm hf r (acc ++ [.d (t.xv x)]) (by
      have := Nat.le_of_ble_eq_true hn
      refine Nat.ble_eq_true_of_le ?_
      simp at this ⊢; omega)

theorem runF_sound {P : Program} {Γ : List (Ent P)} {own : List Nat} {N : Nat} {f : FuncId} {fn : Func} {an : An} {args res : List Ty} (hm : P.follows .mixedOrders = true) (hf : P.funcs[f]? = some fn)
    (hn : Nat.ble args.length fn.ntmps = true) : SoundF P f res args (runF P Γ own N fn an args res) [] :=
  bindArgs_sound hm hf args [] (by simpa using hn)

/-- a function applied to what is known of its arguments -/
def appK {β R : Type} : (ts : List Ty) → Fun ts (Option β) → List Operand → List XV → List (Operand × XV) → (Option β → List (Operand × XV) → Option R) → Option R
  | [], F, [], [], acc, K => K F acc
  | t :: r, F, x :: ops, v :: vs, acc, K => match decXV t v with
    | some y => appK r (F y) ops vs (acc ++ [(x, .d (t.xv y))]) K
    | none => none
  | _, _, _, _, _, _ => none

def callArgs (o : Oper) : List Operand :=
  match o.op with
  | .call c => c.args.toList
  | _ => []

def dataRun {R : Type} (args res : List Ty) (F : Fun args (Option (ResT res))) (o : Oper) (st : XSt) (vs : List XV) (K : Out → Option R) : Option R :=
  appK args F (callArgs o) vs [] fun Fv rd => Option.bind Fv fun y => K (quietO st (resXV res y) rd)

theorem resL_data : ∀ (ts : List Ty) (y : ResT ts), areData (asOf (resL ts y)) = true
  | [], _ => rfl
  | [t], y => rfl
  | t :: u :: r, y => by simp only [resL, asOf, areData, resL_data (u :: r) y.2]; rfl

theorem resXV_data (ts : List Ty) (y : ResT ts) : isData (resXV ts y).a = true := by
  unfold resXV
  rw [tupX_a]
  have := resL_data ts y
  cases h : asOf (resL ts y) with
  | nil => rfl
  | cons x r =>
    rw [h] at this
    cases r with
    | nil => simp only [tupled]; simp only [areData, Bool.and_true] at this; exact this
    | cons z s => simp only [tupled, isData]; exact this

theorem xevals_cons {st : XSt} {x : Operand} {ops : List Operand} {v : XV} {vs : List XV} (h : xevals st (x :: ops) = some (v :: vs)) : xeval st x = some v ∧ xevals st ops = some vs := by
  simp only [xevals] at h
  split at h
  · rename_i a l ha hl; cases h; exact ⟨ha, hl⟩
  · cases h

theorem decXV_sees {st : XSt} {x : Operand} {v : XV} {t : Ty} {y : t.T} (h : xeval st x = some v) (hd : decXV t v = some y) : Sees st.im x (.d (t.dv y)) := by
  cases v with
  | d u => exact xeval_d h (t.decv_spec hd)
  | tip n u l ty => exact xd_sees (a := .sl u l) (by simp [xd, h, XV.asD]) (t.decv_spec hd)
  | _ => simp [decXV] at hd

theorem appK_ok {P : Program} {R : Type} {f : FuncId} {res : List Ty} {st : XSt} {K : Option (ResT res) → List (Operand × XV) → Option R} {r : R} : ∀ (ts : List Ty) (F : Fun ts (Option (ResT res))) (ops : List Operand) (vs : List XV) (acc : List (Operand × XV)) (aops : List Operand) (axs : List XV),
    SoundF P f res ts F axs → xevals st ops = some vs → acc = aops.zip axs → aops.length = axs.length → (∀ p ∈ imRd acc, Sees st.im p.1 p.2) → areData (asOf axs) = true → appK ts F ops vs acc K = some r →
    ∃ (Fv : Option (ResT res)) (xs : List XV), xs.length = (aops ++ ops).length ∧ (∀ y, Fv = some y → Does P f (asOf xs) X0 (resXV res y).a X0) ∧ areData (asOf xs) = true ∧
      (∀ p ∈ imRd ((aops ++ ops).zip xs), Sees st.im p.1 p.2) ∧ K Fv ((aops ++ ops).zip xs) = some r
  | [], F, ops, vs, acc, aops, axs, hs, hv, hacc, hlen, hsee, hda, h => by
    cases ops with
    | nil =>
      cases vs with
      | nil =>
        subst hacc
        exact ⟨F, axs, by simp [hlen], hs, hda, by simpa using hsee, by rw [List.append_nil]; exact h⟩
      | cons _ _ => simp [appK] at h
    | cons _ _ => simp [appK] at h
  | t :: ts, F, ops, vs, acc, aops, axs, hs, hv, hacc, hlen, hsee, hda, h => by
    cases ops with
    | nil => simp [appK] at h
    | cons x ops =>
      cases vs with
      | nil => simp [appK] at h
      | cons v vs =>
        simp only [appK] at h
        obtain ⟨hx, hvs⟩ := xevals_cons hv
        split at h
        · rename_i y hy
          have := appK_ok ts (F y) ops vs _ (aops ++ [x]) (axs ++ [.d (t.xv y)]) (hs y) hvs (by rw [hacc, List.zip_append hlen]; rfl) (by simp [hlen]) (by
            intro p hp
            rw [imRd_append] at hp
            rcases List.mem_append.1 hp with hp | hp
            · exact hsee p hp
            · simp only [imRd, List.map_cons, List.map_nil, List.mem_singleton] at hp
              subst hp
              exact decXV_sees hx hy) (by
            have : ∀ l : List AV, areData l = true → areData (l ++ [.d (t.dv y)]) = true := by
              intro l
              induction l with
              | nil => intro _; rfl
              | cons a r ih => intro h; simp only [areData, Bool.and_eq_true, List.cons_append] at h ⊢; exact ⟨h.1, ih h.2⟩
            rw [asOf_append]; exact this _ hda) h
          simpa using this
        · cases h

/-- a function of data that may be called -/
def mkEnt {P : Program} (id : FuncId) (args res : List Ty) (F : Fun args (Option (ResT res))) (hc : CallI P id) (hs : SoundF P id res args F []) : Ent P where
  id := id
  run := dataRun args res F
  ok := by
    intro R o st aops ts vs K r ho hv h
    unfold dataRun at h
    have e : callArgs o = aops.toList := by simp [callArgs, ho]
    rw [e] at h
    obtain ⟨Fv, xs, h1, h2, h3, h4, h5⟩ := appK_ok (st := st) args F aops.toList vs [] [] [] hs hv rfl rfl (by simp [imRd]) rfl h
    obtain ⟨y, hy, hK⟩ := Option.bind_eq_some_iff.1 h5
    simp only [List.nil_append] at h1 h4 hK
    refine ⟨_, hK, quietO_ok h4 fun X => ?_⟩
    have := op_call (X := X) (xs := asOf xs) ho hc (h2 y hy) (by rw [asOf_length, h1]; simp) h3 (resXV_data res y)
    rw [imRd_zip]
    exact this

/-- a function of the program that may be called -/
def mkFn {P : Program} {Γ : List (Ent P)} {own : List Nat} {N : Nat} (id : FuncId) (fn : Func) (an : An) (args res : List Ty) (F : Fun args (Option (ResT res))) (hm : P.follows .mixedOrders = true) (hf : P.funcs[id]? = some fn)
    (hc : CallI P id) (hn : Nat.ble args.length fn.ntmps = true) (hE : runF P Γ own N fn an args res = F) : Ent P :=
  mkEnt id args res F hc (hE ▸ runF_sound hm hf hn)

end Go.Xl
/-
  Functions that are given a slice that owns its block: what they come to, as functions in Lean.
-/
set_option linter.unusedVariables false
set_option linter.unusedSimpArgs false
set_option linter.unnecessarySimpa false
namespace Go.Xl
open Go.Ab

/-- an argument behind the slice: data, or a function that is known -/
inductive AK where
  | d (t : Ty)
  | c (f : Nat)

@[reducible] def FunA : List AK → Type → Type
  | [], R => R
  | .d t :: r, R => t.T → FunA r R
  | .c _ :: r, R => FunA r R

/-- a result: data, or the slice (how long) -/
inductive RK where
  | d (t : Ty)
  | s

@[reducible] def RK.T : RK → Type
  | .d t => t.T
  | .s => Nat

@[reducible] def ResO : List RK → Type
  | [] => Unit
  | [r] => r.T
  | r :: u :: rs => r.T × ResO (u :: rs)

def RK.val (k : Nat) (t : Ty) : (r : RK) → r.T → XV
  | .d u, x => .d (u.xv x)
  | .s, n => .os k t 0 n

def resLO (k : Nat) (t : Ty) : (rs : List RK) → ResO rs → List XV
  | [], _ => []
  | [r], x => [r.val k t x]
  | r :: u :: rs, x => r.val k t x.1 :: resLO k t (u :: rs) x.2

def osLen (t : Ty) : XV → Option Nat
  | .os k t' a n => cond (Nat.beq k 1) (cond (t'.eqb t) (cond (Nat.beq a 0) (some n) none) none) none
  | _ => none

def RK.dec (t : Ty) : (r : RK) → XV → Option r.T
  | .d u, x => decXV u x
  | .s, x => osLen t x

def decO (t : Ty) : (rs : List RK) → List XV → Option (ResO rs)
  | [], [] => some ()
  | [r], [x] => r.dec t x
  | r :: u :: rs, x :: xs => match r.dec t x, decO t (u :: rs) xs with
    | some y, some ys => some (y, ys)
    | _, _ => none
  | _, _ => none

theorem RK.dec_le {t : Ty} {r : RK} {x : XV} {y : r.T} (h : r.dec t x = some y) : ALe x.a (r.val 1 t y).a := by
  cases r with
  | d u => exact decXV_le h
  | s =>
    change osLen t x = some y at h
    unfold osLen at h
    split at h
    · rename_i k t' a n
      cases h1 : Nat.beq k 1 with
      | false => simp [h1] at h
      | true =>
      cases h2 : t'.eqb t with
      | false => simp [h1, h2] at h
      | true =>
      cases h3 : Nat.beq a 0 with
      | false => simp [h1, h2, h3] at h
      | true =>
        simp only [h1, h2, h3, cond_true, Option.some.injEq] at h
        have e1 := Nat.eq_of_beq_eq_true h1
        have e2 := Ty.eqb_eq h2
        have e3 := Nat.eq_of_beq_eq_true h3
        subst e1; subst e2; subst e3; subst h
        exact .refl _
    · cases h

theorem decO_le {t : Ty} : ∀ {rs : List RK} {xs : List XV} {y : ResO rs}, decO t rs xs = some y → AsLe (asOf xs) (asOf (resLO 1 t rs y))
  | [], xs, y, h => by
    cases xs with
    | nil => exact .nil
    | cons _ _ => simp [decO] at h
  | [r], xs, y, h => by
    cases xs with
    | nil => simp [decO] at h
    | cons x xs =>
      cases xs with
      | nil => exact .cons (RK.dec_le h) .nil
      | cons _ _ => simp [decO] at h
  | r :: u :: rs, xs, y, h => by
    cases xs with
    | nil => simp [decO] at h
    | cons x xs =>
      simp only [decO] at h
      split at h
      · rename_i y1 ys h1 h2
        cases h
        exact .cons (RK.dec_le h1) (decO_le h2)
      · cases h

theorem AsLe.tupX {a b : List XV} (hl : AsLe (asOf a) (asOf b)) : ALe (Xl.tupX a).a (Xl.tupX b).a := by
  rw [tupX_a, tupX_a]
  generalize asOf a = a at hl
  generalize asOf b = b at hl
  cases hl with
  | nil => exact .refl _
  | cons h1 h2 =>
    cases h2 with
    | nil => exact h1
    | cons h3 h4 => exact (AsLe.cons h1 (.cons h3 h4)).tup

/-- at a function's end -/
def finO (P : Program) (fn : Func) (t : Ty) (rs : List RK) (s : XSt) : Option (List t.T × ResO rs) :=
  match lk 1 s.objs with
  | some (.arr u l) => if h : u.eqb t = true then match xres P s fn.results.toList with
    | some xs => match decO t rs xs with
      | some y => some ((Ty.eqb_eq h ▸ l : List t.T), y)
      | none => none
    | none => none else none
  | _ => none

def finishO (P : Program) (fn : Func) (t : Ty) (rs : List RK) : Exit → XSt → Option (List t.T × ResO rs)
  | .ret, s => finO P fn t rs s
  | .normal, s => finO P fn t rs s
  | _, _ => none

def runBO (P : Program) (Γ : List (Ent P)) (own : List Nat) (N : Nat) (fn : Func) (an : An) (t : Ty) (rs : List RK) (l : List t.T) (n : Nat) (xs : List XV) : Option (List t.T × ResO rs) :=
  match fn.body with
  | some c => cond (Nat.ble fn.ntmps GB) (exec P Γ own [1] fn.ntmps N c an ⟨envX 0 (.os 1 t 0 n :: xs), [(1, .arr t l)], [], [], []⟩ (finishO P fn t rs)) none
  | none => none

def O1 (t : Ty) (l : List t.T) : Store := ⟨[(1, (XOb.arr t l).o)], []⟩

theorem runBO_sound {P : Program} {Γ : List (Ent P)} {own : List Nat} {N : Nat} {f : FuncId} {fn : Func} {an : An} {t : Ty} {rs : List RK} {l : List t.T} {n : Nat} {xs : List XV} {y : List t.T × ResO rs} (hm : P.follows .mixedOrders = true) (hf : P.funcs[f]? = some fn)
    (hn : Nat.ble (xs.length + 1) fn.ntmps = true) (h : runBO P Γ own N fn an t rs l n xs = some y) : Does P f (asOf (.os 1 t 0 n :: xs)) (O1 t l) (tupX (resLO 1 t rs y.2)).a (O1 t y.1) := by
  unfold runBO at h
  split at h
  · rename_i c hc
    obtain ⟨hG, h⟩ := condG h
    have hs := exec_sound (S := ⟨fn.ntmps, [1], by simp⟩) hm rfl c an _ _ _ _ (.refl _) h
    intro g w vs hr hl ha
    refine calls_of_wp hf hc (wp_mono (hs (Base.of g w (O1 t l)) g w _ ?_) ?_)
    · refine ⟨rfl, ?_, hr, ?_⟩
      · have := Nat.le_of_ble_eq_true hn
        rw [asOf_length] at hl
        simp at hl ⊢; omega
      · intro s x hx
        have hx' : (envOf 0 (asOf (.os 1 t 0 n :: xs))).lookup s = some x := by rw [← envX_im]; exact hx
        obtain ⟨_, hx'⟩ := envOf_lookup hx'
        rw [Nat.sub_zero] at hx'
        have hlt : s < vs.size := by have := (List.getElem?_eq_some_iff.1 hx').1; omega
        refine ⟨vs[s], ?_, ha s x _ hx' (by simp [hlt])⟩
        have := Nat.le_of_ble_eq_true hn
        rw [asOf_length, List.length_cons] at hl
        rw [slotV_tmp (by omega)]
        simp [Array.getElem?_append, hlt]
    · rintro e a' w' ⟨s, g', ⟨st', rfl, hi, hk⟩, hs'⟩
      have fin : finO P fn t rs st' = some y →
          a'.defers = [] ∧ ∃ v, (results fn a'.tmps).run P w' = .ok v w' ∧ ∃ g' v_1, Ending.returned v = Ending.returned v_1 ∧ RA g' w' (tupX (resLO 1 t rs y.2)).a v_1 ∧ HR ((O1 t l).objs.map (·.1)) (Base.of g w (O1 t l)) g' w' (O1 t y.1) := by
        intro h
        unfold finO at h
        split at h
        · rename_i u l' hk1
          split at h
          · rename_i hu
            have := Ty.eqb_eq hu
            subst this
            split at h
            · rename_i zs h1
              split at h
              · rename_i z h2
                cases h
                obtain ⟨v, hv, hra⟩ := run_results (xres_ok h1) hs'
                have hw : Weak [1] st'.im ⟨[], O1 u l'⟩ := ⟨by simp, by
                  intro p hp
                  simp only [O1, List.mem_singleton] at hp
                  subst hp
                  exact lk_imA hk1, by simp [O1], by simp [O1]⟩
                obtain ⟨g'', ht, hs''⟩ := hs'.weaken' hw
                have hra' := hra.mono ht (.nil _)
                rw [← tupX_a] at hra'
                exact ⟨hs'.defers, v, hv, g'', v, rfl, (AsLe.tupX (decO_le h2)) g'' w' v hra', hs''.hr⟩
              · cases h
            · cases h
          · cases h
        · cases h
      cases e with
      | ret => exact fin hk
      | normal => exact fin hk
      | _ => simp [finishO] at hk
  · cases h

/-- arguments taken one by one -/
def bindA {α : Type} : (ks : List AK) → (List XV → α) → List XV → FunA ks α
  | [], f, acc => f acc
  | .d t :: r, f, acc => fun x => bindA r f (acc ++ [.d (t.xv x)])
  | .c g :: r, f, acc => bindA r f (acc ++ [.clo g []])

def runO (P : Program) (Γ : List (Ent P)) (own : List Nat) (N : Nat) (fn : Func) (an : An) (t : Ty) (ks : List AK) (rs : List RK) (l : List t.T) (n : Nat) : FunA ks (Option (List t.T × ResO rs)) :=
  bindA ks (fun xs => runBO P Γ own N fn an t rs l n xs) []

def SndA {β : Type} (Q : β → List XV → Prop) : (ks : List AK) → FunA ks (Option β) → List XV → Prop
  | [], F, acc => ∀ y, F = some y → Q y acc
  | .d u :: r, F, acc => ∀ x : u.T, SndA Q r (F x) (acc ++ [.d (u.xv x)])
  | .c g :: r, F, acc => SndA Q r F (acc ++ [.clo g []])

def SoundO (P : Program) (f : FuncId) (t : Ty) (rs : List RK) (l : List t.T) (n : Nat) (ks : List AK) (F : FunA ks (Option (List t.T × ResO rs))) (acc : List XV) : Prop :=
  SndA (fun y acc => Does P f (asOf (.os 1 t 0 n :: acc)) (O1 t l) (tupX (resLO 1 t rs y.2)).a (O1 t y.1)) ks F acc

theorem bindA_snd {β : Type} {Q : β → List XV → Prop} {B : List XV → Option β} (m : Nat) (hB : ∀ acc, acc.length ≤ m → ∀ y, B acc = some y → Q y acc) :
    ∀ (ks : List AK) (acc : List XV), acc.length + ks.length ≤ m → SndA Q ks (bindA ks B acc) acc
  | [], acc, hn => fun y hy => hB acc (by simpa using hn) y hy
  | .d u :: r, acc, hn => fun x => bindA_snd m hB r _ (by simp at hn ⊢; omega)
  | .c g :: r, acc, hn => by
    simp only [SndA, bindA]
    exact bindA_snd m hB r (acc ++ [.clo g []]) (by simp at hn ⊢; omega)

theorem runO_sound {P : Program} {Γ : List (Ent P)} {own : List Nat} {N : Nat} {f : FuncId} {fn : Func} {an : An} {t : Ty} {ks : List AK} {rs : List RK} (hm : P.follows .mixedOrders = true) (hf : P.funcs[f]? = some fn)
    (hn : Nat.ble (ks.length + 1) fn.ntmps = true) (l : List t.T) (n : Nat) : SoundO P f t rs l n ks (runO P Γ own N fn an t ks rs l n) [] :=
by
  have h1 := Nat.le_of_ble_eq_true hn
  unfold SoundO runO
  have hB : ∀ acc : List XV, acc.length ≤ fn.ntmps - 1 → ∀ y, runBO P Γ own N fn an t rs l n acc = some y → Does P f (asOf (.os 1 t 0 n :: acc)) (O1 t l) (tupX (resLO 1 t rs y.2)).a (O1 t y.1) :=
    fun acc hl y hy => runBO_sound hm hf (Nat.ble_eq_true_of_le (by omega)) hy
  exact bindA_snd (Q := fun (y : List t.T × ResO rs) acc => Does P f (asOf (.os 1 t 0 n :: acc)) (O1 t l) (tupX (resLO 1 t rs y.2)).a (O1 t y.1)) (fn.ntmps - 1) hB ks [] (by simp; omega)

def asClo : XV → Option Nat
  | .clo g [] => some g
  | _ => none

theorem asClo_eq {v : XV} {g : Nat} (h : asClo v = some g) : v = .clo g [] := by
  unfold asClo at h
  split at h
  · cases h; rfl
  · cases h

/-- applied to what is known of its arguments -/
def appA {β R : Type} : (ks : List AK) → FunA ks (Option β) → List Operand → List XV → List (Operand × XV) → (Option β → List (Operand × XV) → Option R) → Option R
  | [], F, [], [], acc, K => K F acc
  | .d t :: r, F, x :: ops, v :: vs, acc, K => match decXV t v with
    | some y => appA r (F y) ops vs (acc ++ [(x, .d (t.xv y))]) K
    | none => none
  | .c g :: r, F, x :: ops, v :: vs, acc, K => match asClo v with
    | some g' => cond (Nat.beq g' g) (appA r F ops vs (acc ++ [(x, .clo g [])]) K) none
    | none => none
  | _, _, _, _, _, _ => none

def argX : XV → Bool
  | .d _ => true
  | .clo _ [] => true
  | _ => false

def argsX : List XV → Bool
  | [] => true
  | x :: r => cond (argX x) (argsX r) false

theorem argsX_app {a b : List XV} (ha : argsX a = true) (hb : argsX b = true) : argsX (a ++ b) = true := by
  induction a with
  | nil => exact hb
  | cons x r ih =>
    simp only [argsX, List.cons_append] at ha ⊢
    cases hx : argX x with
    | false => simp [hx] at ha
    | true => simp only [hx, cond_true] at ha ⊢; exact ih ha

theorem argX_map {f : Nat → Nat} {x : XV} (h : argX x = true) : mapAV f x.a = x.a := by
  unfold argX at h
  split at h <;> first | rfl | cases h

theorem argsX_map {f : Nat → Nat} : ∀ {l : List XV}, argsX l = true → mapAVs f (asOf l) = asOf l
  | [], _ => rfl
  | x :: r, h => by
    simp only [argsX] at h
    cases hx : argX x with
    | false => simp [hx] at h
    | true =>
      simp only [hx, cond_true] at h
      simp only [asOf, mapAVs, argX_map hx, argsX_map h]

theorem argsX_names {ks : List Nat} : ∀ {l : List XV}, argsX l = true → namesIns ks (asOf l) = true
  | [], _ => rfl
  | x :: r, h => by
    simp only [argsX] at h
    cases hx : argX x with
    | false => simp [hx] at h
    | true =>
      simp only [hx, cond_true] at h
      have : namesIn ks x.a = true := by
        unfold argX at hx
        split at hx <;> first | rfl | cases hx
      simp only [asOf, namesIns, this, argsX_names h, Bool.and_self]

theorem appA_ok {β R : Type} {Q : β → List XV → Prop} {st : XSt} {K : Option β → List (Operand × XV) → Option R} {r : R} : ∀ (ks : List AK) (F : FunA ks (Option β)) (ops : List Operand) (vs : List XV) (acc : List (Operand × XV)) (aops : List Operand) (axs : List XV),
    SndA Q ks F axs → xevals st ops = some vs → acc = aops.zip axs → aops.length = axs.length → (∀ p ∈ imRd acc, Sees st.im p.1 p.2) → argsX axs = true → appA ks F ops vs acc K = some r →
    ∃ (Fv : Option β) (xs : List XV), xs.length = (aops ++ ops).length ∧ (∀ y, Fv = some y → Q y xs) ∧ argsX xs = true ∧
      (∀ p ∈ imRd ((aops ++ ops).zip xs), Sees st.im p.1 p.2) ∧ K Fv ((aops ++ ops).zip xs) = some r
  | [], F, ops, vs, acc, aops, axs, hs, hv, hacc, hlen, hsee, hda, h => by
    cases ops with
    | nil =>
      cases vs with
      | nil =>
        subst hacc
        exact ⟨F, axs, by simp [hlen], hs, hda, by simpa using hsee, by rw [List.append_nil]; exact h⟩
      | cons _ _ => simp [appA] at h
    | cons _ _ => simp [appA] at h
  | .d u :: ts, F, ops, vs, acc, aops, axs, hs, hv, hacc, hlen, hsee, hda, h => by
    cases ops with
    | nil => simp [appA] at h
    | cons x ops =>
      cases vs with
      | nil => simp [appA] at h
      | cons v vs =>
        simp only [appA] at h
        obtain ⟨hx, hvs⟩ := xevals_cons hv
        split at h
        · rename_i y hy
          have := appA_ok ts (F y) ops vs _ (aops ++ [x]) (axs ++ [.d (u.xv y)]) (hs y) hvs (by rw [hacc, List.zip_append hlen]; rfl) (by simp [hlen]) (by
            intro p hp
            rw [imRd_append] at hp
            rcases List.mem_append.1 hp with hp | hp
            · exact hsee p hp
            · simp only [imRd, List.map_cons, List.map_nil, List.mem_singleton] at hp
              subst hp
              exact decXV_sees hx hy) (argsX_app hda rfl) h
          simpa using this
        · cases h
  | .c g :: ts, F, ops, vs, acc, aops, axs, hs, hv, hacc, hlen, hsee, hda, h => by
    cases ops with
    | nil => simp [appA] at h
    | cons x ops =>
      cases vs with
      | nil => simp [appA] at h
      | cons v vs =>
        simp only [appA] at h
        obtain ⟨hx, hvs⟩ := xevals_cons hv
        split at h
        · rename_i g' hg
          cases h1 : Nat.beq g' g with
          | false => simp [h1] at h
          | true =>
            simp only [h1, cond_true] at h
            have := Nat.eq_of_beq_eq_true h1
            subst this
            have := asClo_eq hg
            subst this
            have := appA_ok ts F ops vs _ (aops ++ [x]) (axs ++ [.clo g' []]) hs hvs (by rw [hacc, List.zip_append hlen]; rfl) (by simp [hlen]) (by
              intro p hp
              rw [imRd_append] at hp
              rcases List.mem_append.1 hp with hp | hp
              · exact hsee p hp
              · simp only [imRd, List.map_cons, List.map_nil, List.mem_singleton] at hp
                subst hp
                exact xeval_sees hx) (argsX_app hda rfl) h
            simpa using this
        · cases h

theorem mapOb_arr (f : Nat → Nat) (t : Ty) (l : List t.T) : mapOb f (XOb.arr t l).o = (XOb.arr t l).o := by
  show Ob.cells (mapAVs f _) none = _
  congr 1
  generalize (l.map t.ds).flatten = ds
  induction ds with
  | nil => rfl
  | cons x r ih => simp only [List.map_cons, mapAVs, mapAV, ih]

theorem namesIns_map_d (ks : List Nat) : ∀ (l : List D), namesIns ks (l.map .d) = true
  | [] => rfl
  | x :: r => by simp only [List.map_cons, namesIns, namesIn, namesIns_map_d ks r, Bool.and_self]

theorem arr_names (ks : List Nat) (t : Ty) (l : List t.T) : namesInOb ks (XOb.arr t l).o = true := namesIns_map_d ks _

theorem resLO_map (k : Nat) (t : Ty) : ∀ (rs : List RK) (y : ResO rs), mapAVs (nf [(1, k)]) (asOf (resLO 1 t rs y)) = asOf (resLO k t rs y)
  | [], _ => rfl
  | [r], y => by cases r <;> rfl
  | r :: u :: rs, y => by
    simp only [resLO, asOf, mapAVs, resLO_map k t (u :: rs) y.2]
    congr 1
    cases r <;> rfl

theorem resLO_tup (k : Nat) (t : Ty) (rs : List RK) (y : ResO rs) : mapAV (nf [(1, k)]) (tupX (resLO 1 t rs y)).a = (tupX (resLO k t rs y)).a := by
  rw [tupX_a, tupX_a]
  have h := resLO_map k t rs y
  generalize asOf (resLO k t rs y) = m at h ⊢
  subst h
  generalize asOf (resLO 1 t rs y) = l
  cases l with
  | nil => rfl
  | cons x r => cases r <;> rfl

theorem resLO_names (t : Ty) : ∀ (rs : List RK) (y : ResO rs), namesIns [1] (asOf (resLO 1 t rs y)) = true
  | [], _ => rfl
  | [r], y => by cases r <;> rfl
  | r :: u :: rs, y => by
    have : namesIn [1] (r.val 1 t y.1).a = true := by cases r <;> rfl
    simp only [resLO, asOf, namesIns, this, resLO_names t (u :: rs) y.2, Bool.and_self]

theorem resLO_tnames (t : Ty) (rs : List RK) (y : ResO rs) : namesIn [1] (tupX (resLO 1 t rs y)).a = true := by
  rw [tupX_a]
  have := resLO_names t rs y
  generalize asOf (resLO 1 t rs y) = l at this ⊢
  cases l with
  | nil => rfl
  | cons x r =>
    cases r with
    | nil => simp only [namesIns, Bool.and_true] at this; exact this
    | cons z s => exact this

def calleeFn (o : Oper) : Bool :=
  match o.op with
  | .call c => match c.callee with
    | .value (.func _) => true
    | _ => false
  | _ => false

def oRun {P : Program} {R : Type} (t : Ty) (ks : List AK) (rs : List RK) (F : List t.T → Nat → FunA ks (Option (List t.T × ResO rs))) (o : Oper) (st : XSt) (vs : List XV) (K : Out → Option R) : Option R :=
  match callArgs o, vs with
  | x :: ops, .os k t' a n :: vs => match lk k st.objs with
    | some (.arr u l) => if h : u.eqb t = true then cond (t'.eqb t) (cond (Nat.beq a 0)
        (appA ks (F (Ty.eqb_eq h ▸ l : List t.T) n) ops vs [] fun Fv rd => Option.bind Fv fun y =>
          K ⟨.put k (.arr t y.1), tupX (resLO k t rs y.2), (x, .os k t 0 n) :: rd, xset k (.arr t y.1) st.objs, st.live, [], [k]⟩) none) none else none
    | _ => none
  | _, _ => none

theorem oRun_ok {P : Program} {R : Type} {f : FuncId} {t : Ty} {ks : List AK} {rs : List RK} {F : List t.T → Nat → FunA ks (Option (List t.T × ResO rs))} (hc : CallI P f) (hs : ∀ l n, SoundO P f t rs l n ks (F l n) []) {o : Oper} {st : XSt} {aops : Array Operand} {ts : Array TypeId} {vs : List XV} {K : Out → Option R} {r : R}
    (ho : o.op = .call { callee := .value (.func f), args := aops, argTypes := ts }) (hv : xevals st aops.toList = some vs) (h : oRun (P := P) t ks rs F o st vs K = some r) : ∃ out, K out = some r ∧ OpOk P o st out := by
  have e : callArgs o = aops.toList := by simp [callArgs, ho]
  unfold oRun at h
  rw [e] at h
  split at h
  · rename_i x ops k t' a n vs' hl
    rw [hl] at hv
    obtain ⟨hx, hvs⟩ := xevals_cons hv
    split at h
    · rename_i u l hk
      split at h
      · rename_i hu
        have e2 := Ty.eqb_eq hu
        subst e2
        cases h2 : t'.eqb u with
        | false => simp [h2] at h
        | true =>
        cases h3 : Nat.beq a 0 with
        | false => simp [h2, h3] at h
        | true =>
          simp only [h2, h3, cond_true] at h
          have e3 := Ty.eqb_eq h2
          have e4 := Nat.eq_of_beq_eq_true h3
          subst e3; subst e4
          obtain ⟨Fv, xs, h1, h2, h3, h4, h5⟩ := appA_ok (st := st) ks (F l n) ops vs' [] [] [] (hs l n) hvs rfl rfl (by simp [imRd]) rfl h
          obtain ⟨y, hy, hK⟩ := Option.bind_eq_some_iff.1 h5
          simp only [List.nil_append] at h1 h4 hK
          refine ⟨_, hK, ⟨?_, ⟨rfl, rfl, rfl, fun X hX => ?_⟩, ?_⟩⟩
          · intro p hp
            rcases List.mem_cons.1 hp with rfl | hp
            · exact xeval_sees hx
            · exact h4 p hp
          · have hlk : X.objs.lookup k = some (XOb.arr t' l).o := by rw [hX]; exact lk_imA hk
            have hoc : ObjCall X (O1 t' l) (O1 t' y.1) (nf [(1, k)]) [] := by
              refine ⟨⟨rfl, rfl⟩, ?_, ?_, ?_, by simp [O1], by simp [O1], ?_, ?_, by simp [objsFree]⟩
              · intro p hp
                simp only [O1, List.mem_singleton] at hp
                subst hp
                simp only [mapOb_arr]
                exact hlk
              · simp [O1, arr_names]
              · simp [O1, arr_names]
              · intro p hp
                simp only [O1, List.mem_singleton] at hp
                subst hp
                exact .inl (by simp [O1])
              · intro p hp
                simp only [O1, List.mem_singleton] at hp
                subst hp
                simp [O1]
            have hcall := op_call_obj (X := X) [(1, k)] [] ho hc (h2 y hy) hoc (by
                have hl' : aops.size = ops.length + 1 := by rw [← Array.length_toList, hl]; rfl
                simp only [asOf, List.length_cons, asOf_length, hl', h1]) (by
                simp only [asOf, namesIns, argsX_names h3, Bool.and_true]; rfl) (resLO_tnames t' rs y.2)
            rw [hl] at hcall
            rw [resLO_tup] at hcall
            have e5 : mapAVs (nf [(1, k)]) (asOf (.os 1 t' 0 n :: xs)) = asOf (.os k t' 0 n :: xs) := by
              simp only [asOf, mapAVs, argsX_map h3]; rfl
            rw [e5] at hcall
            have e6 : imRd ((x, .os k t' 0 n) :: ops.zip xs) = (x :: ops).zip (asOf (.os k t' 0 n :: xs)) := by
              rw [asOf, List.zip_cons_cons, ← imRd_zip]; rfl
            rw [e6]
            have e7 : putObjs (nf [(1, k)]) (O1 t' y.1).objs X.objs = Ab.setObj k (XOb.arr t' y.1).o X.objs := by
              simp only [O1, putObjs, mapOb_arr]; rfl
            rw [e7] at hcall
            exact hcall
          · intro j z hj hz
            simp only [List.mem_singleton] at hj
            rw [lk_xset _ _ _ _ hj] at hz; exact hz
      · cases h
    · cases h
  · cases h

/-- the entry -/
def mkO {P : Program} {Γ : List (Ent P)} {own : List Nat} {N : Nat} (id : FuncId) (fn : Func) (an : An) (t : Ty) (ks : List AK) (rs : List RK) (F : List t.T → Nat → FunA ks (Option (List t.T × ResO rs))) (hm : P.follows .mixedOrders = true) (hf : P.funcs[id]? = some fn)
    (hc : CallI P id) (hn : Nat.ble (ks.length + 1) fn.ntmps = true) (hE : runO P Γ own N fn an t ks rs = F) : Ent P where
  id := id
  run := oRun (P := P) t ks rs F
  ok := by
    intro R o st aops ts vs K r ho hv h
    exact oRun_ok hc (fun l n => hE ▸ runO_sound hm hf hn l n) ho hv h

/-! given no element, it may be a slice of any block -/

@[reducible] def RK.ty (t : Ty) : RK → Ty
  | .d u => u
  | .s => .sl t

@[reducible] def rkTys (t : Ty) : List RK → List Ty
  | [] => []
  | r :: rs => r.ty t :: rkTys t rs

def runO0 (P : Program) (Γ : List (Ent P)) (own : List Nat) (N : Nat) (fn : Func) (an : An) (t : Ty) (ks : List AK) (rs : List RK) : FunA ks (Option (ResT (rkTys t rs))) :=
  bindA ks (fun xs => runB P Γ own N fn an (rkTys t rs) (.d (.sl t []) :: xs)) []

def EmptyS (P : Program) (f : FuncId) (t : Ty) (rs : List RK) (y : ResT (rkTys t rs)) (acc : List XV) : Prop :=
  Does P f (asOf (.d (.sl t []) :: acc)) X0 (resXV (rkTys t rs) y).a X0

theorem runO0_sound {P : Program} {Γ : List (Ent P)} {own : List Nat} {N : Nat} {f : FuncId} {fn : Func} {an : An} {t : Ty} {ks : List AK} {rs : List RK} (hm : P.follows .mixedOrders = true) (hf : P.funcs[f]? = some fn)
    (hn : Nat.ble (ks.length + 1) fn.ntmps = true) : SndA (EmptyS P f t rs) ks (runO0 P Γ own N fn an t ks rs) [] := by
  have h1 := Nat.le_of_ble_eq_true hn
  have hB : ∀ acc : List XV, acc.length ≤ fn.ntmps - 1 → ∀ y, runB P Γ own N fn an (rkTys t rs) (.d (.sl t []) :: acc) = some y → EmptyS P f t rs y acc :=
    fun acc hl y hy => runB_sound hm hf (Nat.ble_eq_true_of_le (by simp; omega)) hy
  exact bindA_snd (Q := EmptyS P f t rs) (fn.ntmps - 1) hB ks [] (by simp; omega)

def isOs : XV → Bool
  | .os _ _ _ _ => true
  | _ => false

def oRun2 {P : Program} {R : Type} (t : Ty) (ks : List AK) (rs : List RK) (F : List t.T → Nat → FunA ks (Option (List t.T × ResO rs))) (F0 : FunA ks (Option (ResT (rkTys t rs)))) (o : Oper) (st : XSt) (vs : List XV) (K : Out → Option R) : Option R :=
  match callArgs o, vs with
  | x :: ops, v :: vs' => cond (isOs v) (oRun (P := P) t ks rs F o st vs K) (match decXV (.sl t) v with
    | some [] => appA ks F0 ops vs' [] fun Fv rd => Option.bind Fv fun y => K (quietO st (resXV (rkTys t rs) y) ((x, .d (.sl t [])) :: rd))
    | _ => none)
  | _, _ => none

theorem argsX_data : ∀ {xs : List XV}, argsX xs = true → areData (asOf xs) = true
  | [], _ => rfl
  | x :: r, h => by
    simp only [argsX] at h
    cases hx : argX x with
    | false => simp [hx] at h
    | true =>
      simp only [hx, cond_true] at h
      have : isData x.a = true := by
        unfold argX at hx
        split at hx <;> first | rfl | cases hx
      simp only [asOf, areData, this, argsX_data h, Bool.and_self]

theorem oRun2_ok {P : Program} {R : Type} {f : FuncId} {t : Ty} {ks : List AK} {rs : List RK} {F : List t.T → Nat → FunA ks (Option (List t.T × ResO rs))} {F0 : FunA ks (Option (ResT (rkTys t rs)))} (hc : CallI P f) (hs : ∀ l n, SoundO P f t rs l n ks (F l n) []) (hs0 : SndA (EmptyS P f t rs) ks F0 []) {o : Oper} {st : XSt} {aops : Array Operand} {ts : Array TypeId} {vs : List XV} {K : Out → Option R} {r : R}
    (ho : o.op = .call { callee := .value (.func f), args := aops, argTypes := ts }) (hv : xevals st aops.toList = some vs) (h : oRun2 (P := P) t ks rs F F0 o st vs K = some r) : ∃ out, K out = some r ∧ OpOk P o st out := by
  have e : callArgs o = aops.toList := by simp [callArgs, ho]
  unfold oRun2 at h
  rw [e] at h
  split at h
  · rename_i x ops v vs' hl
    cases hos : isOs v with
    | true =>
      simp only [hos, cond_true] at h
      exact oRun_ok hc hs ho hv h
    | false =>
      simp only [hos, cond_false] at h
      rw [hl] at hv
      obtain ⟨hx, hvs⟩ := xevals_cons hv
      split at h
      · rename_i hd
        obtain ⟨Fv, xs, h1, h2, h3, h4, h5⟩ := appA_ok (st := st) ks F0 ops vs' [] [] [] hs0 hvs rfl rfl (by simp [imRd]) rfl h
        obtain ⟨y, hy, hK⟩ := Option.bind_eq_some_iff.1 h5
        simp only [List.nil_append] at h1 h4 hK
        refine ⟨_, hK, quietO_ok ?_ fun X => ?_⟩
        · intro p hp
          rcases List.mem_cons.1 hp with rfl | hp
          · exact decXV_sees hx hd
          · exact h4 p hp
        · have hl' : aops.size = ops.length + 1 := by rw [← Array.length_toList, hl]; rfl
          have := op_call (X := X) (xs := asOf (.d (.sl t []) :: xs)) ho hc (h2 y hy) (by simp only [asOf, List.length_cons, asOf_length, hl', h1]) (by
            simp only [asOf, areData, argsX_data h3, Bool.and_true]; rfl) (resXV_data _ y)
          have e6 : imRd ((x, .d (.sl t [])) :: ops.zip xs) = (x :: ops).zip (asOf (.d (.sl t []) :: xs)) := by
            rw [asOf, List.zip_cons_cons, ← imRd_zip]; rfl
          rw [hl] at this
          rw [e6]
          exact this
      · cases h
  · cases h

/-- the entry -/
def mkO2 {P : Program} {Γ : List (Ent P)} {own : List Nat} {N : Nat} (id : FuncId) (fn : Func) (an an0 : An) (t : Ty) (ks : List AK) (rs : List RK) (F : List t.T → Nat → FunA ks (Option (List t.T × ResO rs))) (F0 : FunA ks (Option (ResT (rkTys t rs)))) (hm : P.follows .mixedOrders = true) (hf : P.funcs[id]? = some fn)
    (hc : CallI P id) (hn : Nat.ble (ks.length + 1) fn.ntmps = true) (hE : runO P Γ own N fn an t ks rs = F) (hE0 : runO0 P Γ own N fn an0 t ks rs = F0) : Ent P where
  id := id
  run := oRun2 (P := P) t ks rs F F0
  ok := by
    intro R o st aops ts vs K r ho hv h
    exact oRun2_ok hc (fun l n => hE ▸ runO_sound hm hf hn l n) (hE0 ▸ runO0_sound hm hf hn) ho hv h

end Go.Xl
/-
  Functions that hand back a new slice, which owns its block.
-/
set_option linter.unusedVariables false
set_option linter.unusedSimpArgs false
set_option linter.unnecessarySimpa false
namespace Go.Xl
open Go.Ab

/-- at a function's end: no element (none), or a slice that owns its block -/
def finN (P : Program) (fn : Func) (t : Ty) (s : XSt) : Option (Option (List t.T × Nat)) :=
  match xres P s fn.results.toList with
  | some [.os k t' a n] => match lk k s.objs with
    | some (.arr u l) => if h : u.eqb t = true then cond (t'.eqb t) (cond (Nat.beq a 0) (cond (Nat.ble 1000 k) (some (some ((Ty.eqb_eq h ▸ l : List t.T), n))) none) none) none else none
    | _ => none
  | some [x] => match decXV (.sl t) x with
    | some [] => some none
    | _ => none
  | _ => none

def finishN (P : Program) (fn : Func) (t : Ty) : Exit → XSt → Option (Option (List t.T × Nat))
  | .ret, s => finN P fn t s
  | .normal, s => finN P fn t s
  | _, _ => none

def runBN (P : Program) (Γ : List (Ent P)) (own : List Nat) (N : Nat) (fn : Func) (an : An) (t : Ty) (xs : List XV) : Option (Option (List t.T × Nat)) :=
  match fn.body with
  | some c => cond (Nat.ble fn.ntmps GB) (exec P Γ own [] fn.ntmps N c an ⟨envX 0 xs, [], [], [], []⟩ (finishN P fn t)) none
  | none => none

/-- what is said of the result -/
def NewS (P : Program) (f : FuncId) (t : Ty) (y : Option (List t.T × Nat)) (xs : List XV) : Prop :=
  match y with
  | none => Does P f (asOf xs) X0 (.d (.sl t.size [])) X0
  | some z => Does P f (asOf xs) X0 (.osl 1 0 z.2 t.size) (O1 t z.1)

/-- a body that ends well -/
theorem does_of_fin {P : Program} {R : Type} {f : FuncId} {fn : Func} {c : Code} {nm : List Nat} {hsm : ∀ j ∈ nm, j < 1000} {xs : List XV} {objs : List (Nat × XOb)} {s0 : XSt} {K : Exit → XSt → Option R} {r : R} {res : AV} {X' : Store}
    (hf : P.funcs[f]? = some fn) (hc : fn.body = some c) (hn : xs.length ≤ fn.ntmps) (hG : fn.ntmps ≤ GB) (hnm : (imObjs objs).map (·.1) = nm) (hs : AWp P ⟨fn.ntmps, nm, hsm⟩ c (PostE s0 K r) (XSt.im ⟨envX 0 xs, objs, [], [], []⟩))
    (hend : ∀ e st', K e st' = some r → e = .ret ∨ e = .normal)
    (fin : ∀ B e st' a' w' g', K e st' = some r → SR ⟨fn.ntmps, nm, hsm⟩ B g' w' st'.im a' → ∃ v g'', (results fn a'.tmps).run P w' = .ok v w' ∧ RA g'' w' res v ∧ HR nm B g'' w' X') :
    Does P f (asOf xs) ⟨imObjs objs, []⟩ res X' := by
  subst hnm
  intro g w vs hr hl ha
  refine calls_of_wp hf hc (wp_mono (hs (Base.of g w ⟨imObjs objs, []⟩) g w _ ?_) ?_)
  · refine ⟨rfl, ?_, hr, ?_⟩
    · rw [asOf_length] at hl
      simp; omega
    · intro t x hx
      have hx' : (envOf 0 (asOf xs)).lookup t = some x := by rw [← envX_im]; exact hx
      obtain ⟨_, hx'⟩ := envOf_lookup hx'
      rw [Nat.sub_zero] at hx'
      have hlt : t < vs.size := by have := (List.getElem?_eq_some_iff.1 hx').1; omega
      refine ⟨vs[t], ?_, ha t x _ hx' (by simp [hlt])⟩
      rw [asOf_length] at hl
      rw [slotV_tmp (by omega)]
      simp [Array.getElem?_append, hlt]
  · rintro e a' w' ⟨s, g', ⟨st', rfl, hi, hk⟩, hs'⟩
    obtain ⟨v, g'', h1, h2, h3⟩ := fin _ e st' a' w' g' hk hs'
    have key : a'.defers = [] ∧ ∃ v, (results fn a'.tmps).run P w' = .ok v w' ∧ ∃ g' v_1, Ending.returned v = Ending.returned v_1 ∧ RA g' w' res v_1 ∧ HR ((imObjs objs).map (·.1)) (Base.of g w ⟨imObjs objs, []⟩) g' w' X' :=
      ⟨hs'.defers, v, h1, g'', v, rfl, h2, h3⟩
    rcases hend e st' hk with rfl | rfl
    · exact key
    · exact key

theorem runBN_sound {P : Program} {Γ : List (Ent P)} {own : List Nat} {N : Nat} {f : FuncId} {fn : Func} {an : An} {t : Ty} {xs : List XV} {y : Option (List t.T × Nat)} (hm : P.follows .mixedOrders = true) (hf : P.funcs[f]? = some fn)
    (hn : Nat.ble xs.length fn.ntmps = true) (h : runBN P Γ own N fn an t xs = some y) : NewS P f t y xs := by
  unfold runBN at h
  split at h
  · rename_i c hc
    obtain ⟨hG, h⟩ := condG h
    have hs := exec_sound (S := ⟨fn.ntmps, [], by simp⟩) hm rfl c an _ _ _ _ (.refl _) h
    have hend : ∀ e st', finishN P fn t e st' = some y → e = .ret ∨ e = .normal := by
      intro e st' hk
      cases e <;> simp_all [finishN]
    have hkey : ∀ e st', finishN P fn t e st' = some y → finN P fn t st' = some y := by
      intro e st' hk
      cases e <;> simp_all [finishN]
    cases y with
    | none =>
      refine does_of_fin (objs := []) (hsm := by simp [imObjs]) hf hc (Nat.le_of_ble_eq_true hn) hG rfl hs hend fun B e st' a' w' g' hk hs' => ?_
      have h := hkey e st' hk
      unfold finN at h
      split at h
      · split at h
        · split at h
          · rename_i k t' a n _ _ _ _ _ _
            cases h2 : t'.eqb t <;> cases h3 : Nat.beq a 0 <;> cases h4 : Nat.ble 1000 k <;> simp [h2, h3, h4] at h
          · cases h
        · cases h
      · rename_i x _ hx
        split at h
        · rename_i hd
          obtain ⟨v, hv, hra⟩ := run_results (xres_ok hx) hs'
          have hw : Weak [] st'.im ⟨[], X0⟩ := ⟨by simp, by simp [X0], by simp [X0], by simp⟩
          obtain ⟨g'', ht, hs''⟩ := hs'.weaken' hw
          have hra' := hra.mono ht (.nil _)
          exact ⟨v, g'', hv, decXV_le hd g'' w' v hra', hs''.hr⟩
        · cases h
      · cases h
    | some z =>
      refine does_of_fin (objs := []) (hsm := by simp [imObjs]) hf hc (Nat.le_of_ble_eq_true hn) hG rfl hs hend fun B e st' a' w' g' hk hs' => ?_
      have h := hkey e st' hk
      unfold finN at h
      split at h
      · rename_i k t' a n hx
        split at h
        · rename_i u l hkl
          split at h
          · rename_i hu
            have := Ty.eqb_eq hu
            subst this
            cases h2 : t'.eqb u with
            | false => simp [h2] at h
            | true =>
            cases h3 : Nat.beq a 0 with
            | false => simp [h2, h3] at h
            | true =>
            cases h4 : Nat.ble 1000 k with
            | false => simp [h2, h3, h4] at h
            | true =>
              simp only [h2, h3, h4, cond_true, Option.some.injEq] at h
              subst h
              have e1 := Ty.eqb_eq h2
              have e2 := Nat.eq_of_beq_eq_true h3
              have e3 := Nat.le_of_ble_eq_true h4
              subst e1; subst e2
              obtain ⟨v, hv, hra⟩ := run_results (xres_ok hx) hs'
              have hw : Weak [] st'.im ⟨[], ⟨[(k, (XOb.arr t' l).o)], []⟩⟩ := ⟨by simp, by
                intro p hp
                simp only [List.mem_singleton] at hp
                subst hp
                exact lk_imA hkl, by simp, by simp⟩
              obtain ⟨g'', ht, hs''⟩ := hs'.weaken' hw
              have hra' := hra.mono ht (.nil _)
              obtain ⟨hr2, ht2⟩ := hs''.hr.renameObj (k := k) (m := 1) (o := (XOb.arr t' l).o) (by simp [imObjs]) (by simp [imObjs]) (by
                have := arr_free [1] t' l
                simp [objsFree, this]) (by simp) (by omega)
              refine ⟨v, _, hv, ?_, hr2.alike ⟨fun j => ?_, rfl⟩⟩
              · refine RA.osl_name (g := g'') (k := k) ?_ (show upd g''.ρ 1 (g''.ρ k) 1 = g''.ρ k from upd_same _ _ _)
                simp only [asOf, tupled, XV.a, Nat.zero_mul] at hra'
                exact hra'
              · simp only [O1, List.lookup_cons, Ab.dropObj]
                by_cases hj : j = 1
                · subst hj; simp
                · simp [hj]
          · cases h
        · cases h
      · split at h <;> cases h
      · cases h
  · cases h

theorem runN_sound {P : Program} {Γ : List (Ent P)} {own : List Nat} {N : Nat} {f : FuncId} {fn : Func} {an : An} {t : Ty} {ks : List AK} (hm : P.follows .mixedOrders = true) (hf : P.funcs[f]? = some fn)
    (hn : Nat.ble ks.length fn.ntmps = true) : SndA (NewS P f t) ks (bindA ks (fun xs => runBN P Γ own N fn an t xs) []) [] := by
  have h1 := Nat.le_of_ble_eq_true hn
  have hB : ∀ acc : List XV, acc.length ≤ fn.ntmps → ∀ y, runBN P Γ own N fn an t acc = some y → NewS P f t y acc :=
    fun acc hl y hy => runBN_sound hm hf (Nat.ble_eq_true_of_le hl) hy
  exact bindA_snd (Q := NewS P f t) fn.ntmps hB ks [] (by simpa using h1)

def runN (P : Program) (Γ : List (Ent P)) (own : List Nat) (N : Nat) (fn : Func) (an : An) (t : Ty) (ks : List AK) : FunA ks (Option (Option (List t.T × Nat))) :=
  bindA ks (fun xs => runBN P Γ own N fn an t xs) []

def nRun {P : Program} {R : Type} (t : Ty) (ks : List AK) (F : FunA ks (Option (Option (List t.T × Nat)))) (o : Oper) (st : XSt) (vs : List XV) (K : Out → Option R) : Option R :=
  match newName o with
  | some m => appA ks F (callArgs o) vs [] fun Fv rd => Option.bind Fv fun y => optCase y (K (quietO st (.d (.sl t [])) rd)) fun z =>
      cond (objsFreeB [m] st) (K ⟨.all, .os m t 0 z.2, rd, (m, .arr t z.1) :: dropX m st.objs, st.live, [m], [m]⟩) none
  | none => none

theorem OpT.drop {P : Program} {o : Oper} {rd : List (Operand × AV)} {X X' : Store} {F : List Nat} {res : AV} {m : Nat} (h : OpT P o rd (Ab.dropObj m X) X' F res) (hm : 1000 ≤ m) : OpT P o rd X X' F res := by
  intro nm hsm B g w a hr hrd
  exact h nm hsm B g w a (hr.dropObj fun hh => by have := hsm m hh; omega) hrd

theorem OpT.alikeR {P : Program} {o : Oper} {rd : List (Operand × AV)} {X X' Y : Store} {F : List Nat} {res : AV} (h : OpT P o rd X X' F res) (e : Ab.Alike X' Y) : OpT P o rd X Y F res := by
  intro nm hsm B g w a hr hrd next Q hn
  exact h nm hsm B g w a hr hrd next Q fun g' w' v h1 h2 h3 => hn g' w' v (h1.alike e) h2 h3

theorem nRun_ok {P : Program} {R : Type} {f : FuncId} {t : Ty} {ks : List AK} {F : FunA ks (Option (Option (List t.T × Nat)))} (hc : CallI P f) (hs : SndA (NewS P f t) ks F []) {o : Oper} {st : XSt} {aops : Array Operand} {ts : Array TypeId} {vs : List XV} {K : Out → Option R} {r : R}
    (ho : o.op = .call { callee := .value (.func f), args := aops, argTypes := ts }) (hv : xevals st aops.toList = some vs) (h : nRun (P := P) t ks F o st vs K = some r) : ∃ out, K out = some r ∧ OpOk P o st out := by
  have e : callArgs o = aops.toList := by simp [callArgs, ho]
  unfold nRun at h
  rw [e] at h
  split at h
  · rename_i m hm
    obtain ⟨Fv, xs, h1, h2, h3, h4, h5⟩ := appA_ok (st := st) ks F aops.toList vs [] [] [] hs hv rfl rfl (by simp [imRd]) rfl h
    obtain ⟨y, hy, hK⟩ := Option.bind_eq_some_iff.1 h5
    simp only [List.nil_append] at h1 h4 hK
    have hd := h2 y hy
    cases y with
    | none =>
      simp only [optCase] at hK
      refine ⟨_, hK, quietO_ok h4 fun X => ?_⟩
      have hda : areData (asOf xs) = true := by
        clear h1 h2 h4 h5 hd hK hy
        induction xs with
        | nil => rfl
        | cons x r ih =>
          simp only [argsX] at h3
          cases hx : argX x with
          | false => simp [hx] at h3
          | true =>
            simp only [hx, cond_true] at h3
            have : isData x.a = true := by
              unfold argX at hx
              split at hx <;> first | rfl | cases hx
            simp only [asOf, areData, this, ih h3, Bool.and_self]
      have := op_call (X := X) (xs := asOf xs) ho hc hd (by rw [asOf_length, h1]; simp) hda rfl
      rw [imRd_zip]
      exact this
    | some z =>
      simp only [optCase] at hK
      cases h6 : objsFreeB [m] st with
      | false => simp [h6] at hK
      | true =>
        simp only [h6, cond_true] at hK
        have hm1 := newName_ge hm
        refine ⟨_, hK, ⟨h4, ?_, fun j x hj hx => ?_⟩⟩
        · refine OpT.drop (m := m) ?_ hm1
          have hoc : ObjCall (Ab.dropObj m st.X) X0 (O1 t z.1) (nf [(1, m)]) [m] := by
            refine ⟨⟨rfl, rfl⟩, by simp [X0], by simp [X0], by simp [O1, arr_names], by simp [O1], by simp [X0], ?_, by simp [X0], ?_⟩
            · intro p hp
              simp only [O1, List.mem_singleton] at hp
              subst hp
              exact .inr ⟨by simp [nf], by simp [nf, Ab.dropObj, lookup_filter]⟩
            · have h6 := objsFreeB_ok h6
              unfold objsFree at h6 ⊢
              simp only [List.isEmpty_cons, Bool.false_or] at h6 ⊢
              rw [List.all_eq_true] at h6 ⊢
              intro p hp
              simp only [Ab.dropObj, List.mem_filter] at hp
              exact h6 p hp.1
          have hcall := op_call_obj (X := Ab.dropObj m st.X) [(1, m)] [m] ho hc hd hoc (by rw [asOf_length, h1]; simp) (argsX_names h3) rfl
          rw [argsX_map h3, ← imRd_zip] at hcall
          have e7 : putObjs (nf [(1, m)]) (O1 t z.1).objs (Ab.dropObj m st.X).objs = Ab.setObj m (XOb.arr t z.1).o (Ab.dropObj m st.X).objs := by
            simp only [O1, putObjs, mapOb_arr]; rfl
          rw [e7] at hcall
          have e8 : mapAV (nf [(1, m)]) (.osl 1 0 z.2 t.size) = (XV.os m t 0 z.2).a := by
            simp only [XV.a, Nat.zero_mul]; rfl
          rw [e8] at hcall
          refine OpT.alikeR hcall ⟨fun j => ?_, rfl⟩
          show (Ab.setObj m (XOb.arr t z.1).o (Ab.dropObj m st.X).objs).lookup j = ((m, (XOb.arr t z.1).o) :: imObjs (dropX m st.objs)).lookup j
          rw [lookup_setObj, List.lookup_cons, dropX_im]
          by_cases hj : j = m
          · subst hj; simp
          · have : (j == m) = false := by simpa using hj
            rw [if_neg hj, this]; rfl
        · simp only [List.mem_cons, List.not_mem_nil, or_false] at hj
          rw [lk_cons_ne hj] at hx
          exact lk_dropX hx
  · cases h

/-- the entry -/
def mkN {P : Program} {Γ : List (Ent P)} {own : List Nat} {N : Nat} (id : FuncId) (fn : Func) (an : An) (t : Ty) (ks : List AK) (F : FunA ks (Option (Option (List t.T × Nat)))) (hm : P.follows .mixedOrders = true) (hf : P.funcs[id]? = some fn)
    (hc : CallI P id) (hn : Nat.ble ks.length fn.ntmps = true) (hE : runN P Γ own N fn an t ks = F) : Ent P where
  id := id
  run := nRun (P := P) t ks F
  ok := by
    intro R o st aops ts vs K r ho hv h
    exact nRun_ok hc (hE ▸ runN_sound hm hf hn) ho hv h

/-- the entry of a function whose contract is known -/
def mkNS {P : Program} (id : FuncId) (t : Ty) (ks : List AK) (F : FunA ks (Option (Option (List t.T × Nat)))) (hc : CallI P id) (hs : SndA (NewS P id t) ks F []) : Ent P where
  id := id
  run := nRun (P := P) t ks F
  ok := by
    intro R o st aops ts vs K r ho hv h
    exact nRun_ok hc hs ho hv h

end Go.Xl
/-
  From a contract to what a row asks: the ghost that protects all that is there, and the readings of arguments.
-/
set_option linter.unusedVariables false
set_option linter.unusedSimpArgs false
namespace Go.Ab
open Go.RowKit

/-- all that is there is protected -/
def fullγ (w : World) (b : Nat) : Nat :=
  match w.heap[b]? with
  | some (.cells c _ _) => c.size
  | _ => 0

def full (w : World) : Gh := { γ := fullγ w, β := fun _ => none, ρ := fun _ => 0 }

theorem full_hr (w : World) : HR [] (Base.of (full w) w X0) (full w) w X0 := by
  refine ⟨by simp, ?_, Nat.le_refl _, ⟨rfl, rfl, rfl, Nat.le_refl _⟩, .refl _ _, fun _ _ _ => ⟨rfl, rfl⟩, by simp [X0], by simp [X0], by simp [X0], by simp [X0], by simp [X0, full], by simp [full], by simp [full], by simp [full], by simp [full]⟩
  intro b i hi
  simp only [full, fullγ] at hi
  split at hi
  · rename_i c T fr h
    rw [cell?_cells h]
    simp [hi]
  · omega

theorem Does.below {P : Program} {f : FuncId} {args : List AV} {res : AV} (h : Does P f args X0 res X0) {w : World} {vs : Array Value} (hl : args.length = vs.size)
    (ha : ∀ (i : Nat) x v, args[i]? = some x → vs[i]? = some v → RA (full w) w x v) :
    Calls P f vs w fun e w' => ∃ v g', e = .returned v ∧ RA g' w' res v ∧ Below w.heap.size w w' := by
  refine (h (full w) w vs (full_hr w) hl ha).mono ?_
  rintro e w' ⟨g', v, rfl, hr, h1⟩
  refine ⟨v, g', rfl, hr, ⟨h1.io.1, h1.io.2.2.1, h1.io.2.1, h1.base, fun b hb => (h1.frame b hb ?_).1⟩⟩
  rintro (⟨k, o, hk, _⟩ | ⟨n, hn⟩)
  · simp [X0] at hk
  · simp [full] at hn

/-- a law -/
theorem Does.law {P : Program} {f : FuncId} {args : List AV} (h : Does P f args X0 (.d (.sc (.bool true))) X0) {w : World} {vs : Array Value} (hl : args.length = vs.size)
    (ha : ∀ (i : Nat) x v, args[i]? = some x → vs[i]? = some v → RA (full w) w x v) :
    Calls P f vs w fun e w' => e = .returned (.bool true) ∧ Below w.heap.size w w' := by
  refine (h.below hl ha).mono ?_
  rintro e w' ⟨v, g', rfl, hr, hb⟩
  exact ⟨by rw [hr.sc_inv], hb⟩

inductive RAs (g : Gh) (w : World) : List AV → List Value → Prop
  | nil : RAs g w [] []
  | cons {x : AV} {v : Value} {r : List AV} {rs : List Value} : RA g w x v → RAs g w r rs → RAs g w (x :: r) (v :: rs)

theorem RAs.get {g : Gh} {w : World} {l : List AV} {vs : List Value} (h : RAs g w l vs) : l.length = vs.length ∧ ∀ (i : Nat) x v, l[i]? = some x → vs[i]? = some v → RA g w x v := by
  induction h with
  | nil => exact ⟨rfl, by simp⟩
  | cons h _ ih =>
    refine ⟨by simp [ih.1], ?_⟩
    intro i x u hx hu
    cases i with
    | zero => simp at hx hu; subst hx; subst hu; exact h
    | succ i => exact ih.2 i x u (by simpa using hx) (by simpa using hu)

theorem Does.lawAs {P : Program} {f : FuncId} {args : List AV} (h : Does P f args X0 (.d (.sc (.bool true))) X0) {w : World} {vs : Array Value} (ha : RAs (full w) w args vs.toList) :
    Calls P f vs w fun e w' => e = .returned (.bool true) ∧ Below w.heap.size w w' :=
  h.law (by have := ha.get.1; simpa using this) fun i x v hx hv => ha.get.2 i x v hx (by simpa using hv)

theorem fullγ_cell {w : World} {b i : Nat} {v : Value} (h : w.cell? ⟨b, i, none⟩ = some v) : i < fullγ w b := by
  unfold World.cell? at h
  unfold fullγ
  simp only at h
  split at h
  · rename_i c T fr hh
    rw [hh]
    simp at h
    exact (Array.getElem?_eq_some_iff.1 h).1
  · cases h

/-- a slice of integers that came in -/
theorem ra_ints {k : IntKind} {w : World} {a : Option Addr} {len cap : Nat} {zs : List Int}
    (h : (a = none ∧ len = 0 ∧ cap = 0 ∧ zs = []) ∨ ∃ x : Addr, a = some x ∧ len ≤ cap ∧ cap ≤ maxLen ∧ zs.length = cap ∧ (∀ i, i < zs.length → w.cell? (x.add i) = some (.int k (zs.getD i 0))) ∧ ∀ n ∈ zs, (Lit.int k n).wf = true) :
    RA (full w) w (.d (.sl 1 ((zs.take len).map fun n => [.int k n]))) (.slice a len cap) := by
  rcases h with ⟨rfl, rfl, rfl, rfl⟩ | ⟨x, rfl, hl, _, hz, hc, _⟩
  · exact .d _ _ (.nil 1 none 0 fun _ => rfl)
  · rcases Nat.eq_zero_or_pos len with h0 | h0
    · subst h0
      exact .d _ _ (.nil 1 (some x) cap (by simp))
    · obtain ⟨b, off, sp⟩ := x
      have hc0 := hc 0 (by omega)
      have hsp : sp = none := by
        simp only [Addr.add, if_true] at hc0
        unfold World.cell? at hc0
        simp only at hc0
        split at hc0
        · cases sp with
          | none => rfl
          | some s => simp at hc0
        · cases hc0
      subst hsp
      have hlen : ((zs.take len).map fun n => [D.int k n]).length = len := by simp; omega
      refine .d _ _ (.ofCells' hlen.symm ?_ hl ?_ ?_)
      · have := hc (len - 1) (by omega)
        rw [addr_add] at this
        have := fullγ_cell this
        show off + len * 1 ≤ fullγ w b
        omega
      · intro i cs hi
        rw [List.getElem?_map, Option.map_eq_some_iff] at hi
        obtain ⟨n, _, rfl⟩ := hi
        rfl
      · intro i j cs c u hi hj hu
        rw [List.getElem?_map, Option.map_eq_some_iff] at hi
        obtain ⟨n, hn, rfl⟩ := hi
        cases j with
        | zero =>
          simp at hj; subst hj
          rw [List.getElem?_take] at hn
          split at hn
          · have hlt : i < zs.length := (List.getElem?_eq_some_iff.1 hn).1
            have h1 := hc i hlt
            rw [addr_add] at h1
            rw [Nat.mul_one, Nat.add_zero, h1] at hu
            have hg : zs.getD i 0 = n := by rw [List.getD_eq_getElem?_getD, hn]; rfl
            rw [hg] at hu
            simp only [Option.some.injEq] at hu
            subst hu
            exact .sc _
          · cases hn
        | succ j => simp at hj

/-- what a slice of integers that came in is -/
def IntRow (k : IntKind) (w : World) (a : Option Addr) (len cap : Nat) (zs : List Int) : Prop :=
  (a = none ∧ len = 0 ∧ cap = 0 ∧ zs = []) ∨ ∃ x : Addr, a = some x ∧ len ≤ cap ∧ cap ≤ maxLen ∧ zs.length = cap ∧ (∀ i, i < zs.length → w.cell? (x.add i) = some (.int k (zs.getD i 0))) ∧ ∀ n ∈ zs, (Lit.int k n).wf = true

theorem row_len {k : IntKind} {w : World} {a : Option Addr} {len cap : Nat} {zs : List Int} (h : IntRow k w a len cap zs) : (zs.take len).length ≤ 9223372036854775807 := by
  rcases h with ⟨_, rfl, _, rfl⟩ | ⟨x, _, hl, hm, _⟩
  · simp
  · have := List.length_take_le len zs
    unfold maxLen at hm
    omega

theorem open_ints_row {H : Type} {enc : TypeId × Value → H} {P : Program} {W : World} {t e : TypeId} {k : IntKind} {d : DataW H} {ps : List MemPlace} {a : Option Addr} {len cap : Nat} (ht : P.underlying t = some (.slice e)) (he : P.underlying e = some (.int k))
    (hc : P.cellsOf e = 1) (h : DataW.Trod enc P W 0 (fun _ => true) true t (.slice a len cap) d ps) : ∃ zs, IntRow k W a len cap zs := by
  obtain ⟨fuel, hf⟩ := h
  rcases ChangeShapes.open_ints ht he hc hf with ⟨hcs, _⟩ | ⟨x, l, c, zs, hcs, _, hl, hm, hz, _, hcell, hwz⟩
  · simp [Value.cells] at hcs
    obtain ⟨rfl, rfl, rfl⟩ := hcs
    exact ⟨[], .inl ⟨rfl, rfl, rfl, rfl⟩⟩
  · simp [Value.cells] at hcs
    obtain ⟨rfl, rfl, rfl⟩ := hcs
    exact ⟨zs, .inr ⟨_, rfl, hl, hm, by simpa using hz, hcell, hwz⟩⟩

end Go.Ab
/-
  A library function that sorts a row in place, called at a slice that owns its block.
-/
set_option linter.unusedVariables false
set_option linter.unusedSimpArgs false
namespace Go.Ab
open Go.Sort Go.Proofs
section
variable {P : Program} {o : Oper} {X : Store}

theorem flatV_length {α : Type} {sz : Nat} {enc : α → List Value} (hk : ∀ x, (enc x).length = sz) (l : List α) : (l.map enc).flatten.length = l.length * sz := by
  induction l with
  | nil => simp
  | cons x r ih => simp only [List.map_cons, List.flatten_cons, List.length_append, ih, hk, List.length_cons, Nat.succ_mul]; omega

theorem flatV_get {α : Type} {sz : Nat} {enc : α → List Value} (hk : ∀ x, (enc x).length = sz) : ∀ (l : List α) (j : Nat), (l.map enc).flatten[j]? = (l[j / sz]?).bind fun x => (enc x)[j % sz]?
  | [], j => by simp
  | x :: r, j => by
    have h0 := hk x
    simp only [List.map_cons, List.flatten_cons, List.getElem?_append]
    by_cases hj : j < (enc x).length
    · rw [if_pos hj, Nat.div_eq_of_lt (by omega), Nat.mod_eq_of_lt (by omega)]
      simp
    · rw [if_neg hj, flatV_get hk r, h0]
      by_cases hz : sz = 0
      · subst hz
        simp
        have : ∀ y, enc y = [] := fun y => List.eq_nil_of_length_eq_zero (hk y)
        cases r <;> simp [this]
      · have hle : sz ≤ j := by omega
        rw [← Nat.sub_add_cancel hle]
        simp only [Nat.add_sub_cancel, Nat.add_mod_right, Nat.add_div_right _ (by omega : 0 < sz)]
        simp

theorem flatK_get {α : Type} [Inhabited α] {sz : Nat} {enc : α → List Value} (hk : ∀ x, (enc x).length = sz) (l : List α) (j : Nat) (hj : j < l.length * sz) : (l.map enc).flatten[j]? = some (flatK enc sz l.toArray)[j]! := by
  have hs : 0 < sz := by
    rcases Nat.eq_zero_or_pos sz with h | h
    · rw [h] at hj; omega
    · exact h
  have h1 : j / sz < l.length := by rw [Nat.div_lt_iff_lt_mul hs]; exact hj
  have h2 : j % sz < sz := Nat.mod_lt _ hs
  rw [flatV_get hk, get_flatK enc sz _ _ (by simpa using hj)]
  have e1 : l[j / sz]? = some l[j / sz] := List.getElem?_eq_getElem h1
  have e2 : l.toArray[j / sz]! = l[j / sz] := by
    rw [getElem!_pos _ _ (by simpa using h1)]; simp
  rw [e1, e2]
  simp only [Option.bind_some]
  have h3 : j % sz < (enc l[j / sz]).length := by rw [hk]; exact h2
  rw [List.getElem!_eq_getElem?_getD, List.getElem?_eq_getElem h3]
  rfl

/-- cells of scalars: the very values -/
theorem sc_eq {g : Gh} {w : World} {v u : Value} (h : RA g w (.d (.sc v)) u) : u = v := by
  cases h with
  | d _ _ h => cases h; rfl

theorem op_sortK {α : Type} [Inhabited α] {f c : FuncId} {s x : Operand} {ts : Array TypeId} {k len sz : Nat} {enc : α → List Value} (hk : ∀ x, (enc x).length = sz) {l : List α} {ty : Option TypeId} (φ : List α → List α)
    (ho : o.op = .call { callee := .value (.func f), args := #[s, x], argTypes := ts }) (hf : CallI P f) (hlk : X.objs.lookup k = some (.cells ((l.map enc).flatten.map fun v => .d (.sc v)) ty)) (hlen : len ≤ l.length) (hφ : ∀ d, (φ d).length = d.length)
    (hN : ∀ p cap w, Calls P f #[.slice p 0 cap, .func (.func c) #[] #[]] w fun e w' => e = .returned (.tuple #[]) ∧ w' = w)
    (hC : ∀ blk cap w, HoldsK enc sz w blk 0 (l.take len).toArray → blk < w.heap.size → Calls P f #[.slice (some ⟨blk, 0, none⟩) len cap, .func (.func c) #[] #[]] w fun e w' => e = .returned (.tuple #[]) ∧ ∃ n os, w' = sortWorldK enc sz w blk 0 n (φ (l.take len)).toArray os) :
    OpT P o [(s, .osl k 0 len sz), (x, .clo c [])] X ⟨setObj k (.cells (((φ (l.take len) ++ l.drop len).map enc).flatten.map fun v => .d (.sc v)) ty) X.objs, X.live⟩ [] (.tup []) := by
  intro nm hsm B g w a hr hrd next Q hnext
  have e1 := rd0 hrd
  have e2 := hrd (x, .clo c []) (by simp)
  simp only at e1 e2
  obtain ⟨cap, q, hcap, hv, hq, T, c', hsh, hc⟩ := e1.osl_inv
  generalize hfv : a.eval x = fv at e2
  cases e2 with
  | clo _ _ vs hl0 _ =>
  have hvs : vs = #[] := by
    apply Array.eq_empty_of_size_eq_zero; rw [← hl0]; rfl
  subst hvs
  unfold Oper.wp
  have hrun : (execOp a.eval o).run P w = .ok (.enter f #[.slice (some ⟨g.ρ k, q, none⟩) len cap, .func (.func c) #[] #[]]) w := by
    have h1 : (execOp a.eval o).run P w = .ok (.enter f (#[s, x].map a.eval)) w := by
      simp only [execOp, ho, resolve]
      simp [Act.eval, Deferred.ofValue, invoke, run_callFunc hf]
    rw [h1]
    have h2 : #[s, x].map a.eval = #[.slice (some ⟨g.ρ k, q, none⟩) len cap, .func (.func c) #[] #[]] := by
      have h3 : #[s, x].map a.eval = #[a.eval s, a.eval x] := by simp only [List.map_toArray, List.map_cons, List.map_nil]
      rw [h3, hv, hfv]
    rw [h2]
  rw [hrun]
  cases hr.objs k _ hlk with
  | cells _ _ arr T' hb hl hcc hty =>
  have hval : ∀ (j : Nat) (v : Value), (l.map enc).flatten[j]? = some v → arr[j]? = some v := by
    intro j v hj
    have hlt : j < arr.size := by
      have := (List.getElem?_eq_some_iff.1 hj).1
      rw [List.length_map] at hl; omega
    have hr' := hcc j (.d (.sc v)) arr[j] (by rw [List.getElem?_map, hj]; rfl) (by simp [hlt])
    rw [← sc_eq hr']; simp [hlt]
  have hsz : (l.map enc).flatten.length = l.length * sz := flatV_length hk l
  have hszarr : l.length * sz ≤ arr.size := by rw [← hsz]; rw [List.length_map] at hl; exact hl
  by_cases hlen0 : len = 0
  · subst hlen0
    refine (hN _ _ _).mono ?_
    rintro e w' ⟨rfl, rfl⟩
    have he : φ (l.take 0) ++ l.drop 0 = l := by
      have : φ (l.take 0) = [] := List.eq_nil_of_length_eq_zero (by rw [hφ]; simp)
      rw [this]; simp
    rw [he] at hnext
    obtain ⟨hw1, hw2⟩ := hr.write hlk (w' := w') (o' := .cells ((l.map enc).flatten.map fun v => .d (.sc v)) ty) rfl ⟨rfl, rfl, rfl, Nat.le_refl _⟩ (fun _ _ => rfl) (fun _ => .cells _ _ arr T' hb hl hcc hty) (fun s h => h)
    exact hnext g w' _ hw1 hw2 (.tup _ _ rfl (by simp))
  · have hq0 : q = 0 := hq.resolve_left (by omega)
    subst hq0
    have hblk : g.ρ k < w.heap.size := obRel_lt (hr.objs k _ hlk)
    have hd : (l.take len).length = len := by simp; omega
    have hH : HoldsK enc sz w (g.ρ k) 0 (l.take len).toArray := by
      intro j hj
      have hj' : j < len * sz := by rw [size_flatK] at hj; simpa [Nat.min_eq_left hlen] using hj
      have hfl : ((l.take len).map enc).flatten[j]? = (l.map enc).flatten[j]? := by
        have : (l.map enc).flatten = ((l.take len).map enc).flatten ++ ((l.drop len).map enc).flatten := by
          rw [← List.flatten_append, ← List.map_append, List.take_append_drop]
        rw [this, List.getElem?_append_left (by rw [flatV_length hk, hd]; exact hj')]
      have := flatK_get hk (l.take len) j (by rw [hd]; exact hj')
      rw [hfl] at this
      have h3 := hval j _ this
      constructor
      · rw [cell?_cells hb, Nat.zero_add, h3]; rfl
      · simp [World.frozen?, hb]
    refine (hC _ cap w hH hblk).mono ?_
    rintro e w' ⟨rfl, n, os, rfl⟩
    generalize hd' : (φ (l.take len)).toArray = d'
    have hd's : d'.size = len := by rw [← hd']; simp [hφ, hd]
    have hnewlen : (φ (l.take len) ++ l.drop len).length = l.length := by simp [hφ]; omega
    let arr' := putCells id 0 (flatK enc sz d') arr
    have hb' : (putRowK enc sz (Sort.ahead w n) (g.ρ k) 0 d').heap[g.ρ k]? = some (.cells arr' T' (0, 0)) := by
      simp only [putRowK, putRow, mapBlock, Array.getElem?_modify, heap_ahead, hb]
      simp [onCells, arr']
    have harr' : arr'.size = arr.size := by simp [arr', putCells]
    have hget : ∀ j (hj : j < arr.size), arr'[j]? = some (if j < len * sz then (flatK enc sz d')[j]! else arr[j]) := by
      intro j hj
      simp only [arr', putCells, Array.getElem?_mapIdx, Array.getElem?_eq_getElem hj, Option.map_some, size_flatK, hd's, Nat.zero_le, true_and, Nat.zero_add, Nat.sub_zero, id]
    have hwr : HR nm B g (putRowK enc sz (Sort.ahead w n) (g.ρ k) 0 d') ⟨setObj k (.cells (((φ (l.take len) ++ l.drop len).map enc).flatten.map fun v => .d (.sc v)) ty) X.objs, X.live⟩ ∧ Trans [] g w g (putRowK enc sz (Sort.ahead w n) (g.ρ k) 0 d') := by
      refine hr.write hlk (by simp [putRowK]) ⟨rfl, rfl, rfl, by simp [putRowK]⟩ (fun b hbne => ?_) (fun _ => ?_) (fun s hs => ?_)
      · simp only [putRowK, putRow, mapBlock, Array.getElem?_modify, heap_ahead]
        rw [if_neg (Ne.symm hbne)]
      · refine .cells _ _ arr' T' hb' (by rw [harr']; simp only [List.length_map]; rw [flatV_length hk, hnewlen]; exact hszarr) ?_ hty
        intro j y v hy hv'
        rw [List.getElem?_map, Option.map_eq_some_iff] at hy
        obtain ⟨u, hu, rfl⟩ := hy
        have hjlt : j < l.length * sz := by
          have := (List.getElem?_eq_some_iff.1 hu).1
          rw [flatV_length hk, hnewlen] at this; exact this
        have hja : j < arr.size := by omega
        rw [hget j hja] at hv'
        simp only [Option.some.injEq] at hv'
        rw [List.map_append, List.flatten_append] at hu
        have hl1 : ((φ (l.take len)).map enc).flatten.length = len * sz := by rw [flatV_length hk, hφ, hd]
        rw [List.getElem?_append, hl1] at hu
        by_cases hj : j < len * sz
        · rw [if_pos hj] at hu hv'
          rw [flatK_get hk _ _ (by rw [hφ, hd]; exact hj), hd'] at hu
          simp only [Option.some.injEq] at hu
          rw [← hv', hu]
          exact .d _ _ (.sc _)
        · rw [if_neg hj] at hu hv'
          have h4 : (l.map enc).flatten[j]? = some u := by
            have : (l.map enc).flatten = ((l.take len).map enc).flatten ++ ((l.drop len).map enc).flatten := by
              rw [← List.flatten_append, ← List.map_append, List.take_append_drop]
            rw [this, List.getElem?_append_right (by rw [flatV_length hk, hd]; omega), flatV_length hk, hd]
            exact hu
          have h5 := hval j u h4
          rw [Array.getElem?_eq_getElem hja] at h5
          simp only [Option.some.injEq] at h5
          rw [← hv', h5]
          exact .d _ _ (.sc _)
      · simp only [World.shape?, hb] at hs
        simp only [World.shape?, hb', harr']
        exact hs
    obtain ⟨h6, h7⟩ := hwr
    have hgrow : HR nm B g (sortWorldK enc sz w (g.ρ k) 0 n d' os) _ ∧ Trans [] g (putRowK enc sz (Sort.ahead w n) (g.ρ k) 0 d') g (sortWorldK enc sz w (g.ρ k) 0 n d' os) :=
      h6.grow (by simp [sortWorldK]) (fun b hbl => heap_grow_old _ _ hbl) ⟨rfl, rfl, rfl, Nat.le_refl _⟩
    exact hnext g _ _ hgrow.1 (h7.trans hgrow.2) (.tup _ _ rfl (by simp))

/-- .. at no element -/
theorem op_sort_nil {f c : FuncId} {s x : Operand} {ts : Array TypeId} {sz : Nat} (ho : o.op = .call { callee := .value (.func f), args := #[s, x], argTypes := ts }) (hf : CallI P f)
    (hN : ∀ p cap w, Calls P f #[.slice p 0 cap, .func (.func c) #[] #[]] w fun e w' => e = .returned (.tuple #[]) ∧ w' = w) :
    OpT P o [(s, .d (.sl sz [])), (x, .clo c [])] X X [] (.tup []) := by
  intro nm hsm B g w a hr hrd next Q hnext
  have e1 := rd0 hrd
  have e2 := hrd (x, .clo c []) (by simp)
  simp only at e1 e2
  have hv : ∃ p cap, a.eval s = .slice p 0 cap := by
    generalize a.eval s = v at e1
    cases e1 with
    | d _ _ h =>
      cases h with
      | nil => exact ⟨_, _, rfl⟩
      | sl _ _ b off len cap hl => subst hl; exact ⟨_, _, rfl⟩
  obtain ⟨p, cap, hv⟩ := hv
  generalize hfv : a.eval x = fv at e2
  cases e2 with
  | clo _ _ vs hl0 _ =>
  have hvs : vs = #[] := by
    apply Array.eq_empty_of_size_eq_zero; rw [← hl0]; rfl
  subst hvs
  unfold Oper.wp
  have hrun : (execOp a.eval o).run P w = .ok (.enter f #[.slice p 0 cap, .func (.func c) #[] #[]]) w := by
    have h1 : (execOp a.eval o).run P w = .ok (.enter f (#[s, x].map a.eval)) w := by
      simp only [execOp, ho, resolve]
      simp [Act.eval, Deferred.ofValue, invoke, run_callFunc hf]
    rw [h1]
    have h2 : #[s, x].map a.eval = #[.slice p 0 cap, .func (.func c) #[] #[]] := by
      have h3 : #[s, x].map a.eval = #[a.eval s, a.eval x] := by simp only [List.map_toArray, List.map_cons, List.map_nil]
      rw [h3, hv, hfv]
    rw [h2]
  rw [hrun]
  refine (hN _ _ _).mono ?_
  rintro e w' ⟨rfl, rfl⟩
  exact hnext g w' _ hr (.refl _ _ _) (.tup _ _ rfl (by simp))

/-- a call of data at any world: the world has grown, no more -/
theorem Does.grown {f : FuncId} {args : List AV} {rv : Value} (h : Does P f args X0 (.d (.sc rv)) X0) {w : World} {vs : Array Value} (hl : args.length = vs.size)
    (ha : ∀ (i : Nat) x v, args[i]? = some x → vs[i]? = some v → RA (full w) w x v) :
    Calls P f vs w fun e w' => e = .returned rv ∧ ∃ q os', w' = Sort.grow (w.drewN q) os' := by
  refine (h (full w) w vs (full_hr w) hl ha).mono ?_
  rintro e w' ⟨g', v, rfl, hr, h1⟩
  rw [sc_eq hr]
  refine ⟨rfl, w'.drawn - w.drawn, w'.heap.extract w.heap.size w'.heap.size, ?_⟩
  have hna : ∀ b, ¬ (Base.of (full w) w X0).allowed b := by
    rintro b (⟨k, o, hk, _⟩ | ⟨n, hn⟩)
    · simp [X0] at hk
    · simp [full] at hn
  have hb : w.heap.size ≤ w'.heap.size := h1.base
  have hheap : w'.heap = w.heap ++ w'.heap.extract w.heap.size w'.heap.size := by
    apply Array.ext_getElem?
    intro b
    rw [Array.getElem?_append]
    split
    · rename_i hlt
      exact (h1.frame b hlt (hna b)).1
    · rename_i hge
      simp only [Array.getElem?_extract]
      split
      · congr 1; omega
      · rw [Array.getElem?_eq_none]; omega
  have hio := h1.io
  have hd : w.drawn + (w'.drawn - w.drawn) = w'.drawn := Nat.add_sub_cancel' hio.2.2.2
  obtain ⟨hp, tp, dr, os, ou⟩ := w'
  obtain ⟨hp0, tp0, dr0, os0, ou0⟩ := w
  simp only at hheap hd ⊢
  obtain ⟨i1, i2, i3, _⟩ := hio
  change os = os0 at i1
  change ou = ou0 at i2
  change tp = tp0 at i3
  subst i1 i2 i3
  unfold Sort.grow World.drewN
  simp only [hd]
  rw [← hheap]

end
end Go.Ab
/-
  Functions that put a row in order, in place: as entries.
-/
set_option linter.unusedVariables false
set_option linter.unusedSimpArgs false
set_option linter.unnecessarySimpa false
namespace Go.Xl
open Go.Ab Go.Sort Go.Proofs

def Ty.dflt : (t : Ty) → t.T
  | .int _ => (0 : Int)
  | .u8 => (0 : UInt8)
  | .bool => false
  | .str => ([] : List UInt8)
  | .sl _ => []
  | .unit => ()
  | .pair a b => (a.dflt, b.dflt)
  | .st1 a => a.dflt
  | .tab _ => []
  | .err => false
  | .ic _ _ => none
  | .ptr => ()

def scOf : D → Value
  | .sc v => v
  | _ => undef

/-- cells of plain values -/
def plainDs : List D → Bool
  | [] => true
  | .sc _ :: r => plainDs r
  | _ :: _ => false

theorem plainDs_eq : ∀ {l : List D}, plainDs l = true → (l.map scOf).map .sc = l
  | [], _ => rfl
  | .sc v :: r, h => by simp only [List.map_cons, scOf]; rw [plainDs_eq (l := r) h]
  | .agg _ :: r, h => by simp [plainDs] at h
  | .sl _ _ :: r, h => by simp [plainDs] at h
  | .ep _ :: r, h => by simp [plainDs] at h
  | .any _ :: r, h => by simp [plainDs] at h

def Ty.vals (t : Ty) (x : t.T) : List Value := (t.ds x).map scOf

structure Ty.Plain (t : Ty) : Prop where
  ok : ∀ x : t.T, plainDs (t.ds x) = true

theorem Ty.Plain.vals {t : Ty} (h : t.Plain) (x : t.T) : (t.vals x).map D.sc = t.ds x := plainDs_eq (h.ok x)
theorem Ty.vals_length (t : Ty) (x : t.T) : (t.vals x).length = t.size := by simp [Ty.vals, Ty.ds_length]

theorem Ty.Plain.flat {t : Ty} (h : t.Plain) (l : List t.T) : ((l.map t.vals).flatten.map fun v => AV.d (.sc v)) = ((l.map t.ds).flatten.map .d) := by
  induction l with
  | nil => rfl
  | cons x r ih =>
    simp only [List.map_cons, List.flatten_cons, List.map_append, ih]
    rw [← h.vals x, List.map_map]; rfl

/-- a contract: f puts a row in order by c -/
structure Sorts (P : Program) (f c : FuncId) (T : Ty) (φ : List T.T → List T.T) : Prop where
  plain : T.Plain
  ci : CallI P f
  len : ∀ d, (φ d).length = d.length
  none : ∀ p cap w, Calls P f #[.slice p 0 cap, .func (.func c) #[] #[]] w fun e w' => e = .returned (.tuple #[]) ∧ w' = w
  some : ∀ [Inhabited T.T] (l : List T.T) blk cap w, l.length ≤ 4611686018427387903 → HoldsK T.vals T.size w blk 0 l.toArray → blk < w.heap.size →
    Calls P f #[.slice (some ⟨blk, 0, .none⟩) l.length cap, .func (.func c) #[] #[]] w fun e w' => e = .returned (.tuple #[]) ∧ ∃ n os, w' = sortWorldK T.vals T.size w blk 0 n (φ l).toArray os


def sortRun {P : Program} {R : Type} (c : FuncId) (T : Ty) (φ : List T.T → List T.T) (o : Oper) (st : XSt) (vs : List XV) (K : Out → Option R) : Option R :=
  match callArgs o, vs with
  | [s, x], [v, .clo c' []] => cond (Nat.beq c' c) (match v with
    | .os k t a len => match lk k st.objs with
      | some (.arr u l) => if h : u.eqb T = true then cond (t.eqb T) (cond (Nat.beq a 0) (cond (Nat.ble len l.length) (cond (Nat.ble len 4611686018427387903)
          (K ⟨.put k (.arr T (φ ((Ty.eqb_eq h ▸ l : List T.T).take len) ++ (Ty.eqb_eq h ▸ l : List T.T).drop len)), .tup [], [(s, .os k T 0 len), (x, .clo c [])],
            xset k (.arr T (φ ((Ty.eqb_eq h ▸ l : List T.T).take len) ++ (Ty.eqb_eq h ▸ l : List T.T).drop len)) st.objs, st.live, [], [k]⟩) none) none) none) none else none
      | _ => none
    | v => match decXV (.sl T) v with
      | some [] => K (quietO st (.tup []) [(s, .d (.sl T [])), (x, .clo c [])])
      | _ => none) none
  | _, _ => none

theorem sortRun_ok {P : Program} {R : Type} {f c : FuncId} {T : Ty} {φ : List T.T → List T.T} (hS : Sorts P f c T φ) {o : Oper} {st : XSt} {aops : Array Operand} {ts : Array TypeId} {vs : List XV} {K : Out → Option R} {r : R}
    (ho : o.op = .call { callee := .value (.func f), args := aops, argTypes := ts }) (hv : xevals st aops.toList = some vs) (h : sortRun (P := P) c T φ o st vs K = some r) : ∃ out, K out = some r ∧ OpOk P o st out := by
  have e : callArgs o = aops.toList := by simp [callArgs, ho]
  unfold sortRun at h
  rw [e] at h
  split at h
  · rename_i s x v c' hl
    have ho' : o.op = .call { callee := .value (.func f), args := #[s, x], argTypes := ts } := by rw [ho, ← hl]
    rw [hl] at hv
    obtain ⟨hs, hv⟩ := xevals_cons hv
    obtain ⟨hx, _⟩ := xevals_cons hv
    cases h1 : Nat.beq c' c with
    | false => simp [h1] at h
    | true =>
    have e1 := Nat.eq_of_beq_eq_true h1
    subst e1
    simp only [h1, cond_true] at h
    have sx : Sees st.im x (.clo c' []) := xeval_sees hx
    split at h
    · rename_i k t a len
      split at h
      · rename_i u l hk
        split at h
        · rename_i hu
          have e2 := Ty.eqb_eq hu
          subst e2
          cases h2 : t.eqb u with
          | false => simp [h2] at h
          | true =>
          cases h3 : Nat.beq a 0 with
          | false => simp [h2, h3] at h
          | true =>
          cases h4 : Nat.ble len l.length with
          | false => simp [h2, h3, h4] at h
          | true =>
          cases h5 : Nat.ble len 4611686018427387903 with
          | false => simp only [h2, h3, h4, h5, cond_true, cond_false] at h; cases h
          | true =>
            simp only [h2, h3, h4, h5, cond_true] at h
            have e3 := Ty.eqb_eq h2
            have e4 := Nat.eq_of_beq_eq_true h3
            have e5 := Nat.le_of_ble_eq_true h4
            have e6 := Nat.le_of_ble_eq_true h5
            subst e3; subst e4
            refine ⟨_, h, ⟨?_, ⟨rfl, rfl, rfl, fun X hX => ?_⟩, ?_⟩⟩
            · intro p hp
              simp only [imRd, List.map_cons, List.map_nil, List.mem_cons, List.not_mem_nil, or_false] at hp
              rcases hp with rfl | rfl
              · exact xeval_sees hs
              · exact sx
            · have hlk : X.objs.lookup k = some (.cells ((l.map t.vals).flatten.map fun v => .d (.sc v)) none) := by
                rw [hX, show st.X.objs.lookup k = _ from lk_imA hk, hS.plain.flat]; rfl
              have key : ∀ [Inhabited t.T], OpT P o (imRd [(s, .os k t 0 len), (x, .clo c' [])]) X ⟨Ab.setObj k (XOb.arr t (φ (l.take len) ++ l.drop len)).o X.objs, X.live⟩ [] (XV.tup []).a := by
                intro _
                have := op_sortK (X := X) (enc := t.vals) (sz := t.size) t.vals_length φ ho' hS.ci hlk e5 hS.len hS.none (fun blk cap w hH hb => by
                  have hd : (l.take len).length = len := by simp; omega
                  have := hS.some (l.take len) blk cap w (by omega) hH hb
                  rw [hd] at this
                  exact this)
                rw [hS.plain.flat] at this
                simp only [imRd, List.map_cons, List.map_nil, XV.a, Nat.zero_mul, asOf]
                exact this
              exact @key ⟨t.dflt⟩
            · intro j y hj hy
              simp only [List.mem_singleton] at hj
              rw [lk_xset _ _ _ _ hj] at hy; exact hy
        · cases h
      · cases h
    · rename_i v hne
      split at h
      · rename_i hd
        refine ⟨_, h, quietO_ok ?_ fun X => ?_⟩
        · intro p hp
          simp only [imRd, List.map_cons, List.map_nil, List.mem_cons, List.not_mem_nil, or_false] at hp
          rcases hp with rfl | rfl
          · exact decXV_sees hs hd
          · exact sx
        · exact op_sort_nil ho' hS.ci hS.none
      · cases h
  · cases h

/-- the entry -/
def mkSort {P : Program} {f c : FuncId} {T : Ty} {φ : List T.T → List T.T} (hS : Sorts P f c T φ) : Ent P where
  id := f
  run := sortRun (P := P) c T φ
  ok := by
    intro R o st aops ts vs K r ho hv h
    exact sortRun_ok hS ho hv h

end Go.Xl
/-
  slices.Clone: a new slice.
-/
set_option linter.unusedVariables false
set_option linter.unusedSimpArgs false
namespace Go.Xl
open Go.Ab


def cloneF (t : Ty) (bytes : Nat) (l : List t.T) : Option (Option (List t.T × Nat)) :=
  listCase l (some none) fun y r => cond (fitsB (y :: r).length bytes) (some (some (y :: r, (y :: r).length))) none

theorem NewS.empty {P : Program} {f : FuncId} {t : Ty} {xs : List XV} (h : NewS P f t (some ([], 0)) xs) : NewS P f t none xs := by
  intro g w vs hr hl ha
  refine (h g w vs hr hl ha).mono ?_
  rintro e w' ⟨g', v, rfl, h1, h2⟩
  refine ⟨g', v, rfl, ?_, ?_⟩
  · obtain ⟨cap, o, _, hv, _⟩ := RA.osl_inv h1
    rw [hv]
    exact .d _ _ (.nil _ _ _ (by simp))
  · refine (h2.dropObj (k := 1) (by simp [X0])).alike ⟨fun j => ?_, rfl⟩
    simp only [O1, Ab.dropObj, X0]
    by_cases hj : j = 1
    · subst hj; rfl
    · rfl

theorem clone_sound {P : Program} {own : List Nat} {N : Nat} {f : FuncId} {fn : Func} {an : An} {t : Ty} {bytes : Nat} (hm : P.follows .mixedOrders = true) (hf : P.funcs[f]? = some fn) (hn : Nat.ble 1 fn.ntmps = true)
    (h1 : ∀ y r, runBN P [] own N fn an t [.d (.sl t (y :: r))] = cond (fitsB (0 + (y :: r).length) bytes) (some (some ([] ++ y :: r, 0 + (y :: r).length))) none)
    (h2 : runBN P [] own N fn an t [.d (.v (.slice none 0 0))] = some none) (h3 : ∀ a cap, runBN P [] own N fn an t [.d (.v (.slice (some a) 0 cap))] = some (some ([], 0))) :
    SndA (NewS P f t) [.d (.sl t)] (cloneF t bytes) [] := by
  intro l y hy
  cases l with
  | cons x r =>
    simp only [cloneF, listCase] at hy
    have h1' := h1 x r
    rw [Nat.zero_add, List.nil_append] at h1'
    rw [← h1'] at hy
    exact runBN_sound hm hf hn hy
  | nil =>
    simp only [cloneF, listCase, Option.some.injEq] at hy
    subst hy
    have k2 := runBN_sound (xs := [.d (.v (.slice none 0 0))]) hm hf hn h2
    have k3 := fun a cap => (runBN_sound (xs := [.d (.v (.slice (some a) 0 cap))]) hm hf hn (h3 a cap)).empty
    intro g w vs hr hl ha
    have hsz : vs.size = 1 := by rw [← hl]; rfl
    have e0 := ha 0 _ vs[0] rfl (by simp [hsz])
    generalize hv : vs[0] = v at e0
    have hp : ∃ p cap, v = .slice p 0 cap ∧ (p = none → cap = 0) := by
      cases e0 with
      | d _ _ h =>
        cases h with
        | nil _ p cap h0 => exact ⟨_, _, rfl, h0⟩
        | sl _ _ b off len cap hl => subst hl; exact ⟨_, _, rfl, by simp⟩
    obtain ⟨p, cap, rfl, h0⟩ := hp
    have args : ∀ x : XV, RA g w x.a (.slice p 0 cap) → ∀ (i : Nat) z u, (asOf [x])[i]? = some z → vs[i]? = some u → RA g w z u := by
      intro x hx i z u hz hu
      cases i with
      | zero =>
        simp only [asOf, List.getElem?_cons_zero, Option.some.injEq] at hz
        subst hz
        have : u = vs[0] := by
          rw [Array.getElem?_eq_getElem (by omega)] at hu
          exact (Option.some.inj hu).symm
        rw [this, hv]; exact hx
      | succ i => simp [asOf] at hz
    cases p with
    | none =>
      have := h0 rfl
      subst this
      exact k2 g w vs hr (by simpa [asOf] using hl) (args _ (.d _ _ (.sc _)))
    | some a => exact k3 a cap g w vs hr (by simpa [asOf] using hl) (args _ (.d _ _ (.sc _)))

/-- a new slice as data -/
theorem NewS.frozen {P : Program} {f : FuncId} {t : Ty} {xs : List XV} {z : List t.T × Nat} (h : NewS P f t (some z) xs) (hz : z.2 ≤ z.1.length) : Does P f (asOf xs) X0 (.d (.sl t.size ((z.1.take z.2).map t.ds))) X0 := by
  intro g w vs hr hl ha
  refine (h g w vs hr hl ha).mono ?_
  rintro e w' ⟨g', v, rfl, h1, h2⟩
  obtain ⟨f1, f2, f3⟩ := HR.freeze (k := 1) (sz := t.size) (es := z.1.map t.ds) (ty := none) h2 (by simp [X0]) rfl (by
    intro i cs hc
    rw [List.getElem?_map, Option.map_eq_some_iff] at hc
    obtain ⟨y, _, rfl⟩ := hc
    exact t.ds_length y)
  refine ⟨_, v, rfl, ?_, f1.alike ⟨fun j => ?_, rfl⟩⟩
  · have := f3 0 z.2 v (by simpa using hz) (by simpa using h1)
    rw [List.drop_zero, ← List.map_take] at this
    exact this
  · simp only [O1, Ab.dropObj, X0]
    by_cases hj : j = 1
    · subst hj; rfl
    · rfl

def cloneD (t : Ty) (bytes : Nat) (l : List t.T) : Option (List t.T) :=
  listCase l (some []) fun y r => cond (fitsB (y :: r).length bytes) (some (y :: r)) none

theorem cloneD_sound {P : Program} {f : FuncId} {t : Ty} {bytes : Nat} (h : SndA (NewS P f t) [.d (.sl t)] (cloneF t bytes) []) : SoundF P f [.sl t] [.sl t] (cloneD t bytes) [] := by
  intro l y hy
  cases l with
  | nil =>
    simp only [cloneD, listCase, Option.some.injEq] at hy
    subst hy
    exact h [] none rfl
  | cons x r =>
    simp only [cloneD, listCase] at hy
    cases hb : fitsB (x :: r).length bytes with
    | false => simp only [hb, cond_false] at hy; cases hy
    | true =>
      simp only [hb, cond_true, Option.some.injEq] at hy
      subst hy
      have := h (x :: r) (some (x :: r, (x :: r).length)) (by simp only [cloneF, listCase, hb, cond_true])
      have := this.frozen (Nat.le_refl _)
      rw [List.take_length] at this
      exact this

end Go.Xl
/-
  Calls with objects and functions that captured variables: names mapped, states weakened.
-/
set_option linter.unusedVariables false
set_option linter.unusedSimpArgs false
set_option linter.unnecessarySimpa false
namespace Go.Xl
open Go.Ab

mutual
/-- names and labels mapped -/
def XV.mp (f fl : Nat → Nat) : XV → XV
  | .d x => .d x
  | .nm k p => .nm (f k) p
  | .tip n t l ty => .tip (fl n) t l ty
  | .tup l => .tup (mpL f fl l)
  | .agg l => .agg (mpL f fl l)
  | .clo g l => .clo g (mpL f fl l)
  | .os k t a len => .os (f k) t a len
  | .el k t i fo => .el (f k) t i fo
  | .tpt n e x l => .tpt (fl n) e x l
def mpL (f fl : Nat → Nat) : List XV → List XV
  | [] => []
  | x :: r => x.mp f fl :: mpL f fl r
end

mutual
theorem XV.mp_a (f fl : Nat → Nat) : ∀ x : XV, (x.mp f fl).a = mapL f fl x.a
  | .d x => rfl
  | .nm k p => rfl
  | .tip n t l ty => rfl
  | .tup l => by simp only [XV.mp, XV.a, mapL, mpL_a f fl l]
  | .agg l => by simp only [XV.mp, XV.a, mapL, mpL_a f fl l]
  | .clo g l => by simp only [XV.mp, XV.a, mapL, mpL_a f fl l]
  | .os k t a len => rfl
  | .el k t i fo => rfl
  | .tpt n e x l => rfl
theorem mpL_a (f fl : Nat → Nat) : ∀ l : List XV, asOf (mpL f fl l) = mapLs f fl (asOf l)
  | [] => rfl
  | x :: r => by simp only [mpL, asOf, mapLs, XV.mp_a f fl x, mpL_a f fl r]
end

theorem mpL_map (f fl : Nat → Nat) (l : List XV) : mpL f fl l = l.map (XV.mp f fl) := by
  induction l with
  | nil => rfl
  | cons x r ih => simp [mpL, ih]

mutual
/-- no names, no labels but these -/
def XV.nms (ks ls : List Nat) : XV → Bool
  | .d _ => true
  | .nm k _ => inl k ks
  | .tip n _ _ _ => inl n ls
  | .tup l => nmsL ks ls l
  | .agg l => nmsL ks ls l
  | .clo _ l => nmsL ks ls l
  | .os k _ _ _ => inl k ks
  | .el k _ _ _ => inl k ks
  | .tpt n _ _ _ => inl n ls
def nmsL (ks ls : List Nat) : List XV → Bool
  | [] => true
  | x :: r => cond (x.nms ks ls) (nmsL ks ls r) false
end

theorem inl_con {k : Nat} {l : List Nat} (h : inl k l = true) : l.contains k = true := List.contains_iff_mem.2 ((inl_eq k l).1 h)

mutual
theorem XV.nms_a {ks ls : List Nat} : ∀ {x : XV}, x.nms ks ls = true → namesL ks ls x.a = true
  | .d x, h => rfl
  | .nm k p, h => inl_con h
  | .tip n t l ty, h => inl_con h
  | .tup l, h => by simp only [XV.nms] at h; simp only [XV.a, namesL]; exact nmsL_a h
  | .agg l, h => by simp only [XV.nms] at h; simp only [XV.a, namesL]; exact nmsL_a h
  | .clo g l, h => by simp only [XV.nms] at h; simp only [XV.a, namesL]; exact nmsL_a h
  | .os k t a len, h => inl_con h
  | .el k t i fo, h => inl_con h
  | .tpt n e x l, h => inl_con h
theorem nmsL_a {ks ls : List Nat} : ∀ {l : List XV}, nmsL ks ls l = true → namesLs ks ls (asOf l) = true
  | [], h => rfl
  | x :: r, h => by
    simp only [nmsL] at h
    cases hx : x.nms ks ls with
    | false => simp [hx] at h
    | true =>
      simp only [hx, cond_true] at h
      simp only [asOf, namesLs, XV.nms_a hx, nmsL_a h, Bool.and_self]
end

def XOb.mp (f fl : Nat → Nat) : XOb → XOb
  | .cells cs ty => .cells (mpL f fl cs) ty
  | .arr t l => .arr t l
  | .sit s p => .sit s p
  | .map kt vt es c => .map kt vt es c
  | .mit m a b c => .mit (f m) a b c
  | .mitn => .mitn
  | .bts e l => .bts e l

theorem mapLs_map_d (f fl : Nat → Nat) : ∀ l : List D, mapLs f fl (l.map .d) = l.map .d
  | [] => rfl
  | x :: r => by simp only [List.map_cons, mapLs, mapL, mapLs_map_d f fl r]

theorem XOb.mp_o (f fl : Nat → Nat) (o : XOb) : (o.mp f fl).o = mapObL f fl o.o := by
  cases o with
  | cells cs ty => simp only [XOb.mp, XOb.o, mapObL, mpL_a]
  | arr t l => simp only [XOb.mp, XOb.o, mapObL, mapLs_map_d]
  | bts e l => simp only [XOb.mp, XOb.o, mapObL, mapLs_map_d]
  | _ => rfl

def XOb.nms (ks ls : List Nat) : XOb → Bool
  | .cells cs _ => nmsL ks ls cs
  | .mit m _ _ _ => inl m ks
  | _ => true

theorem namesLs_map_d (ks ls : List Nat) : ∀ l : List D, namesLs ks ls (l.map .d) = true
  | [] => rfl
  | x :: r => by simp only [List.map_cons, namesLs, namesL, namesLs_map_d ks ls r, Bool.and_self]

theorem XOb.nms_o {ks ls : List Nat} {o : XOb} (h : o.nms ks ls = true) : namesObL ks ls o.o = true := by
  cases o with
  | cells cs ty => simp only [XOb.nms] at h; simp only [XOb.o, namesObL]; exact nmsL_a h
  | arr t l => simp only [XOb.o, namesObL]; exact namesLs_map_d _ _ _
  | bts e l => simp only [XOb.o, namesObL]; exact namesLs_map_d _ _ _
  | mit m a b c => exact inl_con h
  | _ => rfl

def objsNms (ks ls : List Nat) : List (Nat × XOb) → Bool
  | [] => true
  | p :: r => cond (p.2.nms ks ls) (objsNms ks ls r) false

theorem objsNms_im {ks ls : List Nat} : ∀ {l : List (Nat × XOb)}, objsNms ks ls l = true → ((imObjs l).all fun p => namesObL ks ls p.2) = true
  | [], _ => rfl
  | p :: r, h => by
    simp only [objsNms] at h
    cases hx : p.2.nms ks ls with
    | false => simp [hx] at h
    | true =>
      simp only [hx, cond_true] at h
      have := objsNms_im h
      simp only [imObjs, List.map_cons, List.all_cons, XOb.nms_o hx, Bool.true_and] at this ⊢
      exact this

/-- objects put in their places, under mapped names -/
def putXs (f fl : Nat → Nat) : List (Nat × XOb) → List (Nat × XOb) → List (Nat × XOb)
  | [], acc => acc
  | p :: r, acc => putXs f fl r (xset (f p.1) (p.2.mp f fl) acc)

theorem putXs_im (f fl : Nat → Nat) : ∀ (l acc : List (Nat × XOb)), imObjs (putXs f fl l acc) = putObjsL f fl (imObjs l) (imObjs acc)
  | [], acc => rfl
  | p :: r, acc => by
    have := putXs_im f fl r (xset (f p.1) (p.2.mp f fl) acc)
    rw [im_xset, XOb.mp_o] at this
    exact this

theorem putXs_other (f fl : Nat → Nat) : ∀ (l acc : List (Nat × XOb)) (j : Nat), (∀ p ∈ l, f p.1 ≠ j) → lk j (putXs f fl l acc) = lk j acc
  | [], acc, j, h => rfl
  | p :: r, acc, j, h => by
    simp only [putXs]
    rw [putXs_other f fl r _ j (fun q hq => h q (List.mem_cons_of_mem _ hq)), lk_xset _ _ _ _ (fun e => h p (List.mem_cons_self ..) e.symm)]

/-- an object that may stand for another one -/
inductive ObLe : Ob → Ob → Prop
  | refl (o : Ob) : ObLe o o
  | cells {cs cs' : List AV} {ty ty' : Option TypeId} : cs.length = cs'.length → (∀ (i : Nat) x y, cs[i]? = some x → cs'[i]? = some y → ALe x y) → (ty' = ty ∨ ty' = none) → ObLe (.cells cs ty) (.cells cs' ty')

theorem obRel_weak {g : Gh} {w : World} {b : Nat} {o o' : Ob} (h : ObRel g w b o) (hle : ObLe o o') : ObRel g w b o' := by
  cases hle with
  | refl => exact h
  | cells hl hc ht =>
    cases h with
    | cells _ _ arr T h1 h2 h3 h4 =>
      refine .cells _ _ arr T h1 (hl ▸ h2) ?_ ?_
      · intro i y v hy hv
        have hlt := (List.getElem?_eq_some_iff.1 hy).1
        obtain ⟨x, hx⟩ : ∃ x, _ = some x := ⟨_, List.getElem?_eq_getElem (l := _) (i := i) (by rw [hl]; exact hlt)⟩
        exact hc i x y hx hy g w v (h3 i x v hx hv)
      · intro t hh
        rcases ht with e | e
        · exact h4 t (e ▸ hh)
        · rw [e] at hh; cases hh

theorem hr_weak {nm : List Nat} {B : Base} {g : Gh} {w : World} {X Y : Store} (h : HR nm B g w X) (hle : ∀ k o', Y.objs.lookup k = some o' → ∃ o, X.objs.lookup k = some o ∧ ObLe o o')
    (hk : ∀ k, (X.objs.lookup k).isSome → (Y.objs.lookup k).isSome) (hl : Y.live = X.live) : HR nm B g w Y where
  keep k hm := ⟨(h.keep k hm).1, hk k (h.keep k hm).2⟩
  sane := h.sane
  base := h.base
  io := h.io
  le := h.le
  frame := h.frame
  objs k o' ho := by obtain ⟨o, h1, h2⟩ := hle k o' ho; exact obRel_weak (h.objs k o h1) h2
  objγ k o' ho := by obtain ⟨o, h1, h2⟩ := hle k o' ho; exact h.objγ k o h1
  objinj k k' o o' ho ho' := by
    obtain ⟨_, h1, _⟩ := hle k o ho
    obtain ⟨_, h2, _⟩ := hle k' o' ho'
    exact h.objinj k k' _ _ h1 h2
  objnew k o' ho := by obtain ⟨o, h1, h2⟩ := hle k o' ho; exact h.objnew k o h1
  live n := by rw [hl]; exact h.live n
  tipinj := h.tipinj
  tipobj n b k o' hn ho := by obtain ⟨o, h1, h2⟩ := hle k o' ho; exact h.tipobj n b k o hn h1
  tipnew := h.tipnew
  tiplt := h.tiplt

theorem opT_weak {P : Program} {o : Oper} {rd : List (Operand × AV)} {X Y X' : Store} {F : List Nat} {res : AV} (h : OpT P o rd Y X' F res) (hle : ∀ k o', Y.objs.lookup k = some o' → ∃ o, X.objs.lookup k = some o ∧ ObLe o o')
    (hk : ∀ k, (X.objs.lookup k).isSome → (Y.objs.lookup k).isSome) (hl : Y.live = X.live) : OpT P o rd X X' F res :=
  fun nm hsm B g w a hr => h nm hsm B g w a (hr_weak hr hle hk hl)

/-- A call by way of a function value that captured variables. -/
theorem op_call_clo_lab {P : Program} {X : Store} {o : Oper} {fn : FuncId} {c : Operand} {args : Array Operand} {ts : Array TypeId} {xs caps : List AV} {res : AV} {Xc Xc' : Store} (f fl : Nat → Nat) (F : List Nat)
    (ho : o.op = .call { callee := .value c, args := args, argTypes := ts }) (hf : CallI P fn) (hs : Does P fn (xs ++ caps) Xc res Xc') (hc : LabCall X Xc Xc' f fl F)
    (hl : xs.length = args.size) (hd : namesLs (Xc.objs.map (·.1)) Xc.live (xs ++ caps) = true) (hdr : namesL (Xc'.objs.map (·.1)) Xc'.live res = true) :
    OpT P o ((c, .clo fn (mapLs f fl caps)) :: args.toList.zip (mapLs f fl xs)) X ⟨putObjsL f fl Xc'.objs X.objs, liveAfter fl X Xc Xc'⟩ F (mapL f fl res) := by
  intro nm hsm B g w a hr hrd next Q hn
  have e1 := rd0 hrd
  simp only at e1
  unfold Oper.wp
  generalize hcv : a.eval c = vc at e1
  cases e1 with
  | clo _ _ vs hlen hvs =>
    have : (execOp a.eval o).run P w = .ok (.enter fn (args.map a.eval ++ vs)) w := by
      simp only [execOp, ho, resolve]
      simp [hcv, Deferred.ofValue, invoke, run_callFunc hf]
    rw [this]
    have hm : ∀ l m : List AV, mapLs f fl (l ++ m) = mapLs f fl l ++ mapLs f fl m := fun l m => by rw [mapLs_eq, mapLs_eq, mapLs_eq, List.map_append]
    have hml : (mapLs f fl xs).length = args.size := by rw [mapLs_eq, List.length_map, hl]
    have hmc : caps.length = vs.size := by rw [mapLs_eq, List.length_map] at hlen; exact hlen
    refine (hs.useLab hc hd hdr hr (vs := args.map a.eval ++ vs) (by simp [hl, hmc]) ?_).mono ?_
    · intro i x v hx hv
      rw [hm, List.getElem?_append] at hx
      split at hx
      · rename_i hlt
        rw [Array.getElem?_append_left (by simp; omega)] at hv
        exact rds_args (fun p hp => hrd p (List.mem_cons_of_mem _ hp)) i x v hx hv
      · rename_i hge
        rw [Array.getElem?_append_right (by simp; omega)] at hv
        refine hvs _ x v hx ?_
        rw [hml]; simpa using hv
    · rintro e w' ⟨v, g', rfl, h1, h2, h3⟩
      exact hn g' w' v h1 h2 h3

/-- A call by a function's name. -/
theorem op_call_f_lab {P : Program} {X : Store} {o : Oper} {fn : FuncId} {args : Array Operand} {ts : Array TypeId} {xs : List AV} {res : AV} {Xc Xc' : Store} (f fl : Nat → Nat) (F : List Nat)
    (ho : o.op = .call { callee := .value (.func fn), args := args, argTypes := ts }) (hf : CallI P fn) (hs : Does P fn xs Xc res Xc') (hc : LabCall X Xc Xc' f fl F)
    (hl : xs.length = args.size) (hd : namesLs (Xc.objs.map (·.1)) Xc.live xs = true) (hdr : namesL (Xc'.objs.map (·.1)) Xc'.live res = true) :
    OpT P o (args.toList.zip (mapLs f fl xs)) X ⟨putObjsL f fl Xc'.objs X.objs, liveAfter fl X Xc Xc'⟩ F (mapL f fl res) := by
  intro nm hsm B g w a hr hrd next Q hn
  unfold Oper.wp
  have : (execOp a.eval o).run P w = .ok (.enter fn (args.map a.eval)) w := by
    simp only [execOp, ho, resolve]
    simp [Act.eval, Deferred.ofValue, invoke, run_callFunc hf]
  rw [this]
  refine (hs.useLab hc hd hdr hr (by simpa using hl) (rds_args hrd)).mono ?_
  rintro e w' ⟨v, g', rfl, h1, h2, h3⟩
  exact hn g' w' v h1 h2 h3

end Go.Xl
/-
  Functions that are given objects, and functions with what they captured: what they come to, as functions in Lean.
-/
set_option linter.unusedVariables false
set_option linter.unusedSimpArgs false
set_option linter.unnecessarySimpa false
namespace Go.Xl
open Go.Ab

/-- an argument: data, a pointer to an object, a slice that owns its block, a function and the variables that it captured -/
inductive AS where
  | d (t : Ty)
  | p (k off : Nat)
  | os (k : Nat) (t : Ty)
  | clo (f : Nat) (ps : List (Nat × Nat))

structure CSp where
  args : List AS
  objs : List (Nat × List VK × Option TypeId)
  arrs : List (Nat × OK)
  out : Cut

def CSp.names (S : CSp) : List Nat := namesOf S.objs ++ arrNames S.arrs
def CSp.labs (S : CSp) : List Nat := labsOfObjs S.objs
def CSp.s0 (S : CSp) (xs : List XV) (objs : List (Nat × XOb)) : XSt := ⟨envX 0 xs, objs, S.labs, [], []⟩

@[reducible] def CurA : List AS → Type → Type
  | [], R => R
  | .d t :: r, R => t.T → CurA r R
  | .p _ _ :: r, R => CurA r R
  | .os _ _ :: r, R => Nat → CurA r R
  | .clo _ _ :: r, R => CurA r R
@[reducible] def CurC : List VK → Type → Type
  | [], R => R
  | .d t :: r, R => t.T → CurC r R
  | .p _ _ :: r, R => CurC r R
  | .z _ _ :: r, R => Bool → CurC r R
  | .tip _ t _ :: r, R => List t.T → CurC r R
@[reducible] def CurO : List (Nat × List VK × Option TypeId) → Type → Type
  | [], R => R
  | p :: r, R => CurC p.2.1 (CurO r R)
@[reducible] def CurR : List (Nat × OK) → Type → Type
  | [], R => R
  | p :: r, R => p.2.T → CurR r R
@[reducible] def CSp.Fun (S : CSp) (R : Type) : Type := CurA S.args (CurO S.objs (CurR S.arrs R))

def psX (ps : List (Nat × Nat)) : List XV := ps.map fun p => .nm p.1 (.p p.2)

def lamA {α : Type} : (l : List AS) → (List XV → α) → List XV → CurA l α
  | [], f, acc => f acc
  | .d t :: r, f, acc => fun y => lamA r f (acc ++ [.d (t.xv y)])
  | .p k off :: r, f, acc => lamA r f (acc ++ [.nm k (.p off)])
  | .os k t :: r, f, acc => fun n => lamA r f (acc ++ [.os k t 0 n])
  | .clo g ps :: r, f, acc => lamA r f (acc ++ [.clo g (psX ps)])
def lamC {α : Type} : (l : List VK) → (List XV → α) → List XV → CurC l α
  | [], f, acc => f acc
  | .d t :: r, f, acc => fun y => lamC r f (acc ++ (t.enc y).map .d)
  | .p k off :: r, f, acc => lamC r f (acc ++ [.nm k (.p off)])
  | .z k off :: r, f, acc => fun b => lamC r f (acc ++ [.nm k (.z b off)])
  | .tip n t ty :: r, f, acc => fun l => lamC r f (acc ++ [.tip n t l ty])
def lamO {α : Type} : (l : List (Nat × List VK × Option TypeId)) → (List (Nat × XOb) → α) → List (Nat × XOb) → CurO l α
  | [], f, acc => f acc
  | p :: r, f, acc => lamC p.2.1 (fun cs => lamO r f (acc ++ [(p.1, .cells cs p.2.2)])) []
def lamR {α : Type} : (l : List (Nat × OK)) → (List (Nat × XOb) → α) → List (Nat × XOb) → CurR l α
  | [], f, acc => f acc
  | p :: r, f, acc => fun l => lamR r f (acc ++ [(p.1, p.2.ob l)])

def GndA {β : Type} (Q : β → List XV → Prop) : (l : List AS) → CurA l β → List XV → Prop
  | [], F, acc => Q F acc
  | .d t :: r, F, acc => ∀ y : t.T, GndA Q r (F y) (acc ++ [.d (t.xv y)])
  | .p k off :: r, F, acc => GndA Q r F (acc ++ [.nm k (.p off)])
  | .os k t :: r, F, acc => ∀ n : Nat, GndA Q r (F n) (acc ++ [.os k t 0 n])
  | .clo g ps :: r, F, acc => GndA Q r F (acc ++ [.clo g (psX ps)])
def GndC {β : Type} (Q : β → List XV → Prop) : (l : List VK) → CurC l β → List XV → Prop
  | [], F, acc => Q F acc
  | .d t :: r, F, acc => ∀ y : t.T, GndC Q r (F y) (acc ++ (t.enc y).map .d)
  | .p k off :: r, F, acc => GndC Q r F (acc ++ [.nm k (.p off)])
  | .z k off :: r, F, acc => ∀ b : Bool, GndC Q r (F b) (acc ++ [.nm k (.z b off)])
  | .tip n t ty :: r, F, acc => ∀ l : List t.T, GndC Q r (F l) (acc ++ [.tip n t l ty])
def GndO {β : Type} (Q : β → List (Nat × XOb) → Prop) : (l : List (Nat × List VK × Option TypeId)) → CurO l β → List (Nat × XOb) → Prop
  | [], F, acc => Q F acc
  | p :: r, F, acc => GndC (fun F' cs => GndO Q r F' (acc ++ [(p.1, .cells cs p.2.2)])) p.2.1 F []
def GndR {β : Type} (Q : β → List (Nat × XOb) → Prop) : (l : List (Nat × OK)) → CurR l β → List (Nat × XOb) → Prop
  | [], F, acc => Q F acc
  | p :: r, F, acc => ∀ l : p.2.T, GndR Q r (F l) (acc ++ [(p.1, p.2.ob l)])

theorem lamA_gnd {α : Type} {Q : α → List XV → Prop} {f : List XV → α} (m : Nat) (h : ∀ acc, acc.length = m → Q (f acc) acc) : ∀ (l : List AS) (acc : List XV), acc.length + l.length = m → GndA Q l (lamA l f acc) acc
  | [], acc, hm => h acc (by simpa using hm)
  | .d t :: r, acc, hm => fun y => lamA_gnd m h r _ (by simp at hm ⊢; omega)
  | .p k off :: r, acc, hm => by
    simp only [GndA, lamA]
    exact lamA_gnd m h r (acc ++ [.nm k (.p off)]) (by simp at hm ⊢; omega)
  | .os k t :: r, acc, hm => fun n => lamA_gnd m h r _ (by simp at hm ⊢; omega)
  | .clo g ps :: r, acc, hm => by
    simp only [GndA, lamA]
    exact lamA_gnd m h r (acc ++ [.clo g (psX ps)]) (by simp at hm ⊢; omega)
theorem lamC_gnd {α : Type} {Q : α → List XV → Prop} {f : List XV → α} (h : ∀ acc, Q (f acc) acc) : ∀ (l : List VK) (acc : List XV), GndC Q l (lamC l f acc) acc
  | [], acc => h acc
  | .d t :: r, acc => fun y => lamC_gnd h r _
  | .p k off :: r, acc => by
    simp only [GndC, lamC]
    exact lamC_gnd h r (acc ++ [.nm k (.p off)])
  | .z k off :: r, acc => fun b => lamC_gnd h r _
  | .tip n t ty :: r, acc => fun l => lamC_gnd h r _
theorem lamO_gnd {α : Type} {Q : α → List (Nat × XOb) → Prop} {f : List (Nat × XOb) → α} (ns : List Nat) (h : ∀ acc, acc.map (·.1) = ns → Q (f acc) acc) : ∀ (l : List (Nat × List VK × Option TypeId)) (acc : List (Nat × XOb)), acc.map (·.1) ++ namesOf l = ns → GndO Q l (lamO l f acc) acc
  | [], acc, hm => h acc (by simpa [namesOf] using hm)
  | p :: r, acc, hm => lamC_gnd (fun cs => lamO_gnd ns h r _ (by simpa [namesOf] using hm)) p.2.1 []
theorem lamR_gnd {α : Type} {Q : α → List (Nat × XOb) → Prop} {f : List (Nat × XOb) → α} (ns : List Nat) (h : ∀ acc, acc.map (·.1) = ns → Q (f acc) acc) : ∀ (l : List (Nat × OK)) (acc : List (Nat × XOb)), acc.map (·.1) ++ arrNames l = ns → GndR Q l (lamR l f acc) acc
  | [], acc, hm => h acc (by simpa [arrNames] using hm)
  | p :: r, acc, hm => fun l => lamR_gnd ns h r _ (by simpa [arrNames] using hm)

section
variable (P : Program) (Γ : List (Ent P)) (own : List Nat) (N : Nat) (fn : Func) (an : An) (S : CSp)

def finX (S : CSp) (xs : List XV) (objs : List (Nat × XOb)) (s : XSt) : Option S.out.T := proj S.names (keepL (S.s0 xs objs) S.out) S.out s

def finC (S : CSp) (xs : List XV) (objs : List (Nat × XOb)) : Exit → XSt → Option S.out.T
  | .ret, s => finX S xs objs s
  | .normal, s => finX S xs objs s
  | _, _ => none

def runBC (xs : List XV) (objs : List (Nat × XOb)) : Option S.out.T :=
  match fn.body with
  | some c => cond (Nat.ble fn.ntmps GB) (exec P Γ own S.names fn.ntmps N c an (S.s0 xs objs) (finC S xs objs)) none
  | none => none

def runC : S.Fun (Option S.out.T) := lamA S.args (fun xs => lamO S.objs (fun os => lamR S.arrs (fun os' => runBC P Γ own N fn an S xs os') os) []) []
end

def GoodC (P : Program) (f : FuncId) (fn : Func) (S : CSp) (y : S.out.T) (xs : List XV) (objs : List (Nat × XOb)) : Prop :=
  objs.map (·.1) = S.names ∧ ∀ rs, xres P (gen (S.s0 xs objs) S.out y) fn.results.toList = some rs → Does P f (asOf xs) ⟨imObjs objs, S.labs⟩ (tupX rs).a (gen (S.s0 xs objs) S.out y).X

def SndC (P : Program) (f : FuncId) (fn : Func) (S : CSp) (F : S.Fun (Option S.out.T)) : Prop :=
  GndA (fun F' xs => GndO (fun F'' os => GndR (fun F3 os' => ∀ y, F3 = some y → GoodC P f fn S y xs os') S.arrs F'' os) S.objs F' []) S.args F []

def smallL : List Nat → Bool
  | [] => true
  | n :: r => cond (Nat.blt n 1000) (smallL r) false

theorem smallL_spec : ∀ {l : List Nat}, smallL l = true → ∀ j ∈ l, j < 1000
  | [], _ => by simp
  | n :: r, h => by
    simp only [smallL] at h
    cases hb : Nat.blt n 1000 with
    | false => simp [hb] at h
    | true =>
      simp only [hb, cond_true] at h
      intro j hj
      rcases List.mem_cons.1 hj with rfl | hj
      · simpa [Nat.blt_eq] using hb
      · exact smallL_spec h j hj

def noKeepS (S : CSp) : Bool := match S.out.keepS with
  | [] => true
  | _ => false

theorem imObjs_names (l : List (Nat × XOb)) : (imObjs l).map (·.1) = l.map (·.1) := by simp [imObjs]

theorem runBC_sound {P : Program} {Γ : List (Ent P)} {own : List Nat} {N : Nat} {f : FuncId} {fn : Func} {an : An} {S : CSp} {xs : List XV} {objs : List (Nat × XOb)} {y : S.out.T} (hm : P.follows .mixedOrders = true) (hf : P.funcs[f]? = some fn)
    (hn : xs.length ≤ fn.ntmps) (hsm : smallL S.names = true) (hks : noKeepS S = true) (hnames : objs.map (·.1) = S.names) (h : runBC P Γ own N fn an S xs objs = some y) : GoodC P f fn S y xs objs := by
  unfold runBC at h
  split at h
  · rename_i c hc
    obtain ⟨hG, h⟩ := condG h
    have hs := exec_sound (S := ⟨fn.ntmps, S.names, smallL_spec hsm⟩) hm rfl c an _ _ _ _ (.refl _) h
    have hks' : S.out.keepS = [] := by
      unfold noKeepS at hks
      split at hks
      · assumption
      · cases hks
    refine ⟨hnames, fun rs hrs => ?_⟩
    intro g w vs hr hl ha
    have hnm : (imObjs objs).map (·.1) = S.names := by rw [imObjs_names, hnames]
    refine calls_of_wp hf hc (wp_mono (hs (Base.of g w ⟨imObjs objs, S.labs⟩) g w _ ?_) ?_)
    · refine ⟨rfl, ?_, ?_, ?_⟩
      · rw [asOf_length] at hl
        simp; omega
      · have := hr
        rw [hnm] at this
        exact this
      · intro s x hx
        have hx' : (envOf 0 (asOf xs)).lookup s = some x := by rw [← envX_im]; exact hx
        obtain ⟨_, hx'⟩ := envOf_lookup hx'
        rw [Nat.sub_zero] at hx'
        have hlt : s < vs.size := by have := (List.getElem?_eq_some_iff.1 hx').1; omega
        refine ⟨vs[s], ?_, ha s x _ hx' (by simp [hlt])⟩
        rw [asOf_length] at hl
        rw [slotV_tmp (by omega)]
        simp [Array.getElem?_append, hlt]
    · rintro e a' w' ⟨s, g', ⟨st', rfl, hi, hk⟩, hs'⟩
      have fin : finX S xs objs st' = some y →
          a'.defers = [] ∧ ∃ v, (results fn a'.tmps).run P w' = .ok v w' ∧ ∃ g' v_1, Ending.returned v = Ending.returned v_1 ∧ RA g' w' (tupX rs).a v_1 ∧ HR ((imObjs objs).map (·.1)) (Base.of g w ⟨imObjs objs, S.labs⟩) g' w' (gen (S.s0 xs objs) S.out y).X := by
        intro h
        unfold finX at h
        obtain ⟨g'', hs''⟩ := cut_sound h (by rw [hks']; simp) (fun k _ x hk hx => hi.objs k x hk hx) hs' rfl
        obtain ⟨v, hv, hra⟩ := run_results (xres_ok hrs) hs''
        rw [← tupX_a] at hra
        exact ⟨hs''.defers, v, hv, g'', v, rfl, hra, by rw [hnm]; exact hs''.hr⟩
      cases e with
      | ret => exact fin hk
      | normal => exact fin hk
      | _ => simp [finC] at hk
  · cases h


theorem runC_sound {P : Program} {Γ : List (Ent P)} {own : List Nat} {N : Nat} {f : FuncId} {fn : Func} {an : An} {S : CSp} (hm : P.follows .mixedOrders = true) (hf : P.funcs[f]? = some fn)
    (hn : Nat.ble S.args.length fn.ntmps = true) (hsm : smallL S.names = true) (hks : noKeepS S = true) : SndC P f fn S (runC P Γ own N fn an S) := by
  unfold SndC runC
  refine lamA_gnd S.args.length (fun xs hxs => ?_) S.args [] (by simp)
  refine lamO_gnd (namesOf S.objs) (fun os hos => ?_) S.objs [] (by simp)
  refine lamR_gnd S.names (fun os' hos' => ?_) S.arrs os (by rw [hos]; rfl)
  intro y hy
  exact runBC_sound hm hf (by have := Nat.le_of_ble_eq_true hn; omega) hsm hks hos' hy

end Go.Xl
/-
  Such functions, called.
-/
set_option linter.unusedVariables false
set_option linter.unusedSimpArgs false
set_option linter.unnecessarySimpa false
namespace Go.Xl
open Go.Ab

/-! what the caller has, held against what the callee asks -/

def isPtr (k off : Nat) : XV → Bool
  | .nm k' (.p off') => cond (Nat.beq k' k) (Nat.beq off' off) false
  | _ => false

theorem isPtr_eq {k off : Nat} {v : XV} (h : isPtr k off v = true) : v = .nm k (.p off) := by
  unfold isPtr at h
  split at h
  · rename_i k' off'
    cases h1 : Nat.beq k' k with
    | false => simp [h1] at h
    | true =>
      simp only [h1, cond_true] at h
      rw [Nat.eq_of_beq_eq_true h1, Nat.eq_of_beq_eq_true h]
  · cases h

def osOf (k : Nat) (t : Ty) : XV → Option Nat
  | .os k' t' a n => cond (Nat.beq k' k) (cond (t'.eqb t) (cond (Nat.beq a 0) (some n) none) none) none
  | _ => none

theorem osOf_eq {k : Nat} {t : Ty} {v : XV} {n : Nat} (h : osOf k t v = some n) : v = .os k t 0 n := by
  unfold osOf at h
  split at h
  · rename_i k' t' a m
    cases h1 : Nat.beq k' k with
    | false => simp [h1] at h
    | true =>
    cases h2 : t'.eqb t with
    | false => simp [h1, h2] at h
    | true =>
    cases h3 : Nat.beq a 0 with
    | false => simp [h1, h2, h3] at h
    | true =>
      simp only [h1, h2, h3, cond_true, Option.some.injEq] at h
      rw [Nat.eq_of_beq_eq_true h1, Ty.eqb_eq h2, Nat.eq_of_beq_eq_true h3, h]
  · cases h

def capsEq (f : Nat → Nat) : List (Nat × Nat) → List XV → Bool
  | [], [] => true
  | p :: ps, c :: cs => cond (isPtr (f p.1) p.2 c) (capsEq f ps cs) false
  | _, _ => false

theorem capsEq_eq {f fl : Nat → Nat} : ∀ {ps : List (Nat × Nat)} {cs : List XV}, capsEq f ps cs = true → cs = mpL f fl (psX ps)
  | [], [], _ => rfl
  | [], _ :: _, h => by simp [capsEq] at h
  | _ :: _, [], h => by simp [capsEq] at h
  | p :: ps, c :: cs, h => by
    simp only [capsEq] at h
    cases h1 : isPtr (f p.1) p.2 c with
    | false => simp [h1] at h
    | true =>
      simp only [h1, cond_true] at h
      have e := capsEq_eq (fl := fl) h
      rw [isPtr_eq h1, e]
      rfl

def isCloP (f : Nat → Nat) (g : Nat) (ps : List (Nat × Nat)) : XV → Bool
  | .clo g' caps => cond (Nat.beq g' g) (capsEq f ps caps) false
  | _ => false

theorem isCloP_eq {f fl : Nat → Nat} {g : Nat} {ps : List (Nat × Nat)} {v : XV} (h : isCloP f g ps v = true) : v = (XV.clo g (psX ps)).mp f fl := by
  unfold isCloP at h
  split at h
  · rename_i g' caps
    cases h1 : Nat.beq g' g with
    | false => simp [h1] at h
    | true =>
      simp only [h1, cond_true] at h
      rw [Nat.eq_of_beq_eq_true h1, capsEq_eq (fl := fl) h]
      rfl
  · cases h

/-- how the caller's arguments stand to the callee's -/
inductive ArgR (f fl : Nat → Nat) : List XV → List XV → Prop
  | nil : ArgR f fl [] []
  | dat {t : Ty} {v : XV} {y : t.T} {vs xs : List XV} : decXV t v = some y → ArgR f fl vs xs → ArgR f fl (v :: vs) (.d (t.xv y) :: xs)
  | same {v x : XV} {vs xs : List XV} : v = x.mp f fl → ArgR f fl vs xs → ArgR f fl (v :: vs) (x :: xs)

theorem ArgR.app {f fl : Nat → Nat} {a b c d : List XV} (h : ArgR f fl a b) (h' : ArgR f fl c d) : ArgR f fl (a ++ c) (b ++ d) := by
  induction h with
  | nil => exact h'
  | dat h1 _ ih => exact .dat h1 ih
  | same h1 _ ih => exact .same h1 ih

theorem ArgR.length {f fl : Nat → Nat} {a b : List XV} (h : ArgR f fl a b) : a.length = b.length := by
  induction h with
  | nil => rfl
  | dat _ _ ih => simp [ih]
  | same _ _ ih => simp [ih]

theorem ArgR.split {f fl : Nat → Nat} : ∀ {a c xs : List XV}, ArgR f fl (a ++ c) xs → ∃ b d, xs = b ++ d ∧ ArgR f fl a b ∧ ArgR f fl c d
  | [], c, xs, h => ⟨[], xs, rfl, .nil, h⟩
  | v :: a, c, xs, h => by
    rw [List.cons_append] at h
    cases h with
    | dat h1 h2 =>
      obtain ⟨b, d, rfl, h3, h4⟩ := ArgR.split h2
      exact ⟨_ :: b, d, rfl, .dat h1 h3, h4⟩
    | same h1 h2 =>
      obtain ⟨b, d, rfl, h3, h4⟩ := ArgR.split h2
      exact ⟨_ :: b, d, rfl, .same h1 h3, h4⟩

def nmOnly : List XV → Bool
  | [] => true
  | .nm _ _ :: r => nmOnly r
  | _ :: _ => false

theorem ArgR.caps {f fl : Nat → Nat} : ∀ {cs xs : List XV}, ArgR f fl cs xs → nmOnly cs = true → cs = mpL f fl xs
  | [], xs, h, _ => by cases h; rfl
  | v :: cs, xs, h, hn => by
    cases v with
    | nm k p =>
      simp only [nmOnly] at hn
      cases h with
      | dat h1 h2 => simp [decXV] at h1
      | same h1 h2 => rw [h1, ArgR.caps h2 hn]; rfl
    | _ => simp [nmOnly] at hn

theorem ArgR.sees {f fl : Nat → Nat} {st : XSt} : ∀ {ops : List Operand} {vs xs : List XV}, xevals st ops = some vs → ArgR f fl vs xs → ∀ p ∈ imRd (ops.zip (mpL f fl xs)), Sees st.im p.1 p.2
  | [], vs, xs, hv, h => by simp [imRd]
  | x :: ops, [], xs, hv, h => by have := xevals_len hv; simp at this
  | x :: ops, v :: vs, xs, hv, h => by
    obtain ⟨hx, hvs⟩ := xevals_cons hv
    cases h with
    | dat h1 h2 =>
      intro p hp
      simp only [mpL, List.zip_cons_cons, imRd, List.map_cons, List.mem_cons] at hp
      rcases hp with rfl | hp
      · exact decXV_sees hx h1
      · exact ArgR.sees hvs h2 p hp
    | same h1 h2 =>
      intro p hp
      simp only [mpL, List.zip_cons_cons, imRd, List.map_cons, List.mem_cons] at hp
      rcases hp with rfl | hp
      · rw [← h1]; exact xeval_sees hx
      · exact ArgR.sees hvs h2 p hp

def appAs {β R : Type} (f : Nat → Nat) : (l : List AS) → CurA l β → List XV → List XV → (β → List XV → Option R) → Option R
  | [], F, [], acc, K => K F acc
  | .d t :: r, F, v :: vs, acc, K => match decXV t v with
    | some y => appAs f r (F y) vs (acc ++ [.d (t.xv y)]) K
    | none => none
  | .p k off :: r, F, v :: vs, acc, K => cond (isPtr (f k) off v) (appAs f r F vs (acc ++ [.nm k (.p off)]) K) none
  | .os k t :: r, F, v :: vs, acc, K => match osOf (f k) t v with
    | some n => appAs f r (F n) vs (acc ++ [.os k t 0 n]) K
    | none => none
  | .clo g ps :: r, F, v :: vs, acc, K => cond (isCloP f g ps v) (appAs f r F vs (acc ++ [.clo g (psX ps)]) K) none
  | _, _, _, _, _ => none

theorem appAs_ok {β R : Type} {Q : β → List XV → Prop} {f fl : Nat → Nat} {K : β → List XV → Option R} {r : R} : ∀ (l : List AS) (F : CurA l β) (vs us acc : List XV), GndA Q l F acc → ArgR f fl us acc → appAs f l F vs acc K = some r →
    ∃ F' xs, Q F' xs ∧ ArgR f fl (us ++ vs) xs ∧ K F' xs = some r
  | [], F, [], us, acc, hg, hr, h => ⟨F, acc, hg, by simpa using hr, h⟩
  | [], F, _ :: _, us, acc, hg, hr, h => by simp [appAs] at h
  | .d t :: l, F, [], us, acc, hg, hr, h => by simp [appAs] at h
  | .p k off :: l, F, [], us, acc, hg, hr, h => by simp [appAs] at h
  | .os k t :: l, F, [], us, acc, hg, hr, h => by simp [appAs] at h
  | .clo g ps :: l, F, [], us, acc, hg, hr, h => by simp [appAs] at h
  | .d t :: l, F, v :: vs, us, acc, hg, hr, h => by
    simp only [appAs] at h
    split at h
    · rename_i y hy
      obtain ⟨F', xs, h1, h2, h3⟩ := appAs_ok l (F y) vs (us ++ [v]) _ (hg y) (hr.app (.dat hy .nil)) h
      exact ⟨F', xs, h1, by simpa using h2, h3⟩
    · cases h
  | .p k off :: l, F, v :: vs, us, acc, hg, hr, h => by
    simp only [appAs] at h
    cases hp : isPtr (f k) off v with
    | false => simp [hp] at h
    | true =>
      simp only [hp, cond_true] at h
      obtain ⟨F', xs, h1, h2, h3⟩ := appAs_ok l F vs (us ++ [v]) (acc ++ [.nm k (.p off)]) hg (hr.app (.same (x := .nm k (.p off)) (isPtr_eq hp) .nil)) h
      exact ⟨F', xs, h1, by simpa using h2, h3⟩
  | .os k t :: l, F, v :: vs, us, acc, hg, hr, h => by
    simp only [appAs] at h
    split at h
    · rename_i n hn
      obtain ⟨F', xs, h1, h2, h3⟩ := appAs_ok l (F n) vs (us ++ [v]) _ (hg n) (hr.app (.same (x := .os k t 0 n) (osOf_eq hn) .nil)) h
      exact ⟨F', xs, h1, by simpa using h2, h3⟩
    · cases h
  | .clo g ps :: l, F, v :: vs, us, acc, hg, hr, h => by
    simp only [appAs] at h
    cases hp : isCloP f g ps v with
    | false => simp [hp] at h
    | true =>
      simp only [hp, cond_true] at h
      obtain ⟨F', xs, h1, h2, h3⟩ := appAs_ok l F vs (us ++ [v]) (acc ++ [.clo g (psX ps)]) hg (hr.app (.same (isCloP_eq hp) .nil)) h
      exact ⟨F', xs, h1, by simpa using h2, h3⟩

/-! cells -/

/-- nothing that may stand for something else -/
def plainX : XD → Bool
  | .v _ => false
  | .ic _ _ _ => false
  | _ => true
def plainXs : List XD → Bool
  | [] => true
  | x :: r => cond (plainX x) (plainXs r) false

theorem plainXs_cons {x : XD} {r : List XD} (h : plainXs (x :: r) = true) : plainX x = true ∧ plainXs r = true := by
  simp only [plainXs] at h
  cases hx : plainX x with
  | false => simp [hx] at h
  | true => simp only [hx, cond_true] at h; exact ⟨rfl, h⟩

theorem dec_plain : ∀ (t : Ty) {cs : List XD} {x : t.T} {r : List XD}, plainXs cs = true → t.dec cs = some (x, r) → dsOf cs = t.ds x ++ dsOf r ∧ plainXs r = true := by
  intro t
  induction t with
  | int k =>
    intro cs x r hp h
    simp only [Ty.dec] at h
    unfold decI at h
    split at h
    · rename_i k' n r'
      cases hk : kindB k' k with
      | false => simp [hk] at h
      | true =>
        have := kindB_eq hk
        subst this
        simp only [hk, cond_true, Option.some.injEq, Prod.mk.injEq] at h
        obtain ⟨rfl, rfl⟩ := h
        exact ⟨rfl, (plainXs_cons hp).2⟩
    · rename_i x' r'
      cases hk : kindB .u8 k with
      | false => simp [hk] at h
      | true =>
        have := kindB_eq hk
        subst this
        simp only [hk, cond_true, Option.some.injEq, Prod.mk.injEq] at h
        obtain ⟨rfl, rfl⟩ := h
        exact ⟨rfl, (plainXs_cons hp).2⟩
    · cases h
  | u8 =>
    intro cs x r hp h
    simp only [Ty.dec] at h
    unfold decU8 at h
    split at h
    · cases h; exact ⟨rfl, (plainXs_cons hp).2⟩
    · cases h
  | bool =>
    intro cs x r hp h
    simp only [Ty.dec] at h
    unfold decB at h
    split at h
    · cases h; exact ⟨rfl, (plainXs_cons hp).2⟩
    · cases h
  | str =>
    intro cs x r hp h
    simp only [Ty.dec] at h
    unfold decS at h
    split at h
    · cases h; exact ⟨rfl, (plainXs_cons hp).2⟩
    · cases h
  | sl t ih =>
    intro cs x r hp h
    simp only [Ty.dec] at h
    unfold decL at h
    split at h
    · rename_i t' l r'
      split at h
      · rename_i ht
        have e := Ty.eqb_eq ht
        subst e
        cases h
        exact ⟨rfl, (plainXs_cons hp).2⟩
      · cases h
    · simp [plainXs, plainX] at hp
    · simp [plainXs, plainX] at hp
    · cases h
  | unit =>
    intro cs x r hp h
    simp [Ty.dec] at h
    subst h
    exact ⟨rfl, hp⟩
  | pair a b iha ihb =>
    intro cs x r hp h
    unfold Ty.dec at h
    split at h
    · rename_i p hpa
      split at h
      · rename_i q hq
        cases h
        obtain ⟨h1, h2⟩ := iha (x := p.1) (r := p.2) hp hpa
        obtain ⟨h3, h4⟩ := ihb (x := q.1) (r := q.2) h2 hq
        exact ⟨by rw [h1, h3]; simp [Ty.ds], h4⟩
      · cases h
    · cases h
  | st1 a iha =>
    intro cs x r hp h
    exact iha hp h
  | tab t ih =>
    intro cs x r hp h
    simp only [Ty.dec] at h
    unfold decT at h
    split at h
    · rename_i t' l r'
      split at h
      · rename_i ht
        have e := Ty.eqb_eq ht
        subst e
        cases h
        exact ⟨rfl, (plainXs_cons hp).2⟩
      · cases h
    · cases h
  | err =>
    intro cs x r hp h
    simp only [Ty.dec] at h
    unfold decE at h
    split at h
    · cases h; exact ⟨rfl, (plainXs_cons hp).2⟩
    · simp [plainXs, plainX] at hp
    · simp [plainXs, plainX] at hp
    · cases h
  | ic t k =>
    intro cs x r hp h
    simp only [Ty.dec] at h
    unfold decIc at h
    split at h
    · simp [plainXs, plainX] at hp
    · simp [plainXs, plainX] at hp
    · cases h
  | ptr =>
    intro cs x r hp h
    simp only [Ty.dec] at h
    unfold decP at h
    split at h
    · cases h; exact ⟨rfl, (plainXs_cons hp).2⟩
    · simp [plainXs, plainX] at hp
    · cases h

def tipOf (m : Nat) (t : Ty) (ty : Option TypeId) : XV → Option (List t.T)
  | .tip m' t' l ty' => cond (Nat.beq m' m) (cond (tyEqO ty' ty) (if h : t'.eqb t = true then some (Ty.eqb_eq h ▸ l) else none) none) none
  | _ => none

theorem tipOf_eq {m : Nat} {t : Ty} {ty : Option TypeId} {v : XV} {l : List t.T} (h : tipOf m t ty v = some l) : v = .tip m t l ty := by
  unfold tipOf at h
  split at h
  · rename_i m' t' l' ty'
    cases h1 : Nat.beq m' m with
    | false => simp [h1] at h
    | true =>
    cases h2 : tyEqO ty' ty with
    | false => simp [h1, h2] at h
    | true =>
      simp only [h1, h2, cond_true] at h
      split at h
      · rename_i ht
        have e := Ty.eqb_eq ht
        subst e
        cases h
        rw [Nat.eq_of_beq_eq_true h1, tyEqO_eq h2]
      · cases h
  · cases h

/-- a pointer that may be nil -/
def zOf (m off : Nat) (ex : Bool) : XV → Option Bool
  | .nm k' (.z b off') => cond (Nat.beq k' m) (cond (Nat.beq off' off) (some b) none) none
  | .nm k' (.p off') => cond ex none (cond (Nat.beq k' m) (cond (Nat.beq off' off) (some false) none) none)
  | .d (.v (.pointer none)) => cond ex none (some true)
  | _ => none

/-- how the caller's cells stand to the callee's -/
def CellR (f fl : Nat → Nat) (ex : Bool) (cs xs : List XV) : Prop := AsLe (asOf cs) (asOf (mpL f fl xs)) ∧ (ex = true → asOf cs = asOf (mpL f fl xs))

theorem AsLe.refl : ∀ (l : List AV), AsLe l l
  | [] => .nil
  | x :: r => .cons (.refl x) (AsLe.refl r)
theorem AsLe.append {a b c d : List AV} (h : AsLe a b) (h' : AsLe c d) : AsLe (a ++ c) (b ++ d) := by
  induction h with
  | nil => exact h'
  | cons h1 _ ih => exact .cons h1 ih

theorem mpL_append (f fl : Nat → Nat) (a b : List XV) : mpL f fl (a ++ b) = mpL f fl a ++ mpL f fl b := by simp [mpL_map]

theorem CellR.app {f fl : Nat → Nat} {ex : Bool} {a b c d : List XV} (h : CellR f fl ex a b) (h' : CellR f fl ex c d) : CellR f fl ex (a ++ c) (b ++ d) := by
  refine ⟨?_, fun e => ?_⟩
  · rw [asOf_append, mpL_append, asOf_append]; exact h.1.append h'.1
  · rw [asOf_append, mpL_append, asOf_append, h.2 e, h'.2 e]

theorem CellR.same {f fl : Nat → Nat} {ex : Bool} {v x : XV} (h : v = x.mp f fl) : CellR f fl ex [v] [x] := by
  subst h
  exact ⟨.refl _, fun _ => rfl⟩

theorem asOf_map_d (l : List XD) : asOf (l.map .d) = (dsOf l).map .d := by
  rw [asOf_map, dsOf_map]; simp [XV.a]

theorem mpL_map_d (f fl : Nat → Nat) (l : List XD) : mpL f fl (l.map .d) = l.map .d := by
  rw [mpL_map]; simp [XV.mp]

theorem DsLe.as {a b : List D} (h : DsLe a b) : AsLe (a.map .d) (b.map .d) := by
  induction h with
  | nil => exact .nil
  | cons h1 _ ih => exact .cons (ALe.d h1) ih

theorem CellR.data {f fl : Nat → Nat} {ex : Bool} {t : Ty} {ds : List XD} {y : t.T} (h : t.dec ds = some (y, [])) (hex : ex = true → plainXs ds = true) : CellR f fl ex (ds.map .d) ((t.enc y).map .d) := by
  refine ⟨?_, fun e => ?_⟩
  · obtain ⟨ds', h1, h2⟩ := t.dec_spec h
    rw [mpL_map_d, asOf_map_d, asOf_map_d, t.enc_ds]
    simp only [dsOf, List.append_nil] at h1
    rw [h1]
    exact h2.as
  · obtain ⟨h1, _⟩ := dec_plain t (hex e) h
    rw [mpL_map_d, asOf_map_d, asOf_map_d, t.enc_ds, h1]
    simp [dsOf]

theorem zOf_rel {f fl : Nat → Nat} {k off : Nat} {ex : Bool} {v : XV} {b : Bool} (h : zOf (f k) off ex v = some b) : CellR f fl ex [v] [.nm k (.z b off)] := by
  have mk : (∀ (g : Gh) (w : World) (u : Value), RA g w v.a u → RA g w (XV.nm (f k) (.z b off)).a u) → (ex = true → v = .nm (f k) (.z b off)) → CellR f fl ex [v] [.nm k (.z b off)] := by
    intro h1 h2
    refine ⟨.cons h1 .nil, fun he => ?_⟩
    rw [h2 he]; rfl
  unfold zOf at h
  split at h
  · rename_i k' b' off'
    cases h1 : Nat.beq k' (f k) with
    | false => simp [h1] at h
    | true =>
      cases h2 : Nat.beq off' off with
      | false => simp [h1, h2] at h
      | true =>
        simp only [h1, h2, cond_true, Option.some.injEq] at h
        have e1 := Nat.eq_of_beq_eq_true h1
        have e2 := Nat.eq_of_beq_eq_true h2
        subst e1; subst e2; subst h
        exact mk (fun _ _ _ h => h) (fun _ => rfl)
  · rename_i k' off'
    cases hx : ex with
    | true => simp [hx] at h
    | false =>
      rw [hx] at mk
      cases h1 : Nat.beq k' (f k) with
      | false => simp [h1, hx] at h
      | true =>
        cases h2 : Nat.beq off' off with
        | false => simp [h1, h2, hx] at h
        | true =>
          simp only [h1, h2, hx, cond_true, cond_false, Option.some.injEq] at h
          have e1 := Nat.eq_of_beq_eq_true h1
          have e2 := Nat.eq_of_beq_eq_true h2
          subst e1; subst e2; subst h
          refine mk (fun g w u hr => ?_) (fun e => by cases e)
          simp only [XV.a] at hr ⊢
          cases hr with
          | nm _ _ _ h => exact .nm _ _ _ h
  · cases hx : ex with
    | true => simp [hx] at h
    | false =>
      rw [hx] at mk
      simp only [hx, cond_false, Option.some.injEq] at h
      subst h
      refine mk (fun g w u hr => ?_) (fun e => by cases e)
      simp only [XV.a, XD.d] at hr ⊢
      cases hr with
      | d _ _ h1 => cases h1; exact .nm _ _ _ rfl
  · cases h

def appCs {β R : Type} (f fl : Nat → Nat) (ex : Bool) : (l : List VK) → CurC l β → List XV → List XV → (β → List XV → Option R) → Option R
  | [], F, [], acc, K => K F acc
  | .d t :: r, F, cs, acc, K => match allX (cs.take t.size) with
    | some ds => cond (cond ex (plainXs ds) true) (match t.dec ds with
      | some (y, []) => appCs f fl ex r (F y) (cs.drop t.size) (acc ++ (t.enc y).map .d) K
      | _ => none) none
    | none => none
  | .p k off :: r, F, c :: cs, acc, K => cond (isPtr (f k) off c) (appCs f fl ex r F cs (acc ++ [.nm k (.p off)]) K) none
  | .z k off :: r, F, c :: cs, acc, K => match zOf (f k) off ex c with
    | some b => appCs f fl ex r (F b) cs (acc ++ [.nm k (.z b off)]) K
    | none => none
  | .tip n t ty :: r, F, c :: cs, acc, K => match tipOf (fl n) t ty c with
    | some l => appCs f fl ex r (F l) cs (acc ++ [.tip n t l ty]) K
    | none => none
  | _, _, _, _, _ => none

theorem appCs_ok {β R : Type} {Q : β → List XV → Prop} {f fl : Nat → Nat} {ex : Bool} {K : β → List XV → Option R} {r : R} : ∀ (l : List VK) (F : CurC l β) (cs us acc : List XV), GndC Q l F acc → CellR f fl ex us acc → appCs f fl ex l F cs acc K = some r →
    ∃ F' xs, Q F' xs ∧ CellR f fl ex (us ++ cs) xs ∧ K F' xs = some r
  | [], F, [], us, acc, hg, hr, h => ⟨F, acc, hg, by simpa using hr, h⟩
  | [], F, _ :: _, us, acc, hg, hr, h => by simp [appCs] at h
  | .p k off :: l, F, [], us, acc, hg, hr, h => by simp [appCs] at h
  | .tip n t ty :: l, F, [], us, acc, hg, hr, h => by simp [appCs] at h
  | .z k off :: l, F, [], us, acc, hg, hr, h => by simp [appCs] at h
  | .d t :: l, F, cs, us, acc, hg, hr, h => by
    unfold appCs at h
    split at h
    · rename_i ds hds
      have hex : ex = true → plainXs ds = true := by
        intro e
        subst e
        cases hp : plainXs ds with
        | true => rfl
        | false => simp [hp] at h
      have h : (match t.dec ds with
        | some (y, []) => appCs f fl ex l (F y) (cs.drop t.size) (acc ++ (t.enc y).map .d) K
        | _ => none) = some r := by
        cases hc : (cond ex (plainXs ds) true) with
        | true => simpa [hc] using h
        | false => simp [hc] at h
      split at h
      · rename_i y hy
        have e1 := allX_map hds
        have hrel := CellR.data (f := f) (fl := fl) (ex := ex) hy hex
        rw [← e1] at hrel
        obtain ⟨F', xs, h1, h2, h3⟩ := appCs_ok l (F y) (cs.drop t.size) (us ++ cs.take t.size) _ (hg y) (hr.app hrel) h
        refine ⟨F', xs, h1, ?_, h3⟩
        rw [List.append_assoc, List.take_append_drop] at h2
        exact h2
      · cases h
    · cases h
  | .p k off :: l, F, c :: cs, us, acc, hg, hr, h => by
    simp only [appCs] at h
    cases hp : isPtr (f k) off c with
    | false => simp [hp] at h
    | true =>
      simp only [hp, cond_true] at h
      obtain ⟨F', xs, h1, h2, h3⟩ := appCs_ok l F cs (us ++ [c]) (acc ++ [.nm k (.p off)]) hg (hr.app (.same (x := .nm k (.p off)) (isPtr_eq hp))) h
      exact ⟨F', xs, h1, by simpa using h2, h3⟩
  | .z k off :: l, F, c :: cs, us, acc, hg, hr, h => by
    simp only [appCs] at h
    split at h
    · rename_i b hb
      obtain ⟨F', xs, h1, h2, h3⟩ := appCs_ok l (F b) cs (us ++ [c]) _ (hg b) (hr.app (zOf_rel hb)) h
      exact ⟨F', xs, h1, by simpa using h2, h3⟩
    · cases h
  | .tip n t ty :: l, F, c :: cs, us, acc, hg, hr, h => by
    simp only [appCs] at h
    split at h
    · rename_i u hu
      obtain ⟨F', xs, h1, h2, h3⟩ := appCs_ok l (F u) cs (us ++ [c]) _ (hg u) (hr.app (.same (x := .tip n t u ty) (tipOf_eq hu))) h
      exact ⟨F', xs, h1, by simpa using h2, h3⟩
    · cases h

/-! objects -/

/-- how the caller's object stands to the callee's -/
def InR (f fl : Nat → Nat) (ko : List Nat) (objs : List (Nat × XOb)) (p : Nat × XOb) : Prop :=
  ∃ o, lk (f p.1) objs = some o ∧ ObLe o.o (p.2.mp f fl).o ∧ (inl p.1 ko = true → o.o = (p.2.mp f fl).o)

def appOs {β R : Type} (f fl : Nat → Nat) (ko : List Nat) (objs : List (Nat × XOb)) : (l : List (Nat × List VK × Option TypeId)) → CurO l β → List (Nat × XOb) → (β → List (Nat × XOb) → Option R) → Option R
  | [], F, acc, K => K F acc
  | p :: r, F, acc, K => match lk (f p.1) objs with
    | some (.cells cs ty) => cond (tyEqO ty p.2.2) (appCs f fl (inl p.1 ko) p.2.1 F cs [] fun F' xs => appOs f fl ko objs r F' (acc ++ [(p.1, .cells xs p.2.2)]) K) none
    | _ => none

theorem AsLe.obs {a b : List AV} {ty : Option TypeId} (h : AsLe a b) : ObLe (.cells a ty) (.cells b ty) := by
  refine .cells h.length (fun i x y hx hy => ?_) (.inl rfl)
  obtain ⟨x', hx', hle⟩ := h.get hy
  rw [hx] at hx'
  cases hx'
  exact hle

theorem appOs_ok {β R : Type} {Q : β → List (Nat × XOb) → Prop} {f fl : Nat → Nat} {ko : List Nat} {objs : List (Nat × XOb)} {K : β → List (Nat × XOb) → Option R} {r : R} : ∀ (l : List (Nat × List VK × Option TypeId)) (F : CurO l β) (acc : List (Nat × XOb)), GndO Q l F acc → (∀ p ∈ acc, InR f fl ko objs p) → appOs f fl ko objs l F acc K = some r →
    ∃ F' os, Q F' os ∧ (∀ p ∈ os, InR f fl ko objs p) ∧ K F' os = some r
  | [], F, acc, hg, hr, h => ⟨F, acc, hg, hr, h⟩
  | q :: l, F, acc, hg, hr, h => by
    simp only [appOs] at h
    split at h
    · rename_i cs ty hk
      cases ht : tyEqO ty q.2.2 with
      | false => simp [ht] at h
      | true =>
        simp only [ht, cond_true] at h
        have e := tyEqO_eq ht
        subst e
        obtain ⟨F', xs, h1, h2, h3⟩ := appCs_ok q.2.1 F cs [] [] hg ⟨.nil, fun _ => rfl⟩ h
        refine appOs_ok l F' _ h1 ?_ h3
        intro p hp
        rcases List.mem_append.1 hp with hp | hp
        · exact hr p hp
        · simp only [List.mem_singleton] at hp
          subst hp
          refine ⟨_, hk, ?_, fun hh => ?_⟩
          · simp only [XOb.o, XOb.mp]
            exact AsLe.obs h2.1
          · simp only [XOb.o, XOb.mp]
            have := h2.2 hh
            rw [List.nil_append] at this
            rw [this]
    · cases h

/-- an iterator's map has its own name in the call, too -/
def OK.okc (f : Nat → Nat) : OK → Bool
  | .mit m => Nat.beq (f m) m
  | _ => true
theorem OK.okc_mp {f fl : Nat → Nat} {o : OK} {y : o.T} (h : o.okc f = true) : (o.ob y).mp f fl = o.ob y := by
  cases o with
  | mit m => show XOb.mit (f m) _ _ _ = _; rw [Nat.eq_of_beq_eq_true h]; rfl
  | _ => rfl

def appRs {β R : Type} (f : Nat → Nat) (objs : List (Nat × XOb)) : (l : List (Nat × OK)) → CurR l β → List (Nat × XOb) → (β → List (Nat × XOb) → Option R) → Option R
  | [], F, acc, K => K F acc
  | p :: r, F, acc, K => match lk (f p.1) objs with
    | some o => match p.2.dec o with
      | some y => cond (p.2.okc f) (appRs f objs r (F y) (acc ++ [(p.1, p.2.ob y)]) K) none
      | none => none
    | none => none

theorem appRs_ok {β R : Type} {Q : β → List (Nat × XOb) → Prop} {f fl : Nat → Nat} {ko : List Nat} {objs : List (Nat × XOb)} {K : β → List (Nat × XOb) → Option R} {r : R} : ∀ (l : List (Nat × OK)) (F : CurR l β) (acc : List (Nat × XOb)), GndR Q l F acc → (∀ p ∈ acc, InR f fl ko objs p) → appRs f objs l F acc K = some r →
    ∃ F' os, Q F' os ∧ (∀ p ∈ os, InR f fl ko objs p) ∧ K F' os = some r
  | [], F, acc, hg, hr, h => ⟨F, acc, hg, hr, h⟩
  | q :: l, F, acc, hg, hr, h => by
    obtain ⟨qk, qt⟩ := q
    simp only [appRs] at h
    split at h
    · rename_i o hk
      split at h
      · rename_i y hy
        cases hc : qt.okc f with
        | false => simp [hc] at h
        | true =>
        simp only [hc, cond_true] at h
        refine appRs_ok l _ _ (hg y) ?_ h
        intro p hp
        rcases List.mem_append.1 hp with hp | hp
        · exact hr p hp
        · simp only [List.mem_singleton] at hp
          subst hp
          refine ⟨_, hk, ?_, fun _ => ?_⟩
          · rw [OK.okc_mp hc, OK.dec_eq hy]; exact .refl _
          · rw [OK.okc_mp hc, OK.dec_eq hy]
      · cases h
    · cases h

end Go.Xl
