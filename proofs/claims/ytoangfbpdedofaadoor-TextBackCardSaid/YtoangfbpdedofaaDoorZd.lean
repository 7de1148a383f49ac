import Derived.Test.YtoangfbpdedofaaDoorZc
import Derived.Test.YtoangfbpdedofaaDoorZb
import Derived.Below
import Derived.ProofKit
import Derived.Sort.Grow
import Derived.Shelf.GgSortFunc.InsertionK
set_option linter.unusedVariables false
set_option linter.unusedSimpArgs false
set_option linter.unnecessarySimpa false
namespace Go.Xl
open Go.Ab
inductive VK where
  | d (t : Ty)
  | tip (n : Nat) (t : Ty) (ty : Option TypeId)
  | p (k off : Nat)
  | z (k off : Nat)
@[reducible] def VK.T : VK → Type
  | .d t => t.T
  | .tip _ t _ => List t.T
  | .p _ _ => Unit
  | .z _ _ => Bool
def VK.val : (v : VK) → v.T → XV
  | .d t, x => .d (t.xv x)
  | .tip n t ty, l => .tip n t l ty
  | .p k off, _ => .nm k (.p off)
  | .z k off, b => .nm k (.z b off)
def VK.cells : (v : VK) → v.T → List XV
  | .d t, x => (t.enc x).map .d
  | .tip n t ty, l => [.tip n t l ty]
  | .p k off, _ => [.nm k (.p off)]
  | .z k off, b => [.nm k (.z b off)]
def decXV (t : Ty) : XV → Option t.T
  | .d x => t.decv x
  | .tip _ u l _ => t.decv (.sl u l)
  | _ => none
theorem nmp_le (k off : Nat) : ALe (XV.nm k (.p off)).a (.d XD.pp.d) := by
  intro g w v hr
  simp only [XV.a] at hr
  cases hr with
  | nm _ _ _ h => exact .d _ _ (.any _ _ ⟨_, h⟩ (by rw [show v = _ from h]; rfl))
theorem decXV_le {t : Ty} {x : XV} {y : t.T} (h : decXV t x = some y) : ALe x.a (.d (t.dv y)) := by
  unfold decXV at h
  split at h
  · exact ALe.d (t.decv_spec h)
  · rename_i n u l ty
    have := t.decv_spec h
    intro g w v hr
    exact ALe.d this g w v (ALe.tip _ _ _ _ g w v hr)
  · cases h
def decXVr (t : Ty) : XV → Option t.T
  | .nm _ (.p _) => t.decv .pp
  | x => decXV t x
theorem decXVr_le {t : Ty} {x : XV} {y : t.T} (h : decXVr t x = some y) : ALe x.a (.d (t.dv y)) := by
  unfold decXVr at h
  split at h
  · have := t.decv_spec h
    intro g w v hr
    exact ALe.d this g w v (nmp_le _ _ g w v hr)
  · exact decXV_le h
def tyLe (have_ want : Option TypeId) : Bool :=
  match want with
  | none => true
  | some e => match have_ with
    | some e' => Nat.beq e' e
    | none => false
abbrev Lab := List (Nat × Option Nat)
def projTip (n : Nat) (t : Ty) (ty : Option TypeId) : XV → Option (List t.T × Lab)
  | .tip m u l ty' => if h : u.eqb t = true then cond (tyLe ty' ty) (some (Ty.eqb_eq h ▸ l, [(n, some m)])) none else none
  | .d (.v (.slice none 0 0)) => some ([], [(n, none)])
  | _ => none
def projPtr (k off : Nat) : XV → Option (Unit × Lab)
  | .nm k' (.p off') => cond (Nat.beq k' k) (cond (Nat.beq off' off) (some ((), [])) none) none
  | _ => none
def projZ (k off : Nat) : XV → Option (Bool × Lab)
  | .nm k' (.p off') => cond (Nat.beq k' k) (cond (Nat.beq off' off) (some (false, [])) none) none
  | .nm k' (.z b off') => cond (Nat.beq k' k) (cond (Nat.beq off' off) (some (b, [])) none) none
  | .d (.v (.pointer none)) => some (true, [])
  | _ => none
def VK.proj : (v : VK) → XV → Option (v.T × Lab)
  | .d t => fun x => match decXV t x with
    | some y => some (y, [])
    | none => none
  | .tip n t ty => projTip n t ty
  | .p k off => projPtr k off
  | .z k off => projZ k off
inductive OK where
  | arr (t : Ty)
  | sit
  | map (k v : Ty)
  | mit (m : Nat)
  | mitn
@[reducible] def OK.T : OK → Type
  | .arr t => List t.T
  | .sit => List UInt8 × Nat
  | .map k v => List (Nat × k.T × v.T) × Nat
  | .mit _ => Nat × List Nat × Nat
  | .mitn => Unit
def OK.ob : (o : OK) → o.T → XOb
  | .arr t, l => .arr t l
  | .sit, x => .sit x.1 x.2
  | .map k v, x => .map k v x.1 x.2
  | .mit m, x => .mit m x.1 x.2.1 x.2.2
  | .mitn, _ => .mitn
def OK.dec : (o : OK) → XOb → Option o.T
  | .arr t, .arr u l => if h : u.eqb t = true then some (Ty.eqb_eq h ▸ l) else none
  | .sit, .sit s p => some (s, p)
  | .map k v, .map k' v' es c => if h : k'.eqb k = true then if h' : v'.eqb v = true then some (Ty.eqb_eq h ▸ Ty.eqb_eq h' ▸ es, c) else none else none
  | .mit m, .mit m' a b c => cond (Nat.beq m' m) (some (a, b, c)) none
  | .mitn, .mitn => some ()
  | _, _ => none
theorem OK.dec_eq {o : OK} {x : XOb} {y : o.T} (h : o.dec x = some y) : x = o.ob y := by
  unfold OK.dec at h
  split at h
  · split at h
    · rename_i he
      have e := Ty.eqb_eq he
      subst e
      cases h; rfl
    · cases h
  · cases h; rfl
  · split at h
    · rename_i he
      split at h
      · rename_i he'
        have e := Ty.eqb_eq he
        have e' := Ty.eqb_eq he'
        subst e; subst e'
        cases h; rfl
      · cases h
    · cases h
  · rename_i m m' a b c
    cases hb : Nat.beq m' m with
    | false => simp [hb] at h
    | true =>
      simp only [hb, cond_true, Option.some.injEq] at h
      subst h
      rw [Nat.eq_of_beq_eq_true hb]; rfl
  · rfl
  · cases h
def OK.okp (ns : List Nat) : OK → Bool
  | .mit m => cond (inl m ns) false true
  | _ => true
def okArrs (ns : List Nat) : List (Nat × OK) → Bool
  | [] => true
  | p :: r => cond (p.2.okp ns) (okArrs ns r) false
structure Cut where
  vars : List (Tmp × VK)
  objs : List (Nat × List VK × Option TypeId)
  keepS : List Tmp
  keepO : List Nat
  own : List (Tmp × Nat × Ty) := []
  arrs : List (Nat × OK) := []
@[reducible] def VarsT : List (Tmp × VK) → Type
  | [] => Unit
  | p :: r => p.2.T × VarsT r
@[reducible] def CellsT : List VK → Type
  | [] => Unit
  | v :: r => v.T × CellsT r
@[reducible] def ObjsT : List (Nat × List VK × Option TypeId) → Type
  | [] => Unit
  | p :: r => CellsT p.2.1 × ObjsT r
@[reducible] def OwnT : List (Tmp × Nat × Ty) → Type
  | [] => Unit
  | p :: r => Option (List p.2.2.T × Nat) × OwnT r
@[reducible] def ArrsT : List (Nat × OK) → Type
  | [] => Unit
  | p :: r => p.2.T × ArrsT r
@[reducible] def Cut.T (c : Cut) : Type := VarsT c.vars × ObjsT c.objs × OwnT c.own × ArrsT c.arrs
def genOwnE : (l : List (Tmp × Nat × Ty)) → OwnT l → List (Nat × XV)
  | [], _ => []
  | p :: r, x => (p.1, match x.1 with
    | none => .d (.v (.slice none 0 0))
    | some y => .os p.2.1 p.2.2 0 y.2) :: genOwnE r x.2
def genOwnO : (l : List (Tmp × Nat × Ty)) → OwnT l → List (Nat × XOb)
  | [], _ => []
  | p :: r, x => match x.1 with
    | none => genOwnO r x.2
    | some y => (p.2.1, .arr p.2.2 y.1) :: genOwnO r x.2
def genArrs : (l : List (Nat × OK)) → ArrsT l → List (Nat × XOb)
  | [], _ => []
  | p :: r, x => (p.1, p.2.ob x.1) :: genArrs r x.2
def ownNames : List (Tmp × Nat × Ty) → List Nat
  | [] => []
  | p :: r => p.2.1 :: ownNames r
def arrNames : List (Nat × OK) → List Nat
  | [] => []
  | p :: r => p.1 :: arrNames r
def Cut.others (c : Cut) : List Nat := (c.objs.map (·.1) ++ arrNames c.arrs) ++ c.keepO
def genVars : (l : List (Tmp × VK)) → VarsT l → List (Nat × XV)
  | [], _ => []
  | p :: r, x => (p.1, p.2.val x.1) :: genVars r x.2
def genCells : (l : List VK) → CellsT l → List XV
  | [], _ => []
  | v :: r, x => v.cells x.1 ++ genCells r x.2
def genObjs : (l : List (Nat × List VK × Option TypeId)) → ObjsT l → List (Nat × XOb)
  | [], _ => []
  | p :: r, x => (p.1, .cells (genCells p.2.1 x.1) p.2.2) :: genObjs r x.2
def keepEnv (env : List (Nat × XV)) : List Tmp → List (Nat × XV)
  | [] => []
  | t :: r => match lk t env with
    | some x => (t, x) :: keepEnv env r
    | none => keepEnv env r
def keepObjs (objs : List (Nat × XOb)) : List Nat → List (Nat × XOb)
  | [] => []
  | t :: r => match lk t objs with
    | some x => (t, x) :: keepObjs objs r
    | none => keepObjs objs r
def labsOfVars : List (Tmp × VK) → List Nat
  | [] => []
  | (_, .tip n _ _) :: r => n :: labsOfVars r
  | (_, .d _) :: r => labsOfVars r
  | (_, .p _ _) :: r => labsOfVars r
  | (_, .z _ _) :: r => labsOfVars r
def labsOfCells : List VK → List Nat
  | [] => []
  | .tip n _ _ :: r => n :: labsOfCells r
  | .d _ :: r => labsOfCells r
  | .p _ _ :: r => labsOfCells r
  | .z _ _ :: r => labsOfCells r
def labsOfObjs : List (Nat × List VK × Option TypeId) → List Nat
  | [] => []
  | p :: r => labsOfCells p.2.1 ++ labsOfObjs r
def Cut.labs (c : Cut) : List Nat := labsOfVars c.vars ++ labsOfObjs c.objs
def addL (n : Nat) (live acc : List Nat) : List Nat := cond (inl n live) (cond (inl n acc) acc (n :: acc)) acc
def tipsCells (live : List Nat) : List XV → List Nat → List Nat
  | [], acc => acc
  | .tip n _ _ _ :: r, acc => tipsCells live r (addL n live acc)
  | _ :: r, acc => tipsCells live r acc
def tipsEnv (live : List Nat) : List (Nat × XV) → List Nat → List Nat
  | [], acc => acc
  | (_, .tip n _ _ _) :: r, acc => tipsEnv live r (addL n live acc)
  | _ :: r, acc => tipsEnv live r acc
def tipsObjs (live : List Nat) : List (Nat × XOb) → List Nat → List Nat
  | [], acc => acc
  | (_, .cells cs _) :: r, acc => tipsObjs live r (tipsCells live cs acc)
  | _ :: r, acc => tipsObjs live r acc
def keepL (s0 : XSt) (c : Cut) : List Nat := tipsObjs s0.live (keepObjs s0.objs c.keepO) (tipsEnv s0.live (keepEnv s0.env c.keepS) [])
def gen (s0 : XSt) (c : Cut) (x : c.T) : XSt :=
  ⟨genVars c.vars x.1 ++ (genOwnE c.own x.2.2.1 ++ keepEnv s0.env c.keepS), genObjs c.objs x.2.1 ++ (genOwnO c.own x.2.2.1 ++ (genArrs c.arrs x.2.2.2 ++ keepObjs s0.objs c.keepO)), c.labs ++ keepL s0 c, [], []⟩
def projVars (env : List (Nat × XV)) : (l : List (Tmp × VK)) → Option (VarsT l × Lab)
  | [] => some ((), [])
  | p :: r => match lk p.1 env with
    | some v => match p.2.proj v with
      | some (x, σ) => match projVars env r with
        | some (xs, τ) => some ((x, xs), σ ++ τ)
        | none => none
      | none => none
    | none => none
def allXt : List XV → Option (List XD)
  | [] => some []
  | x :: r => match x.asD, allXt r with
    | some y, some l => some (y :: l)
    | _, _ => none
theorem allXt_get : ∀ {cs : List XV} {ds : List XD}, allXt cs = some ds → cs.length = ds.length ∧ ∀ (i : Nat) x y, cs[i]? = some x → ds[i]? = some y → ALe x.a (.d y.d)
  | [], ds, h => by simp [allXt] at h; subst h; exact ⟨rfl, by simp⟩
  | x :: r, ds, h => by
    simp only [allXt] at h
    split at h
    · rename_i y l hy hl
      cases h
      obtain ⟨h1, h2⟩ := allXt_get hl
      refine ⟨by simp [h1], fun i a b ha hb => ?_⟩
      cases i with
      | zero => simp at ha hb; subst ha; subst hb; exact asD_le hy
      | succ i => exact h2 i a b (by simpa using ha) (by simpa using hb)
    · cases h
def projCells : (l : List VK) → List XV → Option (CellsT l × Lab)
  | [], cs => match cs with
    | [] => some ((), [])
    | _ => none
  | .d t :: r, cs => match allXt (cs.take t.size) with
    | some ds => match t.dec ds with
      | some (x, []) => match projCells r (cs.drop t.size) with
        | some (xs, τ) => some ((x, xs), τ)
        | none => none
      | _ => none
    | none => none
  | .p k off :: r, cs => match cs with
    | c :: cs' => match (VK.p k off).proj c with
      | some (x, σ) => match projCells r cs' with
        | some (xs, τ) => some ((x, xs), σ ++ τ)
        | none => none
      | none => none
    | [] => none
  | .z k off :: r, cs => match cs with
    | c :: cs' => match (VK.z k off).proj c with
      | some (x, σ) => match projCells r cs' with
        | some (xs, τ) => some ((x, xs), σ ++ τ)
        | none => none
      | none => none
    | [] => none
  | .tip n t ty :: r, cs => match cs with
    | c :: cs' => match (VK.tip n t ty).proj c with
      | some (x, σ) => match projCells r cs' with
        | some (xs, τ) => some ((x, xs), σ ++ τ)
        | none => none
      | none => none
    | [] => none
def tyEqO (a b : Option TypeId) : Bool :=
  match a, b with
  | none, none => true
  | some x, some y => Nat.beq x y
  | _, _ => false
theorem tyEqO_eq {a b : Option TypeId} (h : tyEqO a b = true) : a = b := by
  unfold tyEqO at h
  split at h
  · rfl
  · rw [Nat.eq_of_beq_eq_true h]
  · cases h
def projObjs (objs : List (Nat × XOb)) : (l : List (Nat × List VK × Option TypeId)) → Option (ObjsT l × Lab)
  | [] => some ((), [])
  | p :: r => match lk p.1 objs with
    | some (.cells cs ty) => cond (tyEqO ty p.2.2) (match projCells p.2.1 cs with
      | some (x, σ) => match projObjs objs r with
        | some (xs, τ) => some ((x, xs), σ ++ τ)
        | none => none
      | none => none) none
    | _ => none
def projOwn (env : List (Nat × XV)) (objs : List (Nat × XOb)) : (l : List (Tmp × Nat × Ty)) → Option (OwnT l × List (Nat × Nat))
  | [] => some ((), [])
  | p :: r => match lk p.1 env, projOwn env objs r with
    | some (.os k ty a len), some (xs, τ) => match lk k objs with
      | some (.arr tu l) => if h : tu.eqb p.2.2 = true then cond (ty.eqb p.2.2) (cond (Nat.beq a 0) (some ((some (Ty.eqb_eq h ▸ l, len), xs), (p.2.1, k) :: τ)) none) none else none
      | _ => none
    | some (.d (.v (.slice none 0 0))), some (xs, τ) => some ((none, xs), τ)
    | _, _ => none
def projArrs (objs : List (Nat × XOb)) : (l : List (Nat × OK)) → Option (ArrsT l)
  | [] => some ()
  | p :: r => match lk p.1 objs, projArrs objs r with
    | some o, some xs => match p.2.dec o with
      | some y => some (y, xs)
      | none => none
    | _, _ => none
def keptEnv (s : XSt) (ns : List Nat) : List Tmp → Bool
  | [] => true
  | t :: r => cond (inl t s.wl) false (match lk t s.env with
    | some x => cond (isFree ns x.a) (keptEnv s ns r) false
    | none => false)
def keptObjs (s : XSt) (ns : List Nat) : List Nat → Bool
  | [] => true
  | t :: r => cond (inl t s.ol) false (match lk t s.objs with
    | some x => cond (obFree ns x.o) (keptObjs s ns r) false
    | none => false)
def oldLabs : Lab → List Nat
  | [] => []
  | (_, some m) :: r => m :: oldLabs r
  | (_, none) :: r => oldLabs r
def subL (a b : List Nat) : Bool :=
  match a with
  | [] => true
  | x :: r => cond (inl x b) (subL r b) false
def nodupL : List Nat → Bool
  | [] => true
  | x :: r => cond (inl x r) false (nodupL r)
def slotsOf : List (Tmp × VK) → List Nat
  | [] => []
  | p :: r => p.1 :: slotsOf r
def namesOf : List (Nat × List VK × Option TypeId) → List Nat
  | [] => []
  | p :: r => p.1 :: namesOf r
def apart (a b : List Nat) : Bool :=
  match a with
  | [] => true
  | x :: r => cond (inl x b) false (apart r b)
theorem apart_spec : ∀ {a b : List Nat}, apart a b = true → ∀ x ∈ a, x ∉ b
  | [], b, _ => by simp
  | y :: r, b, h => by
    simp only [apart] at h
    cases hy : inl y b with
    | true => simp [hy] at h
    | false =>
      simp only [hy, cond_false] at h
      intro x hx
      rcases List.mem_cons.1 hx with rfl | hx
      · intro hm; rw [(inl_eq _ _).2 hm] at hy; cases hy
      · exact apart_spec h x hx
def ownSlots : List (Tmp × Nat × Ty) → List Nat
  | [] => []
  | p :: r => p.1 :: ownSlots r
def VK.okp (ns : List Nat) : VK → Bool
  | .p k _ => cond (inl k ns) false true
  | .z k _ => cond (inl k ns) false true
  | _ => true
def okVars (ns : List Nat) : List (Tmp × VK) → Bool
  | [] => true
  | p :: r => cond (p.2.okp ns) (okVars ns r) false
def okCells (ns : List Nat) : List VK → Bool
  | [] => true
  | p :: r => cond (p.okp ns) (okCells ns r) false
def okObjs (ns : List Nat) : List (Nat × List VK × Option TypeId) → Bool
  | [] => true
  | p :: r => cond (okCells ns p.2.1) (okObjs ns r) false
def ownOk {α : Type} (c : Cut) (ν : List (Nat × Nat)) (x : Option α) : Option α :=
  cond (nodupL (ownNames c.own)) (cond (apart (ownNames c.own) c.others) (cond (nodupL (ν.map (·.2))) (cond (apart (ν.map (·.2)) c.others) (cond ((ownNames c.own).all (Nat.ble 1000)) (cond (apart c.labs (ownNames c.own)) (cond (okVars (ownNames c.own) c.vars) (cond (okObjs (ownNames c.own) c.objs) (cond (okArrs (c.labs ++ ownNames c.own) c.arrs) x none) none) none) none) none) none) none) none) none
def proj (nm : List Nat) (kl : List Nat) (c : Cut) (s : XSt) : Option c.T :=
  match projVars s.env c.vars, projObjs s.objs c.objs, projOwn s.env s.objs c.own, projArrs s.objs c.arrs with
  | some (x, σ), some (y, τ), some (u, ν), some v =>
    cond (keptEnv s (c.labs ++ ownNames c.own) c.keepS) (cond (keptObjs s (c.labs ++ ownNames c.own) c.keepO) (cond (subL (oldLabs (σ ++ τ) ++ kl) s.live)
      (cond (nodupL (oldLabs (σ ++ τ) ++ kl)) (cond (nodupL (c.labs ++ kl)) (cond (subL nm c.others) (cond (apart c.keepS (slotsOf c.vars ++ ownSlots c.own)) (cond (apart c.keepO (namesOf c.objs ++ (ownNames c.own ++ arrNames c.arrs))) (ownOk c ν (some (x, y, u, v))) none) none) none) none) none) none) none) none
  | _, _, _, _ => none
def cutGh (g : Gh) (τ : Lab) (keepL : List Nat) (ν : List (Nat × Nat)) : Gh :=
  { g with ρ := fun j => match lk j ν with | some k => g.ρ k | none => g.ρ j, β := fun n => cond (inl n keepL) (g.β n) (match lk n τ with
    | some (some m) => g.β m
    | some none => some none
    | none => none) }
theorem subL_spec : ∀ {a b : List Nat}, subL a b = true → ∀ x ∈ a, x ∈ b
  | [], b, _ => by simp
  | y :: r, b, h => by
    simp only [subL] at h
    cases hy : inl y b with
    | false => simp [hy] at h
    | true =>
      simp only [hy, cond_true] at h
      intro x hx
      rcases List.mem_cons.1 hx with rfl | hx
      · exact (inl_eq _ _).1 hy
      · exact subL_spec h x hx
theorem nodupL_spec : ∀ {a : List Nat}, nodupL a = true → a.Nodup
  | [], _ => .nil
  | y :: r, h => by
    simp only [nodupL] at h
    cases hy : inl y r with
    | true => simp [hy] at h
    | false =>
      simp only [hy, cond_false] at h
      refine List.nodup_cons.2 ⟨fun hm => ?_, nodupL_spec h⟩
      rw [(inl_eq _ _).2 hm] at hy
      cases hy
theorem VK.proj_ra {v : VK} {x : XV} {y : v.T} {σ : Lab} (h : v.proj x = some (y, σ)) {g g' : Gh} {w : World} {u : Value} {ns : List Nat} (hγ : g'.γ = g.γ) (hρ : ∀ k, k ∉ ns → g'.ρ k = g.ρ k) (hok : v.okp ns = true)
    (hσ : ∀ n m, (n, some m) ∈ σ → ∀ ob, g'.β n = some ob → g.β m = some ob) (hr : RA g w x.a u) : RA g' w (v.val y).a u := by
  cases v with
  | d t =>
    simp only [VK.proj] at h
    split at h
    · rename_i y' hy
      cases h
      have hle : ALe x.a (.d (t.dv y)) := decXV_le hy
      have := hle g w u hr
      cases this with
      | d _ _ h1 => exact .d _ _ (hγ ▸ h1)
    · cases h
  | tip n t ty =>
    change projTip n t ty x = some (y, σ) at h
    unfold projTip at h
    split at h
    · rename_i m u' l' ty''
      split at h
      · rename_i he
        have e0 := Ty.eqb_eq he
        subst e0
        cases ht : tyLe ty'' ty with
        | false => simp [ht] at h
        | true =>
          simp only [ht, cond_true, Option.some.injEq, Prod.mk.injEq] at h
          obtain ⟨rfl, rfl⟩ := h
          simp only [XV.a] at hr
          cases hr with
          | tip _ _ _ _ _ h1 h2 =>
            refine .tip _ _ _ _ _ (hγ ▸ h1) ?_
            unfold TipOk at h2 ⊢
            split at h2
            · rename_i a len cap
              intro ob hob
              obtain ⟨a1, a2, a3, a4, a5⟩ := h2 ob (hσ n m (by simp) ob hob)
              refine ⟨a1, a2, by rw [hγ]; exact a3, a4, fun e hte => ?_⟩
              refine a5 e ?_
              subst hte
              simp only [tyLe] at ht
              split at ht
              · rw [Nat.eq_of_beq_eq_true ht]
              · cases ht
            · trivial
      · cases h
    · simp only [Option.some.injEq, Prod.mk.injEq] at h
      obtain ⟨rfl, rfl⟩ := h
      simp only [XV.a, XD.d] at hr
      cases hr with
      | d _ _ h1 =>
        cases h1
        exact .tip _ _ _ _ _ (.nil _ none 0 fun _ => rfl) trivial
    · cases h
  | p k off =>
    change projPtr k off x = some (y, σ) at h
    unfold projPtr at h
    split at h
    · rename_i k' off'
      cases h1 : Nat.beq k' k with
      | false => simp [h1] at h
      | true =>
        cases h2 : Nat.beq off' off with
        | false => simp [h1, h2] at h
        | true =>
          have e1 := Nat.eq_of_beq_eq_true h1
          have e2 := Nat.eq_of_beq_eq_true h2
          subst e1; subst e2
          simp only [XV.a] at hr
          cases hr with
          | nm _ _ _ h => exact .nm _ _ _ (by
              rw [hρ]
              · exact h
              · intro hm
                simp [VK.okp, (inl_eq _ _).2 hm] at hok)
    · cases h
  | z k off =>
    change projZ k off x = some (y, σ) at h
    have hk : k ∉ ns := by
      intro hm
      simp [VK.okp, (inl_eq _ _).2 hm] at hok
    unfold projZ at h
    split at h
    · rename_i k' off'
      cases h1 : Nat.beq k' k with
      | false => simp [h1] at h
      | true =>
        cases h2 : Nat.beq off' off with
        | false => simp [h1, h2] at h
        | true =>
          have e1 := Nat.eq_of_beq_eq_true h1
          have e2 := Nat.eq_of_beq_eq_true h2
          subst e1; subst e2
          simp only [h1, h2, cond_true, Option.some.injEq, Prod.mk.injEq] at h
          obtain ⟨rfl, rfl⟩ := h
          simp only [XV.a] at hr
          cases hr with
          | nm _ _ _ h => exact .nm _ _ _ (by rw [hρ _ hk]; exact h)
    · rename_i k' b off'
      cases h1 : Nat.beq k' k with
      | false => simp [h1] at h
      | true =>
        cases h2 : Nat.beq off' off with
        | false => simp [h1, h2] at h
        | true =>
          have e1 := Nat.eq_of_beq_eq_true h1
          have e2 := Nat.eq_of_beq_eq_true h2
          subst e1; subst e2
          simp only [h1, h2, cond_true, Option.some.injEq, Prod.mk.injEq] at h
          obtain ⟨rfl, rfl⟩ := h
          simp only [XV.a] at hr
          cases hr with
          | nm _ _ _ h => exact .nm _ _ _ (by rw [hρ _ hk]; exact h)
    · cases h
      simp only [XV.a, XD.d] at hr
      cases hr with
      | d _ _ h1 =>
        cases h1
        exact .nm _ _ _ rfl
    · cases h
end Go.Xl
set_option linter.unusedVariables false
set_option linter.unusedSimpArgs false
set_option linter.unnecessarySimpa false
namespace Go.Xl
open Go.Ab
theorem projTip_labs {n : Nat} {t : Ty} {ty : Option TypeId} {x : XV} {y : List t.T} {σ : Lab} (h : projTip n t ty x = some (y, σ)) : σ.map (·.1) = [n] := by
  unfold projTip at h
  split at h
  · split at h
    · rename_i m u' l' ty'' he
      cases ht : tyLe ty'' ty with
      | false => simp [ht] at h
      | true => simp only [ht, cond_true, Option.some.injEq, Prod.mk.injEq] at h; rw [← h.2]; rfl
    · cases h
  · simp only [Option.some.injEq, Prod.mk.injEq] at h; rw [← h.2]; rfl
  · cases h
theorem projD_labs {t : Ty} {x : XV} {y : t.T} {σ : Lab} (h : (VK.d t).proj x = some (y, σ)) : σ = [] := by
  simp only [VK.proj] at h
  split at h
  · cases h; rfl
  · cases h
theorem projP_labs {k off : Nat} {x : XV} {y : Unit} {σ : Lab} (h : (VK.p k off).proj x = some (y, σ)) : σ = [] := by
  change projPtr k off x = some (y, σ) at h
  unfold projPtr at h
  split at h
  · rename_i k' off'
    cases h1 : Nat.beq k' k with
    | false => simp [h1] at h
    | true =>
      cases h2 : Nat.beq off' off with
      | false => simp [h1, h2] at h
      | true => simp only [h1, h2, cond_true, Option.some.injEq, Prod.mk.injEq] at h; exact h.2.symm
  · cases h
theorem projZ_labs {k off : Nat} {x : XV} {y : Bool} {σ : Lab} (h : (VK.z k off).proj x = some (y, σ)) : σ = [] := by
  change projZ k off x = some (y, σ) at h
  unfold projZ at h
  split at h
  · rename_i k' off'
    cases h1 : Nat.beq k' k with
    | false => simp [h1] at h
    | true =>
      cases h2 : Nat.beq off' off with
      | false => simp [h1, h2] at h
      | true => simp only [h1, h2, cond_true, Option.some.injEq, Prod.mk.injEq] at h; exact h.2.symm
  · rename_i k' b off'
    cases h1 : Nat.beq k' k with
    | false => simp [h1] at h
    | true =>
      cases h2 : Nat.beq off' off with
      | false => simp [h1, h2] at h
      | true => simp only [h1, h2, cond_true, Option.some.injEq, Prod.mk.injEq] at h; exact h.2.symm
  · cases h; rfl
  · cases h
theorem projVars_labs {env : List (Nat × XV)} : ∀ {l : List (Tmp × VK)} {x : VarsT l} {σ : Lab}, projVars env l = some (x, σ) → σ.map (·.1) = labsOfVars l
  | [], x, σ, h => by simp [projVars] at h; rw [h]; rfl
  | (t, v) :: r, x, σ, h => by
    unfold projVars at h
    split at h
    · rename_i z hz
      split at h
      · rename_i y σ1 hy
        split at h
        · rename_i ys τ hys
          simp only [Option.some.injEq, Prod.mk.injEq] at h
          rw [← h.2, List.map_append, projVars_labs hys]
          cases v with
          | d t => rw [projD_labs hy]; rfl
          | tip n t ty => rw [projTip_labs hy]; rfl
          | p k off => rw [projP_labs hy]; rfl
          | z k off => rw [projZ_labs hy]; rfl
        · cases h
      · cases h
    · cases h
theorem projCells_labs : ∀ {l : List VK} {cs : List XV} {x : CellsT l} {σ : Lab}, projCells l cs = some (x, σ) → σ.map (·.1) = labsOfCells l
  | [], cs, x, σ, h => by
    unfold projCells at h
    split at h
    · cases h; rfl
    · cases h
  | .d t :: r, cs, x, σ, h => by
    unfold projCells at h
    split at h
    · split at h
      · split at h
        · rename_i ys τ hys
          cases h
          exact projCells_labs (l := r) hys
        · cases h
      · cases h
    · cases h
  | .p k off :: r, cs, x, σ, h => by
    unfold projCells at h
    split at h
    · split at h
      · rename_i y σ1 hy
        split at h
        · rename_i ys τ hys
          cases h
          rw [List.map_append, projP_labs hy, projCells_labs hys]; rfl
        · cases h
      · cases h
    · cases h
  | .z k off :: r, cs, x, σ, h => by
    unfold projCells at h
    split at h
    · split at h
      · rename_i y σ1 hy
        split at h
        · rename_i ys τ hys
          cases h
          rw [List.map_append, projZ_labs hy, projCells_labs hys]; rfl
        · cases h
      · cases h
    · cases h
  | .tip n t ty :: r, cs, x, σ, h => by
    unfold projCells at h
    split at h
    · split at h
      · rename_i y σ1 hy
        split at h
        · rename_i ys τ hys
          cases h
          rw [List.map_append, projTip_labs hy, projCells_labs hys]; rfl
        · cases h
      · cases h
    · cases h
theorem projObjs_labs {objs : List (Nat × XOb)} : ∀ {l : List (Nat × List VK × Option TypeId)} {x : ObjsT l} {σ : Lab}, projObjs objs l = some (x, σ) → σ.map (·.1) = labsOfObjs l
  | [], x, σ, h => by simp [projObjs] at h; rw [h]; rfl
  | p :: r, x, σ, h => by
    unfold projObjs at h
    split at h
    · rename_i cs ty hk
      cases ht : tyEqO ty p.2.2 with
      | false => simp [ht] at h
      | true =>
        simp only [ht, cond_true] at h
        split at h
        · rename_i y σ1 hy
          split at h
          · rename_i ys τ hys
            cases h
            rw [List.map_append, projCells_labs hy, projObjs_labs hys]; rfl
          · cases h
        · cases h
    · cases h
def CellsOk (g : Gh) (w : World) (cs : List XV) (vs : List Value) : Prop := ∀ (i : Nat) x v, cs[i]? = some x → vs[i]? = some v → RA g w x.a v
theorem CellsOk.split {g : Gh} {w : World} {a b : List XV} {vs : List Value} (h : CellsOk g w a (vs.take a.length)) (h' : CellsOk g w b (vs.drop a.length)) : CellsOk g w (a ++ b) vs := by
  intro i x v hx hv
  rw [List.getElem?_append] at hx
  split at hx
  · rename_i hlt
    refine h i x v hx ?_
    rw [List.getElem?_take, if_pos hlt]; exact hv
  · refine h' (i - a.length) x v hx ?_
    rw [List.getElem?_drop, show a.length + (i - a.length) = i by omega]; exact hv
theorem allX_map : ∀ {cs : List XV} {ds : List XD}, allX cs = some ds → cs = ds.map .d
  | [], ds, h => by simp [allX] at h; subst h; rfl
  | x :: r, ds, h => by
    cases x with
    | d x =>
      simp only [allX] at h
      split at h
      · rename_i l hl
        cases h
        rw [allX_map hl]; rfl
      · cases h
    | _ => simp [allX] at h
theorem okCells_cons {ns : List Nat} {v : VK} {r : List VK} (h : okCells ns (v :: r) = true) : v.okp ns = true ∧ okCells ns r = true := by
  simp only [okCells] at h
  cases hv : v.okp ns with
  | false => simp [hv] at h
  | true => simp only [hv, cond_true] at h; exact ⟨rfl, h⟩
theorem projCells_ra {g g' : Gh} {w : World} {ns : List Nat} (hγ : g'.γ = g.γ) (hρ : ∀ k, k ∉ ns → g'.ρ k = g.ρ k) : ∀ {l : List VK} {cs : List XV} {x : CellsT l} {σ : Lab} {vs : List Value}, okCells ns l = true → projCells l cs = some (x, σ) →
    (∀ n m, (n, some m) ∈ σ → ∀ ob, g'.β n = some ob → g.β m = some ob) → CellsOk g w cs vs → CellsOk g' w (genCells l x) vs ∧ (genCells l x).length = cs.length
  | [], cs, x, σ, vs, hok, h, hσ, hc => by
    unfold projCells at h
    split at h
    · exact ⟨fun i x v hx => by simp [genCells] at hx, rfl⟩
    · cases h
  | .d t :: r, cs, x, σ, vs, hok, h, hσ, hc => by
    unfold projCells at h
    split at h
    · rename_i ds hds
      split at h
      · rename_i y hy
        split at h
        · rename_i ys τ hys
          cases h
          obtain ⟨zs, hz, hle⟩ := t.dec_spec hy
          simp only [dsOf, List.append_nil] at hz
          subst hz
          have hm := allXt_get hds
          have hlen : ds.length = t.size := by rw [← dsOf_length, hle.length, Ty.ds_length]
          have hle1 : t.size ≤ cs.length := by
            have : (cs.take t.size).length = ds.length := hm.1
            rw [List.length_take, hlen] at this; omega
          have ih := projCells_ra hγ hρ (vs := vs.drop t.size) (okCells_cons hok).2 hys hσ (by
            intro i x v hx hv
            rw [List.getElem?_drop] at hx hv
            exact hc _ x v hx hv)
          simp only [genCells, VK.cells]
          refine ⟨CellsOk.split ?_ (by simpa [Ty.enc_length] using ih.1), by simp [Ty.enc_length, ih.2]; omega⟩
          intro i x v hx hv
          rw [List.getElem?_map, Option.map_eq_some_iff] at hx
          obtain ⟨z, hz, rfl⟩ := hx
          simp only [List.length_map] at hv
          rw [List.getElem?_take] at hv
          split at hv
          · have hd : (t.ds y)[i]? = some z.d := by rw [← Ty.enc_ds, dsOf_map, List.getElem?_map, hz]; rfl
            obtain ⟨u, hu, hule⟩ := hle.get hd
            rw [dsOf_map, List.getElem?_map, Option.map_eq_some_iff] at hu
            obtain ⟨u', hu', rfl⟩ := hu
            have hi : i < t.size := by
              have := (List.getElem?_eq_some_iff.1 hu').1; omega
            obtain ⟨c0, hcs⟩ : ∃ c0, cs[i]? = some c0 := ⟨_, List.getElem?_eq_getElem (by omega)⟩
            have hct : (cs.take t.size)[i]? = some c0 := by rw [List.getElem?_take, if_pos hi]; exact hcs
            have := hm.2 i c0 u' hct hu' g w v (hc i _ v hcs hv)
            have := ALe.d hule g w v this
            simp only [XV.a]
            cases this with
            | d _ _ h1 => exact .d _ _ (hγ ▸ h1)
          · cases hv
        · cases h
      · cases h
    · cases h
  | .tip n t ty :: r, cs, x, σ, vs, hok, h, hσ, hc => by
    unfold projCells at h
    split at h
    · rename_i c cs'
      split at h
      · rename_i y σ1 hy
        split at h
        · rename_i ys τ hys
          cases h
          have ih := projCells_ra hγ hρ (vs := vs.drop 1) (okCells_cons hok).2 hys (fun n m hm => hσ n m (List.mem_append_right _ hm)) (by
            intro i x v hx hv
            rw [List.getElem?_drop] at hv
            exact hc (i + 1) x v (by simpa using hx) (by rw [Nat.add_comm]; exact hv))
          simp only [genCells, VK.cells]
          refine ⟨CellsOk.split (a := [_]) ?_ (by simpa using ih.1), by simp [ih.2]⟩
          intro i x v hx hv
          cases i with
          | succ i => simp at hx
          | zero =>
            simp at hx
            subst hx
            have hv' : vs[0]? = some v := by
              rw [List.getElem?_take] at hv; simpa using hv
            exact VK.proj_ra (v := .tip n t ty) hy hγ hρ (okCells_cons hok).1 (fun n m hm => hσ n m (List.mem_append_left _ hm)) (hc 0 c v rfl hv')
        · cases h
      · cases h
    · cases h
  | .p k off :: r, cs, x, σ, vs, hok, h, hσ, hc => by
    unfold projCells at h
    split at h
    · rename_i c cs'
      split at h
      · rename_i y σ1 hy
        split at h
        · rename_i ys τ hys
          cases h
          have ih := projCells_ra hγ hρ (vs := vs.drop 1) (okCells_cons hok).2 hys (fun n m hm => hσ n m (List.mem_append_right _ hm)) (by
            intro i x v hx hv
            rw [List.getElem?_drop] at hv
            exact hc (i + 1) x v (by simpa using hx) (by rw [Nat.add_comm]; exact hv))
          simp only [genCells, VK.cells]
          refine ⟨CellsOk.split (a := [_]) ?_ (by simpa using ih.1), by simp [ih.2]⟩
          intro i x v hx hv
          cases i with
          | succ i => simp at hx
          | zero =>
            simp at hx
            subst hx
            have hv' : vs[0]? = some v := by
              rw [List.getElem?_take] at hv; simpa using hv
            exact VK.proj_ra (v := .p k off) hy hγ hρ (okCells_cons hok).1 (fun n m hm => hσ n m (List.mem_append_left _ hm)) (hc 0 c v rfl hv')
        · cases h
      · cases h
    · cases h
  | .z k off :: r, cs, x, σ, vs, hok, h, hσ, hc => by
    unfold projCells at h
    split at h
    · rename_i c cs'
      split at h
      · rename_i y σ1 hy
        split at h
        · rename_i ys τ hys
          cases h
          have ih := projCells_ra hγ hρ (vs := vs.drop 1) (okCells_cons hok).2 hys (fun n m hm => hσ n m (List.mem_append_right _ hm)) (by
            intro i x v hx hv
            rw [List.getElem?_drop] at hv
            exact hc (i + 1) x v (by simpa using hx) (by rw [Nat.add_comm]; exact hv))
          simp only [genCells, VK.cells]
          refine ⟨CellsOk.split (a := [_]) ?_ (by simpa using ih.1), by simp [ih.2]⟩
          intro i x v hx hv
          cases i with
          | succ i => simp at hx
          | zero =>
            simp at hx
            subst hx
            have hv' : vs[0]? = some v := by
              rw [List.getElem?_take] at hv; simpa using hv
            exact VK.proj_ra (v := .z k off) hy hγ hρ (okCells_cons hok).1 (fun n m hm => hσ n m (List.mem_append_left _ hm)) (hc 0 c v rfl hv')
        · cases h
      · cases h
    · cases h
theorem lk_mem {α : Type} {k : Nat} {x : α} : ∀ {l : List (Nat × α)}, lk k l = some x → (k, x) ∈ l
  | [], h => by cases h
  | p :: r, h => by
    simp only [lk] at h
    cases hb : Nat.beq p.1 k with
    | true =>
      simp only [hb, cond_true, Option.some.injEq] at h
      have := Nat.eq_of_beq_eq_true hb
      subst h; subst this
      exact List.mem_cons_self
    | false =>
      simp only [hb, cond_false] at h
      exact List.mem_cons_of_mem _ (lk_mem h)
theorem lk_none {α : Type} {k : Nat} : ∀ {l : List (Nat × α)}, lk k l = none → k ∉ l.map (·.1)
  | [], _ => by simp
  | p :: r, h => by
    simp only [lk] at h
    cases hb : Nat.beq p.1 k with
    | true => simp [hb] at h
    | false =>
      simp only [hb, cond_false] at h
      have : p.1 ≠ k := Nat.ne_of_beq_eq_false hb
      simp only [List.map_cons, List.mem_cons, not_or]
      exact ⟨Ne.symm this, lk_none h⟩
theorem lk_isSome {α : Type} {k : Nat} {l : List (Nat × α)} (h : k ∈ l.map (·.1)) : ∃ x, lk k l = some x := by
  cases hl : lk k l with
  | some x => exact ⟨x, rfl⟩
  | none => exact absurd h (lk_none hl)
theorem lk_of_mem {α : Type} {k : Nat} {x : α} : ∀ {l : List (Nat × α)}, (l.map (·.1)).Nodup → (k, x) ∈ l → lk k l = some x
  | [], _, h => by simp at h
  | p :: r, hnd, h => by
    simp only [List.map_cons, List.nodup_cons] at hnd
    simp only [lk]
    rcases List.mem_cons.1 h with h' | h'
    · subst h'; simp
    · have hne : p.1 ≠ k := fun he => hnd.1 (he ▸ List.mem_map_of_mem (f := (·.1)) h')
      rw [nbF hne]
      exact lk_of_mem hnd.2 h'
theorem okVars_cons {ns : List Nat} {v : Tmp × VK} {r : List (Tmp × VK)} (h : okVars ns (v :: r) = true) : v.2.okp ns = true ∧ okVars ns r = true := by
  simp only [okVars] at h
  cases hv : v.2.okp ns with
  | false => simp [hv] at h
  | true => simp only [hv, cond_true] at h; exact ⟨rfl, h⟩
theorem okObjs_cons {ns : List Nat} {v : Nat × List VK × Option TypeId} {r : List (Nat × List VK × Option TypeId)} (h : okObjs ns (v :: r) = true) : okCells ns v.2.1 = true ∧ okObjs ns r = true := by
  simp only [okObjs] at h
  cases hv : okCells ns v.2.1 with
  | false => simp [hv] at h
  | true => simp only [hv, cond_true] at h; exact ⟨rfl, h⟩
theorem projVars_mem {env : List (Nat × XV)} : ∀ {l : List (Tmp × VK)} {x : VarsT l} {σ : Lab} {t : Nat} {y : XV}, projVars env l = some (x, σ) → (t, y) ∈ genVars l x →
    ∃ (v : VK) (z : XV) (u : v.T) (σ' : Lab), lk t env = some z ∧ v.proj z = some (u, σ') ∧ y = v.val u ∧ (∀ p ∈ σ', p ∈ σ) ∧ ∀ ns, okVars ns l = true → v.okp ns = true
  | [], x, σ, t, y, h, hm => by simp [genVars] at hm
  | p :: r, x, σ, t, y, h, hm => by
    unfold projVars at h
    split at h
    · rename_i z hz
      split at h
      · rename_i u σ1 hu
        split at h
        · rename_i ys τ hys
          cases h
          simp only [genVars, List.mem_cons] at hm
          rcases hm with hm | hm
          · cases hm
            exact ⟨p.2, z, u, σ1, hz, hu, rfl, fun q hq => List.mem_append_left _ hq, fun ns hn => (okVars_cons hn).1⟩
          · obtain ⟨v, z, u, σ', h1, h2, h3, h4, h5⟩ := projVars_mem hys hm
            exact ⟨v, z, u, σ', h1, h2, h3, fun q hq => List.mem_append_right _ (h4 q hq), fun ns hn => h5 ns (okVars_cons hn).2⟩
        · cases h
      · cases h
    · cases h
theorem projObjs_mem {objs : List (Nat × XOb)} : ∀ {l : List (Nat × List VK × Option TypeId)} {x : ObjsT l} {σ : Lab} {k : Nat} {y : XOb}, projObjs objs l = some (x, σ) → (k, y) ∈ genObjs l x →
    ∃ (vs : List VK) (cs : List XV) (ty : Option TypeId) (u : CellsT vs) (σ' : Lab), lk k objs = some (.cells cs ty) ∧ projCells vs cs = some (u, σ') ∧ y = .cells (genCells vs u) ty ∧ (∀ p ∈ σ', p ∈ σ) ∧ k ∈ l.map (·.1) ∧ ∀ ns, okObjs ns l = true → okCells ns vs = true
  | [], x, σ, k, y, h, hm => by simp [genObjs] at hm
  | p :: r, x, σ, k, y, h, hm => by
    unfold projObjs at h
    split at h
    · rename_i cs ty hk
      cases ht : tyEqO ty p.2.2 with
      | false => simp [ht] at h
      | true =>
        simp only [ht, cond_true] at h
        have := tyEqO_eq ht
        split at h
        · rename_i u σ1 hu
          split at h
          · rename_i ys τ hys
            cases h
            simp only [genObjs, List.mem_cons] at hm
            rcases hm with hm | hm
            · cases hm
              exact ⟨p.2.1, cs, ty, u, σ1, hk, hu, by rw [this], fun q hq => List.mem_append_left _ hq, List.mem_cons_self, fun ns hn => (okObjs_cons hn).1⟩
            · obtain ⟨vs, cs, ty, u, σ', h1, h2, h3, h4, h6, h5⟩ := projObjs_mem hys hm
              exact ⟨vs, cs, ty, u, σ', h1, h2, h3, fun q hq => List.mem_append_right _ (h4 q hq), List.mem_cons_of_mem _ h6, fun ns hn => h5 ns (okObjs_cons hn).2⟩
          · cases h
        · cases h
    · cases h
theorem keepEnv_mem {env : List (Nat × XV)} : ∀ {l : List Tmp} {t : Nat} {y : XV}, (t, y) ∈ keepEnv env l → t ∈ l ∧ lk t env = some y
  | [], t, y, h => by simp [keepEnv] at h
  | a :: r, t, y, h => by
    unfold keepEnv at h
    split at h
    · rename_i x hx
      rcases List.mem_cons.1 h with h | h
      · cases h; exact ⟨List.mem_cons_self, hx⟩
      · have := keepEnv_mem h; exact ⟨List.mem_cons_of_mem _ this.1, this.2⟩
    · have := keepEnv_mem h; exact ⟨List.mem_cons_of_mem _ this.1, this.2⟩
theorem keepObjs_mem {objs : List (Nat × XOb)} : ∀ {l : List Nat} {t : Nat} {y : XOb}, (t, y) ∈ keepObjs objs l → t ∈ l ∧ lk t objs = some y
  | [], t, y, h => by simp [keepObjs] at h
  | a :: r, t, y, h => by
    unfold keepObjs at h
    split at h
    · rename_i x hx
      rcases List.mem_cons.1 h with h | h
      · cases h; exact ⟨List.mem_cons_self, hx⟩
      · have := keepObjs_mem h; exact ⟨List.mem_cons_of_mem _ this.1, this.2⟩
    · have := keepObjs_mem h; exact ⟨List.mem_cons_of_mem _ this.1, this.2⟩
theorem notIn {a : Nat} {l : List Nat} (hw : inl a l = false) : a ∉ l := by
  intro hm
  rw [(inl_eq _ _).2 hm] at hw
  cases hw
theorem keptEnv_spec {s : XSt} {ns : List Nat} : ∀ {l : List Tmp}, keptEnv s ns l = true → ∀ t ∈ l, t ∉ s.wl ∧ ∃ x, lk t s.env = some x ∧ isFree ns x.a = true
  | [], _ => by simp
  | a :: r, h => by
    unfold keptEnv at h
    cases hw : inl a s.wl with
    | true => simp [hw] at h
    | false =>
      simp only [hw, cond_false] at h
      split at h
      · rename_i x hx
        cases hf : isFree ns x.a with
        | false => simp [hf] at h
        | true =>
          simp only [hf, cond_true] at h
          intro t ht
          rcases List.mem_cons.1 ht with rfl | ht
          · exact ⟨notIn hw, x, hx, hf⟩
          · exact keptEnv_spec h t ht
      · cases h
theorem keptObjs_spec {s : XSt} {ns : List Nat} : ∀ {l : List Nat}, keptObjs s ns l = true → ∀ t ∈ l, t ∉ s.ol ∧ ∃ x, lk t s.objs = some x ∧ obFree ns x.o = true
  | [], _ => by simp
  | a :: r, h => by
    unfold keptObjs at h
    cases hw : inl a s.ol with
    | true => simp [hw] at h
    | false =>
      simp only [hw, cond_false] at h
      split at h
      · rename_i x hx
        cases hf : obFree ns x.o with
        | false => simp [hf] at h
        | true =>
          simp only [hf, cond_true] at h
          intro t ht
          rcases List.mem_cons.1 ht with rfl | ht
          · exact ⟨notIn hw, x, hx, hf⟩
          · exact keptObjs_spec h t ht
      · cases h
theorem oldLabs_mem : ∀ {τ : Lab} {m : Nat}, m ∈ oldLabs τ ↔ ∃ n, (n, some m) ∈ τ
  | [], m => by simp [oldLabs]
  | (n, some k) :: r, m => by
    simp only [oldLabs, List.mem_cons, oldLabs_mem (τ := r), Prod.mk.injEq, Option.some.injEq]
    constructor
    · rintro (rfl | ⟨n', h⟩)
      · exact ⟨n, .inl ⟨rfl, rfl⟩⟩
      · exact ⟨n', .inr h⟩
    · rintro ⟨n', ⟨rfl, rfl⟩ | h⟩
      · exact .inl rfl
      · exact .inr ⟨n', h⟩
  | (n, none) :: r, m => by
    simp only [oldLabs, List.mem_cons, oldLabs_mem (τ := r), Prod.mk.injEq, reduceCtorEq, and_false, false_or]
theorem oldLabs_inj : ∀ {τ : Lab} {n n' m : Nat}, (oldLabs τ).Nodup → (n, some m) ∈ τ → (n', some m) ∈ τ → n = n'
  | [], n, n', m, _, h, _ => by simp at h
  | (a, some k) :: r, n, n', m, hnd, h, h' => by
    simp only [oldLabs, List.nodup_cons] at hnd
    rcases List.mem_cons.1 h with h1 | h1 <;> rcases List.mem_cons.1 h' with h2 | h2
    · cases h1; cases h2; rfl
    · cases h1; exact absurd (oldLabs_mem.2 ⟨n', h2⟩) hnd.1
    · cases h2; exact absurd (oldLabs_mem.2 ⟨n, h1⟩) hnd.1
    · exact oldLabs_inj hnd.2 h1 h2
  | (a, none) :: r, n, n', m, hnd, h, h' => by
    simp only [oldLabs] at hnd
    simp only [List.mem_cons, Prod.mk.injEq, reduceCtorEq, and_false, false_or] at h h'
    exact oldLabs_inj hnd h h'
theorem imEnv_mem {l : List (Nat × XV)} {t : Nat} {x : AV} (h : (imEnv l).lookup t = some x) : ∃ y, lk t l = some y ∧ x = y.a := by
  rw [im_env] at h
  obtain ⟨y, hy, rfl⟩ := Option.map_eq_some_iff.1 h
  exact ⟨y, hy, rfl⟩
theorem imObjs_mem {l : List (Nat × XOb)} {t : Nat} {x : Ob} (h : (imObjs l).lookup t = some x) : ∃ y, lk t l = some y ∧ x = y.o := by
  rw [im_objs] at h
  obtain ⟨y, hy, rfl⟩ := Option.map_eq_some_iff.1 h
  exact ⟨y, hy, rfl⟩
theorem projOwn_memE {env : List (Nat × XV)} {objs : List (Nat × XOb)} : ∀ {l : List (Tmp × Nat × Ty)} {x : OwnT l} {ν : List (Nat × Nat)} {t : Nat} {y : XV}, projOwn env objs l = some (x, ν) → (t, y) ∈ genOwnE l x →
    (y = .d (.v (.slice none 0 0)) ∧ lk t env = some y) ∨ ∃ (n k : Nat) (ty : Ty) (len : Nat), (n, k) ∈ ν ∧ lk t env = some (.os k ty 0 len) ∧ y = .os n ty 0 len
  | [], x, ν, t, y, h, hm => by simp [genOwnE] at hm
  | p :: r, x, ν, t, y, h, hm => by
    unfold projOwn at h
    split at h
    · rename_i k ty a len xs τ hv hr
      split at h
      · rename_i tu l hk
        split at h
        · rename_i he
          cases h1 : ty.eqb p.2.2 with
          | false => simp [h1] at h
          | true =>
          cases h2 : Nat.beq a 0 with
          | false => simp [h1, h2] at h
          | true =>
            simp only [h1, h2, cond_true, Option.some.injEq, Prod.mk.injEq] at h
            obtain ⟨rfl, rfl⟩ := h
            have e1 := Ty.eqb_eq h1
            have e2 := Nat.eq_of_beq_eq_true h2
            subst e2
            simp only [genOwnE, List.mem_cons] at hm
            rcases hm with hm | hm
            · cases hm
              exact .inr ⟨p.2.1, k, ty, len, List.mem_cons_self, hv, by rw [e1]⟩
            · rcases projOwn_memE hr hm with h | ⟨n, k', ty', len', h1, h2, h3⟩
              · exact .inl h
              · exact .inr ⟨n, k', ty', len', List.mem_cons_of_mem _ h1, h2, h3⟩
        · cases h
      · cases h
    · rename_i xs τ hv hr
      simp only [Option.some.injEq, Prod.mk.injEq] at h
      obtain ⟨rfl, rfl⟩ := h
      simp only [genOwnE, List.mem_cons] at hm
      rcases hm with hm | hm
      · cases hm; exact .inl ⟨rfl, hv⟩
      · exact projOwn_memE hr hm
    · cases h
theorem projOwn_memO {env : List (Nat × XV)} {objs : List (Nat × XOb)} : ∀ {l : List (Tmp × Nat × Ty)} {x : OwnT l} {ν : List (Nat × Nat)} {n : Nat} {y : XOb}, projOwn env objs l = some (x, ν) → (n, y) ∈ genOwnO l x →
    ∃ k, (n, k) ∈ ν ∧ lk k objs = some y
  | [], x, ν, t, y, h, hm => by simp [genOwnO] at hm
  | p :: r, x, ν, t, y, h, hm => by
    unfold projOwn at h
    split at h
    · rename_i k ty a len xs τ hv hr
      split at h
      · rename_i tu l hk
        split at h
        · rename_i he
          cases h1 : ty.eqb p.2.2 with
          | false => simp [h1] at h
          | true =>
          cases h2 : Nat.beq a 0 with
          | false => simp [h1, h2] at h
          | true =>
            simp only [h1, h2, cond_true, Option.some.injEq, Prod.mk.injEq] at h
            obtain ⟨rfl, rfl⟩ := h
            simp only [genOwnO, List.mem_cons] at hm
            rcases hm with hm | hm
            · cases hm
              refine ⟨k, List.mem_cons_self, ?_⟩
              rw [hk]
              have e0 := Ty.eqb_eq he
              obtain ⟨a1, a2, a3⟩ := p
              simp only at he e0 ⊢
              subst e0
              rfl
            · obtain ⟨k', h1, h2⟩ := projOwn_memO hr hm
              exact ⟨k', List.mem_cons_of_mem _ h1, h2⟩
        · cases h
      · cases h
    · rename_i xs τ hv hr
      simp only [Option.some.injEq, Prod.mk.injEq] at h
      obtain ⟨rfl, rfl⟩ := h
      exact projOwn_memO hr hm
    · cases h
theorem projOwn_names {env : List (Nat × XV)} {objs : List (Nat × XOb)} : ∀ {l : List (Tmp × Nat × Ty)} {x : OwnT l} {ν : List (Nat × Nat)}, projOwn env objs l = some (x, ν) → ∀ p ∈ ν, p.1 ∈ ownNames l
  | [], x, ν, h => by simp [projOwn] at h; simp [h]
  | p :: r, x, ν, h => by
    unfold projOwn at h
    split at h
    · rename_i k ty a len xs τ hv hr
      split at h
      · split at h
        · cases h1 : ty.eqb p.2.2 with
          | false => simp [h1] at h
          | true =>
          cases h2 : Nat.beq a 0 with
          | false => simp [h1, h2] at h
          | true =>
            simp only [h1, h2, cond_true, Option.some.injEq, Prod.mk.injEq] at h
            obtain ⟨rfl, rfl⟩ := h
            intro q hq
            rcases List.mem_cons.1 hq with rfl | hq
            · exact List.mem_cons_self
            · exact List.mem_cons_of_mem _ (projOwn_names hr q hq)
        · cases h
      · cases h
    · rename_i xs τ hv hr
      simp only [Option.some.injEq, Prod.mk.injEq] at h
      obtain ⟨rfl, rfl⟩ := h
      intro q hq
      exact List.mem_cons_of_mem _ (projOwn_names hr q hq)
    · cases h
theorem projOwn_nodup {env : List (Nat × XV)} {objs : List (Nat × XOb)} : ∀ {l : List (Tmp × Nat × Ty)} {x : OwnT l} {ν : List (Nat × Nat)}, projOwn env objs l = some (x, ν) → (ownNames l).Nodup → (ν.map (·.1)).Nodup
  | [], x, ν, h, _ => by simp [projOwn] at h; simp [h]
  | p :: r, x, ν, h, hnd => by
    simp only [ownNames, List.nodup_cons] at hnd
    unfold projOwn at h
    split at h
    · rename_i k ty a len xs τ hv hr
      split at h
      · split at h
        · cases h1 : ty.eqb p.2.2 with
          | false => simp [h1] at h
          | true =>
          cases h2 : Nat.beq a 0 with
          | false => simp [h1, h2] at h
          | true =>
            simp only [h1, h2, cond_true, Option.some.injEq, Prod.mk.injEq] at h
            obtain ⟨rfl, rfl⟩ := h
            simp only [List.map_cons, List.nodup_cons]
            refine ⟨fun hm => ?_, projOwn_nodup hr hnd.2⟩
            obtain ⟨q, hq, he⟩ := List.mem_map.1 hm
            exact hnd.1 (he ▸ projOwn_names hr q hq)
        · cases h
      · cases h
    · rename_i xs τ hv hr
      simp only [Option.some.injEq, Prod.mk.injEq] at h
      obtain ⟨rfl, rfl⟩ := h
      exact projOwn_nodup hr hnd.2
    · cases h
theorem projArrs_mem {objs : List (Nat × XOb)} : ∀ {l : List (Nat × OK)} {x : ArrsT l} {k : Nat} {y : XOb}, projArrs objs l = some x → (k, y) ∈ genArrs l x → lk k objs = some y ∧ k ∈ arrNames l
  | [], x, k, y, h, hm => by simp [genArrs] at hm
  | p :: r, x, k, y, h, hm => by
    unfold projArrs at h
    split at h
    · rename_i o xs hk hr
      split at h
      · rename_i z he
        cases h
        simp only [genArrs, List.mem_cons] at hm
        rcases hm with hm | hm
        · cases hm
          refine ⟨?_, List.mem_cons_self⟩
          rw [hk, OK.dec_eq he]
        · obtain ⟨h1, h2⟩ := projArrs_mem hr hm
          exact ⟨h1, List.mem_cons_of_mem _ h2⟩
      · cases h
    · cases h
end Go.Xl
set_option linter.unusedVariables false
set_option linter.unusedSimpArgs false
set_option linter.unnecessarySimpa false
namespace Go.Xl
open Go.Ab
theorem nodup_app {a b : List Nat} (h : (a ++ b).Nodup) : a.Nodup ∧ b.Nodup ∧ ∀ x ∈ a, x ∉ b := by
  rw [List.nodup_append] at h
  exact ⟨h.1, h.2.1, fun x hx hb => h.2.2 x hx x hb rfl⟩
theorem genOwnO_arr : ∀ {l : List (Tmp × Nat × Ty)} {x : OwnT l} {n : Nat} {y : XOb}, (n, y) ∈ genOwnO l x → n ∈ ownNames l ∧ ∃ t u, y = .arr t u
  | [], x, n, y, h => by simp [genOwnO] at h
  | p :: r, x, n, y, h => by
    unfold genOwnO at h
    split at h
    · exact ⟨List.mem_cons_of_mem _ (genOwnO_arr h).1, (genOwnO_arr h).2⟩
    · rcases List.mem_cons.1 h with h | h
      · cases h; exact ⟨List.mem_cons_self, _, _, rfl⟩
      · exact ⟨List.mem_cons_of_mem _ (genOwnO_arr h).1, (genOwnO_arr h).2⟩
theorem lk_imA {objs : List (Nat × XOb)} {k : Nat} {y : XOb} (h : lk k objs = some y) : (imObjs objs).lookup k = some y.o := by rw [im_objs, h]; rfl
theorem genArrs_free {ns : List Nat} : ∀ {l : List (Nat × OK)} {x : ArrsT l} {n : Nat} {y : XOb}, okArrs ns l = true → (n, y) ∈ genArrs l x → obFree ns y.o = true
  | [], x, n, y, ho, h => by simp [genArrs] at h
  | (q, ok) :: r, x, n, y, ho, h => by
    have ho' : ok.okp ns = true ∧ okArrs ns r = true := by
      simp only [okArrs] at ho
      cases hx : ok.okp ns with
      | false => simp [hx] at ho
      | true => simp only [hx, cond_true] at ho; exact ⟨rfl, ho⟩
    unfold genArrs at h
    rcases List.mem_cons.1 h with h | h
    · cases h
      cases ok with
      | arr t => exact arr_free _ _ _
      | mit m =>
        have h1 := ho'.1
        simp only [OK.okp] at h1
        show (!ns.contains m) = true
        cases hc : ns.contains m with
        | false => rfl
        | true => rw [(inl_eq m ns).2 (List.contains_iff_mem.1 hc)] at h1; cases h1
      | _ => rfl
    · exact genArrs_free ho'.2 h
theorem genArrs_names : ∀ (l : List (Nat × OK)) (x : ArrsT l), (genArrs l x).map (·.1) = arrNames l
  | [], x => rfl
  | p :: r, x => by simp only [genArrs, List.map_cons, arrNames, genArrs_names r]
theorem genObjs_names : ∀ (l : List (Nat × List VK × Option TypeId)) (y : ObjsT l), (genObjs l y).map (·.1) = l.map (·.1)
  | [], y => rfl
  | p :: r, y => by simp only [genObjs, List.map_cons, genObjs_names r]
theorem ownOk_spec {α : Type} {c : Cut} {ν : List (Nat × Nat)} {x : Option α} {y : α} (h : ownOk c ν x = some y) : (ownNames c.own).Nodup ∧ (∀ k ∈ ownNames c.own, k ∉ c.others) ∧ (ν.map (·.2)).Nodup ∧ (∀ k ∈ ν.map (·.2), k ∉ c.others) ∧
    (∀ k ∈ ownNames c.own, 1000 ≤ k) ∧ (∀ k ∈ c.labs, k ∉ ownNames c.own) ∧ okVars (ownNames c.own) c.vars = true ∧ okObjs (ownNames c.own) c.objs = true ∧ okArrs (c.labs ++ ownNames c.own) c.arrs = true ∧ x = some y := by
  unfold ownOk at h
  cases h1 : nodupL (ownNames c.own) with
  | false => simp [h1] at h
  | true =>
  cases h2 : apart (ownNames c.own) c.others with
  | false => simp [h1, h2] at h
  | true =>
  cases h3 : nodupL (ν.map (·.2)) with
  | false => simp [h1, h2, h3] at h
  | true =>
  cases h4 : apart (ν.map (·.2)) c.others with
  | false => simp [h1, h2, h3, h4] at h
  | true =>
  cases h5 : (ownNames c.own).all (Nat.ble 1000) with
  | false => simp only [h1, h2, h3, h4, h5, cond_true, cond_false] at h; cases h
  | true =>
  cases h6 : apart c.labs (ownNames c.own) with
  | false => simp only [h1, h2, h3, h4, h5, h6, cond_true, cond_false] at h; cases h
  | true =>
  cases h7 : okVars (ownNames c.own) c.vars with
  | false => simp only [h1, h2, h3, h4, h5, h6, h7, cond_true, cond_false] at h; cases h
  | true =>
  cases h8 : okObjs (ownNames c.own) c.objs with
  | false => simp only [h1, h2, h3, h4, h5, h6, h7, h8, cond_true, cond_false] at h; cases h
  | true =>
  cases h9 : okArrs (c.labs ++ ownNames c.own) c.arrs with
  | false => simp only [h1, h2, h3, h4, h5, h6, h7, h8, h9, cond_true, cond_false] at h; cases h
  | true =>
    simp only [h1, h2, h3, h4, h5, h6, h7, h8, h9, cond_true] at h
    exact ⟨nodupL_spec h1, apart_spec h2, nodupL_spec h3, apart_spec h4, fun k hk => Nat.le_of_ble_eq_true (List.all_eq_true.1 h5 k hk), apart_spec h6, rfl, rfl, rfl, h⟩
theorem proj_spec {nm kl : List Nat} {c : Cut} {s : XSt} {x : c.T} (h : proj nm kl c s = some x) : ∃ (σ τ0 : Lab) (ν : List (Nat × Nat)), projVars s.env c.vars = some (x.1, σ) ∧ projObjs s.objs c.objs = some (x.2.1, τ0) ∧
    projOwn s.env s.objs c.own = some (x.2.2.1, ν) ∧ projArrs s.objs c.arrs = some x.2.2.2 ∧ keptEnv s (c.labs ++ ownNames c.own) c.keepS = true ∧ keptObjs s (c.labs ++ ownNames c.own) c.keepO = true ∧
    (∀ n ∈ oldLabs (σ ++ τ0) ++ kl, n ∈ s.live) ∧ (oldLabs (σ ++ τ0) ++ kl).Nodup ∧ (c.labs ++ kl).Nodup ∧ (∀ k ∈ nm, k ∈ c.others) ∧ (∀ t ∈ c.keepS, t ∉ slotsOf c.vars ++ ownSlots c.own) ∧
    (∀ k ∈ c.keepO, k ∉ namesOf c.objs ++ (ownNames c.own ++ arrNames c.arrs)) ∧ ownOk c ν (some x) = some x := by
  unfold proj at h
  split at h
  · rename_i x1 σ y1 τ0 u1 ν v1 hx hy hu hv
    cases h1 : keptEnv s (c.labs ++ ownNames c.own) c.keepS with
    | false => simp [h1] at h
    | true =>
    cases h2 : keptObjs s (c.labs ++ ownNames c.own) c.keepO with
    | false => simp [h1, h2] at h
    | true =>
    cases h3 : subL (oldLabs (σ ++ τ0) ++ kl) s.live with
    | false => simp only [h1, h2, h3, cond_true, cond_false] at h; cases h
    | true =>
    cases h4 : nodupL (oldLabs (σ ++ τ0) ++ kl) with
    | false => simp only [h1, h2, h3, h4, cond_true, cond_false] at h; cases h
    | true =>
    cases h5 : nodupL (c.labs ++ kl) with
    | false => simp only [h1, h2, h3, h4, h5, cond_true, cond_false] at h; cases h
    | true =>
    cases h6 : subL nm c.others with
    | false => simp only [h1, h2, h3, h4, h5, h6, cond_true, cond_false] at h; cases h
    | true =>
    cases h7 : apart c.keepS (slotsOf c.vars ++ ownSlots c.own) with
    | false => simp only [h1, h2, h3, h4, h5, h6, h7, cond_true, cond_false] at h; cases h
    | true =>
    cases h8 : apart c.keepO (namesOf c.objs ++ (ownNames c.own ++ arrNames c.arrs)) with
    | false => simp only [h1, h2, h3, h4, h5, h6, h7, h8, cond_true, cond_false] at h; cases h
    | true =>
      simp only [h1, h2, h3, h4, h5, h6, h7, h8, cond_true] at h
      have h9 := (ownOk_spec h).2.2.2.2.2.2.2.2.2
      cases h9
      exact ⟨σ, τ0, ν, hx, hy, hu, hv, rfl, rfl, subL_spec h3, nodupL_spec h4, nodupL_spec h5, subL_spec h6, apart_spec h7, apart_spec h8, h⟩
  · cases h
theorem RA.osl_name {g g' : Gh} {w : World} {k k' off len sz : Nat} {v : Value} (h : RA g w (.osl k off len sz) v) (hk : g'.ρ k' = g.ρ k) : RA g' w (.osl k' off len sz) v := by
  cases h with
  | nm _ _ _ h => exact .nm _ _ _ (by rw [hk]; exact h)
theorem cut_sound {nm : List Nat} {c : Cut} {s s0 : XSt} {x : c.T} (h : proj nm (keepL s0 c) c s = some x) (hi1 : ∀ t ∈ c.keepS, ∀ x, t ∉ s.wl → lk t s.env = some x → lk t s0.env = some x)
    (hi2 : ∀ k ∈ c.keepO, ∀ x, k ∉ s.ol → lk k s.objs = some x → lk k s0.objs = some x) {S : Sig} {B : Base} {g : Gh} {w : World} {a : Act} (hs : SR S B g w s.im a)
    (hnm : S.names = nm) : ∃ g', SR S B g' w (gen s0 c x).im a := by
  generalize hkl : keepL s0 c = kl at h
  obtain ⟨σ, τ0, ν, hx, hy, hu, hv, h1, h2, l3, l4, l5, l6, l7, l8, hown⟩ := proj_spec h
  obtain ⟨w1, w2, w3, w4, w5, w6, w7, w8, w9, -⟩ := ownOk_spec hown
  generalize hτ : σ ++ τ0 = τ at l3 l4
  have k1 := keptEnv_spec h1
  have k2 := keptObjs_spec h2
  obtain ⟨n4a, n4b, n4c⟩ := nodup_app l4
  obtain ⟨n5a, n5b, n5c⟩ := nodup_app l5
  have hmap : τ.map (·.1) = c.labs := by
    rw [← hτ, List.map_append, projVars_labs hx, projObjs_labs hy]; rfl
  have hνn := projOwn_nodup hu w1
  have hνm := projOwn_names hu
  have hr := hs.hr
  let g' := cutGh g τ kl ν
  have hβ : ∀ n, g'.β n = cond (inl n kl) (g.β n) (match lk n τ with | some (some m) => g.β m | some none => some none | none => none) := fun n => rfl
  have hρ : ∀ k, k ∉ ownNames c.own → g'.ρ k = g.ρ k := by
    intro k hk
    show (match lk k ν with | some k => g.ρ k | none => g.ρ k) = g.ρ k
    cases hl : lk k ν with
    | none => rfl
    | some z => exact absurd (hνm _ (lk_mem hl)) hk
  have hρν : ∀ n k, (n, k) ∈ ν → g'.ρ n = g.ρ k := by
    intro n k hm
    show (match lk n ν with | some k => g.ρ k | none => g.ρ n) = g.ρ k
    rw [lk_of_mem hνn hm]
  have βkeep : ∀ n, n ∈ kl → g'.β n = g.β n := by
    intro n hn
    rw [hβ, (inl_eq _ _).2 hn]; rfl
  have βnew : ∀ n m, (n, some m) ∈ τ → g'.β n = g.β m := by
    intro n m hm
    have hn : n ∈ c.labs := by rw [← hmap]; exact List.mem_map_of_mem (f := (·.1)) hm
    have hk : inl n kl = false := by
      cases hh : inl n kl with
      | false => rfl
      | true => exact absurd ((inl_eq _ _).1 hh) (n5c n hn)
    rw [hβ, hk, lk_of_mem (by rw [hmap]; exact n5a) hm]; rfl
  have βother : ∀ n, n ∉ c.labs → n ∉ kl → g'.β n = none := by
    intro n hn hk
    have hk' : inl n kl = false := by
      cases hh : inl n kl with
      | false => rfl
      | true => exact absurd ((inl_eq _ _).1 hh) hk
    rw [hβ, hk']
    cases hl : lk n τ with
    | none => rfl
    | some z => exact absurd (by rw [← hmap]; exact List.mem_map_of_mem (f := (·.1)) (lk_mem hl)) hn
  -- where a live label comes from
  have βsrc : ∀ n b, g'.β n = some (some b) → (n ∈ kl ∧ g.β n = some (some b)) ∨ ∃ m, (n, some m) ∈ τ ∧ g.β m = some (some b) := by
    intro n b hb
    by_cases hk : n ∈ kl
    · exact .inl ⟨hk, by rw [← βkeep n hk]; exact hb⟩
    · by_cases hn : n ∈ c.labs
      · rw [← hmap] at hn
        obtain ⟨z, hz⟩ := lk_isSome hn
        cases z with
        | some m => exact .inr ⟨m, lk_mem hz, by rw [← βnew n m (lk_mem hz)]; exact hb⟩
        | none =>
          have hk' : inl n kl = false := by
            cases hh : inl n kl with
            | false => rfl
            | true => exact absurd ((inl_eq _ _).1 hh) hk
          rw [hβ, hk', hz] at hb
          simp at hb
      · rw [βother n hn hk] at hb; cases hb
  have ht : Trans (c.labs ++ ownNames c.own) g w g' w := ⟨.refl _ _, fun k hk => hρ k fun hm => hk (List.mem_append_right _ hm), fun n ob hn he => by
    by_cases hk : n ∈ kl
    · exact ⟨by rw [← βkeep n hk]; exact he, fun _ _ => ⟨rfl, rfl⟩⟩
    · rw [βother n (fun hm => hn (List.mem_append_left _ hm)) hk] at he; cases he⟩
  have hσ : ∀ n m, (n, some m) ∈ τ → ∀ ob, g'.β n = some ob → g.β m = some ob := fun n m hm ob he => by rw [← βnew n m hm]; exact he
  have notOwn : ∀ k, k ∈ c.others → k ∉ ownNames c.own := fun k hk hm => w2 k hm hk
  -- the objects
  have hobj : ∀ k o, (imObjs (gen s0 c x).objs).lookup k = some o → ∃ k0 p, s.im.X.objs.lookup k0 = some p ∧ g'.ρ k = g.ρ k0 ∧ ObRel g' w (g.ρ k0) o ∧ ((k, k0) ∈ ν ∨ (k0 = k ∧ k ∈ c.others)) := by
    intro k o hk
    obtain ⟨y, hyl, rfl⟩ := imObjs_mem hk
    have hm := lk_mem hyl
    rcases List.mem_append.1 hm with hm | hm
    · obtain ⟨vs, cs, ty, u, σ', e1, e2, rfl, e4, e5, e6⟩ := projObjs_mem hy hm
      have hoth : k ∈ c.others := List.mem_append_left _ (List.mem_append_left _ e5)
      refine ⟨k, _, lk_im e1, hρ k (notOwn k hoth), ?_, .inr ⟨rfl, hoth⟩⟩
      have := hr.objs k _ (lk_im e1)
      cases this with
      | cells _ _ arr T r1 r2 r3 r4 =>
        have pc := projCells_ra (g := g) (g' := g') (w := w) (ns := ownNames c.own) (vs := arr.toList) rfl hρ (e6 _ w8) e2 (fun n m hm => hσ n m (by rw [← hτ]; exact List.mem_append_right _ (e4 _ hm))) (by
          intro i x v hx hv
          exact r3 i x.a v (by rw [asOf_get, hx]; rfl) (by simpa using hv))
        refine .cells _ _ arr T r1 (by rw [asOf_length, pc.2, ← asOf_length]; exact r2) ?_ r4
        intro i x v hx hv
        rw [asOf_get, Option.map_eq_some_iff] at hx
        obtain ⟨z, hz, rfl⟩ := hx
        exact pc.1 i z v hz (by simpa using hv)
    · rcases List.mem_append.1 hm with hm | hm
      · obtain ⟨k0, q1, q2⟩ := projOwn_memO hu hm
        obtain ⟨_, t, u, rfl⟩ := genOwnO_arr hm
        exact ⟨k0, _, lk_imA q2, hρν _ _ q1, (hr.objs k0 _ (lk_imA q2)).keep ht rfl (.inr (arr_free _ _ _)), .inl q1⟩
      · rcases List.mem_append.1 hm with hm | hm
        · obtain ⟨q1, q2⟩ := projArrs_mem hv hm
          have hoth : k ∈ c.others := List.mem_append_left _ (List.mem_append_right _ q2)
          exact ⟨k, _, lk_imA q1, hρ k (notOwn k hoth), (hr.objs k _ (lk_imA q1)).keep ht rfl (.inr (genArrs_free w9 hm)), .inr ⟨rfl, hoth⟩⟩
        · obtain ⟨hk1, hk2⟩ := keepObjs_mem hm
          obtain ⟨q1, z, q2, q3⟩ := k2 k hk1
          have := hi2 k hk1 z q1 q2
          rw [hk2] at this
          cases this
          have hl : s.im.X.objs.lookup k = some y.o := by
            show (imObjs s.objs).lookup k = _
            rw [im_objs, q2]; rfl
          have hoth : k ∈ c.others := List.mem_append_right _ hk1
          exact ⟨k, _, hl, hρ k (notOwn k hoth), (hr.objs k _ hl).keep ht rfl (.inr q3), .inr ⟨rfl, hoth⟩⟩
  refine ⟨g', hs.defers, hs.size, ?_, ?_⟩
  · refine ⟨?_, hr.sane, hr.base, hr.io, hr.le, hr.frame, ?_, ?_, ?_, ?_, ?_, ?_, ?_, ?_, ?_⟩
    · intro k hk
      have hk' := l6 k (hnm ▸ hk)
      refine ⟨(hρ k (notOwn k hk')).trans (hr.keep k hk).1, ?_⟩
      show ((imObjs (gen s0 c x).objs).lookup k).isSome = true
      rw [im_objs, Option.isSome_map]
      have key : k ∈ (gen s0 c x).objs.map (·.1) := by
        unfold gen
        simp only [List.map_append, genObjs_names, genArrs_names, List.mem_append]
        unfold Cut.others at hk'
        simp only [List.mem_append] at hk'
        rcases hk' with (hm | hm) | hm
        · exact .inl hm
        · exact .inr (.inr (.inl hm))
        · refine .inr (.inr (.inr ?_))
          obtain ⟨q1, z, q2, q3⟩ := k2 k hm
          have hz := hi2 k hm z q1 q2
          have : ∀ (l : List Nat), k ∈ l → k ∈ (keepObjs s0.objs l).map (·.1) := by
            intro l
            induction l with
            | nil => simp
            | cons j r ih =>
              intro hj
              unfold keepObjs
              rcases List.mem_cons.1 hj with rfl | hj
              · rw [hz]; exact List.mem_cons_self
              · split
                · exact List.mem_cons_of_mem _ (ih hj)
                · exact ih hj
          exact this _ hm
      obtain ⟨z, hz⟩ := lk_isSome key
      rw [hz]; rfl
    · intro k o hk
      obtain ⟨k0, p, hp, he, ho, _⟩ := hobj k o hk
      rw [he]; exact ho
    · intro k o hk; obtain ⟨k0, p, hp, he, _⟩ := hobj k o hk; show g.γ (g'.ρ k) = 0; rw [he]; exact hr.objγ k0 p hp
    · intro k k' o o' hk hk' he
      obtain ⟨k0, p, hp, e1, _, d1⟩ := hobj k o hk
      obtain ⟨k0', q, hq, e2, _, d2⟩ := hobj k' o' hk'
      have he' : g.ρ k0 = g.ρ k0' := by rw [← e1, ← e2]; exact he
      have := hr.objinj k0 k0' p q hp hq he'
      subst this
      rcases d1 with d1 | ⟨d1, d1'⟩ <;> rcases d2 with d2 | ⟨d2, d2'⟩
      · have inj : ∀ (ν : List (Nat × Nat)), (ν.map (·.2)).Nodup → (k, k0) ∈ ν → (k', k0) ∈ ν → k = k' := by
          intro ν
          induction ν with
          | nil => intro _ h; simp at h
          | cons p r ih =>
            intro hnd h h'
            simp only [List.map_cons, List.nodup_cons] at hnd
            rcases List.mem_cons.1 h with z | z <;> rcases List.mem_cons.1 h' with z' | z'
            · subst z; cases z'; rfl
            · subst z; exact absurd (List.mem_map.2 ⟨_, z', rfl⟩) hnd.1
            · subst z'; exact absurd (List.mem_map.2 ⟨_, z, rfl⟩) hnd.1
            · exact ih hnd.2 z z'
        exact inj ν w3 d1 d2
      · subst d2; exact absurd d2' (w4 _ (List.mem_map_of_mem (f := (·.2)) d1))
      · subst d1; exact absurd d1' (w4 _ (List.mem_map_of_mem (f := (·.2)) d2))
      · exact d1.symm.trans d2
    · intro k o hk; obtain ⟨k0, p, hp, he, _⟩ := hobj k o hk; show B.n0 ≤ g'.ρ k ∨ B.allowed (g'.ρ k); rw [he]; exact hr.objnew k0 p hp
    · intro n
      show n ∈ c.labs ++ keepL s0 c ↔ _
      rw [hkl]
      rw [List.mem_append]
      constructor
      · rintro (hn | hn)
        · have hn' := hn
          rw [← hmap] at hn'
          obtain ⟨z, hz⟩ := lk_isSome hn'
          cases z with
          | some m =>
            rw [βnew n m (lk_mem hz)]
            exact (hr.live m).1 (l3 m (List.mem_append_left _ (oldLabs_mem.2 ⟨n, lk_mem hz⟩)))
          | none =>
            have hk' : inl n kl = false := by
              cases hh : inl n kl with
              | false => rfl
              | true => exact absurd ((inl_eq _ _).1 hh) (n5c n hn)
            rw [hβ, hk', hz]; rfl
        · rw [βkeep n hn]
          exact (hr.live n).1 (l3 n (List.mem_append_right _ hn))
      · intro hn
        by_cases hk : n ∈ kl
        · exact .inr hk
        · by_cases hl : n ∈ c.labs
          · exact .inl hl
          · rw [βother n hl hk] at hn; cases hn
    · intro n m b hn hm
      rcases βsrc n b hn with ⟨a1, a2⟩ | ⟨p, a1, a2⟩ <;> rcases βsrc m b hm with ⟨b1, b2⟩ | ⟨q, b1, b2⟩
      · exact hr.tipinj n m b a2 b2
      · have := hr.tipinj n q b a2 b2
        subst this
        exact absurd a1 (n4c n (oldLabs_mem.2 ⟨m, b1⟩))
      · have := hr.tipinj p m b a2 b2
        subst this
        exact absurd b1 (n4c p (oldLabs_mem.2 ⟨n, a1⟩))
      · have := hr.tipinj p q b a2 b2
        subst this
        exact oldLabs_inj n4a a1 b1
    · intro n b k o hn hk
      obtain ⟨k0, p, hp, he, _⟩ := hobj k o hk
      rw [he]
      rcases βsrc n b hn with ⟨a1, a2⟩ | ⟨m, a1, a2⟩
      · exact hr.tipobj n b k0 p a2 hp
      · exact hr.tipobj m b k0 p a2 hp
    · intro n b hn
      rcases βsrc n b hn with ⟨a1, a2⟩ | ⟨m, a1, a2⟩
      · exact hr.tipnew n b a2
      · exact hr.tipnew m b a2
    · intro n b hn
      rcases βsrc n b hn with ⟨a1, a2⟩ | ⟨m, a1, a2⟩
      · exact hr.tiplt n b a2
      · exact hr.tiplt m b a2
  · intro t y hty
    obtain ⟨z, hz, rfl⟩ := imEnv_mem hty
    rcases List.mem_append.1 (lk_mem hz) with hm | hm
    · obtain ⟨v, z0, u, σ', e1, e2, rfl, e4, e5⟩ := projVars_mem hx hm
      obtain ⟨val, hv, hra⟩ := hs.env t z0.a (lk_sees e1)
      exact ⟨val, hv, VK.proj_ra (g := g) (g' := g') (w := w) (ns := ownNames c.own) e2 rfl hρ (e5 _ w7) (fun n m hm => hσ n m (by rw [← hτ]; exact List.mem_append_left _ (e4 _ hm))) hra⟩
    · rcases List.mem_append.1 hm with hm | hm
      · rcases projOwn_memE hu hm with ⟨rfl, e1⟩ | ⟨n, k, ty, len, e1, e2, rfl⟩
        · obtain ⟨val, hv, hra⟩ := hs.env t _ (lk_sees e1)
          exact ⟨val, hv, hra.mono ht (.d _)⟩
        · obtain ⟨val, hv, hra⟩ := hs.env t _ (lk_sees e2)
          exact ⟨val, hv, RA.osl_name hra (hρν _ _ e1)⟩
      · obtain ⟨hk1, hk2⟩ := keepEnv_mem hm
        obtain ⟨q1, z1, q2, q3⟩ := k1 t hk1
        have := hi1 t hk1 z1 q1 q2
        rw [hk2] at this
        cases this
        obtain ⟨val, hv, hra⟩ := hs.env t z.a (lk_sees q2)
        exact ⟨val, hv, hra.mono ht (free_of q3)⟩
theorem proj_apart {nm kl : List Nat} {c : Cut} {s : XSt} {x : c.T} (h : proj nm kl c s = some x) : (∀ t ∈ c.keepS, t ∉ slotsOf c.vars ++ ownSlots c.own) ∧ ∀ k ∈ c.keepO, k ∉ namesOf c.objs ++ (ownNames c.own ++ arrNames c.arrs) := by
  obtain ⟨σ, τ0, ν, hx, hy, hu, hv, h1, h2, l3, l4, l5, l6, l7, l8, hown⟩ := proj_spec h
  exact ⟨l7, l8⟩
end Go.Xl
set_option linter.unusedVariables false
set_option linter.unusedSimpArgs false
set_option linter.unnecessarySimpa false
namespace Go.Xl
open Go.Ab
inductive An where
  | lf
  | seq (a b : An)
  | join (c : Cut) (a b : An)
  | cond (a b : An)
  | blk (a : An)
  | loop (c : Cut) (a : An)
  | stop
def An.l : An → An
  | .seq a _ => a
  | .cond a _ => a
  | .blk a => a
  | .join _ a _ => a
  | .loop _ a => a
  | .lf => .lf
  | .stop => .lf
def An.r : An → An
  | .seq _ b => b
  | .cond _ b => b
  | .join _ _ b => b
  | _ => .lf
def unstop {R : Type} : An → Option R → Option R
  | .stop, _ => none
  | _, x => x
theorem unstop_some {R : Type} {an : An} {x : Option R} {r : R} (h : unstop an x = some r) : x = some r := by
  cases an <;> first | exact h | cases h
def iter {σ : Type} {R : Type} (f : (σ → Option R) → σ → Option R) : Nat → σ → Option R
  | 0, _ => none
  | n + 1, x => f (iter f n) x
def joinAt {σ : Type} {R : Type} (k : σ → Option R) (f : (σ → Option R) → Option R) : Option R := f k
def optCase {α β : Type} (x : Option α) (a : β) (f : α → β) : β :=
  match x with
  | none => a
  | some y => f y
def caseOwn {R : Type} : (l : List (Tmp × Nat × Ty)) → OwnT l → (OwnT l → Option R) → Option R
  | [], u, K => K u
  | _ :: r, u, K => optCase u.1 (caseOwn r u.2 fun v => K (none, v)) (fun y => caseOwn r u.2 fun v => K (some y, v))
theorem caseOwn_eq {R : Type} : ∀ (l : List (Tmp × Nat × Ty)) (u : OwnT l) (K : OwnT l → Option R), caseOwn l u K = K u
  | [], u, K => rfl
  | p :: r, u, K => by
    obtain ⟨a, v⟩ := u
    unfold caseOwn
    cases a with
    | none => exact caseOwn_eq r v _
    | some y => exact caseOwn_eq r v _
def exitIs (i j : Nat) : Bool := Nat.beq i j
def base (st : XSt) : XSt := ⟨st.env, st.objs, st.live, [], []⟩
def relog (c : Cut) (st s : XSt) : XSt := ⟨s.env, s.objs, s.live, s.wl ++ ((slotsOf c.vars ++ ownSlots c.own) ++ st.wl), s.ol ++ ((namesOf c.objs ++ (ownNames c.own ++ arrNames c.arrs)) ++ st.ol)⟩
def relog0 (st s : XSt) : XSt := ⟨s.env, s.objs, s.live, s.wl ++ st.wl, s.ol ++ st.ol⟩
section
variable (P : Program) (Γ : List (Ent P)) (own nm : List Nat) (nt N : Nat) {R : Type}
def onNormal (f : XSt → Option R) (K : Exit → XSt → Option R) : Exit → XSt → Option R
  | .normal, s => f s
  | e, s => K e s
def onBlock (id : Nat) (K : Exit → XSt → Option R) : Exit → XSt → Option R
  | .exit j, s => cond (exitIs j id) (K .normal s) (K (.exit j) s)
  | e, s => K e s
def knowOp (x : Operand) (b : Bool) (st : XSt) : XSt :=
  match x with
  | .tmp t => knowSt t b st
  | _ => st
def exec : Code → An → XSt → (Exit → XSt → Option R) → Option R
  | .skip, _, st, K => K .normal st
  | .label _, _, st, K => K .normal st
  | .exit id, _, st, K => K (.exit id) st
  | .ret, _, st, K => K .ret st
  | .region _ ops draw, _, st, K => xops P Γ own nt ops draw st.env (K .normal) ops.toList [] st
  | .seq a b, an, st, K =>
    match an with
    | .join c x y =>
      joinAt (fun z => caseOwn c.own z.2.2.1 fun u => exec b y (relog c st (gen (base st) c (z.1, z.2.1, u, z.2.2.2))) K)
        (fun k => exec a x (base st) (onNormal (fun s => Option.bind (proj nm (keepL (base st) c) c s) k) (fun e s => K e (relog0 st s))))
    | _ => exec a an.l st (onNormal (fun s => exec b an.r s K) K)
  | .cond c a b, an, st, K =>
    match xeval st c with
    | some (.d (.b v)) => cond v (unstop an.l (exec a an.l (knowOp c true st) K)) (unstop an.r (exec b an.r (knowOp c false st) K))
    | _ => none
  | .block id c, an, st, K => exec c an.l st (onBlock id K)
  | .loop b, an, st, K =>
    match an with
    | .loop c x => Option.bind (proj nm (keepL (base st) c) c (base st)) (iter (fun rec z => caseOwn c.own z.2.2.1 fun u => exec b x (gen (base st) c (z.1, z.2.1, u, z.2.2.2)) (onNormal (fun s => Option.bind (proj nm (keepL (base st) c) c s) rec) (fun e s => K e (relog c st s)))) N)
    | _ => none
  | _, _, _, _ => none
end
section
variable {P : Program} {Γ : List (Ent P)} {own nm : List Nat} {N : Nat} {R : Type}
def PostE (s0 : XSt) (K : Exit → XSt → Option R) (r : R) : Exit → St → Prop := fun e s => ∃ st', s = st'.im ∧ Inv s0 st' ∧ K e st' = some r
theorem genVars_slot {t : Nat} {y : XV} : ∀ (l : List (Tmp × VK)) (x : VarsT l), (t, y) ∈ genVars l x → t ∈ slotsOf l
  | [], x, h => by simp [genVars] at h
  | p :: r, x, h => by
    simp only [genVars, List.mem_cons] at h
    simp only [slotsOf, List.mem_cons]
    rcases h with h | h
    · cases h; exact .inl rfl
    · exact .inr (genVars_slot r _ h)
theorem genOwnE_slot {t : Nat} {y : XV} : ∀ (l : List (Tmp × Nat × Ty)) (x : OwnT l), (t, y) ∈ genOwnE l x → t ∈ ownSlots l
  | [], x, h => by simp [genOwnE] at h
  | p :: r, x, h => by
    simp only [genOwnE, List.mem_cons] at h
    simp only [ownSlots, List.mem_cons]
    rcases h with h | h
    · cases h; exact .inl rfl
    · exact .inr (genOwnE_slot r _ h)
theorem genObjs_name {k : Nat} {y : XOb} : ∀ (l : List (Nat × List VK × Option TypeId)) (x : ObjsT l), (k, y) ∈ genObjs l x → k ∈ namesOf l
  | [], x, h => by simp [genObjs] at h
  | p :: r, x, h => by
    simp only [genObjs, List.mem_cons] at h
    simp only [namesOf, List.mem_cons]
    rcases h with h | h
    · cases h; exact .inl rfl
    · exact .inr (genObjs_name r _ h)
theorem lk_gen {s0 : XSt} {c : Cut} {x : c.T} {t : Nat} {y : XV} (h : lk t (gen s0 c x).env = some y) : t ∈ slotsOf c.vars ++ ownSlots c.own ∨ lk t s0.env = some y := by
  rcases List.mem_append.1 (lk_mem h) with hm | hm
  · exact .inl (List.mem_append_left _ (genVars_slot _ _ hm))
  · rcases List.mem_append.1 hm with hm | hm
    · exact .inl (List.mem_append_right _ (genOwnE_slot _ _ hm))
    · exact .inr (keepEnv_mem hm).2
theorem lk_genO {s0 : XSt} {c : Cut} {x : c.T} {t : Nat} {y : XOb} (h : lk t (gen s0 c x).objs = some y) : t ∈ namesOf c.objs ++ (ownNames c.own ++ arrNames c.arrs) ∨ lk t s0.objs = some y := by
  rcases List.mem_append.1 (lk_mem h) with hm | hm
  · exact .inl (List.mem_append_left _ (genObjs_name _ _ hm))
  · rcases List.mem_append.1 hm with hm | hm
    · exact .inl (List.mem_append_right _ (List.mem_append_left _ (genOwnO_arr hm).1))
    · rcases List.mem_append.1 hm with hm | hm
      · exact .inl (List.mem_append_right _ (List.mem_append_right _ (by rw [← genArrs_names]; exact List.mem_map_of_mem (f := (·.1)) hm)))
      · exact .inr (keepObjs_mem hm).2
theorem Inv.relog {s0 st s : XSt} {c : Cut} {x : c.T} (h : Inv s0 st) (h' : Inv (gen (base st) c x) s) : Inv s0 (relog c st s) := by
  refine ⟨fun t y ht hy => ?_, fun k y hk hy => ?_⟩
  · unfold Xl.relog at ht hy
    simp only at ht hy
    rw [List.mem_append, List.mem_append (s := slotsOf c.vars ++ ownSlots c.own), not_or, not_or] at ht
    have h1 := h'.env t y ht.1 hy
    rcases lk_gen h1 with h2 | h2
    · exact absurd h2 ht.2.1
    · exact h.env t y ht.2.2 h2
  · unfold Xl.relog at hk hy
    simp only at hk hy
    rw [List.mem_append, List.mem_append (s := namesOf c.objs ++ (ownNames c.own ++ arrNames c.arrs)), not_or, not_or] at hk
    have h1 := h'.objs k y hk.1 hy
    rcases lk_genO h1 with h2 | h2
    · exact absurd h2 hk.2.1
    · exact h.objs k y hk.2.2 h2
theorem Inv.relog0 {s0 st s : XSt} (h : Inv s0 st) (h' : Inv (base st) s) : Inv s0 (relog0 st s) := by
  refine ⟨fun t y ht hy => ?_, fun k y hk hy => ?_⟩
  · simp only [Xl.relog0, List.mem_append, not_or] at ht hy
    exact h.env t y ht.2 (h'.env t y ht.1 hy)
  · simp only [Xl.relog0, List.mem_append, not_or] at hk hy
    exact h.objs k y hk.2 (h'.objs k y hk.1 hy)
theorem Inv.base (st : XSt) : Inv (base st) (Xl.base st) := .refl _
theorem knowOp_ok {S : Sig} {st : XSt} {x : Operand} {b : Bool} {s0 : XSt} (hx : xeval st x = some (.d (.b b))) (hi : Inv s0 st) :
    Inv s0 (knowOp x b st) ∧ ∀ (B : Base) (g : Gh) (w : World) (a : Act), SR S B g w st.im a → SR S B g w (knowOp x b st).im a := by
  cases x with
  | tmp t =>
    replace hx := (xeval_tmp hx).2
    exact ⟨hi.know hx, fun B g w a h => h.known (lk_sees hx)⟩
  | const v => exact ⟨hi, fun _ _ _ _ h => h⟩
  | func f => exact ⟨hi, fun _ _ _ _ h => h⟩
  | global g => exact ⟨hi, fun _ _ _ _ h => h⟩
theorem range_spec (ops : Array Oper) : ∀ (j : Nat) o, ops.toList[j]? = some o → ops[0 + j]? = some o := by
  intro j o h
  rw [Nat.zero_add]
  simpa using h
theorem awp_conseq {S : Sig} {c : Code} {Q Q' : Exit → St → Prop} {st : St} (h : AWp P S c Q st) (hq : ∀ e s, Q e s → ∀ (B : Base) (g : Gh) (w : World) (a : Act), SR S B g w s a → ∃ s' g', Q' e s' ∧ SR S B g' w s' a) : AWp P S c Q' st := by
  intro B g w a hs
  refine wp_mono (h B g w a hs) ?_
  rintro e a' w' ⟨s, g', q, hs'⟩
  exact hq e s q B g' w' a' hs'
theorem exec_sound (hm : P.follows .mixedOrders = true) {S : Sig} (hnm : S.names = nm) : ∀ (c : Code) (an : An) (st s0 : XSt) (K : Exit → XSt → Option R) (r : R), Inv s0 st →
    exec P Γ own nm S.N N c an st K = some r → AWp P S c (PostE s0 K r) st.im := by
  intro c
  induction c with
  | skip => intro an st s0 K r hi h; exact awp_skip ⟨st, rfl, hi, h⟩
  | label l => intro an st s0 K r hi h; exact awp_label ⟨st, rfl, hi, h⟩
  | exit id => intro an st s0 K r hi h; exact awp_exit ⟨st, rfl, hi, h⟩
  | ret => intro an st s0 K r hi h; exact awp_ret ⟨st, rfl, hi, h⟩
  | region id ops draw =>
    intro an st s0 K r hi h
    simp only [exec] at h
    cases draw with
    | false =>
      have := xops_rw (S := S) ops.toList 0 [] st (range_spec ops) hi h
      refine awp_rw (n := ops.toList.length) (by simp) ?_
      rw [List.range_eq_range']
      exact this
    | true =>
      have := xops_dw (S := S) ops.toList 0 [] st (range_spec ops) hi h
      exact awp_dw ops.toList.length hm this
  | seq a b iha ihb =>
    intro an st s0 K r hi h
    have plain : exec P Γ own nm S.N N a an.l st (onNormal (fun s => exec P Γ own nm S.N N b an.r s K) K) = some r → AWp P S (.seq a b) (PostE s0 K r) st.im := by
      intro h
      refine awp_seq (awp_mono (iha _ st s0 _ r hi h) ?_)
      rintro e s ⟨st', rfl, hi', hk⟩
      cases e with
      | normal => exact ihb _ st' s0 K r hi' hk
      | _ => exact ⟨st', rfl, hi', hk⟩
    unfold exec at h
    split at h
    · rename_i cut x y
      unfold joinAt at h
      refine awp_seq (awp_mono (iha x (base st) (base st) _ r (.refl _) h) ?_)
      rintro e s ⟨st', rfl, hi', hk⟩
      cases e with
      | normal =>
        simp only [onNormal, Option.bind_eq_some_iff] at hk
        obtain ⟨z, hz, hk⟩ := hk
        rw [caseOwn_eq] at hk
        intro B g w act hs
        obtain ⟨g', hs'⟩ := cut_sound (s0 := base st) hz (fun t _ => hi'.env t) (fun k _ => hi'.objs k) hs hnm
        refine ihb y (relog cut st (gen (base st) cut z)) s0 K r (hi.relog (.refl _)) hk B g' w act hs'
      | _ => exact ⟨relog0 st st', rfl, hi.relog0 hi', hk⟩
    · exact plain h
  | cond c a b iha ihb =>
    intro an st s0 K r hi h
    unfold exec at h
    split at h
    · rename_i v hv
      have hsees := xeval_sees hv
      refine awp_cond (b := v) hsees (fun hb => ?_) (fun hb => ?_)
      · subst hb
        simp only [cond_true] at h
        replace h := unstop_some h
        obtain ⟨k1, k2⟩ := knowOp_ok (S := S) hv hi
        intro B g w act hs
        exact iha _ _ s0 K r k1 h B g w act (k2 B g w act hs)
      · subst hb
        simp only [cond_false] at h
        replace h := unstop_some h
        obtain ⟨k1, k2⟩ := knowOp_ok (S := S) hv hi
        intro B g w act hs
        exact ihb _ _ s0 K r k1 h B g w act (k2 B g w act hs)
    · cases h
  | block id c ih =>
    intro an st s0 K r hi h
    simp only [exec] at h
    refine awp_block (awp_mono (ih _ st s0 _ r hi h) ?_)
    rintro e s ⟨st', rfl, hi', hk⟩
    cases e with
    | exit j =>
      simp only [onBlock, exitIs] at hk
      simp only [blockQ]
      cases hb : Nat.beq j id with
      | true =>
        simp only [hb, cond_true] at hk
        rw [if_pos (Nat.eq_of_beq_eq_true hb)]
        exact ⟨st', rfl, hi', hk⟩
      | false =>
        simp only [hb, cond_false] at hk
        rw [if_neg (Nat.ne_of_beq_eq_false hb)]
        exact ⟨st', rfl, hi', hk⟩
    | _ => exact ⟨st', rfl, hi', hk⟩
  | loop b ih =>
    intro an st s0 K r hi h
    unfold exec at h
    split at h
    · rename_i cut x
      obtain ⟨z0, hz0, h⟩ := Option.bind_eq_some_iff.1 h
      intro B g w act hs
      obtain ⟨g', hs'⟩ := cut_sound (s0 := base st) hz0 (fun _ _ _ _ h => h) (fun _ _ _ _ h => h) hs hnm
      generalize hf : (fun (rec : cut.T → Option R) (z : cut.T) => caseOwn cut.own z.2.2.1 fun u => exec P Γ own nm S.N N b x (gen (base st) cut (z.1, z.2.1, u, z.2.2.2)) (onNormal (fun s => Option.bind (proj nm (keepL (base st) cut) cut s) rec) (fun e s => K e (relog cut st s)))) = f at h
      have key : ∀ (n : Nat) (z : cut.T), iter f n z = some r → AWp P S (.loop b) (PostE s0 K r) (gen (base st) cut z).im := by
        intro n z hn
        refine awp_loop (fun n s => ∃ z, iter f n z = some r ∧ s = (gen (base st) cut z).im) n ⟨z, hn, rfl⟩ ?_
        rintro n s ⟨z, hn, rfl⟩
        cases n with
        | zero => simp [iter] at hn
        | succ n =>
          simp only [iter] at hn
          rw [← hf] at hn
          replace hn := (caseOwn_eq _ _ _).symm.trans hn
          refine awp_conseq (ih x _ (gen (base st) cut z) _ r (.refl _) hn) ?_
          rintro e s ⟨st', rfl, hi', hk⟩ B g w act hs
          cases e with
          | normal =>
            simp only [onNormal, Option.bind_eq_some_iff] at hk
            obtain ⟨z', hz', hk⟩ := hk
            obtain ⟨ap1, ap2⟩ := proj_apart hz'
            obtain ⟨g', hs'⟩ := cut_sound (s := st') (s0 := base st) hz' (fun t ht y hw hy => (lk_gen (hi'.env t y hw hy)).resolve_left (ap1 t ht)) (fun k hk y hw hy => (lk_genO (hi'.objs k y hw hy)).resolve_left (ap2 k hk)) hs hnm
            exact ⟨_, g', ⟨n, Nat.lt_succ_self n, z', by rw [hf] at hk; exact hk, rfl⟩, hs'⟩
          | _ => exact ⟨_, g, ⟨relog cut st st', rfl, hi.relog hi', hk⟩, hs⟩
      exact key N z0 h B g' w act hs'
    · cases h
  | _ =>
    intros
    simp_all [exec]
end
end Go.Xl
set_option linter.unusedVariables false
set_option linter.unusedSimpArgs false
set_option linter.unnecessarySimpa false
namespace Go.Xl
open Go.Ab
@[reducible] def Fun : List Ty → Type → Type
  | [], R => R
  | t :: r, R => t.T → Fun r R
@[reducible] def ResT : List Ty → Type
  | [] => Unit
  | [t] => t.T
  | t :: u :: r => t.T × ResT (u :: r)
def resL : (ts : List Ty) → ResT ts → List XV
  | [], _ => []
  | [t], x => [.d (t.xv x)]
  | t :: u :: r, x => .d (t.xv x.1) :: resL (u :: r) x.2
def tupX : List XV → XV
  | [x] => x
  | l => .tup l
def resXV (ts : List Ty) (x : ResT ts) : XV := tupX (resL ts x)
theorem tupX_a (l : List XV) : (tupX l).a = tupled (asOf l) := by
  cases l with
  | nil => rfl
  | cons x r => cases r <;> rfl
def decRes : (ts : List Ty) → List XV → Option (ResT ts)
  | [], [] => some ()
  | [t], [x] => decXVr t x
  | t :: u :: r, x :: xs => match decXVr t x, decRes (u :: r) xs with
    | some y, some ys => some (y, ys)
    | _, _ => none
  | _, _ => none
inductive AsLe : List AV → List AV → Prop
  | nil : AsLe [] []
  | cons {x y : AV} {r s : List AV} : ALe x y → AsLe r s → AsLe (x :: r) (y :: s)
theorem AsLe.length {a b : List AV} (h : AsLe a b) : a.length = b.length := by
  induction h with
  | nil => rfl
  | cons _ _ ih => simp [ih]
theorem AsLe.get {a b : List AV} (h : AsLe a b) : ∀ {i : Nat} {y : AV}, b[i]? = some y → ∃ x, a[i]? = some x ∧ ALe x y := by
  induction h with
  | nil => intro i y hy; simp at hy
  | cons h1 _ ih =>
    intro i y hy
    cases i with
    | zero => simp at hy; subst hy; exact ⟨_, rfl, h1⟩
    | succ i => simp at hy; simpa using ih hy
theorem AsLe.tup {a b : List AV} (h : AsLe a b) : ALe (.tup a) (.tup b) := by
  intro g w v hr
  cases hr with
  | tup _ vs hl hc =>
    refine .tup b vs (h.length ▸ hl) fun i c u hb hu => ?_
    obtain ⟨x, hx, hle⟩ := h.get hb
    exact hle _ _ _ (hc i x u hx hu)
theorem decRes_le : ∀ {ts : List Ty} {xs : List XV} {y : ResT ts}, decRes ts xs = some y → AsLe (asOf xs) (asOf (resL ts y))
  | [], xs, y, h => by
    cases xs with
    | nil => exact .nil
    | cons _ _ => simp [decRes] at h
  | [t], xs, y, h => by
    cases xs with
    | nil => simp [decRes] at h
    | cons x r =>
      cases r with
      | nil => exact .cons (decXVr_le h) .nil
      | cons _ _ => simp [decRes] at h
  | t :: u :: r, xs, y, h => by
    cases xs with
    | nil => simp [decRes] at h
    | cons x xs =>
      simp only [decRes] at h
      split at h
      · rename_i y1 ys h1 h2
        cases h
        exact .cons (decXVr_le h1) (decRes_le h2)
      · cases h
theorem resXV_le {ts : List Ty} {xs : List XV} {y : ResT ts} (h : decRes ts xs = some y) : ALe (tupX xs).a (resXV ts y).a := by
  have hl := decRes_le h
  unfold resXV
  rw [tupX_a, tupX_a]
  generalize asOf xs = a at hl
  generalize asOf (resL ts y) = b at hl
  cases hl with
  | nil => exact .refl _
  | cons h1 h2 =>
    cases h2 with
    | nil => exact h1
    | cons h3 h4 => exact (AsLe.cons h1 (.cons h3 h4)).tup
def xres (P : Program) (st : XSt) : List ResultVar → Option (List XV)
  | [] => some []
  | .tmp t :: r => match xeval st (.tmp t), xres P st r with
    | some x, some l => some (x :: l)
    | _, _ => none
  | .cell a ty :: r => match xeval st (.tmp a), tyI P ty, xres P st r with
    | some (.nm k (.p off)), some (agg, sz), some l => match lk k st.objs with
      | some (.cells cs _) => cond agg (cond (Nat.ble (off + sz) cs.length) (some (xjoin ((cs.drop off).take sz) :: l)) none)
          (cond (Nat.beq sz 1) (match cs[off]? with
            | some v => some (v :: l)
            | none => none) none)
      | _ => none
    | _, _, _ => none
theorem xres_ok {P : Program} {st : XSt} : ∀ {rs : List ResultVar} {xs : List XV}, xres P st rs = some xs → RVs P st.im rs (asOf xs)
  | [], xs, h => by simp [xres] at h; subst h; exact .nil
  | .tmp t :: r, xs, h => by
    simp only [xres] at h
    split at h
    · rename_i x l hx hl
      cases h
      exact .cons _ _ _ _ (.tmp t _ (xeval_tmp hx).1 (.eq _ (lk_sees (xeval_tmp hx).2))) (xres_ok hl)
    · cases h
  | .cell a ty :: r, xs, h => by
    simp only [xres] at h
    split at h
    · rename_i k off agg sz l ha ht hl
      have hT := tyI_I ht
      split at h
      · rename_i cs oty hk
        have hk' := lk_im hk
        cases agg with
        | true =>
          simp only [cond_true] at h
          cases hb : Nat.ble (off + sz) cs.length with
          | false => simp [hb] at h
          | true =>
            simp only [hb, cond_true, Option.some.injEq] at h
            subst h
            simp only [asOf]
            refine .cons _ _ _ _ (.cell a ty k off _ (xeval_tmp ha).1 (.eq _ (lk_sees (xeval_tmp ha).2)) (.agg sz (asOf cs) oty _ hT hk' (by rw [asOf_length]; exact Nat.le_of_ble_eq_true hb) ?_)) (xres_ok hl)
            rw [xjoin_a, asOf_take, asOf_drop]
        | false =>
          simp only [cond_false] at h
          cases hb : Nat.beq sz 1 with
          | false => simp [hb] at h
          | true =>
            have := Nat.eq_of_beq_eq_true hb
            subst this
            simp only [hb, cond_true] at h
            split at h
            · rename_i v hv
              cases h
              exact .cons _ _ _ _ (.cell a ty k off _ (xeval_tmp ha).1 (.eq _ (lk_sees (xeval_tmp ha).2)) (.one (asOf cs) oty _ hT hk' (by rw [asOf_get, hv]; rfl))) (xres_ok hl)
            · cases h
      · cases h
    · cases h
def envX : Nat → List XV → List (Nat × XV)
  | _, [] => []
  | n, x :: r => (n, x) :: envX (n + 1) r
theorem envX_im (n : Nat) (l : List XV) : imEnv (envX n l) = envOf n (asOf l) := by
  induction l generalizing n with
  | nil => rfl
  | cons x r ih => simp only [envX, imEnv, List.map_cons, asOf, envOf] at ih ⊢; rw [ih]
def frz : List XV → List (Nat × XOb) → Option (List XV × List (Nat × XOb))
  | [], objs => some ([], objs)
  | .os k t a len :: r, objs => match lk k objs with
    | some (.arr u l) => cond (u.eqb t) (cond (Nat.ble (a + len) l.length) (match frz r (dropX k objs) with
      | some (ys, o) => some (.d (.sl u ((l.drop a).take len)) :: ys, o)
      | none => none) none) none
    | _ => none
  | x :: r, objs => match frz r objs with
    | some (ys, o) => some (x :: ys, o)
    | none => none
inductive AsTo (g : Gh) (g' : Gh) (w : World) : List XV → List XV → Prop
  | nil : AsTo g g' w [] []
  | cons {x y : XV} {r s : List XV} : (∀ v, RA g w x.a v → RA g' w y.a v) → AsTo g g' w r s → AsTo g g' w (x :: r) (y :: s)
theorem AsTo.pre {g g1 g' : Gh} {w : World} {l m : List XV} (h : AsTo g1 g' w l m) (ht : Trans [] g w g1 w) : AsTo g g' w l m := by
  induction h with
  | nil => exact .nil
  | cons h1 _ ih => exact .cons (fun v hv => h1 v (hv.mono ht (.nil _))) ih
theorem AsTo.post {g g1 g' : Gh} {w : World} {l m : List XV} (h : AsTo g g1 w l m) (ht : Trans [] g1 w g' w) : AsTo g g' w l m := by
  induction h with
  | nil => exact .nil
  | cons h1 _ ih => exact .cons (fun v hv => (h1 v hv).mono ht (.nil _)) ih
theorem AsTo.length {g g' : Gh} {w : World} {l m : List XV} (h : AsTo g g' w l m) : l.length = m.length := by
  induction h with
  | nil => rfl
  | cons _ _ ih => simp [ih]
theorem AsTo.get {g g' : Gh} {w : World} {l m : List XV} (h : AsTo g g' w l m) : ∀ {i : Nat} {y : XV}, m[i]? = some y → ∃ x, l[i]? = some x ∧ ∀ v, RA g w x.a v → RA g' w y.a v := by
  induction h with
  | nil => intro i y hy; simp at hy
  | cons h1 _ ih =>
    intro i y hy
    cases i with
    | zero => simp at hy; subst hy; exact ⟨_, rfl, h1⟩
    | succ i => simp at hy; simpa using ih hy
theorem AsTo.tupX {g g' : Gh} {w : World} {l m : List XV} (h : AsTo g g' w l m) {v : Value} (hr : RA g w (tupX l).a v) : RA g' w (tupX m).a v := by
  have tup : ∀ l m : List XV, AsTo g g' w l m → RA g w (.tup (asOf l)) v → RA g' w (.tup (asOf m)) v := by
    intro l m h hr
    cases hr with
    | tup _ vs hl hc =>
      refine .tup _ vs (by rw [asOf_length, ← h.length, ← asOf_length]; exact hl) fun i c u hb hu => ?_
      rw [asOf_get, Option.map_eq_some_iff] at hb
      obtain ⟨y, hy, rfl⟩ := hb
      obtain ⟨x, hx, hxy⟩ := h.get hy
      exact hxy u (hc i x.a u (by rw [asOf_get, hx]; rfl) hu)
  cases h with
  | nil => exact tup [] [] .nil hr
  | cons h1 h2 =>
    cases h2 with
    | nil => exact h1 v hr
    | cons h3 h4 => exact tup _ _ (.cons h1 (.cons h3 h4)) hr
theorem frz_ok {B : Base} {w : World} {live : List Nat} : ∀ {xs ys : List XV} {objs objs' : List (Nat × XOb)}, frz xs objs = some (ys, objs') → ∀ g, HR [] B g w ⟨imObjs objs, live⟩ →
    ∃ g', HR [] B g' w ⟨imObjs objs', live⟩ ∧ Trans [] g w g' w ∧ AsTo g g' w xs ys
  | [], ys, objs, objs', h, g, hr => by
    simp only [frz, Option.some.injEq, Prod.mk.injEq] at h
    obtain ⟨rfl, rfl⟩ := h
    exact ⟨g, hr, .refl _ _ _, .nil⟩
  | x :: r, ys, objs, objs', h, g, hr => by
    have other : (match frz r objs with | some (ys, o) => some (x :: ys, o) | none => none) = some (ys, objs') → ∃ g', HR [] B g' w ⟨imObjs objs', live⟩ ∧ Trans [] g w g' w ∧ AsTo g g' w (x :: r) ys := by
      intro h
      split at h
      · rename_i zs o hz
        cases h
        obtain ⟨g', h1, h2, h3⟩ := frz_ok hz g hr
        exact ⟨g', h1, h2, .cons (fun v hv => hv.mono h2 (.nil _)) h3⟩
      · cases h
    cases x with
    | os k t a len =>
      simp only [frz] at h
      split at h
      · rename_i u l hk
        cases h1 : u.eqb t with
        | false => simp [h1] at h
        | true =>
        cases h2 : Nat.ble (a + len) l.length with
        | false => simp [h1, h2] at h
        | true =>
          simp only [h1, h2, cond_true] at h
          split at h
          · rename_i zs o hz
            cases h
            have := Ty.eqb_eq h1
            subst this
            have ho := lk_imA hk
            obtain ⟨f1, f2, f3⟩ := hr.freeze (k := k) (sz := u.size) (es := l.map u.ds) (ty := none) (by simp) ho (by
              intro i cs hc
              rw [List.getElem?_map, Option.map_eq_some_iff] at hc
              obtain ⟨y, _, rfl⟩ := hc
              exact u.ds_length y)
            have e : Ab.dropObj k ⟨imObjs objs, live⟩ = ⟨imObjs (dropX k objs), live⟩ := by
              rw [dropX_im]; rfl
            rw [e] at f1
            obtain ⟨g', h3, h4, h5⟩ := frz_ok hz _ f1
            refine ⟨g', h3, f2.trans h4, .cons (fun v hv => ?_) (h5.pre f2)⟩
            have hle := Nat.le_of_ble_eq_true h2
            have := f3 a len v (by simpa using hle) hv
            have := this.mono h4 (.nil _)
            simp only [XV.a, XD.d]
            rw [List.map_take, List.map_drop]
            exact this
          · cases h
      · cases h
    | _ => exact other h
def frzK {R : Type} : List XV → List (Nat × XOb) → (List XV → Option R) → Option R
  | [], _, K => K []
  | .os k t a len :: r, objs, K => match lk k objs with
    | some (.arr u l) => cond (u.eqb t) (cond (Nat.ble (a + len) l.length) (frzK r (dropX k objs) fun ys => K (.d (.sl u ((l.drop a).take len)) :: ys)) none) none
    | _ => none
  | x :: r, objs, K => frzK r objs fun ys => K (x :: ys)
theorem frzK_some {R : Type} {y : R} : ∀ {xs : List XV} {objs : List (Nat × XOb)} {K : List XV → Option R}, frzK xs objs K = some y → ∃ ys o, frz xs objs = some (ys, o) ∧ K ys = some y
  | [], objs, K, h => ⟨[], objs, rfl, h⟩
  | x :: r, objs, K, h => by
    have other : (frzK r objs fun ys => K (x :: ys)) = some y → ∃ ys o, (match frz r objs with | some (ys, o) => some (x :: ys, o) | none => none) = some (ys, o) ∧ K ys = some y := by
      intro h
      obtain ⟨ys, o, h1, h2⟩ := frzK_some h
      exact ⟨x :: ys, o, by rw [h1], h2⟩
    cases x with
    | os k t a len =>
      simp only [frzK] at h
      split at h
      · rename_i u l hk
        cases h1 : u.eqb t with
        | false => simp [h1] at h
        | true =>
        cases h2 : Nat.ble (a + len) l.length with
        | false => simp [h1, h2] at h
        | true =>
          simp only [h1, h2, cond_true] at h
          obtain ⟨ys, o, h3, h4⟩ := frzK_some h
          exact ⟨.d (.sl u ((l.drop a).take len)) :: ys, o, by simp only [frz, hk, h1, h2, h3, cond_true], h4⟩
      · cases h
    | _ => exact other h
def finishL (P : Program) (fn : Func) (res : List Ty) (s : XSt) : Option (ResT res) :=
  match xres P s fn.results.toList with
  | some xs => frzK xs s.objs fun ys => decRes res ys
  | none => none
def finish (P : Program) (fn : Func) (res : List Ty) : Exit → XSt → Option (ResT res)
  | .ret, s => finishL P fn res s
  | .normal, s => finishL P fn res s
  | _, _ => none
def runB (P : Program) (Γ : List (Ent P)) (own : List Nat) (N : Nat) (fn : Func) (an : An) (res : List Ty) (xs : List XV) : Option (ResT res) :=
  match fn.body with
  | some c => cond (Nat.ble fn.ntmps GB) (exec P Γ own [] fn.ntmps N c an ⟨envX 0 xs, [], [], [], []⟩ (finish P fn res)) none
  | none => none
theorem Does.le {P : Program} {f : FuncId} {args : List AV} {X X' : Store} {res res' : AV} (h : Does P f args X res X') (hle : ALe res res') : Does P f args X res' X' := by
  intro g w vs hr hl ha
  exact (h g w vs hr hl ha).mono fun e w' ⟨g', v, h1, h2, h3⟩ => ⟨g', v, h1, hle g' w' v h2, h3⟩
theorem condG {α : Type} {n : Nat} {x : Option α} {y : α} (h : cond (Nat.ble n GB) x none = some y) : n ≤ GB ∧ x = some y := by
  cases hb : Nat.ble n GB with
  | false => simp [hb] at h
  | true => exact ⟨Nat.le_of_ble_eq_true hb, by simpa [hb] using h⟩
theorem runB_sound {P : Program} {Γ : List (Ent P)} {own : List Nat} {N : Nat} {f : FuncId} {fn : Func} {an : An} {res : List Ty} {xs : List XV} {y : ResT res} (hm : P.follows .mixedOrders = true) (hf : P.funcs[f]? = some fn)
    (hn : Nat.ble xs.length fn.ntmps = true) (h : runB P Γ own N fn an res xs = some y) : Does P f (asOf xs) X0 (resXV res y).a X0 := by
  unfold runB at h
  split at h
  · rename_i c hc
    obtain ⟨hG, h⟩ := condG h
    have hs := exec_sound (S := ⟨fn.ntmps, [], by simp⟩) hm rfl c an ⟨envX 0 xs, [], [], [], []⟩ ⟨envX 0 xs, [], [], [], []⟩ _ _ (.refl _) h
    have key : ∀ s', ∀ zs, xres P s' fn.results.toList = some zs → decRes res zs = some y → True := fun _ _ _ _ => trivial
    -- the result as it stands
    intro g w vs hr hl ha
    refine calls_of_wp hf hc (wp_mono (hs (Base.of g w X0) g w _ ?_) ?_)
    · refine ⟨rfl, ?_, hr, ?_⟩
      · have := Nat.le_of_ble_eq_true hn
        rw [asOf_length] at hl
        simp; omega
      · intro t x hx
        have hx' : (envOf 0 (asOf xs)).lookup t = some x := by rw [← envX_im]; exact hx
        obtain ⟨_, hx'⟩ := envOf_lookup hx'
        rw [Nat.sub_zero] at hx'
        have hlt : t < vs.size := by have := (List.getElem?_eq_some_iff.1 hx').1; omega
        refine ⟨vs[t], ?_, ha t x _ hx' (by simp [hlt])⟩
        have := Nat.le_of_ble_eq_true hn
        rw [asOf_length] at hl
        rw [slotV_tmp (by omega)]
        simp [Array.getElem?_append, hlt]
    · rintro e a' w' ⟨s, g', ⟨st', rfl, hi, hk⟩, hs'⟩
      have fin : finishL P fn res st' = some y →
          a'.defers = [] ∧ ∃ v, (results fn a'.tmps).run P w' = .ok v w' ∧ ∃ g' v_1, Ending.returned v = Ending.returned v_1 ∧ RA g' w' (resXV res y).a v_1 ∧ HR (X0.objs.map (·.1)) (Base.of g w X0) g' w' X0 := by
        intro h
        unfold finishL at h
        split at h
        · rename_i zs h1
          obtain ⟨ys, o, h2, h⟩ := frzK_some h
          · obtain ⟨v, hv, hra⟩ := run_results (xres_ok h1) hs'
            obtain ⟨g1, hr1, ht1, has⟩ := frz_ok h2 g' hs'.hr
            have hs1 : SR ⟨fn.ntmps, [], by simp⟩ (Base.of g w X0) g1 w' ⟨[], ⟨imObjs o, st'.live⟩⟩ a' := ⟨hs'.defers, hs'.size, hr1, by simp⟩
            have hw : Weak [] ⟨[], ⟨imObjs o, st'.live⟩⟩ ⟨[], X0⟩ := ⟨by simp, by simp [X0], by simp [X0], by simp⟩
            obtain ⟨g'', ht, hs''⟩ := hs1.weaken' hw
            rw [← tupX_a] at hra
            have hra' := (has.tupX hra).mono ht (.nil _)
            exact ⟨hs'.defers, v, hv, g'', v, rfl, resXV_le h g'' w' v hra', hs''.hr⟩
        · cases h
      cases e with
      | ret => exact fin hk
      | normal => exact fin hk
      | _ => simp [finish] at hk
  · cases h
def bindArgs {α : Type} : (ts : List Ty) → (List XV → α) → List XV → Fun ts α
  | [], f, acc => f acc
  | t :: r, f, acc => fun x => bindArgs r f (acc ++ [.d (t.xv x)])
def runF (P : Program) (Γ : List (Ent P)) (own : List Nat) (N : Nat) (fn : Func) (an : An) (args res : List Ty) : Fun args (Option (ResT res)) :=
  bindArgs args (fun xs => runB P Γ own N fn an res xs) []
def SoundF (P : Program) (f : FuncId) (res : List Ty) : (args : List Ty) → Fun args (Option (ResT res)) → List XV → Prop
  | [], F, acc => ∀ y, F = some y → Does P f (asOf acc) X0 (resXV res y).a X0
  | t :: r, F, acc => ∀ x : t.T, SoundF P f res r (F x) (acc ++ [.d (t.xv x)])
theorem bindArgs_sound {P : Program} {Γ : List (Ent P)} {own : List Nat} {N : Nat} {f : FuncId} {fn : Func} {an : An} {res : List Ty} (hm : P.follows .mixedOrders = true) (hf : P.funcs[f]? = some fn) :
    ∀ (args : List Ty) (acc : List XV), Nat.ble (acc.length + args.length) fn.ntmps = true → SoundF P f res args (bindArgs args (fun xs => runB P Γ own N fn an res xs) acc) acc
  | [], acc, hn => fun y hy => runB_sound hm hf (by simpa using hn) hy
  | t :: r, acc, hn => fun x => bindArgs_sound hm hf r (acc ++ [.d (t.xv x)]) (by
      have := Nat.le_of_ble_eq_true hn
      refine Nat.ble_eq_true_of_le ?_
      simp at this ⊢; omega)
theorem runF_sound {P : Program} {Γ : List (Ent P)} {own : List Nat} {N : Nat} {f : FuncId} {fn : Func} {an : An} {args res : List Ty} (hm : P.follows .mixedOrders = true) (hf : P.funcs[f]? = some fn)
    (hn : Nat.ble args.length fn.ntmps = true) : SoundF P f res args (runF P Γ own N fn an args res) [] :=
  bindArgs_sound hm hf args [] (by simpa using hn)
def appK {β R : Type} : (ts : List Ty) → Fun ts (Option β) → List Operand → List XV → List (Operand × XV) → (Option β → List (Operand × XV) → Option R) → Option R
  | [], F, [], [], acc, K => K F acc
  | t :: r, F, x :: ops, v :: vs, acc, K => match decXV t v with
    | some y => appK r (F y) ops vs (acc ++ [(x, .d (t.xv y))]) K
    | none => none
  | _, _, _, _, _, _ => none
def callArgs (o : Oper) : List Operand :=
  match o.op with
  | .call c => c.args.toList
  | _ => []
def dataRun {R : Type} (args res : List Ty) (F : Fun args (Option (ResT res))) (o : Oper) (st : XSt) (vs : List XV) (K : Out → Option R) : Option R :=
  appK args F (callArgs o) vs [] fun Fv rd => Option.bind Fv fun y => K (quietO st (resXV res y) rd)
theorem resL_data : ∀ (ts : List Ty) (y : ResT ts), areData (asOf (resL ts y)) = true
  | [], _ => rfl
  | [t], y => rfl
  | t :: u :: r, y => by simp only [resL, asOf, areData, resL_data (u :: r) y.2]; rfl
theorem resXV_data (ts : List Ty) (y : ResT ts) : isData (resXV ts y).a = true := by
  unfold resXV
  rw [tupX_a]
  have := resL_data ts y
  cases h : asOf (resL ts y) with
  | nil => rfl
  | cons x r =>
    rw [h] at this
    cases r with
    | nil => simp only [tupled]; simp only [areData, Bool.and_true] at this; exact this
    | cons z s => simp only [tupled, isData]; exact this
theorem xevals_cons {st : XSt} {x : Operand} {ops : List Operand} {v : XV} {vs : List XV} (h : xevals st (x :: ops) = some (v :: vs)) : xeval st x = some v ∧ xevals st ops = some vs := by
  simp only [xevals] at h
  split at h
  · rename_i a l ha hl; cases h; exact ⟨ha, hl⟩
  · cases h
theorem decXV_sees {st : XSt} {x : Operand} {v : XV} {t : Ty} {y : t.T} (h : xeval st x = some v) (hd : decXV t v = some y) : Sees st.im x (.d (t.dv y)) := by
  cases v with
  | d u => exact xeval_d h (t.decv_spec hd)
  | tip n u l ty => exact xd_sees (a := .sl u l) (by simp [xd, h, XV.asD]) (t.decv_spec hd)
  | _ => simp [decXV] at hd
theorem appK_ok {P : Program} {R : Type} {f : FuncId} {res : List Ty} {st : XSt} {K : Option (ResT res) → List (Operand × XV) → Option R} {r : R} : ∀ (ts : List Ty) (F : Fun ts (Option (ResT res))) (ops : List Operand) (vs : List XV) (acc : List (Operand × XV)) (aops : List Operand) (axs : List XV),
    SoundF P f res ts F axs → xevals st ops = some vs → acc = aops.zip axs → aops.length = axs.length → (∀ p ∈ imRd acc, Sees st.im p.1 p.2) → areData (asOf axs) = true → appK ts F ops vs acc K = some r →
    ∃ (Fv : Option (ResT res)) (xs : List XV), xs.length = (aops ++ ops).length ∧ (∀ y, Fv = some y → Does P f (asOf xs) X0 (resXV res y).a X0) ∧ areData (asOf xs) = true ∧
      (∀ p ∈ imRd ((aops ++ ops).zip xs), Sees st.im p.1 p.2) ∧ K Fv ((aops ++ ops).zip xs) = some r
  | [], F, ops, vs, acc, aops, axs, hs, hv, hacc, hlen, hsee, hda, h => by
    cases ops with
    | nil =>
      cases vs with
      | nil =>
        subst hacc
        exact ⟨F, axs, by simp [hlen], hs, hda, by simpa using hsee, by rw [List.append_nil]; exact h⟩
      | cons _ _ => simp [appK] at h
    | cons _ _ => simp [appK] at h
  | t :: ts, F, ops, vs, acc, aops, axs, hs, hv, hacc, hlen, hsee, hda, h => by
    cases ops with
    | nil => simp [appK] at h
    | cons x ops =>
      cases vs with
      | nil => simp [appK] at h
      | cons v vs =>
        simp only [appK] at h
        obtain ⟨hx, hvs⟩ := xevals_cons hv
        split at h
        · rename_i y hy
          have := appK_ok ts (F y) ops vs _ (aops ++ [x]) (axs ++ [.d (t.xv y)]) (hs y) hvs (by rw [hacc, List.zip_append hlen]; rfl) (by simp [hlen]) (by
            intro p hp
            rw [imRd_append] at hp
            rcases List.mem_append.1 hp with hp | hp
            · exact hsee p hp
            · simp only [imRd, List.map_cons, List.map_nil, List.mem_singleton] at hp
              subst hp
              exact decXV_sees hx hy) (by
            have : ∀ l : List AV, areData l = true → areData (l ++ [.d (t.dv y)]) = true := by
              intro l
              induction l with
              | nil => intro _; rfl
              | cons a r ih => intro h; simp only [areData, Bool.and_eq_true, List.cons_append] at h ⊢; exact ⟨h.1, ih h.2⟩
            rw [asOf_append]; exact this _ hda) h
          simpa using this
        · cases h
def mkEnt {P : Program} (id : FuncId) (args res : List Ty) (F : Fun args (Option (ResT res))) (hc : CallI P id) (hs : SoundF P id res args F []) : Ent P where
  id := id
  run := dataRun args res F
  ok := by
    intro R o st aops ts vs K r ho hv h
    unfold dataRun at h
    have e : callArgs o = aops.toList := by simp [callArgs, ho]
    rw [e] at h
    obtain ⟨Fv, xs, h1, h2, h3, h4, h5⟩ := appK_ok (st := st) args F aops.toList vs [] [] [] hs hv rfl rfl (by simp [imRd]) rfl h
    obtain ⟨y, hy, hK⟩ := Option.bind_eq_some_iff.1 h5
    simp only [List.nil_append] at h1 h4 hK
    refine ⟨_, hK, quietO_ok h4 fun X => ?_⟩
    have := op_call (X := X) (xs := asOf xs) ho hc (h2 y hy) (by rw [asOf_length, h1]; simp) h3 (resXV_data res y)
    rw [imRd_zip]
    exact this
def mkFn {P : Program} {Γ : List (Ent P)} {own : List Nat} {N : Nat} (id : FuncId) (fn : Func) (an : An) (args res : List Ty) (F : Fun args (Option (ResT res))) (hm : P.follows .mixedOrders = true) (hf : P.funcs[id]? = some fn)
    (hc : CallI P id) (hn : Nat.ble args.length fn.ntmps = true) (hE : runF P Γ own N fn an args res = F) : Ent P :=
  mkEnt id args res F hc (hE ▸ runF_sound hm hf hn)
end Go.Xl
set_option linter.unusedVariables false
set_option linter.unusedSimpArgs false
set_option linter.unnecessarySimpa false
namespace Go.Xl
open Go.Ab
inductive AK where
  | d (t : Ty)
  | c (f : Nat)
@[reducible] def FunA : List AK → Type → Type
  | [], R => R
  | .d t :: r, R => t.T → FunA r R
  | .c _ :: r, R => FunA r R
inductive RK where
  | d (t : Ty)
  | s
@[reducible] def RK.T : RK → Type
  | .d t => t.T
  | .s => Nat
@[reducible] def ResO : List RK → Type
  | [] => Unit
  | [r] => r.T
  | r :: u :: rs => r.T × ResO (u :: rs)
def RK.val (k : Nat) (t : Ty) : (r : RK) → r.T → XV
  | .d u, x => .d (u.xv x)
  | .s, n => .os k t 0 n
def resLO (k : Nat) (t : Ty) : (rs : List RK) → ResO rs → List XV
  | [], _ => []
  | [r], x => [r.val k t x]
  | r :: u :: rs, x => r.val k t x.1 :: resLO k t (u :: rs) x.2
def osLen (t : Ty) : XV → Option Nat
  | .os k t' a n => cond (Nat.beq k 1) (cond (t'.eqb t) (cond (Nat.beq a 0) (some n) none) none) none
  | _ => none
def RK.dec (t : Ty) : (r : RK) → XV → Option r.T
  | .d u, x => decXV u x
  | .s, x => osLen t x
def decO (t : Ty) : (rs : List RK) → List XV → Option (ResO rs)
  | [], [] => some ()
  | [r], [x] => r.dec t x
  | r :: u :: rs, x :: xs => match r.dec t x, decO t (u :: rs) xs with
    | some y, some ys => some (y, ys)
    | _, _ => none
  | _, _ => none
theorem RK.dec_le {t : Ty} {r : RK} {x : XV} {y : r.T} (h : r.dec t x = some y) : ALe x.a (r.val 1 t y).a := by
  cases r with
  | d u => exact decXV_le h
  | s =>
    change osLen t x = some y at h
    unfold osLen at h
    split at h
    · rename_i k t' a n
      cases h1 : Nat.beq k 1 with
      | false => simp [h1] at h
      | true =>
      cases h2 : t'.eqb t with
      | false => simp [h1, h2] at h
      | true =>
      cases h3 : Nat.beq a 0 with
      | false => simp [h1, h2, h3] at h
      | true =>
        simp only [h1, h2, h3, cond_true, Option.some.injEq] at h
        have e1 := Nat.eq_of_beq_eq_true h1
        have e2 := Ty.eqb_eq h2
        have e3 := Nat.eq_of_beq_eq_true h3
        subst e1; subst e2; subst e3; subst h
        exact .refl _
    · cases h
theorem decO_le {t : Ty} : ∀ {rs : List RK} {xs : List XV} {y : ResO rs}, decO t rs xs = some y → AsLe (asOf xs) (asOf (resLO 1 t rs y))
  | [], xs, y, h => by
    cases xs with
    | nil => exact .nil
    | cons _ _ => simp [decO] at h
  | [r], xs, y, h => by
    cases xs with
    | nil => simp [decO] at h
    | cons x xs =>
      cases xs with
      | nil => exact .cons (RK.dec_le h) .nil
      | cons _ _ => simp [decO] at h
  | r :: u :: rs, xs, y, h => by
    cases xs with
    | nil => simp [decO] at h
    | cons x xs =>
      simp only [decO] at h
      split at h
      · rename_i y1 ys h1 h2
        cases h
        exact .cons (RK.dec_le h1) (decO_le h2)
      · cases h
theorem AsLe.tupX {a b : List XV} (hl : AsLe (asOf a) (asOf b)) : ALe (Xl.tupX a).a (Xl.tupX b).a := by
  rw [tupX_a, tupX_a]
  generalize asOf a = a at hl
  generalize asOf b = b at hl
  cases hl with
  | nil => exact .refl _
  | cons h1 h2 =>
    cases h2 with
    | nil => exact h1
    | cons h3 h4 => exact (AsLe.cons h1 (.cons h3 h4)).tup
def finO (P : Program) (fn : Func) (t : Ty) (rs : List RK) (s : XSt) : Option (List t.T × ResO rs) :=
  match lk 1 s.objs with
  | some (.arr u l) => if h : u.eqb t = true then match xres P s fn.results.toList with
    | some xs => match decO t rs xs with
      | some y => some ((Ty.eqb_eq h ▸ l : List t.T), y)
      | none => none
    | none => none else none
  | _ => none
def finishO (P : Program) (fn : Func) (t : Ty) (rs : List RK) : Exit → XSt → Option (List t.T × ResO rs)
  | .ret, s => finO P fn t rs s
  | .normal, s => finO P fn t rs s
  | _, _ => none
def runBO (P : Program) (Γ : List (Ent P)) (own : List Nat) (N : Nat) (fn : Func) (an : An) (t : Ty) (rs : List RK) (l : List t.T) (n : Nat) (xs : List XV) : Option (List t.T × ResO rs) :=
  match fn.body with
  | some c => cond (Nat.ble fn.ntmps GB) (exec P Γ own [1] fn.ntmps N c an ⟨envX 0 (.os 1 t 0 n :: xs), [(1, .arr t l)], [], [], []⟩ (finishO P fn t rs)) none
  | none => none
def O1 (t : Ty) (l : List t.T) : Store := ⟨[(1, (XOb.arr t l).o)], []⟩
theorem runBO_sound {P : Program} {Γ : List (Ent P)} {own : List Nat} {N : Nat} {f : FuncId} {fn : Func} {an : An} {t : Ty} {rs : List RK} {l : List t.T} {n : Nat} {xs : List XV} {y : List t.T × ResO rs} (hm : P.follows .mixedOrders = true) (hf : P.funcs[f]? = some fn)
    (hn : Nat.ble (xs.length + 1) fn.ntmps = true) (h : runBO P Γ own N fn an t rs l n xs = some y) : Does P f (asOf (.os 1 t 0 n :: xs)) (O1 t l) (tupX (resLO 1 t rs y.2)).a (O1 t y.1) := by
  unfold runBO at h
  split at h
  · rename_i c hc
    obtain ⟨hG, h⟩ := condG h
    have hs := exec_sound (S := ⟨fn.ntmps, [1], by simp⟩) hm rfl c an _ _ _ _ (.refl _) h
    intro g w vs hr hl ha
    refine calls_of_wp hf hc (wp_mono (hs (Base.of g w (O1 t l)) g w _ ?_) ?_)
    · refine ⟨rfl, ?_, hr, ?_⟩
      · have := Nat.le_of_ble_eq_true hn
        rw [asOf_length] at hl
        simp at hl ⊢; omega
      · intro s x hx
        have hx' : (envOf 0 (asOf (.os 1 t 0 n :: xs))).lookup s = some x := by rw [← envX_im]; exact hx
        obtain ⟨_, hx'⟩ := envOf_lookup hx'
        rw [Nat.sub_zero] at hx'
        have hlt : s < vs.size := by have := (List.getElem?_eq_some_iff.1 hx').1; omega
        refine ⟨vs[s], ?_, ha s x _ hx' (by simp [hlt])⟩
        have := Nat.le_of_ble_eq_true hn
        rw [asOf_length, List.length_cons] at hl
        rw [slotV_tmp (by omega)]
        simp [Array.getElem?_append, hlt]
    · rintro e a' w' ⟨s, g', ⟨st', rfl, hi, hk⟩, hs'⟩
      have fin : finO P fn t rs st' = some y →
          a'.defers = [] ∧ ∃ v, (results fn a'.tmps).run P w' = .ok v w' ∧ ∃ g' v_1, Ending.returned v = Ending.returned v_1 ∧ RA g' w' (tupX (resLO 1 t rs y.2)).a v_1 ∧ HR ((O1 t l).objs.map (·.1)) (Base.of g w (O1 t l)) g' w' (O1 t y.1) := by
        intro h
        unfold finO at h
        split at h
        · rename_i u l' hk1
          split at h
          · rename_i hu
            have := Ty.eqb_eq hu
            subst this
            split at h
            · rename_i zs h1
              split at h
              · rename_i z h2
                cases h
                obtain ⟨v, hv, hra⟩ := run_results (xres_ok h1) hs'
                have hw : Weak [1] st'.im ⟨[], O1 u l'⟩ := ⟨by simp, by
                  intro p hp
                  simp only [O1, List.mem_singleton] at hp
                  subst hp
                  exact lk_imA hk1, by simp [O1], by simp [O1]⟩
                obtain ⟨g'', ht, hs''⟩ := hs'.weaken' hw
                have hra' := hra.mono ht (.nil _)
                rw [← tupX_a] at hra'
                exact ⟨hs'.defers, v, hv, g'', v, rfl, (AsLe.tupX (decO_le h2)) g'' w' v hra', hs''.hr⟩
              · cases h
            · cases h
          · cases h
        · cases h
      cases e with
      | ret => exact fin hk
      | normal => exact fin hk
      | _ => simp [finishO] at hk
  · cases h
def bindA {α : Type} : (ks : List AK) → (List XV → α) → List XV → FunA ks α
  | [], f, acc => f acc
  | .d t :: r, f, acc => fun x => bindA r f (acc ++ [.d (t.xv x)])
  | .c g :: r, f, acc => bindA r f (acc ++ [.clo g []])
def runO (P : Program) (Γ : List (Ent P)) (own : List Nat) (N : Nat) (fn : Func) (an : An) (t : Ty) (ks : List AK) (rs : List RK) (l : List t.T) (n : Nat) : FunA ks (Option (List t.T × ResO rs)) :=
  bindA ks (fun xs => runBO P Γ own N fn an t rs l n xs) []
def SndA {β : Type} (Q : β → List XV → Prop) : (ks : List AK) → FunA ks (Option β) → List XV → Prop
  | [], F, acc => ∀ y, F = some y → Q y acc
  | .d u :: r, F, acc => ∀ x : u.T, SndA Q r (F x) (acc ++ [.d (u.xv x)])
  | .c g :: r, F, acc => SndA Q r F (acc ++ [.clo g []])
def SoundO (P : Program) (f : FuncId) (t : Ty) (rs : List RK) (l : List t.T) (n : Nat) (ks : List AK) (F : FunA ks (Option (List t.T × ResO rs))) (acc : List XV) : Prop :=
  SndA (fun y acc => Does P f (asOf (.os 1 t 0 n :: acc)) (O1 t l) (tupX (resLO 1 t rs y.2)).a (O1 t y.1)) ks F acc
theorem bindA_snd {β : Type} {Q : β → List XV → Prop} {B : List XV → Option β} (m : Nat) (hB : ∀ acc, acc.length ≤ m → ∀ y, B acc = some y → Q y acc) :
    ∀ (ks : List AK) (acc : List XV), acc.length + ks.length ≤ m → SndA Q ks (bindA ks B acc) acc
  | [], acc, hn => fun y hy => hB acc (by simpa using hn) y hy
  | .d u :: r, acc, hn => fun x => bindA_snd m hB r _ (by simp at hn ⊢; omega)
  | .c g :: r, acc, hn => by
    simp only [SndA, bindA]
    exact bindA_snd m hB r (acc ++ [.clo g []]) (by simp at hn ⊢; omega)
theorem runO_sound {P : Program} {Γ : List (Ent P)} {own : List Nat} {N : Nat} {f : FuncId} {fn : Func} {an : An} {t : Ty} {ks : List AK} {rs : List RK} (hm : P.follows .mixedOrders = true) (hf : P.funcs[f]? = some fn)
    (hn : Nat.ble (ks.length + 1) fn.ntmps = true) (l : List t.T) (n : Nat) : SoundO P f t rs l n ks (runO P Γ own N fn an t ks rs l n) [] :=
by
  have h1 := Nat.le_of_ble_eq_true hn
  unfold SoundO runO
  have hB : ∀ acc : List XV, acc.length ≤ fn.ntmps - 1 → ∀ y, runBO P Γ own N fn an t rs l n acc = some y → Does P f (asOf (.os 1 t 0 n :: acc)) (O1 t l) (tupX (resLO 1 t rs y.2)).a (O1 t y.1) :=
    fun acc hl y hy => runBO_sound hm hf (Nat.ble_eq_true_of_le (by omega)) hy
  exact bindA_snd (Q := fun (y : List t.T × ResO rs) acc => Does P f (asOf (.os 1 t 0 n :: acc)) (O1 t l) (tupX (resLO 1 t rs y.2)).a (O1 t y.1)) (fn.ntmps - 1) hB ks [] (by simp; omega)
def asClo : XV → Option Nat
  | .clo g [] => some g
  | _ => none
theorem asClo_eq {v : XV} {g : Nat} (h : asClo v = some g) : v = .clo g [] := by
  unfold asClo at h
  split at h
  · cases h; rfl
  · cases h
def appA {β R : Type} : (ks : List AK) → FunA ks (Option β) → List Operand → List XV → List (Operand × XV) → (Option β → List (Operand × XV) → Option R) → Option R
  | [], F, [], [], acc, K => K F acc
  | .d t :: r, F, x :: ops, v :: vs, acc, K => match decXV t v with
    | some y => appA r (F y) ops vs (acc ++ [(x, .d (t.xv y))]) K
    | none => none
  | .c g :: r, F, x :: ops, v :: vs, acc, K => match asClo v with
    | some g' => cond (Nat.beq g' g) (appA r F ops vs (acc ++ [(x, .clo g [])]) K) none
    | none => none
  | _, _, _, _, _, _ => none
def argX : XV → Bool
  | .d _ => true
  | .clo _ [] => true
  | _ => false
def argsX : List XV → Bool
  | [] => true
  | x :: r => cond (argX x) (argsX r) false
theorem argsX_app {a b : List XV} (ha : argsX a = true) (hb : argsX b = true) : argsX (a ++ b) = true := by
  induction a with
  | nil => exact hb
  | cons x r ih =>
    simp only [argsX, List.cons_append] at ha ⊢
    cases hx : argX x with
    | false => simp [hx] at ha
    | true => simp only [hx, cond_true] at ha ⊢; exact ih ha
theorem argX_map {f : Nat → Nat} {x : XV} (h : argX x = true) : mapAV f x.a = x.a := by
  unfold argX at h
  split at h <;> first | rfl | cases h
theorem argsX_map {f : Nat → Nat} : ∀ {l : List XV}, argsX l = true → mapAVs f (asOf l) = asOf l
  | [], _ => rfl
  | x :: r, h => by
    simp only [argsX] at h
    cases hx : argX x with
    | false => simp [hx] at h
    | true =>
      simp only [hx, cond_true] at h
      simp only [asOf, mapAVs, argX_map hx, argsX_map h]
theorem argsX_names {ks : List Nat} : ∀ {l : List XV}, argsX l = true → namesIns ks (asOf l) = true
  | [], _ => rfl
  | x :: r, h => by
    simp only [argsX] at h
    cases hx : argX x with
    | false => simp [hx] at h
    | true =>
      simp only [hx, cond_true] at h
      have : namesIn ks x.a = true := by
        unfold argX at hx
        split at hx <;> first | rfl | cases hx
      simp only [asOf, namesIns, this, argsX_names h, Bool.and_self]
theorem appA_ok {β R : Type} {Q : β → List XV → Prop} {st : XSt} {K : Option β → List (Operand × XV) → Option R} {r : R} : ∀ (ks : List AK) (F : FunA ks (Option β)) (ops : List Operand) (vs : List XV) (acc : List (Operand × XV)) (aops : List Operand) (axs : List XV),
    SndA Q ks F axs → xevals st ops = some vs → acc = aops.zip axs → aops.length = axs.length → (∀ p ∈ imRd acc, Sees st.im p.1 p.2) → argsX axs = true → appA ks F ops vs acc K = some r →
    ∃ (Fv : Option β) (xs : List XV), xs.length = (aops ++ ops).length ∧ (∀ y, Fv = some y → Q y xs) ∧ argsX xs = true ∧
      (∀ p ∈ imRd ((aops ++ ops).zip xs), Sees st.im p.1 p.2) ∧ K Fv ((aops ++ ops).zip xs) = some r
  | [], F, ops, vs, acc, aops, axs, hs, hv, hacc, hlen, hsee, hda, h => by
    cases ops with
    | nil =>
      cases vs with
      | nil =>
        subst hacc
        exact ⟨F, axs, by simp [hlen], hs, hda, by simpa using hsee, by rw [List.append_nil]; exact h⟩
      | cons _ _ => simp [appA] at h
    | cons _ _ => simp [appA] at h
  | .d u :: ts, F, ops, vs, acc, aops, axs, hs, hv, hacc, hlen, hsee, hda, h => by
    cases ops with
    | nil => simp [appA] at h
    | cons x ops =>
      cases vs with
      | nil => simp [appA] at h
      | cons v vs =>
        simp only [appA] at h
        obtain ⟨hx, hvs⟩ := xevals_cons hv
        split at h
        · rename_i y hy
          have := appA_ok ts (F y) ops vs _ (aops ++ [x]) (axs ++ [.d (u.xv y)]) (hs y) hvs (by rw [hacc, List.zip_append hlen]; rfl) (by simp [hlen]) (by
            intro p hp
            rw [imRd_append] at hp
            rcases List.mem_append.1 hp with hp | hp
            · exact hsee p hp
            · simp only [imRd, List.map_cons, List.map_nil, List.mem_singleton] at hp
              subst hp
              exact decXV_sees hx hy) (argsX_app hda rfl) h
          simpa using this
        · cases h
  | .c g :: ts, F, ops, vs, acc, aops, axs, hs, hv, hacc, hlen, hsee, hda, h => by
    cases ops with
    | nil => simp [appA] at h
    | cons x ops =>
      cases vs with
      | nil => simp [appA] at h
      | cons v vs =>
        simp only [appA] at h
        obtain ⟨hx, hvs⟩ := xevals_cons hv
        split at h
        · rename_i g' hg
          cases h1 : Nat.beq g' g with
          | false => simp [h1] at h
          | true =>
            simp only [h1, cond_true] at h
            have := Nat.eq_of_beq_eq_true h1
            subst this
            have := asClo_eq hg
            subst this
            have := appA_ok ts F ops vs _ (aops ++ [x]) (axs ++ [.clo g' []]) hs hvs (by rw [hacc, List.zip_append hlen]; rfl) (by simp [hlen]) (by
              intro p hp
              rw [imRd_append] at hp
              rcases List.mem_append.1 hp with hp | hp
              · exact hsee p hp
              · simp only [imRd, List.map_cons, List.map_nil, List.mem_singleton] at hp
                subst hp
                exact xeval_sees hx) (argsX_app hda rfl) h
            simpa using this
        · cases h
theorem mapOb_arr (f : Nat → Nat) (t : Ty) (l : List t.T) : mapOb f (XOb.arr t l).o = (XOb.arr t l).o := by
  show Ob.cells (mapAVs f _) none = _
  congr 1
  generalize (l.map t.ds).flatten = ds
  induction ds with
  | nil => rfl
  | cons x r ih => simp only [List.map_cons, mapAVs, mapAV, ih]
theorem namesIns_map_d (ks : List Nat) : ∀ (l : List D), namesIns ks (l.map .d) = true
  | [] => rfl
  | x :: r => by simp only [List.map_cons, namesIns, namesIn, namesIns_map_d ks r, Bool.and_self]
theorem arr_names (ks : List Nat) (t : Ty) (l : List t.T) : namesInOb ks (XOb.arr t l).o = true := namesIns_map_d ks _
theorem resLO_map (k : Nat) (t : Ty) : ∀ (rs : List RK) (y : ResO rs), mapAVs (nf [(1, k)]) (asOf (resLO 1 t rs y)) = asOf (resLO k t rs y)
  | [], _ => rfl
  | [r], y => by cases r <;> rfl
  | r :: u :: rs, y => by
    simp only [resLO, asOf, mapAVs, resLO_map k t (u :: rs) y.2]
    congr 1
    cases r <;> rfl
theorem resLO_tup (k : Nat) (t : Ty) (rs : List RK) (y : ResO rs) : mapAV (nf [(1, k)]) (tupX (resLO 1 t rs y)).a = (tupX (resLO k t rs y)).a := by
  rw [tupX_a, tupX_a]
  have h := resLO_map k t rs y
  generalize asOf (resLO k t rs y) = m at h ⊢
  subst h
  generalize asOf (resLO 1 t rs y) = l
  cases l with
  | nil => rfl
  | cons x r => cases r <;> rfl
theorem resLO_names (t : Ty) : ∀ (rs : List RK) (y : ResO rs), namesIns [1] (asOf (resLO 1 t rs y)) = true
  | [], _ => rfl
  | [r], y => by cases r <;> rfl
  | r :: u :: rs, y => by
    have : namesIn [1] (r.val 1 t y.1).a = true := by cases r <;> rfl
    simp only [resLO, asOf, namesIns, this, resLO_names t (u :: rs) y.2, Bool.and_self]
theorem resLO_tnames (t : Ty) (rs : List RK) (y : ResO rs) : namesIn [1] (tupX (resLO 1 t rs y)).a = true := by
  rw [tupX_a]
  have := resLO_names t rs y
  generalize asOf (resLO 1 t rs y) = l at this ⊢
  cases l with
  | nil => rfl
  | cons x r =>
    cases r with
    | nil => simp only [namesIns, Bool.and_true] at this; exact this
    | cons z s => exact this
def oRun {P : Program} {R : Type} (t : Ty) (ks : List AK) (rs : List RK) (F : List t.T → Nat → FunA ks (Option (List t.T × ResO rs))) (o : Oper) (st : XSt) (vs : List XV) (K : Out → Option R) : Option R :=
  match callArgs o, vs with
  | x :: ops, .os k t' a n :: vs => match lk k st.objs with
    | some (.arr u l) => if h : u.eqb t = true then cond (t'.eqb t) (cond (Nat.beq a 0)
        (appA ks (F (Ty.eqb_eq h ▸ l : List t.T) n) ops vs [] fun Fv rd => Option.bind Fv fun y =>
          K ⟨.put k (.arr t y.1), tupX (resLO k t rs y.2), (x, .os k t 0 n) :: rd, xset k (.arr t y.1) st.objs, st.live, [], [k]⟩) none) none else none
    | _ => none
  | _, _ => none
theorem oRun_ok {P : Program} {R : Type} {f : FuncId} {t : Ty} {ks : List AK} {rs : List RK} {F : List t.T → Nat → FunA ks (Option (List t.T × ResO rs))} (hc : CallI P f) (hs : ∀ l n, SoundO P f t rs l n ks (F l n) []) {o : Oper} {st : XSt} {aops : Array Operand} {ts : Array TypeId} {vs : List XV} {K : Out → Option R} {r : R}
    (ho : o.op = .call { callee := .value (.func f), args := aops, argTypes := ts }) (hv : xevals st aops.toList = some vs) (h : oRun (P := P) t ks rs F o st vs K = some r) : ∃ out, K out = some r ∧ OpOk P o st out := by
  have e : callArgs o = aops.toList := by simp [callArgs, ho]
  unfold oRun at h
  rw [e] at h
  split at h
  · rename_i x ops k t' a n vs' hl
    rw [hl] at hv
    obtain ⟨hx, hvs⟩ := xevals_cons hv
    split at h
    · rename_i u l hk
      split at h
      · rename_i hu
        have e2 := Ty.eqb_eq hu
        subst e2
        cases h2 : t'.eqb u with
        | false => simp [h2] at h
        | true =>
        cases h3 : Nat.beq a 0 with
        | false => simp [h2, h3] at h
        | true =>
          simp only [h2, h3, cond_true] at h
          have e3 := Ty.eqb_eq h2
          have e4 := Nat.eq_of_beq_eq_true h3
          subst e3; subst e4
          obtain ⟨Fv, xs, h1, h2, h3, h4, h5⟩ := appA_ok (st := st) ks (F l n) ops vs' [] [] [] (hs l n) hvs rfl rfl (by simp [imRd]) rfl h
          obtain ⟨y, hy, hK⟩ := Option.bind_eq_some_iff.1 h5
          simp only [List.nil_append] at h1 h4 hK
          refine ⟨_, hK, ⟨?_, ⟨rfl, rfl, rfl, fun X hX => ?_⟩, ?_⟩⟩
          · intro p hp
            rcases List.mem_cons.1 hp with rfl | hp
            · exact xeval_sees hx
            · exact h4 p hp
          · have hlk : X.objs.lookup k = some (XOb.arr t' l).o := by rw [hX]; exact lk_imA hk
            have hoc : ObjCall X (O1 t' l) (O1 t' y.1) (nf [(1, k)]) [] := by
              refine ⟨⟨rfl, rfl⟩, ?_, ?_, ?_, by simp [O1], by simp [O1], ?_, ?_, by simp [objsFree]⟩
              · intro p hp
                simp only [O1, List.mem_singleton] at hp
                subst hp
                simp only [mapOb_arr]
                exact hlk
              · simp [O1, arr_names]
              · simp [O1, arr_names]
              · intro p hp
                simp only [O1, List.mem_singleton] at hp
                subst hp
                exact .inl (by simp [O1])
              · intro p hp
                simp only [O1, List.mem_singleton] at hp
                subst hp
                simp [O1]
            have hcall := op_call_obj (X := X) [(1, k)] [] ho hc (h2 y hy) hoc (by
                have hl' : aops.size = ops.length + 1 := by rw [← Array.length_toList, hl]; rfl
                simp only [asOf, List.length_cons, asOf_length, hl', h1]) (by
                simp only [asOf, namesIns, argsX_names h3, Bool.and_true]; rfl) (resLO_tnames t' rs y.2)
            rw [hl] at hcall
            rw [resLO_tup] at hcall
            have e5 : mapAVs (nf [(1, k)]) (asOf (.os 1 t' 0 n :: xs)) = asOf (.os k t' 0 n :: xs) := by
              simp only [asOf, mapAVs, argsX_map h3]; rfl
            rw [e5] at hcall
            have e6 : imRd ((x, .os k t' 0 n) :: ops.zip xs) = (x :: ops).zip (asOf (.os k t' 0 n :: xs)) := by
              rw [asOf, List.zip_cons_cons, ← imRd_zip]; rfl
            rw [e6]
            have e7 : putObjs (nf [(1, k)]) (O1 t' y.1).objs X.objs = Ab.setObj k (XOb.arr t' y.1).o X.objs := by
              simp only [O1, putObjs, mapOb_arr]; rfl
            rw [e7] at hcall
            exact hcall
          · intro j z hj hz
            simp only [List.mem_singleton] at hj
            rw [lk_xset _ _ _ _ hj] at hz; exact hz
      · cases h
    · cases h
  · cases h
@[reducible] def RK.ty (t : Ty) : RK → Ty
  | .d u => u
  | .s => .sl t
@[reducible] def rkTys (t : Ty) : List RK → List Ty
  | [] => []
  | r :: rs => r.ty t :: rkTys t rs
def runO0 (P : Program) (Γ : List (Ent P)) (own : List Nat) (N : Nat) (fn : Func) (an : An) (t : Ty) (ks : List AK) (rs : List RK) : FunA ks (Option (ResT (rkTys t rs))) :=
  bindA ks (fun xs => runB P Γ own N fn an (rkTys t rs) (.d (.sl t []) :: xs)) []
def EmptyS (P : Program) (f : FuncId) (t : Ty) (rs : List RK) (y : ResT (rkTys t rs)) (acc : List XV) : Prop :=
  Does P f (asOf (.d (.sl t []) :: acc)) X0 (resXV (rkTys t rs) y).a X0
theorem runO0_sound {P : Program} {Γ : List (Ent P)} {own : List Nat} {N : Nat} {f : FuncId} {fn : Func} {an : An} {t : Ty} {ks : List AK} {rs : List RK} (hm : P.follows .mixedOrders = true) (hf : P.funcs[f]? = some fn)
    (hn : Nat.ble (ks.length + 1) fn.ntmps = true) : SndA (EmptyS P f t rs) ks (runO0 P Γ own N fn an t ks rs) [] := by
  have h1 := Nat.le_of_ble_eq_true hn
  have hB : ∀ acc : List XV, acc.length ≤ fn.ntmps - 1 → ∀ y, runB P Γ own N fn an (rkTys t rs) (.d (.sl t []) :: acc) = some y → EmptyS P f t rs y acc :=
    fun acc hl y hy => runB_sound hm hf (Nat.ble_eq_true_of_le (by simp; omega)) hy
  exact bindA_snd (Q := EmptyS P f t rs) (fn.ntmps - 1) hB ks [] (by simp; omega)
def isOs : XV → Bool
  | .os _ _ _ _ => true
  | _ => false
def oRun2 {P : Program} {R : Type} (t : Ty) (ks : List AK) (rs : List RK) (F : List t.T → Nat → FunA ks (Option (List t.T × ResO rs))) (F0 : FunA ks (Option (ResT (rkTys t rs)))) (o : Oper) (st : XSt) (vs : List XV) (K : Out → Option R) : Option R :=
  match callArgs o, vs with
  | x :: ops, v :: vs' => cond (isOs v) (oRun (P := P) t ks rs F o st vs K) (match decXV (.sl t) v with
    | some [] => appA ks F0 ops vs' [] fun Fv rd => Option.bind Fv fun y => K (quietO st (resXV (rkTys t rs) y) ((x, .d (.sl t [])) :: rd))
    | _ => none)
  | _, _ => none
theorem argsX_data : ∀ {xs : List XV}, argsX xs = true → areData (asOf xs) = true
  | [], _ => rfl
  | x :: r, h => by
    simp only [argsX] at h
    cases hx : argX x with
    | false => simp [hx] at h
    | true =>
      simp only [hx, cond_true] at h
      have : isData x.a = true := by
        unfold argX at hx
        split at hx <;> first | rfl | cases hx
      simp only [asOf, areData, this, argsX_data h, Bool.and_self]
theorem oRun2_ok {P : Program} {R : Type} {f : FuncId} {t : Ty} {ks : List AK} {rs : List RK} {F : List t.T → Nat → FunA ks (Option (List t.T × ResO rs))} {F0 : FunA ks (Option (ResT (rkTys t rs)))} (hc : CallI P f) (hs : ∀ l n, SoundO P f t rs l n ks (F l n) []) (hs0 : SndA (EmptyS P f t rs) ks F0 []) {o : Oper} {st : XSt} {aops : Array Operand} {ts : Array TypeId} {vs : List XV} {K : Out → Option R} {r : R}
    (ho : o.op = .call { callee := .value (.func f), args := aops, argTypes := ts }) (hv : xevals st aops.toList = some vs) (h : oRun2 (P := P) t ks rs F F0 o st vs K = some r) : ∃ out, K out = some r ∧ OpOk P o st out := by
  have e : callArgs o = aops.toList := by simp [callArgs, ho]
  unfold oRun2 at h
  rw [e] at h
  split at h
  · rename_i x ops v vs' hl
    cases hos : isOs v with
    | true =>
      simp only [hos, cond_true] at h
      exact oRun_ok hc hs ho hv h
    | false =>
      simp only [hos, cond_false] at h
      rw [hl] at hv
      obtain ⟨hx, hvs⟩ := xevals_cons hv
      split at h
      · rename_i hd
        obtain ⟨Fv, xs, h1, h2, h3, h4, h5⟩ := appA_ok (st := st) ks F0 ops vs' [] [] [] hs0 hvs rfl rfl (by simp [imRd]) rfl h
        obtain ⟨y, hy, hK⟩ := Option.bind_eq_some_iff.1 h5
        simp only [List.nil_append] at h1 h4 hK
        refine ⟨_, hK, quietO_ok ?_ fun X => ?_⟩
        · intro p hp
          rcases List.mem_cons.1 hp with rfl | hp
          · exact decXV_sees hx hd
          · exact h4 p hp
        · have hl' : aops.size = ops.length + 1 := by rw [← Array.length_toList, hl]; rfl
          have := op_call (X := X) (xs := asOf (.d (.sl t []) :: xs)) ho hc (h2 y hy) (by simp only [asOf, List.length_cons, asOf_length, hl', h1]) (by
            simp only [asOf, areData, argsX_data h3, Bool.and_true]; rfl) (resXV_data _ y)
          have e6 : imRd ((x, .d (.sl t [])) :: ops.zip xs) = (x :: ops).zip (asOf (.d (.sl t []) :: xs)) := by
            rw [asOf, List.zip_cons_cons, ← imRd_zip]; rfl
          rw [hl] at this
          rw [e6]
          exact this
      · cases h
  · cases h
def mkO2 {P : Program} {Γ : List (Ent P)} {own : List Nat} {N : Nat} (id : FuncId) (fn : Func) (an an0 : An) (t : Ty) (ks : List AK) (rs : List RK) (F : List t.T → Nat → FunA ks (Option (List t.T × ResO rs))) (F0 : FunA ks (Option (ResT (rkTys t rs)))) (hm : P.follows .mixedOrders = true) (hf : P.funcs[id]? = some fn)
    (hc : CallI P id) (hn : Nat.ble (ks.length + 1) fn.ntmps = true) (hE : runO P Γ own N fn an t ks rs = F) (hE0 : runO0 P Γ own N fn an0 t ks rs = F0) : Ent P where
  id := id
  run := oRun2 (P := P) t ks rs F F0
  ok := by
    intro R o st aops ts vs K r ho hv h
    exact oRun2_ok hc (fun l n => hE ▸ runO_sound hm hf hn l n) (hE0 ▸ runO0_sound hm hf hn) ho hv h
end Go.Xl
set_option linter.unusedVariables false
set_option linter.unusedSimpArgs false
set_option linter.unnecessarySimpa false
namespace Go.Xl
open Go.Ab
def NewS (P : Program) (f : FuncId) (t : Ty) (y : Option (List t.T × Nat)) (xs : List XV) : Prop :=
  match y with
  | none => Does P f (asOf xs) X0 (.d (.sl t.size [])) X0
  | some z => Does P f (asOf xs) X0 (.osl 1 0 z.2 t.size) (O1 t z.1)
theorem OpT.drop {P : Program} {o : Oper} {rd : List (Operand × AV)} {X X' : Store} {F : List Nat} {res : AV} {m : Nat} (h : OpT P o rd (Ab.dropObj m X) X' F res) (hm : 1000 ≤ m) : OpT P o rd X X' F res := by
  intro nm hsm B g w a hr hrd
  exact h nm hsm B g w a (hr.dropObj fun hh => by have := hsm m hh; omega) hrd
end Go.Xl
set_option linter.unusedVariables false
set_option linter.unusedSimpArgs false
namespace Go.Ab
open Go.RowKit
def fullγ (w : World) (b : Nat) : Nat :=
  match w.heap[b]? with
  | some (.cells c _ _) => c.size
  | _ => 0
def full (w : World) : Gh := { γ := fullγ w, β := fun _ => none, ρ := fun _ => 0 }
theorem full_hr (w : World) : HR [] (Base.of (full w) w X0) (full w) w X0 := by
  refine ⟨by simp, ?_, Nat.le_refl _, ⟨rfl, rfl, rfl, Nat.le_refl _⟩, .refl _ _, fun _ _ _ => ⟨rfl, rfl⟩, by simp [X0], by simp [X0], by simp [X0], by simp [X0], by simp [X0, full], by simp [full], by simp [full], by simp [full], by simp [full]⟩
  intro b i hi
  simp only [full, fullγ] at hi
  split at hi
  · rename_i c T fr h
    rw [cell?_cells h]
    simp [hi]
  · omega
theorem Does.below {P : Program} {f : FuncId} {args : List AV} {res : AV} (h : Does P f args X0 res X0) {w : World} {vs : Array Value} (hl : args.length = vs.size)
    (ha : ∀ (i : Nat) x v, args[i]? = some x → vs[i]? = some v → RA (full w) w x v) :
    Calls P f vs w fun e w' => ∃ v g', e = .returned v ∧ RA g' w' res v ∧ Below w.heap.size w w' := by
  refine (h (full w) w vs (full_hr w) hl ha).mono ?_
  rintro e w' ⟨g', v, rfl, hr, h1⟩
  refine ⟨v, g', rfl, hr, ⟨h1.io.1, h1.io.2.2.1, h1.io.2.1, h1.base, fun b hb => (h1.frame b hb ?_).1⟩⟩
  rintro (⟨k, o, hk, _⟩ | ⟨n, hn⟩)
  · simp [X0] at hk
  · simp [full] at hn
theorem Does.law {P : Program} {f : FuncId} {args : List AV} (h : Does P f args X0 (.d (.sc (.bool true))) X0) {w : World} {vs : Array Value} (hl : args.length = vs.size)
    (ha : ∀ (i : Nat) x v, args[i]? = some x → vs[i]? = some v → RA (full w) w x v) :
    Calls P f vs w fun e w' => e = .returned (.bool true) ∧ Below w.heap.size w w' := by
  refine (h.below hl ha).mono ?_
  rintro e w' ⟨v, g', rfl, hr, hb⟩
  exact ⟨by rw [hr.sc_inv], hb⟩
inductive RAs (g : Gh) (w : World) : List AV → List Value → Prop
  | nil : RAs g w [] []
  | cons {x : AV} {v : Value} {r : List AV} {rs : List Value} : RA g w x v → RAs g w r rs → RAs g w (x :: r) (v :: rs)
theorem RAs.get {g : Gh} {w : World} {l : List AV} {vs : List Value} (h : RAs g w l vs) : l.length = vs.length ∧ ∀ (i : Nat) x v, l[i]? = some x → vs[i]? = some v → RA g w x v := by
  induction h with
  | nil => exact ⟨rfl, by simp⟩
  | cons h _ ih =>
    refine ⟨by simp [ih.1], ?_⟩
    intro i x u hx hu
    cases i with
    | zero => simp at hx hu; subst hx; subst hu; exact h
    | succ i => exact ih.2 i x u (by simpa using hx) (by simpa using hu)
theorem Does.lawAs {P : Program} {f : FuncId} {args : List AV} (h : Does P f args X0 (.d (.sc (.bool true))) X0) {w : World} {vs : Array Value} (ha : RAs (full w) w args vs.toList) :
    Calls P f vs w fun e w' => e = .returned (.bool true) ∧ Below w.heap.size w w' :=
  h.law (by have := ha.get.1; simpa using this) fun i x v hx hv => ha.get.2 i x v hx (by simpa using hv)
theorem fullγ_cell {w : World} {b i : Nat} {v : Value} (h : w.cell? ⟨b, i, none⟩ = some v) : i < fullγ w b := by
  unfold World.cell? at h
  unfold fullγ
  simp only at h
  split at h
  · rename_i c T fr hh
    rw [hh]
    simp at h
    exact (Array.getElem?_eq_some_iff.1 h).1
  · cases h
end Go.Ab
set_option linter.unusedVariables false
set_option linter.unusedSimpArgs false
namespace Go.Ab
open Go.Sort Go.Proofs
section
variable {P : Program} {o : Oper} {X : Store}
end
end Go.Ab
set_option linter.unusedVariables false
set_option linter.unusedSimpArgs false
set_option linter.unnecessarySimpa false
namespace Go.Xl
open Go.Ab Go.Sort Go.Proofs
def scOf : D → Value
  | .sc v => v
  | _ => undef
def plainDs : List D → Bool
  | [] => true
  | .sc _ :: r => plainDs r
  | _ :: _ => false
theorem plainDs_eq : ∀ {l : List D}, plainDs l = true → (l.map scOf).map .sc = l
  | [], _ => rfl
  | .sc v :: r, h => by simp only [List.map_cons, scOf]; rw [plainDs_eq (l := r) h]
  | .agg _ :: r, h => by simp [plainDs] at h
  | .sl _ _ :: r, h => by simp [plainDs] at h
  | .ep _ :: r, h => by simp [plainDs] at h
  | .any _ :: r, h => by simp [plainDs] at h
def Ty.vals (t : Ty) (x : t.T) : List Value := (t.ds x).map scOf
structure Ty.Plain (t : Ty) : Prop where
  ok : ∀ x : t.T, plainDs (t.ds x) = true
theorem Ty.Plain.vals {t : Ty} (h : t.Plain) (x : t.T) : (t.vals x).map D.sc = t.ds x := plainDs_eq (h.ok x)
structure Sorts (P : Program) (f c : FuncId) (T : Ty) (φ : List T.T → List T.T) : Prop where
  plain : T.Plain
  ci : CallI P f
  len : ∀ d, (φ d).length = d.length
  none : ∀ p cap w, Calls P f #[.slice p 0 cap, .func (.func c) #[] #[]] w fun e w' => e = .returned (.tuple #[]) ∧ w' = w
  some : ∀ [Inhabited T.T] (l : List T.T) blk cap w, l.length ≤ 4611686018427387903 → HoldsK T.vals T.size w blk 0 l.toArray → blk < w.heap.size →
    Calls P f #[.slice (some ⟨blk, 0, .none⟩) l.length cap, .func (.func c) #[] #[]] w fun e w' => e = .returned (.tuple #[]) ∧ ∃ n os, w' = sortWorldK T.vals T.size w blk 0 n (φ l).toArray os
end Go.Xl
set_option linter.unusedVariables false
set_option linter.unusedSimpArgs false
namespace Go.Xl
open Go.Ab
theorem NewS.empty {P : Program} {f : FuncId} {t : Ty} {xs : List XV} (h : NewS P f t (some ([], 0)) xs) : NewS P f t none xs := by
  intro g w vs hr hl ha
  refine (h g w vs hr hl ha).mono ?_
  rintro e w' ⟨g', v, rfl, h1, h2⟩
  refine ⟨g', v, rfl, ?_, ?_⟩
  · obtain ⟨cap, o, _, hv, _⟩ := RA.osl_inv h1
    rw [hv]
    exact .d _ _ (.nil _ _ _ (by simp))
  · refine (h2.dropObj (k := 1) (by simp [X0])).alike ⟨fun j => ?_, rfl⟩
    simp only [O1, Ab.dropObj, X0]
    by_cases hj : j = 1
    · subst hj; rfl
    · rfl
end Go.Xl
set_option linter.unusedVariables false
set_option linter.unusedSimpArgs false
set_option linter.unnecessarySimpa false
namespace Go.Xl
open Go.Ab
def GHold (g : Gh) (w : World) (gs : List (Nat × AV)) : Prop := ∀ p ∈ gs, RA g w p.2 (.pointer (some ⟨p.1, 0, none⟩))
def DoesG (P : Program) (f : FuncId) (args : List AV) (gs : List (Nat × AV)) (res : AV) : Prop :=
  ∀ (g : Gh) (w : World) (vs : Array Value), HR [] (Base.of g w X0) g w X0 → GHold g w gs → args.length = vs.size →
    (∀ (i : Nat) x v, args[i]? = some x → vs[i]? = some v → RA g w x v) →
    Calls P f vs w fun e w' => ∃ g' v, e = .returned v ∧ RA g' w' res v ∧ HR [] (Base.of g w X0) g' w' X0
theorem DoesG.plain {P : Program} {f : FuncId} {args : List AV} {res : AV} (h : DoesG P f args [] res) : Does P f args X0 res X0 :=
  fun g w vs hr hl ha => h g w vs hr (by simp [GHold]) hl ha
theorem DoesG.use {P : Program} {X : Store} {f : FuncId} {xs : List AV} {gs : List (Nat × AV)} {res : AV} (hs : DoesG P f xs gs res) (hd : areData xs = true) (hg : areData (gs.map (·.2)) = true) (hdr : isData res = true) {nm : List Nat} {B : Base} {g : Gh} {w : World}
    (hr : HR nm B g w X) (hgs : GHold g w gs) {vs : Array Value} (hl : xs.length = vs.size) (hvs : ∀ (i : Nat) x v, xs[i]? = some x → vs[i]? = some v → RA g w x v) :
    Calls P f vs w fun e w' => ∃ v g', e = .returned v ∧ HR nm B g' w' X ∧ Trans [] g w g' w' ∧ RA g' w' res v := by
  have h0 : HR [] (Base.of { g with β := fun _ => none } w X0) { g with β := fun _ => none } w X0 :=
    ⟨by simp, hr.sane, Nat.le_refl _, ⟨rfl, rfl, rfl, Nat.le_refl _⟩, .refl _ _, fun b _ _ => ⟨rfl, rfl⟩, by simp [X0], by simp [X0], by simp [X0], by simp [X0], by simp [X0], by simp, by simp, by simp, by simp⟩
  have hgs' : GHold { g with β := fun _ => none } w gs := by
    intro p hp
    obtain ⟨i, hi⟩ := List.getElem?_of_mem hp
    exact (hgs p hp).data (areData_get hg (i := i) (by rw [List.getElem?_map, hi]; rfl)) (.refl _ _)
  have := hs { g with β := fun _ => none } w vs h0 hgs' hl fun i x v hx hv => (hvs i x v hx hv).data (areData_get hd hx) (.refl _ _)
  refine this.mono ?_
  rintro e w' ⟨gc, v, rfl, hra, h1⟩
  obtain ⟨h2, h3⟩ := hr.pureCall (gc := gc) h1
  exact ⟨v, _, rfl, h2, h3, hra.data hdr (.refl _ _)⟩
theorem areData_take : ∀ {l : List AV} (n : Nat), areData l = true → areData (l.take n) = true
  | [], n, _ => by simp [areData]
  | x :: r, 0, _ => rfl
  | x :: r, n + 1, h => by
    simp only [areData, Bool.and_eq_true] at h
    simp only [List.take_succ_cons, areData, Bool.and_eq_true]
    exact ⟨h.1, areData_take n h.2⟩
theorem areData_drop : ∀ {l : List AV} (n : Nat), areData l = true → areData (l.drop n) = true
  | [], n, _ => by simp [areData]
  | x :: r, 0, h => h
  | x :: r, n + 1, h => by
    simp only [areData, Bool.and_eq_true] at h
    exact areData_drop n h.2
theorem areData_zip : ∀ {l : List AV} (ks : List Nat), areData l = true → areData ((ks.zip l).map (·.2)) = true
  | [], ks, _ => by cases ks <;> rfl
  | x :: r, [], _ => rfl
  | x :: r, k :: ks, h => by
    simp only [areData, Bool.and_eq_true] at h
    simp only [List.zip_cons_cons, List.map_cons, areData, Bool.and_eq_true]
    exact ⟨h.1, areData_zip ks h.2⟩
theorem op_callG {P : Program} {o : Oper} {X : Store} {f : FuncId} {args : Array Operand} {ts : Array TypeId} {gids : List Nat} {xs : List AV} {res : AV} (ho : o.op = .call { callee := .value (.func f), args := args, argTypes := ts }) (hf : CallI P f)
    (hs : DoesG P f (xs.take args.size) (gids.zip (xs.drop args.size)) res) (hl : args.size ≤ xs.length) (hd : areData xs = true) (hdr : isData res = true) :
    OpT P o ((args.toList ++ gids.map Operand.global).zip xs) X X [] res := by
  intro nm hsm B g w a hr hrd next Q hn
  have hz : (args.toList ++ gids.map Operand.global).zip xs = args.toList.zip (xs.take args.size) ++ (gids.map Operand.global).zip (xs.drop args.size) := by
    conv => lhs; rw [← List.take_append_drop args.size xs]
    rw [List.zip_append (by simp; omega)]
  rw [hz] at hrd
  unfold Oper.wp
  have : (execOp a.eval o).run P w = .ok (.enter f (args.map a.eval)) w := by
    simp only [execOp, ho, resolve]
    simp [Act.eval, Deferred.ofValue, invoke, run_callFunc hf]
  rw [this]
  have hG : GHold g w (gids.zip (xs.drop args.size)) := by
    intro p hp
    have h1 : (Operand.global p.1, p.2) ∈ (gids.map Operand.global).zip (xs.drop args.size) := by
      rw [List.zip_map_left, List.mem_map]
      exact ⟨p, hp, rfl⟩
    exact hrd _ (List.mem_append_right _ h1)
  refine (hs.use (areData_take _ hd) (areData_zip _ (areData_drop _ hd)) hdr hr hG (by simp; omega) (rds_args fun p hp => hrd p (List.mem_append_left _ hp))).mono ?_
  rintro e w' ⟨v, g', rfl, h1, h2, h3⟩
  exact hn g' w' v h1 h2 h3
def glE : List Nat → List XV → List (Nat × XV)
  | k :: ks, x :: r => (GB + k, x) :: glE ks r
  | _, _ => []
theorem glE_mem : ∀ {gids : List Nat} {xs : List XV} {t : Nat} {x : AV}, (t, x) ∈ imEnv (glE gids xs) → ∃ k, t = GB + k ∧ (k, x) ∈ gids.zip (asOf xs)
  | [], xs, t, x, h => by simp [glE, imEnv] at h
  | k :: ks, [], t, x, h => by simp [glE, imEnv] at h
  | k :: ks, y :: r, t, x, h => by
    simp only [glE, imEnv, List.map_cons, List.mem_cons, Prod.mk.injEq] at h
    rcases h with ⟨rfl, rfl⟩ | h
    · exact ⟨k, rfl, by simp [asOf]⟩
    · obtain ⟨k', h1, h2⟩ := glE_mem (gids := ks) (xs := r) (t := t) (x := x) (by simpa [imEnv] using h)
      exact ⟨k', h1, by simp only [asOf, List.zip_cons_cons]; exact List.mem_cons_of_mem _ h2⟩
def runBG (P : Program) (Γ : List (Ent P)) (own : List Nat) (N : Nat) (fn : Func) (an : An) (res : List Ty) (n : Nat) (gids : List Nat) (xs : List XV) : Option (ResT res) :=
  match fn.body with
  | some c => cond (Nat.ble fn.ntmps GB) (exec P Γ own [] fn.ntmps N c an ⟨envX 0 (xs.take n) ++ glE gids (xs.drop n), [], [], [], []⟩ (finish P fn res)) none
  | none => none
theorem runBG_sound {P : Program} {Γ : List (Ent P)} {own : List Nat} {N : Nat} {f : FuncId} {fn : Func} {an : An} {res : List Ty} {n : Nat} {gids : List Nat} {xs : List XV} {y : ResT res} (hm : P.follows .mixedOrders = true) (hf : P.funcs[f]? = some fn)
    (hn : Nat.ble n fn.ntmps = true) (h : runBG P Γ own N fn an res n gids xs = some y) : DoesG P f (asOf (xs.take n)) (gids.zip (asOf (xs.drop n))) (resXV res y).a := by
  unfold runBG at h
  split at h
  · rename_i c hc
    obtain ⟨hG, h⟩ := condG h
    have hs := exec_sound (S := ⟨fn.ntmps, [], by simp⟩) hm rfl c an _ _ _ _ (.refl _) h
    intro g w vs hr hgs hl ha
    have hlen : (asOf (xs.take n)).length ≤ n := by rw [asOf_length]; simp; omega
    have hn' := Nat.le_of_ble_eq_true hn
    refine calls_of_wp hf hc (wp_mono (hs (Base.of g w X0) g w _ ?_) ?_)
    · refine ⟨rfl, ?_, hr, ?_⟩
      · simp; omega
      · intro t x hx
        have hx' : (imEnv (envX 0 (xs.take n)) ++ imEnv (glE gids (xs.drop n))).lookup t = some x := by
          rw [imEnv, imEnv, ← List.map_append]; exact hx
        rw [List.lookup_append, envX_im] at hx'
        cases h1 : (envOf 0 (asOf (xs.take n))).lookup t with
        | some x1 =>
          rw [h1] at hx'
          simp only [Option.some_or, Option.some.injEq] at hx'
          subst hx'
          obtain ⟨_, hx'⟩ := envOf_lookup h1
          rw [Nat.sub_zero] at hx'
          have hlt : t < vs.size := by have := (List.getElem?_eq_some_iff.1 hx').1; omega
          refine ⟨vs[t], ?_, ha t x1 _ hx' (by simp [hlt])⟩
          rw [slotV_tmp (by omega)]
          simp [Array.getElem?_append, hlt]
        | none =>
          rw [h1] at hx'
          simp only [Option.none_or] at hx'
          obtain ⟨k, rfl, hk⟩ := glE_mem (lookup_mem hx')
          exact ⟨_, slotV_glob k, hgs _ hk⟩
    · rintro e a' w' ⟨s, g', ⟨st', rfl, hi, hk⟩, hs'⟩
      have fin : finishL P fn res st' = some y →
          a'.defers = [] ∧ ∃ v, (results fn a'.tmps).run P w' = .ok v w' ∧ ∃ g' v_1, Ending.returned v = Ending.returned v_1 ∧ RA g' w' (resXV res y).a v_1 ∧ HR [] (Base.of g w X0) g' w' X0 := by
        intro h
        unfold finishL at h
        split at h
        · rename_i zs h1
          obtain ⟨ys, o, h2, h⟩ := frzK_some h
          · obtain ⟨v, hv, hra⟩ := run_results (xres_ok h1) hs'
            obtain ⟨g1, hr1, ht1, has⟩ := frz_ok h2 g' hs'.hr
            have hs1 : SR ⟨fn.ntmps, [], by simp⟩ (Base.of g w X0) g1 w' ⟨[], ⟨imObjs o, st'.live⟩⟩ a' := ⟨hs'.defers, hs'.size, hr1, by simp⟩
            have hw : Weak [] ⟨[], ⟨imObjs o, st'.live⟩⟩ ⟨[], X0⟩ := ⟨by simp, by simp [X0], by simp [X0], by simp⟩
            obtain ⟨g'', ht, hs''⟩ := hs1.weaken' hw
            rw [← tupX_a] at hra
            have hra' := (has.tupX hra).mono ht (.nil _)
            exact ⟨hs'.defers, v, hv, g'', v, rfl, resXV_le h g'' w' v hra', hs''.hr⟩
        · cases h
      cases e with
      | ret => exact fin hk
      | normal => exact fin hk
      | _ => simp [finish] at hk
  · cases h
def runG (P : Program) (Γ : List (Ent P)) (own : List Nat) (N : Nat) (fn : Func) (an : An) (args res : List Ty) (n : Nat) (gids : List Nat) : Fun args (Option (ResT res)) :=
  bindArgs args (fun xs => runBG P Γ own N fn an res n gids xs) []
def SoundG (P : Program) (f : FuncId) (res : List Ty) (n : Nat) (gids : List Nat) : (args : List Ty) → Fun args (Option (ResT res)) → List XV → Prop
  | [], F, acc => ∀ y, F = some y → DoesG P f (asOf (acc.take n)) (gids.zip (asOf (acc.drop n))) (resXV res y).a
  | t :: r, F, acc => ∀ x : t.T, SoundG P f res n gids r (F x) (acc ++ [.d (t.xv x)])
theorem runG_sound' {P : Program} {Γ : List (Ent P)} {own : List Nat} {N : Nat} {f : FuncId} {fn : Func} {an : An} {res : List Ty} {n : Nat} {gids : List Nat} (hm : P.follows .mixedOrders = true) (hf : P.funcs[f]? = some fn) (hn : Nat.ble n fn.ntmps = true) :
    ∀ (args : List Ty) (acc : List XV), SoundG P f res n gids args (bindArgs args (fun xs => runBG P Γ own N fn an res n gids xs) acc) acc
  | [], acc => fun y hy => runBG_sound hm hf hn hy
  | t :: r, acc => fun x => runG_sound' hm hf hn r (acc ++ [.d (t.xv x)])
theorem runG_sound {P : Program} {Γ : List (Ent P)} {own : List Nat} {N : Nat} {f : FuncId} {fn : Func} {an : An} {args res : List Ty} {n : Nat} {gids : List Nat} (hm : P.follows .mixedOrders = true) (hf : P.funcs[f]? = some fn)
    (hn : Nat.ble n fn.ntmps = true) : SoundG P f res n gids args (runG P Γ own N fn an args res n gids) [] := runG_sound' hm hf hn args []
def gops : List Nat → List Operand
  | [] => []
  | k :: r => .global k :: gops r
theorem gops_map (l : List Nat) : gops l = l.map Operand.global := by
  induction l with
  | nil => rfl
  | cons k r ih => simp [gops, ih]
def appL {α : Type} : List α → List α → List α
  | [], b => b
  | x :: r, b => x :: appL r b
theorem appL_eq {α : Type} (a b : List α) : appL a b = a ++ b := by
  induction a with
  | nil => rfl
  | cons x r ih => simp [appL, ih]
def dataRunG {R : Type} (args res : List Ty) (n : Nat) (gids : List Nat) (F : Fun args (Option (ResT res))) (o : Oper) (st : XSt) (vs : List XV) (K : Out → Option R) : Option R :=
  cond (Nat.beq (callArgs o).length n) (match xevals st (gops gids) with
    | some us => appK args F (appL (callArgs o) (gops gids)) (appL vs us) [] fun Fv rd => Option.bind Fv fun y => K (quietO st (resXV res y) rd)
    | none => none) none
theorem xevals_append {st : XSt} : ∀ {a b : List Operand} {u v : List XV}, xevals st a = some u → xevals st b = some v → xevals st (a ++ b) = some (u ++ v)
  | [], b, u, v, h, h' => by simp [xevals] at h; subst h; exact h'
  | x :: a, b, u, v, h, h' => by
    simp only [xevals] at h
    split at h
    · rename_i y l hy hl
      cases h
      simp only [List.cons_append, xevals, hy, xevals_append hl h']
    · cases h
theorem appK_okG {P : Program} {R : Type} {f : FuncId} {res : List Ty} {n : Nat} {gids : List Nat} {st : XSt} {K : Option (ResT res) → List (Operand × XV) → Option R} {r : R} : ∀ (ts : List Ty) (F : Fun ts (Option (ResT res))) (ops : List Operand) (vs : List XV) (acc : List (Operand × XV)) (aops : List Operand) (axs : List XV),
    SoundG P f res n gids ts F axs → xevals st ops = some vs → acc = aops.zip axs → aops.length = axs.length → (∀ p ∈ imRd acc, Sees st.im p.1 p.2) → areData (asOf axs) = true → appK ts F ops vs acc K = some r →
    ∃ (Fv : Option (ResT res)) (xs : List XV), xs.length = (aops ++ ops).length ∧ (∀ y, Fv = some y → DoesG P f (asOf (xs.take n)) (gids.zip (asOf (xs.drop n))) (resXV res y).a) ∧ areData (asOf xs) = true ∧
      (∀ p ∈ imRd ((aops ++ ops).zip xs), Sees st.im p.1 p.2) ∧ K Fv ((aops ++ ops).zip xs) = some r
  | [], F, ops, vs, acc, aops, axs, hs, hv, hacc, hlen, hsee, hda, h => by
    cases ops with
    | nil =>
      cases vs with
      | nil =>
        subst hacc
        exact ⟨F, axs, by simp [hlen], hs, hda, by simpa using hsee, by rw [List.append_nil]; exact h⟩
      | cons _ _ => simp [appK] at h
    | cons _ _ => simp [appK] at h
  | t :: ts, F, ops, vs, acc, aops, axs, hs, hv, hacc, hlen, hsee, hda, h => by
    cases ops with
    | nil => simp [appK] at h
    | cons x ops =>
      cases vs with
      | nil => simp [appK] at h
      | cons v vs =>
        simp only [appK] at h
        obtain ⟨hx, hvs⟩ := xevals_cons hv
        split at h
        · rename_i y hy
          have := appK_okG ts (F y) ops vs _ (aops ++ [x]) (axs ++ [.d (t.xv y)]) (hs y) hvs (by rw [hacc, List.zip_append hlen]; rfl) (by simp [hlen]) (by
            intro p hp
            rw [imRd_append] at hp
            rcases List.mem_append.1 hp with hp | hp
            · exact hsee p hp
            · simp only [imRd, List.map_cons, List.map_nil, List.mem_singleton] at hp
              subst hp
              exact decXV_sees hx hy) (by
            have : ∀ l : List AV, areData l = true → areData (l ++ [.d (t.dv y)]) = true := by
              intro l
              induction l with
              | nil => intro _; rfl
              | cons a r ih => intro h; simp only [areData, Bool.and_eq_true, List.cons_append] at h ⊢; exact ⟨h.1, ih h.2⟩
            rw [asOf_append]; exact this _ hda) h
          simpa using this
        · cases h
def mkEntG {P : Program} (id : FuncId) (args res : List Ty) (n : Nat) (gids : List Nat) (F : Fun args (Option (ResT res))) (hc : CallI P id) (hs : SoundG P id res n gids args F []) : Ent P where
  id := id
  run := dataRunG args res n gids F
  ok := by
    intro R o st aops ts vs K r ho hv h
    unfold dataRunG at h
    have e : callArgs o = aops.toList := by simp [callArgs, ho]
    rw [e] at h
    cases hb : Nat.beq aops.toList.length n with
    | false => rw [hb] at h; cases h
    | true =>
      have hn := Nat.eq_of_beq_eq_true hb
      rw [hb, cond_true] at h
      split at h
      · rename_i us hus
        rw [appL_eq, appL_eq, gops_map] at h
        rw [gops_map] at hus
        obtain ⟨Fv, xs, h1, h2, h3, h4, h5⟩ := appK_okG (st := st) args F _ _ [] [] [] hs (xevals_append hv hus) rfl rfl (by simp [imRd]) rfl h
        obtain ⟨y, hy, hK⟩ := Option.bind_eq_some_iff.1 h5
        simp only [List.nil_append] at h1 h4 hK
        refine ⟨_, hK, quietO_ok h4 fun X => ?_⟩
        have hd := h2 y hy
        have hn2 : n = aops.size := by rw [← hn]; simp
        rw [hn2, asOf_take, asOf_drop] at hd
        have := op_callG (X := X) (xs := asOf xs) ho hc hd (by rw [asOf_length, h1]; simp) h3 (resXV_data res y)
        rw [imRd_zip]
        exact this
      · cases h
def mkFnG {P : Program} {Γ : List (Ent P)} {own : List Nat} {N : Nat} (id : FuncId) (fn : Func) (an : An) (args res : List Ty) (n : Nat) (gids : List Nat) (F : Fun args (Option (ResT res))) (hm : P.follows .mixedOrders = true) (hf : P.funcs[id]? = some fn)
    (hc : CallI P id) (hn : Nat.ble n fn.ntmps = true) (hE : runG P Γ own N fn an args res n gids = F) : Ent P :=
  mkEntG id args res n gids F hc (hE ▸ runG_sound hm hf hn)
end Go.Xl
set_option linter.unusedVariables false
set_option linter.unusedSimpArgs false
set_option linter.unnecessarySimpa false
namespace Go.Xl
open Go.Ab
mutual
def XV.mp (f fl : Nat → Nat) : XV → XV
  | .d x => .d x
  | .nm k p => .nm (f k) p
  | .tip n t l ty => .tip (fl n) t l ty
  | .tup l => .tup (mpL f fl l)
  | .agg l => .agg (mpL f fl l)
  | .clo g l => .clo g (mpL f fl l)
  | .os k t a len => .os (f k) t a len
  | .el k t i fo => .el (f k) t i fo
  | .tpt n e x l => .tpt (fl n) e x l
def mpL (f fl : Nat → Nat) : List XV → List XV
  | [] => []
  | x :: r => x.mp f fl :: mpL f fl r
end

mutual
theorem XV.mp_a (f fl : Nat → Nat) : ∀ x : XV, (x.mp f fl).a = mapL f fl x.a
  | .d x => rfl
  | .nm k p => rfl
  | .tip n t l ty => rfl
  | .tup l => by simp only [XV.mp, XV.a, mapL, mpL_a f fl l]
  | .agg l => by simp only [XV.mp, XV.a, mapL, mpL_a f fl l]
  | .clo g l => by simp only [XV.mp, XV.a, mapL, mpL_a f fl l]
  | .os k t a len => rfl
  | .el k t i fo => rfl
  | .tpt n e x l => rfl
theorem mpL_a (f fl : Nat → Nat) : ∀ l : List XV, asOf (mpL f fl l) = mapLs f fl (asOf l)
  | [] => rfl
  | x :: r => by simp only [mpL, asOf, mapLs, XV.mp_a f fl x, mpL_a f fl r]
end

theorem mpL_map (f fl : Nat → Nat) (l : List XV) : mpL f fl l = l.map (XV.mp f fl) := by
  induction l with
  | nil => rfl
  | cons x r ih => simp [mpL, ih]
mutual
def XV.nms (ks ls : List Nat) : XV → Bool
  | .d _ => true
  | .nm k _ => inl k ks
  | .tip n _ _ _ => inl n ls
  | .tup l => nmsL ks ls l
  | .agg l => nmsL ks ls l
  | .clo _ l => nmsL ks ls l
  | .os k _ _ _ => inl k ks
  | .el k _ _ _ => inl k ks
  | .tpt n _ _ _ => inl n ls
def nmsL (ks ls : List Nat) : List XV → Bool
  | [] => true
  | x :: r => cond (x.nms ks ls) (nmsL ks ls r) false
end

theorem inl_con {k : Nat} {l : List Nat} (h : inl k l = true) : l.contains k = true := List.contains_iff_mem.2 ((inl_eq k l).1 h)
mutual
theorem XV.nms_a {ks ls : List Nat} : ∀ {x : XV}, x.nms ks ls = true → namesL ks ls x.a = true
  | .d x, h => rfl
  | .nm k p, h => inl_con h
  | .tip n t l ty, h => inl_con h
  | .tup l, h => by simp only [XV.nms] at h; simp only [XV.a, namesL]; exact nmsL_a h
  | .agg l, h => by simp only [XV.nms] at h; simp only [XV.a, namesL]; exact nmsL_a h
  | .clo g l, h => by simp only [XV.nms] at h; simp only [XV.a, namesL]; exact nmsL_a h
  | .os k t a len, h => inl_con h
  | .el k t i fo, h => inl_con h
  | .tpt n e x l, h => inl_con h
theorem nmsL_a {ks ls : List Nat} : ∀ {l : List XV}, nmsL ks ls l = true → namesLs ks ls (asOf l) = true
  | [], h => rfl
  | x :: r, h => by
    simp only [nmsL] at h
    cases hx : x.nms ks ls with
    | false => simp [hx] at h
    | true =>
      simp only [hx, cond_true] at h
      simp only [asOf, namesLs, XV.nms_a hx, nmsL_a h, Bool.and_self]
end

def XOb.mp (f fl : Nat → Nat) : XOb → XOb
  | .cells cs ty => .cells (mpL f fl cs) ty
  | .arr t l => .arr t l
  | .sit s p => .sit s p
  | .map kt vt es c => .map kt vt es c
  | .mit m a b c => .mit (f m) a b c
  | .mitn => .mitn
  | .bts e l => .bts e l
theorem mapLs_map_d (f fl : Nat → Nat) : ∀ l : List D, mapLs f fl (l.map .d) = l.map .d
  | [] => rfl
  | x :: r => by simp only [List.map_cons, mapLs, mapL, mapLs_map_d f fl r]
theorem XOb.mp_o (f fl : Nat → Nat) (o : XOb) : (o.mp f fl).o = mapObL f fl o.o := by
  cases o with
  | cells cs ty => simp only [XOb.mp, XOb.o, mapObL, mpL_a]
  | arr t l => simp only [XOb.mp, XOb.o, mapObL, mapLs_map_d]
  | bts e l => simp only [XOb.mp, XOb.o, mapObL, mapLs_map_d]
  | _ => rfl
def XOb.nms (ks ls : List Nat) : XOb → Bool
  | .cells cs _ => nmsL ks ls cs
  | .mit m _ _ _ => inl m ks
  | _ => true
theorem namesLs_map_d (ks ls : List Nat) : ∀ l : List D, namesLs ks ls (l.map .d) = true
  | [] => rfl
  | x :: r => by simp only [List.map_cons, namesLs, namesL, namesLs_map_d ks ls r, Bool.and_self]
theorem XOb.nms_o {ks ls : List Nat} {o : XOb} (h : o.nms ks ls = true) : namesObL ks ls o.o = true := by
  cases o with
  | cells cs ty => simp only [XOb.nms] at h; simp only [XOb.o, namesObL]; exact nmsL_a h
  | arr t l => simp only [XOb.o, namesObL]; exact namesLs_map_d _ _ _
  | bts e l => simp only [XOb.o, namesObL]; exact namesLs_map_d _ _ _
  | mit m a b c => exact inl_con h
  | _ => rfl
def objsNms (ks ls : List Nat) : List (Nat × XOb) → Bool
  | [] => true
  | p :: r => cond (p.2.nms ks ls) (objsNms ks ls r) false
theorem objsNms_im {ks ls : List Nat} : ∀ {l : List (Nat × XOb)}, objsNms ks ls l = true → ((imObjs l).all fun p => namesObL ks ls p.2) = true
  | [], _ => rfl
  | p :: r, h => by
    simp only [objsNms] at h
    cases hx : p.2.nms ks ls with
    | false => simp [hx] at h
    | true =>
      simp only [hx, cond_true] at h
      have := objsNms_im h
      simp only [imObjs, List.map_cons, List.all_cons, XOb.nms_o hx, Bool.true_and] at this ⊢
      exact this
def putXs (f fl : Nat → Nat) : List (Nat × XOb) → List (Nat × XOb) → List (Nat × XOb)
  | [], acc => acc
  | p :: r, acc => putXs f fl r (xset (f p.1) (p.2.mp f fl) acc)
theorem putXs_im (f fl : Nat → Nat) : ∀ (l acc : List (Nat × XOb)), imObjs (putXs f fl l acc) = putObjsL f fl (imObjs l) (imObjs acc)
  | [], acc => rfl
  | p :: r, acc => by
    have := putXs_im f fl r (xset (f p.1) (p.2.mp f fl) acc)
    rw [im_xset, XOb.mp_o] at this
    exact this
theorem putXs_other (f fl : Nat → Nat) : ∀ (l acc : List (Nat × XOb)) (j : Nat), (∀ p ∈ l, f p.1 ≠ j) → lk j (putXs f fl l acc) = lk j acc
  | [], acc, j, h => rfl
  | p :: r, acc, j, h => by
    simp only [putXs]
    rw [putXs_other f fl r _ j (fun q hq => h q (List.mem_cons_of_mem _ hq)), lk_xset _ _ _ _ (fun e => h p (List.mem_cons_self ..) e.symm)]
inductive ObLe : Ob → Ob → Prop
  | refl (o : Ob) : ObLe o o
  | cells {cs cs' : List AV} {ty ty' : Option TypeId} : cs.length = cs'.length → (∀ (i : Nat) x y, cs[i]? = some x → cs'[i]? = some y → ALe x y) → (ty' = ty ∨ ty' = none) → ObLe (.cells cs ty) (.cells cs' ty')
theorem obRel_weak {g : Gh} {w : World} {b : Nat} {o o' : Ob} (h : ObRel g w b o) (hle : ObLe o o') : ObRel g w b o' := by
  cases hle with
  | refl => exact h
  | cells hl hc ht =>
    cases h with
    | cells _ _ arr T h1 h2 h3 h4 =>
      refine .cells _ _ arr T h1 (hl ▸ h2) ?_ ?_
      · intro i y v hy hv
        have hlt := (List.getElem?_eq_some_iff.1 hy).1
        obtain ⟨x, hx⟩ : ∃ x, _ = some x := ⟨_, List.getElem?_eq_getElem (l := _) (i := i) (by rw [hl]; exact hlt)⟩
        exact hc i x y hx hy g w v (h3 i x v hx hv)
      · intro t hh
        rcases ht with e | e
        · exact h4 t (e ▸ hh)
        · rw [e] at hh; cases hh
theorem hr_weak {nm : List Nat} {B : Base} {g : Gh} {w : World} {X Y : Store} (h : HR nm B g w X) (hle : ∀ k o', Y.objs.lookup k = some o' → ∃ o, X.objs.lookup k = some o ∧ ObLe o o')
    (hk : ∀ k, (X.objs.lookup k).isSome → (Y.objs.lookup k).isSome) (hl : Y.live = X.live) : HR nm B g w Y where
  keep k hm := ⟨(h.keep k hm).1, hk k (h.keep k hm).2⟩
  sane := h.sane
  base := h.base
  io := h.io
  le := h.le
  frame := h.frame
  objs k o' ho := by obtain ⟨o, h1, h2⟩ := hle k o' ho; exact obRel_weak (h.objs k o h1) h2
  objγ k o' ho := by obtain ⟨o, h1, h2⟩ := hle k o' ho; exact h.objγ k o h1
  objinj k k' o o' ho ho' := by
    obtain ⟨_, h1, _⟩ := hle k o ho
    obtain ⟨_, h2, _⟩ := hle k' o' ho'
    exact h.objinj k k' _ _ h1 h2
  objnew k o' ho := by obtain ⟨o, h1, h2⟩ := hle k o' ho; exact h.objnew k o h1
  live n := by rw [hl]; exact h.live n
  tipinj := h.tipinj
  tipobj n b k o' hn ho := by obtain ⟨o, h1, h2⟩ := hle k o' ho; exact h.tipobj n b k o hn h1
  tipnew := h.tipnew
  tiplt := h.tiplt
theorem opT_weak {P : Program} {o : Oper} {rd : List (Operand × AV)} {X Y X' : Store} {F : List Nat} {res : AV} (h : OpT P o rd Y X' F res) (hle : ∀ k o', Y.objs.lookup k = some o' → ∃ o, X.objs.lookup k = some o ∧ ObLe o o')
    (hk : ∀ k, (X.objs.lookup k).isSome → (Y.objs.lookup k).isSome) (hl : Y.live = X.live) : OpT P o rd X X' F res :=
  fun nm hsm B g w a hr => h nm hsm B g w a (hr_weak hr hle hk hl)
theorem op_call_clo_lab {P : Program} {X : Store} {o : Oper} {fn : FuncId} {c : Operand} {args : Array Operand} {ts : Array TypeId} {xs caps : List AV} {res : AV} {Xc Xc' : Store} (f fl : Nat → Nat) (F : List Nat)
    (ho : o.op = .call { callee := .value c, args := args, argTypes := ts }) (hf : CallI P fn) (hs : Does P fn (xs ++ caps) Xc res Xc') (hc : LabCall X Xc Xc' f fl F)
    (hl : xs.length = args.size) (hd : namesLs (Xc.objs.map (·.1)) Xc.live (xs ++ caps) = true) (hdr : namesL (Xc'.objs.map (·.1)) Xc'.live res = true) :
    OpT P o ((c, .clo fn (mapLs f fl caps)) :: args.toList.zip (mapLs f fl xs)) X ⟨putObjsL f fl Xc'.objs X.objs, liveAfter fl X Xc Xc'⟩ F (mapL f fl res) := by
  intro nm hsm B g w a hr hrd next Q hn
  have e1 := rd0 hrd
  simp only at e1
  unfold Oper.wp
  generalize hcv : a.eval c = vc at e1
  cases e1 with
  | clo _ _ vs hlen hvs =>
    have : (execOp a.eval o).run P w = .ok (.enter fn (args.map a.eval ++ vs)) w := by
      simp only [execOp, ho, resolve]
      simp [hcv, Deferred.ofValue, invoke, run_callFunc hf]
    rw [this]
    have hm : ∀ l m : List AV, mapLs f fl (l ++ m) = mapLs f fl l ++ mapLs f fl m := fun l m => by rw [mapLs_eq, mapLs_eq, mapLs_eq, List.map_append]
    have hml : (mapLs f fl xs).length = args.size := by rw [mapLs_eq, List.length_map, hl]
    have hmc : caps.length = vs.size := by rw [mapLs_eq, List.length_map] at hlen; exact hlen
    refine (hs.useLab hc hd hdr hr (vs := args.map a.eval ++ vs) (by simp [hl, hmc]) ?_).mono ?_
    · intro i x v hx hv
      rw [hm, List.getElem?_append] at hx
      split at hx
      · rename_i hlt
        rw [Array.getElem?_append_left (by simp; omega)] at hv
        exact rds_args (fun p hp => hrd p (List.mem_cons_of_mem _ hp)) i x v hx hv
      · rename_i hge
        rw [Array.getElem?_append_right (by simp; omega)] at hv
        refine hvs _ x v hx ?_
        rw [hml]; simpa using hv
    · rintro e w' ⟨v, g', rfl, h1, h2, h3⟩
      exact hn g' w' v h1 h2 h3
theorem op_call_f_lab {P : Program} {X : Store} {o : Oper} {fn : FuncId} {args : Array Operand} {ts : Array TypeId} {gids : List Nat} {xs ys : List AV} {res : AV} {Xc Xc' : Store} (f fl : Nat → Nat) (F : List Nat)
    (ho : o.op = .call { callee := .value (.func fn), args := args, argTypes := ts }) (hf : CallI P fn) (hs : DoesH P fn xs (gids.zip ys) Xc res Xc') (hc : LabCall X Xc Xc' f fl F)
    (hl : xs.length = args.size) (hd : namesLs (Xc.objs.map (·.1)) Xc.live xs = true) (hy : areData ys = true) (hdr : namesL (Xc'.objs.map (·.1)) Xc'.live res = true) :
    OpT P o (args.toList.zip (mapLs f fl xs) ++ (gids.map Operand.global).zip ys) X ⟨putObjsL f fl Xc'.objs X.objs, liveAfter fl X Xc Xc'⟩ F (mapL f fl res) := by
  intro nm hsm B g w a hr hrd next Q hn
  unfold Oper.wp
  have : (execOp a.eval o).run P w = .ok (.enter fn (args.map a.eval)) w := by
    simp only [execOp, ho, resolve]
    simp [Act.eval, Deferred.ofValue, invoke, run_callFunc hf]
  rw [this]
  have hG : GH g w (gids.zip ys) := by
    intro p hp
    have h1 : (Operand.global p.1, p.2) ∈ (gids.map Operand.global).zip ys := by
      rw [List.zip_map_left, List.mem_map]
      exact ⟨p, hp, rfl⟩
    exact hrd _ (List.mem_append_right _ h1)
  refine (hs.useLab (areData_zip _ hy) hc hd hdr hr hG (by simpa using hl) (rds_args fun p hp => hrd p (List.mem_append_left _ hp))).mono ?_
  rintro e w' ⟨v, g', rfl, h1, h2, h3⟩
  exact hn g' w' v h1 h2 h3
end Go.Xl
set_option linter.unusedVariables false
set_option linter.unusedSimpArgs false
set_option linter.unnecessarySimpa false
namespace Go.Xl
open Go.Ab
inductive AS where
  | d (t : Ty)
  | p (k off : Nat)
  | os (k : Nat) (t : Ty)
  | clo (f : Nat) (ps : List (Nat × Nat))
  /-- such a slice that begins at a place -/
  | oa (k a : Nat) (t : Ty)
  /-- what a package variable holds: behind all other ones -/
  | g (k : Nat) (t : Ty)
def gidsOf : List AS → List Nat
  | [] => []
  | .g k _ :: r => k :: gidsOf r
  | _ :: r => gidsOf r
def plainN : List AS → Nat
  | [] => 0
  | .g _ _ :: _ => 0
  | _ :: r => plainN r + 1
structure CSp where
  args : List AS
  objs : List (Nat × List VK × Option TypeId)
  arrs : List (Nat × OK)
  out : Cut
def CSp.names (S : CSp) : List Nat := namesOf S.objs ++ arrNames S.arrs
def CSp.labs (S : CSp) : List Nat := labsOfObjs S.objs
def CSp.gids (S : CSp) : List Nat := gidsOf S.args
def CSp.n (S : CSp) : Nat := plainN S.args
def CSp.s0 (S : CSp) (xs : List XV) (objs : List (Nat × XOb)) : XSt := ⟨envX 0 (xs.take S.n) ++ glE S.gids (xs.drop S.n), objs, S.labs, [], []⟩
@[reducible] def CurA : List AS → Type → Type
  | [], R => R
  | .d t :: r, R => t.T → CurA r R
  | .p _ _ :: r, R => CurA r R
  | .os _ _ :: r, R => Nat → CurA r R
  | .oa _ _ _ :: r, R => Nat → CurA r R
  | .clo _ _ :: r, R => CurA r R
  | .g _ t :: r, R => t.T → CurA r R
@[reducible] def CurC : List VK → Type → Type
  | [], R => R
  | .d t :: r, R => t.T → CurC r R
  | .p _ _ :: r, R => CurC r R
  | .z _ _ :: r, R => Bool → CurC r R
  | .tip _ t _ :: r, R => List t.T → CurC r R
@[reducible] def CurO : List (Nat × List VK × Option TypeId) → Type → Type
  | [], R => R
  | p :: r, R => CurC p.2.1 (CurO r R)
@[reducible] def CurR : List (Nat × OK) → Type → Type
  | [], R => R
  | p :: r, R => p.2.T → CurR r R
@[reducible] def CSp.Fun (S : CSp) (R : Type) : Type := CurA S.args (CurO S.objs (CurR S.arrs R))
def psX (ps : List (Nat × Nat)) : List XV := ps.map fun p => .nm p.1 (.p p.2)
def lamA {α : Type} : (l : List AS) → (List XV → α) → List XV → CurA l α
  | [], f, acc => f acc
  | .d t :: r, f, acc => fun y => lamA r f (acc ++ [.d (t.xv y)])
  | .p k off :: r, f, acc => lamA r f (acc ++ [.nm k (.p off)])
  | .os k t :: r, f, acc => fun n => lamA r f (acc ++ [.os k t 0 n])
  | .oa k a t :: r, f, acc => fun n => lamA r f (acc ++ [.os k t a n])
  | .clo g ps :: r, f, acc => lamA r f (acc ++ [.clo g (psX ps)])
  | .g _ t :: r, f, acc => fun y => lamA r f (acc ++ [.d (t.xv y)])
def lamC {α : Type} : (l : List VK) → (List XV → α) → List XV → CurC l α
  | [], f, acc => f acc
  | .d t :: r, f, acc => fun y => lamC r f (acc ++ (t.enc y).map .d)
  | .p k off :: r, f, acc => lamC r f (acc ++ [.nm k (.p off)])
  | .z k off :: r, f, acc => fun b => lamC r f (acc ++ [.nm k (.z b off)])
  | .tip n t ty :: r, f, acc => fun l => lamC r f (acc ++ [.tip n t l ty])
def lamO {α : Type} : (l : List (Nat × List VK × Option TypeId)) → (List (Nat × XOb) → α) → List (Nat × XOb) → CurO l α
  | [], f, acc => f acc
  | p :: r, f, acc => lamC p.2.1 (fun cs => lamO r f (acc ++ [(p.1, .cells cs p.2.2)])) []
def lamR {α : Type} : (l : List (Nat × OK)) → (List (Nat × XOb) → α) → List (Nat × XOb) → CurR l α
  | [], f, acc => f acc
  | p :: r, f, acc => fun l => lamR r f (acc ++ [(p.1, p.2.ob l)])
def GndA {β : Type} (Q : β → List XV → Prop) : (l : List AS) → CurA l β → List XV → Prop
  | [], F, acc => Q F acc
  | .d t :: r, F, acc => ∀ y : t.T, GndA Q r (F y) (acc ++ [.d (t.xv y)])
  | .p k off :: r, F, acc => GndA Q r F (acc ++ [.nm k (.p off)])
  | .os k t :: r, F, acc => ∀ n : Nat, GndA Q r (F n) (acc ++ [.os k t 0 n])
  | .oa k a t :: r, F, acc => ∀ n : Nat, GndA Q r (F n) (acc ++ [.os k t a n])
  | .clo g ps :: r, F, acc => GndA Q r F (acc ++ [.clo g (psX ps)])
  | .g _ t :: r, F, acc => ∀ y : t.T, GndA Q r (F y) (acc ++ [.d (t.xv y)])
def GndC {β : Type} (Q : β → List XV → Prop) : (l : List VK) → CurC l β → List XV → Prop
  | [], F, acc => Q F acc
  | .d t :: r, F, acc => ∀ y : t.T, GndC Q r (F y) (acc ++ (t.enc y).map .d)
  | .p k off :: r, F, acc => GndC Q r F (acc ++ [.nm k (.p off)])
  | .z k off :: r, F, acc => ∀ b : Bool, GndC Q r (F b) (acc ++ [.nm k (.z b off)])
  | .tip n t ty :: r, F, acc => ∀ l : List t.T, GndC Q r (F l) (acc ++ [.tip n t l ty])
def GndO {β : Type} (Q : β → List (Nat × XOb) → Prop) : (l : List (Nat × List VK × Option TypeId)) → CurO l β → List (Nat × XOb) → Prop
  | [], F, acc => Q F acc
  | p :: r, F, acc => GndC (fun F' cs => GndO Q r F' (acc ++ [(p.1, .cells cs p.2.2)])) p.2.1 F []
def GndR {β : Type} (Q : β → List (Nat × XOb) → Prop) : (l : List (Nat × OK)) → CurR l β → List (Nat × XOb) → Prop
  | [], F, acc => Q F acc
  | p :: r, F, acc => ∀ l : p.2.T, GndR Q r (F l) (acc ++ [(p.1, p.2.ob l)])
theorem lamA_gnd {α : Type} {Q : α → List XV → Prop} {f : List XV → α} (m : Nat) (h : ∀ acc, acc.length = m → Q (f acc) acc) : ∀ (l : List AS) (acc : List XV), acc.length + l.length = m → GndA Q l (lamA l f acc) acc
  | [], acc, hm => h acc (by simpa using hm)
  | .d t :: r, acc, hm => fun y => lamA_gnd m h r _ (by simp at hm ⊢; omega)
  | .p k off :: r, acc, hm => by
    simp only [GndA, lamA]
    exact lamA_gnd m h r (acc ++ [.nm k (.p off)]) (by simp at hm ⊢; omega)
  | .os k t :: r, acc, hm => fun n => lamA_gnd m h r _ (by simp at hm ⊢; omega)
  | .oa k a t :: r, acc, hm => fun n => lamA_gnd m h r _ (by simp at hm ⊢; omega)
  | .clo g ps :: r, acc, hm => by
    simp only [GndA, lamA]
    exact lamA_gnd m h r (acc ++ [.clo g (psX ps)]) (by simp at hm ⊢; omega)
  | .g _ t :: r, acc, hm => fun y => lamA_gnd m h r _ (by simp at hm ⊢; omega)
theorem lamC_gnd {α : Type} {Q : α → List XV → Prop} {f : List XV → α} (h : ∀ acc, Q (f acc) acc) : ∀ (l : List VK) (acc : List XV), GndC Q l (lamC l f acc) acc
  | [], acc => h acc
  | .d t :: r, acc => fun y => lamC_gnd h r _
  | .p k off :: r, acc => by
    simp only [GndC, lamC]
    exact lamC_gnd h r (acc ++ [.nm k (.p off)])
  | .z k off :: r, acc => fun b => lamC_gnd h r _
  | .tip n t ty :: r, acc => fun l => lamC_gnd h r _
theorem lamO_gnd {α : Type} {Q : α → List (Nat × XOb) → Prop} {f : List (Nat × XOb) → α} (ns : List Nat) (h : ∀ acc, acc.map (·.1) = ns → Q (f acc) acc) : ∀ (l : List (Nat × List VK × Option TypeId)) (acc : List (Nat × XOb)), acc.map (·.1) ++ namesOf l = ns → GndO Q l (lamO l f acc) acc
  | [], acc, hm => h acc (by simpa [namesOf] using hm)
  | p :: r, acc, hm => lamC_gnd (fun cs => lamO_gnd ns h r _ (by simpa [namesOf] using hm)) p.2.1 []
theorem lamR_gnd {α : Type} {Q : α → List (Nat × XOb) → Prop} {f : List (Nat × XOb) → α} (ns : List Nat) (h : ∀ acc, acc.map (·.1) = ns → Q (f acc) acc) : ∀ (l : List (Nat × OK)) (acc : List (Nat × XOb)), acc.map (·.1) ++ arrNames l = ns → GndR Q l (lamR l f acc) acc
  | [], acc, hm => h acc (by simpa [arrNames] using hm)
  | p :: r, acc, hm => fun l => lamR_gnd ns h r _ (by simpa [arrNames] using hm)
section
variable (P : Program) (Γ : List (Ent P)) (own : List Nat) (N : Nat) (fn : Func) (an : An) (S : CSp)
def finX (S : CSp) (xs : List XV) (objs : List (Nat × XOb)) (s : XSt) : Option S.out.T := proj S.names (keepL (S.s0 xs objs) S.out) S.out s
def finC (S : CSp) (xs : List XV) (objs : List (Nat × XOb)) : Exit → XSt → Option S.out.T
  | .ret, s => finX S xs objs s
  | .normal, s => finX S xs objs s
  | _, _ => none
def runBC (xs : List XV) (objs : List (Nat × XOb)) : Option S.out.T :=
  match fn.body with
  | some c => cond (Nat.ble fn.ntmps GB) (exec P Γ own S.names fn.ntmps N c an (S.s0 xs objs) (finC S xs objs)) none
  | none => none
def runC : S.Fun (Option S.out.T) := lamA S.args (fun xs => lamO S.objs (fun os => lamR S.arrs (fun os' => runBC P Γ own N fn an S xs os') os) []) []
end
def GoodC (P : Program) (f : FuncId) (fn : Func) (S : CSp) (y : S.out.T) (xs : List XV) (objs : List (Nat × XOb)) : Prop :=
  objs.map (·.1) = S.names ∧ ∀ rs, xres P (gen (S.s0 xs objs) S.out y) fn.results.toList = some rs → DoesH P f (asOf (xs.take S.n)) (S.gids.zip (asOf (xs.drop S.n))) ⟨imObjs objs, S.labs⟩ (tupX rs).a (gen (S.s0 xs objs) S.out y).X
def SndC (P : Program) (f : FuncId) (fn : Func) (S : CSp) (F : S.Fun (Option S.out.T)) : Prop :=
  GndA (fun F' xs => GndO (fun F'' os => GndR (fun F3 os' => ∀ y, F3 = some y → GoodC P f fn S y xs os') S.arrs F'' os) S.objs F' []) S.args F []
def smallL : List Nat → Bool
  | [] => true
  | n :: r => cond (Nat.blt n 1000) (smallL r) false
theorem smallL_spec : ∀ {l : List Nat}, smallL l = true → ∀ j ∈ l, j < 1000
  | [], _ => by simp
  | n :: r, h => by
    simp only [smallL] at h
    cases hb : Nat.blt n 1000 with
    | false => simp [hb] at h
    | true =>
      simp only [hb, cond_true] at h
      intro j hj
      rcases List.mem_cons.1 hj with rfl | hj
      · simpa [Nat.blt_eq] using hb
      · exact smallL_spec h j hj
def noKeepS (S : CSp) : Bool := match S.out.keepS with
  | [] => true
  | _ => false
theorem imObjs_names (l : List (Nat × XOb)) : (imObjs l).map (·.1) = l.map (·.1) := by simp [imObjs]
theorem runBC_sound {P : Program} {Γ : List (Ent P)} {own : List Nat} {N : Nat} {f : FuncId} {fn : Func} {an : An} {S : CSp} {xs : List XV} {objs : List (Nat × XOb)} {y : S.out.T} (hm : P.follows .mixedOrders = true) (hf : P.funcs[f]? = some fn)
    (hn : xs.length ≤ fn.ntmps) (hsm : smallL S.names = true) (hks : noKeepS S = true) (hnames : objs.map (·.1) = S.names) (h : runBC P Γ own N fn an S xs objs = some y) : GoodC P f fn S y xs objs := by
  unfold runBC at h
  split at h
  · rename_i c hc
    obtain ⟨hG, h⟩ := condG h
    have hs := exec_sound (S := ⟨fn.ntmps, S.names, smallL_spec hsm⟩) hm rfl c an _ _ _ _ (.refl _) h
    have hks' : S.out.keepS = [] := by
      unfold noKeepS at hks
      split at hks
      · assumption
      · cases hks
    refine ⟨hnames, fun rs hrs => ?_⟩
    intro g w vs hr hgs hl ha
    have hnm : (imObjs objs).map (·.1) = S.names := by rw [imObjs_names, hnames]
    refine calls_of_wp hf hc (wp_mono (hs (Base.of g w ⟨imObjs objs, S.labs⟩) g w _ ?_) ?_)
    · rw [asOf_length, List.length_take] at hl
      refine ⟨rfl, ?_, ?_, ?_⟩
      · simp; omega
      · have := hr
        rw [hnm] at this
        exact this
      · intro s x hx
        have hx' : (imEnv (envX 0 (xs.take S.n)) ++ imEnv (glE S.gids (xs.drop S.n))).lookup s = some x := by
          rw [imEnv, imEnv, ← List.map_append]; exact hx
        rw [List.lookup_append, envX_im] at hx'
        cases h1 : (envOf 0 (asOf (xs.take S.n))).lookup s with
        | some x1 =>
          rw [h1] at hx'
          simp only [Option.some_or, Option.some.injEq] at hx'
          subst hx'
          obtain ⟨_, hx'⟩ := envOf_lookup h1
          rw [Nat.sub_zero] at hx'
          have hlt : s < vs.size := by
            have := (List.getElem?_eq_some_iff.1 hx').1
            rw [asOf_length, List.length_take] at this; omega
          refine ⟨vs[s], ?_, ha s x1 _ hx' (by simp [hlt])⟩
          rw [slotV_tmp (by omega)]
          simp [Array.getElem?_append, hlt]
        | none =>
          rw [h1] at hx'
          simp only [Option.none_or] at hx'
          obtain ⟨k, rfl, hk⟩ := glE_mem (lookup_mem hx')
          exact ⟨_, slotV_glob k, hgs _ hk⟩
    · rintro e a' w' ⟨s, g', ⟨st', rfl, hi, hk⟩, hs'⟩
      have fin : finX S xs objs st' = some y →
          a'.defers = [] ∧ ∃ v, (results fn a'.tmps).run P w' = .ok v w' ∧ ∃ g' v_1, Ending.returned v = Ending.returned v_1 ∧ RA g' w' (tupX rs).a v_1 ∧ HR ((imObjs objs).map (·.1)) (Base.of g w ⟨imObjs objs, S.labs⟩) g' w' (gen (S.s0 xs objs) S.out y).X := by
        intro h
        unfold finX at h
        obtain ⟨g'', hs''⟩ := cut_sound h (by rw [hks']; simp) (fun k _ x hk hx => hi.objs k x hk hx) hs' rfl
        obtain ⟨v, hv, hra⟩ := run_results (xres_ok hrs) hs''
        rw [← tupX_a] at hra
        exact ⟨hs''.defers, v, hv, g'', v, rfl, hra, by rw [hnm]; exact hs''.hr⟩
      cases e with
      | ret => exact fin hk
      | normal => exact fin hk
      | _ => simp [finC] at hk
  · cases h
theorem runC_sound {P : Program} {Γ : List (Ent P)} {own : List Nat} {N : Nat} {f : FuncId} {fn : Func} {an : An} {S : CSp} (hm : P.follows .mixedOrders = true) (hf : P.funcs[f]? = some fn)
    (hn : Nat.ble S.args.length fn.ntmps = true) (hsm : smallL S.names = true) (hks : noKeepS S = true) : SndC P f fn S (runC P Γ own N fn an S) := by
  unfold SndC runC
  refine lamA_gnd S.args.length (fun xs hxs => ?_) S.args [] (by simp)
  refine lamO_gnd (namesOf S.objs) (fun os hos => ?_) S.objs [] (by simp)
  refine lamR_gnd S.names (fun os' hos' => ?_) S.arrs os (by rw [hos]; rfl)
  intro y hy
  exact runBC_sound hm hf (by have := Nat.le_of_ble_eq_true hn; omega) hsm hks hos' hy
end Go.Xl
set_option linter.unusedVariables false
set_option linter.unusedSimpArgs false
set_option linter.unnecessarySimpa false
namespace Go.Xl
open Go.Ab
def isPtr (k off : Nat) : XV → Bool
  | .nm k' (.p off') => cond (Nat.beq k' k) (Nat.beq off' off) false
  | _ => false
theorem isPtr_eq {k off : Nat} {v : XV} (h : isPtr k off v = true) : v = .nm k (.p off) := by
  unfold isPtr at h
  split at h
  · rename_i k' off'
    cases h1 : Nat.beq k' k with
    | false => simp [h1] at h
    | true =>
      simp only [h1, cond_true] at h
      rw [Nat.eq_of_beq_eq_true h1, Nat.eq_of_beq_eq_true h]
  · cases h
def osOf (k : Nat) (t : Ty) : XV → Option Nat
  | .os k' t' a n => cond (Nat.beq k' k) (cond (t'.eqb t) (cond (Nat.beq a 0) (some n) none) none) none
  | _ => none
theorem osOf_eq {k : Nat} {t : Ty} {v : XV} {n : Nat} (h : osOf k t v = some n) : v = .os k t 0 n := by
  unfold osOf at h
  split at h
  · rename_i k' t' a m
    cases h1 : Nat.beq k' k with
    | false => simp [h1] at h
    | true =>
    cases h2 : t'.eqb t with
    | false => simp [h1, h2] at h
    | true =>
    cases h3 : Nat.beq a 0 with
    | false => simp [h1, h2, h3] at h
    | true =>
      simp only [h1, h2, h3, cond_true, Option.some.injEq] at h
      rw [Nat.eq_of_beq_eq_true h1, Ty.eqb_eq h2, Nat.eq_of_beq_eq_true h3, h]
  · cases h
def osOfA (k a : Nat) (t : Ty) : XV → Option Nat
  | .os k' t' a' n => cond (Nat.beq k' k) (cond (t'.eqb t) (cond (Nat.beq a' a) (some n) none) none) none
  | _ => none
theorem osOfA_eq {k a : Nat} {t : Ty} {v : XV} {n : Nat} (h : osOfA k a t v = some n) : v = .os k t a n := by
  unfold osOfA at h
  split at h
  · rename_i k' t' a' m
    cases h1 : Nat.beq k' k with
    | false => simp [h1] at h
    | true =>
    cases h2 : t'.eqb t with
    | false => simp [h1, h2] at h
    | true =>
    cases h3 : Nat.beq a' a with
    | false => simp [h1, h2, h3] at h
    | true =>
      simp only [h1, h2, h3, cond_true, Option.some.injEq] at h
      rw [Nat.eq_of_beq_eq_true h1, Ty.eqb_eq h2, Nat.eq_of_beq_eq_true h3, h]
  · cases h
def capsEq (f : Nat → Nat) : List (Nat × Nat) → List XV → Bool
  | [], [] => true
  | p :: ps, c :: cs => cond (isPtr (f p.1) p.2 c) (capsEq f ps cs) false
  | _, _ => false
theorem capsEq_eq {f fl : Nat → Nat} : ∀ {ps : List (Nat × Nat)} {cs : List XV}, capsEq f ps cs = true → cs = mpL f fl (psX ps)
  | [], [], _ => rfl
  | [], _ :: _, h => by simp [capsEq] at h
  | _ :: _, [], h => by simp [capsEq] at h
  | p :: ps, c :: cs, h => by
    simp only [capsEq] at h
    cases h1 : isPtr (f p.1) p.2 c with
    | false => simp [h1] at h
    | true =>
      simp only [h1, cond_true] at h
      have e := capsEq_eq (fl := fl) h
      rw [isPtr_eq h1, e]
      rfl
def isCloP (f : Nat → Nat) (g : Nat) (ps : List (Nat × Nat)) : XV → Bool
  | .clo g' caps => cond (Nat.beq g' g) (capsEq f ps caps) false
  | _ => false
theorem isCloP_eq {f fl : Nat → Nat} {g : Nat} {ps : List (Nat × Nat)} {v : XV} (h : isCloP f g ps v = true) : v = (XV.clo g (psX ps)).mp f fl := by
  unfold isCloP at h
  split at h
  · rename_i g' caps
    cases h1 : Nat.beq g' g with
    | false => simp [h1] at h
    | true =>
      simp only [h1, cond_true] at h
      rw [Nat.eq_of_beq_eq_true h1, capsEq_eq (fl := fl) h]
      rfl
  · cases h
inductive ArgR (f fl : Nat → Nat) : List XV → List XV → Prop
  | nil : ArgR f fl [] []
  | dat {t : Ty} {v : XV} {y : t.T} {vs xs : List XV} : decXV t v = some y → ArgR f fl vs xs → ArgR f fl (v :: vs) (.d (t.xv y) :: xs)
  | same {v x : XV} {vs xs : List XV} : v = x.mp f fl → ArgR f fl vs xs → ArgR f fl (v :: vs) (x :: xs)
theorem ArgR.app {f fl : Nat → Nat} {a b c d : List XV} (h : ArgR f fl a b) (h' : ArgR f fl c d) : ArgR f fl (a ++ c) (b ++ d) := by
  induction h with
  | nil => exact h'
  | dat h1 _ ih => exact .dat h1 ih
  | same h1 _ ih => exact .same h1 ih
theorem ArgR.length {f fl : Nat → Nat} {a b : List XV} (h : ArgR f fl a b) : a.length = b.length := by
  induction h with
  | nil => rfl
  | dat _ _ ih => simp [ih]
  | same _ _ ih => simp [ih]
theorem ArgR.split {f fl : Nat → Nat} : ∀ {a c xs : List XV}, ArgR f fl (a ++ c) xs → ∃ b d, xs = b ++ d ∧ ArgR f fl a b ∧ ArgR f fl c d
  | [], c, xs, h => ⟨[], xs, rfl, .nil, h⟩
  | v :: a, c, xs, h => by
    rw [List.cons_append] at h
    cases h with
    | dat h1 h2 =>
      obtain ⟨b, d, rfl, h3, h4⟩ := ArgR.split h2
      exact ⟨_ :: b, d, rfl, .dat h1 h3, h4⟩
    | same h1 h2 =>
      obtain ⟨b, d, rfl, h3, h4⟩ := ArgR.split h2
      exact ⟨_ :: b, d, rfl, .same h1 h3, h4⟩
def nmOnly : List XV → Bool
  | [] => true
  | .nm _ _ :: r => nmOnly r
  | _ :: _ => false
theorem ArgR.caps {f fl : Nat → Nat} : ∀ {cs xs : List XV}, ArgR f fl cs xs → nmOnly cs = true → cs = mpL f fl xs
  | [], xs, h, _ => by cases h; rfl
  | v :: cs, xs, h, hn => by
    cases v with
    | nm k p =>
      simp only [nmOnly] at hn
      cases h with
      | dat h1 h2 => simp [decXV] at h1
      | same h1 h2 => rw [h1, ArgR.caps h2 hn]; rfl
    | _ => simp [nmOnly] at hn
theorem ArgR.sees {f fl : Nat → Nat} {st : XSt} : ∀ {ops : List Operand} {vs xs : List XV}, xevals st ops = some vs → ArgR f fl vs xs → ∀ p ∈ imRd (ops.zip (mpL f fl xs)), Sees st.im p.1 p.2
  | [], vs, xs, hv, h => by simp [imRd]
  | x :: ops, [], xs, hv, h => by have := xevals_len hv; simp at this
  | x :: ops, v :: vs, xs, hv, h => by
    obtain ⟨hx, hvs⟩ := xevals_cons hv
    cases h with
    | dat h1 h2 =>
      intro p hp
      simp only [mpL, List.zip_cons_cons, imRd, List.map_cons, List.mem_cons] at hp
      rcases hp with rfl | hp
      · exact decXV_sees hx h1
      · exact ArgR.sees hvs h2 p hp
    | same h1 h2 =>
      intro p hp
      simp only [mpL, List.zip_cons_cons, imRd, List.map_cons, List.mem_cons] at hp
      rcases hp with rfl | hp
      · rw [← h1]; exact xeval_sees hx
      · exact ArgR.sees hvs h2 p hp
def appAs {β R : Type} (f : Nat → Nat) : (l : List AS) → CurA l β → List XV → List XV → (β → List XV → Option R) → Option R
  | [], F, [], acc, K => K F acc
  | .d t :: r, F, v :: vs, acc, K => match decXV t v with
    | some y => appAs f r (F y) vs (acc ++ [.d (t.xv y)]) K
    | none => none
  | .p k off :: r, F, v :: vs, acc, K => cond (isPtr (f k) off v) (appAs f r F vs (acc ++ [.nm k (.p off)]) K) none
  | .os k t :: r, F, v :: vs, acc, K => match osOf (f k) t v with
    | some n => appAs f r (F n) vs (acc ++ [.os k t 0 n]) K
    | none => none
  | .oa k a t :: r, F, v :: vs, acc, K => match osOfA (f k) a t v with
    | some n => appAs f r (F n) vs (acc ++ [.os k t a n]) K
    | none => none
  | .clo g ps :: r, F, v :: vs, acc, K => cond (isCloP f g ps v) (appAs f r F vs (acc ++ [.clo g (psX ps)]) K) none
  | .g _ t :: r, F, v :: vs, acc, K => match decXV t v with
    | some y => appAs f r (F y) vs (acc ++ [.d (t.xv y)]) K
    | none => none
  | _, _, _, _, _ => none
theorem appAs_ok {β R : Type} {Q : β → List XV → Prop} {f fl : Nat → Nat} {K : β → List XV → Option R} {r : R} : ∀ (l : List AS) (F : CurA l β) (vs us acc : List XV), GndA Q l F acc → ArgR f fl us acc → appAs f l F vs acc K = some r →
    ∃ F' xs, Q F' xs ∧ ArgR f fl (us ++ vs) xs ∧ K F' xs = some r
  | [], F, [], us, acc, hg, hr, h => ⟨F, acc, hg, by simpa using hr, h⟩
  | [], F, _ :: _, us, acc, hg, hr, h => by simp [appAs] at h
  | .d t :: l, F, [], us, acc, hg, hr, h => by simp [appAs] at h
  | .p k off :: l, F, [], us, acc, hg, hr, h => by simp [appAs] at h
  | .os k t :: l, F, [], us, acc, hg, hr, h => by simp [appAs] at h
  | .clo g ps :: l, F, [], us, acc, hg, hr, h => by simp [appAs] at h
  | .g k t :: l, F, [], us, acc, hg, hr, h => by simp [appAs] at h
  | .oa k a t :: l, F, [], us, acc, hg, hr, h => by simp [appAs] at h
  | .oa k a t :: l, F, v :: vs, us, acc, hg, hr, h => by
    simp only [appAs] at h
    split at h
    · rename_i n hn
      obtain ⟨F', xs, h1, h2, h3⟩ := appAs_ok l (F n) vs (us ++ [v]) _ (hg n) (hr.app (.same (x := .os k t a n) (osOfA_eq hn) .nil)) h
      exact ⟨F', xs, h1, by simpa using h2, h3⟩
    · cases h
  | .g k t :: l, F, v :: vs, us, acc, hg, hr, h => by
    simp only [appAs] at h
    split at h
    · rename_i y hy
      obtain ⟨F', xs, h1, h2, h3⟩ := appAs_ok l (F y) vs (us ++ [v]) _ (hg y) (hr.app (.dat hy .nil)) h
      exact ⟨F', xs, h1, by simpa using h2, h3⟩
    · cases h
  | .d t :: l, F, v :: vs, us, acc, hg, hr, h => by
    simp only [appAs] at h
    split at h
    · rename_i y hy
      obtain ⟨F', xs, h1, h2, h3⟩ := appAs_ok l (F y) vs (us ++ [v]) _ (hg y) (hr.app (.dat hy .nil)) h
      exact ⟨F', xs, h1, by simpa using h2, h3⟩
    · cases h
  | .p k off :: l, F, v :: vs, us, acc, hg, hr, h => by
    simp only [appAs] at h
    cases hp : isPtr (f k) off v with
    | false => simp [hp] at h
    | true =>
      simp only [hp, cond_true] at h
      obtain ⟨F', xs, h1, h2, h3⟩ := appAs_ok l F vs (us ++ [v]) (acc ++ [.nm k (.p off)]) hg (hr.app (.same (x := .nm k (.p off)) (isPtr_eq hp) .nil)) h
      exact ⟨F', xs, h1, by simpa using h2, h3⟩
  | .os k t :: l, F, v :: vs, us, acc, hg, hr, h => by
    simp only [appAs] at h
    split at h
    · rename_i n hn
      obtain ⟨F', xs, h1, h2, h3⟩ := appAs_ok l (F n) vs (us ++ [v]) _ (hg n) (hr.app (.same (x := .os k t 0 n) (osOf_eq hn) .nil)) h
      exact ⟨F', xs, h1, by simpa using h2, h3⟩
    · cases h
  | .clo g ps :: l, F, v :: vs, us, acc, hg, hr, h => by
    simp only [appAs] at h
    cases hp : isCloP f g ps v with
    | false => simp [hp] at h
    | true =>
      simp only [hp, cond_true] at h
      obtain ⟨F', xs, h1, h2, h3⟩ := appAs_ok l F vs (us ++ [v]) (acc ++ [.clo g (psX ps)]) hg (hr.app (.same (isCloP_eq hp) .nil)) h
      exact ⟨F', xs, h1, by simpa using h2, h3⟩
def plainX : XD → Bool
  | .v _ => false
  | .ic _ _ _ => false
  | _ => true
def plainXs : List XD → Bool
  | [] => true
  | x :: r => cond (plainX x) (plainXs r) false
theorem plainXs_cons {x : XD} {r : List XD} (h : plainXs (x :: r) = true) : plainX x = true ∧ plainXs r = true := by
  simp only [plainXs] at h
  cases hx : plainX x with
  | false => simp [hx] at h
  | true => simp only [hx, cond_true] at h; exact ⟨rfl, h⟩
theorem dec_plain : ∀ (t : Ty) {cs : List XD} {x : t.T} {r : List XD}, plainXs cs = true → t.dec cs = some (x, r) → dsOf cs = t.ds x ++ dsOf r ∧ plainXs r = true := by
  intro t
  induction t with
  | int k =>
    intro cs x r hp h
    simp only [Ty.dec] at h
    unfold decI at h
    split at h
    · rename_i k' n r'
      cases hk : kindB k' k with
      | false => simp [hk] at h
      | true =>
        have := kindB_eq hk
        subst this
        simp only [hk, cond_true, Option.some.injEq, Prod.mk.injEq] at h
        obtain ⟨rfl, rfl⟩ := h
        exact ⟨rfl, (plainXs_cons hp).2⟩
    · rename_i x' r'
      cases hk : kindB .u8 k with
      | false => simp [hk] at h
      | true =>
        have := kindB_eq hk
        subst this
        simp only [hk, cond_true, Option.some.injEq, Prod.mk.injEq] at h
        obtain ⟨rfl, rfl⟩ := h
        exact ⟨rfl, (plainXs_cons hp).2⟩
    · cases h
  | u8 =>
    intro cs x r hp h
    simp only [Ty.dec] at h
    unfold decU8 at h
    split at h
    · cases h; exact ⟨rfl, (plainXs_cons hp).2⟩
    · cases h
  | bool =>
    intro cs x r hp h
    simp only [Ty.dec] at h
    unfold decB at h
    split at h
    · cases h; exact ⟨rfl, (plainXs_cons hp).2⟩
    · cases h
  | str =>
    intro cs x r hp h
    simp only [Ty.dec] at h
    unfold decS at h
    split at h
    · cases h; exact ⟨rfl, (plainXs_cons hp).2⟩
    · cases h
  | sl t ih =>
    intro cs x r hp h
    simp only [Ty.dec] at h
    unfold decL at h
    split at h
    · rename_i t' l r'
      split at h
      · rename_i ht
        have e := Ty.eqb_eq ht
        subst e
        cases h
        exact ⟨rfl, (plainXs_cons hp).2⟩
      · cases h
    · simp [plainXs, plainX] at hp
    · simp [plainXs, plainX] at hp
    · cases h
  | unit =>
    intro cs x r hp h
    simp [Ty.dec] at h
    subst h
    exact ⟨rfl, hp⟩
  | pair a b iha ihb =>
    intro cs x r hp h
    unfold Ty.dec at h
    split at h
    · rename_i p hpa
      split at h
      · rename_i q hq
        cases h
        obtain ⟨h1, h2⟩ := iha (x := p.1) (r := p.2) hp hpa
        obtain ⟨h3, h4⟩ := ihb (x := q.1) (r := q.2) h2 hq
        exact ⟨by rw [h1, h3]; simp [Ty.ds], h4⟩
      · cases h
    · cases h
  | st1 a iha =>
    intro cs x r hp h
    exact iha hp h
  | tab t ih =>
    intro cs x r hp h
    simp only [Ty.dec] at h
    unfold decT at h
    split at h
    · rename_i t' l r'
      split at h
      · rename_i ht
        have e := Ty.eqb_eq ht
        subst e
        cases h
        exact ⟨rfl, (plainXs_cons hp).2⟩
      · cases h
    · cases h
  | err =>
    intro cs x r hp h
    simp only [Ty.dec] at h
    unfold decE at h
    split at h
    · cases h; exact ⟨rfl, (plainXs_cons hp).2⟩
    · simp [plainXs, plainX] at hp
    · simp [plainXs, plainX] at hp
    · cases h
  | ic t k =>
    intro cs x r hp h
    simp only [Ty.dec] at h
    unfold decIc at h
    split at h
    · simp [plainXs, plainX] at hp
    · simp [plainXs, plainX] at hp
    · cases h
  | ptr =>
    intro cs x r hp h
    simp only [Ty.dec] at h
    unfold decP at h
    split at h
    · cases h; exact ⟨rfl, (plainXs_cons hp).2⟩
    · simp [plainXs, plainX] at hp
    · cases h
def tipOf (m : Nat) (t : Ty) (ty : Option TypeId) : XV → Option (List t.T)
  | .tip m' t' l ty' => cond (Nat.beq m' m) (cond (tyEqO ty' ty) (if h : t'.eqb t = true then some (Ty.eqb_eq h ▸ l) else none) none) none
  | _ => none
theorem tipOf_eq {m : Nat} {t : Ty} {ty : Option TypeId} {v : XV} {l : List t.T} (h : tipOf m t ty v = some l) : v = .tip m t l ty := by
  unfold tipOf at h
  split at h
  · rename_i m' t' l' ty'
    cases h1 : Nat.beq m' m with
    | false => simp [h1] at h
    | true =>
    cases h2 : tyEqO ty' ty with
    | false => simp [h1, h2] at h
    | true =>
      simp only [h1, h2, cond_true] at h
      split at h
      · rename_i ht
        have e := Ty.eqb_eq ht
        subst e
        cases h
        rw [Nat.eq_of_beq_eq_true h1, tyEqO_eq h2]
      · cases h
  · cases h
def zOf (m off : Nat) (ex : Bool) : XV → Option Bool
  | .nm k' (.z b off') => cond (Nat.beq k' m) (cond (Nat.beq off' off) (some b) none) none
  | .nm k' (.p off') => cond ex none (cond (Nat.beq k' m) (cond (Nat.beq off' off) (some false) none) none)
  | .d (.v (.pointer none)) => cond ex none (some true)
  | _ => none
def CellR (f fl : Nat → Nat) (ex : Bool) (cs xs : List XV) : Prop := AsLe (asOf cs) (asOf (mpL f fl xs)) ∧ (ex = true → asOf cs = asOf (mpL f fl xs))
theorem AsLe.refl : ∀ (l : List AV), AsLe l l
  | [] => .nil
  | x :: r => .cons (.refl x) (AsLe.refl r)
theorem AsLe.append {a b c d : List AV} (h : AsLe a b) (h' : AsLe c d) : AsLe (a ++ c) (b ++ d) := by
  induction h with
  | nil => exact h'
  | cons h1 _ ih => exact .cons h1 ih
theorem mpL_append (f fl : Nat → Nat) (a b : List XV) : mpL f fl (a ++ b) = mpL f fl a ++ mpL f fl b := by simp [mpL_map]
theorem CellR.app {f fl : Nat → Nat} {ex : Bool} {a b c d : List XV} (h : CellR f fl ex a b) (h' : CellR f fl ex c d) : CellR f fl ex (a ++ c) (b ++ d) := by
  refine ⟨?_, fun e => ?_⟩
  · rw [asOf_append, mpL_append, asOf_append]; exact h.1.append h'.1
  · rw [asOf_append, mpL_append, asOf_append, h.2 e, h'.2 e]
theorem CellR.same {f fl : Nat → Nat} {ex : Bool} {v x : XV} (h : v = x.mp f fl) : CellR f fl ex [v] [x] := by
  subst h
  exact ⟨.refl _, fun _ => rfl⟩
theorem asOf_map_d (l : List XD) : asOf (l.map .d) = (dsOf l).map .d := by
  rw [asOf_map, dsOf_map]; simp [XV.a]
theorem mpL_map_d (f fl : Nat → Nat) (l : List XD) : mpL f fl (l.map .d) = l.map .d := by
  rw [mpL_map]; simp [XV.mp]
theorem DsLe.as {a b : List D} (h : DsLe a b) : AsLe (a.map .d) (b.map .d) := by
  induction h with
  | nil => exact .nil
  | cons h1 _ ih => exact .cons (ALe.d h1) ih
theorem CellR.data {f fl : Nat → Nat} {ex : Bool} {t : Ty} {ds : List XD} {y : t.T} (h : t.dec ds = some (y, [])) (hex : ex = true → plainXs ds = true) : CellR f fl ex (ds.map .d) ((t.enc y).map .d) := by
  refine ⟨?_, fun e => ?_⟩
  · obtain ⟨ds', h1, h2⟩ := t.dec_spec h
    rw [mpL_map_d, asOf_map_d, asOf_map_d, t.enc_ds]
    simp only [dsOf, List.append_nil] at h1
    rw [h1]
    exact h2.as
  · obtain ⟨h1, _⟩ := dec_plain t (hex e) h
    rw [mpL_map_d, asOf_map_d, asOf_map_d, t.enc_ds, h1]
    simp [dsOf]
theorem zOf_rel {f fl : Nat → Nat} {k off : Nat} {ex : Bool} {v : XV} {b : Bool} (h : zOf (f k) off ex v = some b) : CellR f fl ex [v] [.nm k (.z b off)] := by
  have mk : (∀ (g : Gh) (w : World) (u : Value), RA g w v.a u → RA g w (XV.nm (f k) (.z b off)).a u) → (ex = true → v = .nm (f k) (.z b off)) → CellR f fl ex [v] [.nm k (.z b off)] := by
    intro h1 h2
    refine ⟨.cons h1 .nil, fun he => ?_⟩
    rw [h2 he]; rfl
  unfold zOf at h
  split at h
  · rename_i k' b' off'
    cases h1 : Nat.beq k' (f k) with
    | false => simp [h1] at h
    | true =>
      cases h2 : Nat.beq off' off with
      | false => simp [h1, h2] at h
      | true =>
        simp only [h1, h2, cond_true, Option.some.injEq] at h
        have e1 := Nat.eq_of_beq_eq_true h1
        have e2 := Nat.eq_of_beq_eq_true h2
        subst e1; subst e2; subst h
        exact mk (fun _ _ _ h => h) (fun _ => rfl)
  · rename_i k' off'
    cases hx : ex with
    | true => simp [hx] at h
    | false =>
      rw [hx] at mk
      cases h1 : Nat.beq k' (f k) with
      | false => simp [h1, hx] at h
      | true =>
        cases h2 : Nat.beq off' off with
        | false => simp [h1, h2, hx] at h
        | true =>
          simp only [h1, h2, hx, cond_true, cond_false, Option.some.injEq] at h
          have e1 := Nat.eq_of_beq_eq_true h1
          have e2 := Nat.eq_of_beq_eq_true h2
          subst e1; subst e2; subst h
          refine mk (fun g w u hr => ?_) (fun e => by cases e)
          simp only [XV.a] at hr ⊢
          cases hr with
          | nm _ _ _ h => exact .nm _ _ _ h
  · cases hx : ex with
    | true => simp [hx] at h
    | false =>
      rw [hx] at mk
      simp only [hx, cond_false, Option.some.injEq] at h
      subst h
      refine mk (fun g w u hr => ?_) (fun e => by cases e)
      simp only [XV.a, XD.d] at hr ⊢
      cases hr with
      | d _ _ h1 => cases h1; exact .nm _ _ _ rfl
  · cases h
def appCs {β R : Type} (f fl : Nat → Nat) (ex : Bool) : (l : List VK) → CurC l β → List XV → List XV → (β → List XV → Option R) → Option R
  | [], F, [], acc, K => K F acc
  | .d t :: r, F, cs, acc, K => match allX (cs.take t.size) with
    | some ds => cond (cond ex (plainXs ds) true) (match t.dec ds with
      | some (y, []) => appCs f fl ex r (F y) (cs.drop t.size) (acc ++ (t.enc y).map .d) K
      | _ => none) none
    | none => none
  | .p k off :: r, F, c :: cs, acc, K => cond (isPtr (f k) off c) (appCs f fl ex r F cs (acc ++ [.nm k (.p off)]) K) none
  | .z k off :: r, F, c :: cs, acc, K => match zOf (f k) off ex c with
    | some b => appCs f fl ex r (F b) cs (acc ++ [.nm k (.z b off)]) K
    | none => none
  | .tip n t ty :: r, F, c :: cs, acc, K => match tipOf (fl n) t ty c with
    | some l => appCs f fl ex r (F l) cs (acc ++ [.tip n t l ty]) K
    | none => none
  | _, _, _, _, _ => none
theorem appCs_ok {β R : Type} {Q : β → List XV → Prop} {f fl : Nat → Nat} {ex : Bool} {K : β → List XV → Option R} {r : R} : ∀ (l : List VK) (F : CurC l β) (cs us acc : List XV), GndC Q l F acc → CellR f fl ex us acc → appCs f fl ex l F cs acc K = some r →
    ∃ F' xs, Q F' xs ∧ CellR f fl ex (us ++ cs) xs ∧ K F' xs = some r
  | [], F, [], us, acc, hg, hr, h => ⟨F, acc, hg, by simpa using hr, h⟩
  | [], F, _ :: _, us, acc, hg, hr, h => by simp [appCs] at h
  | .p k off :: l, F, [], us, acc, hg, hr, h => by simp [appCs] at h
  | .tip n t ty :: l, F, [], us, acc, hg, hr, h => by simp [appCs] at h
  | .z k off :: l, F, [], us, acc, hg, hr, h => by simp [appCs] at h
  | .d t :: l, F, cs, us, acc, hg, hr, h => by
    unfold appCs at h
    split at h
    · rename_i ds hds
      have hex : ex = true → plainXs ds = true := by
        intro e
        subst e
        cases hp : plainXs ds with
        | true => rfl
        | false => simp [hp] at h
      have h : (match t.dec ds with
        | some (y, []) => appCs f fl ex l (F y) (cs.drop t.size) (acc ++ (t.enc y).map .d) K
        | _ => none) = some r := by
        cases hc : (cond ex (plainXs ds) true) with
        | true => simpa [hc] using h
        | false => simp [hc] at h
      split at h
      · rename_i y hy
        have e1 := allX_map hds
        have hrel := CellR.data (f := f) (fl := fl) (ex := ex) hy hex
        rw [← e1] at hrel
        obtain ⟨F', xs, h1, h2, h3⟩ := appCs_ok l (F y) (cs.drop t.size) (us ++ cs.take t.size) _ (hg y) (hr.app hrel) h
        refine ⟨F', xs, h1, ?_, h3⟩
        rw [List.append_assoc, List.take_append_drop] at h2
        exact h2
      · cases h
    · cases h
  | .p k off :: l, F, c :: cs, us, acc, hg, hr, h => by
    simp only [appCs] at h
    cases hp : isPtr (f k) off c with
    | false => simp [hp] at h
    | true =>
      simp only [hp, cond_true] at h
      obtain ⟨F', xs, h1, h2, h3⟩ := appCs_ok l F cs (us ++ [c]) (acc ++ [.nm k (.p off)]) hg (hr.app (.same (x := .nm k (.p off)) (isPtr_eq hp))) h
      exact ⟨F', xs, h1, by simpa using h2, h3⟩
  | .z k off :: l, F, c :: cs, us, acc, hg, hr, h => by
    simp only [appCs] at h
    split at h
    · rename_i b hb
      obtain ⟨F', xs, h1, h2, h3⟩ := appCs_ok l (F b) cs (us ++ [c]) _ (hg b) (hr.app (zOf_rel hb)) h
      exact ⟨F', xs, h1, by simpa using h2, h3⟩
    · cases h
  | .tip n t ty :: l, F, c :: cs, us, acc, hg, hr, h => by
    simp only [appCs] at h
    split at h
    · rename_i u hu
      obtain ⟨F', xs, h1, h2, h3⟩ := appCs_ok l (F u) cs (us ++ [c]) _ (hg u) (hr.app (.same (x := .tip n t u ty) (tipOf_eq hu))) h
      exact ⟨F', xs, h1, by simpa using h2, h3⟩
    · cases h
def InR (f fl : Nat → Nat) (ko : List Nat) (objs : List (Nat × XOb)) (p : Nat × XOb) : Prop :=
  ∃ o, lk (f p.1) objs = some o ∧ ObLe o.o (p.2.mp f fl).o ∧ (inl p.1 ko = true → o.o = (p.2.mp f fl).o)
def appOs {β R : Type} (f fl : Nat → Nat) (ko : List Nat) (objs : List (Nat × XOb)) : (l : List (Nat × List VK × Option TypeId)) → CurO l β → List (Nat × XOb) → (β → List (Nat × XOb) → Option R) → Option R
  | [], F, acc, K => K F acc
  | p :: r, F, acc, K => match lk (f p.1) objs with
    | some (.cells cs ty) => cond (tyEqO ty p.2.2) (appCs f fl (inl p.1 ko) p.2.1 F cs [] fun F' xs => appOs f fl ko objs r F' (acc ++ [(p.1, .cells xs p.2.2)]) K) none
    | _ => none
theorem AsLe.obs {a b : List AV} {ty : Option TypeId} (h : AsLe a b) : ObLe (.cells a ty) (.cells b ty) := by
  refine .cells h.length (fun i x y hx hy => ?_) (.inl rfl)
  obtain ⟨x', hx', hle⟩ := h.get hy
  rw [hx] at hx'
  cases hx'
  exact hle
theorem appOs_ok {β R : Type} {Q : β → List (Nat × XOb) → Prop} {f fl : Nat → Nat} {ko : List Nat} {objs : List (Nat × XOb)} {K : β → List (Nat × XOb) → Option R} {r : R} : ∀ (l : List (Nat × List VK × Option TypeId)) (F : CurO l β) (acc : List (Nat × XOb)), GndO Q l F acc → (∀ p ∈ acc, InR f fl ko objs p) → appOs f fl ko objs l F acc K = some r →
    ∃ F' os, Q F' os ∧ (∀ p ∈ os, InR f fl ko objs p) ∧ K F' os = some r
  | [], F, acc, hg, hr, h => ⟨F, acc, hg, hr, h⟩
  | q :: l, F, acc, hg, hr, h => by
    simp only [appOs] at h
    split at h
    · rename_i cs ty hk
      cases ht : tyEqO ty q.2.2 with
      | false => simp [ht] at h
      | true =>
        simp only [ht, cond_true] at h
        have e := tyEqO_eq ht
        subst e
        obtain ⟨F', xs, h1, h2, h3⟩ := appCs_ok q.2.1 F cs [] [] hg ⟨.nil, fun _ => rfl⟩ h
        refine appOs_ok l F' _ h1 ?_ h3
        intro p hp
        rcases List.mem_append.1 hp with hp | hp
        · exact hr p hp
        · simp only [List.mem_singleton] at hp
          subst hp
          refine ⟨_, hk, ?_, fun hh => ?_⟩
          · simp only [XOb.o, XOb.mp]
            exact AsLe.obs h2.1
          · simp only [XOb.o, XOb.mp]
            have := h2.2 hh
            rw [List.nil_append] at this
            rw [this]
    · cases h
def OK.okc (f : Nat → Nat) : OK → Bool
  | .mit m => Nat.beq (f m) m
  | _ => true
theorem OK.okc_mp {f fl : Nat → Nat} {o : OK} {y : o.T} (h : o.okc f = true) : (o.ob y).mp f fl = o.ob y := by
  cases o with
  | mit m => show XOb.mit (f m) _ _ _ = _; rw [Nat.eq_of_beq_eq_true h]; rfl
  | _ => rfl
def appRs {β R : Type} (f : Nat → Nat) (objs : List (Nat × XOb)) : (l : List (Nat × OK)) → CurR l β → List (Nat × XOb) → (β → List (Nat × XOb) → Option R) → Option R
  | [], F, acc, K => K F acc
  | p :: r, F, acc, K => match lk (f p.1) objs with
    | some o => match p.2.dec o with
      | some y => cond (p.2.okc f) (appRs f objs r (F y) (acc ++ [(p.1, p.2.ob y)]) K) none
      | none => none
    | none => none
theorem appRs_ok {β R : Type} {Q : β → List (Nat × XOb) → Prop} {f fl : Nat → Nat} {ko : List Nat} {objs : List (Nat × XOb)} {K : β → List (Nat × XOb) → Option R} {r : R} : ∀ (l : List (Nat × OK)) (F : CurR l β) (acc : List (Nat × XOb)), GndR Q l F acc → (∀ p ∈ acc, InR f fl ko objs p) → appRs f objs l F acc K = some r →
    ∃ F' os, Q F' os ∧ (∀ p ∈ os, InR f fl ko objs p) ∧ K F' os = some r
  | [], F, acc, hg, hr, h => ⟨F, acc, hg, hr, h⟩
  | q :: l, F, acc, hg, hr, h => by
    obtain ⟨qk, qt⟩ := q
    simp only [appRs] at h
    split at h
    · rename_i o hk
      split at h
      · rename_i y hy
        cases hc : qt.okc f with
        | false => simp [hc] at h
        | true =>
        simp only [hc, cond_true] at h
        refine appRs_ok l _ _ (hg y) ?_ h
        intro p hp
        rcases List.mem_append.1 hp with hp | hp
        · exact hr p hp
        · simp only [List.mem_singleton] at hp
          subst hp
          refine ⟨_, hk, ?_, fun _ => ?_⟩
          · rw [OK.okc_mp hc, OK.dec_eq hy]; exact .refl _
          · rw [OK.okc_mp hc, OK.dec_eq hy]
      · cases h
    · cases h
end Go.Xl
set_option linter.unusedVariables false
set_option linter.unusedSimpArgs false
set_option linter.unnecessarySimpa false
namespace Go.Xl
open Go.Ab
def outW (c : Cut) (y : c.T) : List (Nat × XOb) := genObjs c.objs y.2.1 ++ (genOwnO c.own y.2.2.1 ++ genArrs c.arrs y.2.2.2)
theorem gen_objs (s0 : XSt) (c : Cut) (y : c.T) : (gen s0 c y).objs = outW c y ++ keepObjs s0.objs c.keepO := by simp [gen, outW]
def newOk (ns : List Nat) (f : Nat → Nat) (F : List Nat) (objs : List (Nat × XOb)) : List (Nat × XOb) → Bool
  | [] => true
  | p :: r => cond (cond (inl p.1 ns) true (cond (inl (f p.1) F) (match lk (f p.1) objs with
    | none => true
    | some _ => false) false)) (newOk ns f F objs r) false
theorem newOk_spec {ns : List Nat} {f : Nat → Nat} {F : List Nat} {objs : List (Nat × XOb)} : ∀ {l : List (Nat × XOb)}, newOk ns f F objs l = true → ∀ p ∈ l, p.1 ∈ ns ∨ (f p.1 ∈ F ∧ lk (f p.1) objs = none)
  | [], _ => by simp
  | q :: r, h => by
    simp only [newOk] at h
    have hr : newOk ns f F objs r = true ∧ (q.1 ∈ ns ∨ (f q.1 ∈ F ∧ lk (f q.1) objs = none)) := by
      cases h1 : inl q.1 ns with
      | true => simp only [h1, cond_true] at h; exact ⟨h, .inl ((inl_eq _ _).1 h1)⟩
      | false =>
        cases h2 : inl (f q.1) F with
        | false => simp [h1, h2] at h
        | true =>
          cases h3 : lk (f q.1) objs with
          | some _ => simp [h1, h2, h3] at h
          | none => simp only [h1, h2, h3, cond_true, cond_false] at h; exact ⟨h, .inr ⟨(inl_eq _ _).1 h2, rfl⟩⟩
    intro p hp
    rcases List.mem_cons.1 hp with rfl | hp
    · exact hr.2
    · exact newOk_spec hr.1 p hp
def outNew (fl : Nat → Nat) (labs live : List Nat) : List Nat → Bool
  | [] => true
  | n :: r => cond (cond (inl (fl n) live) (inl (fl n) (labs.map fl)) true) (outNew fl labs live r) false
theorem outNew_spec {fl : Nat → Nat} {labs live : List Nat} : ∀ {l : List Nat}, outNew fl labs live l = true → ∀ n ∈ l, fl n ∈ live → fl n ∈ labs.map fl
  | [], _ => by simp
  | m :: r, h => by
    simp only [outNew] at h
    intro n hn hl
    cases h1 : inl (fl m) live with
    | false =>
      simp only [h1, cond_false, cond_true] at h
      rcases List.mem_cons.1 hn with rfl | hn
      · rw [(inl_eq _ _).2 hl] at h1; cases h1
      · exact outNew_spec h n hn hl
    | true =>
      cases h2 : inl (fl m) (labs.map fl) with
      | false => simp [h1, h2] at h
      | true =>
        simp only [h1, h2, cond_true] at h
        rcases List.mem_cons.1 hn with rfl | hn
        · exact (inl_eq _ _).1 h2
        · exact outNew_spec h n hn hl
def cChk (S : CSp) (f fl : Nat → Nat) (F : List Nat) (st : XSt) (xs : List XV) (inO s1o : List (Nat × XOb)) (s1l : List Nat) (res : XV) : Bool :=
  cond (nodupL S.names) (cond (nodupL (S.names.map f)) (cond (objsNms S.names S.labs inO) (cond (objsNms (s1o.map (·.1)) s1l s1o) (cond (nodupL (s1o.map fun p => f p.1)) (cond (newOk S.names f F st.objs s1o)
  (cond (subL S.names (s1o.map (·.1))) (cond (objsFreeX F (putXs f fl inO st.objs)) (cond (subL (S.labs.map fl) st.live) (cond (nodupL (S.labs.map fl)) (cond (nodupL (s1l.map fl)) (cond (subL (s1l.map fl) F)
  (cond (outNew fl S.labs st.live s1l) (cond (nmsL S.names S.labs xs) (res.nms (s1o.map (·.1)) s1l) false) false) false) false) false) false) false) false) false) false) false) false) false) false
structure CChk (S : CSp) (f fl : Nat → Nat) (F : List Nat) (st : XSt) (xs : List XV) (inO s1o : List (Nat × XOb)) (s1l : List Nat) (res : XV) : Prop where
  nd1 : S.names.Nodup
  nd2 : (S.names.map f).Nodup
  innm : objsNms S.names S.labs inO = true
  outnm : objsNms (s1o.map (·.1)) s1l s1o = true
  nd3 : (s1o.map fun p => f p.1).Nodup
  new : ∀ p ∈ s1o, p.1 ∈ S.names ∨ (f p.1 ∈ F ∧ lk (f p.1) st.objs = none)
  sub : ∀ x ∈ S.names, x ∈ s1o.map (·.1)
  free : objsFreeX F (putXs f fl inO st.objs) = true
  l1 : ∀ x ∈ S.labs.map fl, x ∈ st.live
  l2 : (S.labs.map fl).Nodup
  l3 : (s1l.map fl).Nodup
  l4 : ∀ x ∈ s1l.map fl, x ∈ F
  l5 : ∀ n ∈ s1l, fl n ∈ st.live → fl n ∈ S.labs.map fl
  xsn : nmsL S.names S.labs xs = true
  resn : res.nms (s1o.map (·.1)) s1l = true
theorem cChk_spec {S : CSp} {f fl : Nat → Nat} {F : List Nat} {st : XSt} {xs : List XV} {inO s1o : List (Nat × XOb)} {s1l : List Nat} {res : XV} (h : cChk S f fl F st xs inO s1o s1l res = true) : CChk S f fl F st xs inO s1o s1l res := by
  unfold cChk at h
  have c : ∀ {a b : Bool}, cond a b false = true → a = true ∧ b = true := by intro a b h; cases a <;> simp at h; exact ⟨rfl, h⟩
  obtain ⟨h1, h⟩ := c h
  obtain ⟨h2, h⟩ := c h
  obtain ⟨h3, h⟩ := c h
  obtain ⟨h4, h⟩ := c h
  obtain ⟨h5, h⟩ := c h
  obtain ⟨h6, h⟩ := c h
  obtain ⟨h7, h⟩ := c h
  obtain ⟨h8, h⟩ := c h
  obtain ⟨h9, h⟩ := c h
  obtain ⟨h10, h⟩ := c h
  obtain ⟨h11, h⟩ := c h
  obtain ⟨h12, h⟩ := c h
  obtain ⟨h13, h⟩ := c h
  obtain ⟨h14, h⟩ := c h
  exact ⟨nodupL_spec h1, nodupL_spec h2, h3, h4, nodupL_spec h5, newOk_spec h6, subL_spec h7, h8, subL_spec h9, nodupL_spec h10, nodupL_spec h11, subL_spec h12, outNew_spec h13, h14, h⟩
theorem im_mem {l : List (Nat × XOb)} {p : Nat × Ob} (h : p ∈ imObjs l) : ∃ q ∈ l, p = (q.1, q.2.o) := by
  unfold imObjs at h
  obtain ⟨q, hq, rfl⟩ := List.mem_map.1 h
  exact ⟨q, hq, rfl⟩
theorem putObjsL_im_other {f fl : Nat → Nat} {l : List (Nat × XOb)} {acc : List (Nat × Ob)} {j : Nat} (h : ∀ p ∈ l, f p.1 ≠ j) : (putObjsL f fl (imObjs l) acc).lookup j = acc.lookup j := by
  refine putObjsL_other _ _ j fun p hp => ?_
  obtain ⟨q, hq, rfl⟩ := im_mem hp
  exact h q hq
theorem putObjsL_im_mem {f fl : Nat → Nat} {l : List (Nat × XOb)} {acc : List (Nat × Ob)} {p : Nat × XOb} (hn : (l.map fun p => f p.1).Nodup) (h : p ∈ l) : (putObjsL f fl (imObjs l) acc).lookup (f p.1) = some (p.2.mp f fl).o := by
  have := putObjsL_mem (f := f) (fl := fl) (imObjs l) acc (p.1, p.2.o) (by simpa [imObjs, Function.comp_def] using hn) (List.mem_map_of_mem (f := fun p : Nat × XOb => (p.1, p.2.o)) h)
  rw [XOb.mp_o]
  exact this
theorem call_core {P : Program} {o : Oper} {rd : List (Operand × AV)} {S : CSp} {f fl : Nat → Nat} {F : List Nat} {st : XSt} {xs : List XV} {inO : List (Nat × XOb)} {y : S.out.T} {res : XV} {X : Store}
    (hc : CChk S f fl F st xs inO (gen (S.s0 xs inO) S.out y).objs (gen (S.s0 xs inO) S.out y).live res) (hnm : inO.map (·.1) = S.names)
    (hin : ∀ p ∈ inO, ∃ o, X.objs.lookup (f p.1) = some o ∧ ObLe o (p.2.mp f fl).o ∧ (inl p.1 S.out.keepO = true → o = (p.2.mp f fl).o))
    (hnew : ∀ p ∈ (gen (S.s0 xs inO) S.out y).objs, p.1 ∈ S.names ∨ (f p.1 ∈ F ∧ X.objs.lookup (f p.1) = none))
    (hfree : objsFree F ⟨putObjsL f fl (imObjs inO) X.objs, X.live⟩ = true) (hl1 : ∀ x ∈ S.labs.map fl, x ∈ X.live) (hl5 : ∀ n ∈ (gen (S.s0 xs inO) S.out y).live, fl n ∈ X.live → fl n ∈ S.labs.map fl)
    (H : ∀ Y, LabCall Y ⟨imObjs inO, S.labs⟩ (gen (S.s0 xs inO) S.out y).X f fl F → OpT P o rd Y ⟨putObjsL f fl (gen (S.s0 xs inO) S.out y).X.objs Y.objs, liveAfter fl Y ⟨imObjs inO, S.labs⟩ (gen (S.s0 xs inO) S.out y).X⟩ F (res.mp f fl).a) :
    OpT P o rd X ⟨putObjsL f fl (imObjs (outW S.out y)) X.objs, liveAfter fl X ⟨imObjs inO, S.labs⟩ (gen (S.s0 xs inO) S.out y).X⟩ F (res.mp f fl).a := by
  generalize hs1 : gen (S.s0 xs inO) S.out y = s1 at *
  have hobjs : s1.objs = outW S.out y ++ keepObjs inO S.out.keepO := by rw [← hs1, gen_objs]; rfl
  have nd2 : (inO.map fun p => f p.1).Nodup := by
    have := hc.nd2
    rw [← hnm, List.map_map] at this
    exact this
  let Y : Store := ⟨putObjsL f fl (imObjs inO) X.objs, X.live⟩
  have yIn : ∀ p ∈ inO, Y.objs.lookup (f p.1) = some (p.2.mp f fl).o := fun p hp => putObjsL_im_mem nd2 hp
  have yOther : ∀ j, (∀ p ∈ inO, f p.1 ≠ j) → Y.objs.lookup j = X.objs.lookup j := fun j hj => putObjsL_im_other hj
  have yCases : ∀ j, (∃ p ∈ inO, f p.1 = j) ∨ ∀ p ∈ inO, f p.1 ≠ j := by
    intro j
    by_cases h : ∃ p ∈ inO, f p.1 = j
    · exact .inl h
    · exact .inr fun p hp e => h ⟨p, hp, e⟩
  have hle : ∀ k o', Y.objs.lookup k = some o' → ∃ o, X.objs.lookup k = some o ∧ ObLe o o' := by
    intro k o' ho
    rcases yCases k with ⟨p, hp, rfl⟩ | hn
    · rw [yIn p hp] at ho
      cases ho
      obtain ⟨o, h1, h2, _⟩ := hin p hp
      exact ⟨o, h1, h2⟩
    · rw [yOther k hn] at ho
      exact ⟨o', ho, .refl _⟩
  have hkk : ∀ k, (X.objs.lookup k).isSome → (Y.objs.lookup k).isSome := by
    intro k hk
    rcases yCases k with ⟨p, hp, rfl⟩ | hn
    · rw [yIn p hp]; rfl
    · rw [yOther k hn]; exact hk
  have hXn : s1.X.objs.map (·.1) = s1.objs.map (·.1) := imObjs_names _
  have hlab : LabCall Y ⟨imObjs inO, S.labs⟩ s1.X f fl F := by
    refine ⟨?_, ?_, ?_, ?_, ?_, ?_, ?_, hfree, ?_, hc.l2, hc.l3, fun n hn => hc.l4 _ (List.mem_map_of_mem hn), hl5⟩
    · intro p hp
      obtain ⟨q, hq, rfl⟩ := im_mem hp
      rw [yIn q hq, XOb.mp_o]
    · simp only [imObjs_names, hnm]
      exact objsNms_im hc.innm
    · rw [hXn]
      exact objsNms_im hc.outnm
    · have := hc.nd3
      simpa [XSt.X, imObjs, Function.comp_def] using this
    · simp only [imObjs_names, hnm]
      exact hc.nd1
    · intro p hp
      obtain ⟨q, hq, rfl⟩ := im_mem hp
      simp only [imObjs_names, hnm]
      rcases hnew q hq with h | ⟨h1, h2⟩
      · exact .inl h
      · refine .inr ⟨h1, ?_⟩
        rw [yOther]
        · exact h2
        · intro p hp e
          obtain ⟨o, h3, _⟩ := hin p hp
          rw [e, h2] at h3
          cases h3
    · intro p hp
      obtain ⟨q, hq, rfl⟩ := im_mem hp
      rw [hXn]
      exact hc.sub _ (by rw [← hnm]; exact List.mem_map_of_mem (f := fun p : Nat × XOb => p.1) hq)
    · intro n hn
      exact hl1 _ (List.mem_map_of_mem hn)
  have h1 := opT_weak (H Y hlab) hle hkk rfl
  -- the same lookups
  have ndo := hc.nd3
  rw [hobjs] at ndo
  have same : ∀ j, (putObjsL f fl (imObjs (outW S.out y)) X.objs).lookup j = (putObjsL f fl s1.X.objs Y.objs).lookup j := by
    intro j
    by_cases hj : ∃ p ∈ s1.objs, f p.1 = j
    · obtain ⟨p, hp, rfl⟩ := hj
      have e1 : (putObjsL f fl s1.X.objs Y.objs).lookup (f p.1) = some (p.2.mp f fl).o := putObjsL_im_mem hc.nd3 hp
      rw [e1]
      rw [hobjs] at hp
      rcases List.mem_append.1 hp with hp | hp
      · exact putObjsL_im_mem (by
          rw [List.map_append] at ndo
          exact (nodup_app ndo).1) hp
      · rw [putObjsL_im_other]
        · obtain ⟨hk1, hk2⟩ := keepObjs_mem hp
          have hmem : p ∈ inO := lk_mem hk2
          obtain ⟨o, h3, _, h4⟩ := hin p hmem
          rw [h3, h4 ((inl_eq _ _).2 hk1)]
        · intro q hq e
          rw [List.map_append] at ndo
          exact (nodup_app ndo).2.2 (f q.1) (List.mem_map_of_mem (f := fun p : Nat × XOb => f p.1) hq) (by rw [e]; exact List.mem_map_of_mem (f := fun p : Nat × XOb => f p.1) hp)
    · have hn : ∀ p ∈ s1.objs, f p.1 ≠ j := fun p hp e => hj ⟨p, hp, e⟩
      have e1 : (putObjsL f fl s1.X.objs Y.objs).lookup j = Y.objs.lookup j := putObjsL_im_other hn
      rw [e1, yOther j ?_, putObjsL_im_other ?_]
      · intro p hp
        exact hn p (by rw [hobjs]; exact List.mem_append_left _ hp)
      · intro p hp e
        have := hc.sub p.1 (by rw [← hnm]; exact List.mem_map_of_mem (f := fun p : Nat × XOb => p.1) hp)
        obtain ⟨q, hq, hqe⟩ := List.mem_map.1 this
        exact hn q hq (by rw [hqe]; exact e)
  intro nm hsm B g w a hr hrd next Q hn
  refine h1 nm hsm B g w a hr hrd next Q fun g' w' v hr' ht hv => hn g' w' v ?_ ht hv
  refine hr_weak hr' (fun k o' ho => ⟨o', ?_, .refl _⟩) (fun k hk => ?_) rfl
  · rw [← same k]; exact ho
  · rw [same k]; exact hk
def nmBase (o : Oper) : Nat := match o.dst with
  | some d => 1000000 + 1000 * d
  | none => 999000
def findP : List (Nat × Nat) → List XV → List (Nat × Nat) → List (Nat × Nat)
  | p :: ps, .nm k _ :: cs, σ => findP ps cs ((p.1, k) :: σ)
  | _ :: ps, _ :: cs, σ => findP ps cs σ
  | _, _, σ => σ
def findA : List AS → List XV → List (Nat × Nat) → List (Nat × Nat)
  | .p k _ :: r, .nm k' _ :: vs, σ => findA r vs ((k, k') :: σ)
  | .os k _ :: r, .os k' _ _ _ :: vs, σ => findA r vs ((k, k') :: σ)
  | .oa k _ _ :: r, .os k' _ _ _ :: vs, σ => findA r vs ((k, k') :: σ)
  | .clo _ ps :: r, .clo _ caps :: vs, σ => findA r vs (findP ps caps σ)
  | _ :: r, _ :: vs, σ => findA r vs σ
  | _, _, σ => σ
def findC : List VK → List XV → List (Nat × Nat) × List (Nat × Nat) → List (Nat × Nat) × List (Nat × Nat)
  | .d t :: r, cs, σ => findC r (cs.drop t.size) σ
  | .p k _ :: r, .nm k' _ :: cs, σ => findC r cs ((k, k') :: σ.1, σ.2)
  | .tip n _ _ :: r, .tip n' _ _ _ :: cs, σ => findC r cs (σ.1, (n, n') :: σ.2)
  | _ :: r, _ :: cs, σ => findC r cs σ
  | _, _, σ => σ
def findO (objs : List (Nat × XOb)) : List (Nat × List VK × Option TypeId) → List (Nat × Nat) × List (Nat × Nat) → List (Nat × Nat) × List (Nat × Nat)
  | [], σ => σ
  | p :: r, σ => match lk (nf σ.1 p.1) objs with
    | some (.cells cs _) => findO objs r (findC p.2.1 cs σ)
    | _ => findO objs r σ
def newNs (ns : List Nat) (b : Nat) : List Nat → List (Nat × Nat)
  | [] => []
  | k :: r => cond (inl k ns) (newNs ns b r) ((k, b + k) :: newNs ns b r)
def newLs (b : Nat) : List Nat → List (Nat × Nat)
  | [] => []
  | n :: r => (n, b) :: newLs (b + 1) r
def cNew (S : CSp) (o : Oper) : List (Nat × Nat) := newNs S.names (nmBase o) (namesOf S.out.objs ++ (ownNames S.out.own ++ arrNames S.out.arrs))
def cFind (S : CSp) (o : Oper) (st : XSt) (vs : List XV) : List (Nat × Nat) × List (Nat × Nat) :=
  let σ := findO st.objs S.objs (findA S.args vs [], [])
  (σ.1 ++ cNew S o, σ.2 ++ newLs (3000000 + nmBase o) S.out.labs)
def isNilL {α : Type} : List α → Bool
  | [] => true
  | _ => false
def datL : List XV → Bool
  | [] => true
  | .d _ :: r => datL r
  | _ => false
theorem datL_mp {f fl : Nat → Nat} : ∀ {l : List XV}, datL l = true → mpL f fl l = l
  | [], _ => rfl
  | .d x :: r, h => by
    have := datL_mp (f := f) (fl := fl) (l := r) h
    simp only [mpL, XV.mp, this]
  | .nm _ _ :: _, h => by simp [datL] at h
  | .tip _ _ _ _ :: _, h => by simp [datL] at h
  | .tup _ :: _, h => by simp [datL] at h
  | .agg _ :: _, h => by simp [datL] at h
  | .clo _ _ :: _, h => by simp [datL] at h
  | .os _ _ _ _ :: _, h => by simp [datL] at h
  | .el _ _ _ _ :: _, h => by simp [datL] at h
  | .tpt _ _ _ _ :: _, h => by simp [datL] at h
theorem datL_areData : ∀ {l : List XV}, datL l = true → areData (asOf l) = true
  | [], _ => rfl
  | .d x :: r, h => by
    have := datL_areData (l := r) h
    simp only [asOf, XV.a, areData, isData, this, Bool.and_self]
  | .nm _ _ :: _, h => by simp [datL] at h
  | .tip _ _ _ _ :: _, h => by simp [datL] at h
  | .tup _ :: _, h => by simp [datL] at h
  | .agg _ :: _, h => by simp [datL] at h
  | .clo _ _ :: _, h => by simp [datL] at h
  | .os _ _ _ _ :: _, h => by simp [datL] at h
  | .el _ _ _ _ :: _, h => by simp [datL] at h
  | .tpt _ _ _ _ :: _, h => by simp [datL] at h
def cOut {R : Type} (P : Program) (fn : Func) (S : CSp) (f fl : Nat → Nat) (nw : List Nat) (st : XSt) (rd : List (Operand × XV)) (xs : List XV) (inO : List (Nat × XOb)) (K : Out → Option R) (y : S.out.T) : Option R :=
  match xres P (gen (S.s0 xs inO) S.out y) fn.results.toList with
  | some rs => cond (datL (xs.drop S.n)) (
    cond (cChk S f fl (nw ++ (gen (S.s0 xs inO) S.out y).live.map fl) st xs inO (gen (S.s0 xs inO) S.out y).objs (gen (S.s0 xs inO) S.out y).live (tupX rs))
      (cond (cond (isNilL (outW S.out y)) (cond (isNilL (nw ++ (gen (S.s0 xs inO) S.out y).live.map fl)) (isNilL S.labs) false) false)
        (K ⟨.look (S.names.map f), (tupX rs).mp f fl, rd, st.objs, st.live, [], []⟩)
        (K ⟨.all, (tupX rs).mp f fl, rd, putXs f fl (outW S.out y) st.objs, liveAfter fl st.X ⟨[], S.labs⟩ ⟨[], (gen (S.s0 xs inO) S.out y).live⟩, nw ++ (gen (S.s0 xs inO) S.out y).live.map fl, (outW S.out y).map fun p => f p.1⟩)) none) none
  | none => none
def forceP {R : Type} : List (Nat × Nat) → (List (Nat × Nat) → R) → R
  | [], K => K []
  | p :: r, K => forceP r fun r' => K ((p.1, p.2) :: r')
theorem forceP_eq {R : Type} : ∀ (l : List (Nat × Nat)) (K : List (Nat × Nat) → R), forceP l K = K l
  | [], K => rfl
  | p :: r, K => by
    simp only [forceP]
    rw [forceP_eq r]
def cCore {R : Type} (P : Program) (fn : Func) (S : CSp) (F : S.Fun (Option S.out.T)) (o : Oper) (st : XSt) (rd : List XV → List (Operand × XV)) (vs : List XV) (K : Out → Option R) : Option R :=
  forceP (cFind S o st vs).1 fun σ => forceP (cFind S o st vs).2 fun τ =>
    appAs (nf σ) S.args F vs [] fun F' xs =>
      appOs (nf σ) (nf τ) S.out.keepO st.objs S.objs F' [] fun F'' os =>
        appRs (nf σ) st.objs S.arrs F'' os fun F3 os' =>
          Option.bind F3 fun y => cOut P fn S (nf σ) (nf τ) ((cNew S o).map (·.2)) st (rd (mpL (nf σ) (nf τ) xs)) xs os' K y
def cRun {R : Type} (P : Program) (fn : Func) (S : CSp) (F : S.Fun (Option S.out.T)) (o : Oper) (st : XSt) (vs : List XV) (K : Out → Option R) : Option R :=
  cond (Nat.beq (callArgs o).length S.n) (match xevals st (gops S.gids) with
    | some us => cCore P fn S F o st (fun ms => (appL (callArgs o) (gops S.gids)).zip ms) (appL vs us) K
    | none => none) none
def calleeOp (o : Oper) : Operand :=
  match o.op with
  | .call c => match c.callee with
    | .value x => x
    | _ => .const undef
  | _ => .const undef
def cRunC {R : Type} (P : Program) (id : FuncId) (fn : Func) (S : CSp) (F : S.Fun (Option S.out.T)) (o : Oper) (st : XSt) (caps vs : List XV) (K : Out → Option R) : Option R :=
  cond (cond (nmOnly caps) (cond (isNilL S.gids) (Nat.beq S.n (vs.length + caps.length)) false) false) (cCore P fn S F o st (fun ms => (calleeOp o, .clo id caps) :: (callArgs o).zip ms) (vs ++ caps) K) none
theorem isNilL_eq {α : Type} {l : List α} (h : isNilL l = true) : l = [] := by cases l <;> simp [isNilL] at h; rfl
theorem cOut_ok {P : Program} {R : Type} {id : FuncId} {fn : Func} {S : CSp} {f fl : Nat → Nat} {nw : List Nat} {st : XSt} {rd : List (Operand × XV)} {xs : List XV} {inO : List (Nat × XOb)} {K : Out → Option R} {y : S.out.T} {r : R} {o : Oper}
    (hg : GoodC P id fn S y xs inO) (hin : ∀ p ∈ inO, InR f fl S.out.keepO st.objs p) (hsee : ∀ p ∈ imRd rd, Sees st.im p.1 p.2)
    (H : ∀ (rs : List XV) (F : List Nat) (Y : Store), datL (xs.drop S.n) = true → DoesH P id (asOf (xs.take S.n)) (S.gids.zip (asOf (xs.drop S.n))) ⟨imObjs inO, S.labs⟩ (tupX rs).a (gen (S.s0 xs inO) S.out y).X → nmsL S.names S.labs xs = true → inO.map (·.1) = S.names → (tupX rs).nms ((gen (S.s0 xs inO) S.out y).objs.map (·.1)) (gen (S.s0 xs inO) S.out y).live = true → LabCall Y ⟨imObjs inO, S.labs⟩ (gen (S.s0 xs inO) S.out y).X f fl F →
      OpT P o (imRd rd) Y ⟨putObjsL f fl (gen (S.s0 xs inO) S.out y).X.objs Y.objs, liveAfter fl Y ⟨imObjs inO, S.labs⟩ (gen (S.s0 xs inO) S.out y).X⟩ F ((tupX rs).mp f fl).a)
    (h : cOut P fn S f fl nw st rd xs inO K y = some r) : ∃ out, K out = some r ∧ OpOk P o st out := by
  unfold cOut at h
  split at h
  · rename_i rs hrs
    cases hdat : datL (xs.drop S.n) with
    | false => rw [hdat] at h; cases h
    | true =>
    rw [hdat, cond_true] at h
    generalize hchk : cChk S f fl (nw ++ (gen (S.s0 xs inO) S.out y).live.map fl) st xs inO (gen (S.s0 xs inO) S.out y).objs (gen (S.s0 xs inO) S.out y).live (tupX rs) = b at h
    cases b with
    | false => cases h
    | true =>
      have hc := cChk_spec hchk
      simp only [cond_true] at h
      obtain ⟨hnm, hdoes⟩ := hg
      have hd := hdoes rs hrs
      have core : ∀ X : Store, (∀ p ∈ inO, ∃ o, X.objs.lookup (f p.1) = some o ∧ ObLe o (p.2.mp f fl).o ∧ (inl p.1 S.out.keepO = true → o = (p.2.mp f fl).o)) →
          (∀ p ∈ (gen (S.s0 xs inO) S.out y).objs, p.1 ∈ S.names ∨ (f p.1 ∈ (nw ++ (gen (S.s0 xs inO) S.out y).live.map fl) ∧ X.objs.lookup (f p.1) = none)) →
          objsFree (nw ++ (gen (S.s0 xs inO) S.out y).live.map fl) ⟨putObjsL f fl (imObjs inO) X.objs, X.live⟩ = true → (∀ x ∈ S.labs.map fl, x ∈ X.live) → (∀ n ∈ (gen (S.s0 xs inO) S.out y).live, fl n ∈ X.live → fl n ∈ S.labs.map fl) →
          OpT P o (imRd rd) X ⟨putObjsL f fl (imObjs (outW S.out y)) X.objs, liveAfter fl X ⟨imObjs inO, S.labs⟩ (gen (S.s0 xs inO) S.out y).X⟩ (nw ++ (gen (S.s0 xs inO) S.out y).live.map fl) ((tupX rs).mp f fl).a := by
        intro X h1 h2 h3 h4 h5
        exact call_core hc hnm h1 h2 h3 h4 h5 (fun Y hY => H rs _ Y hdat hd hc.xsn hnm hc.resn hY)
      cases hlook : (cond (isNilL (outW S.out y)) (cond (isNilL (nw ++ (gen (S.s0 xs inO) S.out y).live.map fl)) (isNilL S.labs) false) false) with
      | true =>
        rw [hlook] at h
        simp only [cond_true] at h
        have hl : outW S.out y = [] ∧ nw ++ (gen (S.s0 xs inO) S.out y).live.map fl = [] ∧ S.labs = [] := by
          cases e1 : isNilL (outW S.out y) with
          | false => simp [e1] at hlook
          | true =>
            cases e2 : isNilL (nw ++ (gen (S.s0 xs inO) S.out y).live.map fl) with
            | false => simp [e1, e2] at hlook
            | true => simp only [e1, e2, cond_true] at hlook; exact ⟨isNilL_eq e1, isNilL_eq e2, isNilL_eq hlook⟩
        obtain ⟨w1, w2, w3⟩ := hl
        refine ⟨_, h, ⟨hsee, ⟨rfl, rfl, rfl, fun X hX => ?_⟩, fun _ _ _ h => h⟩⟩
        have hlv : (gen (S.s0 xs inO) S.out y).live = [] := by
          have := (List.append_eq_nil_iff.1 w2).2
          simpa using this
        have hlk : ∀ p ∈ inO, X.objs.lookup (f p.1) = st.X.objs.lookup (f p.1) := fun p hp => hX _ (List.mem_map.2 ⟨p.1, by rw [← hnm]; exact List.mem_map_of_mem (f := fun p : Nat × XOb => p.1) hp, rfl⟩)
        have c1 := core X (fun p hp => by
            obtain ⟨o, h1, h2, h3⟩ := hin p hp
            exact ⟨o.o, by rw [hlk p hp]; exact lk_imA h1, h2, h3⟩) (fun p hp => by
            rcases hc.new p hp with h | ⟨h, _⟩
            · exact .inl h
            · rw [w2] at h; cases h) (by rw [w2]; rfl) (by rw [w3]; simp) (by rw [hlv]; simp)
        rw [w2, w1] at c1
        have e : liveAfter fl X ⟨imObjs inO, S.labs⟩ (gen (S.s0 xs inO) S.out y).X = X.live := by
          unfold liveAfter
          show (gen (S.s0 xs inO) S.out y).live.map fl ++ _ = _
          rw [hlv, w3]
          simp
        rw [e] at c1
        exact c1
      | false =>
        rw [hlook] at h
        simp only [cond_false] at h
        refine ⟨_, h, ⟨hsee, ?_, fun j x hj hx => ?_⟩⟩
        · have c1 := core st.X (fun p hp => by
              obtain ⟨o, h1, h2, h3⟩ := hin p hp
              exact ⟨o.o, lk_imA h1, h2, h3⟩) (fun p hp => by
              rcases hc.new p hp with h | ⟨h, h'⟩
              · exact .inl h
              · refine .inr ⟨h, ?_⟩
                show (imObjs st.objs).lookup _ = none
                rw [im_objs, h']; rfl) (by
              have := objsFreeX_ok (live := st.live) hc.free
              rw [putXs_im] at this
              exact this) hc.l1 hc.l5
          have e1 : imObjs (putXs f fl (outW S.out y) st.objs) = putObjsL f fl (imObjs (outW S.out y)) st.X.objs := putXs_im _ _ _ _
          show OpT P o (imRd rd) st.X ⟨imObjs (putXs f fl (outW S.out y) st.objs), _⟩ _ _
          rw [e1]
          exact c1
        · rw [putXs_other] at hx
          · exact hx
          · intro p hp e
            exact hj (List.mem_map.2 ⟨p, hp, e⟩)
  · cases h
theorem zip_take {α β : Type} : ∀ (a : List α) (b c : List β), a.length = b.length → a.zip (b ++ c) = a.zip b
  | [], b, c, h => by simp
  | x :: a, [], c, h => by simp at h
  | x :: a, y :: b, c, h => by simp only [List.cons_append, List.zip_cons_cons]; rw [zip_take a b c (by simpa using h)]
theorem nmsL_take {ks ls : List Nat} : ∀ {l : List XV} (n : Nat), nmsL ks ls l = true → nmsL ks ls (l.take n) = true
  | [], n, _ => by simp [nmsL]
  | x :: r, 0, _ => rfl
  | x :: r, n + 1, h => by
    simp only [nmsL] at h
    cases hx : x.nms ks ls with
    | false => simp [hx] at h
    | true =>
      simp only [hx, cond_true] at h
      simp only [List.take_succ_cons, nmsL, hx, cond_true]
      exact nmsL_take n h
theorem cRun_ok {P : Program} {R : Type} {id : FuncId} {fn : Func} {S : CSp} {F : S.Fun (Option S.out.T)} (hc : CallI P id) (hs : SndC P id fn S F) {o : Oper} {st : XSt} {aops : Array Operand} {ts : Array TypeId} {vs : List XV} {K : Out → Option R} {r : R}
    (ho : o.op = .call { callee := .value (.func id), args := aops, argTypes := ts }) (hv : xevals st aops.toList = some vs) (h : cRun P fn S F o st vs K = some r) : ∃ out, K out = some r ∧ OpOk P o st out := by
  have e : callArgs o = aops.toList := by simp [callArgs, ho]
  unfold cRun at h
  rw [e] at h
  cases hb : Nat.beq aops.toList.length S.n with
  | false => rw [hb] at h; cases h
  | true =>
  have hn : aops.toList.length = S.n := Nat.eq_of_beq_eq_true hb
  rw [hb, cond_true] at h
  split at h
  · rename_i us hus
    rw [appL_eq, appL_eq, gops_map] at h
    rw [gops_map] at hus
    unfold cCore at h
    rw [forceP_eq, forceP_eq] at h
    generalize (cFind S o st (vs ++ us)).1 = σ at h
    generalize (cFind S o st (vs ++ us)).2 = τ at h
    obtain ⟨F', xs, q1, a1, h⟩ := appAs_ok (fl := nf τ) S.args F (vs ++ us) [] [] hs .nil h
    obtain ⟨F'', os, q2, a2, h⟩ := appOs_ok S.objs F' [] q1 (by simp) h
    obtain ⟨F3, os', q3, a3, h⟩ := appRs_ok (fl := nf τ) (ko := S.out.keepO) S.arrs F'' os q2 a2 h
    obtain ⟨y, hy, h⟩ := Option.bind_eq_some_iff.1 h
    rw [List.nil_append] at a1
    refine cOut_ok (q3 y hy) a3 (a1.sees (xevals_append hv hus)) ?_ h
    intro rs Fr Y hdat hd hx hnm hr hlab
    have hxl : xs.length = aops.toList.length + (S.gids.map Operand.global).length := by
      have h1 := a1.length
      have h2 := xevals_len (xevals_append hv hus)
      rw [@List.length_append _ aops.toList] at h2
      omega
    have htk : (xs.take S.n).length = aops.size := by
      rw [List.length_take, hxl]
      have : aops.toList.length = aops.size := by simp
      omega
    have := op_call_f_lab (X := Y) (gids := S.gids) (ys := asOf (xs.drop S.n)) (nf σ) (nf τ) Fr ho hc hd hlab (by rw [asOf_length, htk]) (by
        simp only [imObjs_names, hnm]
        refine nmsL_a ?_
        exact nmsL_take _ hx) (datL_areData hdat) (by
        have e : (gen (S.s0 xs os') S.out y).X.objs.map (·.1) = (gen (S.s0 xs os') S.out y).objs.map (·.1) := imObjs_names _
        rw [e]
        exact XV.nms_a hr)
    have hz : imRd ((aops.toList ++ S.gids.map Operand.global).zip (mpL (nf σ) (nf τ) xs)) = aops.toList.zip (mapLs (nf σ) (nf τ) (asOf (xs.take S.n))) ++ (S.gids.map Operand.global).zip (asOf (xs.drop S.n)) := by
      conv => lhs; rw [← List.take_append_drop S.n xs]
      rw [mpL_append, datL_mp hdat, List.zip_append (by rw [mpL_map, List.length_map, htk]; simp), imRd_append, imRd_zip, imRd_zip, mpL_a]
    rw [hz, ← XV.mp_a] at *
    exact this
  · cases h
theorem cRunC_ok {P : Program} {R : Type} {id : FuncId} {fn : Func} {S : CSp} {F : S.Fun (Option S.out.T)} (hc : CallI P id) (hs : SndC P id fn S F) {o : Oper} {st : XSt} {t : Tmp} {aops : Array Operand} {ts : Array TypeId} {caps vs : List XV} {K : Out → Option R} {r : R}
    (ho : o.op = .call { callee := .value (.tmp t), args := aops, argTypes := ts }) (hclo : xeval st (.tmp t) = some (.clo id caps)) (hv : xevals st aops.toList = some vs) (h : cRunC P id fn S F o st caps vs K = some r) : ∃ out, K out = some r ∧ OpOk P o st out := by
  have e : callArgs o = aops.toList := by simp [callArgs, ho]
  have e2 : calleeOp o = .tmp t := by simp [calleeOp, ho]
  unfold cRunC cCore at h
  cases hnmo : nmOnly caps with
  | false => simp [hnmo] at h
  | true =>
  cases hgn : isNilL S.gids with
  | false => simp [hnmo, hgn] at h
  | true =>
  have hgids := isNilL_eq hgn
  cases hbn : Nat.beq S.n (vs.length + caps.length) with
  | false => simp [hnmo, hgn, hbn] at h
  | true =>
  simp only [hnmo, hgn, hbn, cond_true] at h
  rw [e, e2, forceP_eq, forceP_eq] at h
  generalize (cFind S o st (vs ++ caps)).1 = σ at h
  generalize (cFind S o st (vs ++ caps)).2 = τ at h
  obtain ⟨F', xs, q1, a1, h⟩ := appAs_ok (fl := nf τ) S.args F (vs ++ caps) [] [] hs .nil h
  obtain ⟨F'', os, q2, a2, h⟩ := appOs_ok S.objs F' [] q1 (by simp) h
  obtain ⟨F3, os', q3, a3, h⟩ := appRs_ok (fl := nf τ) (ko := S.out.keepO) S.arrs F'' os q2 a2 h
  obtain ⟨y, hy, h⟩ := Option.bind_eq_some_iff.1 h
  rw [List.nil_append] at a1
  have a1' := a1
  obtain ⟨xa, xc, rfl, a4, a5⟩ := a1.split
  have hcaps := a5.caps hnmo
  have hlen : aops.toList.length = (mpL (nf σ) (nf τ) xa).length := by
    rw [mpL_map, List.length_map, ← a4.length, xevals_len hv]
  rw [mpL_append, zip_take _ _ _ hlen] at h
  have hSn : S.n = (xa ++ xc).length := by
    have h1 := a1.length
    have h2 := Nat.eq_of_beq_eq_true hbn
    simp only [List.length_append] at h1 ⊢
    omega
  refine cOut_ok (q3 y hy) a3 ?_ ?_ h
  · intro p hp
    simp only [imRd, List.map_cons, List.mem_cons] at hp
    rcases hp with rfl | hp
    · exact xeval_sees (x := .tmp t) hclo
    · exact a4.sees hv p hp
  · intro rs Fr Y hdat hd hx hnm hr hlab
    rw [hSn, List.take_length, List.drop_length, hgids] at hd
    rw [asOf_append] at hd
    have := op_call_clo_lab (X := Y) (nf σ) (nf τ) Fr ho hc hd.plain hlab (by
        have h1 := a4.length
        have h2 := xevals_len hv
        rw [asOf_length, ← h1, h2]; simp) (by
        simp only [imObjs_names, hnm]
        have := nmsL_a hx
        rw [asOf_append] at this
        exact this) (by
        have e : (gen (S.s0 (xa ++ xc) os') S.out y).X.objs.map (·.1) = (gen (S.s0 (xa ++ xc) os') S.out y).objs.map (·.1) := imObjs_names _
        rw [e]
        exact XV.nms_a hr)
    rw [← mpL_a, ← mpL_a, ← hcaps, ← imRd_zip, ← XV.mp_a] at this
    exact this
def mkCS {P : Program} (id : FuncId) (fn : Func) (S : CSp) (F : S.Fun (Option S.out.T)) (hc : CallI P id) (hs : SndC P id fn S F) : Ent P where
  id := id
  run := cRun P fn S F
  ok := by
    intro R o st aops ts vs K r ho hv h
    exact cRun_ok hc hs ho hv h
  crun := cRunC P id fn S F
  cok := by
    intro R o st t caps aops ts vs K r ho hclo hv h
    exact cRunC_ok hc hs ho hclo hv h
def mkC {P : Program} {Γ : List (Ent P)} {own : List Nat} {N : Nat} (id : FuncId) (fn : Func) (an : An) (S : CSp) (F : S.Fun (Option S.out.T)) (hm : P.follows .mixedOrders = true) (hf : P.funcs[id]? = some fn)
    (hc : CallI P id) (hn : Nat.ble S.args.length fn.ntmps = true) (hsm : smallL S.names = true) (hks : noKeepS S = true) (hE : runC P Γ own N fn an S = F) : Ent P :=
  mkCS id fn S F hc (hE ▸ runC_sound hm hf hn hsm hks)
end Go.Xl
