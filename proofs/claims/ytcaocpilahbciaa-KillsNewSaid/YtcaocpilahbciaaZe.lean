import Derived.Test.YtcaocpilahbciaaZd
import Derived.KernelRfl
import Derived.Test.YtcaocpilahbciaaZc
/-
  Such functions, called.
-/
set_option linter.unusedVariables false
set_option linter.unusedSimpArgs false
set_option linter.unnecessarySimpa false
namespace Go.Xl
open Go.Ab

/-! what the caller has, held against what the callee asks -/

def isPtr (k off : Nat) : XV → Bool
  | .nm k' (.p off') => cond (Nat.beq k' k) (Nat.beq off' off) false
  | _ => false

theorem isPtr_eq {k off : Nat} {v : XV} (h : isPtr k off v = true) : v = .nm k (.p off) := by
  unfold isPtr at h
  split at h
  · rename_i k' off'
    cases h1 : Nat.beq k' k with
    | false => simp [h1] at h
    | true =>
      simp only [h1, cond_true] at h
      rw [Nat.eq_of_beq_eq_true h1, Nat.eq_of_beq_eq_true h]
  · cases h

def osOf (k : Nat) (t : Ty) : XV → Option Nat
  | .os k' t' a n => cond (Nat.beq k' k) (cond (t'.eqb t) (cond (Nat.beq a 0) (some n) none) none) none
  | _ => none

theorem osOf_eq {k : Nat} {t : Ty} {v : XV} {n : Nat} (h : osOf k t v = some n) : v = .os k t 0 n := by
  unfold osOf at h
  split at h
  · rename_i k' t' a m
    cases h1 : Nat.beq k' k with
    | false => simp [h1] at h
    | true =>
    cases h2 : t'.eqb t with
    | false => simp [h1, h2] at h
    | true =>
    cases h3 : Nat.beq a 0 with
    | false => simp [h1, h2, h3] at h
    | true =>
      simp only [h1, h2, h3, cond_true, Option.some.injEq] at h
      rw [Nat.eq_of_beq_eq_true h1, Ty.eqb_eq h2, Nat.eq_of_beq_eq_true h3, h]
  · cases h

def capsEq (f : Nat → Nat) : List (Nat × Nat) → List XV → Bool
  | [], [] => true
  | p :: ps, c :: cs => cond (isPtr (f p.1) p.2 c) (capsEq f ps cs) false
  | _, _ => false

theorem capsEq_eq {f fl : Nat → Nat} : ∀ {ps : List (Nat × Nat)} {cs : List XV}, capsEq f ps cs = true → cs = mpL f fl (psX ps)
  | [], [], _ => rfl
  | [], _ :: _, h => by simp [capsEq] at h
  | _ :: _, [], h => by simp [capsEq] at h
  | p :: ps, c :: cs, h => by
    simp only [capsEq] at h
    cases h1 : isPtr (f p.1) p.2 c with
    | false => simp [h1] at h
    | true =>
      simp only [h1, cond_true] at h
      have e := capsEq_eq (fl := fl) h
      rw [isPtr_eq h1, e]
      rfl

def isCloP (f : Nat → Nat) (g : Nat) (ps : List (Nat × Nat)) : XV → Bool
  | .clo g' caps => cond (Nat.beq g' g) (capsEq f ps caps) false
  | _ => false

theorem isCloP_eq {f fl : Nat → Nat} {g : Nat} {ps : List (Nat × Nat)} {v : XV} (h : isCloP f g ps v = true) : v = (XV.clo g (psX ps)).mp f fl := by
  unfold isCloP at h
  split at h
  · rename_i g' caps
    cases h1 : Nat.beq g' g with
    | false => simp [h1] at h
    | true =>
      simp only [h1, cond_true] at h
      rw [Nat.eq_of_beq_eq_true h1, capsEq_eq (fl := fl) h]
      rfl
  · cases h

/-- how the caller's arguments stand to the callee's -/
inductive ArgR (f fl : Nat → Nat) : List XV → List XV → Prop
  | nil : ArgR f fl [] []
  | dat {t : Ty} {v : XV} {y : t.T} {vs xs : List XV} : decXV t v = some y → ArgR f fl vs xs → ArgR f fl (v :: vs) (.d (t.xv y) :: xs)
  | same {v x : XV} {vs xs : List XV} : v = x.mp f fl → ArgR f fl vs xs → ArgR f fl (v :: vs) (x :: xs)

theorem ArgR.app {f fl : Nat → Nat} {a b c d : List XV} (h : ArgR f fl a b) (h' : ArgR f fl c d) : ArgR f fl (a ++ c) (b ++ d) := by
  induction h with
  | nil => exact h'
  | dat h1 _ ih => exact .dat h1 ih
  | same h1 _ ih => exact .same h1 ih

theorem ArgR.length {f fl : Nat → Nat} {a b : List XV} (h : ArgR f fl a b) : a.length = b.length := by
  induction h with
  | nil => rfl
  | dat _ _ ih => simp [ih]
  | same _ _ ih => simp [ih]

theorem ArgR.split {f fl : Nat → Nat} : ∀ {a c xs : List XV}, ArgR f fl (a ++ c) xs → ∃ b d, xs = b ++ d ∧ ArgR f fl a b ∧ ArgR f fl c d
  | [], c, xs, h => ⟨[], xs, rfl, .nil, h⟩
  | v :: a, c, xs, h => by
    rw [List.cons_append] at h
    cases h with
    | dat h1 h2 =>
      obtain ⟨b, d, rfl, h3, h4⟩ := ArgR.split h2
      exact ⟨_ :: b, d, rfl, .dat h1 h3, h4⟩
    | same h1 h2 =>
      obtain ⟨b, d, rfl, h3, h4⟩ := ArgR.split h2
      exact ⟨_ :: b, d, rfl, .same h1 h3, h4⟩

def nmOnly : List XV → Bool
  | [] => true
  | .nm _ _ :: r => nmOnly r
  | _ :: _ => false

theorem ArgR.caps {f fl : Nat → Nat} : ∀ {cs xs : List XV}, ArgR f fl cs xs → nmOnly cs = true → cs = mpL f fl xs
  | [], xs, h, _ => by cases h; rfl
  | v :: cs, xs, h, hn => by
    cases v with
    | nm k p =>
      simp only [nmOnly] at hn
      cases h with
      | dat h1 h2 => simp [decXV] at h1
      | same h1 h2 => rw [h1, ArgR.caps h2 hn]; rfl
    | _ => simp [nmOnly] at hn

theorem ArgR.sees {f fl : Nat → Nat} {st : XSt} : ∀ {ops : List Operand} {vs xs : List XV}, xevals st ops = some vs → ArgR f fl vs xs → ∀ p ∈ imRd (ops.zip (mpL f fl xs)), Sees st.im p.1 p.2
  | [], vs, xs, hv, h => by simp [imRd]
  | x :: ops, [], xs, hv, h => by have := xevals_len hv; simp at this
  | x :: ops, v :: vs, xs, hv, h => by
    obtain ⟨hx, hvs⟩ := xevals_cons hv
    cases h with
    | dat h1 h2 =>
      intro p hp
      simp only [mpL, List.zip_cons_cons, imRd, List.map_cons, List.mem_cons] at hp
      rcases hp with rfl | hp
      · exact decXV_sees hx h1
      · exact ArgR.sees hvs h2 p hp
    | same h1 h2 =>
      intro p hp
      simp only [mpL, List.zip_cons_cons, imRd, List.map_cons, List.mem_cons] at hp
      rcases hp with rfl | hp
      · rw [← h1]; exact xeval_sees hx
      · exact ArgR.sees hvs h2 p hp

def appAs {β R : Type} (f : Nat → Nat) : (l : List AS) → CurA l β → List XV → List XV → (β → List XV → Option R) → Option R
  | [], F, [], acc, K => K F acc
  | .d t :: r, F, v :: vs, acc, K => match decXV t v with
    | some y => appAs f r (F y) vs (acc ++ [.d (t.xv y)]) K
    | none => none
  | .p k off :: r, F, v :: vs, acc, K => cond (isPtr (f k) off v) (appAs f r F vs (acc ++ [.nm k (.p off)]) K) none
  | .os k t :: r, F, v :: vs, acc, K => match osOf (f k) t v with
    | some n => appAs f r (F n) vs (acc ++ [.os k t 0 n]) K
    | none => none
  | .clo g ps :: r, F, v :: vs, acc, K => cond (isCloP f g ps v) (appAs f r F vs (acc ++ [.clo g (psX ps)]) K) none
  | _, _, _, _, _ => none

theorem appAs_ok {β R : Type} {Q : β → List XV → Prop} {f fl : Nat → Nat} {K : β → List XV → Option R} {r : R} : ∀ (l : List AS) (F : CurA l β) (vs us acc : List XV), GndA Q l F acc → ArgR f fl us acc → appAs f l F vs acc K = some r →
    ∃ F' xs, Q F' xs ∧ ArgR f fl (us ++ vs) xs ∧ K F' xs = some r
  | [], F, [], us, acc, hg, hr, h => ⟨F, acc, hg, by simpa using hr, h⟩
  | [], F, _ :: _, us, acc, hg, hr, h => by simp [appAs] at h
  | .d t :: l, F, [], us, acc, hg, hr, h => by simp [appAs] at h
  | .p k off :: l, F, [], us, acc, hg, hr, h => by simp [appAs] at h
  | .os k t :: l, F, [], us, acc, hg, hr, h => by simp [appAs] at h
  | .clo g ps :: l, F, [], us, acc, hg, hr, h => by simp [appAs] at h
  | .d t :: l, F, v :: vs, us, acc, hg, hr, h => by
    simp only [appAs] at h
    split at h
    · rename_i y hy
      obtain ⟨F', xs, h1, h2, h3⟩ := appAs_ok l (F y) vs (us ++ [v]) _ (hg y) (hr.app (.dat hy .nil)) h
      exact ⟨F', xs, h1, by simpa using h2, h3⟩
    · cases h
  | .p k off :: l, F, v :: vs, us, acc, hg, hr, h => by
    simp only [appAs] at h
    cases hp : isPtr (f k) off v with
    | false => simp [hp] at h
    | true =>
      simp only [hp, cond_true] at h
      obtain ⟨F', xs, h1, h2, h3⟩ := appAs_ok l F vs (us ++ [v]) (acc ++ [.nm k (.p off)]) hg (hr.app (.same (x := .nm k (.p off)) (isPtr_eq hp) .nil)) h
      exact ⟨F', xs, h1, by simpa using h2, h3⟩
  | .os k t :: l, F, v :: vs, us, acc, hg, hr, h => by
    simp only [appAs] at h
    split at h
    · rename_i n hn
      obtain ⟨F', xs, h1, h2, h3⟩ := appAs_ok l (F n) vs (us ++ [v]) _ (hg n) (hr.app (.same (x := .os k t 0 n) (osOf_eq hn) .nil)) h
      exact ⟨F', xs, h1, by simpa using h2, h3⟩
    · cases h
  | .clo g ps :: l, F, v :: vs, us, acc, hg, hr, h => by
    simp only [appAs] at h
    cases hp : isCloP f g ps v with
    | false => simp [hp] at h
    | true =>
      simp only [hp, cond_true] at h
      obtain ⟨F', xs, h1, h2, h3⟩ := appAs_ok l F vs (us ++ [v]) (acc ++ [.clo g (psX ps)]) hg (hr.app (.same (isCloP_eq hp) .nil)) h
      exact ⟨F', xs, h1, by simpa using h2, h3⟩

/-! cells -/

/-- nothing that may stand for something else -/
def plainX : XD → Bool
  | .v _ => false
  | _ => true
def plainXs : List XD → Bool
  | [] => true
  | x :: r => cond (plainX x) (plainXs r) false

theorem plainXs_cons {x : XD} {r : List XD} (h : plainXs (x :: r) = true) : plainX x = true ∧ plainXs r = true := by
  simp only [plainXs] at h
  cases hx : plainX x with
  | false => simp [hx] at h
  | true => simp only [hx, cond_true] at h; exact ⟨rfl, h⟩

theorem dec_plain : ∀ (t : Ty) {cs : List XD} {x : t.T} {r : List XD}, plainXs cs = true → t.dec cs = some (x, r) → dsOf cs = t.ds x ++ dsOf r ∧ plainXs r = true := by
  intro t
  induction t with
  | int k =>
    intro cs x r hp h
    simp only [Ty.dec] at h
    unfold decI at h
    split at h
    · rename_i k' n r'
      cases hk : kindB k' k with
      | false => simp [hk] at h
      | true =>
        have := kindB_eq hk
        subst this
        simp only [hk, cond_true, Option.some.injEq, Prod.mk.injEq] at h
        obtain ⟨rfl, rfl⟩ := h
        exact ⟨rfl, (plainXs_cons hp).2⟩
    · rename_i x' r'
      cases hk : kindB .u8 k with
      | false => simp [hk] at h
      | true =>
        have := kindB_eq hk
        subst this
        simp only [hk, cond_true, Option.some.injEq, Prod.mk.injEq] at h
        obtain ⟨rfl, rfl⟩ := h
        exact ⟨rfl, (plainXs_cons hp).2⟩
    · cases h
  | u8 =>
    intro cs x r hp h
    simp only [Ty.dec] at h
    unfold decU8 at h
    split at h
    · cases h; exact ⟨rfl, (plainXs_cons hp).2⟩
    · cases h
  | bool =>
    intro cs x r hp h
    simp only [Ty.dec] at h
    unfold decB at h
    split at h
    · cases h; exact ⟨rfl, (plainXs_cons hp).2⟩
    · cases h
  | str =>
    intro cs x r hp h
    simp only [Ty.dec] at h
    unfold decS at h
    split at h
    · cases h; exact ⟨rfl, (plainXs_cons hp).2⟩
    · cases h
  | sl t ih =>
    intro cs x r hp h
    simp only [Ty.dec] at h
    unfold decL at h
    split at h
    · rename_i t' l r'
      split at h
      · rename_i ht
        have e := Ty.eqb_eq ht
        subst e
        cases h
        exact ⟨rfl, (plainXs_cons hp).2⟩
      · cases h
    · simp [plainXs, plainX] at hp
    · simp [plainXs, plainX] at hp
    · cases h
  | unit =>
    intro cs x r hp h
    simp [Ty.dec] at h
    subst h
    exact ⟨rfl, hp⟩
  | pair a b iha ihb =>
    intro cs x r hp h
    unfold Ty.dec at h
    split at h
    · rename_i p hpa
      split at h
      · rename_i q hq
        cases h
        obtain ⟨h1, h2⟩ := iha (x := p.1) (r := p.2) hp hpa
        obtain ⟨h3, h4⟩ := ihb (x := q.1) (r := q.2) h2 hq
        exact ⟨by rw [h1, h3]; simp [Ty.ds], h4⟩
      · cases h
    · cases h
  | st1 a iha =>
    intro cs x r hp h
    exact iha hp h

def tipOf (m : Nat) (t : Ty) (ty : Option TypeId) : XV → Option (List t.T)
  | .tip m' t' l ty' => cond (Nat.beq m' m) (cond (tyEqO ty' ty) (if h : t'.eqb t = true then some (Ty.eqb_eq h ▸ l) else none) none) none
  | _ => none

theorem tipOf_eq {m : Nat} {t : Ty} {ty : Option TypeId} {v : XV} {l : List t.T} (h : tipOf m t ty v = some l) : v = .tip m t l ty := by
  unfold tipOf at h
  split at h
  · rename_i m' t' l' ty'
    cases h1 : Nat.beq m' m with
    | false => simp [h1] at h
    | true =>
    cases h2 : tyEqO ty' ty with
    | false => simp [h1, h2] at h
    | true =>
      simp only [h1, h2, cond_true] at h
      split at h
      · rename_i ht
        have e := Ty.eqb_eq ht
        subst e
        cases h
        rw [Nat.eq_of_beq_eq_true h1, tyEqO_eq h2]
      · cases h
  · cases h

/-- how the caller's cells stand to the callee's -/
def CellR (f fl : Nat → Nat) (ex : Bool) (cs xs : List XV) : Prop := AsLe (asOf cs) (asOf (mpL f fl xs)) ∧ (ex = true → asOf cs = asOf (mpL f fl xs))

theorem AsLe.refl : ∀ (l : List AV), AsLe l l
  | [] => .nil
  | x :: r => .cons (.refl x) (AsLe.refl r)
theorem AsLe.append {a b c d : List AV} (h : AsLe a b) (h' : AsLe c d) : AsLe (a ++ c) (b ++ d) := by
  induction h with
  | nil => exact h'
  | cons h1 _ ih => exact .cons h1 ih

theorem mpL_append (f fl : Nat → Nat) (a b : List XV) : mpL f fl (a ++ b) = mpL f fl a ++ mpL f fl b := by simp [mpL_map]

theorem CellR.app {f fl : Nat → Nat} {ex : Bool} {a b c d : List XV} (h : CellR f fl ex a b) (h' : CellR f fl ex c d) : CellR f fl ex (a ++ c) (b ++ d) := by
  refine ⟨?_, fun e => ?_⟩
  · rw [asOf_append, mpL_append, asOf_append]; exact h.1.append h'.1
  · rw [asOf_append, mpL_append, asOf_append, h.2 e, h'.2 e]

theorem CellR.same {f fl : Nat → Nat} {ex : Bool} {v x : XV} (h : v = x.mp f fl) : CellR f fl ex [v] [x] := by
  subst h
  exact ⟨.refl _, fun _ => rfl⟩

theorem asOf_map_d (l : List XD) : asOf (l.map .d) = (dsOf l).map .d := by
  rw [asOf_map, dsOf_map]; simp [XV.a]

theorem mpL_map_d (f fl : Nat → Nat) (l : List XD) : mpL f fl (l.map .d) = l.map .d := by
  rw [mpL_map]; simp [XV.mp]

theorem DsLe.as {a b : List D} (h : DsLe a b) : AsLe (a.map .d) (b.map .d) := by
  induction h with
  | nil => exact .nil
  | cons h1 _ ih => exact .cons (ALe.d h1) ih

theorem CellR.data {f fl : Nat → Nat} {ex : Bool} {t : Ty} {ds : List XD} {y : t.T} (h : t.dec ds = some (y, [])) (hex : ex = true → plainXs ds = true) : CellR f fl ex (ds.map .d) ((t.enc y).map .d) := by
  refine ⟨?_, fun e => ?_⟩
  · obtain ⟨ds', h1, h2⟩ := t.dec_spec h
    rw [mpL_map_d, asOf_map_d, asOf_map_d, t.enc_ds]
    simp only [dsOf, List.append_nil] at h1
    rw [h1]
    exact h2.as
  · obtain ⟨h1, _⟩ := dec_plain t (hex e) h
    rw [mpL_map_d, asOf_map_d, asOf_map_d, t.enc_ds, h1]
    simp [dsOf]

def appCs {β R : Type} (f fl : Nat → Nat) (ex : Bool) : (l : List VK) → CurC l β → List XV → List XV → (β → List XV → Option R) → Option R
  | [], F, [], acc, K => K F acc
  | .d t :: r, F, cs, acc, K => match allX (cs.take t.size) with
    | some ds => cond (cond ex (plainXs ds) true) (match t.dec ds with
      | some (y, []) => appCs f fl ex r (F y) (cs.drop t.size) (acc ++ (t.enc y).map .d) K
      | _ => none) none
    | none => none
  | .p k off :: r, F, c :: cs, acc, K => cond (isPtr (f k) off c) (appCs f fl ex r F cs (acc ++ [.nm k (.p off)]) K) none
  | .tip n t ty :: r, F, c :: cs, acc, K => match tipOf (fl n) t ty c with
    | some l => appCs f fl ex r (F l) cs (acc ++ [.tip n t l ty]) K
    | none => none
  | _, _, _, _, _ => none

theorem appCs_ok {β R : Type} {Q : β → List XV → Prop} {f fl : Nat → Nat} {ex : Bool} {K : β → List XV → Option R} {r : R} : ∀ (l : List VK) (F : CurC l β) (cs us acc : List XV), GndC Q l F acc → CellR f fl ex us acc → appCs f fl ex l F cs acc K = some r →
    ∃ F' xs, Q F' xs ∧ CellR f fl ex (us ++ cs) xs ∧ K F' xs = some r
  | [], F, [], us, acc, hg, hr, h => ⟨F, acc, hg, by simpa using hr, h⟩
  | [], F, _ :: _, us, acc, hg, hr, h => by simp [appCs] at h
  | .p k off :: l, F, [], us, acc, hg, hr, h => by simp [appCs] at h
  | .tip n t ty :: l, F, [], us, acc, hg, hr, h => by simp [appCs] at h
  | .d t :: l, F, cs, us, acc, hg, hr, h => by
    unfold appCs at h
    split at h
    · rename_i ds hds
      have hex : ex = true → plainXs ds = true := by
        intro e
        subst e
        cases hp : plainXs ds with
        | true => rfl
        | false => simp [hp] at h
      have h : (match t.dec ds with
        | some (y, []) => appCs f fl ex l (F y) (cs.drop t.size) (acc ++ (t.enc y).map .d) K
        | _ => none) = some r := by
        cases hc : (cond ex (plainXs ds) true) with
        | true => simpa [hc] using h
        | false => simp [hc] at h
      split at h
      · rename_i y hy
        have e1 := allX_map hds
        have hrel := CellR.data (f := f) (fl := fl) (ex := ex) hy hex
        rw [← e1] at hrel
        obtain ⟨F', xs, h1, h2, h3⟩ := appCs_ok l (F y) (cs.drop t.size) (us ++ cs.take t.size) _ (hg y) (hr.app hrel) h
        refine ⟨F', xs, h1, ?_, h3⟩
        rw [List.append_assoc, List.take_append_drop] at h2
        exact h2
      · cases h
    · cases h
  | .p k off :: l, F, c :: cs, us, acc, hg, hr, h => by
    simp only [appCs] at h
    cases hp : isPtr (f k) off c with
    | false => simp [hp] at h
    | true =>
      simp only [hp, cond_true] at h
      obtain ⟨F', xs, h1, h2, h3⟩ := appCs_ok l F cs (us ++ [c]) (acc ++ [.nm k (.p off)]) hg (hr.app (.same (x := .nm k (.p off)) (isPtr_eq hp))) h
      exact ⟨F', xs, h1, by simpa using h2, h3⟩
  | .tip n t ty :: l, F, c :: cs, us, acc, hg, hr, h => by
    simp only [appCs] at h
    split at h
    · rename_i u hu
      obtain ⟨F', xs, h1, h2, h3⟩ := appCs_ok l (F u) cs (us ++ [c]) _ (hg u) (hr.app (.same (x := .tip n t u ty) (tipOf_eq hu))) h
      exact ⟨F', xs, h1, by simpa using h2, h3⟩
    · cases h

/-! objects -/

/-- how the caller's object stands to the callee's -/
def InR (f fl : Nat → Nat) (ko : List Nat) (objs : List (Nat × XOb)) (p : Nat × XOb) : Prop :=
  ∃ o, lk (f p.1) objs = some o ∧ ObLe o.o (p.2.mp f fl).o ∧ (inl p.1 ko = true → o.o = (p.2.mp f fl).o)

def appOs {β R : Type} (f fl : Nat → Nat) (ko : List Nat) (objs : List (Nat × XOb)) : (l : List (Nat × List VK × Option TypeId)) → CurO l β → List (Nat × XOb) → (β → List (Nat × XOb) → Option R) → Option R
  | [], F, acc, K => K F acc
  | p :: r, F, acc, K => match lk (f p.1) objs with
    | some (.cells cs ty) => cond (tyEqO ty p.2.2) (appCs f fl (inl p.1 ko) p.2.1 F cs [] fun F' xs => appOs f fl ko objs r F' (acc ++ [(p.1, .cells xs p.2.2)]) K) none
    | _ => none

theorem AsLe.obs {a b : List AV} {ty : Option TypeId} (h : AsLe a b) : ObLe (.cells a ty) (.cells b ty) := by
  refine .cells h.length (fun i x y hx hy => ?_) (.inl rfl)
  obtain ⟨x', hx', hle⟩ := h.get hy
  rw [hx] at hx'
  cases hx'
  exact hle

theorem appOs_ok {β R : Type} {Q : β → List (Nat × XOb) → Prop} {f fl : Nat → Nat} {ko : List Nat} {objs : List (Nat × XOb)} {K : β → List (Nat × XOb) → Option R} {r : R} : ∀ (l : List (Nat × List VK × Option TypeId)) (F : CurO l β) (acc : List (Nat × XOb)), GndO Q l F acc → (∀ p ∈ acc, InR f fl ko objs p) → appOs f fl ko objs l F acc K = some r →
    ∃ F' os, Q F' os ∧ (∀ p ∈ os, InR f fl ko objs p) ∧ K F' os = some r
  | [], F, acc, hg, hr, h => ⟨F, acc, hg, hr, h⟩
  | q :: l, F, acc, hg, hr, h => by
    simp only [appOs] at h
    split at h
    · rename_i cs ty hk
      cases ht : tyEqO ty q.2.2 with
      | false => simp [ht] at h
      | true =>
        simp only [ht, cond_true] at h
        have e := tyEqO_eq ht
        subst e
        obtain ⟨F', xs, h1, h2, h3⟩ := appCs_ok q.2.1 F cs [] [] hg ⟨.nil, fun _ => rfl⟩ h
        refine appOs_ok l F' _ h1 ?_ h3
        intro p hp
        rcases List.mem_append.1 hp with hp | hp
        · exact hr p hp
        · simp only [List.mem_singleton] at hp
          subst hp
          refine ⟨_, hk, ?_, fun hh => ?_⟩
          · simp only [XOb.o, XOb.mp]
            exact AsLe.obs h2.1
          · simp only [XOb.o, XOb.mp]
            have := h2.2 hh
            rw [List.nil_append] at this
            rw [this]
    · cases h

def appRs {β R : Type} (f : Nat → Nat) (objs : List (Nat × XOb)) : (l : List (Nat × Ty)) → CurR l β → List (Nat × XOb) → (β → List (Nat × XOb) → Option R) → Option R
  | [], F, acc, K => K F acc
  | p :: r, F, acc, K => match lk (f p.1) objs with
    | some (.arr u l) => if h : u.eqb p.2 = true then appRs f objs r (F (Ty.eqb_eq h ▸ l)) (acc ++ [(p.1, .arr p.2 (Ty.eqb_eq h ▸ l))]) K else none
    | _ => none

theorem appRs_ok {β R : Type} {Q : β → List (Nat × XOb) → Prop} {f fl : Nat → Nat} {ko : List Nat} {objs : List (Nat × XOb)} {K : β → List (Nat × XOb) → Option R} {r : R} : ∀ (l : List (Nat × Ty)) (F : CurR l β) (acc : List (Nat × XOb)), GndR Q l F acc → (∀ p ∈ acc, InR f fl ko objs p) → appRs f objs l F acc K = some r →
    ∃ F' os, Q F' os ∧ (∀ p ∈ os, InR f fl ko objs p) ∧ K F' os = some r
  | [], F, acc, hg, hr, h => ⟨F, acc, hg, hr, h⟩
  | q :: l, F, acc, hg, hr, h => by
    obtain ⟨qk, qt⟩ := q
    simp only [appRs] at h
    split at h
    · rename_i u us hk
      split at h
      · rename_i hu
        have e := Ty.eqb_eq hu
        subst e
        refine appRs_ok l _ _ (hg us) ?_ h
        intro p hp
        rcases List.mem_append.1 hp with hp | hp
        · exact hr p hp
        · simp only [List.mem_singleton] at hp
          subst hp
          exact ⟨_, hk, .refl _, fun _ => rfl⟩
      · cases h
    · cases h

end Go.Xl
/-
  Such functions, called: what comes out.
-/
set_option linter.unusedVariables false
set_option linter.unusedSimpArgs false
set_option linter.unnecessarySimpa false
namespace Go.Xl
open Go.Ab

/-- the objects that a cut writes anew -/
def outW (c : Cut) (y : c.T) : List (Nat × XOb) := genObjs c.objs y.2.1 ++ (genOwnO c.own y.2.2.1 ++ genArrs c.arrs y.2.2.2)

theorem gen_objs (s0 : XSt) (c : Cut) (y : c.T) : (gen s0 c y).objs = outW c y ++ keepObjs s0.objs c.keepO := by simp [gen, outW]

def newOk (ns : List Nat) (f : Nat → Nat) (F : List Nat) (objs : List (Nat × XOb)) : List (Nat × XOb) → Bool
  | [] => true
  | p :: r => cond (cond (inl p.1 ns) true (cond (inl (f p.1) F) (match lk (f p.1) objs with
    | none => true
    | some _ => false) false)) (newOk ns f F objs r) false

theorem newOk_spec {ns : List Nat} {f : Nat → Nat} {F : List Nat} {objs : List (Nat × XOb)} : ∀ {l : List (Nat × XOb)}, newOk ns f F objs l = true → ∀ p ∈ l, p.1 ∈ ns ∨ (f p.1 ∈ F ∧ lk (f p.1) objs = none)
  | [], _ => by simp
  | q :: r, h => by
    simp only [newOk] at h
    have hr : newOk ns f F objs r = true ∧ (q.1 ∈ ns ∨ (f q.1 ∈ F ∧ lk (f q.1) objs = none)) := by
      cases h1 : inl q.1 ns with
      | true => simp only [h1, cond_true] at h; exact ⟨h, .inl ((inl_eq _ _).1 h1)⟩
      | false =>
        cases h2 : inl (f q.1) F with
        | false => simp [h1, h2] at h
        | true =>
          cases h3 : lk (f q.1) objs with
          | some _ => simp [h1, h2, h3] at h
          | none => simp only [h1, h2, h3, cond_true, cond_false] at h; exact ⟨h, .inr ⟨(inl_eq _ _).1 h2, rfl⟩⟩
    intro p hp
    rcases List.mem_cons.1 hp with rfl | hp
    · exact hr.2
    · exact newOk_spec hr.1 p hp

def outNew (fl : Nat → Nat) (labs live : List Nat) : List Nat → Bool
  | [] => true
  | n :: r => cond (cond (inl (fl n) live) (inl (fl n) (labs.map fl)) true) (outNew fl labs live r) false

theorem outNew_spec {fl : Nat → Nat} {labs live : List Nat} : ∀ {l : List Nat}, outNew fl labs live l = true → ∀ n ∈ l, fl n ∈ live → fl n ∈ labs.map fl
  | [], _ => by simp
  | m :: r, h => by
    simp only [outNew] at h
    intro n hn hl
    cases h1 : inl (fl m) live with
    | false =>
      simp only [h1, cond_false, cond_true] at h
      rcases List.mem_cons.1 hn with rfl | hn
      · rw [(inl_eq _ _).2 hl] at h1; cases h1
      · exact outNew_spec h n hn hl
    | true =>
      cases h2 : inl (fl m) (labs.map fl) with
      | false => simp [h1, h2] at h
      | true =>
        simp only [h1, h2, cond_true] at h
        rcases List.mem_cons.1 hn with rfl | hn
        · exact (inl_eq _ _).1 h2
        · exact outNew_spec h n hn hl

def cChk (S : CSp) (f fl : Nat → Nat) (F : List Nat) (st : XSt) (xs : List XV) (inO s1o : List (Nat × XOb)) (s1l : List Nat) (res : XV) : Bool :=
  cond (nodupL S.names) (cond (nodupL (S.names.map f)) (cond (objsNms S.names S.labs inO) (cond (objsNms (s1o.map (·.1)) s1l s1o) (cond (nodupL (s1o.map fun p => f p.1)) (cond (newOk S.names f F st.objs s1o)
  (cond (subL S.names (s1o.map (·.1))) (cond (objsFreeX F (putXs f fl inO st.objs)) (cond (subL (S.labs.map fl) st.live) (cond (nodupL (S.labs.map fl)) (cond (nodupL (s1l.map fl)) (cond (subL (s1l.map fl) F)
  (cond (outNew fl S.labs st.live s1l) (cond (nmsL S.names S.labs xs) (res.nms (s1o.map (·.1)) s1l) false) false) false) false) false) false) false) false) false) false) false) false) false) false

structure CChk (S : CSp) (f fl : Nat → Nat) (F : List Nat) (st : XSt) (xs : List XV) (inO s1o : List (Nat × XOb)) (s1l : List Nat) (res : XV) : Prop where
  nd1 : S.names.Nodup
  nd2 : (S.names.map f).Nodup
  innm : objsNms S.names S.labs inO = true
  outnm : objsNms (s1o.map (·.1)) s1l s1o = true
  nd3 : (s1o.map fun p => f p.1).Nodup
  new : ∀ p ∈ s1o, p.1 ∈ S.names ∨ (f p.1 ∈ F ∧ lk (f p.1) st.objs = none)
  sub : ∀ x ∈ S.names, x ∈ s1o.map (·.1)
  free : objsFreeX F (putXs f fl inO st.objs) = true
  l1 : ∀ x ∈ S.labs.map fl, x ∈ st.live
  l2 : (S.labs.map fl).Nodup
  l3 : (s1l.map fl).Nodup
  l4 : ∀ x ∈ s1l.map fl, x ∈ F
  l5 : ∀ n ∈ s1l, fl n ∈ st.live → fl n ∈ S.labs.map fl
  xsn : nmsL S.names S.labs xs = true
  resn : res.nms (s1o.map (·.1)) s1l = true

theorem cChk_spec {S : CSp} {f fl : Nat → Nat} {F : List Nat} {st : XSt} {xs : List XV} {inO s1o : List (Nat × XOb)} {s1l : List Nat} {res : XV} (h : cChk S f fl F st xs inO s1o s1l res = true) : CChk S f fl F st xs inO s1o s1l res := by
  unfold cChk at h
  have c : ∀ {a b : Bool}, cond a b false = true → a = true ∧ b = true := by intro a b h; cases a <;> simp at h; exact ⟨rfl, h⟩
  obtain ⟨h1, h⟩ := c h
  obtain ⟨h2, h⟩ := c h
  obtain ⟨h3, h⟩ := c h
  obtain ⟨h4, h⟩ := c h
  obtain ⟨h5, h⟩ := c h
  obtain ⟨h6, h⟩ := c h
  obtain ⟨h7, h⟩ := c h
  obtain ⟨h8, h⟩ := c h
  obtain ⟨h9, h⟩ := c h
  obtain ⟨h10, h⟩ := c h
  obtain ⟨h11, h⟩ := c h
  obtain ⟨h12, h⟩ := c h
  obtain ⟨h13, h⟩ := c h
  obtain ⟨h14, h⟩ := c h
  exact ⟨nodupL_spec h1, nodupL_spec h2, h3, h4, nodupL_spec h5, newOk_spec h6, subL_spec h7, h8, subL_spec h9, nodupL_spec h10, nodupL_spec h11, subL_spec h12, outNew_spec h13, h14, h⟩

theorem im_mem {l : List (Nat × XOb)} {p : Nat × Ob} (h : p ∈ imObjs l) : ∃ q ∈ l, p = (q.1, q.2.o) := by
  unfold imObjs at h
  obtain ⟨q, hq, rfl⟩ := List.mem_map.1 h
  exact ⟨q, hq, rfl⟩

theorem putObjsL_im_other {f fl : Nat → Nat} {l : List (Nat × XOb)} {acc : List (Nat × Ob)} {j : Nat} (h : ∀ p ∈ l, f p.1 ≠ j) : (putObjsL f fl (imObjs l) acc).lookup j = acc.lookup j := by
  refine putObjsL_other _ _ j fun p hp => ?_
  obtain ⟨q, hq, rfl⟩ := im_mem hp
  exact h q hq

theorem putObjsL_im_mem {f fl : Nat → Nat} {l : List (Nat × XOb)} {acc : List (Nat × Ob)} {p : Nat × XOb} (hn : (l.map fun p => f p.1).Nodup) (h : p ∈ l) : (putObjsL f fl (imObjs l) acc).lookup (f p.1) = some (p.2.mp f fl).o := by
  have := putObjsL_mem (f := f) (fl := fl) (imObjs l) acc (p.1, p.2.o) (by simpa [imObjs, Function.comp_def] using hn) (List.mem_map_of_mem (f := fun p : Nat × XOb => (p.1, p.2.o)) h)
  rw [XOb.mp_o]
  exact this

theorem nodup_inj {α : Type} {l : List α} {f : α → Nat} (h : (l.map f).Nodup) {x y : α} (hx : x ∈ l) (hy : y ∈ l) (e : f x = f y) : x = y := nodup_map_inj h hx hy e

/-- one call -/
theorem call_core {P : Program} {o : Oper} {rd : List (Operand × AV)} {S : CSp} {f fl : Nat → Nat} {F : List Nat} {st : XSt} {xs : List XV} {inO : List (Nat × XOb)} {y : S.out.T} {res : XV} {X : Store}
    (hc : CChk S f fl F st xs inO (gen (S.s0 xs inO) S.out y).objs (gen (S.s0 xs inO) S.out y).live res) (hnm : inO.map (·.1) = S.names)
    (hin : ∀ p ∈ inO, ∃ o, X.objs.lookup (f p.1) = some o ∧ ObLe o (p.2.mp f fl).o ∧ (inl p.1 S.out.keepO = true → o = (p.2.mp f fl).o))
    (hnew : ∀ p ∈ (gen (S.s0 xs inO) S.out y).objs, p.1 ∈ S.names ∨ (f p.1 ∈ F ∧ X.objs.lookup (f p.1) = none))
    (hfree : objsFree F ⟨putObjsL f fl (imObjs inO) X.objs, X.live⟩ = true) (hl1 : ∀ x ∈ S.labs.map fl, x ∈ X.live) (hl5 : ∀ n ∈ (gen (S.s0 xs inO) S.out y).live, fl n ∈ X.live → fl n ∈ S.labs.map fl)
    (H : ∀ Y, LabCall Y ⟨imObjs inO, S.labs⟩ (gen (S.s0 xs inO) S.out y).X f fl F → OpT P o rd Y ⟨putObjsL f fl (gen (S.s0 xs inO) S.out y).X.objs Y.objs, liveAfter fl Y ⟨imObjs inO, S.labs⟩ (gen (S.s0 xs inO) S.out y).X⟩ F (res.mp f fl).a) :
    OpT P o rd X ⟨putObjsL f fl (imObjs (outW S.out y)) X.objs, liveAfter fl X ⟨imObjs inO, S.labs⟩ (gen (S.s0 xs inO) S.out y).X⟩ F (res.mp f fl).a := by
  generalize hs1 : gen (S.s0 xs inO) S.out y = s1 at *
  have hobjs : s1.objs = outW S.out y ++ keepObjs inO S.out.keepO := by rw [← hs1, gen_objs]; rfl
  have nd2 : (inO.map fun p => f p.1).Nodup := by
    have := hc.nd2
    rw [← hnm, List.map_map] at this
    exact this
  let Y : Store := ⟨putObjsL f fl (imObjs inO) X.objs, X.live⟩
  have yIn : ∀ p ∈ inO, Y.objs.lookup (f p.1) = some (p.2.mp f fl).o := fun p hp => putObjsL_im_mem nd2 hp
  have yOther : ∀ j, (∀ p ∈ inO, f p.1 ≠ j) → Y.objs.lookup j = X.objs.lookup j := fun j hj => putObjsL_im_other hj
  have yCases : ∀ j, (∃ p ∈ inO, f p.1 = j) ∨ ∀ p ∈ inO, f p.1 ≠ j := by
    intro j
    by_cases h : ∃ p ∈ inO, f p.1 = j
    · exact .inl h
    · exact .inr fun p hp e => h ⟨p, hp, e⟩
  have hle : ∀ k o', Y.objs.lookup k = some o' → ∃ o, X.objs.lookup k = some o ∧ ObLe o o' := by
    intro k o' ho
    rcases yCases k with ⟨p, hp, rfl⟩ | hn
    · rw [yIn p hp] at ho
      cases ho
      obtain ⟨o, h1, h2, _⟩ := hin p hp
      exact ⟨o, h1, h2⟩
    · rw [yOther k hn] at ho
      exact ⟨o', ho, .refl _⟩
  have hkk : ∀ k, (X.objs.lookup k).isSome → (Y.objs.lookup k).isSome := by
    intro k hk
    rcases yCases k with ⟨p, hp, rfl⟩ | hn
    · rw [yIn p hp]; rfl
    · rw [yOther k hn]; exact hk
  have hXn : s1.X.objs.map (·.1) = s1.objs.map (·.1) := imObjs_names _
  have hlab : LabCall Y ⟨imObjs inO, S.labs⟩ s1.X f fl F := by
    refine ⟨?_, ?_, ?_, ?_, ?_, ?_, ?_, hfree, ?_, hc.l2, hc.l3, fun n hn => hc.l4 _ (List.mem_map_of_mem hn), hl5⟩
    · intro p hp
      obtain ⟨q, hq, rfl⟩ := im_mem hp
      rw [yIn q hq, XOb.mp_o]
    · simp only [imObjs_names, hnm]
      exact objsNms_im hc.innm
    · rw [hXn]
      exact objsNms_im hc.outnm
    · have := hc.nd3
      simpa [XSt.X, imObjs, Function.comp_def] using this
    · simp only [imObjs_names, hnm]
      exact hc.nd1
    · intro p hp
      obtain ⟨q, hq, rfl⟩ := im_mem hp
      simp only [imObjs_names, hnm]
      rcases hnew q hq with h | ⟨h1, h2⟩
      · exact .inl h
      · refine .inr ⟨h1, ?_⟩
        rw [yOther]
        · exact h2
        · intro p hp e
          obtain ⟨o, h3, _⟩ := hin p hp
          rw [e, h2] at h3
          cases h3
    · intro p hp
      obtain ⟨q, hq, rfl⟩ := im_mem hp
      rw [hXn]
      exact hc.sub _ (by rw [← hnm]; exact List.mem_map_of_mem (f := fun p : Nat × XOb => p.1) hq)
    · intro n hn
      exact hl1 _ (List.mem_map_of_mem hn)
  have h1 := opT_weak (H Y hlab) hle hkk rfl
  -- the same lookups
  have ndo := hc.nd3
  rw [hobjs] at ndo
  have same : ∀ j, (putObjsL f fl (imObjs (outW S.out y)) X.objs).lookup j = (putObjsL f fl s1.X.objs Y.objs).lookup j := by
    intro j
    by_cases hj : ∃ p ∈ s1.objs, f p.1 = j
    · obtain ⟨p, hp, rfl⟩ := hj
      have e1 : (putObjsL f fl s1.X.objs Y.objs).lookup (f p.1) = some (p.2.mp f fl).o := putObjsL_im_mem hc.nd3 hp
      rw [e1]
      rw [hobjs] at hp
      rcases List.mem_append.1 hp with hp | hp
      · exact putObjsL_im_mem (by
          rw [List.map_append] at ndo
          exact (nodup_app ndo).1) hp
      · rw [putObjsL_im_other]
        · obtain ⟨hk1, hk2⟩ := keepObjs_mem hp
          have hmem : p ∈ inO := lk_mem hk2
          obtain ⟨o, h3, _, h4⟩ := hin p hmem
          rw [h3, h4 ((inl_eq _ _).2 hk1)]
        · intro q hq e
          rw [List.map_append] at ndo
          exact (nodup_app ndo).2.2 (f q.1) (List.mem_map_of_mem (f := fun p : Nat × XOb => f p.1) hq) (by rw [e]; exact List.mem_map_of_mem (f := fun p : Nat × XOb => f p.1) hp)
    · have hn : ∀ p ∈ s1.objs, f p.1 ≠ j := fun p hp e => hj ⟨p, hp, e⟩
      have e1 : (putObjsL f fl s1.X.objs Y.objs).lookup j = Y.objs.lookup j := putObjsL_im_other hn
      rw [e1, yOther j ?_, putObjsL_im_other ?_]
      · intro p hp
        exact hn p (by rw [hobjs]; exact List.mem_append_left _ hp)
      · intro p hp e
        have := hc.sub p.1 (by rw [← hnm]; exact List.mem_map_of_mem (f := fun p : Nat × XOb => p.1) hp)
        obtain ⟨q, hq, hqe⟩ := List.mem_map.1 this
        exact hn q hq (by rw [hqe]; exact e)
  intro nm hsm B g w a hr hrd next Q hn
  refine h1 nm hsm B g w a hr hrd next Q fun g' w' v hr' ht hv => hn g' w' v ?_ ht hv
  refine hr_weak hr' (fun k o' ho => ⟨o', ?_, .refl _⟩) (fun k hk => ?_) rfl
  · rw [← same k]; exact ho
  · rw [same k]; exact hk

/-! the entry -/

def nmBase (o : Oper) : Nat := match o.dst with
  | some d => 1000000 + 1000 * d
  | none => 999000

def findP : List (Nat × Nat) → List XV → List (Nat × Nat) → List (Nat × Nat)
  | p :: ps, .nm k _ :: cs, σ => findP ps cs ((p.1, k) :: σ)
  | _ :: ps, _ :: cs, σ => findP ps cs σ
  | _, _, σ => σ
def findA : List AS → List XV → List (Nat × Nat) → List (Nat × Nat)
  | .p k _ :: r, .nm k' _ :: vs, σ => findA r vs ((k, k') :: σ)
  | .os k _ :: r, .os k' _ _ _ :: vs, σ => findA r vs ((k, k') :: σ)
  | .clo _ ps :: r, .clo _ caps :: vs, σ => findA r vs (findP ps caps σ)
  | _ :: r, _ :: vs, σ => findA r vs σ
  | _, _, σ => σ
def findC : List VK → List XV → List (Nat × Nat) × List (Nat × Nat) → List (Nat × Nat) × List (Nat × Nat)
  | .d t :: r, cs, σ => findC r (cs.drop t.size) σ
  | .p k _ :: r, .nm k' _ :: cs, σ => findC r cs ((k, k') :: σ.1, σ.2)
  | .tip n _ _ :: r, .tip n' _ _ _ :: cs, σ => findC r cs (σ.1, (n, n') :: σ.2)
  | _ :: r, _ :: cs, σ => findC r cs σ
  | _, _, σ => σ
def findO (objs : List (Nat × XOb)) : List (Nat × List VK × Option TypeId) → List (Nat × Nat) × List (Nat × Nat) → List (Nat × Nat) × List (Nat × Nat)
  | [], σ => σ
  | p :: r, σ => match lk (nf σ.1 p.1) objs with
    | some (.cells cs _) => findO objs r (findC p.2.1 cs σ)
    | _ => findO objs r σ
def newNs (ns : List Nat) (b : Nat) : List Nat → List (Nat × Nat)
  | [] => []
  | k :: r => cond (inl k ns) (newNs ns b r) ((k, b + k) :: newNs ns b r)
def newLs (b : Nat) : List Nat → List (Nat × Nat)
  | [] => []
  | n :: r => (n, b) :: newLs (b + 1) r
def cNew (S : CSp) (o : Oper) : List (Nat × Nat) := newNs S.names (nmBase o) (namesOf S.out.objs ++ (ownNames S.out.own ++ arrNames S.out.arrs))
def cFind (S : CSp) (o : Oper) (st : XSt) (vs : List XV) : List (Nat × Nat) × List (Nat × Nat) :=
  let σ := findO st.objs S.objs (findA S.args vs [], [])
  (σ.1 ++ cNew S o, σ.2 ++ newLs (3000000 + nmBase o) S.out.labs)

def isNilL {α : Type} : List α → Bool
  | [] => true
  | _ => false

def cOut {R : Type} (P : Program) (fn : Func) (S : CSp) (f fl : Nat → Nat) (nw : List Nat) (st : XSt) (rd : List (Operand × XV)) (xs : List XV) (inO : List (Nat × XOb)) (K : Out → Option R) (y : S.out.T) : Option R :=
  match xres P (gen (S.s0 xs inO) S.out y) fn.results.toList with
  | some rs =>
    cond (cChk S f fl (nw ++ (gen (S.s0 xs inO) S.out y).live.map fl) st xs inO (gen (S.s0 xs inO) S.out y).objs (gen (S.s0 xs inO) S.out y).live (tupX rs))
      (cond (cond (isNilL (outW S.out y)) (cond (isNilL (nw ++ (gen (S.s0 xs inO) S.out y).live.map fl)) (isNilL S.labs) false) false)
        (K ⟨.look (S.names.map f), (tupX rs).mp f fl, rd, st.objs, st.live, [], []⟩)
        (K ⟨.all, (tupX rs).mp f fl, rd, putXs f fl (outW S.out y) st.objs, liveAfter fl st.X ⟨[], S.labs⟩ ⟨[], (gen (S.s0 xs inO) S.out y).live⟩, nw ++ (gen (S.s0 xs inO) S.out y).live.map fl, (outW S.out y).map fun p => f p.1⟩)) none
  | none => none

/-- reckoned before it goes on -/
def forceP {R : Type} : List (Nat × Nat) → (List (Nat × Nat) → R) → R
  | [], K => K []
  | p :: r, K => forceP r fun r' => K ((p.1, p.2) :: r')

theorem forceP_eq {R : Type} : ∀ (l : List (Nat × Nat)) (K : List (Nat × Nat) → R), forceP l K = K l
  | [], K => rfl
  | p :: r, K => by
    simp only [forceP]
    rw [forceP_eq r]

def cCore {R : Type} (P : Program) (fn : Func) (S : CSp) (F : S.Fun (Option S.out.T)) (o : Oper) (st : XSt) (rd : List XV → List (Operand × XV)) (vs : List XV) (K : Out → Option R) : Option R :=
  forceP (cFind S o st vs).1 fun σ => forceP (cFind S o st vs).2 fun τ =>
    appAs (nf σ) S.args F vs [] fun F' xs =>
      appOs (nf σ) (nf τ) S.out.keepO st.objs S.objs F' [] fun F'' os =>
        appRs (nf σ) st.objs S.arrs F'' os fun F3 os' =>
          Option.bind F3 fun y => cOut P fn S (nf σ) (nf τ) ((cNew S o).map (·.2)) st (rd (mpL (nf σ) (nf τ) xs)) xs os' K y

def cRun {R : Type} (P : Program) (fn : Func) (S : CSp) (F : S.Fun (Option S.out.T)) (o : Oper) (st : XSt) (vs : List XV) (K : Out → Option R) : Option R :=
  cCore P fn S F o st (fun ms => (callArgs o).zip ms) vs K

def calleeOp (o : Oper) : Operand :=
  match o.op with
  | .call c => match c.callee with
    | .value x => x
    | _ => .const undef
  | _ => .const undef

def cRunC {R : Type} (P : Program) (id : FuncId) (fn : Func) (S : CSp) (F : S.Fun (Option S.out.T)) (o : Oper) (st : XSt) (caps vs : List XV) (K : Out → Option R) : Option R :=
  cond (nmOnly caps) (cCore P fn S F o st (fun ms => (calleeOp o, .clo id caps) :: (callArgs o).zip ms) (vs ++ caps) K) none

theorem isNilL_eq {α : Type} {l : List α} (h : isNilL l = true) : l = [] := by cases l <;> simp [isNilL] at h; rfl

theorem cOut_ok {P : Program} {R : Type} {id : FuncId} {fn : Func} {S : CSp} {f fl : Nat → Nat} {nw : List Nat} {st : XSt} {rd : List (Operand × XV)} {xs : List XV} {inO : List (Nat × XOb)} {K : Out → Option R} {y : S.out.T} {r : R} {o : Oper}
    (hg : GoodC P id fn S y xs inO) (hin : ∀ p ∈ inO, InR f fl S.out.keepO st.objs p) (hsee : ∀ p ∈ imRd rd, Sees st.im p.1 p.2)
    (H : ∀ (rs : List XV) (F : List Nat) (Y : Store), Does P id (asOf xs) ⟨imObjs inO, S.labs⟩ (tupX rs).a (gen (S.s0 xs inO) S.out y).X → nmsL S.names S.labs xs = true → inO.map (·.1) = S.names → (tupX rs).nms ((gen (S.s0 xs inO) S.out y).objs.map (·.1)) (gen (S.s0 xs inO) S.out y).live = true → LabCall Y ⟨imObjs inO, S.labs⟩ (gen (S.s0 xs inO) S.out y).X f fl F →
      OpT P o (imRd rd) Y ⟨putObjsL f fl (gen (S.s0 xs inO) S.out y).X.objs Y.objs, liveAfter fl Y ⟨imObjs inO, S.labs⟩ (gen (S.s0 xs inO) S.out y).X⟩ F ((tupX rs).mp f fl).a)
    (h : cOut P fn S f fl nw st rd xs inO K y = some r) : ∃ out, K out = some r ∧ OpOk P o st out := by
  unfold cOut at h
  split at h
  · rename_i rs hrs
    generalize hchk : cChk S f fl (nw ++ (gen (S.s0 xs inO) S.out y).live.map fl) st xs inO (gen (S.s0 xs inO) S.out y).objs (gen (S.s0 xs inO) S.out y).live (tupX rs) = b at h
    cases b with
    | false => cases h
    | true =>
      have hc := cChk_spec hchk
      simp only [cond_true] at h
      obtain ⟨hnm, hdoes⟩ := hg
      have hd := hdoes rs hrs
      have core : ∀ X : Store, (∀ p ∈ inO, ∃ o, X.objs.lookup (f p.1) = some o ∧ ObLe o (p.2.mp f fl).o ∧ (inl p.1 S.out.keepO = true → o = (p.2.mp f fl).o)) →
          (∀ p ∈ (gen (S.s0 xs inO) S.out y).objs, p.1 ∈ S.names ∨ (f p.1 ∈ (nw ++ (gen (S.s0 xs inO) S.out y).live.map fl) ∧ X.objs.lookup (f p.1) = none)) →
          objsFree (nw ++ (gen (S.s0 xs inO) S.out y).live.map fl) ⟨putObjsL f fl (imObjs inO) X.objs, X.live⟩ = true → (∀ x ∈ S.labs.map fl, x ∈ X.live) → (∀ n ∈ (gen (S.s0 xs inO) S.out y).live, fl n ∈ X.live → fl n ∈ S.labs.map fl) →
          OpT P o (imRd rd) X ⟨putObjsL f fl (imObjs (outW S.out y)) X.objs, liveAfter fl X ⟨imObjs inO, S.labs⟩ (gen (S.s0 xs inO) S.out y).X⟩ (nw ++ (gen (S.s0 xs inO) S.out y).live.map fl) ((tupX rs).mp f fl).a := by
        intro X h1 h2 h3 h4 h5
        exact call_core hc hnm h1 h2 h3 h4 h5 (fun Y hY => H rs _ Y hd hc.xsn hnm hc.resn hY)
      cases hlook : (cond (isNilL (outW S.out y)) (cond (isNilL (nw ++ (gen (S.s0 xs inO) S.out y).live.map fl)) (isNilL S.labs) false) false) with
      | true =>
        rw [hlook] at h
        simp only [cond_true] at h
        have hl : outW S.out y = [] ∧ nw ++ (gen (S.s0 xs inO) S.out y).live.map fl = [] ∧ S.labs = [] := by
          cases e1 : isNilL (outW S.out y) with
          | false => simp [e1] at hlook
          | true =>
            cases e2 : isNilL (nw ++ (gen (S.s0 xs inO) S.out y).live.map fl) with
            | false => simp [e1, e2] at hlook
            | true => simp only [e1, e2, cond_true] at hlook; exact ⟨isNilL_eq e1, isNilL_eq e2, isNilL_eq hlook⟩
        obtain ⟨w1, w2, w3⟩ := hl
        refine ⟨_, h, ⟨hsee, ⟨rfl, rfl, rfl, fun X hX => ?_⟩, fun _ _ _ h => h⟩⟩
        have hlv : (gen (S.s0 xs inO) S.out y).live = [] := by
          have := (List.append_eq_nil_iff.1 w2).2
          simpa using this
        have hlk : ∀ p ∈ inO, X.objs.lookup (f p.1) = st.X.objs.lookup (f p.1) := fun p hp => hX _ (List.mem_map.2 ⟨p.1, by rw [← hnm]; exact List.mem_map_of_mem (f := fun p : Nat × XOb => p.1) hp, rfl⟩)
        have c1 := core X (fun p hp => by
            obtain ⟨o, h1, h2, h3⟩ := hin p hp
            exact ⟨o.o, by rw [hlk p hp]; exact lk_imA h1, h2, h3⟩) (fun p hp => by
            rcases hc.new p hp with h | ⟨h, _⟩
            · exact .inl h
            · rw [w2] at h; cases h) (by rw [w2]; rfl) (by rw [w3]; simp) (by rw [hlv]; simp)
        rw [w2, w1] at c1
        have e : liveAfter fl X ⟨imObjs inO, S.labs⟩ (gen (S.s0 xs inO) S.out y).X = X.live := by
          unfold liveAfter
          show (gen (S.s0 xs inO) S.out y).live.map fl ++ _ = _
          rw [hlv, w3]
          simp
        rw [e] at c1
        exact c1
      | false =>
        rw [hlook] at h
        simp only [cond_false] at h
        refine ⟨_, h, ⟨hsee, ?_, fun j x hj hx => ?_⟩⟩
        · have c1 := core st.X (fun p hp => by
              obtain ⟨o, h1, h2, h3⟩ := hin p hp
              exact ⟨o.o, lk_imA h1, h2, h3⟩) (fun p hp => by
              rcases hc.new p hp with h | ⟨h, h'⟩
              · exact .inl h
              · refine .inr ⟨h, ?_⟩
                show (imObjs st.objs).lookup _ = none
                rw [im_objs, h']; rfl) (by
              have := objsFreeX_ok (live := st.live) hc.free
              rw [putXs_im] at this
              exact this) hc.l1 hc.l5
          have e1 : imObjs (putXs f fl (outW S.out y) st.objs) = putObjsL f fl (imObjs (outW S.out y)) st.X.objs := putXs_im _ _ _ _
          show OpT P o (imRd rd) st.X ⟨imObjs (putXs f fl (outW S.out y) st.objs), _⟩ _ _
          rw [e1]
          exact c1
        · rw [putXs_other] at hx
          · exact hx
          · intro p hp e
            exact hj (List.mem_map.2 ⟨p, hp, e⟩)
  · cases h

theorem zip_take {α β : Type} : ∀ (a : List α) (b c : List β), a.length = b.length → a.zip (b ++ c) = a.zip b
  | [], b, c, h => by simp
  | x :: a, [], c, h => by simp at h
  | x :: a, y :: b, c, h => by simp only [List.cons_append, List.zip_cons_cons]; rw [zip_take a b c (by simpa using h)]

theorem cRun_ok {P : Program} {R : Type} {id : FuncId} {fn : Func} {S : CSp} {F : S.Fun (Option S.out.T)} (hc : CallI P id) (hs : SndC P id fn S F) {o : Oper} {st : XSt} {aops : Array Operand} {ts : Array TypeId} {vs : List XV} {K : Out → Option R} {r : R}
    (ho : o.op = .call { callee := .value (.func id), args := aops, argTypes := ts }) (hv : xevals st aops.toList = some vs) (h : cRun P fn S F o st vs K = some r) : ∃ out, K out = some r ∧ OpOk P o st out := by
  have e : callArgs o = aops.toList := by simp [callArgs, ho]
  unfold cRun cCore at h
  rw [e, forceP_eq, forceP_eq] at h
  generalize (cFind S o st vs).1 = σ at h
  generalize (cFind S o st vs).2 = τ at h
  obtain ⟨F', xs, q1, a1, h⟩ := appAs_ok (fl := nf τ) S.args F vs [] [] hs .nil h
  obtain ⟨F'', os, q2, a2, h⟩ := appOs_ok S.objs F' [] q1 (by simp) h
  obtain ⟨F3, os', q3, a3, h⟩ := appRs_ok (fl := nf τ) (ko := S.out.keepO) S.arrs F'' os q2 a2 h
  obtain ⟨y, hy, h⟩ := Option.bind_eq_some_iff.1 h
  rw [List.nil_append] at a1
  refine cOut_ok (q3 y hy) a3 (a1.sees hv) ?_ h
  intro rs Fr Y hd hx hnm hr hlab
  have := op_call_f_lab (X := Y) (nf σ) (nf τ) Fr ho hc hd hlab (by
      have h1 := a1.length
      have h2 := xevals_len hv
      rw [asOf_length, ← h1, h2]; simp) (by
      simp only [imObjs_names, hnm]
      exact nmsL_a hx) (by
      have e : (gen (S.s0 xs os') S.out y).X.objs.map (·.1) = (gen (S.s0 xs os') S.out y).objs.map (·.1) := imObjs_names _
      rw [e]
      exact XV.nms_a hr)
  rw [← mpL_a, ← imRd_zip, ← XV.mp_a] at this
  exact this

theorem cRunC_ok {P : Program} {R : Type} {id : FuncId} {fn : Func} {S : CSp} {F : S.Fun (Option S.out.T)} (hc : CallI P id) (hs : SndC P id fn S F) {o : Oper} {st : XSt} {t : Tmp} {aops : Array Operand} {ts : Array TypeId} {caps vs : List XV} {K : Out → Option R} {r : R}
    (ho : o.op = .call { callee := .value (.tmp t), args := aops, argTypes := ts }) (hclo : lk t st.env = some (.clo id caps)) (hv : xevals st aops.toList = some vs) (h : cRunC P id fn S F o st caps vs K = some r) : ∃ out, K out = some r ∧ OpOk P o st out := by
  have e : callArgs o = aops.toList := by simp [callArgs, ho]
  have e2 : calleeOp o = .tmp t := by simp [calleeOp, ho]
  unfold cRunC cCore at h
  cases hnmo : nmOnly caps with
  | false => simp [hnmo] at h
  | true =>
  simp only [hnmo, cond_true] at h
  rw [e, e2, forceP_eq, forceP_eq] at h
  generalize (cFind S o st (vs ++ caps)).1 = σ at h
  generalize (cFind S o st (vs ++ caps)).2 = τ at h
  obtain ⟨F', xs, q1, a1, h⟩ := appAs_ok (fl := nf τ) S.args F (vs ++ caps) [] [] hs .nil h
  obtain ⟨F'', os, q2, a2, h⟩ := appOs_ok S.objs F' [] q1 (by simp) h
  obtain ⟨F3, os', q3, a3, h⟩ := appRs_ok (fl := nf τ) (ko := S.out.keepO) S.arrs F'' os q2 a2 h
  obtain ⟨y, hy, h⟩ := Option.bind_eq_some_iff.1 h
  rw [List.nil_append] at a1
  obtain ⟨xa, xc, rfl, a4, a5⟩ := a1.split
  have hcaps := a5.caps hnmo
  have hlen : aops.toList.length = (mpL (nf σ) (nf τ) xa).length := by
    rw [mpL_map, List.length_map, ← a4.length, xevals_len hv]
  rw [mpL_append, zip_take _ _ _ hlen] at h
  refine cOut_ok (q3 y hy) a3 ?_ ?_ h
  · intro p hp
    simp only [imRd, List.map_cons, List.mem_cons] at hp
    rcases hp with rfl | hp
    · exact xeval_sees (x := .tmp t) hclo
    · exact a4.sees hv p hp
  · intro rs Fr Y hd hx hnm hr hlab
    rw [asOf_append] at hd
    have := op_call_clo_lab (X := Y) (nf σ) (nf τ) Fr ho hc hd hlab (by
        have h1 := a4.length
        have h2 := xevals_len hv
        rw [asOf_length, ← h1, h2]; simp) (by
        simp only [imObjs_names, hnm]
        have := nmsL_a hx
        rw [asOf_append] at this
        exact this) (by
        have e : (gen (S.s0 (xa ++ xc) os') S.out y).X.objs.map (·.1) = (gen (S.s0 (xa ++ xc) os') S.out y).objs.map (·.1) := imObjs_names _
        rw [e]
        exact XV.nms_a hr)
    rw [← mpL_a, ← mpL_a, ← hcaps, ← imRd_zip, ← XV.mp_a] at this
    exact this

/-- the entry, of a function that is sound -/
def mkCS {P : Program} (id : FuncId) (fn : Func) (S : CSp) (F : S.Fun (Option S.out.T)) (hc : CallI P id) (hs : SndC P id fn S F) : Ent P where
  id := id
  run := cRun P fn S F
  ok := by
    intro R o st aops ts vs K r ho hv h
    exact cRun_ok hc hs ho hv h
  crun := cRunC P id fn S F
  cok := by
    intro R o st t caps aops ts vs K r ho hclo hv h
    exact cRunC_ok hc hs ho hclo hv h

/-- the entry -/
def mkC {P : Program} {Γ : List (Ent P)} {own : List Nat} {N : Nat} (id : FuncId) (fn : Func) (an : An) (S : CSp) (F : S.Fun (Option S.out.T)) (hm : P.follows .mixedOrders = true) (hf : P.funcs[id]? = some fn)
    (hc : CallI P id) (hn : Nat.ble S.args.length fn.ntmps = true) (hsm : smallL S.names = true) (hks : noKeepS S = true) (hE : runC P Γ own N fn an S = F) : Ent P :=
  mkCS id fn S F hc (hE ▸ runC_sound hm hf hn hsm hks)

end Go.Xl
set_option linter.unusedVariables false
set_option maxRecDepth 100000
namespace Go.Proofs.Xg
open Go Go.Xl Go.Ab Go.Proofs

@[reducible] def S_kills_Edit_1 : CSp := ⟨[.d tEvent, .p 1 0, .p 2 0], [(1, [.d (.int .u64)], some 23), (2, [.d .u8], some 5)], [], ⟨[(4, .d .bool)], [], [], [1, 2], [], []⟩⟩
/-- epitaph/kills.Edit$1 -/
noncomputable def F_kills_Edit_1 (N : Nat) : CSp.Fun S_kills_Edit_1 (Option S_kills_Edit_1.out.T) :=
  fun (y : (Int × Int) × UInt8 × Int × UInt8 × List UInt8 × List (Int × Int)) (y_1 : Int) (y_2 : UInt8) =>
  bif y.snd.snd.fst == y_1 then some ((y.snd.snd.snd.fst == y_2, ()), (), (), ()) else some ((false, ()), (), (), ())
theorem E_kills_Edit_1 (N : Nat) : runC Try.prog [] [] N Try.f88 .lf S_kills_Edit_1 = F_kills_Edit_1 N := by kernel_rfl
noncomputable def e_kills_Edit_1 (N : Nat) : Ent Try.prog := mkC 88 Try.f88 .lf S_kills_Edit_1 (F_kills_Edit_1 N) mixed Try.func88 (.mk' Try.func88 rfl (by decide)) rfl rfl rfl (E_kills_Edit_1 N)
@[reducible] def S_kills_of_e : CSp := ⟨[.d (.sl tEvent), .clo 88 [(1, 0), (2, 0)]], [(1, [.d (.int .u64)], some 23), (2, [.d .u8], some 5)], [], ⟨[(4, .d (.sl tDot))], [], [], [1, 2], [], []⟩⟩
/-- epitaph/kills.of -/
noncomputable def F_kills_of_e (N : Nat) : CSp.Fun S_kills_of_e (Option S_kills_of_e.out.T) :=
  fun (y : List ((Int × Int) × UInt8 × Int × UInt8 × List UInt8 × List (Int × Int))) (y_1 : Int)
    (y_2 : UInt8) =>
  iter
    (fun
        (rec :
          (List ((Int × Int) × UInt8 × Int × UInt8 × List UInt8 × List (Int × Int)) × Int × Unit) ×
              Unit × Unit × Unit →
            Option ((List (Int × Int) × Unit) × Unit × Unit × Unit))
        (z :
          (List ((Int × Int) × UInt8 × Int × UInt8 × List UInt8 × List (Int × Int)) × Int × Unit) ×
            Unit × Unit × Unit) =>
      bif decide (z.fst.snd.fst < (↑y.length : Int)) then
        (at? y z.fst.snd.fst).bind fun (e : (Int × Int) × UInt8 × Int × UInt8 × List UInt8 × List (Int × Int)) =>
          bif e.snd.fst == 1 then
            Option.bind (F_kills_Edit_1 N e y_1 y_2) fun (y : (Bool × Unit) × Unit × Unit × Unit) =>
              bif y.fst.fst then
                bif fitsB (z.fst.fst.length + [e].length) 80 then
                  rec ((z.fst.fst ++ [e], IntKind.i64.wrap (z.fst.snd.fst + 1), ()), (), (), ())
                else none
              else rec ((z.fst.fst, IntKind.i64.wrap (z.fst.snd.fst + 1), ()), (), (), ())
          else rec ((z.fst.fst, IntKind.i64.wrap (z.fst.snd.fst + 1), ()), (), (), ())
      else Option.bind (F_event_Dots N z.fst.fst) fun (y : List (Int × Int)) => some ((y, ()), (), (), ()))
    N (([], 0, ()), (), (), ())
theorem E_kills_of_e (N : Nat) : runC Try.prog [e_event_Dots N, e_kills_Edit_1 N] [] N Try.f87 (.seq .lf (.seq .lf (.seq (.seq .lf (.blk (.loop ⟨[(5, .tip 200005 tEvent none), (10, .d (.int .i64))], [], [1, 8, 9], [1, 2], [], []⟩ .lf))) .lf))) S_kills_of_e = F_kills_of_e N := by kernel_rfl
noncomputable def e_kills_of_e (N : Nat) : Ent Try.prog := mkC 87 Try.f87 (.seq .lf (.seq .lf (.seq (.seq .lf (.blk (.loop ⟨[(5, .tip 200005 tEvent none), (10, .d (.int .i64))], [], [1, 8, 9], [1, 2], [], []⟩ .lf))) .lf))) S_kills_of_e (F_kills_of_e N) mixed Try.func87 (.mk' Try.func87 rfl (by decide)) rfl rfl rfl (E_kills_of_e N)
/-- epitaph/kills.Edit -/
noncomputable def F_kills_Edit (N : Nat) : Fun [(.sl tEvent), (.int .u64), .u8] (Option (ResT [(.sl tDot)])) :=
  fun (x : List ((Int × Int) × UInt8 × Int × UInt8 × List UInt8 × List (Int × Int))) (x_1 : Int)
    (x_2 : UInt8) =>
  Option.bind (F_kills_of_e N x x_1 x_2) fun (y : (List (Int × Int) × Unit) × Unit × Unit × Unit) => some y.fst.fst
theorem E_kills_Edit (N : Nat) : runF Try.prog [e_kills_of_e N, e_kills_Edit_1 N] [] N Try.f41 .lf [(.sl tEvent), (.int .u64), .u8] [(.sl tDot)] = F_kills_Edit N := by kernel_rfl
noncomputable def e_kills_Edit (N : Nat) : Ent Try.prog := mkFn 41 Try.f41 .lf [(.sl tEvent), (.int .u64), .u8] [(.sl tDot)] (F_kills_Edit N) mixed Try.func41 (.mk' Try.func41 rfl (by decide)) rfl (E_kills_Edit N)
@[reducible] def S_kills_Delete_1 : CSp := ⟨[.d tEvent, .p 1 0], [(1, [.d (.int .u64)], some 23)], [], ⟨[(3, .d .bool)], [], [], [1], [], []⟩⟩
/-- epitaph/kills.Delete$1 -/
noncomputable def F_kills_Delete_1 (N : Nat) : CSp.Fun S_kills_Delete_1 (Option S_kills_Delete_1.out.T) :=
  fun (y : (Int × Int) × UInt8 × Int × UInt8 × List UInt8 × List (Int × Int)) (y_1 : Int) =>
  some ((y.snd.snd.fst == y_1, ()), (), (), ())
theorem E_kills_Delete_1 (N : Nat) : runC Try.prog [] [] N Try.f89 .lf S_kills_Delete_1 = F_kills_Delete_1 N := by kernel_rfl
noncomputable def e_kills_Delete_1 (N : Nat) : Ent Try.prog := mkC 89 Try.f89 .lf S_kills_Delete_1 (F_kills_Delete_1 N) mixed Try.func89 (.mk' Try.func89 rfl (by decide)) rfl rfl rfl (E_kills_Delete_1 N)
@[reducible] def S_kills_of_d : CSp := ⟨[.d (.sl tEvent), .clo 89 [(1, 0)]], [(1, [.d (.int .u64)], some 23)], [], ⟨[(4, .d (.sl tDot))], [], [], [1], [], []⟩⟩
/-- epitaph/kills.of -/
noncomputable def F_kills_of_d (N : Nat) : CSp.Fun S_kills_of_d (Option S_kills_of_d.out.T) :=
  fun (y : List ((Int × Int) × UInt8 × Int × UInt8 × List UInt8 × List (Int × Int))) (y_1 : Int) =>
  iter
    (fun
        (rec :
          (List ((Int × Int) × UInt8 × Int × UInt8 × List UInt8 × List (Int × Int)) × Int × Unit) ×
              Unit × Unit × Unit →
            Option ((List (Int × Int) × Unit) × Unit × Unit × Unit))
        (z :
          (List ((Int × Int) × UInt8 × Int × UInt8 × List UInt8 × List (Int × Int)) × Int × Unit) ×
            Unit × Unit × Unit) =>
      bif decide (z.fst.snd.fst < (↑y.length : Int)) then
        (at? y z.fst.snd.fst).bind fun (e : (Int × Int) × UInt8 × Int × UInt8 × List UInt8 × List (Int × Int)) =>
          bif e.snd.fst == 1 then
            Option.bind (F_kills_Delete_1 N e y_1) fun (y : (Bool × Unit) × Unit × Unit × Unit) =>
              bif y.fst.fst then
                bif fitsB (z.fst.fst.length + [e].length) 80 then
                  rec ((z.fst.fst ++ [e], IntKind.i64.wrap (z.fst.snd.fst + 1), ()), (), (), ())
                else none
              else rec ((z.fst.fst, IntKind.i64.wrap (z.fst.snd.fst + 1), ()), (), (), ())
          else rec ((z.fst.fst, IntKind.i64.wrap (z.fst.snd.fst + 1), ()), (), (), ())
      else Option.bind (F_event_Dots N z.fst.fst) fun (y : List (Int × Int)) => some ((y, ()), (), (), ()))
    N (([], 0, ()), (), (), ())
theorem E_kills_of_d (N : Nat) : runC Try.prog [e_event_Dots N, e_kills_Delete_1 N] [] N Try.f87 (.seq .lf (.seq .lf (.seq (.seq .lf (.blk (.loop ⟨[(5, .tip 200005 tEvent none), (10, .d (.int .i64))], [], [1, 8, 9], [1], [], []⟩ .lf))) .lf))) S_kills_of_d = F_kills_of_d N := by kernel_rfl
noncomputable def e_kills_of_d (N : Nat) : Ent Try.prog := mkC 87 Try.f87 (.seq .lf (.seq .lf (.seq (.seq .lf (.blk (.loop ⟨[(5, .tip 200005 tEvent none), (10, .d (.int .i64))], [], [1, 8, 9], [1], [], []⟩ .lf))) .lf))) S_kills_of_d (F_kills_of_d N) mixed Try.func87 (.mk' Try.func87 rfl (by decide)) rfl rfl rfl (E_kills_of_d N)
/-- epitaph/kills.Delete -/
noncomputable def F_kills_Delete (N : Nat) : Fun [(.sl tEvent), (.int .u64)] (Option (ResT [(.sl tDot)])) :=
  fun (x : List ((Int × Int) × UInt8 × Int × UInt8 × List UInt8 × List (Int × Int))) (x_1 : Int) =>
  Option.bind (F_kills_of_d N x x_1) fun (y : (List (Int × Int) × Unit) × Unit × Unit × Unit) => some y.fst.fst
theorem E_kills_Delete (N : Nat) : runF Try.prog [e_kills_of_d N, e_kills_Delete_1 N] [] N Try.f43 .lf [(.sl tEvent), (.int .u64)] [(.sl tDot)] = F_kills_Delete N := by kernel_rfl
noncomputable def e_kills_Delete (N : Nat) : Ent Try.prog := mkFn 43 Try.f43 .lf [(.sl tEvent), (.int .u64)] [(.sl tDot)] (F_kills_Delete N) mixed Try.func43 (.mk' Try.func43 rfl (by decide)) rfl (E_kills_Delete N)

/-- epitaph/kills.Dead -/
noncomputable def F_kills_Dead (N : Nat) : Fun [(.sl tEvent), tDot] (Option (ResT [.bool])) :=
  fun (x : List ((Int × Int) × UInt8 × Int × UInt8 × List UInt8 × List (Int × Int))) (x_1 : Int × Int) =>
  iter
    (fun (rec : (Int × Unit) × Unit × Unit × Unit → Option Bool) (z : (Int × Unit) × Unit × Unit × Unit) =>
      bif decide (z.fst.fst < (↑x.length : Int)) then
        (at? x z.fst.fst).bind fun (e : (Int × Int) × UInt8 × Int × UInt8 × List UInt8 × List (Int × Int)) =>
          Option.bind (F_event_Kills N e x_1) fun (y : Bool) =>
            bif y then some true else rec ((IntKind.i64.wrap (z.fst.fst + 1), ()), (), (), ())
      else some false)
    N ((0, ()), (), (), ())
theorem E_kills_Dead (N : Nat) : runF Try.prog [e_event_Kills N] [] N Try.f40 (.seq .lf (.seq (.seq .lf (.blk (.loop ⟨[(9, .d (.int .i64))], [], [3, 7, 8], [1003], [], []⟩ .lf))) .lf)) [(.sl tEvent), tDot] [.bool] = F_kills_Dead N := by kernel_rfl
noncomputable def e_kills_Dead (N : Nat) : Ent Try.prog := mkFn 40 Try.f40 (.seq .lf (.seq (.seq .lf (.blk (.loop ⟨[(9, .d (.int .i64))], [], [3, 7, 8], [1003], [], []⟩ .lf))) .lf)) [(.sl tEvent), tDot] [.bool] (F_kills_Dead N) mixed Try.func40 (.mk' Try.func40 rfl (by decide)) rfl (E_kills_Dead N)
/-- epitaph/epitaphref07.Put -/
noncomputable def F_epitaphref07_Put (N : Nat) : Fun [(.sl tDot), tDot] (Option (ResT [(.sl tDot)])) :=
  fun (x : List (Int × Int)) (x_1 : Int × Int) =>
  iter
    (fun (rec : (List (Int × Int) × Int × Unit) × Unit × Unit × Unit → Option (List (Int × Int)))
        (z : (List (Int × Int) × Int × Unit) × Unit × Unit × Unit) =>
      bif decide (z.fst.snd.fst < (↑x.length : Int)) then
        (at? x z.fst.snd.fst).bind fun (e : Int × Int) =>
          Option.bind (F_epitaphref07_Cmp N e x_1) fun (y : Int) =>
            bif decide (y < 0) then
              (at? x z.fst.snd.fst).bind fun (e : Int × Int) =>
                bif fitsB (z.fst.fst.length + [e].length) 16 then
                  rec ((z.fst.fst ++ [e], IntKind.i64.wrap (z.fst.snd.fst + 1), ()), (), (), ())
                else none
            else rec ((z.fst.fst, IntKind.i64.wrap (z.fst.snd.fst + 1), ()), (), (), ())
      else
        bif fitsB (z.fst.fst.length + [x_1].length) 16 then
          iter
            (fun (rec : (List (Int × Int) × Int × Unit) × Unit × Unit × Unit → Option (List (Int × Int)))
                (z : (List (Int × Int) × Int × Unit) × Unit × Unit × Unit) =>
              bif decide (z.fst.snd.fst < (↑x.length : Int)) then
                (at? x z.fst.snd.fst).bind fun (e : Int × Int) =>
                  Option.bind (F_epitaphref07_Cmp N e x_1) fun (y : Int) =>
                    bif decide (0 < y) then
                      (at? x z.fst.snd.fst).bind fun (e : Int × Int) =>
                        bif fitsB (z.fst.fst.length + [e].length) 16 then
                          rec ((z.fst.fst ++ [e], IntKind.i64.wrap (z.fst.snd.fst + 1), ()), (), (), ())
                        else none
                    else rec ((z.fst.fst, IntKind.i64.wrap (z.fst.snd.fst + 1), ()), (), (), ())
              else some z.fst.fst)
            N ((z.fst.fst ++ [x_1], 0, ()), (), (), ())
        else none)
    N (([], 0, ()), (), (), ())
theorem E_epitaphref07_Put (N : Nat) : runF Try.prog [e_epitaphref07_Cmp N] [] N Try.f85 (.seq .lf (.seq .lf (.seq (.seq .lf (.blk (.loop ⟨[(5, .tip 200005 tDot none), (6, .d (.int .i64))], [], [0, 3], [1003], [], []⟩ .lf))) (.seq .lf (.seq (.seq .lf (.blk (.loop ⟨[(5, .tip 200005 tDot none), (7, .d (.int .i64))], [], [0, 3], [1003], [], []⟩ .lf))) .lf))))) [(.sl tDot), tDot] [(.sl tDot)] = F_epitaphref07_Put N := by kernel_rfl
noncomputable def e_epitaphref07_Put (N : Nat) : Ent Try.prog := mkFn 85 Try.f85 (.seq .lf (.seq .lf (.seq (.seq .lf (.blk (.loop ⟨[(5, .tip 200005 tDot none), (6, .d (.int .i64))], [], [0, 3], [1003], [], []⟩ .lf))) (.seq .lf (.seq (.seq .lf (.blk (.loop ⟨[(5, .tip 200005 tDot none), (7, .d (.int .i64))], [], [0, 3], [1003], [], []⟩ .lf))) .lf))))) [(.sl tDot), tDot] [(.sl tDot)] (F_epitaphref07_Put N) mixed Try.func85 (.mk' Try.func85 rfl (by decide)) rfl (E_epitaphref07_Put N)
/-- epitaph/epitaphref13.Dots -/
noncomputable def F_epitaphref13_Dots (N : Nat) : Fun [(.sl tEvent)] (Option (ResT [(.sl tDot)])) :=
  fun (x : List ((Int × Int) × UInt8 × Int × UInt8 × List UInt8 × List (Int × Int))) =>
  iter
    (fun (rec : (List (Int × Int) × Int × Unit) × Unit × Unit × Unit → Option (List (Int × Int)))
        (z : (List (Int × Int) × Int × Unit) × Unit × Unit × Unit) =>
      bif decide (z.fst.snd.fst < (↑x.length : Int)) then
        (at? x z.fst.snd.fst).bind fun (e : (Int × Int) × UInt8 × Int × UInt8 × List UInt8 × List (Int × Int)) =>
          Option.bind (F_epitaphref07_Put N z.fst.fst e.fst) fun (y : List (Int × Int)) =>
            iter
              (fun (rec_1 : (List (Int × Int) × Int × Unit) × Unit × Unit × Unit → Option (List (Int × Int)))
                  (z_1 : (List (Int × Int) × Int × Unit) × Unit × Unit × Unit) =>
                (at? x z.fst.snd.fst).bind
                  fun (e : (Int × Int) × UInt8 × Int × UInt8 × List UInt8 × List (Int × Int)) =>
                  bif decide (z_1.fst.snd.fst < (↑e.snd.snd.snd.snd.snd.length : Int)) then
                    (at? x z.fst.snd.fst).bind
                      fun (e : (Int × Int) × UInt8 × Int × UInt8 × List UInt8 × List (Int × Int)) =>
                      (at? e.snd.snd.snd.snd.snd z_1.fst.snd.fst).bind fun (e : Int × Int) =>
                        Option.bind (F_epitaphref07_Put N z_1.fst.fst e) fun (y : List (Int × Int)) =>
                          rec_1 ((y, IntKind.i64.wrap (z_1.fst.snd.fst + 1), ()), (), (), ())
                  else rec ((z_1.fst.fst, IntKind.i64.wrap (z.fst.snd.fst + 1), ()), (), (), ()))
              N ((y, 0, ()), (), (), ())
      else some z.fst.fst)
    N (([], 0, ()), (), (), ())
theorem E_epitaphref13_Dots (N : Nat) : runF Try.prog [e_epitaphref07_Put N] [] N Try.f36 (.seq .lf (.seq .lf (.seq (.seq .lf (.blk (.loop ⟨[(3, .d (.sl tDot)), (4, .d (.int .i64))], [], [0], [], [], []⟩ (.seq .lf (.seq (.blk (.seq .lf (.seq .lf (.blk (.loop ⟨[(3, .d (.sl tDot)), (5, .d (.int .i64))], [], [0, 4], [], [], []⟩ .lf))))) .lf))))) .lf))) [(.sl tEvent)] [(.sl tDot)] = F_epitaphref13_Dots N := by kernel_rfl
noncomputable def e_epitaphref13_Dots (N : Nat) : Ent Try.prog := mkFn 36 Try.f36 (.seq .lf (.seq .lf (.seq (.seq .lf (.blk (.loop ⟨[(3, .d (.sl tDot)), (4, .d (.int .i64))], [], [0], [], [], []⟩ (.seq .lf (.seq (.blk (.seq .lf (.seq .lf (.blk (.loop ⟨[(3, .d (.sl tDot)), (5, .d (.int .i64))], [], [0, 4], [], [], []⟩ .lf))))) .lf))))) .lf))) [(.sl tEvent)] [(.sl tDot)] (F_epitaphref13_Dots N) mixed Try.func36 (.mk' Try.func36 rfl (by decide)) rfl (E_epitaphref13_Dots N)
/-- epitaph/epitaphref17.Edit -/
noncomputable def F_epitaphref17_Edit (N : Nat) : Fun [(.sl tEvent), (.int .u64), .u8] (Option (ResT [(.sl tDot)])) :=
  fun (x : List ((Int × Int) × UInt8 × Int × UInt8 × List UInt8 × List (Int × Int))) (x_1 : Int)
    (x_2 : UInt8) =>
  iter
    (fun
        (rec :
          (List ((Int × Int) × UInt8 × Int × UInt8 × List UInt8 × List (Int × Int)) × Int × Unit) ×
              Unit × Unit × Unit →
            Option (List (Int × Int)))
        (z :
          (List ((Int × Int) × UInt8 × Int × UInt8 × List UInt8 × List (Int × Int)) × Int × Unit) ×
            Unit × Unit × Unit) =>
      bif decide (z.fst.snd.fst < (↑x.length : Int)) then
        (at? x z.fst.snd.fst).bind fun (e : (Int × Int) × UInt8 × Int × UInt8 × List UInt8 × List (Int × Int)) =>
          bif e.snd.fst == 1 then
            (at? x z.fst.snd.fst).bind fun (e : (Int × Int) × UInt8 × Int × UInt8 × List UInt8 × List (Int × Int)) =>
              bif e.snd.snd.fst == x_1 then
                (at? x z.fst.snd.fst).bind
                  fun (e : (Int × Int) × UInt8 × Int × UInt8 × List UInt8 × List (Int × Int)) =>
                  bif e.snd.snd.snd.fst == x_2 then
                    (at? x z.fst.snd.fst).bind
                      fun (e : (Int × Int) × UInt8 × Int × UInt8 × List UInt8 × List (Int × Int)) =>
                      bif fitsB (z.fst.fst.length + [e].length) 80 then
                        rec ((z.fst.fst ++ [e], IntKind.i64.wrap (z.fst.snd.fst + 1), ()), (), (), ())
                      else none
                  else rec ((z.fst.fst, IntKind.i64.wrap (z.fst.snd.fst + 1), ()), (), (), ())
              else rec ((z.fst.fst, IntKind.i64.wrap (z.fst.snd.fst + 1), ()), (), (), ())
          else rec ((z.fst.fst, IntKind.i64.wrap (z.fst.snd.fst + 1), ()), (), (), ())
      else Option.bind (F_epitaphref13_Dots N z.fst.fst) fun (y : List (Int × Int)) => some y)
    N (([], 0, ()), (), (), ())
theorem E_epitaphref17_Edit (N : Nat) : runF Try.prog [e_epitaphref13_Dots N] [] N Try.f42 (.seq .lf (.seq .lf (.seq (.seq .lf (.blk (.loop ⟨[(7, .tip 200007 tEvent none), (8, .d (.int .i64))], [], [0, 1, 2], [], [], []⟩ .lf))) .lf))) [(.sl tEvent), (.int .u64), .u8] [(.sl tDot)] = F_epitaphref17_Edit N := by kernel_rfl
noncomputable def e_epitaphref17_Edit (N : Nat) : Ent Try.prog := mkFn 42 Try.f42 (.seq .lf (.seq .lf (.seq (.seq .lf (.blk (.loop ⟨[(7, .tip 200007 tEvent none), (8, .d (.int .i64))], [], [0, 1, 2], [], [], []⟩ .lf))) .lf))) [(.sl tEvent), (.int .u64), .u8] [(.sl tDot)] (F_epitaphref17_Edit N) mixed Try.func42 (.mk' Try.func42 rfl (by decide)) rfl (E_epitaphref17_Edit N)
/-- epitaph/epitaphref17.Delete -/
noncomputable def F_epitaphref17_Delete (N : Nat) : Fun [(.sl tEvent), (.int .u64)] (Option (ResT [(.sl tDot)])) :=
  fun (x : List ((Int × Int) × UInt8 × Int × UInt8 × List UInt8 × List (Int × Int))) (x_1 : Int) =>
  iter
    (fun
        (rec :
          (List ((Int × Int) × UInt8 × Int × UInt8 × List UInt8 × List (Int × Int)) × Int × Unit) ×
              Unit × Unit × Unit →
            Option (List (Int × Int)))
        (z :
          (List ((Int × Int) × UInt8 × Int × UInt8 × List UInt8 × List (Int × Int)) × Int × Unit) ×
            Unit × Unit × Unit) =>
      bif decide (z.fst.snd.fst < (↑x.length : Int)) then
        (at? x z.fst.snd.fst).bind fun (e : (Int × Int) × UInt8 × Int × UInt8 × List UInt8 × List (Int × Int)) =>
          bif e.snd.fst == 1 then
            (at? x z.fst.snd.fst).bind fun (e : (Int × Int) × UInt8 × Int × UInt8 × List UInt8 × List (Int × Int)) =>
              bif e.snd.snd.fst == x_1 then
                (at? x z.fst.snd.fst).bind
                  fun (e : (Int × Int) × UInt8 × Int × UInt8 × List UInt8 × List (Int × Int)) =>
                  bif fitsB (z.fst.fst.length + [e].length) 80 then
                    rec ((z.fst.fst ++ [e], IntKind.i64.wrap (z.fst.snd.fst + 1), ()), (), (), ())
                  else none
              else rec ((z.fst.fst, IntKind.i64.wrap (z.fst.snd.fst + 1), ()), (), (), ())
          else rec ((z.fst.fst, IntKind.i64.wrap (z.fst.snd.fst + 1), ()), (), (), ())
      else Option.bind (F_epitaphref13_Dots N z.fst.fst) fun (y : List (Int × Int)) => some y)
    N (([], 0, ()), (), (), ())
theorem E_epitaphref17_Delete (N : Nat) : runF Try.prog [e_epitaphref13_Dots N] [] N Try.f44 (.seq .lf (.seq .lf (.seq (.seq .lf (.blk (.loop ⟨[(5, .tip 200005 tEvent none), (6, .d (.int .i64))], [], [0, 1], [], [], []⟩ .lf))) .lf))) [(.sl tEvent), (.int .u64)] [(.sl tDot)] = F_epitaphref17_Delete N := by kernel_rfl
noncomputable def e_epitaphref17_Delete (N : Nat) : Ent Try.prog := mkFn 44 Try.f44 (.seq .lf (.seq .lf (.seq (.seq .lf (.blk (.loop ⟨[(5, .tip 200005 tEvent none), (6, .d (.int .i64))], [], [0, 1], [], [], []⟩ .lf))) .lf))) [(.sl tEvent), (.int .u64)] [(.sl tDot)] (F_epitaphref17_Delete N) mixed Try.func44 (.mk' Try.func44 rfl (by decide)) rfl (E_epitaphref17_Delete N)
/-- epitaph/epitaphref17.Dead -/
noncomputable def F_epitaphref17_Dead (N : Nat) : Fun [(.sl tEvent), tDot] (Option (ResT [.bool])) :=
  fun (x : List ((Int × Int) × UInt8 × Int × UInt8 × List UInt8 × List (Int × Int))) (x_1 : Int × Int) =>
  iter
    (fun (rec : (Int × Unit) × Unit × Unit × Unit → Option Bool) (z : (Int × Unit) × Unit × Unit × Unit) =>
      bif decide (z.fst.fst < (↑x.length : Int)) then
        (at? x z.fst.fst).bind fun (e : (Int × Int) × UInt8 × Int × UInt8 × List UInt8 × List (Int × Int)) =>
          Option.bind (F_epitaphref07_Has N e.snd.snd.snd.snd.snd x_1) fun (y : Bool) =>
            bif y then some true else rec ((IntKind.i64.wrap (z.fst.fst + 1), ()), (), (), ())
      else some false)
    N ((0, ()), (), (), ())
theorem E_epitaphref17_Dead (N : Nat) : runF Try.prog [e_epitaphref07_Has N] [] N Try.f45 (.seq .lf (.seq (.seq .lf (.blk (.loop ⟨[(5, .d (.int .i64))], [], [0, 3], [1003], [], []⟩ .lf))) .lf)) [(.sl tEvent), tDot] [.bool] = F_epitaphref17_Dead N := by kernel_rfl
noncomputable def e_epitaphref17_Dead (N : Nat) : Ent Try.prog := mkFn 45 Try.f45 (.seq .lf (.seq (.seq .lf (.blk (.loop ⟨[(5, .d (.int .i64))], [], [0, 3], [1003], [], []⟩ .lf))) .lf)) [(.sl tEvent), tDot] [.bool] (F_epitaphref17_Dead N) mixed Try.func45 (.mk' Try.func45 rfl (by decide)) rfl (E_epitaphref17_Dead N)
end Go.Proofs.Xg
/-
  EventTells: the example, and what events may be.
-/
set_option linter.unusedVariables false
set_option linter.unusedSimpArgs false
namespace Go.Proofs.Xg
open Go Go.Xl Go.Ab Go.Proofs Go.Sort

theorem sort_example : sortDots [(2, 1), (1, 4), (1, 9)] = [(1, 4), (1, 9), (2, 1)] := by
  have : F_SortFunc_Dot [(2, 1), (1, 4), (1, 9)] = [(1, 4), (1, 9), (2, 1)] := by
    simp [F_SortFunc_Dot, List.mergeSort, List.MergeSort.Internal.splitInTwo, List.merge, ltOf, cfDot]
  unfold sortDots
  rw [this]
  decide

theorem works_eq (N : Nat) (hN : 10 < N) : F_epitaphlaw13_works N = some true := by
  have hd : F_event_Dots N [((2, 1), 1, 0, 0, [], [(1, 4), (1, 9)])] = some [(1, 4), (1, 9), (2, 1)] := by
    unfold F_event_Dots
    rw [show N = (N - 2) + 1 + 1 by omega]
    simp only [iter]
    have e1 : IntKind.i64.wrap 1 = 1 := by decide
    have e2 : F_dot_Sort (N - 2 + 1 + 1) [(2, 1), (1, 4), (1, 9)] = some [(1, 4), (1, 9), (2, 1)] := by
      rw [dotSort_eq _ _ (by decide) (by simp only [List.length_cons, List.length_nil]; omega), sort_example]
    simp [at?, fitsB, e1, e2]
  unfold F_epitaphlaw13_works
  rw [hd]
  simp only [Option.bind_some]
  rw [same_eq N _ _ (by decide) (by simp; omega)]
  rfl

/-- may a dot be -/
def gd (x : Int × Int) : Bool := decide (0 < x.1) && decide (0 < x.2) && decide (x.2 ≤ 281474976710655)

theorem dotGood_eq (N : Nat) (x : Int × Int) : F_dot_Good N x = some (gd x) := by
  unfold F_dot_Good gd
  cases decide (0 < x.1) <;> cases decide (0 < x.2) <;> rfl

theorem refDotGood_eq (N : Nat) (x : Int × Int) : F_epitaphref07_Good N x = some (gd x) := by
  unfold F_epitaphref07_Good gd
  have e1 : decide (1 ≤ x.1) = decide (0 < x.1) := by congr 1
  have e2 : decide (1 ≤ x.2) = decide (0 < x.2) := by congr 1
  have e3 : decide (x.2 < 281474976710656) = decide (x.2 ≤ 281474976710655) := by simp only [decide_eq_decide]; omega
  rw [e1, e2, e3]
  cases decide (0 < x.1) <;> cases decide (0 < x.2) <;> rfl

def tx (l : List UInt8) : Bool := decide (l.length ≤ 60) && l.all fun c => !(decide (c < 32)) && !(decide (126 < c))

theorem text_eq (N : Nat) (l : List UInt8) (hl : l.length < 9223372036854775807) (hN : l.length < N) : F_field_Text N l = some (tx l) := by
  unfold F_field_Text
  by_cases h60 : 60 < l.length
  · have e : decide ((60 : Int) < (l.length : Int)) = true := by simp; omega
    simp only [e, cond_true, tx, decide_eq_false (show ¬ l.length ≤ 60 by omega), Bool.false_and]
  · have e : decide ((60 : Int) < (l.length : Int)) = false := by simp; omega
    simp only [e, cond_false]
    refine (scan_eq l.length (fun k => some ((l.drop k).all fun c => !(decide (c < 32)) && !(decide (126 < c)))) 0 ?_ ?_ N hN).trans ?_
    · intro rec k _ hk hr
      simp only [dec_lt, at?_nat, getl hk, Option.bind_some, i64_succ (show k + 1 < 9223372036854775808 by omega), hr, decide_eq_true hk, cond_true]
      have e1 : l.drop k = l[k] :: l.drop (k + 1) := List.drop_eq_getElem_cons hk
      rw [e1, List.all_cons]
      cases decide (l[k] < 32) <;> cases decide (126 < l[k]) <;> rfl
    · intro rec k hk
      simp only [dec_lt, decide_eq_false (show ¬ k < l.length by omega), cond_false]
      rw [List.drop_eq_nil_of_le hk]; rfl
    · simp only [tx, decide_eq_true (show l.length ≤ 60 by omega), Bool.true_and, List.drop_zero]

theorem refText_eq (N : Nat) (l : List UInt8) (hl : l.length < 9223372036854775807) (hN : l.length < N) : F_epitaphref11_Text N l = some (tx l) := by
  unfold F_epitaphref11_Text
  refine (scan_eq l.length (fun k => some (((l.drop k).all fun c => !(decide (c < 32)) && !(decide (126 < c))) && decide (l.length ≤ 60))) 0 ?_ ?_ N hN).trans ?_
  · intro rec k _ hk hr
    simp only [dec_lt, at?_nat, getl hk, Option.bind_some, i64_succ (show k + 1 < 9223372036854775808 by omega), hr, decide_eq_true hk, cond_true]
    have e1 : l.drop k = l[k] :: l.drop (k + 1) := List.drop_eq_getElem_cons hk
    rw [e1, List.all_cons]
    cases decide (l[k] < 32) <;> cases decide (126 < l[k]) <;> rfl
  · intro rec k hk
    simp only [dec_lt, decide_eq_false (show ¬ k < l.length by omega), cond_false]
    rw [List.drop_eq_nil_of_le hk]
    simp only [List.all_nil, Bool.true_and]
    congr 1
    simp only [decide_eq_decide]; omega
  · simp only [tx, List.drop_zero, Bool.and_comm]

end Go.Proofs.Xg
/-
  EventTells: lists that rise, dots of numbers.
-/
set_option linter.unusedVariables false
set_option linter.unusedSimpArgs false
namespace Go.Proofs.Xg
open Go Go.Xl Go.Ab Go.Proofs Go.Sort

def rise : List (Int × Int) → Bool
  | [] => true
  | [_] => true
  | x :: y :: r => decide (cfDot x y < 0) && rise (y :: r)

theorem rise_short {l : List (Int × Int)} (h : l.length ≤ 1) : rise l = true := by
  match l with
  | [] => rfl
  | [_] => rfl
  | _ :: _ :: _ => simp at h

theorem rise_drop {l : List (Int × Int)} {k : Nat} (h0 : 0 < k) (hk : k < l.length) : rise (l.drop (k - 1)) = (decide (cfDot l[k - 1] l[k] < 0) && rise (l.drop k)) := by
  have e1 : l.drop (k - 1) = l[k - 1] :: l.drop (k - 1 + 1) := List.drop_eq_getElem_cons (by omega)
  have e2 : l.drop k = l[k] :: l.drop (k + 1) := List.drop_eq_getElem_cons hk
  rw [show k - 1 + 1 = k by omega] at e1
  rw [e1, e2, rise]

theorem refCmp_eq (N : Nat) (x y : Int × Int) : F_epitaphref07_Cmp N x y = some (cfDot x y) := by
  simp only [F_epitaphref07_Cmp, cfDot, cond_eq_ite]
  grind

theorem rising_eq (N : Nat) (l : List (Int × Int)) (hl : l.length < 9223372036854775807) (hN : l.length < N) : F_dot_Rising N l = some (rise l) := by
  unfold F_dot_Rising
  refine (scan_eq l.length (fun k => some (rise (l.drop (k - 1)))) 0 ?_ ?_ N hN).trans rfl
  · intro rec k _ hk hr
    by_cases h0 : 0 < k
    · have h0' : decide ((0 : Int) < (k : Int)) = true := by simp; omega
      have e1 : IntKind.i64.wrap ((k : Int) - 1) = ((k - 1 : Nat) : Int) := i64_pred h0 (by omega)
      simp only [dec_lt, h0', e1, at?_nat, getl hk, getl (show k - 1 < l.length by omega), Option.bind_some, i64_succ (show k + 1 < 9223372036854775808 by omega), hr, decide_eq_true hk, cond_true, Cmp_eq]
      rw [rise_drop h0 hk, show k + 1 - 1 = k by omega]
      by_cases hc : 0 ≤ cfDot l[k - 1] l[k]
      · simp only [decide_eq_true hc, cond_true, decide_eq_false (show ¬ cfDot l[k - 1] l[k] < 0 by omega), Bool.false_and]
      · simp only [decide_eq_false hc, cond_false, decide_eq_true (show cfDot l[k - 1] l[k] < 0 by omega), Bool.true_and]
    · have : k = 0 := by omega
      subst this
      have h0' : decide ((0 : Int) < ((0 : Nat) : Int)) = false := by simp
      simp only [dec_lt, h0', i64_succ (show 0 + 1 < 9223372036854775808 by omega), hr, decide_eq_true hk, cond_true, cond_false]
  · intro rec k hk
    simp only [dec_lt, decide_eq_false (show ¬ k < l.length by omega), cond_false]
    rw [rise_short]; rw [List.length_drop]; omega

theorem refRising_eq (N : Nat) (l : List (Int × Int)) (hl : l.length < 9223372036854775807) (hN : l.length < N) : F_epitaphref07_Rising N l = some (rise l) := by
  unfold F_epitaphref07_Rising
  refine (scan_eq l.length (fun k => some (rise (l.drop (k - 1)))) 1 ?_ ?_ N hN).trans rfl
  · intro rec k h0 hk hr
    have e1 : IntKind.i64.wrap ((k : Int) - 1) = ((k - 1 : Nat) : Int) := i64_pred h0 (by omega)
    simp only [dec_lt, e1, at?_nat, getl hk, getl (show k - 1 < l.length by omega), Option.bind_some, i64_succ (show k + 1 < 9223372036854775808 by omega), hr, decide_eq_true hk, cond_true, refCmp_eq]
    rw [rise_drop h0 hk, show k + 1 - 1 = k by omega]
    by_cases hc : 0 ≤ cfDot l[k - 1] l[k]
    · simp only [decide_eq_true hc, cond_true, decide_eq_false (show ¬ cfDot l[k - 1] l[k] < 0 by omega), Bool.false_and]
    · simp only [decide_eq_false hc, cond_false, decide_eq_true (show cfDot l[k - 1] l[k] < 0 by omega), Bool.true_and]
  · intro rec k hk
    simp only [dec_lt, decide_eq_false (show ¬ k < l.length by omega), cond_false]
    rw [rise_short]; rw [List.length_drop]; omega

end Go.Proofs.Xg
/-
  Dots put one by one; the dots of events.
-/
set_option linter.unusedVariables false
set_option linter.unusedSimpArgs false
set_option maxRecDepth 100000
namespace Go.Proofs.Xg
open Go Go.Xl Go.Ab Go.Proofs Go.Sort

def ltD (x y : Int × Int) : Bool := ltOf cfDot x y

theorem ltD_asymm (x y : Int × Int) (h : ltD x y = true) : ltD y x = false := by
  unfold ltD at *
  rw [dot_lt] at *
  simp at *; omega
theorem ltD_trans {x y z : Int × Int} (h : ltD x y = true) (h' : ltD y z = true) : ltD x z = true := by
  unfold ltD at *
  rw [dot_lt] at *
  simp at *; omega
theorem ltD_total (x y : Int × Int) (h1 : ltD x y = false) (h2 : ltD y x = false) : x = y := dot_total x y h1 h2
theorem gtD (x y : Int × Int) : decide (0 < cfDot x y) = ltD y x := by
  unfold ltD
  rw [dot_lt, Bool.eq_iff_iff]
  unfold cfDot
  simp only [decide_eq_true_eq]
  grind
theorem ltD_def (x y : Int × Int) : decide (cfDot x y < 0) = ltD x y := rfl

/-- a dot more -/
def putF (d : Int × Int) (l : List (Int × Int)) : List (Int × Int) := l.filter (fun x => ltD x d) ++ [d] ++ l.filter (fun x => ltD d x)

theorem putF_length (d : Int × Int) (l : List (Int × Int)) : (putF d l).length ≤ l.length + 1 := by
  unfold putF
  have : ∀ l : List (Int × Int), (l.filter (fun x => ltD x d)).length + (l.filter (fun x => ltD d x)).length ≤ l.length := by
    intro l
    induction l with
    | nil => simp
    | cons x r ih =>
      simp only [List.filter_cons]
      cases h1 : ltD x d with
      | true => rw [ltD_asymm _ _ h1]; simp; omega
      | false => cases ltD d x <;> simp <;> omega
  have := this l
  simp; omega

theorem putF_mem (d x : Int × Int) (l : List (Int × Int)) : x ∈ putF d l ↔ x = d ∨ x ∈ l := by
  unfold putF
  simp only [List.mem_append, List.mem_filter, List.mem_singleton]
  constructor
  · rintro ((⟨h, _⟩ | h) | ⟨h, _⟩)
    · exact .inr h
    · exact .inl h
    · exact .inr h
  · rintro (h | h)
    · exact .inl (.inr h)
    · cases h1 : ltD x d with
      | true => exact .inl (.inl ⟨h, rfl⟩)
      | false =>
        cases h2 : ltD d x with
        | true => exact .inr ⟨h, rfl⟩
        | false => exact .inl (.inr (ltD_total _ _ h1 h2))

theorem putF_asc (d : Int × Int) (l : List (Int × Int)) (h : SAsc ltD l) : SAsc ltD (putF d l) := by
  unfold putF SAsc
  rw [List.append_assoc, List.pairwise_append, List.singleton_append, List.pairwise_cons]
  refine ⟨List.Pairwise.filter _ h, ⟨fun y hy => (List.mem_filter.1 hy).2, List.Pairwise.filter _ h⟩, ?_⟩
  intro a ha b hb
  have h1 := (List.mem_filter.1 ha).2
  rcases List.mem_cons.1 hb with rfl | hb
  · exact h1
  · exact ltD_trans h1 (List.mem_filter.1 hb).2

/-- dots put one by one -/
def putsF (l : List (Int × Int)) : List (Int × Int) := l.foldl (fun q d => putF d q) []

theorem putsF_facts : ∀ (l q : List (Int × Int)), SAsc ltD q → SAsc ltD (l.foldl (fun q d => putF d q) q) ∧ (∀ x, x ∈ l.foldl (fun q d => putF d q) q ↔ x ∈ q ∨ x ∈ l) ∧ (l.foldl (fun q d => putF d q) q).length ≤ q.length + l.length
  | [], q, h => ⟨h, by simp, by simp⟩
  | d :: r, q, h => by
    obtain ⟨h1, h2, h3⟩ := putsF_facts r (putF d q) (putF_asc d q h)
    refine ⟨h1, fun x => ?_, ?_⟩
    · rw [List.foldl_cons, h2, putF_mem]; simp; constructor <;> rintro (h | h) <;> grind
    · rw [List.foldl_cons]
      have := putF_length d q
      simp; omega

theorem compGo_mem {p x : Int × Int} : ∀ {l : List (Int × Int)}, (x = p ∨ x ∈ compGo p l) ↔ (x = p ∨ x ∈ l)
  | [] => by simp [compGo]
  | y :: r => by
    simp only [compGo]
    by_cases hy : y = p
    · subst hy
      rw [if_pos rfl, compGo_mem (l := r)]; simp
    · rw [if_neg hy]
      have := compGo_mem (p := y) (x := x) (l := r)
      simp only [List.mem_cons]
      rw [this]

theorem compGo_asc : ∀ (p : Int × Int) (l : List (Int × Int)), (p :: l).Pairwise (fun a b => ltD b a = false) → SAsc ltD (p :: compGo p l)
  | p, [], h => by simp [compGo, SAsc]
  | p, y :: r, h => by
    have h' := h
    simp only [List.pairwise_cons, List.mem_cons] at h'
    simp only [compGo]
    by_cases hy : y = p
    · subst hy
      rw [if_pos rfl]
      exact compGo_asc y r (by simp only [List.pairwise_cons]; exact ⟨fun a ha => h'.1 a (.inr ha), h'.2.2⟩)
    · rw [if_neg hy]
      have ih := compGo_asc y r (by simp only [List.pairwise_cons]; exact h'.2)
      have hpy : ltD p y = true := by
        cases hh : ltD p y with
        | true => rfl
        | false => exact absurd (ltD_total _ _ (h'.1 y (.inl rfl)) hh) hy
      unfold SAsc at *
      rw [List.pairwise_cons]
      refine ⟨fun a ha => ?_, ih⟩
      rcases List.mem_cons.1 ha with rfl | ha
      · exact hpy
      · exact ltD_trans hpy ((List.pairwise_cons.1 ih).1 a ha)

theorem sortDots_facts (l : List (Int × Int)) : SAsc ltD (sortDots l) ∧ ∀ x, x ∈ sortDots l ↔ x ∈ l := by
  have hp : (F_SortFunc_Dot l).Pairwise (fun a b => ltD b a = false) := by
    have := List.pairwise_mergeSort (le := fun x y => !(ltOf cfDot) y x) (by
      intro a b c h1 h2
      simp only [Bool.not_eq_true'] at *
      exact dot_swo.ntrans _ _ _ h2 h1) (by
      intro a b
      cases h : ltOf cfDot b a with
      | false => simp [h]
      | true => simp [h, ltD_asymm b a h] ; exact ltD_asymm b a h) l
    refine this.imp ?_
    intro a b h
    simpa [ltD] using h
  have hm : ∀ x, x ∈ F_SortFunc_Dot l ↔ x ∈ l := fun x => by simp [F_SortFunc_Dot]
  unfold sortDots
  cases hs : F_SortFunc_Dot l with
  | nil =>
    rw [hs] at hm
    exact ⟨by simp [comp, SAsc], by simpa [comp] using hm⟩
  | cons p r =>
    rw [hs] at hm hp
    refine ⟨compGo_asc p r hp, fun x => ?_⟩
    simp only [comp, List.mem_cons]
    rw [compGo_mem, ← hm x, List.mem_cons]

theorem sortDots_puts (l : List (Int × Int)) : sortDots l = putsF l := by
  obtain ⟨h1, h2⟩ := sortDots_facts l
  obtain ⟨h3, h4, _⟩ := putsF_facts l [] (by simp [SAsc])
  exact SAsc.ext ltD_asymm h1 h3 fun x => by rw [h2, putsF, h4]; simp

theorem refPut_eq (N : Nat) (l : List (Int × Int)) (d : Int × Int) (hl : l.length ≤ 1000000) (hN : 1000000 < N) : F_epitaphref07_Put N l d = some (putF d l) := by
  unfold F_epitaphref07_Put
  have e0 := foldl_filter (fun x => ltD x d) l []
  rw [fold_loop l (fun a x => cond (ltD x d) (a ++ [x]) a) [] (fun a => some (a ++ [d] ++ l.filter (fun x => ltD d x))) ?_ ?_ N (by omega), e0]
  · rfl
  · intro rec k a hk ha
    have hal : a.length ≤ k := by
      rw [ha, foldl_filter, List.nil_append]
      have := List.length_filter_le (fun x => ltD x d) (l.take k)
      rw [List.length_take] at this; omega
    have hf : fitsB (a.length + [l[k]].length) 16 = true := fit (by simp; omega) (by simp; omega)
    simp only [dec_lt, decide_eq_true hk, cond_true, at?_nat, getl hk, Option.bind_some, refCmp_eq, ltD_def, hf, i64_succ (show k + 1 < 9223372036854775808 by omega)]
    cases ltD l[k] d <;> rfl
  · intro rec
    have hal : (l.foldl (fun a x => cond (ltD x d) (a ++ [x]) a) []).length ≤ l.length := by
      rw [foldl_filter, List.nil_append]
      exact List.length_filter_le _ _
    generalize l.foldl (fun a x => cond (ltD x d) (a ++ [x]) a) [] = b at *
    have hf : fitsB (b.length + [d].length) 16 = true := fit (by simp; omega) (by simp; omega)
    simp only [dec_lt, decide_eq_false (Nat.lt_irrefl _), cond_false, hf, cond_true]
    have e1 := foldl_filter (fun x => ltD d x) l (b ++ [d])
    rw [fold_loop l (fun a x => cond (ltD d x) (a ++ [x]) a) (b ++ [d]) (fun a => some a) ?_ ?_ N (by omega), e1]
    · intro rec k a hk ha
      have hal : a.length ≤ k + b.length + 1 := by
        rw [ha, foldl_filter]
        have := List.length_filter_le (ltD d) (l.take k)
        rw [List.length_take] at this
        rw [List.length_append, List.length_append, List.length_singleton]
        omega
      have hf : fitsB (a.length + [l[k]].length) 16 = true := fit (by simp; omega) (by simp; omega)
      simp only [dec_lt, decide_eq_true hk, cond_true, at?_nat, getl hk, Option.bind_some, refCmp_eq, gtD, hf, i64_succ (show k + 1 < 9223372036854775808 by omega)]
      cases ltD d l[k] <;> rfl
    · intro rec
      simp only [dec_lt, decide_eq_false (Nat.lt_irrefl _), cond_false]

end Go.Proofs.Xg
set_option linter.unusedVariables false
set_option maxRecDepth 100000
namespace Go.Proofs.Xg
open Go Go.Xl Go.Ab Go.Proofs


/-- epitaph/epitaphref13.Put -/
noncomputable def F_epitaphref13_Put (N : Nat) : Fun [(.sl tEvent), tEvent] (Option (ResT [(.sl tEvent)])) :=
  fun (x : List ((Int × Int) × UInt8 × Int × UInt8 × List UInt8 × List (Int × Int)))
    (x_1 : (Int × Int) × UInt8 × Int × UInt8 × List UInt8 × List (Int × Int)) =>
  iter
    (fun
        (rec :
          (List ((Int × Int) × UInt8 × Int × UInt8 × List UInt8 × List (Int × Int)) × Bool × Int × Unit) ×
              Unit × Unit × Unit →
            Option (List ((Int × Int) × UInt8 × Int × UInt8 × List UInt8 × List (Int × Int))))
        (z :
          (List ((Int × Int) × UInt8 × Int × UInt8 × List UInt8 × List (Int × Int)) × Bool × Int × Unit) ×
            Unit × Unit × Unit) =>
      bif decide (z.fst.snd.snd.fst < (↑x.length : Int)) then
        (at? x z.fst.snd.snd.fst).bind fun (e : (Int × Int) × UInt8 × Int × UInt8 × List UInt8 × List (Int × Int)) =>
          Option.bind (F_epitaphref07_Cmp N e.fst x_1.fst) fun (y : Int) =>
            bif y == 0 then some x
            else
              joinAt
                (fun
                    (z_1 :
                      (List ((Int × Int) × UInt8 × Int × UInt8 × List UInt8 × List (Int × Int)) × Bool × Unit) ×
                        Unit × Unit × Unit) =>
                  (at? x z.fst.snd.snd.fst).bind
                    fun (e : (Int × Int) × UInt8 × Int × UInt8 × List UInt8 × List (Int × Int)) =>
                    bif fitsB (z_1.fst.fst.length + [e].length) 80 then
                      rec
                        ((z_1.fst.fst ++ [e], z_1.fst.snd.fst, IntKind.i64.wrap (z.fst.snd.snd.fst + 1), ()), (), (),
                          ())
                    else none)
                fun
                  (k :
                    (List ((Int × Int) × UInt8 × Int × UInt8 × List UInt8 × List (Int × Int)) × Bool × Unit) ×
                        Unit × Unit × Unit →
                      Option (List ((Int × Int) × UInt8 × Int × UInt8 × List UInt8 × List (Int × Int)))) =>
                bif decide (0 < y) then
                  bif !z.fst.snd.fst then
                    bif fitsB (z.fst.fst.length + [x_1].length) 80 then k ((z.fst.fst ++ [x_1], true, ()), (), (), ())
                    else none
                  else k ((z.fst.fst, z.fst.snd.fst, ()), (), (), ())
                else k ((z.fst.fst, z.fst.snd.fst, ()), (), (), ())
      else
        bif !z.fst.snd.fst then bif fitsB (z.fst.fst.length + [x_1].length) 80 then some (z.fst.fst ++ [x_1]) else none
        else some z.fst.fst)
    N (([], false, 0, ()), (), (), ())
theorem E_epitaphref13_Put (N : Nat) : runF Try.prog [e_epitaphref07_Cmp N] [] N Try.f47 (.seq .lf (.seq .lf (.seq .lf (.seq (.seq .lf (.blk (.loop ⟨[(5, .tip 200005 tEvent none), (6, .d .bool), (7, .d (.int .i64))], [], [0, 3], [1003], [], []⟩ (.seq .lf (.seq (.blk (.seq .lf (.seq .lf (.join ⟨[(5, .tip 200005 tEvent none), (6, .d .bool)], [], [0, 3, 7], [1003], [], []⟩ .lf .lf)))) .lf))))) .lf)))) [(.sl tEvent), tEvent] [(.sl tEvent)] = F_epitaphref13_Put N := by kernel_rfl
noncomputable def e_epitaphref13_Put (N : Nat) : Ent Try.prog := mkFn 47 Try.f47 (.seq .lf (.seq .lf (.seq .lf (.seq (.seq .lf (.blk (.loop ⟨[(5, .tip 200005 tEvent none), (6, .d .bool), (7, .d (.int .i64))], [], [0, 3], [1003], [], []⟩ (.seq .lf (.seq (.blk (.seq .lf (.seq .lf (.join ⟨[(5, .tip 200005 tEvent none), (6, .d .bool)], [], [0, 3, 7], [1003], [], []⟩ .lf .lf)))) .lf))))) .lf)))) [(.sl tEvent), tEvent] [(.sl tEvent)] (F_epitaphref13_Put N) mixed Try.func47 (.mk' Try.func47 rfl (by decide)) rfl (E_epitaphref13_Put N)
/-- epitaph/epitaphref13.Sort -/
noncomputable def F_epitaphref13_Sort (N : Nat) : Fun [(.sl tEvent)] (Option (ResT [(.sl tEvent)])) :=
  fun (x : List ((Int × Int) × UInt8 × Int × UInt8 × List UInt8 × List (Int × Int))) =>
  iter
    (fun
        (rec :
          (List ((Int × Int) × UInt8 × Int × UInt8 × List UInt8 × List (Int × Int)) × Int × Unit) ×
              Unit × Unit × Unit →
            Option (List ((Int × Int) × UInt8 × Int × UInt8 × List UInt8 × List (Int × Int))))
        (z :
          (List ((Int × Int) × UInt8 × Int × UInt8 × List UInt8 × List (Int × Int)) × Int × Unit) ×
            Unit × Unit × Unit) =>
      bif decide (z.fst.snd.fst < (↑x.length : Int)) then
        (at? x z.fst.snd.fst).bind fun (e : (Int × Int) × UInt8 × Int × UInt8 × List UInt8 × List (Int × Int)) =>
          Option.bind (F_epitaphref13_Put N z.fst.fst e)
            fun (y : List ((Int × Int) × UInt8 × Int × UInt8 × List UInt8 × List (Int × Int))) =>
            rec ((y, IntKind.i64.wrap (z.fst.snd.fst + 1), ()), (), (), ())
      else some z.fst.fst)
    N (([], 0, ()), (), (), ())
theorem E_epitaphref13_Sort (N : Nat) : runF Try.prog [e_epitaphref13_Put N] [] N Try.f28 (.seq .lf (.seq .lf (.seq (.seq .lf (.blk (.loop ⟨[(3, .d (.sl tEvent)), (4, .d (.int .i64))], [], [0], [], [], []⟩ .lf))) .lf))) [(.sl tEvent)] [(.sl tEvent)] = F_epitaphref13_Sort N := by kernel_rfl
noncomputable def e_epitaphref13_Sort (N : Nat) : Ent Try.prog := mkFn 28 Try.f28 (.seq .lf (.seq .lf (.seq (.seq .lf (.blk (.loop ⟨[(3, .d (.sl tEvent)), (4, .d (.int .i64))], [], [0], [], [], []⟩ .lf))) .lf))) [(.sl tEvent)] [(.sl tEvent)] (F_epitaphref13_Sort N) mixed Try.func28 (.mk' Try.func28 rfl (by decide)) rfl (E_epitaphref13_Sort N)

/-- epitaph/epitaphref13.All -/
noncomputable def F_epitaphref13_All (N : Nat) : Fun [(.sl tEvent), (.sl tEvent)] (Option (ResT [.bool])) :=
  fun (x x_1 : List ((Int × Int) × UInt8 × Int × UInt8 × List UInt8 × List (Int × Int))) =>
  bif (↑x.length : Int) != (↑x_1.length : Int) then some false
  else
    iter
      (fun (rec : (Int × Unit) × Unit × Unit × Unit → Option Bool) (z : (Int × Unit) × Unit × Unit × Unit) =>
        bif decide (z.fst.fst < (↑x.length : Int)) then
          (at? x z.fst.fst).bind fun (e : (Int × Int) × UInt8 × Int × UInt8 × List UInt8 × List (Int × Int)) =>
            (at? x_1 z.fst.fst).bind fun (e_1 : (Int × Int) × UInt8 × Int × UInt8 × List UInt8 × List (Int × Int)) =>
              Option.bind (F_epitaphref13_Same N e e_1) fun (y : Bool) =>
                bif !y then some false else rec ((IntKind.i64.wrap (z.fst.fst + 1), ()), (), (), ())
        else some true)
      N ((0, ()), (), (), ())
theorem E_epitaphref13_All (N : Nat) : runF Try.prog [e_epitaphref13_Same N] [] N Try.f34 (.seq .lf (.seq .lf (.seq (.seq .lf (.blk (.loop ⟨[(5, .d (.int .i64))], [], [0, 1], [], [], []⟩ .lf))) .lf))) [(.sl tEvent), (.sl tEvent)] [.bool] = F_epitaphref13_All N := by kernel_rfl
noncomputable def e_epitaphref13_All (N : Nat) : Ent Try.prog := mkFn 34 Try.f34 (.seq .lf (.seq .lf (.seq (.seq .lf (.blk (.loop ⟨[(5, .d (.int .i64))], [], [0, 1], [], [], []⟩ .lf))) .lf))) [(.sl tEvent), (.sl tEvent)] [.bool] (F_epitaphref13_All N) mixed Try.func34 (.mk' Try.func34 rfl (by decide)) rfl (E_epitaphref13_All N)



/-- epitaph/kills.Live -/
noncomputable def F_kills_Live (N : Nat) : Fun [(.sl tEvent)] (Option (ResT [(.sl tEvent)])) :=
  fun (x : List ((Int × Int) × UInt8 × Int × UInt8 × List UInt8 × List (Int × Int))) =>
  Option.bind (F_event_Sort N x) fun (y : List ((Int × Int) × UInt8 × Int × UInt8 × List UInt8 × List (Int × Int))) =>
    iter
      (fun
          (rec :
            (List ((Int × Int) × UInt8 × Int × UInt8 × List UInt8 × List (Int × Int)) × Int × Unit) ×
                Unit × Unit × Unit →
              Option (List ((Int × Int) × UInt8 × Int × UInt8 × List UInt8 × List (Int × Int))))
          (z :
            (List ((Int × Int) × UInt8 × Int × UInt8 × List UInt8 × List (Int × Int)) × Int × Unit) ×
              Unit × Unit × Unit) =>
        bif decide (z.fst.snd.fst < (↑y.length : Int)) then
          (at? y z.fst.snd.fst).bind fun (e : (Int × Int) × UInt8 × Int × UInt8 × List UInt8 × List (Int × Int)) =>
            bif e.snd.fst == 1 then
              Option.bind (F_kills_Dead N y e.fst) fun (y : Bool) =>
                bif !y then
                  Option.bind (F_event_Copy N e)
                    fun (y : (Int × Int) × UInt8 × Int × UInt8 × List UInt8 × List (Int × Int)) =>
                    bif fitsB (z.fst.fst.length + [y].length) 80 then
                      rec ((z.fst.fst ++ [y], IntKind.i64.wrap (z.fst.snd.fst + 1), ()), (), (), ())
                    else none
                else rec ((z.fst.fst, IntKind.i64.wrap (z.fst.snd.fst + 1), ()), (), (), ())
            else rec ((z.fst.fst, IntKind.i64.wrap (z.fst.snd.fst + 1), ()), (), (), ())
        else some z.fst.fst)
      N (([], 0, ()), (), (), ())
theorem E_kills_Live (N : Nat) : runF Try.prog [e_event_Copy N, e_event_Sort N, e_kills_Dead N] [] N Try.f39 (.seq .lf (.seq .lf (.seq .lf (.seq (.seq .lf (.blk (.loop ⟨[(3, .tip 200003 tEvent none), (11, .d (.int .i64))], [], [4, 9, 10], [], [], []⟩ .lf))) .lf)))) [(.sl tEvent)] [(.sl tEvent)] = F_kills_Live N := by kernel_rfl
noncomputable def e_kills_Live (N : Nat) : Ent Try.prog := mkFn 39 Try.f39 (.seq .lf (.seq .lf (.seq .lf (.seq (.seq .lf (.blk (.loop ⟨[(3, .tip 200003 tEvent none), (11, .d (.int .i64))], [], [4, 9, 10], [], [], []⟩ .lf))) .lf)))) [(.sl tEvent)] [(.sl tEvent)] (F_kills_Live N) mixed Try.func39 (.mk' Try.func39 rfl (by decide)) rfl (E_kills_Live N)

/-- epitaph/epitaphlaw17.works -/
noncomputable def F_epitaphlaw17_works (N : Nat) : Fun [] (Option (ResT [.bool])) :=
  Option.bind (F_kills_Live N [((1, 1), 1, 5, 1, [], []), ((1, 2), 1, 5, 1, [], [(1, 1)])])
    fun (y : List ((Int × Int) × UInt8 × Int × UInt8 × List UInt8 × List (Int × Int))) =>
    bif (↑y.length : Int) == 1 then
      y[0]?.bind fun (e : (Int × Int) × UInt8 × Int × UInt8 × List UInt8 × List (Int × Int)) =>
        bif e.fst.fst == 1 && e.fst.snd == 2 then
          Option.bind (F_kills_Edit N y 5 1) fun (y : List (Int × Int)) =>
            Option.bind (F_epitaphref07_Same N y [(1, 1), (1, 2)]) fun (y : Bool) => some y
        else some false
    else some false
theorem E_epitaphlaw17_works (N : Nat) : runF Try.prog [e_epitaphref07_Same N, e_kills_Live N, e_kills_Edit N] [] N Try.f38 .lf [] [.bool] = F_epitaphlaw17_works N := by kernel_rfl
noncomputable def e_epitaphlaw17_works (N : Nat) : Ent Try.prog := mkFn 38 Try.f38 .lf [] [.bool] (F_epitaphlaw17_works N) mixed Try.func38 (.mk' Try.func38 rfl (by decide)) rfl (E_epitaphlaw17_works N)
theorem D_epitaphlaw17_works (N : Nat) : SoundF Try.prog 38 [.bool] [] (F_epitaphlaw17_works N) [] := E_epitaphlaw17_works N ▸ runF_sound mixed Try.func38 rfl
/-- epitaph/epitaphlaw17.KillsOrder -/
noncomputable def F_epitaphlaw17_KillsOrder (N : Nat) : Fun [(.sl tEvent), tDot, .u8] (Option (ResT [.bool])) :=
  fun (x : List ((Int × Int) × UInt8 × Int × UInt8 × List UInt8 × List (Int × Int))) (x_1 : Int × Int)
    (x_2 : UInt8) =>
  Option.bind (F_epitaphref13_Few N x 15) fun (y : Bool) =>
    bif !y then Option.bind (F_epitaphlaw17_works N) fun (y : Bool) => some y
    else
      Option.bind (F_epitaphref13_Sort N x)
        fun (y : List ((Int × Int) × UInt8 × Int × UInt8 × List UInt8 × List (Int × Int))) =>
        iter
          (fun
              (rec :
                (List ((Int × Int) × UInt8 × Int × UInt8 × List UInt8 × List (Int × Int)) × Int × Unit) ×
                    Unit × Unit × Unit →
                  Option Bool)
              (z :
                (List ((Int × Int) × UInt8 × Int × UInt8 × List UInt8 × List (Int × Int)) × Int × Unit) ×
                  Unit × Unit × Unit) =>
            bif decide (z.fst.snd.fst < (↑y.length : Int)) then
              bif (↑y.length : Int) == 0 then none
              else
                (at? y
                      ((IntKind.i64.wrap
                            (IntKind.i64.wrap (IntKind.i64.wrap ((↑y.length : Int) - 1) - z.fst.snd.fst) +
                              (↑x_2.toNat : Int))).tmod
                        (↑y.length : Int))).bind
                  fun (e : (Int × Int) × UInt8 × Int × UInt8 × List UInt8 × List (Int × Int)) =>
                  bif fitsB (z.fst.fst.length + [e].length) 80 then
                    rec ((z.fst.fst ++ [e], IntKind.i64.wrap (z.fst.snd.fst + 1), ()), (), (), ())
                  else none
            else
              Option.bind (F_kills_Live N y)
                fun (y_1 : List ((Int × Int) × UInt8 × Int × UInt8 × List UInt8 × List (Int × Int))) =>
                Option.bind (F_kills_Live N z.fst.fst)
                  fun (y_2 : List ((Int × Int) × UInt8 × Int × UInt8 × List UInt8 × List (Int × Int))) =>
                  Option.bind (F_epitaphref13_All N y_1 y_2) fun (y_3 : Bool) =>
                    bif y_3 then
                      Option.bind (F_kills_Dead N y x_1) fun (y_4 : Bool) =>
                        Option.bind (F_kills_Dead N z.fst.fst x_1) fun (y_5 : Bool) =>
                          bif y_4 == y_5 then
                            Option.bind (F_kills_Live N x)
                              fun (y_6 : List ((Int × Int) × UInt8 × Int × UInt8 × List UInt8 × List (Int × Int))) =>
                              Option.bind (F_kills_Live N y)
                                fun (y : List ((Int × Int) × UInt8 × Int × UInt8 × List UInt8 × List (Int × Int))) =>
                                Option.bind (F_epitaphref13_All N y_6 y) fun (y : Bool) =>
                                  bif y then Option.bind (F_epitaphlaw17_works N) fun (y : Bool) => some y
                                  else some false
                          else some false
                    else some false)
          N (([], 0, ()), (), (), ())
theorem E_epitaphlaw17_KillsOrder (N : Nat) : runF Try.prog [e_epitaphref13_Few N, e_epitaphref13_Sort N, e_epitaphref13_All N, e_epitaphlaw17_works N, e_kills_Live N, e_kills_Dead N] [] N Try.f8 (.seq .lf (.seq .lf (.seq .lf (.seq .lf (.seq (.seq .lf (.blk (.loop ⟨[(8, .tip 200008 tEvent none), (9, .d (.int .i64))], [], [0, 2, 4, 7], [1004], [], []⟩ .lf))) .lf))))) [(.sl tEvent), tDot, .u8] [.bool] = F_epitaphlaw17_KillsOrder N := by kernel_rfl
noncomputable def e_epitaphlaw17_KillsOrder (N : Nat) : Ent Try.prog := mkFn 8 Try.f8 (.seq .lf (.seq .lf (.seq .lf (.seq .lf (.seq (.seq .lf (.blk (.loop ⟨[(8, .tip 200008 tEvent none), (9, .d (.int .i64))], [], [0, 2, 4, 7], [1004], [], []⟩ .lf))) .lf))))) [(.sl tEvent), tDot, .u8] [.bool] (F_epitaphlaw17_KillsOrder N) mixed Try.func8 (.mk' Try.func8 rfl (by decide)) rfl (E_epitaphlaw17_KillsOrder N)
theorem D_epitaphlaw17_KillsOrder (N : Nat) : SoundF Try.prog 8 [.bool] [(.sl tEvent), tDot, .u8] (F_epitaphlaw17_KillsOrder N) [] := E_epitaphlaw17_KillsOrder N ▸ runF_sound mixed Try.func8 rfl




/-- epitaph/epitaphref17.Live -/
noncomputable def F_epitaphref17_Live (N : Nat) : Fun [(.sl tEvent)] (Option (ResT [(.sl tEvent)])) :=
  fun (x : List ((Int × Int) × UInt8 × Int × UInt8 × List UInt8 × List (Int × Int))) =>
  Option.bind (F_epitaphref13_Sort N x)
    fun (y : List ((Int × Int) × UInt8 × Int × UInt8 × List UInt8 × List (Int × Int))) =>
    iter
      (fun
          (rec :
            (List ((Int × Int) × UInt8 × Int × UInt8 × List UInt8 × List (Int × Int)) × Int × Unit) ×
                Unit × Unit × Unit →
              Option (List ((Int × Int) × UInt8 × Int × UInt8 × List UInt8 × List (Int × Int))))
          (z :
            (List ((Int × Int) × UInt8 × Int × UInt8 × List UInt8 × List (Int × Int)) × Int × Unit) ×
              Unit × Unit × Unit) =>
        bif decide (z.fst.snd.fst < (↑y.length : Int)) then
          (at? y z.fst.snd.fst).bind fun (e : (Int × Int) × UInt8 × Int × UInt8 × List UInt8 × List (Int × Int)) =>
            bif e.snd.fst == 1 then
              (at? y z.fst.snd.fst).bind fun (e : (Int × Int) × UInt8 × Int × UInt8 × List UInt8 × List (Int × Int)) =>
                Option.bind (F_epitaphref17_Dead N y e.fst) fun (y_1 : Bool) =>
                  bif !y_1 then
                    (at? y z.fst.snd.fst).bind
                      fun (e : (Int × Int) × UInt8 × Int × UInt8 × List UInt8 × List (Int × Int)) =>
                      bif fitsB (z.fst.fst.length + [e].length) 80 then
                        rec ((z.fst.fst ++ [e], IntKind.i64.wrap (z.fst.snd.fst + 1), ()), (), (), ())
                      else none
                  else rec ((z.fst.fst, IntKind.i64.wrap (z.fst.snd.fst + 1), ()), (), (), ())
            else rec ((z.fst.fst, IntKind.i64.wrap (z.fst.snd.fst + 1), ()), (), (), ())
        else some z.fst.fst)
      N (([], 0, ()), (), (), ())
theorem E_epitaphref17_Live (N : Nat) : runF Try.prog [e_epitaphref13_Sort N, e_epitaphref17_Dead N] [] N Try.f46 (.seq .lf (.seq .lf (.seq .lf (.seq (.seq .lf (.blk (.loop ⟨[(4, .tip 200004 tEvent none), (5, .d (.int .i64))], [], [3], [], [], []⟩ .lf))) .lf)))) [(.sl tEvent)] [(.sl tEvent)] = F_epitaphref17_Live N := by kernel_rfl
noncomputable def e_epitaphref17_Live (N : Nat) : Ent Try.prog := mkFn 46 Try.f46 (.seq .lf (.seq .lf (.seq .lf (.seq (.seq .lf (.blk (.loop ⟨[(4, .tip 200004 tEvent none), (5, .d (.int .i64))], [], [3], [], [], []⟩ .lf))) .lf)))) [(.sl tEvent)] [(.sl tEvent)] (F_epitaphref17_Live N) mixed Try.func46 (.mk' Try.func46 rfl (by decide)) rfl (E_epitaphref17_Live N)
/-- epitaph/epitaphlaw17.KillsTells -/
noncomputable def F_epitaphlaw17_KillsTells (N : Nat) : Fun [(.sl tEvent), (.int .u64), tDot] (Option (ResT [.bool])) :=
  fun (x : List ((Int × Int) × UInt8 × Int × UInt8 × List UInt8 × List (Int × Int))) (x_1 : Int)
    (x_2 : Int × Int) =>
  Option.bind (F_epitaphref13_Few N x 20) fun (y : Bool) =>
    bif !y then Option.bind (F_epitaphlaw17_works N) fun (y : Bool) => some y
    else
      Option.bind (F_kills_Edit N x x_1 (toU8 (IntKind.u8.wrap x_2.snd))) fun (y : List (Int × Int)) =>
        Option.bind (F_epitaphref17_Edit N x x_1 (toU8 (IntKind.u8.wrap x_2.snd))) fun (y_1 : List (Int × Int)) =>
          Option.bind (F_epitaphref07_Same N y y_1) fun (y : Bool) =>
            bif y then
              Option.bind (F_kills_Delete N x x_1) fun (y : List (Int × Int)) =>
                Option.bind (F_epitaphref17_Delete N x x_1) fun (y_2 : List (Int × Int)) =>
                  Option.bind (F_epitaphref07_Same N y y_2) fun (y : Bool) =>
                    bif y then
                      Option.bind (F_kills_Dead N x x_2) fun (y : Bool) =>
                        Option.bind (F_epitaphref17_Dead N x x_2) fun (y_3 : Bool) =>
                          bif y == y_3 then
                            Option.bind (F_kills_Live N x)
                              fun (y : List ((Int × Int) × UInt8 × Int × UInt8 × List UInt8 × List (Int × Int))) =>
                              Option.bind (F_epitaphref17_Live N x)
                                fun (y_4 : List ((Int × Int) × UInt8 × Int × UInt8 × List UInt8 × List (Int × Int))) =>
                                Option.bind (F_epitaphref13_All N y y_4) fun (y : Bool) =>
                                  bif y then Option.bind (F_epitaphlaw17_works N) fun (y : Bool) => some y
                                  else some false
                          else some false
                    else some false
            else some false
theorem E_epitaphlaw17_KillsTells (N : Nat) : runF Try.prog [e_epitaphref13_Few N, e_epitaphref13_All N, e_epitaphref07_Same N, e_epitaphlaw17_works N, e_kills_Live N, e_kills_Dead N, e_kills_Edit N, e_epitaphref17_Edit N, e_kills_Delete N, e_epitaphref17_Delete N, e_epitaphref17_Dead N, e_epitaphref17_Live N] [] N Try.f9 .lf [(.sl tEvent), (.int .u64), tDot] [.bool] = F_epitaphlaw17_KillsTells N := by kernel_rfl
noncomputable def e_epitaphlaw17_KillsTells (N : Nat) : Ent Try.prog := mkFn 9 Try.f9 .lf [(.sl tEvent), (.int .u64), tDot] [.bool] (F_epitaphlaw17_KillsTells N) mixed Try.func9 (.mk' Try.func9 rfl (by decide)) rfl (E_epitaphlaw17_KillsTells N)
theorem D_epitaphlaw17_KillsTells (N : Nat) : SoundF Try.prog 9 [.bool] [(.sl tEvent), (.int .u64), tDot] (F_epitaphlaw17_KillsTells N) [] := E_epitaphlaw17_KillsTells N ▸ runF_sound mixed Try.func9 rfl


/-- epitaph/epitaphlaw17.KillsNew -/
noncomputable def F_epitaphlaw17_KillsNew (N : Nat) : Fun [(.sl tEvent), tEvent] (Option (ResT [.bool])) :=
  fun (x : List ((Int × Int) × UInt8 × Int × UInt8 × List UInt8 × List (Int × Int)))
    (x_1 : (Int × Int) × UInt8 × Int × UInt8 × List UInt8 × List (Int × Int)) =>
  Option.bind (F_epitaphref13_Few N x 15) fun (y : Bool) =>
    bif !y then Option.bind (F_epitaphlaw17_works N) fun (y : Bool) => some y
    else
      Option.bind (F_epitaphref13_Few N [x_1] 1) fun (y : Bool) =>
        bif !y then Option.bind (F_epitaphlaw17_works N) fun (y : Bool) => some y
        else
          bif x_1.snd.fst != 1 then
            bif x_1.snd.fst != 2 then Option.bind (F_epitaphlaw17_works N) fun (y : Bool) => some y
            else
              Option.bind (F_epitaphref13_Dots N x) fun (y : List (Int × Int)) =>
                Option.bind (F_epitaphref07_Has N y x_1.fst) fun (y : Bool) =>
                  bif y then Option.bind (F_epitaphlaw17_works N) fun (y : Bool) => some y
                  else
                    Option.bind (F_kills_Live N x)
                      fun (y : List ((Int × Int) × UInt8 × Int × UInt8 × List UInt8 × List (Int × Int))) =>
                      joinAt
                        (fun
                            (z :
                              Unit ×
                                ((((Int × Int) × UInt8 × Int × UInt8 × List UInt8 × List (Int × Int)) × Unit) ×
                                    Unit) ×
                                  Unit × Unit) =>
                          bif fitsB (0 + x.length) 80 then
                            bif fitsB (([] ++ x).length + [z.snd.fst.fst.fst].length) 80 then
                              Option.bind (F_kills_Live N ([] ++ x ++ [z.snd.fst.fst.fst]))
                                fun (y_1 : List ((Int × Int) × UInt8 × Int × UInt8 × List UInt8 × List (Int × Int))) =>
                                iter
                                  (fun
                                      (rec :
                                        (List ((Int × Int) × UInt8 × Int × UInt8 × List UInt8 × List (Int × Int)) ×
                                              Int × Unit) ×
                                            Unit × Unit × Unit →
                                          Option Bool)
                                      (z_1 :
                                        (List ((Int × Int) × UInt8 × Int × UInt8 × List UInt8 × List (Int × Int)) ×
                                            Int × Unit) ×
                                          Unit × Unit × Unit) =>
                                    bif decide (z_1.fst.snd.fst < (↑y.length : Int)) then
                                      (at? y z_1.fst.snd.fst).bind
                                        fun (e : (Int × Int) × UInt8 × Int × UInt8 × List UInt8 × List (Int × Int)) =>
                                        bif e.snd.snd.fst != z.snd.fst.fst.fst.snd.snd.fst then
                                          (at? y z_1.fst.snd.fst).bind
                                            fun
                                              (e : (Int × Int) × UInt8 × Int × UInt8 × List UInt8 × List (Int × Int)) =>
                                            Option.bind (F_epitaphref13_Put N z_1.fst.fst e)
                                              fun
                                                (y :
                                                  List
                                                    ((Int × Int) ×
                                                      UInt8 × Int × UInt8 × List UInt8 × List (Int × Int))) =>
                                              rec ((y, IntKind.i64.wrap (z_1.fst.snd.fst + 1), ()), (), (), ())
                                        else
                                          bif z.snd.fst.fst.fst.snd.fst == 1 then
                                            (at? y z_1.fst.snd.fst).bind
                                              fun
                                                (e :
                                                  (Int × Int) × UInt8 × Int × UInt8 × List UInt8 × List (Int × Int)) =>
                                              bif e.snd.snd.snd.fst != z.snd.fst.fst.fst.snd.snd.snd.fst then
                                                (at? y z_1.fst.snd.fst).bind
                                                  fun
                                                    (e :
                                                      (Int × Int) ×
                                                        UInt8 × Int × UInt8 × List UInt8 × List (Int × Int)) =>
                                                  Option.bind (F_epitaphref13_Put N z_1.fst.fst e)
                                                    fun
                                                      (y :
                                                        List
                                                          ((Int × Int) ×
                                                            UInt8 × Int × UInt8 × List UInt8 × List (Int × Int))) =>
                                                    rec ((y, IntKind.i64.wrap (z_1.fst.snd.fst + 1), ()), (), (), ())
                                              else
                                                rec
                                                  ((z_1.fst.fst, IntKind.i64.wrap (z_1.fst.snd.fst + 1), ()), (), (),
                                                    ())
                                          else
                                            rec ((z_1.fst.fst, IntKind.i64.wrap (z_1.fst.snd.fst + 1), ()), (), (), ())
                                    else
                                      joinAt
                                        (fun
                                            (z :
                                              (List
                                                    ((Int × Int) ×
                                                      UInt8 × Int × UInt8 × List UInt8 × List (Int × Int)) ×
                                                  Unit) ×
                                                Unit × Unit × Unit) =>
                                          Option.bind (F_epitaphref13_All N y_1 z.fst.fst) fun (y : Bool) =>
                                            bif y then Option.bind (F_epitaphlaw17_works N) fun (y : Bool) => some y
                                            else some false)
                                        fun
                                          (k :
                                            (List ((Int × Int) × UInt8 × Int × UInt8 × List UInt8 × List (Int × Int)) ×
                                                  Unit) ×
                                                Unit × Unit × Unit →
                                              Option Bool) =>
                                        bif z.snd.fst.fst.fst.snd.fst == 1 then
                                          Option.bind (F_epitaphref13_Put N z_1.fst.fst z.snd.fst.fst.fst)
                                            fun
                                              (y :
                                                List
                                                  ((Int × Int) ×
                                                    UInt8 × Int × UInt8 × List UInt8 × List (Int × Int))) =>
                                            k ((y, ()), (), (), ())
                                        else k ((z_1.fst.fst, ()), (), (), ()))
                                  N (([], 0, ()), (), (), ())
                            else none
                          else none)
                        fun
                          (k :
                            Unit ×
                                ((((Int × Int) × UInt8 × Int × UInt8 × List UInt8 × List (Int × Int)) × Unit) ×
                                    Unit) ×
                                  Unit × Unit →
                              Option Bool) =>
                        bif x_1.snd.fst == 1 then
                          Option.bind (F_kills_Edit N y x_1.snd.snd.fst x_1.snd.snd.snd.fst)
                            fun (y : List (Int × Int)) =>
                            k
                              ((),
                                (((x_1.fst, x_1.snd.fst, x_1.snd.snd.fst, x_1.snd.snd.snd.fst, x_1.snd.snd.snd.snd.fst,
                                      y),
                                    ()),
                                  ()),
                                (), ())
                        else
                          Option.bind (F_kills_Delete N y x_1.snd.snd.fst) fun (y : List (Int × Int)) =>
                            k
                              ((),
                                (((x_1.fst, x_1.snd.fst, x_1.snd.snd.fst, x_1.snd.snd.snd.fst, x_1.snd.snd.snd.snd.fst,
                                      y),
                                    ()),
                                  ()),
                                (), ())
          else
            Option.bind (F_epitaphref13_Dots N x) fun (y : List (Int × Int)) =>
              Option.bind (F_epitaphref07_Has N y x_1.fst) fun (y : Bool) =>
                bif y then Option.bind (F_epitaphlaw17_works N) fun (y : Bool) => some y
                else
                  Option.bind (F_kills_Live N x)
                    fun (y : List ((Int × Int) × UInt8 × Int × UInt8 × List UInt8 × List (Int × Int))) =>
                    joinAt
                      (fun
                          (z :
                            Unit ×
                              ((((Int × Int) × UInt8 × Int × UInt8 × List UInt8 × List (Int × Int)) × Unit) × Unit) ×
                                Unit × Unit) =>
                        bif fitsB (0 + x.length) 80 then
                          bif fitsB (([] ++ x).length + [z.snd.fst.fst.fst].length) 80 then
                            Option.bind (F_kills_Live N ([] ++ x ++ [z.snd.fst.fst.fst]))
                              fun (y_1 : List ((Int × Int) × UInt8 × Int × UInt8 × List UInt8 × List (Int × Int))) =>
                              iter
                                (fun
                                    (rec :
                                      (List ((Int × Int) × UInt8 × Int × UInt8 × List UInt8 × List (Int × Int)) ×
                                            Int × Unit) ×
                                          Unit × Unit × Unit →
                                        Option Bool)
                                    (z_1 :
                                      (List ((Int × Int) × UInt8 × Int × UInt8 × List UInt8 × List (Int × Int)) ×
                                          Int × Unit) ×
                                        Unit × Unit × Unit) =>
                                  bif decide (z_1.fst.snd.fst < (↑y.length : Int)) then
                                    (at? y z_1.fst.snd.fst).bind
                                      fun (e : (Int × Int) × UInt8 × Int × UInt8 × List UInt8 × List (Int × Int)) =>
                                      bif e.snd.snd.fst != z.snd.fst.fst.fst.snd.snd.fst then
                                        (at? y z_1.fst.snd.fst).bind
                                          fun (e : (Int × Int) × UInt8 × Int × UInt8 × List UInt8 × List (Int × Int)) =>
                                          Option.bind (F_epitaphref13_Put N z_1.fst.fst e)
                                            fun
                                              (y :
                                                List
                                                  ((Int × Int) ×
                                                    UInt8 × Int × UInt8 × List UInt8 × List (Int × Int))) =>
                                            rec ((y, IntKind.i64.wrap (z_1.fst.snd.fst + 1), ()), (), (), ())
                                      else
                                        bif z.snd.fst.fst.fst.snd.fst == 1 then
                                          (at? y z_1.fst.snd.fst).bind
                                            fun
                                              (e : (Int × Int) × UInt8 × Int × UInt8 × List UInt8 × List (Int × Int)) =>
                                            bif e.snd.snd.snd.fst != z.snd.fst.fst.fst.snd.snd.snd.fst then
                                              (at? y z_1.fst.snd.fst).bind
                                                fun
                                                  (e :
                                                    (Int × Int) ×
                                                      UInt8 × Int × UInt8 × List UInt8 × List (Int × Int)) =>
                                                Option.bind (F_epitaphref13_Put N z_1.fst.fst e)
                                                  fun
                                                    (y :
                                                      List
                                                        ((Int × Int) ×
                                                          UInt8 × Int × UInt8 × List UInt8 × List (Int × Int))) =>
                                                  rec ((y, IntKind.i64.wrap (z_1.fst.snd.fst + 1), ()), (), (), ())
                                            else
                                              rec
                                                ((z_1.fst.fst, IntKind.i64.wrap (z_1.fst.snd.fst + 1), ()), (), (), ())
                                        else rec ((z_1.fst.fst, IntKind.i64.wrap (z_1.fst.snd.fst + 1), ()), (), (), ())
                                  else
                                    joinAt
                                      (fun
                                          (z :
                                            (List ((Int × Int) × UInt8 × Int × UInt8 × List UInt8 × List (Int × Int)) ×
                                                Unit) ×
                                              Unit × Unit × Unit) =>
                                        Option.bind (F_epitaphref13_All N y_1 z.fst.fst) fun (y : Bool) =>
                                          bif y then Option.bind (F_epitaphlaw17_works N) fun (y : Bool) => some y
                                          else some false)
                                      fun
                                        (k :
                                          (List ((Int × Int) × UInt8 × Int × UInt8 × List UInt8 × List (Int × Int)) ×
                                                Unit) ×
                                              Unit × Unit × Unit →
                                            Option Bool) =>
                                      bif z.snd.fst.fst.fst.snd.fst == 1 then
                                        Option.bind (F_epitaphref13_Put N z_1.fst.fst z.snd.fst.fst.fst)
                                          fun
                                            (y :
                                              List
                                                ((Int × Int) × UInt8 × Int × UInt8 × List UInt8 × List (Int × Int))) =>
                                          k ((y, ()), (), (), ())
                                      else k ((z_1.fst.fst, ()), (), (), ()))
                                N (([], 0, ()), (), (), ())
                          else none
                        else none)
                      fun
                        (k :
                          Unit ×
                              ((((Int × Int) × UInt8 × Int × UInt8 × List UInt8 × List (Int × Int)) × Unit) × Unit) ×
                                Unit × Unit →
                            Option Bool) =>
                      bif x_1.snd.fst == 1 then
                        Option.bind (F_kills_Edit N y x_1.snd.snd.fst x_1.snd.snd.snd.fst) fun (y : List (Int × Int)) =>
                          k
                            ((),
                              (((x_1.fst, x_1.snd.fst, x_1.snd.snd.fst, x_1.snd.snd.snd.fst, x_1.snd.snd.snd.snd.fst,
                                    y),
                                  ()),
                                ()),
                              (), ())
                      else
                        Option.bind (F_kills_Delete N y x_1.snd.snd.fst) fun (y : List (Int × Int)) =>
                          k
                            ((),
                              (((x_1.fst, x_1.snd.fst, x_1.snd.snd.fst, x_1.snd.snd.snd.fst, x_1.snd.snd.snd.snd.fst,
                                    y),
                                  ()),
                                ()),
                              (), ())
theorem E_epitaphlaw17_KillsNew (N : Nat) : runF Try.prog [e_epitaphref13_Few N, e_epitaphref07_Has N, e_epitaphref13_All N, e_epitaphref13_Dots N, e_epitaphlaw17_works N, e_kills_Live N, e_kills_Edit N, e_kills_Delete N, e_epitaphref13_Put N] [] N Try.f10 (.seq .lf (.seq .lf (.seq .lf (.join ⟨[], [(1003, [.d tEvent], some 28)], [0, 3, 5], [], [], []⟩ .lf (.seq .lf (.seq .lf (.seq (.seq .lf (.blk (.loop ⟨[(7, .d (.sl tEvent)), (8, .d (.int .i64))], [], [3, 5, 6], [1003], [], []⟩ .lf))) (.join ⟨[(7, .d (.sl tEvent))], [], [6], [], [], []⟩ .lf .lf)))))))) [(.sl tEvent), tEvent] [.bool] = F_epitaphlaw17_KillsNew N := by kernel_rfl
noncomputable def e_epitaphlaw17_KillsNew (N : Nat) : Ent Try.prog := mkFn 10 Try.f10 (.seq .lf (.seq .lf (.seq .lf (.join ⟨[], [(1003, [.d tEvent], some 28)], [0, 3, 5], [], [], []⟩ .lf (.seq .lf (.seq .lf (.seq (.seq .lf (.blk (.loop ⟨[(7, .d (.sl tEvent)), (8, .d (.int .i64))], [], [3, 5, 6], [1003], [], []⟩ .lf))) (.join ⟨[(7, .d (.sl tEvent))], [], [6], [], [], []⟩ .lf .lf)))))))) [(.sl tEvent), tEvent] [.bool] (F_epitaphlaw17_KillsNew N) mixed Try.func10 (.mk' Try.func10 rfl (by decide)) rfl (E_epitaphlaw17_KillsNew N)
theorem D_epitaphlaw17_KillsNew (N : Nat) : SoundF Try.prog 10 [.bool] [(.sl tEvent), tEvent] (F_epitaphlaw17_KillsNew N) [] := E_epitaphlaw17_KillsNew N ▸ runF_sound mixed Try.func10 rfl
end Go.Proofs.Xg
/-
  Events put one by one, the dots of events, what is dead and live.
-/
set_option linter.unusedVariables false
set_option linter.unusedSimpArgs false
set_option maxRecDepth 100000
namespace Go.Proofs.Xg
open Go Go.Xl Go.Ab Go.Proofs Go.Sort

/-- an event's dots -/
def dsE (e : Ev) : List (Int × Int) := e.1 :: e.2.2.2.2.2

theorem dsE_len {e : Ev} (h : smE e) : (dsE e).length ≤ 5001 := by
  unfold dsE smE at *; simp; omega

theorem flat_len {l : List Ev} (h : ∀ e ∈ l, smE e) : (l.flatMap dsE).length ≤ 5001 * l.length := by
  induction l with
  | nil => simp
  | cons e r ih =>
    have h1 := dsE_len (h e List.mem_cons_self)
    have h2 := ih fun x hx => h x (List.mem_cons_of_mem _ hx)
    rw [List.flatMap_cons, List.length_append, List.length_cons]; omega

theorem take_sm {l : List Ev} (h : ∀ e ∈ l, smE e) (k : Nat) : ∀ e ∈ l.take k, smE e := fun e he => h e (List.mem_of_mem_take he)

theorem dots_eq (N : Nat) (l : List Ev) (hl : l.length ≤ 100) (hsm : ∀ e ∈ l, smE e) (hN : 1000000 < N) : F_event_Dots N l = some (sortDots (l.flatMap dsE)) := by
  unfold F_event_Dots
  have e0 := foldl_flatMap dsE l []
  have hfl := flat_len hsm
  rw [fold_loop l (fun a e => a ++ dsE e) [] (fun a => Option.bind (F_dot_Sort N a) fun y => some y) ?_ ?_ N (by omega), e0]
  · rw [List.nil_append, dotSort_eq N _ (by omega) (by omega)]; rfl
  · intro rec k a hk ha
    have hal : a.length ≤ 5001 * 100 := by
      rw [ha, foldl_flatMap, List.nil_append]
      have := flat_len (take_sm hsm k)
      rw [List.length_take] at this; omega
    have hk2 : l[k].2.2.2.2.2.length ≤ 5000 := hsm _ (List.getElem_mem hk)
    have hf1 : fitsB (a.length + [l[k].1].length) 16 = true := fit (by simp; omega) (by simp; omega)
    have hf2 : fitsB ((a ++ [l[k].1]).length + l[k].2.2.2.2.2.length) 16 = true := fit (by simp; omega) (by simp; omega)
    simp only [dec_lt, decide_eq_true hk, cond_true, at?_nat, getl hk, Option.bind_some, hf1, hf2, i64_succ (show k + 1 < 9223372036854775808 by omega)]
    simp [dsE]
  · intro rec
    simp only [dec_lt, decide_eq_false (Nat.lt_irrefl _), cond_false]

theorem putsF_append (a b : List (Int × Int)) : putsF (a ++ b) = b.foldl (fun q d => putF d q) (putsF a) := by simp [putsF]

theorem putsF_len (a : List (Int × Int)) : (putsF a).length ≤ a.length := by
  have := (putsF_facts a [] (by simp [SAsc])).2.2
  simpa [putsF] using this

theorem refDots_eq (N : Nat) (l : List Ev) (hl : l.length ≤ 100) (hsm : ∀ e ∈ l, smE e) (hN : 1000000 < N) : F_epitaphref13_Dots N l = some (sortDots (l.flatMap dsE)) := by
  rw [sortDots_puts]
  unfold F_epitaphref13_Dots
  have hfold : ∀ (m : List Ev) (q : List (Int × Int)), m.foldl (fun q e => (dsE e).foldl (fun q d => putF d q) q) q = (m.flatMap dsE).foldl (fun q d => putF d q) q := by
    intro m
    induction m with
    | nil => intro q; rfl
    | cons e r ih => intro q; rw [List.foldl_cons, ih, List.flatMap_cons, List.foldl_append]
  rw [fold_loop l (fun q e => (dsE e).foldl (fun q d => putF d q) q) [] (fun a => some a) ?_ ?_ N (by omega), hfold]
  · rfl
  · intro rec k a hk ha
    rw [hfold] at ha
    have hal : a.length ≤ 5001 * 100 := by
      rw [ha]
      have h1 := putsF_len ((l.take k).flatMap dsE)
      have := flat_len (take_sm hsm k)
      rw [List.length_take] at this
      unfold putsF at h1
      omega
    have hk2 : l[k].2.2.2.2.2.length ≤ 5000 := hsm _ (List.getElem_mem hk)
    simp only [dec_lt, decide_eq_true hk, cond_true, at?_nat, getl hk, Option.bind_some]
    rw [refPut_eq N a _ (by omega) hN]
    simp only [Option.bind_some]
    have hpl := putF_length l[k].1 a
    generalize hp : putF l[k].1 a = p at hpl
    rw [fold_loop l[k].2.2.2.2.2 (fun q d => putF d q) p (fun a => rec ((a, IntKind.i64.wrap ((k : Int) + 1), ()), (), (), ())) ?_ ?_ N (by omega)]
    · rw [i64_succ (by omega), ← hp]
      rfl
    · intro rec1 j b hj hb
      have hbl : b.length ≤ 5001 * 100 + 5002 := by
        rw [hb]
        have : ∀ (m q : List (Int × Int)), (m.foldl (fun q d => putF d q) q).length ≤ q.length + m.length := by
          intro m
          induction m with
          | nil => simp
          | cons d r ih => intro q; rw [List.foldl_cons]; have := ih (putF d q); have := putF_length d q; simp; omega
        have := this (l[k].2.2.2.2.2.take j) p
        rw [List.length_take] at this; omega
      simp only [dec_lt, decide_eq_true hj, cond_true, at?_nat, getl hj, Option.bind_some]
      rw [refPut_eq N b _ (by omega) hN]
      simp only [Option.bind_some]
      rw [i64_succ (by omega)]
    · intro rec1
      simp only [dec_lt, decide_eq_false (Nat.lt_irrefl _), cond_false]
  · intro rec
    simp only [dec_lt, decide_eq_false (Nat.lt_irrefl _), cond_false]

/-! events -/

theorem cmp_zero (x y : Ev) : (cfDot x.1 y.1 == 0) = eqE x y := by
  unfold eqE cfDot
  rw [Bool.eq_iff_iff]
  simp only [beq_iff_eq, Bool.and_eq_true]
  grind

theorem refPutE_eq (N : Nat) (l : List Ev) (e : Ev) (hl : l.length ≤ 100) (hN : 10000 < N) : F_epitaphref13_Put N l e = some (putR ltE eqE e l) := by
  unfold F_epitaphref13_Put
  refine some_of ?_
  refine iter_ok (Q := fun r => r = putR ltE eqE e l) (fun n z => ∃ (k : Nat) (out : List Ev) (done : Bool), z = ((out, done, (k : Int), ()), (), (), ()) ∧ k ≤ l.length ∧ out.length ≤ k + cond done 1 0 ∧ n = l.length - k ∧
    putR ltE eqE e l = cond ((l.drop k).any (eqE e)) l (out ++ cond done (l.drop k) (insR ltE e (l.drop k)))) ?_ N l.length _ ⟨0, [], false, rfl, Nat.zero_le _, by simp, by simp, rfl⟩ (by omega)
  rintro n z rec ⟨k, out, done, rfl, hk, ho', rfl, hT⟩ ih
  have ho : out.length ≤ k + 1 := by cases done <;> simp at ho' <;> omega
  simp only [dec_lt]
  by_cases hkl : k < l.length
  · have hd : l.drop k = l[k] :: l.drop (k + 1) := List.drop_eq_getElem_cons hkl
    rw [hd] at hT
    generalize l[k] = x at *
    have gx : l[k]? = some x := by
      have : (l.drop k)[0]? = some x := by rw [hd]; rfl
      rwa [List.getElem?_drop, Nat.add_zero] at this
    simp only [decide_eq_true hkl, cond_true, at?_nat, gx, Option.bind_some, refCmp_eq, cmp_zero, gtD, joinAt]
    rw [lo_E.eq_symm]
    cases hx : eqE e x with
    | true =>
      simp only [cond_true]
      refine ⟨_, rfl, ?_⟩
      rw [hT]; simp [hx]
    | false =>
      simp only [cond_false]
      have hT' : putR ltE eqE e l = cond ((l.drop (k + 1)).any (eqE e)) l (out ++ cond done (x :: l.drop (k + 1)) (insR ltE e (x :: l.drop (k + 1)))) := by
        rw [hT]; simp [hx]
      have hw : IntKind.i64.wrap ((k : Int) + 1) = ((k + 1 : Nat) : Int) := i64_succ (by omega)
      have hg : ltD e.1 x.1 = ltE e x := rfl
      have hf1 : fitsB (out.length + [x].length) 80 = true := fit (by simp; omega) (by simp; omega)
      have hf2 : fitsB (out.length + [e].length) 80 = true := fit (by simp; omega) (by simp; omega)
      have hf3 : fitsB ((out ++ [e]).length + [x].length) 80 = true := fit (by simp; omega) (by simp; omega)
      rw [hg]
      cases hlt : ltE e x with
      | true =>
        cases done with
        | true =>
          simp only [cond_true, Bool.not_true, cond_false, hf1, hw]
          refine ih (l.length - (k + 1)) _ (by omega) ⟨k + 1, out ++ [x], true, rfl, by omega, by simp at ho' ⊢; omega, rfl, ?_⟩
          rw [hT']; simp
        | false =>
          simp only [cond_true, Bool.not_false, hf2, hf3, hw]
          refine ih (l.length - (k + 1)) _ (by omega) ⟨k + 1, out ++ [e] ++ [x], true, rfl, by omega, by simp at ho' ⊢; omega, rfl, ?_⟩
          rw [hT']; simp [insR_front hlt]
      | false =>
        simp only [cond_false, hf1, hw, cond_true]
        refine ih (l.length - (k + 1)) _ (by omega) ⟨k + 1, out ++ [x], done, rfl, by omega, by cases done <;> simp at ho' ⊢ <;> omega, rfl, ?_⟩
        rw [hT']
        cases done <;> simp [insR_back hlt]
  · have hd : l.drop k = [] := List.drop_eq_nil_of_le (by omega)
    rw [hd] at hT
    simp only [decide_eq_false hkl, cond_false]
    have hf2 : fitsB (out.length + [e].length) 80 = true := fit (by simp; omega) (by simp; omega)
    cases done with
    | true =>
      simp only [Bool.not_true, cond_false]
      exact ⟨_, rfl, by rw [hT]; simp⟩
    | false =>
      simp only [Bool.not_false, cond_true, hf2]
      exact ⟨_, rfl, by rw [hT]; simp [insR]⟩

end Go.Proofs.Xg
/-
  What is live, what is dead; kills.
-/
set_option linter.unusedVariables false
set_option linter.unusedSimpArgs false
set_option maxRecDepth 100000
namespace Go.Proofs.Xg
open Go Go.Xl Go.Ab Go.Proofs Go.Sort

theorem putR_length (e : Ev) (l : List Ev) : (putR ltE eqE e l).length ≤ l.length + 1 := by
  unfold putR
  cases l.any (eqE e) with
  | true => simp
  | false => simp [insR_length]

theorem putsR_length : ∀ (l q : List Ev), (l.foldl (fun q x => putR ltE eqE x q) q).length ≤ q.length + l.length
  | [], q => by simp
  | e :: r, q => by
    have := putsR_length r (putR ltE eqE e q)
    have := putR_length e q
    rw [List.foldl_cons]; simp; omega

theorem sortE_puts (l : List Ev) : sortE l = l.foldl (fun q x => putR ltE eqE x q) [] := compB_isort lo_E l

theorem sortE_length (l : List Ev) : (sortE l).length ≤ l.length := by
  rw [sortE_puts]; simpa using putsR_length l []

theorem sortE_mem {l : List Ev} {e : Ev} (h : e ∈ sortE l) : e ∈ l := (isort_mem l).1 (compB_mem h)

theorem refSortE_eq (N : Nat) (l : List Ev) (hl : l.length ≤ 100) (hN : 10000 < N) : F_epitaphref13_Sort N l = some (sortE l) := by
  rw [sortE_puts]
  unfold F_epitaphref13_Sort
  rw [fold_loop l (fun q x => putR ltE eqE x q) [] (fun a => some a) ?_ ?_ N (by omega)]
  · intro rec k a hk ha
    have hal : a.length ≤ 100 := by
      rw [ha]
      have := putsR_length (l.take k) []
      rw [List.length_take] at this
      simp at this ⊢; omega
    simp only [dec_lt, decide_eq_true hk, cond_true, at?_nat, getl hk, Option.bind_some]
    rw [refPutE_eq N a _ hal hN, Option.bind_some, i64_succ (by omega)]
  · intro rec
    simp only [dec_lt, decide_eq_false (Nat.lt_irrefl _), cond_false]

theorem sameE_refl (e : Ev) : sameE e e = true := by simp [sameE]

theorem refAll_refl (N : Nat) (l : List Ev) (hl : l.length ≤ 100) (hsm : ∀ e ∈ l, smE e) (hN : 10000 < N) : F_epitaphref13_All N l l = some true := by
  unfold F_epitaphref13_All
  have h0 : ((l.length : Int) != (l.length : Int)) = false := by simp
  rw [h0, cond_false]
  refine (scan_eq l.length (fun k => some true) 0 ?_ ?_ N (by omega)).trans rfl
  · intro rec k _ hk hr
    have hk2 : l[k].2.2.2.2.2.length ≤ 5000 := hsm _ (List.getElem_mem hk)
    simp only [dec_lt, at?_nat, getl hk, Option.bind_some, i64_succ (show k + 1 < 9223372036854775808 by omega), hr, decide_eq_true hk, cond_true]
    rw [refSame_eq N _ _ (by omega) (by omega), sameE_refl]
    rfl
  · intro rec k hk
    simp only [dec_lt, decide_eq_false (show ¬ k < l.length by omega), cond_false]

/-- does some event kill it -/
def dead (l : List Ev) (d : Int × Int) : Bool := l.any fun e => decide (d ∈ e.2.2.2.2.2)

theorem dead_eq (N : Nat) (l : List Ev) (d : Int × Int) (hl : l.length ≤ 100) (hsm : ∀ e ∈ l, smE e) (hN : 10000 < N) : F_kills_Dead N l d = some (dead l d) := by
  unfold F_kills_Dead dead
  refine (scan_eq l.length (fun k => some ((l.drop k).any fun e => decide (d ∈ e.2.2.2.2.2))) 0 ?_ ?_ N (by omega)).trans rfl
  · intro rec k _ hk hr
    have hk2 : l[k].2.2.2.2.2.length ≤ 5000 := hsm _ (List.getElem_mem hk)
    simp only [dec_lt, at?_nat, getl hk, Option.bind_some, i64_succ (show k + 1 < 9223372036854775808 by omega), hr, decide_eq_true hk, cond_true]
    rw [kills_eq N _ _ (by omega) (by omega), Option.bind_some]
    have e : l.drop k = l[k] :: l.drop (k + 1) := List.drop_eq_getElem_cons hk
    rw [e, List.any_cons]
    cases decide (d ∈ l[k].2.2.2.2.2) <;> simp
  · intro rec k hk
    simp only [dec_lt, decide_eq_false (show ¬ k < l.length by omega), cond_false]
    rw [List.drop_eq_nil_of_le hk]; rfl

theorem refDead_eq (N : Nat) (l : List Ev) (d : Int × Int) (hl : l.length ≤ 100) (hsm : ∀ e ∈ l, smE e) (hN : 10000 < N) : F_epitaphref17_Dead N l d = some (dead l d) := by
  unfold F_epitaphref17_Dead dead
  refine (scan_eq l.length (fun k => some ((l.drop k).any fun e => decide (d ∈ e.2.2.2.2.2))) 0 ?_ ?_ N (by omega)).trans rfl
  · intro rec k _ hk hr
    have hk2 : l[k].2.2.2.2.2.length ≤ 5000 := hsm _ (List.getElem_mem hk)
    simp only [dec_lt, at?_nat, getl hk, Option.bind_some, i64_succ (show k + 1 < 9223372036854775808 by omega), hr, decide_eq_true hk, cond_true]
    rw [refHas_eq N _ _ (by omega) (by omega), Option.bind_some]
    have e : l.drop k = l[k] :: l.drop (k + 1) := List.drop_eq_getElem_cons hk
    rw [e, List.any_cons]
    cases decide (d ∈ l[k].2.2.2.2.2) <;> simp
  · intro rec k hk
    simp only [dec_lt, decide_eq_false (show ¬ k < l.length by omega), cond_false]
    rw [List.drop_eq_nil_of_le hk]; rfl

/-- the edits that none kills -/
def live (s : List Ev) : List Ev := s.filter fun e => cond (e.2.1 == 1) (!dead s e.1) false

theorem filter_len {α : Type} (p : α → Bool) (l : List α) (k : Nat) : ((l.take k).filter p).length ≤ k := by
  have := List.length_filter_le p (l.take k)
  rw [List.length_take] at this; omega

theorem live_eq (N : Nat) (l : List Ev) (hl : l.length ≤ 20) (hsm : ∀ e ∈ l, smE e) (hN : 10000 < N) : F_kills_Live N l = some (live (sortE l)) := by
  unfold F_kills_Live
  rw [eventSort_eq N l hl hsm (by omega), Option.bind_some]
  have hsl := sortE_length l
  have hss : ∀ e ∈ sortE l, smE e := fun e he => hsm e (sortE_mem he)
  generalize sortE l = s at *
  have e0 := foldl_filter (fun e : Ev => cond (e.2.1 == 1) (!dead s e.1) false) s []
  rw [fold_loop s (fun a x => cond ((fun e : Ev => cond (e.2.1 == 1) (!dead s e.1) false) x) (a ++ [x]) a) [] (fun a => some a) ?_ ?_ N (by omega), e0]
  · rfl
  · intro rec k a hk ha
    have hal : a.length ≤ k := by
      rw [ha, foldl_filter, List.nil_append]
      exact filter_len _ _ _
    have hf : fitsB (a.length + [s[k]].length) 80 = true := fit (by simp; omega) (by simp; omega)
    simp only [dec_lt, decide_eq_true hk, cond_true, at?_nat, getl hk, Option.bind_some, i64_succ (show k + 1 < 9223372036854775808 by omega)]
    rw [dead_eq N s _ (by omega) hss hN, copy_eq N _ (hss _ (List.getElem_mem hk))]
    simp only [Option.bind_some, hf, cond_true]
    cases s[k].2.1 == 1 <;> cases dead s s[k].1 <;> rfl
  · intro rec
    simp only [dec_lt, decide_eq_false (Nat.lt_irrefl _), cond_false]

theorem refLive_eq (N : Nat) (l : List Ev) (hl : l.length ≤ 20) (hsm : ∀ e ∈ l, smE e) (hN : 10000 < N) : F_epitaphref17_Live N l = some (live (sortE l)) := by
  unfold F_epitaphref17_Live
  rw [refSortE_eq N l (by omega) hN, Option.bind_some]
  have hsl := sortE_length l
  have hss : ∀ e ∈ sortE l, smE e := fun e he => hsm e (sortE_mem he)
  generalize sortE l = s at *
  have e0 := foldl_filter (fun e : Ev => cond (e.2.1 == 1) (!dead s e.1) false) s []
  rw [fold_loop s (fun a x => cond ((fun e : Ev => cond (e.2.1 == 1) (!dead s e.1) false) x) (a ++ [x]) a) [] (fun a => some a) ?_ ?_ N (by omega), e0]
  · rfl
  · intro rec k a hk ha
    have hal : a.length ≤ k := by
      rw [ha, foldl_filter, List.nil_append]
      exact filter_len _ _ _
    have hf : fitsB (a.length + [s[k]].length) 80 = true := fit (by simp; omega) (by simp; omega)
    simp only [dec_lt, decide_eq_true hk, cond_true, at?_nat, getl hk, Option.bind_some, i64_succ (show k + 1 < 9223372036854775808 by omega)]
    rw [refDead_eq N s _ (by omega) hss hN]
    simp only [Option.bind_some, hf, cond_true]
    cases s[k].2.1 == 1 <;> cases dead s s[k].1 <;> rfl
  · intro rec
    simp only [dec_lt, decide_eq_false (Nat.lt_irrefl _), cond_false]

/-! what would be killed -/

def isEdit (c : Int) (f : UInt8) (e : Ev) : Bool := cond (e.2.1 == 1) (cond (e.2.2.1 == c) (e.2.2.2.1 == f) false) false
def isCid (c : Int) (e : Ev) : Bool := cond (e.2.1 == 1) (e.2.2.1 == c) false

theorem filter_sm {l : List Ev} (h : ∀ e ∈ l, smE e) (p : Ev → Bool) : ∀ e ∈ l.filter p, smE e := fun e he => h e (List.mem_filter.1 he).1

theorem ofE_eq (N : Nat) (l : List Ev) (c : Int) (f : UInt8) (hl : l.length ≤ 100) (hsm : ∀ e ∈ l, smE e) (hN : 1000000 < N) : F_kills_of_e N l c f = some ((sortDots ((l.filter (isEdit c f)).flatMap dsE), ()), (), (), ()) := by
  unfold F_kills_of_e
  have e0 := foldl_filter (isEdit c f) l []
  have hfl : (l.filter (isEdit c f)).length ≤ 100 := Nat.le_trans (List.length_filter_le _ _) hl
  rw [fold_loop l (fun a x => cond (isEdit c f x) (a ++ [x]) a) [] (fun a => Option.bind (F_event_Dots N a) fun y => some ((y, ()), (), (), ())) ?_ ?_ N (by omega), e0]
  · rw [List.nil_append, dots_eq N _ hfl (filter_sm hsm _) hN]; rfl
  · intro rec k a hk ha
    have hal : a.length ≤ k := by
      rw [ha, foldl_filter, List.nil_append]
      exact filter_len _ _ _
    have hf : fitsB (a.length + [l[k]].length) 80 = true := fit (by simp; omega) (by simp; omega)
    have hE : F_kills_Edit_1 N l[k] c f = some ((cond (l[k].2.2.1 == c) (l[k].2.2.2.1 == f) false, ()), (), (), ()) := by
      unfold F_kills_Edit_1
      cases l[k].2.2.1 == c <;> rfl
    simp only [dec_lt, decide_eq_true hk, cond_true, at?_nat, getl hk, Option.bind_some, i64_succ (show k + 1 < 9223372036854775808 by omega), hf]
    rw [hE]
    simp only [Option.bind_some, isEdit]
    cases l[k].2.1 == 1 <;> cases l[k].2.2.1 == c <;> cases l[k].2.2.2.1 == f <;> rfl
  · intro rec
    simp only [dec_lt, decide_eq_false (Nat.lt_irrefl _), cond_false]

theorem ofD_eq (N : Nat) (l : List Ev) (c : Int) (hl : l.length ≤ 100) (hsm : ∀ e ∈ l, smE e) (hN : 1000000 < N) : F_kills_of_d N l c = some ((sortDots ((l.filter (isCid c)).flatMap dsE), ()), (), (), ()) := by
  unfold F_kills_of_d
  have e0 := foldl_filter (isCid c) l []
  have hfl : (l.filter (isCid c)).length ≤ 100 := Nat.le_trans (List.length_filter_le _ _) hl
  rw [fold_loop l (fun a x => cond (isCid c x) (a ++ [x]) a) [] (fun a => Option.bind (F_event_Dots N a) fun y => some ((y, ()), (), (), ())) ?_ ?_ N (by omega), e0]
  · rw [List.nil_append, dots_eq N _ hfl (filter_sm hsm _) hN]; rfl
  · intro rec k a hk ha
    have hal : a.length ≤ k := by
      rw [ha, foldl_filter, List.nil_append]
      exact filter_len _ _ _
    have hf : fitsB (a.length + [l[k]].length) 80 = true := fit (by simp; omega) (by simp; omega)
    have hE : F_kills_Delete_1 N l[k] c = some ((l[k].2.2.1 == c, ()), (), (), ()) := rfl
    simp only [dec_lt, decide_eq_true hk, cond_true, at?_nat, getl hk, Option.bind_some, i64_succ (show k + 1 < 9223372036854775808 by omega), hf]
    rw [hE]
    simp only [Option.bind_some, isCid]
    cases l[k].2.1 == 1 <;> cases l[k].2.2.1 == c <;> rfl
  · intro rec
    simp only [dec_lt, decide_eq_false (Nat.lt_irrefl _), cond_false]

theorem edit_eq (N : Nat) (l : List Ev) (c : Int) (f : UInt8) (hl : l.length ≤ 100) (hsm : ∀ e ∈ l, smE e) (hN : 1000000 < N) : F_kills_Edit N l c f = some (sortDots ((l.filter (isEdit c f)).flatMap dsE)) := by
  unfold F_kills_Edit
  rw [ofE_eq N l c f hl hsm hN]; rfl
theorem delete_eq (N : Nat) (l : List Ev) (c : Int) (hl : l.length ≤ 100) (hsm : ∀ e ∈ l, smE e) (hN : 1000000 < N) : F_kills_Delete N l c = some (sortDots ((l.filter (isCid c)).flatMap dsE)) := by
  unfold F_kills_Delete
  rw [ofD_eq N l c hl hsm hN]; rfl

theorem refEdit_eq (N : Nat) (l : List Ev) (c : Int) (f : UInt8) (hl : l.length ≤ 100) (hsm : ∀ e ∈ l, smE e) (hN : 1000000 < N) : F_epitaphref17_Edit N l c f = some (sortDots ((l.filter (isEdit c f)).flatMap dsE)) := by
  unfold F_epitaphref17_Edit
  have e0 := foldl_filter (isEdit c f) l []
  have hfl : (l.filter (isEdit c f)).length ≤ 100 := Nat.le_trans (List.length_filter_le _ _) hl
  rw [fold_loop l (fun a x => cond (isEdit c f x) (a ++ [x]) a) [] (fun a => Option.bind (F_epitaphref13_Dots N a) fun y => some y) ?_ ?_ N (by omega), e0]
  · rw [List.nil_append, refDots_eq N _ hfl (filter_sm hsm _) hN]; rfl
  · intro rec k a hk ha
    have hal : a.length ≤ k := by
      rw [ha, foldl_filter, List.nil_append]
      exact filter_len _ _ _
    have hf : fitsB (a.length + [l[k]].length) 80 = true := fit (by simp; omega) (by simp; omega)
    simp only [dec_lt, decide_eq_true hk, cond_true, at?_nat, getl hk, Option.bind_some, i64_succ (show k + 1 < 9223372036854775808 by omega), hf, isEdit]
    cases l[k].2.1 == 1 <;> cases l[k].2.2.1 == c <;> cases l[k].2.2.2.1 == f <;> rfl
  · intro rec
    simp only [dec_lt, decide_eq_false (Nat.lt_irrefl _), cond_false]

theorem refDelete_eq (N : Nat) (l : List Ev) (c : Int) (hl : l.length ≤ 100) (hsm : ∀ e ∈ l, smE e) (hN : 1000000 < N) : F_epitaphref17_Delete N l c = some (sortDots ((l.filter (isCid c)).flatMap dsE)) := by
  unfold F_epitaphref17_Delete
  have e0 := foldl_filter (isCid c) l []
  have hfl : (l.filter (isCid c)).length ≤ 100 := Nat.le_trans (List.length_filter_le _ _) hl
  rw [fold_loop l (fun a x => cond (isCid c x) (a ++ [x]) a) [] (fun a => Option.bind (F_epitaphref13_Dots N a) fun y => some y) ?_ ?_ N (by omega), e0]
  · rw [List.nil_append, refDots_eq N _ hfl (filter_sm hsm _) hN]; rfl
  · intro rec k a hk ha
    have hal : a.length ≤ k := by
      rw [ha, foldl_filter, List.nil_append]
      exact filter_len _ _ _
    have hf : fitsB (a.length + [l[k]].length) 80 = true := fit (by simp; omega) (by simp; omega)
    simp only [dec_lt, decide_eq_true hk, cond_true, at?_nat, getl hk, Option.bind_some, i64_succ (show k + 1 < 9223372036854775808 by omega), hf, isCid]
    cases l[k].2.1 == 1 <;> cases l[k].2.2.1 == c <;> rfl
  · intro rec
    simp only [dec_lt, decide_eq_false (Nat.lt_irrefl _), cond_false]

theorem sortDots_len (l : List (Int × Int)) : (sortDots l).length ≤ l.length := by
  rw [sortDots_puts]; exact putsF_len l

theorem few_300 (N : Nat) (l : List Ev) (m : Nat) (hm : m ≤ 100) (hN : 10000 < N) : ∃ b, F_epitaphref13_Few N l m = some b ∧ (b = true → l.length ≤ m ∧ ∀ e ∈ l, e.2.2.2.2.2.length ≤ 300) := by
  unfold F_epitaphref13_Few
  by_cases hl : m < l.length
  · have : decide ((m : Int) < (l.length : Int)) = true := by simpa using hl
    rw [this]
    exact ⟨false, rfl, by simp⟩
  · have : decide ((m : Int) < (l.length : Int)) = false := by simpa using hl
    rw [this, cond_false]
    refine iter_ok (Q := fun b => b = true → l.length ≤ m ∧ ∀ e ∈ l, e.2.2.2.2.2.length ≤ 300) (fun n z => ∃ k : Nat, z = (((k : Int), ()), (), (), ()) ∧ k ≤ l.length ∧ n = l.length - k ∧ ∀ e ∈ l.take k, e.2.2.2.2.2.length ≤ 300) ?_ N l.length _ ⟨0, rfl, Nat.zero_le _, rfl, by simp⟩ (by omega)
    rintro n z rec ⟨k, rfl, hk, rfl, hall⟩ ih
    simp only [dec_lt]
    by_cases hkl : k < l.length
    · simp only [decide_eq_true hkl, cond_true, at?_nat, getl hkl, Option.bind_some]
      by_cases h1 : (300 : Int) < (l[k].2.2.2.2.2.length : Int)
      · rw [decide_eq_true h1]; exact ⟨false, rfl, by simp⟩
      · rw [decide_eq_false h1, cond_false]
        by_cases h2 : (200 : Int) < (l[k].2.2.2.2.1.length : Int)
        · rw [decide_eq_true h2]; exact ⟨false, rfl, by simp⟩
        · rw [decide_eq_false h2, cond_false, i64_succ (by omega)]
          refine ih (l.length - (k + 1)) _ (by omega) ⟨k + 1, rfl, by omega, rfl, ?_⟩
          intro e he
          rw [List.take_add_one, getl hkl] at he
          rcases List.mem_append.1 he with he | he
          · exact hall e he
          · simp at he; subst he
            omega
    · simp only [decide_eq_false hkl, cond_false]
      refine ⟨true, rfl, fun _ => ⟨by omega, ?_⟩⟩
      rwa [List.take_of_length_le (by omega)] at hall

theorem few_any (N : Nat) (l : List Ev) (m : Nat) (hm : m ≤ 100) (hN : 10000 < N) : ∃ b, F_epitaphref13_Few N l m = some b ∧ (b = true → l.length ≤ m ∧ ∀ e ∈ l, smE e) := by
  obtain ⟨b, h1, h2⟩ := few_300 N l m hm hN
  exact ⟨b, h1, fun h => ⟨(h2 h).1, fun e he => by have := (h2 h).2 e he; unfold smE; omega⟩⟩

theorem kworks_eq (N : Nat) (hN : 1000000 < N) : F_epitaphlaw17_works N = some true := by
  unfold F_epitaphlaw17_works
  have sm : ∀ e ∈ ([((1, 1), 1, 5, 1, [], []), ((1, 2), 1, 5, 1, [], [(1, 1)])] : List Ev), smE e := by
    intro e he
    simp only [List.mem_cons, List.not_mem_nil, or_false] at he
    rcases he with rfl | rfl <;> (unfold smE; decide)
  rw [live_eq N _ (by decide) sm (by omega)]
  have e1 : live (sortE [((1, 1), 1, 5, 1, [], []), ((1, 2), 1, 5, 1, [], [(1, 1)])]) = ([((1, 2), 1, 5, 1, [], [(1, 1)])] : List Ev) := by rfl
  rw [e1]
  simp only [Option.bind_some, List.length_singleton]
  have e2 : sortDots (([((1, 2), 1, 5, 1, [], [(1, 1)])] : List Ev).filter (isEdit 5 1) |>.flatMap dsE) = [(1, 1), (1, 2)] := by
    rw [sortDots_puts]; decide
  rw [edit_eq N _ 5 1 (by decide) (fun e he => sm e (by simp at he ⊢; exact .inr he)) hN, e2]
  simp only [Option.bind_some]
  rw [same_eq N _ _ (by decide) (by simp; omega)]
  rfl

theorem killsTells_true (N : Nat) (hN : 1000000 < N) (l : List Ev) (c : Int) (d : Int × Int) : F_epitaphlaw17_KillsTells N l c d = some true := by
  unfold F_epitaphlaw17_KillsTells
  obtain ⟨b, hb, hf⟩ := few_any N l 20 (by decide) (by omega)
  have hb' : F_epitaphref13_Few N l 20 = some b := hb
  rw [hb']
  simp only [Option.bind_some]
  cases b with
  | false => rw [kworks_eq N hN]; rfl
  | true =>
    obtain ⟨hl, hsm⟩ := hf rfl
    have hlen : ∀ p : Ev → Bool, (sortDots ((l.filter p).flatMap dsE)).length ≤ 150000 := by
      intro p
      have h1 := sortDots_len ((l.filter p).flatMap dsE)
      have h2 := flat_len (filter_sm hsm p)
      have h3 := List.length_filter_le p l
      omega
    simp only [Bool.not_true, cond_false]
    rw [edit_eq N l c _ (by omega) hsm hN, refEdit_eq N l c _ (by omega) hsm hN, delete_eq N l c (by omega) hsm hN, refDelete_eq N l c (by omega) hsm hN, dead_eq N l d (by omega) hsm (by omega), refDead_eq N l d (by omega) hsm (by omega),
      live_eq N l hl hsm (by omega), refLive_eq N l hl hsm (by omega)]
    simp only [Option.bind_some]
    rw [same_eq N _ _ (by have := hlen (isEdit c (toU8 (IntKind.u8.wrap d.2))); omega) (by have := hlen (isEdit c (toU8 (IntKind.u8.wrap d.2))); omega), same_eq N _ _ (by have := hlen (isCid c); omega) (by have := hlen (isCid c); omega)]
    have hsl := sortE_length l
    have hla : (live (sortE l)).length ≤ 20 := by
      have := List.length_filter_le (fun e : Ev => cond (e.2.1 == 1) (!dead (sortE l) e.1) false) (sortE l)
      unfold live; omega
    rw [refAll_refl N (live (sortE l)) (by omega) (fun e he => hsm e (sortE_mem (List.mem_filter.1 he).1)) (by omega), kworks_eq N hN]
    simp

end Go.Proofs.Xg
/-
  KillsOrder: in whichever order.
-/
set_option linter.unusedVariables false
set_option linter.unusedSimpArgs false
set_option maxRecDepth 100000
namespace Go.Xl

section
variable {α : Type} {lt eq : α → α → Bool}

theorem compGoB_sasc (h : LO lt eq) : ∀ (p : α) (l : List α), Asc lt (p :: l) → SAsc lt (p :: compGoB eq p l)
  | p, [], hs => by simp [compGoB, SAsc]
  | p, y :: r, hs => by
    have h' := hs
    simp only [Asc, List.pairwise_cons, List.mem_cons] at h'
    simp only [compGoB]
    cases hy : eq y p with
    | true =>
      simp only [cond_true]
      exact compGoB_sasc h p r (by simp only [Asc, List.pairwise_cons]; exact ⟨fun a ha => h'.1 a (.inr ha), h'.2.2⟩)
    | false =>
      simp only [cond_false]
      have ih := compGoB_sasc h y r (by simp only [Asc, List.pairwise_cons]; exact h'.2)
      have hyp : lt y p = false := h'.1 y (.inl rfl)
      have hpy : lt p y = true := by
        cases hh : lt p y with
        | true => rfl
        | false => rw [h.eq_def, hyp, hh] at hy; cases hy
      unfold SAsc at *
      rw [List.pairwise_cons]
      refine ⟨fun a ha => ?_, ih⟩
      rcases List.mem_cons.1 ha with rfl | ha
      · exact hpy
      · exact h.trans hpy ((List.pairwise_cons.1 ih).1 a ha)

theorem compB_sasc (h : LO lt eq) {l : List α} (hl : Asc lt l) : SAsc lt (compB eq l) := by
  cases l with
  | nil => simp [compB, SAsc]
  | cons p r => exact compGoB_sasc h p r hl

theorem compGoB_id (h : LO lt eq) : ∀ (p : α) (l : List α), SAsc lt (p :: l) → compGoB eq p l = l
  | p, [], _ => rfl
  | p, y :: r, hs => by
    have h' := hs
    simp only [SAsc, List.pairwise_cons, List.mem_cons] at h'
    have : eq y p = false := by rw [h.eq_def, h'.1 y (.inl rfl)]; simp
    simp only [compGoB, this, cond_false]
    rw [compGoB_id h y r (by simp only [SAsc, List.pairwise_cons]; exact h'.2)]

theorem compB_id (h : LO lt eq) {l : List α} (hl : SAsc lt l) : compB eq l = l := by
  cases l with
  | nil => rfl
  | cons p r => simp only [compB]; rw [compGoB_id h p r hl]

theorem insR_perm (x : α) : ∀ l : List α, (insR lt x l).Perm (x :: l)
  | [] => .refl _
  | y :: r => by
    simp only [insR]
    cases lt x y with
    | true => exact .refl _
    | false => exact (List.Perm.cons y (insR_perm x r)).trans (List.Perm.swap x y r)

theorem isort_perm (l : List α) : (isort lt l).Perm l := by
  have : ∀ (l p : List α), (l.foldl (fun p x => insR lt x p) p).Perm (p ++ l) := by
    intro l
    induction l with
    | nil => intro p; simp
    | cons x r ih =>
      intro p
      rw [List.foldl_cons]
      refine (ih _).trans ?_
      refine ((insR_perm x p).append_right r).trans ?_
      simpa using List.perm_middle.symm
  simpa [isort] using this l []

/-- whoever is in strict order is what any order of it is sorted to -/
theorem sort_perm (h : LO lt eq) {s m : List α} (hs : SAsc lt s) (hp : m.Perm s) : compB eq (isort lt m) = s := by
  have hperm : (isort lt m).Perm s := (isort_perm m).trans hp
  have hnd : s.Pairwise fun a b => eq a b = false := hs.imp fun {a b} hab => by rw [h.eq_def, hab]; rfl
  have hnd' : (isort lt m).Pairwise fun a b => eq a b = false := (hperm.symm.pairwise_iff (fun {a b} hab => by rw [h.eq_symm]; exact hab)).1 hnd
  have hsm : SAsc lt (isort lt m) := by
    have ha := isort_asc h m
    unfold SAsc Asc at *
    refine (List.pairwise_and_iff.2 ⟨ha, hnd'⟩).imp ?_
    rintro a b ⟨h1, h2⟩
    cases hh : lt a b with
    | true => rfl
    | false => rw [h.eq_def, h1, hh] at h2; cases h2
  have : isort lt m = s := SAsc.ext h.asymm hsm hs fun x => hperm.mem_iff
  rw [this, compB_id h hs]
end
end Go.Xl

namespace Go.Proofs.Xg
open Go Go.Xl Go.Ab Go.Proofs Go.Sort

theorem sortE_sasc (l : List Ev) : SAsc ltE (sortE l) := compB_sasc lo_E (isort_asc lo_E l)

theorem dead_perm {s m : List Ev} (h : m.Perm s) (d : Int × Int) : dead m d = dead s d := by
  unfold dead
  rw [Bool.eq_iff_iff, List.any_eq_true, List.any_eq_true]
  exact ⟨fun ⟨x, h1, h2⟩ => ⟨x, h.mem_iff.1 h1, h2⟩, fun ⟨x, h1, h2⟩ => ⟨x, h.mem_iff.2 h1, h2⟩⟩

/-- turned, and back to front -/
def turned (g : Nat) (s : List Ev) : List Ev := (s.drop g ++ s.take g).reverse

theorem turned_perm (g : Nat) (s : List Ev) : (turned g s).Perm s := by
  unfold turned
  refine (List.reverse_perm _).trans (List.perm_append_comm.trans ?_)
  rw [List.take_append_drop]

theorem turned_get {s : List Ev} {f k : Nat} (hk : k < s.length) : (turned (f % s.length) s)[k]? = s[(s.length - 1 - k + f) % s.length]? := by
  unfold turned
  have hg : f % s.length < s.length := Nat.mod_lt _ (by omega)
  have hl : (s.drop (f % s.length) ++ s.take (f % s.length)).length = s.length := by simp; omega
  rw [List.getElem?_reverse (by omega), hl]
  have hm : (s.length - 1 - k + f) % s.length = (s.length - 1 - k + f % s.length) % s.length := by
    rw [Nat.add_mod, Nat.add_mod (s.length - 1 - k) (f % s.length), Nat.mod_mod]
  rw [hm]
  generalize f % s.length = g at *
  by_cases h : s.length - 1 - k < s.length - g
  · rw [List.getElem?_append_left (by simp; omega), List.getElem?_drop, Nat.mod_eq_of_lt (by omega)]
    congr 1; omega
  · rw [List.getElem?_append_right (by simp; omega), List.length_drop]
    have e : (s.length - 1 - k + g) % s.length = s.length - 1 - k + g - s.length := by
      rw [Nat.mod_eq_sub_mod (by omega), Nat.mod_eq_of_lt (by omega)]
    rw [e, List.getElem?_take, if_pos (by omega)]
    congr 1; omega

theorem killsOrder_true (N : Nat) (hN : 1000000 < N) (l : List Ev) (d : Int × Int) (f : UInt8) : F_epitaphlaw17_KillsOrder N l d f = some true := by
  unfold F_epitaphlaw17_KillsOrder
  obtain ⟨b, hb, hf⟩ := few_any N l 15 (by decide) (by omega)
  have hb' : F_epitaphref13_Few N l 15 = some b := hb
  rw [hb']
  simp only [Option.bind_some]
  cases b with
  | false => rw [kworks_eq N hN]; rfl
  | true =>
    obtain ⟨hl, hsm⟩ := hf rfl
    simp only [Bool.not_true, cond_false]
    rw [refSortE_eq N l (by omega) (by omega), Option.bind_some]
    have hll := live_eq N l (by omega) hsm (by omega)
    have hsl := sortE_length l
    have hss : ∀ e ∈ sortE l, smE e := fun e he => hsm e (sortE_mem he)
    have hsa := sortE_sasc l
    generalize sortE l = s at *
    have hss' : sortE s = s := sort_perm lo_E hsa (.refl _)
    refine some_of ?_
    refine iter_ok (Q := fun r => r = true) (fun n z => ∃ k : Nat, z = (((turned (f.toNat % s.length) s).take k, (k : Int), ()), (), (), ()) ∧ k ≤ s.length ∧ n = s.length - k) ?_ N s.length _ ⟨0, rfl, Nat.zero_le _, rfl⟩ (by omega)
    rintro n z rec ⟨k, rfl, hk, rfl⟩ ih
    simp only [dec_lt]
    by_cases hkl : k < s.length
    · have h0 : ((s.length : Int) == 0) = false := by simp; intro h; subst h; simp at hkl
      have hf8 : f.toNat < 256 := f.toNat_lt
      have w1 : IntKind.i64.wrap ((s.length : Int) - 1) = ((s.length - 1 : Nat) : Int) := i64_pred (by omega) (by omega)
      have w2 : IntKind.i64.wrap (((s.length - 1 : Nat) : Int) - (k : Int)) = ((s.length - 1 - k : Nat) : Int) := by
        rw [IntWalk.i64_in _ (by omega)]; omega
      have w3 : IntKind.i64.wrap (((s.length - 1 - k : Nat) : Int) + (f.toNat : Int)) = ((s.length - 1 - k + f.toNat : Nat) : Int) := by
        rw [IntWalk.i64_in _ (by omega)]; omega
      have w4 : ((s.length - 1 - k + f.toNat : Nat) : Int).tmod (s.length : Int) = (((s.length - 1 - k + f.toNat) % s.length : Nat) : Int) := Int.ofNat_tmod _ _
      have hg := turned_get (f := f.toNat) hkl
      have htl : (turned (f.toNat % s.length) s).length = s.length := (turned_perm _ _).length_eq
      obtain ⟨x, hx⟩ : ∃ x, (turned (f.toNat % s.length) s)[k]? = some x := ⟨_, getl (show k < _ by omega)⟩
      generalize turned (f.toNat % s.length) s = t at *
      have hf : fitsB ((t.take k).length + [x].length) 80 = true := fit (by simp; omega) (by simp; omega)
      simp only [decide_eq_true hkl, cond_true, h0, cond_false, w1, w2, w3, w4, at?_nat]
      rw [← hg, hx, Option.bind_some, hf, cond_true, i64_succ (by omega)]
      refine ih (s.length - (k + 1)) _ (by omega) ⟨k + 1, ?_, by omega, rfl⟩
      rw [List.take_add_one, hx]; rfl
    · have hkk : k = s.length := by omega
      have htl : (turned (f.toNat % s.length) s).length = s.length := (turned_perm _ _).length_eq
      have htp := turned_perm (f.toNat % s.length) s
      generalize turned (f.toNat % s.length) s = t at *
      rw [List.take_of_length_le (by omega)]
      simp only [decide_eq_false hkl, cond_false]
      have htm : ∀ e ∈ t, smE e := fun e he => hss e (htp.mem_iff.1 he)
      have hts : sortE t = s := sort_perm lo_E hsa htp
      have hla : (live s).length ≤ 15 := by
        have := List.length_filter_le (fun e : Ev => cond (e.2.1 == 1) (!dead s e.1) false) s
        unfold live; omega
      have hlm : ∀ e ∈ live s, smE e := fun e he => hss e (List.mem_filter.1 he).1
      have hls := live_eq N s (by omega) hss (by omega)
      have hlt := live_eq N t (by omega) htm (by omega)
      rw [hss'] at hls
      rw [hts] at hlt
      rw [hls, hlt, hll]
      simp only [Option.bind_some]
      rw [refAll_refl N (live s) (by omega) hlm (by omega), dead_eq N s d (by omega) hss (by omega), dead_eq N t d (by omega) htm (by omega), dead_perm htp, kworks_eq N hN]
      simp only [Option.bind_some, cond_true, beq_self_eq_true]
      exact ⟨_, rfl, rfl⟩

end Go.Proofs.Xg
/-
  KillsNew: a new event puts out what is live, and nothing else.
-/
set_option linter.unusedVariables false
set_option linter.unusedSimpArgs false
set_option maxRecDepth 100000
namespace Go.Xl
section
variable {α : Type} {lt eq : α → α → Bool}

theorem filter_insR (h : LO lt eq) (p : α → Bool) (x : α) : ∀ s : List α, Asc lt s → (insR lt x s).filter p = cond (p x) (insR lt x (s.filter p)) (s.filter p)
  | [], _ => by
    simp only [insR, List.filter_nil, List.filter_cons]
    cases p x <;> simp
  | y :: r, hs => by
    have hs' := hs
    simp only [Asc, List.pairwise_cons] at hs'
    cases hx : lt x y with
    | true =>
      rw [insR_front hx, List.filter_cons]
      have hall : ∀ z ∈ (y :: r).filter p, lt x z = true := by
        intro z hz
        rcases List.mem_cons.1 (List.mem_filter.1 hz).1 with rfl | hz
        · exact hx
        · exact h.lt_le hx (hs'.1 z hz)
      have hf : insR lt x ((y :: r).filter p) = x :: (y :: r).filter p := by
        cases hq : (y :: r).filter p with
        | nil => rfl
        | cons z q => exact insR_front (hall z (by rw [hq]; exact List.mem_cons_self))
      cases p x with
      | true => rw [hf]; rfl
      | false => rfl
    | false =>
      rw [insR_back hx]
      simp only [List.filter_cons]
      rw [filter_insR h p x r hs'.2]
      cases p y with
      | true =>
        simp only [if_true]
        cases p x with
        | true => simp only [cond_true]; rw [insR_back hx]
        | false => rfl
      | false => simp
end
end Go.Xl

namespace Go.Proofs.Xg
open Go Go.Xl Go.Ab Go.Proofs Go.Sort

theorem sasc_asc {s : List Ev} (h : SAsc ltE s) : Asc ltE s := h.imp fun {a b} hab => lo_E.asymm _ _ hab

theorem sasc_dot {s : List Ev} (h : SAsc ltE s) {x y : Ev} (hx : x ∈ s) (hy : y ∈ s) (e : x.1 = y.1) : x = y := by
  have hne : ∀ a b : Ev, ltE a b = true → a.1 ≠ b.1 := by
    intro a b hab he
    unfold ltE at hab
    rw [he, dot_lt] at hab
    simp at hab
  induction s with
  | nil => simp at hx
  | cons z r ih =>
    simp only [SAsc, List.pairwise_cons] at h
    rcases List.mem_cons.1 hx with hx1 | hx1
    · rcases List.mem_cons.1 hy with hy1 | hy1
      · rw [hx1, hy1]
      · subst hx1
        exact absurd e (hne _ _ (h.1 y hy1))
    · rcases List.mem_cons.1 hy with hy1 | hy1
      · subst hy1
        exact absurd e.symm (hne _ _ (h.1 x hx1))
      · exact ih h.2 hx1 hy1

/-- what stays live -/
def stays (e : Ev) (x : Ev) : Bool := cond (x.2.2.1 != e.2.2.1) true (cond (e.2.1 == 1) (x.2.2.2.1 != e.2.2.2.1) false)

/-- what goes -/
def goes (e : Ev) (x : Ev) : Bool := cond (e.2.1 == 1) (isEdit e.2.2.1 e.2.2.2.1 x) (isCid e.2.2.1 x)

theorem goes_stays (e x : Ev) (hx : x.2.1 = 1) : goes e x = !stays e x := by
  unfold goes stays isEdit isCid
  rw [hx]
  have h1 : ((1 : UInt8) == 1) = true := by decide
  rw [h1]
  cases hc : x.2.2.1 == e.2.2.1 <;> cases hk : e.2.1 == 1 <;> cases hf : x.2.2.2.1 == e.2.2.2.1 <;> simp [bne, hc, hf]

def withKills (e : Ev) (K : List (Int × Int)) : Ev := (e.1, e.2.1, e.2.2.1, e.2.2.2.1, e.2.2.2.2.1, K)

theorem new_live (l : List Ev) (e : Ev) (hnew : ¬ e.1 ∈ l.flatMap dsE) :
    live (sortE (l ++ [withKills e (sortDots (((live (sortE l)).filter (goes e)).flatMap dsE))])) =
      cond (e.2.1 == 1) (putR ltE eqE (withKills e (sortDots (((live (sortE l)).filter (goes e)).flatMap dsE))) ((live (sortE l)).filter (stays e))) ((live (sortE l)).filter (stays e)) := by
  have hnewS : ∀ x ∈ sortE l, ¬ e.1 ∈ dsE x := fun x hx h => hnew (List.mem_flatMap.2 ⟨x, sortE_mem hx, h⟩)
  have hsa := sortE_sasc l
  have hput : ∀ e', sortE (l ++ [e']) = putR ltE eqE e' (sortE l) := by
    intro e'
    rw [sortE_puts, sortE_puts, List.foldl_append]; rfl
  rw [hput]
  generalize sortE l = s at *
  generalize hK : sortDots (((live s).filter (goes e)).flatMap dsE) = K
  have hKm : ∀ d, d ∈ K ↔ ∃ y ∈ live s, goes e y = true ∧ d ∈ dsE y := by
    intro d
    rw [← hK, (sortDots_facts _).2, List.mem_flatMap]
    constructor
    · rintro ⟨y, hy, hd⟩
      obtain ⟨h1, h2⟩ := List.mem_filter.1 hy
      exact ⟨y, h1, h2, hd⟩
    · rintro ⟨y, h1, h2, hd⟩
      exact ⟨y, List.mem_filter.2 ⟨h1, h2⟩, hd⟩
  generalize he' : withKills e K = e'
  have he1 : e'.1 = e.1 := by rw [← he']; rfl
  have he2 : e'.2.1 = e.2.1 := by rw [← he']; rfl
  have heK : e'.2.2.2.2.2 = K := by rw [← he']; rfl
  have noeq : ∀ q : List Ev, (∀ x ∈ q, x ∈ s) → q.any (eqE e') = false := by
    intro q hq
    rw [List.any_eq_false]
    intro x hx hh
    have : e'.1 = x.1 := by
      unfold eqE at hh
      simp only [Bool.and_eq_true, beq_iff_eq] at hh
      exact Prod.ext hh.1 hh.2
    refine hnewS x (hq x hx) ?_
    rw [← he1, this]; exact List.mem_cons_self
  have hp1 : putR ltE eqE e' s = insR ltE e' s := by
    unfold putR; rw [noeq s (fun _ h => h), cond_false]
  have hdead : ∀ d, dead (insR ltE e' s) d = (dead s d || decide (d ∈ K)) := by
    intro d
    unfold dead
    rw [Bool.eq_iff_iff]
    simp only [List.any_eq_true, Bool.or_eq_true, decide_eq_true_eq]
    constructor
    · rintro ⟨x, hx, hd⟩
      rcases insR_mem.1 hx with rfl | hx
      · exact .inr (by rw [← heK]; exact hd)
      · exact .inl ⟨x, hx, hd⟩
    · rintro (⟨x, hx, hd⟩ | hd)
      · exact ⟨x, insR_mem.2 (.inr hx), hd⟩
      · exact ⟨e', insR_mem.2 (.inl rfl), by rw [heK]; exact hd⟩
  have hde : dead s e.1 = false := by
    unfold dead
    rw [List.any_eq_false]
    intro x hx hd
    exact hnewS x hx (List.mem_cons_of_mem _ (by simpa using hd))
  have heK' : ¬ e.1 ∈ K := by
    rw [hKm]
    rintro ⟨y, hy, _, hd⟩
    exact hnewS y (List.mem_filter.1 hy).1 hd
  have hwas : ∀ x, x ∈ live s ↔ x ∈ s ∧ x.2.1 = 1 ∧ dead s x.1 = false := by
    intro x
    unfold live
    rw [List.mem_filter]
    cases hk : x.2.1 == 1 with
    | true => simp [hk, beq_iff_eq.1 hk]
    | false => simp [hk]; intro _ h; rw [h] at hk; simp at hk
  rw [hp1]
  have hlive : live (insR ltE e' s) = (insR ltE e' s).filter fun x => cond (x.2.1 == 1) (!(dead s x.1 || decide (x.1 ∈ K))) false := by
    unfold live
    congr 1
    funext x
    rw [hdead]
  rw [hlive, filter_insR lo_E _ _ _ (sasc_asc hsa)]
  have hpe : (cond (e'.2.1 == 1) (!(dead s e'.1 || decide (e'.1 ∈ K))) false) = (e.2.1 == 1) := by
    rw [he1, he2, hde, decide_eq_false heK']
    cases e.2.1 == 1 <;> rfl
  have hsame : (s.filter fun x => cond (x.2.1 == 1) (!(dead s x.1 || decide (x.1 ∈ K))) false) = (live s).filter (stays e) := by
    unfold live
    rw [List.filter_filter]
    apply List.filter_congr
    intro x hx
    cases hk : x.2.1 == 1 with
    | false => simp
    | true =>
      simp only [cond_true]
      have hk1 : x.2.1 = 1 := beq_iff_eq.1 hk
      cases hd : dead s x.1 with
      | true => simp
      | false =>
        have hgs := goes_stays e x hk1
        have hxw := (hwas x).2 ⟨hx, hk1, hd⟩
        cases hst : stays e x with
        | false =>
          rw [hst] at hgs
          have : x.1 ∈ K := (hKm _).2 ⟨x, hxw, hgs, List.mem_cons_self⟩
          simp [this]
        | true =>
          rw [hst] at hgs
          have : ¬ x.1 ∈ K := by
            rw [hKm]
            rintro ⟨y, hy, hgy, hdy⟩
            obtain ⟨hy1, _, _⟩ := (hwas y).1 hy
            rcases List.mem_cons.1 hdy with h | h
            · have := sasc_dot hsa hx hy1 h
              subst this
              rw [hgs] at hgy; cases hgy
            · have : dead s x.1 = true := by
                unfold dead
                rw [List.any_eq_true]
                exact ⟨y, hy1, by simpa using h⟩
              rw [hd] at this; cases this
          simp [this]
  rw [hpe, hsame]
  have hp2 : putR ltE eqE e' ((live s).filter (stays e)) = insR ltE e' ((live s).filter (stays e)) := by
    unfold putR
    rw [noeq _ fun x hx => ((hwas x).1 (List.mem_filter.1 hx).1).1, cond_false]
  rw [hp2]

/-- what is in order stays when it is put one by one -/
theorem puts_id {s : List Ev} (h : SAsc ltE s) : s.foldl (fun q x => putR ltE eqE x q) [] = s := by
  rw [← sortE_puts]; exact sort_perm lo_E h (.refl _)

theorem filter_sasc {s : List Ev} (h : SAsc ltE s) (p : Ev → Bool) : SAsc ltE (s.filter p) := List.Pairwise.filter _ h

end Go.Proofs.Xg
/-
  KillsNew: what comes behind the kills, by a name of its own.
-/
set_option linter.unusedVariables false
set_option maxRecDepth 100000
namespace Go.Proofs.Xg
open Go Go.Xl Go.Ab Go.Proofs
noncomputable def T_KillsNew (N : Nat) (x y : List ((Int × Int) × UInt8 × Int × UInt8 × List UInt8 × List (Int × Int))) (z : Unit × ((((Int × Int) × UInt8 × Int × UInt8 × List UInt8 × List (Int × Int)) × Unit) × Unit) × Unit × Unit) : Option Bool :=
  bif fitsB (0 + x.length) 80 then
                            bif fitsB (([] ++ x).length + [z.snd.fst.fst.fst].length) 80 then
                              Option.bind (F_kills_Live N ([] ++ x ++ [z.snd.fst.fst.fst]))
                                fun (y_1 : List ((Int × Int) × UInt8 × Int × UInt8 × List UInt8 × List (Int × Int))) =>
                                iter
                                  (fun
                                      (rec :
                                        (List ((Int × Int) × UInt8 × Int × UInt8 × List UInt8 × List (Int × Int)) ×
                                              Int × Unit) ×
                                            Unit × Unit × Unit →
                                          Option Bool)
                                      (z_1 :
                                        (List ((Int × Int) × UInt8 × Int × UInt8 × List UInt8 × List (Int × Int)) ×
                                            Int × Unit) ×
                                          Unit × Unit × Unit) =>
                                    bif decide (z_1.fst.snd.fst < (↑y.length : Int)) then
                                      (at? y z_1.fst.snd.fst).bind
                                        fun (e : (Int × Int) × UInt8 × Int × UInt8 × List UInt8 × List (Int × Int)) =>
                                        bif e.snd.snd.fst != z.snd.fst.fst.fst.snd.snd.fst then
                                          (at? y z_1.fst.snd.fst).bind
                                            fun
                                              (e : (Int × Int) × UInt8 × Int × UInt8 × List UInt8 × List (Int × Int)) =>
                                            Option.bind (F_epitaphref13_Put N z_1.fst.fst e)
                                              fun
                                                (y :
                                                  List
                                                    ((Int × Int) ×
                                                      UInt8 × Int × UInt8 × List UInt8 × List (Int × Int))) =>
                                              rec ((y, IntKind.i64.wrap (z_1.fst.snd.fst + 1), ()), (), (), ())
                                        else
                                          bif z.snd.fst.fst.fst.snd.fst == 1 then
                                            (at? y z_1.fst.snd.fst).bind
                                              fun
                                                (e :
                                                  (Int × Int) × UInt8 × Int × UInt8 × List UInt8 × List (Int × Int)) =>
                                              bif e.snd.snd.snd.fst != z.snd.fst.fst.fst.snd.snd.snd.fst then
                                                (at? y z_1.fst.snd.fst).bind
                                                  fun
                                                    (e :
                                                      (Int × Int) ×
                                                        UInt8 × Int × UInt8 × List UInt8 × List (Int × Int)) =>
                                                  Option.bind (F_epitaphref13_Put N z_1.fst.fst e)
                                                    fun
                                                      (y :
                                                        List
                                                          ((Int × Int) ×
                                                            UInt8 × Int × UInt8 × List UInt8 × List (Int × Int))) =>
                                                    rec ((y, IntKind.i64.wrap (z_1.fst.snd.fst + 1), ()), (), (), ())
                                              else
                                                rec
                                                  ((z_1.fst.fst, IntKind.i64.wrap (z_1.fst.snd.fst + 1), ()), (), (),
                                                    ())
                                          else
                                            rec ((z_1.fst.fst, IntKind.i64.wrap (z_1.fst.snd.fst + 1), ()), (), (), ())
                                    else
                                      joinAt
                                        (fun
                                            (z :
                                              (List
                                                    ((Int × Int) ×
                                                      UInt8 × Int × UInt8 × List UInt8 × List (Int × Int)) ×
                                                  Unit) ×
                                                Unit × Unit × Unit) =>
                                          Option.bind (F_epitaphref13_All N y_1 z.fst.fst) fun (y : Bool) =>
                                            bif y then Option.bind (F_epitaphlaw17_works N) fun (y : Bool) => some y
                                            else some false)
                                        fun
                                          (k :
                                            (List ((Int × Int) × UInt8 × Int × UInt8 × List UInt8 × List (Int × Int)) ×
                                                  Unit) ×
                                                Unit × Unit × Unit →
                                              Option Bool) =>
                                        bif z.snd.fst.fst.fst.snd.fst == 1 then
                                          Option.bind (F_epitaphref13_Put N z_1.fst.fst z.snd.fst.fst.fst)
                                            fun
                                              (y :
                                                List
                                                  ((Int × Int) ×
                                                    UInt8 × Int × UInt8 × List UInt8 × List (Int × Int))) =>
                                            k ((y, ()), (), (), ())
                                        else k ((z_1.fst.fst, ()), (), (), ()))
                                  N (([], 0, ()), (), (), ())
                            else none
                          else none
end Go.Proofs.Xg
/-
  KillsNew: it is true.
-/
set_option linter.unusedVariables false
set_option linter.unusedSimpArgs false
set_option maxRecDepth 100000
namespace Go.Proofs.Xg
open Go Go.Xl Go.Ab Go.Proofs Go.Sort

theorem foldl_cond {A X : Type} (p : X → Bool) (g : A → X → A) : ∀ (l : List X) (a : A), l.foldl (fun a x => cond (p x) (g a x) a) a = (l.filter p).foldl g a
  | [], a => rfl
  | x :: r, a => by
    simp only [List.foldl_cons, List.filter_cons]
    rw [foldl_cond p g r]
    cases p x <;> rfl

theorem putsR_len (m : List Ev) : (m.foldl (fun q x => putR ltE eqE x q) []).length ≤ m.length := by
  simpa using putsR_length m []

theorem tail_true (N : Nat) (hN : 1000000 < N) (l W : List Ev) (e : Ev) (hl : l.length ≤ 15) (hsm : ∀ x ∈ l, smE x) (he : smE e) (hWl : W.length ≤ 15) (hWs : ∀ x ∈ W, smE x) (hWa : SAsc ltE W)
    (hnow : live (sortE (l ++ [e])) = cond (e.2.1 == 1) (putR ltE eqE e (W.filter (stays e))) (W.filter (stays e))) : T_KillsNew N l W ((), ((e, ()), ()), (), ()) = some true := by
  unfold T_KillsNew
  have hf1 : fitsB (0 + l.length) 80 = true := fit (by omega) (by omega)
  have hf2 : fitsB (l.length + [e].length) 80 = true := fit (by simp; omega) (by simp; omega)
  have hsm' : ∀ x ∈ l ++ [e], smE x := by
    intro x hx
    rcases List.mem_append.1 hx with h | h
    · exact hsm x h
    · rw [List.mem_singleton.1 h]; exact he
  simp only [List.nil_append, hf1, hf2, cond_true]
  rw [live_eq N (l ++ [e]) (by simp; omega) hsm' (by omega), Option.bind_some, hnow]
  have hfl : (W.filter (stays e)).length ≤ 15 := Nat.le_trans (List.length_filter_le _ _) hWl
  have hpid := puts_id (filter_sasc hWa (stays e))
  have e0 := foldl_cond (stays e) (fun q x => putR ltE eqE x q) W []
  rw [hpid] at e0
  rw [fold_loop W (fun a x => cond (stays e x) ((fun q x => putR ltE eqE x q) a x) a) [] (fun a => joinAt (fun z : (List Ev × Unit) × Unit × Unit × Unit => Option.bind (F_epitaphref13_All N (cond (e.2.1 == 1) (putR ltE eqE e (W.filter (stays e))) (W.filter (stays e))) z.1.1) fun y => bif y then Option.bind (F_epitaphlaw17_works N) fun y => some y else some false)
      fun k => bif e.2.1 == 1 then Option.bind (F_epitaphref13_Put N a e) fun y => k ((y, ()), (), (), ()) else k ((a, ()), (), (), ())) ?_ ?_ N (by omega), e0]
  · simp only [joinAt]
    have hfs : ∀ x ∈ W.filter (stays e), smE x := fun x hx => hWs x (List.mem_filter.1 hx).1
    generalize W.filter (stays e) = V at *
    cases hk : e.2.1 == 1 with
    | true =>
      simp only [cond_true]
      rw [refPutE_eq N V e (by omega) (by omega)]
      simp only [Option.bind_some]
      have hlen := putR_length e V
      have hms : ∀ x ∈ putR ltE eqE e V, smE x := by
        intro x hx
        unfold putR at hx
        cases ha : V.any (eqE e) with
        | true => rw [ha, cond_true] at hx; exact hfs x hx
        | false =>
          rw [ha, cond_false] at hx
          rcases insR_mem.1 hx with rfl | hx
          · exact he
          · exact hfs x hx
      rw [refAll_refl N _ (by omega) hms (by omega), kworks_eq N hN]
      rfl
    | false =>
      simp only [cond_false]
      rw [refAll_refl N _ (by omega) hfs (by omega), kworks_eq N hN]
      rfl
  · intro rec k a hk ha
    have hal : a.length ≤ 15 := by
      rw [ha, foldl_cond]
      refine Nat.le_trans (putsR_len _) ?_
      have := filter_len (stays e) W k
      omega
    simp only [dec_lt, decide_eq_true hk, cond_true, at?_nat, getl hk, Option.bind_some, i64_succ (show k + 1 < 9223372036854775808 by omega)]
    rw [refPutE_eq N a _ (by omega) (by omega)]
    simp only [Option.bind_some, stays]
    cases W[k].2.2.1 != e.2.2.1 <;> cases e.2.1 == 1 <;> cases W[k].2.2.2.1 != e.2.2.2.1 <;> rfl
  · intro rec
    simp only [dec_lt, decide_eq_false (Nat.lt_irrefl _), cond_false]

theorem stays_with (e : Ev) (K : List (Int × Int)) : stays (withKills e K) = stays e := rfl

theorem killsNew_true (N : Nat) (hN : 1000000 < N) (l : List Ev) (e : Ev) : F_epitaphlaw17_KillsNew N l e = some true := by
  have hw := kworks_eq N hN
  have hwk : (Option.bind (F_epitaphlaw17_works N) fun y => some y) = some true := by rw [hw]; rfl
  unfold F_epitaphlaw17_KillsNew
  obtain ⟨b, hb, hf3⟩ := few_300 N l 15 (by decide) (by omega)
  have hf : b = true → l.length ≤ 15 ∧ ∀ e ∈ l, smE e := fun h => ⟨(hf3 h).1, fun e he => by have := (hf3 h).2 e he; unfold smE; omega⟩
  have hb' : F_epitaphref13_Few N l 15 = some b := hb
  obtain ⟨b2, hb2, hf2⟩ := few_any N [e] 1 (by decide) (by omega)
  have hb2' : F_epitaphref13_Few N [e] 1 = some b2 := hb2
  rw [hb', Option.bind_some]
  cases b with
  | false => exact hwk
  | true =>
    obtain ⟨hl, hsm⟩ := hf rfl
    have hs3 := (hf3 rfl).2
    simp only [Bool.not_true, cond_false]
    rw [hb2', Option.bind_some]
    cases b2 with
    | false => exact hwk
    | true =>
      simp only [Bool.not_true, cond_false]
      rw [refDots_eq N l (by omega) hsm hN]
      have hdl : (sortDots (l.flatMap dsE)).length ≤ 1000000 := by
        have h1 := sortDots_len (l.flatMap dsE)
        have h2 := flat_len hsm
        omega
      simp only [Option.bind_some]
      rw [refHas_eq N _ _ (by omega) (by omega), live_eq N l (by omega) hsm (by omega)]
      simp only [Option.bind_some]
      have hmem : (e.1 ∈ sortDots (l.flatMap dsE)) ↔ e.1 ∈ l.flatMap dsE := (sortDots_facts _).2 _
      by_cases hin : e.1 ∈ l.flatMap dsE
      · rw [decide_eq_true (hmem.2 hin)]
        simp only [cond_true, hwk]
        cases e.2.1 != 1 <;> cases e.2.1 != 2 <;> rfl
      · rw [decide_eq_false (fun h => hin (hmem.1 h))]
        simp only [cond_false]
        have hnew := new_live l e hin
        have hsl := sortE_length l
        have hWl : (live (sortE l)).length ≤ 15 := by
          have := List.length_filter_le (fun x : Ev => cond (x.2.1 == 1) (!dead (sortE l) x.1) false) (sortE l)
          unfold live; omega
        have hWs : ∀ x ∈ live (sortE l), smE x := fun x hx => hsm x (sortE_mem (List.mem_filter.1 hx).1)
        have hWa : SAsc ltE (live (sortE l)) := filter_sasc (sortE_sasc l) _
        have hW3 : ∀ x ∈ live (sortE l), x.2.2.2.2.2.length ≤ 300 := fun x hx => hs3 x (sortE_mem (List.mem_filter.1 hx).1)
        generalize live (sortE l) = W at *
        have hKl : (sortDots ((W.filter (goes e)).flatMap dsE)).length ≤ 5000 := by
          have h1 := sortDots_len ((W.filter (goes e)).flatMap dsE)
          have h2 : ∀ m : List Ev, (∀ x ∈ m, x.2.2.2.2.2.length ≤ 300) → (m.flatMap dsE).length ≤ 301 * m.length := by
            intro m hm
            induction m with
            | nil => simp
            | cons x r ih =>
              have := ih fun y hy => hm y (List.mem_cons_of_mem _ hy)
              have := hm x List.mem_cons_self
              rw [List.flatMap_cons, List.length_append, List.length_cons]
              unfold dsE at *
              simp at *; omega
          have h3 := h2 (W.filter (goes e)) fun x hx => hW3 x (List.mem_filter.1 hx).1
          have h4 := List.length_filter_le (goes e) W
          omega
        have ht := tail_true N hN l W (withKills e (sortDots ((W.filter (goes e)).flatMap dsE))) hl hsm hKl hWl hWs hWa hnew
        cases hk : e.2.1 == 1 with
        | true =>
          have hk1 : e.2.1 = 1 := beq_iff_eq.1 hk
          have hg : goes e = isEdit e.2.2.1 e.2.2.2.1 := by funext x; simp [goes, hk]
          rw [hg] at ht
          have hne : (e.2.1 != 1) = false := by simp [bne, hk]
          rw [hne]
          simp only [cond_false, joinAt, cond_true]
          rw [edit_eq N W _ _ (by omega) hWs hN, Option.bind_some]
          exact ht
        | false =>
          have hg : goes e = isCid e.2.2.1 := by funext x; simp [goes, hk]
          rw [hg] at ht
          have hne : (e.2.1 != 1) = true := by simp [bne, hk]
          rw [hne]
          cases hk2 : e.2.1 != 2 with
          | true => simp only [cond_true, hwk]
          | false =>
            simp only [cond_true, cond_false, joinAt]
            rw [delete_eq N W _ (by omega) hWs hN, Option.bind_some]
            exact ht

end Go.Proofs.Xg
/-
  A row's arguments, opened: values of any code.
-/
set_option linter.unusedVariables false
set_option linter.unusedSimpArgs false
namespace Go.Xl
open Go.Ab

/-- what the integers of a value are, and how long its lists -/
def Ty.In : (t : Ty) → t.T → Prop
  | .int k, n => (Lit.int k n).wf = true
  | .u8, _ => True
  | .bool, _ => True
  | .str, l => l.length ≤ maxLen
  | .sl a, l => l.length ≤ maxLen ∧ ∀ x ∈ l, a.In x
  | .unit, _ => True
  | .pair a b, x => a.In x.1 ∧ b.In x.2
  | .st1 a, x => a.In x

/-- the code of a struct's fields, from the cell off on -/
def opFs (P : Program) (rec : TypeId → Ty → Bool) : Nat → List Field → Ty → Bool
  | off, [f], .st1 a => cond (Nat.beq f.offset off) (cond (Nat.beq (P.cellsOf f.type) a.size) (rec f.type a) false) false
  | off, [f, g], .pair a b => cond (Nat.beq f.offset off) (cond (Nat.beq (P.cellsOf f.type) a.size) (cond (rec f.type a) (cond (Nat.beq g.offset (off + a.size)) (cond (Nat.beq (P.cellsOf g.type) b.size) (rec g.type b) false) false) false) false) false
  | off, f :: g :: h :: r, .pair a b => cond (Nat.beq f.offset off) (cond (Nat.beq (P.cellsOf f.type) a.size) (cond (rec f.type a) (opFs P rec (off + a.size) (g :: h :: r) b) false) false) false
  | _, _, _ => false

/-- the code of a type, with the layout that a row's reading asks for -/
def opB (P : Program) : Nat → TypeId → Ty → Bool
  | 0, _, _ => false
  | n + 1, t, ty =>
    match P.underlying t, ty with
    | some (.int k), .int k' => cond (kindB k k') true false
    | some (.int .u8), .u8 => true
    | some .bool, .bool => true
    | some .string, .str => true
    | some (.slice e), .sl a => cond (Nat.beq (P.cellsOf e) a.size) (cond (Nat.ble 1 a.size) (opB P n e a) false) false
    | some (.struct fs), a => cond a.agg (cond (Nat.beq (P.cellsOf t) a.size) (opFs P (opB P n) 0 fs.toList a) false) false
    | _, _ => false

/-- cells that hold a value -/
def CellsD (γ : Nat → Nat) (w : World) (ds : List D) (cs : List Value) : Prop := ds.length = cs.length ∧ ∀ (i : Nat) d v, ds[i]? = some d → cs[i]? = some v → RD γ w d v

theorem CellsD.one {γ : Nat → Nat} {w : World} {d : D} {v : Value} (h : RD γ w d v) : CellsD γ w [d] [v] := by
  refine ⟨rfl, fun i e u he hu => ?_⟩
  cases i with
  | zero => simp at he hu; subst he; subst hu; exact h
  | succ i => simp at he

theorem CellsD.append {γ : Nat → Nat} {w : World} {a b : List D} {cs ds : List Value} (h : CellsD γ w a cs) (h' : CellsD γ w b ds) : CellsD γ w (a ++ b) (cs ++ ds) := by
  refine ⟨by simp [h.1, h'.1], fun i e u he hu => ?_⟩
  rw [List.getElem?_append] at he hu
  rw [← h.1] at hu
  split at he
  · rename_i hlt
    rw [if_pos hlt] at hu
    exact h.2 i e u he hu
  · rename_i hge
    rw [if_neg hge] at hu
    exact h'.2 _ e u he hu

theorem cT {a b : Bool} (h : cond a b false = true) : a = true ∧ b = true := by
  cases a <;> simp at h; exact ⟨rfl, h⟩

section
variable {H : Type} {enc : TypeId × Value → H} {P : Program} {W : World}

/-- what is asked of the types inside -/
def OpR (P : Program) (W : World) (H : Type) (enc : TypeId × Value → H) (fuel : Nat) (rec : TypeId → Ty → Bool) : Prop :=
  ∀ (t : TypeId) (ty : Ty) (cs : List Value) (d : DataW H) (ps : List MemPlace), rec t ty = true → DataW.trod enc P W 0 (fun _ => true) true fuel t cs = some (d, ps) →
    ∃ x : ty.T, ty.In x ∧ CellsD (fullγ W) W (ty.ds x) cs

theorem take_split {α : Type} (l : List α) (off a b : Nat) : (l.drop off).take (a + b) = (l.drop off).take a ++ (l.drop (off + a)).take b := by
  rw [List.take_add, List.drop_drop]

theorem open_fs {fuel : Nat} {rec : TypeId → Ty → Bool} (hr : OpR P W H enc fuel rec) {cs : List Value} : ∀ (fs : List Field) (off : Nat) (ty : Ty), opFs P rec off fs ty = true →
    (∀ f ∈ fs, ∃ y, DataW.trod enc P W 0 (fun _ => true) true fuel f.type ((cs.drop f.offset).take (P.cellsOf f.type)) = some y) →
    ∃ x : ty.T, ty.In x ∧ CellsD (fullγ W) W (ty.ds x) ((cs.drop off).take ty.size)
  | [], off, ty, h, hf => by cases ty <;> simp [opFs] at h
  | [f], off, ty, h, hf => by
    cases ty with
    | st1 a =>
      simp only [opFs] at h
      obtain ⟨h1, h⟩ := cT h
      obtain ⟨h2, h⟩ := cT h
      have h1 := Nat.eq_of_beq_eq_true h1
      have h2 := Nat.eq_of_beq_eq_true h2
      obtain ⟨y, hy⟩ := hf f (by simp)
      rw [h1, h2] at hy
      exact hr f.type a _ _ _ h hy
    | _ => simp [opFs] at h
  | [f, g], off, ty, h, hf => by
    cases ty with
    | pair a b =>
      simp only [opFs] at h
      obtain ⟨h1, h⟩ := cT h
      obtain ⟨h2, h⟩ := cT h
      obtain ⟨h3, h⟩ := cT h
      obtain ⟨h4, h⟩ := cT h
      obtain ⟨h5, h⟩ := cT h
      have h1 := Nat.eq_of_beq_eq_true h1
      have h2 := Nat.eq_of_beq_eq_true h2
      have h4 := Nat.eq_of_beq_eq_true h4
      have h5 := Nat.eq_of_beq_eq_true h5
      obtain ⟨y, hy⟩ := hf f (by simp)
      obtain ⟨z, hz⟩ := hf g (by simp)
      rw [h1, h2] at hy
      rw [h4, h5] at hz
      obtain ⟨x1, i1, c1⟩ := hr _ _ _ _ _ h3 hy
      obtain ⟨x2, i2, c2⟩ := hr _ _ _ _ _ h hz
      refine ⟨(x1, x2), ⟨i1, i2⟩, ?_⟩
      simp only [Ty.ds, Ty.size]
      rw [take_split]
      exact c1.append c2
    | _ => simp [opFs] at h
  | f :: g :: k :: r, off, ty, h, hf => by
    cases ty with
    | pair a b =>
      simp only [opFs] at h
      obtain ⟨h1, h⟩ := cT h
      obtain ⟨h2, h⟩ := cT h
      obtain ⟨h3, h⟩ := cT h
      have h1 := Nat.eq_of_beq_eq_true h1
      have h2 := Nat.eq_of_beq_eq_true h2
      obtain ⟨y, hy⟩ := hf f (by simp)
      rw [h1, h2] at hy
      obtain ⟨x1, i1, c1⟩ := hr _ _ _ _ _ h3 hy
      obtain ⟨x2, i2, c2⟩ := open_fs hr (g :: k :: r) (off + a.size) b h (fun q hq => hf q (List.mem_cons_of_mem _ hq))
      refine ⟨(x1, x2), ⟨i1, i2⟩, ?_⟩
      simp only [Ty.ds, Ty.size]
      rw [take_split]
      exact c1.append c2
    | _ => simp [opFs] at h

theorem choose_list {α β : Type} (p : Nat → β → α → Prop) : ∀ (l : List β), (∀ i y, l[i]? = some y → ∃ x, p i y x) → ∃ xs : List α, xs.length = l.length ∧ ∀ i y x, l[i]? = some y → xs[i]? = some x → p i y x := by
  intro l
  induction l generalizing p with
  | nil => intro _; exact ⟨[], rfl, by simp⟩
  | cons a r ih =>
    intro h
    obtain ⟨x, hx⟩ := h 0 a rfl
    obtain ⟨xs, h1, h2⟩ := ih (fun i => p (i + 1)) (fun i y hy => h (i + 1) y (by simpa using hy))
    refine ⟨x :: xs, by simp [h1], fun i y z hy hz => ?_⟩
    cases i with
    | zero => simp at hy hz; subst hy; subst hz; exact hx
    | succ i => exact h2 i y z (by simpa using hy) (by simpa using hz)

theorem open_cells : ∀ (n fuel : Nat), OpR P W H enc fuel (opB P n)
  | 0, fuel => by intro t ty cs d ps ho; simp [opB] at ho
  | n + 1, fuel => by
    intro t ty cs d ps ho h
    unfold opB at ho
    split at ho
    · rename_i k k' hu
      obtain ⟨hk, _⟩ := cT ho
      have := kindB_eq hk
      subst this
      obtain ⟨m, rfl, _, hw⟩ := DataW.trod_int hu h
      exact ⟨m, hw, .one (.sc _)⟩
    · rename_i hu
      obtain ⟨m, rfl, _, hw⟩ := DataW.trod_int hu h
      have hm : 0 ≤ m ∧ m ≤ 255 := by simpa [Lit.wf, IntKind.wrap, IntKind.bits, IntKind.signed, IntKind.min, IntKind.max] using hw
      refine ⟨UInt8.ofNat m.toNat, trivial, .one ?_⟩
      have : (((UInt8.ofNat m.toNat).toNat : Nat) : Int) = m := by
        rw [UInt8.toNat_ofNat']; omega
      rw [this]
      exact .sc _
    · rename_i hu
      obtain ⟨b, rfl, _⟩ := DataW.trod_bool hu h
      exact ⟨b, trivial, .one (.sc _)⟩
    · rename_i hu
      obtain ⟨s, rfl, _, hw⟩ := DataW.trod_string hu h
      exact ⟨s.data.toList, by simpa [Ty.In] using hw, .one (.sc _)⟩
    · rename_i e a hu
      obtain ⟨h1, ho⟩ := cT ho
      obtain ⟨h2, ho⟩ := cT ho
      have h1 := Nat.eq_of_beq_eq_true h1
      have h2 := Nat.le_of_ble_eq_true h2
      rcases DataW.trod_slice hu h with ⟨rfl, _⟩ | ⟨ad, len, cap, elems, rest, m, rfl, rfl, _, hb, hl, hc, hel, hcell, _, _⟩
      · exact ⟨[], ⟨by simp, by simp⟩, .one (.nil _ _ _ fun _ => rfl)⟩
      · have key : ∀ i y, (List.range len)[i]? = some y → ∃ x : a.T, a.In x ∧ ∃ cs', cs'.length = a.size ∧ CellsD (fullγ W) W (a.ds x) cs' ∧ ∀ j, j < a.size → W.cell? ((ad.add (i * a.size)).add j) = cs'[j]? := by
          intro i y hi
          have hlt : i < len := by have := (List.getElem?_eq_some_iff.1 hi).1; simpa using this
          have hc := hcell i hlt
          obtain ⟨z, hz⟩ : ∃ z, elems[i]? = some z := ⟨_, List.getElem?_eq_getElem (by omega)⟩
          rw [hz, Option.bind_eq_some_iff, h1] at hc
          obtain ⟨cs', hc1, hc2⟩ := hc
          obtain ⟨_, hcl, hcc⟩ := World.cells?_some hc1
          obtain ⟨x, hx1, hx2⟩ := open_cells n m _ _ _ _ _ ho hc2
          exact ⟨x, hx1, cs', hcl, hx2, hcc⟩
        obtain ⟨xs, hxl, hx⟩ := choose_list _ _ key
        rw [List.length_range] at hxl
        have hxs : ∀ i x, xs[i]? = some x → a.In x ∧ ∃ cs', cs'.length = a.size ∧ CellsD (fullγ W) W (a.ds x) cs' ∧ ∀ j, j < a.size → W.cell? ((ad.add (i * a.size)).add j) = cs'[j]? := by
          intro i x hi
          have hlt : i < len := by have := (List.getElem?_eq_some_iff.1 hi).1; omega
          exact hx i i x (by simp [hlt]) hi
        refine ⟨xs, ⟨by omega, fun x hm => ?_⟩, .one ?_⟩
        · obtain ⟨i, hi⟩ := List.mem_iff_getElem?.1 hm
          exact (hxs i x hi).1
        · rcases Nat.eq_zero_or_pos len with h0 | h0
          · have : xs = [] := List.eq_nil_of_length_eq_zero (by omega)
            subst this
            subst h0
            exact .nil _ (some ad) cap (by simp)
          · have spot : ad.spot = none := by
              obtain ⟨x0, hx0⟩ : ∃ z, xs[0]? = some z := ⟨_, List.getElem?_eq_getElem (by omega)⟩
              obtain ⟨_, cs', hl', _, hc'⟩ := hxs 0 x0 hx0
              have := hc' 0 (by omega)
              rw [List.getElem?_eq_getElem (by omega)] at this
              have := World.cell?_spot this
              simpa [Addr.add] using this
            obtain ⟨b, off, sp⟩ := ad
            simp only at spot
            subst spot
            have hcell' : ∀ i x, xs[i]? = some x → ∃ cs', cs'.length = a.size ∧ CellsD (fullγ W) W (a.ds x) cs' ∧ ∀ j, j < a.size → W.cell? ⟨b, off + (i * a.size + j), none⟩ = cs'[j]? := by
              intro i x hi
              obtain ⟨_, cs', hl', hd', hc'⟩ := hxs i x hi
              refine ⟨cs', hl', hd', fun j hj => ?_⟩
              have := hc' j hj
              rwa [WideShapes.add_plain, WideShapes.add_plain, Nat.add_assoc] at this
            refine .ofCells' (by simp [hxl]) ?_ hl ?_ ?_
            · obtain ⟨x, hx⟩ : ∃ z, xs[len - 1]? = some z := ⟨_, List.getElem?_eq_getElem (by omega)⟩
              obtain ⟨cs', hl', _, hc'⟩ := hcell' (len - 1) x hx
              have := hc' (a.size - 1) (by omega)
              rw [List.getElem?_eq_getElem (by omega)] at this
              have := fullγ_cell this
              have e : len * a.size = (len - 1) * a.size + a.size := by
                rw [← Nat.succ_mul]; congr 1; omega
              show off + len * a.size ≤ fullγ W b
              omega
            · intro i cs hi
              rw [List.getElem?_map, Option.map_eq_some_iff] at hi
              obtain ⟨x, _, rfl⟩ := hi
              exact a.ds_length x
            · intro i j cs c u hi hj hu
              rw [List.getElem?_map, Option.map_eq_some_iff] at hi
              obtain ⟨x, hx, rfl⟩ := hi
              obtain ⟨cs', hl', hd', hc'⟩ := hcell' i x hx
              have hjl : j < a.size := by have := (List.getElem?_eq_some_iff.1 hj).1; rwa [a.ds_length] at this
              rw [hc' j hjl] at hu
              exact hd'.2 j c u hj hu
    · rename_i fs hu
      obtain ⟨_, ho⟩ := cT ho
      obtain ⟨h2, ho⟩ := cT ho
      have h2 := Nat.eq_of_beq_eq_true h2
      obtain ⟨xs, m, rfl, _, hl, hxl, hall⟩ := DataW.trod_struct hu h
      obtain ⟨x, hx1, hx2⟩ := open_fs (open_cells n m) (cs := cs) fs.toList 0 _ ho (by
        intro f hf
        obtain ⟨i, hi⟩ := List.mem_iff_getElem?.1 hf
        have hi' : fs[i]? = some f := by simpa using hi
        have := hall i f hi'
        rw [this]
        have hlt := (Array.getElem?_eq_some_iff.1 hi').1
        exact ⟨_, List.getElem?_eq_getElem (by omega)⟩)
      refine ⟨x, hx1, ?_⟩
      rw [List.drop_zero, List.take_of_length_le (by omega)] at hx2
      exact hx2
    · cases ho

/-- an argument, opened -/
theorem open_arg {b0 n : Nat} {t : TypeId} {ty : Ty} {v : Value} {d : DataW H} {ps : List MemPlace} (ho : opB P n t ty = true) (hv : Value.okWide P W .any b0 t v)
    (h : DataW.Trod enc P W 0 (fun _ => true) true t v d ps) : ∃ x : ty.T, ty.In x ∧ RA (full W) W (XV.d (ty.xv x)).a v := by
  obtain ⟨fuel, hf⟩ := h
  obtain ⟨x, h1, h2⟩ := open_cells n fuel _ _ _ _ _ ho hf
  refine ⟨x, h1, .d _ _ ?_⟩
  show RD (fullγ W) W (ty.dv x) v
  cases hagg : ty.agg with
  | true =>
    rw [ty.dv_agg x hagg]
    have : ∃ fs, P.underlying t = some (.struct fs) := by
      cases n with
      | zero => simp [opB] at ho
      | succ n =>
        unfold opB at ho
        split at ho <;> simp_all [Ty.agg]
    obtain ⟨fs, hu⟩ := this
    obtain ⟨cs, rfl, _⟩ := WideShapes.okWide_struct hu hv
    simp only [Value.cells] at h2
    exact .agg _ _ (by simpa using h2.1) fun i c u hc hu => h2.2 i c u hc (by simpa using hu)
  | false =>
    rw [ty.dv_one x hagg] at h2
    have hv' : v.cells = #[v] := by
      have := h2.1
      cases v with
      | agg cs =>
        exfalso
        cases n with
        | zero => simp [opB] at ho
        | succ n =>
          unfold opB at ho
          split at ho
          · rename_i hu; obtain ⟨_, e⟩ := WideShapes.okWide_int hu hv; cases e
          · rename_i hu; obtain ⟨_, e⟩ := WideShapes.okWide_int hu hv; cases e
          · rename_i hu; obtain ⟨_, e⟩ := WideShapes.okWide_bool hu hv; cases e
          · rename_i hu; obtain ⟨_, e⟩ := WideShapes.okWide_string hu hv; cases e
          · rename_i hu; obtain ⟨_, _, _, e⟩ := WideShapes.okWide_slice hu hv; cases e
          · rw [hagg] at ho; simp at ho
          · cases ho
      | _ => rfl
    rw [hv'] at h2
    exact h2.2 0 _ _ rfl rfl
end

end Go.Xl
