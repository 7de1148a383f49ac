import Derived.Test.YtenddelnfflkjaaZf
import Derived.Test.YtenddelnfflkjaaZe
import Derived.KernelRfl
import Derived.Test.YtenddelnfflkjaaZd
set_option linter.unusedVariables false
set_option linter.unusedSimpArgs false
namespace Go.Proofs.Xg
open Go Go.Xl Go.Ab Go.Proofs Go.Sort
def Qqs (l : List (List UInt8)) (r : List (List UInt8) × Nat) : Prop := r.1.take r.2 = comp l ∧ r.2 ≤ r.1.length
theorem Qvu (N : Nat) (l : List (List UInt8)) (hb : l.length < 4611686018427387904) (hN : l.length < N) : ∃ r, Q15 N l l.length = some r ∧ Qqs l r := by
 unfold Q15
 simp only [cond_eq_ite]
 by_cases h2 : ((l.length : Nat) : Int) < 2
 ·rw [if_pos (by simpa using h2)]
  refine ⟨_, rfl, ?_, Nat.le_refl _⟩
  have : l = l.take 1 := by rw [List.take_of_length_le (by omega)]
  rw [List.take_length, this, Qh8]
 ·rw [if_neg (by simpa using h2)]
  refine Q4q (fun n z => ∃ k : Nat, z = (((k : Int), ()), (), (), l, ()) ∧ 1 ≤ k ∧ k ≤ l.length ∧ n = l.length - k ∧ comp (l.take k) = l.take k) ?_ N (l.length - 1) _ ⟨1, rfl, by omega, by omega, rfl, Qh8 l⟩ (by omega)
  rintro n z rec ⟨k, rfl, k1, k2, hn, hc⟩ ih
  simp only
  by_cases hk : k < l.length
  ·have e1 : IntKind.i64.wrap ((k : Int) - 1) = ((k - 1 : Nat) : Int) := Qq (by omega) (by omega)
   have e2 : IntKind.i64.wrap ((k : Int) + 1) = ((k + 1 : Nat) : Int) := Q6 (by omega)
   simp only [e1, e2, Q4o, Nat.zero_add, getElem?_lt hk, getElem?_lt (show k - 1 < l.length by omega), Option.bind_some]
   rw [if_pos (by simp; omega), if_pos (by simp; omega), if_pos (by simp; omega)]
   have hstep := Q9c (l := l) (m := k) (by omega) (getElem?_lt (show k - 1 < l.length by omega)) (getElem?_lt hk)
   by_cases he : l[k] = l[k - 1]
   ·rw [if_pos (by simpa using he), if_pos (by simp [cutOk]; omega)]
    refine Q4q (fun n z => ∃ (i q : Nat) (c : List (List UInt8)), z = (((i : Int), (q : Int), ()), (), (), c, ()) ∧ 1 ≤ q ∧ k + q ≤ l.length ∧ i + 1 ≤ k + q ∧ c.length = l.length ∧
     (∀ j, i ≤ j → c[j]? = l[j]?) ∧ c.take i = comp (l.take (k + q)) ∧ n = l.length - (k + q)) ?_ N (l.length - (k + 1)) _
     ⟨k, 1, l, rfl, by omega, by omega, by omega, rfl, fun _ _ => rfl, by rw [hstep, if_pos he, hc], rfl⟩ (by omega)
    rintro n z rec ⟨i, q, c, rfl, q1, q2, q3, hcl, hcj, hct, hn⟩ ih'
    simp only
    by_cases hq : k + q < l.length
    ·have f1 : IntKind.i64.wrap ((q : Int) - 1) = ((q - 1 : Nat) : Int) := Qq (by omega) (by omega)
     have f2 : IntKind.i64.wrap ((q : Int) + 1) = ((q + 1 : Nat) : Int) := Q6 (by omega)
     have f3 : IntKind.i64.wrap ((i : Int) + 1) = ((i + 1 : Nat) : Int) := Q6 (by omega)
     have g1 : c[k + q]? = some l[k + q] := by rw [hcj _ (by omega), getElem?_lt hq]
     have g2 : c[k + (q - 1)]? = some l[k + (q - 1)] := by rw [hcj _ (by omega), getElem?_lt (by omega)]
     have g3 : c[i]? = some (c[i]'(by omega)) := getElem?_lt (by omega)
     simp only [f1, f2, f3, Q4o, Nat.zero_add, g1, g2, g3, Option.bind_some]
     rw [if_pos (by simp; omega), if_pos (by simp; omega), if_pos (by simp; omega)]
     have hs := Q9c (l := l) (m := k + q) (a := l[k + (q - 1)]) (by omega) (by rw [show k + q - 1 = k + (q - 1) by omega]; exact getElem?_lt _) (getElem?_lt hq)
     by_cases hne : l[k + q] = l[k + (q - 1)]
     ·rw [if_neg (by simpa using hne)]
      refine ih' (l.length - (k + (q + 1))) _ (by omega) ⟨i, q + 1, c, rfl, by omega, by omega, by omega, hcl, hcj, ?_, rfl⟩
      rw [hct, ← Nat.add_assoc, hs, if_pos hne]
     ·rw [if_pos (by simpa using hne), if_pos (by simp; omega), if_pos (by simp; omega)]
      refine ih' (l.length - (k + (q + 1))) _ (by omega) ⟨i + 1, q + 1, c.set i l[k + q], rfl, by omega, by omega, by omega, by simpa using hcl, ?_, ?_, rfl⟩
      ·intro j hj
       rw [List.getElem?_set_ne (by omega)]
       exact hcj j (by omega)
      ·rw [← Nat.add_assoc, hs, if_neg hne, ← hct, List.take_add_one, List.take_set_of_le (Nat.le_refl _), List.getElem?_set_self (by omega)]; rfl
    ·rw [if_neg (by simp; omega), if_pos (by simp [cutOk]; omega), if_pos (by simp [cutOk]; omega)]
     refine ⟨_, rfl, ?_, ?_⟩
     ·have : k + q = l.length := by omega
      rw [this, List.take_length] at hct
      simp only [Q4o, Nat.zero_add, Nat.sub_zero, Qqs]
      rw [← hct, List.take_take, Nat.min_self]
     ·simp only [Q4o, Nat.sub_zero, Nat.zero_add, List.length_take]; omega
   ·rw [if_neg (by simpa using he)]
    refine ih (l.length - (k + 1)) _ (by omega) ⟨k + 1, rfl, by omega, by omega, rfl, ?_⟩
    rw [hstep, if_neg he, hc, List.take_add_one, getElem?_lt hk]; rfl
  ·rw [if_neg (by simp; omega)]
   refine ⟨_, rfl, ?_, Nat.le_refl _⟩
   have : k = l.length := by omega
   subst this
   rw [List.take_length] at hc ⊢
   exact hc.symm
def Qpv (l : List (Int)) (r : List (Int) × Nat) : Prop := r.1.take r.2 = comp l ∧ r.2 ≤ r.1.length
theorem Qvc (N : Nat) (l : List (Int)) (hb : l.length < 4611686018427387904) (hN : l.length < N) : ∃ r, Q14 N l l.length = some r ∧ Qpv l r := by
 unfold Q14
 simp only [cond_eq_ite]
 by_cases h2 : ((l.length : Nat) : Int) < 2
 ·rw [if_pos (by simpa using h2)]
  refine ⟨_, rfl, ?_, Nat.le_refl _⟩
  have : l = l.take 1 := by rw [List.take_of_length_le (by omega)]
  rw [List.take_length, this, Qh8]
 ·rw [if_neg (by simpa using h2)]
  refine Q4q (fun n z => ∃ k : Nat, z = (((k : Int), ()), (), (), l, ()) ∧ 1 ≤ k ∧ k ≤ l.length ∧ n = l.length - k ∧ comp (l.take k) = l.take k) ?_ N (l.length - 1) _ ⟨1, rfl, by omega, by omega, rfl, Qh8 l⟩ (by omega)
  rintro n z rec ⟨k, rfl, k1, k2, hn, hc⟩ ih
  simp only
  by_cases hk : k < l.length
  ·have e1 : IntKind.i64.wrap ((k : Int) - 1) = ((k - 1 : Nat) : Int) := Qq (by omega) (by omega)
   have e2 : IntKind.i64.wrap ((k : Int) + 1) = ((k + 1 : Nat) : Int) := Q6 (by omega)
   simp only [e1, e2, Q4o, Nat.zero_add, getElem?_lt hk, getElem?_lt (show k - 1 < l.length by omega), Option.bind_some]
   rw [if_pos (by simp; omega), if_pos (by simp; omega), if_pos (by simp; omega)]
   have hstep := Q9c (l := l) (m := k) (by omega) (getElem?_lt (show k - 1 < l.length by omega)) (getElem?_lt hk)
   by_cases he : l[k] = l[k - 1]
   ·rw [if_pos (by simpa using he), if_pos (by simp [cutOk]; omega)]
    refine Q4q (fun n z => ∃ (i q : Nat) (c : List (Int)), z = (((i : Int), (q : Int), ()), (), (), c, ()) ∧ 1 ≤ q ∧ k + q ≤ l.length ∧ i + 1 ≤ k + q ∧ c.length = l.length ∧
     (∀ j, i ≤ j → c[j]? = l[j]?) ∧ c.take i = comp (l.take (k + q)) ∧ n = l.length - (k + q)) ?_ N (l.length - (k + 1)) _
     ⟨k, 1, l, rfl, by omega, by omega, by omega, rfl, fun _ _ => rfl, by rw [hstep, if_pos he, hc], rfl⟩ (by omega)
    rintro n z rec ⟨i, q, c, rfl, q1, q2, q3, hcl, hcj, hct, hn⟩ ih'
    simp only
    by_cases hq : k + q < l.length
    ·have f1 : IntKind.i64.wrap ((q : Int) - 1) = ((q - 1 : Nat) : Int) := Qq (by omega) (by omega)
     have f2 : IntKind.i64.wrap ((q : Int) + 1) = ((q + 1 : Nat) : Int) := Q6 (by omega)
     have f3 : IntKind.i64.wrap ((i : Int) + 1) = ((i + 1 : Nat) : Int) := Q6 (by omega)
     have g1 : c[k + q]? = some l[k + q] := by rw [hcj _ (by omega), getElem?_lt hq]
     have g2 : c[k + (q - 1)]? = some l[k + (q - 1)] := by rw [hcj _ (by omega), getElem?_lt (by omega)]
     have g3 : c[i]? = some (c[i]'(by omega)) := getElem?_lt (by omega)
     simp only [f1, f2, f3, Q4o, Nat.zero_add, g1, g2, g3, Option.bind_some]
     rw [if_pos (by simp; omega), if_pos (by simp; omega), if_pos (by simp; omega)]
     have hs := Q9c (l := l) (m := k + q) (a := l[k + (q - 1)]) (by omega) (by rw [show k + q - 1 = k + (q - 1) by omega]; exact getElem?_lt _) (getElem?_lt hq)
     by_cases hne : l[k + q] = l[k + (q - 1)]
     ·rw [if_neg (by simpa using hne)]
      refine ih' (l.length - (k + (q + 1))) _ (by omega) ⟨i, q + 1, c, rfl, by omega, by omega, by omega, hcl, hcj, ?_, rfl⟩
      rw [hct, ← Nat.add_assoc, hs, if_pos hne]
     ·rw [if_pos (by simpa using hne), if_pos (by simp; omega), if_pos (by simp; omega)]
      refine ih' (l.length - (k + (q + 1))) _ (by omega) ⟨i + 1, q + 1, c.set i l[k + q], rfl, by omega, by omega, by omega, by simpa using hcl, ?_, ?_, rfl⟩
      ·intro j hj
       rw [List.getElem?_set_ne (by omega)]
       exact hcj j (by omega)
      ·rw [← Nat.add_assoc, hs, if_neg hne, ← hct, List.take_add_one, List.take_set_of_le (Nat.le_refl _), List.getElem?_set_self (by omega)]; rfl
    ·rw [if_neg (by simp; omega), if_pos (by simp [cutOk]; omega), if_pos (by simp [cutOk]; omega)]
     refine ⟨_, rfl, ?_, ?_⟩
     ·have : k + q = l.length := by omega
      rw [this, List.take_length] at hct
      simp only [Q4o, Nat.zero_add, Nat.sub_zero, Qpv]
      rw [← hct, List.take_take, Nat.min_self]
     ·simp only [Q4o, Nat.sub_zero, Nat.zero_add, List.length_take]; omega
   ·rw [if_neg (by simpa using he)]
    refine ih (l.length - (k + 1)) _ (by omega) ⟨k + 1, rfl, by omega, by omega, rfl, ?_⟩
    rw [hstep, if_neg he, hc, List.take_add_one, getElem?_lt hk]; rfl
  ·rw [if_neg (by simp; omega)]
   refine ⟨_, rfl, ?_, Nat.le_refl _⟩
   have : k = l.length := by omega
   subst this
   rw [List.take_length] at hc ⊢
   exact hc.symm
end Go.Proofs.Xg
set_option linter.unusedVariables false
set_option linter.unusedSimpArgs false
namespace Go.Proofs.Xg
open Go Go.Xl Go.Ab Go.Proofs Go.Sort
end Go.Proofs.Xg
set_option linter.unusedVariables false
set_option linter.unusedSimpArgs false
namespace Go.Proofs.Xg
open Go Go.Xl Go.Ab Go.Proofs Go.Sort
theorem getl {α : Type} {l : List α} {i : Nat} (h : i < l.length) : l[i]? = some l[i] := List.getElem?_eq_getElem h
theorem Qg (a b : Nat) : decide ((a : Int) < (b : Int)) = decide (a < b) := by simp
theorem Qzt (N : Nat) (l : List (Int × Int)) (d : Int × Int) (hl : l.length < 9223372036854775807) (hN : l.length < N) : Qj N l d = some (decide (d ∈ l)) := by
 unfold Qj
 refine (Q12w l.length (fun k => some (decide (d ∈ l.drop k))) 0 ?_ ?_ N hN).trans rfl
 ·intro rec k _ hk hr
  simp only [Qg, at?_nat, getl hk, Option.bind_some, Q6 (show k + 1 < 9223372036854775808 by omega), hr, decide_eq_true hk, cond_true, Q135]
  have e : l.drop k = l[k] :: l.drop (k + 1) := List.drop_eq_getElem_cons hk
  rw [e]
  by_cases h : l[k] = d
  ·subst h; simp [-List.getElem_cons_drop]
  ·rw [decide_eq_false h, cond_false]
   have : (d ∈ l[k] :: l.drop (k + 1)) ↔ d ∈ l.drop (k + 1) := by simp [-List.getElem_cons_drop, Ne.symm h]
   simp only [this]
 ·intro rec k hk
  simp only [Qg, decide_eq_false (show ¬ k < l.length by omega), cond_false]
  rw [List.drop_eq_nil_of_le hk]; rfl
abbrev Ev := (Int × Int) × UInt8 × Int × UInt8 × List UInt8 × List (Int × Int)
end Go.Proofs.Xg
set_option linter.unusedVariables false
set_option linter.unusedSimpArgs false
namespace Go.Xl
structure LO {α : Type} (lt eq : α → α → Bool) : Prop where
 asymm : ∀ x y, lt x y = true → lt y x = false
 ntrans : ∀ x y z, lt x y = false → lt y z = false → lt x z = false
 eq_def : ∀ x y, eq x y = (!lt x y && !lt y x)
section
variable {α : Type} {lt eq : α → α → Bool}
theorem LO.trans (h : LO lt eq) {x y z : α} (h1 : lt x y = true) (h2 : lt y z = true) : lt x z = true := by
 cases hx : lt x z with
 | true => rfl
 | false =>
  have := h.ntrans x z y hx (h.asymm _ _ h2)
  rw [h1] at this; cases this
theorem LO.lt_le (h : LO lt eq) {x y z : α} (h1 : lt x y = true) (h2 : lt z y = false) : lt x z = true := by
 cases hx : lt x z with
 | true => rfl
 | false => have := h.ntrans x z y hx h2; rw [h1] at this; cases this
theorem LO.le_lt (h : LO lt eq) {x y z : α} (h1 : lt y x = false) (h2 : lt y z = true) : lt x z = true := by
 cases hx : lt x z with
 | true => rfl
 | false => have := h.ntrans y x z h1 hx; rw [h2] at this; cases this
theorem LO.eq_true (h : LO lt eq) {x y : α} : eq x y = true ↔ lt x y = false ∧ lt y x = false := by
 rw [h.eq_def]; simp
theorem LO.eq_symm (h : LO lt eq) (x y : α) : eq x y = eq y x := by rw [h.eq_def, h.eq_def, Bool.and_comm]
def insR (lt : α → α → Bool) (x : α) : List α → List α
 | [] => [x]
 | y :: r => cond (lt x y) (x :: y :: r) (y :: insR lt x r)
def isort (lt : α → α → Bool) (l : List α) : List α := l.foldl (fun p x => insR lt x p) []
def Asc (lt : α → α → Bool) (l : List α) : Prop := l.Pairwise fun a b => lt b a = false
def Q27 (eq : α → α → Bool) (p : α) : List α → List α
 | [] => []
 | y :: r => cond (eq y p) (Q27 eq p r) (y :: Q27 eq y r)
def compB (eq : α → α → Bool) : List α → List α
 | [] => []
 | x :: r => x :: Q27 eq x r
def putR (lt eq : α → α → Bool) (x : α) (q : List α) : List α := cond (q.any (eq x)) q (insR lt x q)
theorem Qes {x z : α} {l : List α} : z ∈ insR lt x l ↔ z = x ∨ z ∈ l := by
 induction l with
 | nil => simp [insR]
 | cons y r ih =>
  simp only [insR]
  cases lt x y with
  | true => simp
  | false => simp [ih]; constructor <;> rintro (h | h | h) <;> simp [h]
theorem Qvf (x : α) (l : List α) : (insR lt x l).length = l.length + 1 := by
 induction l with
 | nil => rfl
 | cons y r ih =>
  simp only [insR]
  cases lt x y <;> simp [ih]
theorem Q11a (h : LO lt eq) {x : α} {l : List α} (hl : Asc lt l) : Asc lt (insR lt x l) := by
 induction l with
 | nil => simp [insR, Asc]
 | cons y r ih =>
  simp only [Asc, List.pairwise_cons] at hl ⊢
  simp only [insR]
  cases hx : lt x y with
  | true =>
   simp only [cond_true, List.pairwise_cons, List.mem_cons]
   refine ⟨?_, hl.1, hl.2⟩
   rintro z (rfl | hz)
   ·exact h.asymm _ _ hx
   ·exact h.asymm _ _ (h.lt_le hx (hl.1 z hz))
  | false =>
   simp only [cond_false, List.pairwise_cons]
   refine ⟨fun z hz => ?_, ih hl.2⟩
   rcases Qes.1 hz with rfl | hz
   ·exact hx
   ·exact hl.1 z hz
theorem Q10h {z : α} (l : List α) : z ∈ isort lt l ↔ z ∈ l := by
 have : ∀ (l p : List α), z ∈ l.foldl (fun p x => insR lt x p) p ↔ z ∈ p ∨ z ∈ l := by
  intro l
  induction l with
  | nil => intro p; simp
  | cons y r ih => intro p; rw [List.foldl_cons, ih, Qes]; simp; constructor <;> rintro (h | h) <;> grind
 simpa [isort] using this l []
theorem Qfo {p z : α} {l : List α} (h : z ∈ Q27 eq p l) : z ∈ l := by
 induction l generalizing p with
 | nil => simp [Q27] at h
 | cons y r ih =>
  simp only [Q27] at h
  cases hy : eq y p with
  | true => rw [hy] at h; exact List.mem_cons_of_mem _ (ih h)
  | false =>
   rw [hy] at h
   rcases List.mem_cons.1 h with rfl | h
   ·exact List.mem_cons_self
   ·exact List.mem_cons_of_mem _ (ih h)
theorem Q10k {z : α} {l : List α} (h : z ∈ compB eq l) : z ∈ l := by
 cases l with
 | nil => simp [compB] at h
 | cons x r =>
  rcases List.mem_cons.1 h with rfl | h
  ·exact List.mem_cons_self
  ·exact List.mem_cons_of_mem _ (Qfo h)
theorem Qqv {x : α} {q : List α} (h : LO lt eq) (hq : ∀ z ∈ q, lt x z = true) : q.any (eq x) = false := by
 rw [List.any_eq_false]
 intro z hz he
 have := (h.eq_true.1 he).1
 rw [hq z hz] at this; cases this
theorem Qba {x y : α} {q : List α} (hx : lt x y = true) : insR lt x (y :: q) = x :: y :: q := by simp [insR, hx]
theorem Qd1 {x y : α} {q : List α} (hx : lt x y = false) : insR lt x (y :: q) = y :: insR lt x q := by simp [insR, hx]
theorem Qfq (h : LO lt eq) (x : α) : ∀ (r : List α) (y : α), Asc lt (y :: r) → lt x y = false → Q27 eq y (insR lt x r) = cond (eq x y) (Q27 eq y r) (putR lt eq x (Q27 eq y r))
 | [], y, hs, hx => by
  simp only [insR, Q27, putR, List.any_nil, cond_false]
 | z :: r, y, hs, hx => by
  have hs' := hs
  simp only [Asc, List.pairwise_cons, List.mem_cons] at hs'
  obtain ⟨hy, hz, hr⟩ := hs'
  have hyz : lt z y = false := hy z (.inl rfl)
  cases hxz : lt x z with
  | true =>
   rw [Qba hxz]
   have ezx : eq z x = false := by
    rw [h.eq_symm, h.eq_def, hxz]; rfl
   have hall : ∀ w ∈ z :: Q27 eq z r, lt x w = true := by
    intro w hw
    rcases List.mem_cons.1 hw with rfl | hw
    ·exact hxz
    ·exact h.lt_le hxz (hz w (Qfo hw))
   cases he : eq x y with
   | true => simp only [Q27, he, cond_true]
   | false =>
    have ezy : eq z y = false := by
     rw [h.eq_def, hyz]
     have : lt y z = true := h.le_lt hx hxz
     rw [this]; rfl
    simp only [Q27, he, ezx, ezy, cond_false, putR]
    rw [Qqv h hall, cond_false, Qba hxz]
  | false =>
   rw [Qd1 hxz]
   cases hezy : eq z y with
   | true =>
    simp only [Q27, hezy, cond_true]
    refine Qfq h x r y ?_ hx
    simp only [Asc, List.pairwise_cons]
    exact ⟨fun w hw => hy w (.inr hw), hr⟩
   | false =>
    have hyz' : lt y z = true := by
     cases hh : lt y z with
     | true => rfl
     | false => rw [h.eq_def, hyz, hh] at hezy; cases hezy
    have hyx : lt y x = true := h.lt_le hyz' hxz
    have exy : eq x y = false := by rw [h.eq_def, hyx]; simp
    simp only [Q27, hezy, cond_false, exy]
    rw [Qfq h x r z (by simp only [Asc, List.pairwise_cons]; exact ⟨hz, hr⟩) hxz]
    cases hexz : eq x z with
    | true => simp only [cond_true, putR, List.any_cons, hexz, Bool.true_or]
    | false =>
     simp only [cond_false, putR, List.any_cons, hexz, Bool.false_or]
     cases ha : (Q27 eq z r).any (eq x) with
     | true => simp
     | false => simp only [cond_false]; rw [Qd1 hxz]
theorem Q10a (h : LO lt eq) (x : α) {p : List α} (hp : Asc lt p) : compB eq (insR lt x p) = putR lt eq x (compB eq p) := by
 cases p with
 | nil => rfl
 | cons y r =>
  have hs := hp
  simp only [Asc, List.pairwise_cons] at hs
  cases hx : lt x y with
  | true =>
   rw [Qba hx]
   have eyx : eq y x = false := by rw [h.eq_symm, h.eq_def, hx]; rfl
   have hall : ∀ w ∈ y :: Q27 eq y r, lt x w = true := by
    intro w hw
    rcases List.mem_cons.1 hw with rfl | hw
    ·exact hx
    ·exact h.lt_le hx (hs.1 w (Qfo hw))
   simp only [compB, Q27, eyx, cond_false, putR]
   rw [Qqv h hall, cond_false, Qba hx]
  | false =>
   rw [Qd1 hx]
   simp only [compB]
   rw [Qfq h x r y hp hx]
   cases he : eq x y with
   | true => simp only [cond_true, putR, List.any_cons, he, Bool.true_or]
   | false =>
    simp only [cond_false, putR, List.any_cons, he, Bool.false_or]
    cases ha : (Q27 eq y r).any (eq x) with
    | true => simp
    | false => simp only [cond_false]; rw [Qd1 hx]
theorem Qv7 (h : LO lt eq) (l : List α) : compB eq (isort lt l) = l.foldl (fun q x => putR lt eq x q) [] := by
 have : ∀ (l p : List α), Asc lt p → compB eq (l.foldl (fun p x => insR lt x p) p) = l.foldl (fun q x => putR lt eq x q) (compB eq p) := by
  intro l
  induction l with
  | nil => intro p _; rfl
  | cons x r ih =>
   intro p hp
   simp only [List.foldl_cons]
   rw [ih _ (Q11a h hp), Q10a h x hp]
 exact this l [] (by simp [Asc])
end
end Go.Xl
set_option linter.unusedVariables false
set_option linter.unusedSimpArgs false
set_option maxRecDepth 100000
namespace Go.Proofs.Xg
open Go Go.Xl Go.Ab Go.Proofs Go.Sort
def ltE (x y : Ev) : Bool := ltOf cfDot x.1 y.1
def eqE (x y : Ev) : Bool := x.1.1 == y.1.1 && x.1.2 == y.1.2
theorem lo_E : LO ltE eqE where
 asymm x y h := by
  unfold ltE at *
  rw [Qiy] at *
  simp at *; omega
 ntrans x y z h1 h2 := by
  unfold ltE at *
  rw [Qiy] at *
  simp at *; omega
 eq_def x y := by
  unfold ltE eqE
  rw [Qiy, Qiy, Bool.eq_iff_iff]
  simp
  omega
end Go.Proofs.Xg
set_option linter.unusedVariables false
set_option linter.unusedSimpArgs false
set_option maxRecDepth 100000
namespace Go.Proofs.Xg
open Go Go.Xl Go.Ab Go.Proofs Go.Sort
section
variable {α : Type}
end
theorem inB {a n : Nat} (h : a < n) : (decide (0 ≤ (a : Int)) && decide (a < n)) = true := by simp; omega
end Go.Proofs.Xg
set_option linter.unusedVariables false
set_option linter.unusedSimpArgs false
set_option maxRecDepth 100000
namespace Go.Proofs.Xg
open Go Go.Xl Go.Ab Go.Proofs Go.Sort
structure St (S M : List Ev) : Prop where
 perm : M.Perm S
 cls : ∀ x, M.filter (eqE x) = S.filter (eqE x)
theorem St.refl (S : List Ev) : St S S := ⟨.refl _, fun _ => rfl⟩
theorem St.trans {S M L : List Ev} (h : St S M) (h' : St M L) : St S L := ⟨h'.perm.trans h.perm, fun x => (h'.cls x).trans (h.cls x)⟩
theorem St.app {S M S' M' : List Ev} (h : St S M) (h' : St S' M') : St (S ++ S') (M ++ M') := ⟨h.perm.append h'.perm, fun x => by rw [List.filter_append, List.filter_append, h.cls, h'.cls]⟩
theorem St.swap {X Y : List Ev} (h : ∀ y ∈ Y, ∀ x ∈ X, ltE y x = true) : St (X ++ Y) (Y ++ X) := by
 refine ⟨List.perm_append_comm, fun z => ?_⟩
 rw [List.filter_append, List.filter_append]
 have : X.filter (eqE z) = [] ∨ Y.filter (eqE z) = [] := by
  rcases List.eq_nil_or_concat (X.filter (eqE z)) with h1 | ⟨_, x, h1⟩
  ·exact .inl h1
  ·right
   rw [List.filter_eq_nil_iff]
   intro y hy hzy
   have hx : x ∈ X.filter (eqE z) := by rw [h1]; simp
   obtain ⟨hx1, hx2⟩ := List.mem_filter.1 hx
   have e1 := lo_E.eq_true.1 hzy
   have e2 := lo_E.eq_true.1 hx2
   have h3 := h y hy x hx1
   -- y < x, x not above z: y < z
   have h4 := lo_E.lt_le h3 e2.1
   rw [e1.2] at h4; cases h4
 rcases this with h | h <;> simp [h]
end Go.Proofs.Xg
set_option linter.unusedVariables false
set_option linter.unusedSimpArgs false
set_option maxRecDepth 100000
namespace Go.Proofs.Xg
open Go Go.Xl Go.Ab Go.Proofs Go.Sort
end Go.Proofs.Xg
set_option linter.unusedVariables false
set_option linter.unusedSimpArgs false
set_option maxRecDepth 100000
namespace Go.Proofs.Xg
open Go Go.Xl Go.Ab Go.Proofs Go.Sort
end Go.Proofs.Xg
set_option linter.unusedVariables false
set_option linter.unusedSimpArgs false
set_option maxRecDepth 100000
namespace Go.Proofs.Xg
open Go Go.Xl Go.Ab Go.Proofs Go.Sort
def sortE (l : List Ev) : List Ev := compB eqE (isort ltE l)
end Go.Proofs.Xg
set_option linter.unusedVariables false
set_option linter.unusedSimpArgs false
set_option maxRecDepth 100000
namespace Go.Proofs.Xg
open Go Go.Xl Go.Ab Go.Proofs Go.Sort
theorem Qq1 (N : Nat) (x y : Int × Int) : Q2r N x y = some (cfDot x y) := by
 simp only [Q2r, cfDot, cond_eq_ite]
 grind
def ltD (x y : Int × Int) : Bool := ltOf cfDot x y
theorem gtD (x y : Int × Int) : decide (0 < cfDot x y) = ltD y x := by
 unfold ltD
 rw [Qiy, Bool.eq_iff_iff]
 unfold cfDot
 simp only [decide_eq_true_eq]
 grind
end Go.Proofs.Xg
set_option linter.unusedVariables false
set_option linter.unusedSimpArgs false
set_option maxRecDepth 100000
namespace Go.Proofs.Xg
open Go Go.Xl Go.Ab Go.Proofs Go.Sort
theorem Q11j (x y : Ev) : (cfDot x.1 y.1 == 0) = eqE x y := by
 unfold eqE cfDot
 rw [Bool.eq_iff_iff]
 simp only [beq_iff_eq, Bool.and_eq_true]
 grind
theorem Qww (N : Nat) (l : List Ev) (e : Ev) (hl : l.length ≤ 100) (hN : 10000 < N) : Q4g N l e = some (putR ltE eqE e l) := by
 unfold Q4g
 refine Qwm ?_
 refine Q4q (Q := fun r => r = putR ltE eqE e l) (fun n z => ∃ (k : Nat) (out : List Ev) (done : Bool), z = ((out, done, (k : Int), ()), (), (), ()) ∧ k ≤ l.length ∧ out.length ≤ k + cond done 1 0 ∧ n = l.length - k ∧
  putR ltE eqE e l = cond ((l.drop k).any (eqE e)) l (out ++ cond done (l.drop k) (insR ltE e (l.drop k)))) ?_ N l.length _ ⟨0, [], false, rfl, Nat.zero_le _, by simp, by simp, rfl⟩ (by omega)
 rintro n z rec ⟨k, out, done, rfl, hk, ho', rfl, hT⟩ ih
 have ho : out.length ≤ k + 1 := by cases done <;> simp at ho' <;> omega
 simp only [Qg]
 by_cases hkl : k < l.length
 ·have hd : l.drop k = l[k] :: l.drop (k + 1) := List.drop_eq_getElem_cons hkl
  rw [hd] at hT
  generalize l[k] = x at *
  have gx : l[k]? = some x := by
   have : (l.drop k)[0]? = some x := by rw [hd]; rfl
   rwa [List.getElem?_drop, Nat.add_zero] at this
  simp only [decide_eq_true hkl, cond_true, at?_nat, gx, Option.bind_some, Qq1, Q11j, gtD, Ql]
  rw [lo_E.eq_symm]
  cases hx : eqE e x with
  | true =>
   simp only [cond_true]
   refine ⟨_, rfl, ?_⟩
   rw [hT]; simp [hx]
  | false =>
   simp only [cond_false]
   have hT' : putR ltE eqE e l = cond ((l.drop (k + 1)).any (eqE e)) l (out ++ cond done (x :: l.drop (k + 1)) (insR ltE e (x :: l.drop (k + 1)))) := by
    rw [hT]; simp [hx]
   have hw : IntKind.i64.wrap ((k : Int) + 1) = ((k + 1 : Nat) : Int) := Q6 (by omega)
   have hg : ltD e.1 x.1 = ltE e x := rfl
   have hf1 : fitsB (out.length + [x].length) 80 = true := fit (by simp; omega) (by simp; omega)
   have hf2 : fitsB (out.length + [e].length) 80 = true := fit (by simp; omega) (by simp; omega)
   have hf3 : fitsB ((out ++ [e]).length + [x].length) 80 = true := fit (by simp; omega) (by simp; omega)
   rw [hg]
   cases hlt : ltE e x with
   | true =>
    cases done with
    | true =>
     simp only [cond_true, Bool.not_true, cond_false, hf1, hw]
     refine ih (l.length - (k + 1)) _ (by omega) ⟨k + 1, out ++ [x], true, rfl, by omega, by simp at ho' ⊢; omega, rfl, ?_⟩
     rw [hT']; simp
    | false =>
     simp only [cond_true, Bool.not_false, hf2, hf3, hw]
     refine ih (l.length - (k + 1)) _ (by omega) ⟨k + 1, out ++ [e] ++ [x], true, rfl, by omega, by simp at ho' ⊢; omega, rfl, ?_⟩
     rw [hT']; simp [Qba hlt]
   | false =>
    simp only [cond_false, hf1, hw, cond_true]
    refine ih (l.length - (k + 1)) _ (by omega) ⟨k + 1, out ++ [x], done, rfl, by omega, by cases done <;> simp at ho' ⊢ <;> omega, rfl, ?_⟩
    rw [hT']
    cases done <;> simp [Qd1 hlt]
 ·have hd : l.drop k = [] := List.drop_eq_nil_of_le (by omega)
  rw [hd] at hT
  simp only [decide_eq_false hkl, cond_false]
  have hf2 : fitsB (out.length + [e].length) 80 = true := fit (by simp; omega) (by simp; omega)
  cases done with
  | true =>
   simp only [Bool.not_true, cond_false]
   exact ⟨_, rfl, by rw [hT]; simp⟩
  | false =>
   simp only [Bool.not_false, cond_true, hf2]
   exact ⟨_, rfl, by rw [hT]; simp [insR]⟩
theorem Qup (e : Ev) (l : List Ev) : (putR ltE eqE e l).length ≤ l.length + 1 := by
 unfold putR
 cases l.any (eqE e) with
 | true => simp
 | false => simp [Qvf]
theorem Qee : ∀ (l q : List Ev), (l.foldl (fun q x => putR ltE eqE x q) q).length ≤ q.length + l.length
 | [], q => by simp
 | e :: r, q => by
  have := Qee r (putR ltE eqE e q)
  have := Qup e q
  rw [List.foldl_cons]; simp; omega
theorem Qhp (l : List Ev) : sortE l = l.foldl (fun q x => putR ltE eqE x q) [] := Qv7 lo_E l
theorem Quf (l : List Ev) : (sortE l).length ≤ l.length := by
 rw [Qhp]; simpa using Qee l []
theorem Qys {l : List Ev} {e : Ev} (h : e ∈ sortE l) : e ∈ l := (Q10h l).1 (Q10k h)
theorem Qvi (N : Nat) (l : List Ev) (hl : l.length ≤ 100) (hN : 10000 < N) : Q3g N l = some (sortE l) := by
 rw [Qhp]
 unfold Q3g
 rw [Qqe l (fun q x => putR ltE eqE x q) [] (fun a => some a) ?_ ?_ N (by omega)]
 ·intro rec k a hk ha
  have hal : a.length ≤ 100 := by
   rw [ha]
   have := Qee (l.take k) []
   rw [List.length_take] at this
   simp at this ⊢; omega
  simp only [Qg, decide_eq_true hk, cond_true, at?_nat, getl hk, Option.bind_some]
  rw [Qww N a _ hal hN, Option.bind_some, Q6 (by omega)]
 ·intro rec
  simp only [Qg, decide_eq_false (Nat.lt_irrefl _), cond_false]
end Go.Proofs.Xg
set_option linter.unusedVariables false
set_option linter.unusedSimpArgs false
set_option linter.unnecessarySimpa false
set_option maxRecDepth 100000
namespace Go.Proofs.Xg
open Go Go.Xl Go.Ab Go.Proofs Go.Sort
abbrev Vl := (Int × Int) × List UInt8
def ahd (a b : Vl) : Bool := decide (b.1.2 < a.1.2) || (decide (a.1.2 = b.1.2) && decide (b.1.1 < a.1.1))
def winV : List Vl → Vl
 | [] => ((0, 0), [])
 | a :: r => r.foldl (fun c e => cond (ahd e c) e c) a
theorem Qzu {l : List Vl} (e : Vl) (h : l ≠ []) : winV (l ++ [e]) = cond (ahd e (winV l)) e (winV l) := by
 cases l with
 | nil => exact absurd rfl h
 | cons a r => simp [winV, List.foldl_append]
theorem Q12p {α : Type} {l : List α} {k : Nat} (h1 : 1 ≤ k) (h2 : k < l.length) : l.take k ≠ [] := by
 intro h
 have := congrArg List.length h
 rw [List.length_take, List.length_nil] at this; omega
theorem Q118 (N : Nat) (a b : Int) : Q39 N a b = some (if a < b then -1 else if b < a then 1 else 0) := by
 simp only [Q39, Qs, cond_eq_ite, Option.bind_some]
 grind
theorem Q11m (N : Nat) (a b : Int) : Q32 N a b = some (if a < b then -1 else if b < a then 1 else 0) := by
 simp only [Q32, Q4j, cond_eq_ite, Option.bind_some]
 grind
theorem or_eq (N : Nat) (a b : Int) (hN : 10 < N) : Q8o N [a, b] = some (if a ≠ 0 then a else b) := by
 unfold Q8o
 obtain ⟨M, rfl⟩ : ∃ M, N = M + 3 := ⟨N - 3, by omega⟩
 have e1 : IntKind.i64.wrap (0 + 1) = 1 := by decide
 have e2 : IntKind.i64.wrap (1 + 1) = 2 := by decide
 simp only [iter, e1, e2]
 by_cases h : a = 0
 ·by_cases h' : b = 0
  ·simp [h, h', at?, e1, e2]
  ·have : (b != 0) = true := by simpa using h'
   simp [h, at?, e1, e2, this]
 ·have : (a != 0) = true := by simpa using h
  simp [h, at?, this]
theorem Qy4 (N : Nat) (a b : Vl) (hN : 10 < N) : ∃ v, Q5k N a b = some v ∧ decide (0 < v) = ahd a b := by
 unfold Q5k
 simp only [Q118, Q11m, or_eq N _ _ hN, Option.bind_some]
 refine ⟨_, rfl, ?_⟩
 unfold ahd
 rw [Bool.eq_iff_iff]
 simp only [decide_eq_true_eq, Bool.or_eq_true, Bool.and_eq_true]
 grind
theorem Qz9 (N : Nat) (x : List Vl) (hx : x.length ≤ 1000) (hN : 1000 < N) : Q8n N x = some (winV x, !x.isEmpty) := by
 unfold Q8n
 cases x with
 | nil => rfl
 | cons a r =>
  generalize hxx : a :: r = x at *
  have hpos : 1 ≤ x.length := by subst hxx; simp
  have h0 : ((x.length : Int) == 0) = false := by rw [beq_eq_false_iff_ne]; omega
  have e0 : x[0]? = some a := by subst hxx; rfl
  have e1 : winV (x.take 1) = a := by subst hxx; rfl
  have hne : (!x.isEmpty) = true := by subst hxx; rfl
  rw [hne]
  simp only [h0, cond_false]
  have hm : Q1b N x = some (((), ()), ((winV x, ()), ()), (), ()) := by
   unfold Q1b Ql
   have h1 : decide ((x.length : Int) < 1) = false := by simp; omega
   simp only [h1, cond_false, e0, Option.bind_some]
   have := Q7f (fun k : Nat => ((((k : Int), ()), ((winV (x.take k), ()), ()), (), ()) : (Int × Unit) × ((Vl × Unit) × Unit) × Unit × Unit)) (some ((((), ()), ((winV x, ()), ()), (), ()) : (Unit × Unit) × ((Vl × Unit) × Unit) × Unit × Unit)) 1 x.length hpos
    (f := fun rec z => bif decide (z.fst.fst < (x.length : Int)) then
       (at? x z.fst.fst).bind fun (e : (Int × Int) × List UInt8) =>
        Option.bind (Q5k N e z.snd.fst.fst.fst) fun (y_1 : Int) =>
         bif decide (0 < y_1) then
          (at? x z.fst.fst).bind fun (e : (Int × Int) × List UInt8) =>
           rec ((IntKind.i64.wrap (z.fst.fst + 1), ()), ((e, ()), ()), (), ())
         else rec ((IntKind.i64.wrap (z.fst.fst + 1), ()), ((z.snd.fst.fst.fst, ()), ()), (), ())
      else some (((), ()), ((z.snd.fst.fst.fst, ()), ()), (), ())) ?_ ?_ N (by omega)
   ·rw [e1] at this
    exact this
   ·intro rec k h1 h2
    obtain ⟨v, hv, hv'⟩ := Qy4 N x[k] (winV (x.take k)) (by omega)
    simp only [Qg, decide_eq_true h2, cond_true, at?_nat, getl h2, Option.bind_some, hv, hv', Q6 (show k + 1 < 9223372036854775808 by omega), Q2p h2, Qzu _ (Q12p h1 h2)]
    cases ahd x[k] (winV (x.take k)) <;> rfl
   ·intro rec
    simp only [Qg, decide_eq_false (Nat.lt_irrefl _), cond_false, List.take_length]
  rw [hm]
  rfl
theorem Qch : Tot Op.bytesLess where
 asymm x y h := by
  rw [Xu.S.bytesLess_lt] at *
  simp only [decide_eq_true_eq, decide_eq_false_iff_not] at *
  exact List.lt_asymm h
 trans {x y z} h h' := by
  rw [Xu.S.bytesLess_lt] at *
  simp only [decide_eq_true_eq] at *
  exact List.lt_trans h h'
 total x y h h' := by
  rw [Xu.S.bytesLess_lt] at *
  simp only [decide_eq_false_iff_not] at *
  exact List.le_antisymm h' h
theorem Qs2 {α : Type} {lt : α → α → Bool} (h : Tot lt) (l : List α) : (l.mergeSort (fun x y => !lt y x)).Pairwise (fun a b => lt b a = false) := by
 have := List.pairwise_mergeSort (le := fun x y => !lt y x) (by
  intro a b c h1 h2
  simp only [Bool.not_eq_true'] at *
  cases hc : lt c a with
  | false => rfl
  | true =>
   cases hb : lt b c with
   | true => rw [h.trans hb hc] at h1; cases h1
   | false => have := h.total b c hb h2; subst this; rw [hc] at h1; cases h1) (by
  intro a b
  cases hab : lt b a with
  | false => simp
  | true => simp [h.asymm b a hab]) l
 refine this.imp ?_
 intro a b h
 simpa using h
def txtV (x : List Vl) : List (List UInt8) := putsG Op.bytesLess (x.map (·.2))
end Go.Proofs.Xg
set_option linter.unusedVariables false
set_option linter.unusedSimpArgs false
set_option linter.unnecessarySimpa false
set_option maxRecDepth 100000
namespace Go.Proofs.Xg
open Go Go.Xl Go.Ab Go.Proofs Go.Sort
theorem Q114 (N : Nat) (x : List Vl) (hx : x.length ≤ 1000) (h0 : x ≠ []) (hN : 1000000000000 < N) : ∃ q : List (List UInt8) × Nat, Qa2 N x = some (some q) ∧ q.1.take q.2 = txtV x ∧ q.2 ≤ q.1.length := by
 have hpos : 1 ≤ x.length := by cases x with | nil => exact absurd rfl h0 | cons a r => simp
 have hsl : (Xu.S.srt (x.map (·.2))).length = (x.map (·.2)).length := by simp [Xu.S.srt]
 obtain ⟨q, hq, h1, h2⟩ := Qvu N (Xu.S.srt (x.map (·.2))) (by rw [hsl, List.length_map]; omega) (by rw [hsl, List.length_map]; omega)
 rw [hsl] at hq
 refine ⟨q, ?_, ?_, h2⟩
 ·unfold Qa2
  refine Q7f (fun k : Nat => ((((k : Int), ()), (), ((match k with | 0 => none | j + 1 => some ((x.take (j + 1)).map (·.2), j + 1)), ()), ()) : (Int × Unit) × Unit × (Option (List (List UInt8) × Nat) × Unit) × Unit)) (some (some q)) 0 x.length (by omega) ?_ ?_ N (by omega)
  ·intro rec k _ h2
   cases k with
   | zero =>
    simp only [Q3j, Qg, decide_eq_true h2, cond_true, at?_nat, getl h2, Option.bind_some, Q6 (show 0 + 1 < 9223372036854775808 by omega), Q2p h2, List.take_zero, List.nil_append, List.map_cons, List.map_nil, List.length_cons, List.length_nil]
   | succ j =>
    have hl : ((x.take (j + 1)).map (·.2)).length = j + 1 := by rw [List.length_map, List.length_take]; omega
    have hb : ((x.take (j + 1)).map (·.2)).length.beq (j + 1) = true := by rw [hl]; simp
    have hf : fitsB (j + 1 + (0 + 1)) 16 = true := fit (by omega) (by omega)
    simp only [Q3j, Qg, decide_eq_true h2, cond_true, at?_nat, getl h2, Option.bind_some, Q6 (show j + 1 + 1 < 9223372036854775808 by omega), hb, hf, Q2p h2, List.map_append, List.map_cons, List.map_nil, List.length_cons, List.length_nil]
  ·intro rec
   cases hxl : x.length with
   | zero => omega
   | succ j =>
    have e : x.take (j + 1) = x := by rw [← hxl, List.take_length]
    have e2 : Xu.F_slices_Sort_sstring_string N (x.map (·.2)) (j + 1) = some (Xu.S.srt (x.map (·.2)), ()) := by
     have := Xu.S.Sort_eq N (x.map (·.2)) (by rw [List.length_map]; omega) hN
     rw [List.length_map, hxl] at this
     exact this
    rw [List.length_map, hxl] at hq
    simp only [Q3j, hxl, Qg, decide_eq_false (Nat.lt_irrefl _), cond_false, e, e2, Option.bind_some, hq]
 ·rw [h1]
  exact Qr1 Qch (List.mergeSort_perm _ _) (Qs2 Qch _)
theorem Qyc (N n : Nat) (w : Vl) (l : List (List UInt8)) (hn : n ≤ l.length) (hl : n ≤ 1000000) (hN : 1000000 < N) :
  ∃ i : Int, Q12 N n w l = some ((i, ()), (), (), ()) ∧ ((i = -1 ∧ (l.take n).filter (fun e => !(e == w.2)) = l.take n) ∨ ∃ m : Nat, i = (m : Int) ∧ m < n ∧ (l.take (m + 1)).filter (fun e => !(e == w.2)) = l.take m) := by
 unfold Q12
 have key := Q4q (σ := (Int × Unit) × Unit × Unit × Unit) (R := (Int × Unit) × Unit × Unit × Unit)
  (Q := fun r => ∃ i : Int, r = ((i, ()), (), (), ()) ∧ ((i = -1 ∧ (l.take n).filter (fun e => !(e == w.2)) = l.take n) ∨ ∃ m : Nat, i = (m : Int) ∧ m < n ∧ (l.take (m + 1)).filter (fun e => !(e == w.2)) = l.take m))
  (f := fun (rec : (Int × Unit) × Unit × Unit × Unit → Option ((Int × Unit) × Unit × Unit × Unit)) (z : (Int × Unit) × Unit × Unit × Unit) =>
   bif decide (z.fst.fst < (↑n : Int)) then
    bif decide (0 ≤ z.fst.fst) && decide (z.fst.fst < (↑n : Int)) then
     l[0 + z.fst.fst.toNat]?.bind fun (e : List UInt8) =>
      Option.bind (Q47 N e w) fun (y : (Bool × Unit) × Unit × Unit × Unit) =>
       bif y.fst.fst then some ((z.fst.fst, ()), (), (), ())
       else rec ((IntKind.i64.wrap (z.fst.fst + 1), ()), (), (), ())
    else none
   else some ((-1, ()), (), (), ()))
  (fun m z => ∃ k : Nat, z = (((k : Int), ()), (), (), ()) ∧ k ≤ n ∧ m = n - k ∧ (l.take k).filter (fun e => !(e == w.2)) = l.take k) ?_ N n ((((0 : Nat) : Int), ()), (), (), ()) ?_ (by omega)
 ·obtain ⟨r, h1, i, rfl, h2⟩ := key
  exact ⟨i, h1, h2⟩
 ·rintro m z rec ⟨k, rfl, h1, h2, h3⟩ ih
  by_cases hk : k < n
  ·have hkl : k < l.length := by omega
   have hb : decide (0 ≤ (k : Int)) = true := by simp
   simp only [Qg, decide_eq_true hk, cond_true, hb, Bool.and_self, Q4o, Nat.zero_add, getl hkl, Option.bind_some, Q47, Q6 (show k + 1 < 9223372036854775808 by omega)]
   cases he : (l[k] == w.2) with
   | true =>
    refine ⟨_, rfl, _, rfl, .inr ⟨k, rfl, hk, ?_⟩⟩
    rw [Q2p hkl, List.filter_append, h3]
    simp [he]
   | false =>
    refine ih (n - (k + 1)) _ (by omega) ⟨k + 1, rfl, by omega, rfl, ?_⟩
    rw [Q2p hkl, List.filter_append, h3]
    simp [he]
  ·have : k = n := by omega
   subst this
   simp only [Qg, decide_eq_false hk, cond_false]
   exact ⟨_, rfl, _, rfl, .inl ⟨rfl, h3⟩⟩
 ·exact ⟨0, rfl, Nat.zero_le _, rfl, by simp⟩
theorem Qyb (N n : Nat) (w : Vl) (l : List (List UInt8)) (hn : n ≤ l.length) (hl : n ≤ 1000000) (hN : 1000000 < N) :
  ∃ (m : Nat) (c : List (List UInt8)), Qy N n w l = some ((m, ()), (), (), c, ()) ∧ m ≤ c.length ∧ c.take m = (l.take n).filter (fun e => !(e == w.2)) := by
 obtain ⟨i, hi, hc⟩ := Qyc N n w l hn hl hN
 unfold Qy
 simp only [hi, Option.bind_some]
 rcases hc with ⟨rfl, h⟩ | ⟨i0, rfl, hi0, h⟩
 ·exact ⟨n, l, rfl, hn, h.symm⟩
 ·have hb : ((i0 : Int) == -1) = false := by rw [beq_eq_false_iff_ne]; omega
  simp only [hb, cond_false]
  rw [Q6 (show i0 + 1 < 9223372036854775808 by omega)]
  have key := Q4q (σ := (Int × Int × Unit) × Unit × Unit × List (List UInt8) × Unit) (R := (Nat × Unit) × Unit × Unit × List (List UInt8) × Unit)
   (Q := fun r => ∃ (m : Nat) (c : List (List UInt8)), r = ((m, ()), (), (), c, ()) ∧ m ≤ c.length ∧ c.take m = (l.take n).filter (fun e => !(e == w.2)))
   (f := fun rec z =>
     bif decide (z.fst.snd.fst < (↑n : Int)) then
      bif decide (0 ≤ z.fst.snd.fst) && decide (z.fst.snd.fst < (↑n : Int)) then
       z.snd.snd.snd.fst[0 + z.fst.snd.fst.toNat]?.bind fun (e : List UInt8) =>
        Option.bind (Q47 N e w) fun (y : (Bool × Unit) × Unit × Unit × Unit) =>
         bif !y.fst.fst then
          bif decide (0 ≤ z.fst.fst) && decide (z.fst.fst < (↑n : Int)) then
           z.snd.snd.snd.fst[0 + z.fst.fst.toNat]?.bind fun (e_1 : List UInt8) =>
            rec
             ((IntKind.i64.wrap (z.fst.fst + 1), IntKind.i64.wrap (z.fst.snd.fst + 1), ()), (), (),
              z.snd.snd.snd.fst.set (0 + z.fst.fst.toNat) e, ())
          else none
         else rec ((z.fst.fst, IntKind.i64.wrap (z.fst.snd.fst + 1), ()), (), (), z.snd.snd.snd.fst, ())
      else none
     else
      bif cutOk z.fst.fst (↑n : Int) n then
       bif cutOk 0 z.fst.fst n then
        some ((z.fst.fst.toNat - 0, ()), (), (), List.take (0 + z.fst.fst.toNat) z.snd.snd.snd.fst, ())
       else none
      else none)
   (fun r z => ∃ (a j : Nat) (c : List (List UInt8)), z = (((a : Int), (j : Int), ()), (), (), c, ()) ∧ a < j ∧ j ≤ n ∧ r = n - j ∧ c.length = l.length ∧ (∀ t, j ≤ t → c[t]? = l[t]?) ∧ c.take a = (l.take j).filter (fun e => !(e == w.2))) ?_ N (n - (i0 + 1)) (((i0 : Int), ((i0 + 1 : Nat) : Int), ()), (), (), l, ()) ?_ (by omega)
  ·obtain ⟨r, h1, m, c, rfl, h2⟩ := key
   exact ⟨m, c, h1, h2⟩
  ·rintro r z rec ⟨a, j, c, rfl, haj, hjn, rfl, hcl, hct, hca⟩ ih
   by_cases hj : j < n
   ·have hjl : j < l.length := by omega
    have hb1 : decide (0 ≤ (j : Int)) = true := by simp
    have hb2 : decide (0 ≤ (a : Int)) = true := by simp
    have han : a < n := by omega
    have hcj : c[j]? = some l[j] := by rw [hct _ (Nat.le_refl _), getl hjl]
    have hac : a < c.length := by omega
    simp only [Qg, decide_eq_true hj, decide_eq_true han, cond_true, hb1, hb2, Bool.and_self, Q4o, Nat.zero_add, hcj, getl hac, Option.bind_some, Q47, Q6 (show j + 1 < 9223372036854775808 by omega), Q6 (show a + 1 < 9223372036854775808 by omega)]
    cases he : (l[j] == w.2) with
    | true =>
     simp only [Bool.not_true, cond_false]
     refine ih (n - (j + 1)) _ (by omega) ⟨a, j + 1, c, rfl, by omega, by omega, rfl, hcl, fun t ht => hct t (by omega), ?_⟩
     rw [Q2p hjl, List.filter_append, hca]
     simp [he]
    | false =>
     simp only [Bool.not_false, cond_true]
     refine ih (n - (j + 1)) _ (by omega) ⟨a + 1, j + 1, c.set a l[j], rfl, by omega, by omega, rfl, by simpa using hcl, fun t ht => ?_, ?_⟩
     ·rw [List.getElem?_set_ne (by omega)]
      exact hct t (by omega)
     ·rw [Q2p hjl, List.filter_append, ← hca, List.take_add_one, List.take_set_of_le (Nat.le_refl _), List.getElem?_set_self hac]
      simp [he]
   ·have : j = n := by omega
    subst this
    have hb1 : cutOk (a : Int) (j : Int) j = true := by simp [cutOk]; omega
    have hb2 : cutOk 0 (a : Int) j = true := by simp [cutOk]; omega
    simp only [Qg, decide_eq_false hj, cond_false, hb1, hb2, cond_true, Q4o, Nat.zero_add, Nat.sub_zero]
    refine ⟨_, rfl, _, _, rfl, ?_, ?_⟩
    ·rw [List.length_take]; omega
    ·rw [List.take_take, Nat.min_self, hca]
  ·exact ⟨i0, i0 + 1, l, rfl, by omega, by omega, rfl, rfl, fun _ _ => rfl, h.symm⟩
abbrev Ln := UInt8 × List UInt8 × List (List UInt8)
def lineV (r : UInt8) (x : List Vl) : Ln := cond x.isEmpty (0, [], []) (r, (winV x).2, (txtV x).filter (fun e => !(e == (winV x).2)))
theorem Q12q (N : Nat) (r : UInt8) (x : List Vl) (hx : x.length ≤ 1000) (hN : 1000000000000 < N) : Qb6 N r x = some (lineV r x) := by
 unfold Qb6
 rw [Qz9 N x hx (by omega)]
 simp only [Option.bind_some]
 by_cases h0 : x = []
 ·subst h0; rfl
 ·have he : x.isEmpty = false := by cases x with | nil => exact absurd rfl h0 | cons a r => rfl
  obtain ⟨q, hq, q1, q2⟩ := Q114 N x hx h0 hN
  have hle : (txtV x).length ≤ 1000 := by
   have := Qkv Qch (x.map (·.2))
   rw [List.length_map] at this
   unfold txtV; omega
  have hq2 : q.2 ≤ 1000 := by
   have := congrArg List.length q1
   rw [List.length_take] at this; omega
  obtain ⟨m, c, hd, d1, d2⟩ := Qyb N q.2 (winV x) q.1 q2 (by omega) (by omega)
  have hb : (0 + m).ble c.length = true := by simp only [Nat.ble_eq]; omega
  simp only [he, Bool.not_false, Bool.not_true, cond_false, hq, Option.bind_some, Q3j, hd, hb, cond_true, List.drop_zero, d2, q1, lineV]
end Go.Proofs.Xg
set_option linter.unusedVariables false
set_option linter.unusedSimpArgs false
set_option linter.unnecessarySimpa false
set_option maxRecDepth 100000
namespace Go.Proofs.Xg
open Go Go.Xl Go.Ab Go.Proofs Go.Sort
def setsB (cid : Int) (r : UInt8) (e : Ev) : Bool := e.2.1 == 1 && (e.2.2.1 == cid && e.2.2.2.1 == r)
def valE (e : Ev) : Vl := (e.1, e.2.2.2.2.1)
def valsV (x : List Ev) (cid : Int) (r : UInt8) : List Vl := (x.filter (setsB cid r)).map valE
theorem Qfb (x : List Ev) (cid : Int) (r : UInt8) : (valsV x cid r).length ≤ x.length := by
 unfold valsV
 rw [List.length_map]
 exact List.length_filter_le _ _
def regsV (k : Nat) : List UInt8 := (List.range k).map UInt8.ofNat
def hasR (x : List Ev) (cid : Int) (k : Nat) : List UInt8 := (regsV k).filter (fun r => !(valsV x cid r).isEmpty)
theorem Qmt (x : List Ev) (cid : Int) (k : Nat) : (hasR x cid k).length ≤ k := by
 unfold hasR
 have := List.length_filter_le (fun r => !(valsV x cid r).isEmpty) (regsV k)
 simpa [regsV] using this
abbrev Cd := Int × List Ln
def Q2c (x : List Ev) (cid : Int) : List Ln := (hasR x cid 256).map fun r => lineV r (valsV x cid r)
def cardV (x : List Ev) (cid : Int) : Cd × Bool := cond (Q2c x cid).isEmpty ((0, []), false) ((cid, Q2c x cid), true)
theorem Qwe {k : Nat} (h : k < 256) : toU8 (IntKind.u8.wrap (k : Int)) = UInt8.ofNat k := by
 have : IntKind.u8.wrap (k : Int) = (k : Int) := IntWalk.u8_in _ (by omega)
 rw [this]
 unfold toU8
 congr 1
 omega
theorem Qsx {α : Type} (l : List α) : ((l.length : Int) == 0) = l.isEmpty := by
 cases l with
 | nil => rfl
 | cons a r => rw [beq_eq_false_iff_ne.2]; rfl; simp only [List.length_cons]; omega
end Go.Proofs.Xg
set_option linter.unusedVariables false
set_option linter.unusedSimpArgs false
set_option linter.unnecessarySimpa false
set_option maxRecDepth 100000
namespace Go.Proofs.Xg
open Go Go.Xl Go.Ab Go.Proofs Go.Sort
section
variable {kt vt : Ty}
theorem Qde (hk : kt.key = true) (a a' : kt.T) (v : List vt.T) (f : Bool) (c : Nat) [DecidableEq kt.T] : ∀ es : EntT kt vt, tget a' (tput a v f c (toff a es)) = if a' = a then some (tborn a es c, f, v) else tget a' es
 | [] => by
  by_cases h : a' = a
  ·subst h; simp [toff, tput, tget, tborn, (Ty.eqv_iff kt a' a' hk).2 rfl]
  ·have : kt.eqv a' a = false := by rw [Bool.eq_false_iff]; exact fun hh => h ((Ty.eqv_iff kt a' a hk).1 hh)
   simp [toff, tput, tget, this, h]
 | e :: r => by
  cases he : kt.eqv a e.2.1 with
  | true =>
   have e1 := (Ty.eqv_iff kt _ _ hk).1 he
   simp only [toff, he, cond_true, tput, tget]
   by_cases h : a' = a
   ·subst h; simp [tborn, tget, he, (Ty.eqv_iff kt a' a' hk).2 rfl]
   ·have : kt.eqv a' a = false := by rw [Bool.eq_false_iff]; exact fun hh => h ((Ty.eqv_iff kt a' a hk).1 hh)
    rw [← e1]
    simp [this, h]
  | false =>
   have ih := Qde hk a a' v f c r
   simp only [toff, he, cond_false, tput, tget]
   rw [ih]
   by_cases h : a' = a
   ·subst h; simp [he, tborn, tget]
   ·simp [h]
theorem Qte (a : kt.T) : ∀ es : EntT kt vt, mget a (fgT es) = (tget a es).map (·.2.2)
 | [] => rfl
 | e :: r => by
  have ih := Qte a r
  simp only [fgT, List.map_cons, mget, tget] at ih ⊢
  cases kt.eqv a e.2.1 with
  | true => rfl
  | false => exact ih
theorem Qdf (hk : kt.key = true) (a : kt.T) (v : List vt.T) (f : Bool) (c : Nat) [DecidableEq kt.T] : ∀ es : EntT kt vt, (tput a v f c (toff a es)).map (·.2.1) = if a ∈ es.map (·.2.1) then es.map (·.2.1) else es.map (·.2.1) ++ [a]
 | [] => by simp [toff, tput]
 | e :: r => by
  cases he : kt.eqv a e.2.1 with
  | true =>
   have e1 := (Ty.eqv_iff kt _ _ hk).1 he
   have hm : a ∈ (e :: r).map (·.2.1) := by rw [List.map_cons, ← e1]; exact List.mem_cons_self
   rw [if_pos hm]
   simp only [toff, he, cond_true, tput, List.map_cons]
   exact congrArg (· :: _) e1
  | false =>
   have ih := Qdf hk a v f c r
   have hne : ¬ a = e.2.1 := fun hh => by rw [(Ty.eqv_iff kt a e.2.1 hk).2 hh] at he; cases he
   simp only [toff, he, cond_false, tput, List.map_cons, ih, List.mem_cons]
   by_cases h : a ∈ r.map (·.2.1)
   ·rw [if_pos h, if_pos (.inr h)]
   ·rw [if_neg h, if_neg (by rintro (h' | h'); exact hne h'; exact h h')]; rfl
end
abbrev Es8 := EntT .u8 Qe
theorem Qo1 (x : List Ev) (e : Ev) (cid : Int) (r : UInt8) : valsV (x ++ [e]) cid r = valsV x cid r ++ cond (setsB cid r e) [valE e] [] := by
 unfold valsV
 rw [List.filter_append, List.map_append]
 cases h : setsB cid r e <;> simp [h]
structure MapOf (x : List Ev) (cid : Int) (es : Es8) : Prop where
 flag : ∀ r : UInt8, tflag (kt := .u8) r es = true
 val : ∀ r : UInt8, tval (kt := .u8) r es = valsV x cid r
 nd : (es.map (·.2.1)).Nodup
 key : ∀ r : UInt8, r ∈ es.map (·.2.1) ↔ valsV x cid r ≠ []
theorem MapOf.skip {x : List Ev} {cid : Int} {es : Es8} (h : MapOf x cid es) {e : Ev} (he : ∀ r, setsB cid r e = false) : MapOf (x ++ [e]) cid es := by
 have : ∀ r, valsV (x ++ [e]) cid r = valsV x cid r := fun r => by rw [Qo1, he r]; simp
 exact ⟨h.flag, fun r => by rw [this]; exact h.val r, h.nd, fun r => by rw [this]; exact h.key r⟩
theorem MapOf.put {x : List Ev} {cid : Int} {es : Es8} (h : MapOf x cid es) {e : Ev} {r0 : UInt8} (he : ∀ r, setsB cid r e = decide (r = r0)) (c : Nat) : MapOf (x ++ [e]) cid (tput (kt := .u8) (vt := Qe) r0 (tval (kt := .u8) r0 es ++ [valE e]) true c (toff (kt := .u8) r0 es)) := by
 have hv : ∀ r, valsV (x ++ [e]) cid r = if r = r0 then valsV x cid r ++ [valE e] else valsV x cid r := fun r => by
  rw [Qo1, he r]
  by_cases hr : r = r0 <;> simp [hr]
 refine ⟨fun r => ?_, fun r => ?_, ?_, fun r => ?_⟩
 ·unfold tflag
  rw [Qde rfl]
  by_cases hr : r = r0
  ·rw [if_pos hr]
  ·rw [if_neg hr]; exact h.flag r
 ·rw [hv]
  unfold tval
  rw [Qde rfl]
  by_cases hr : r = r0
  ·subst hr
   rw [if_pos rfl, if_pos rfl, ← h.val r]; rfl
  ·rw [if_neg hr, if_neg hr, ← h.val r]; rfl
 ·rw [Qdf rfl]
  split
  ·exact h.nd
  ·rename_i hn
   rw [List.nodup_append]
   exact ⟨h.nd, by simp, fun a ha b hb => by simp at hb; subst hb; rintro rfl; exact hn ha⟩
 ·rw [Qdf rfl, hv]
  by_cases hr : r = r0
  ·subst hr
   rw [if_pos rfl]
   split <;> simp_all
  ·rw [if_neg hr, ← h.key r]
   split
   ·rfl
   ·simp [hr]
theorem Qub (k : Nat) (h : k ≤ 256) : (regsV k).Pairwise (fun x y => x < y) := by
 unfold regsV
 rw [List.pairwise_map]
 refine (List.pairwise_lt_range (n := k)).imp_of_mem ?_
 intro a b ha hb hab
 rw [List.mem_range] at ha hb
 rw [UInt8.lt_iff_toNat_lt, UInt8.toNat_ofNat', UInt8.toNat_ofNat']
 omega
theorem Qtk (r : UInt8) : r ∈ regsV 256 := by
 unfold regsV
 rw [List.mem_map]
 refine ⟨r.toNat, List.mem_range.2 r.toNat_lt, ?_⟩
 simp
theorem MapOf.keys {x : List Ev} {cid : Int} {es : Es8} (h : MapOf x cid es) : keys8 (fgT es) = hasR x cid 256 := by
 unfold keys8
 have hs : (hasR x cid 256).Pairwise (fun x y => x < y) := (Qub 256 (Nat.le_refl _)).filter _
 refine Qlq ?_ (hs.imp fun {a b} hab => UInt8.le_of_lt hab)
 rw [show (fgT es).map (fun e => e.2.1) = es.map (·.2.1) from Qh0 es]
 refine (List.perm_ext_iff_of_nodup h.nd (hs.imp fun {a b} hab => UInt8.ne_of_lt hab)).2 fun r => ?_
 rw [h.key r]
 unfold hasR
 rw [List.mem_filter]
 simp [Qtk]
theorem MapOf.get {x : List Ev} {cid : Int} {es : Es8} (h : MapOf x cid es) (r : UInt8) : (mgetX .u8 Qe.sl r (fgTX .u8 Qe es)).getD [] = valsV x cid r := by
 rw [← h.val r]
 show (mget r (fgT es)).getD [] = _
 rw [Qte]
 unfold tval
 cases tget (kt := .u8) (vt := Qe) r es <;> rfl
theorem Qz0 {x : List Ev} {cid : Int} {es : Es8} (h : MapOf x cid es) : es.length = (hasR x cid 256).length := by
 rw [← h.keys]
 unfold keys8
 rw [(Qfk _).length_eq, List.length_map]
 simp [fgT]
theorem Qwc (N : Nat) (x : List Ev) (cid : Int) (hx : x.length ≤ 1000) (hN : 1000000000000 < N) : Q6w N x cid = some (cardV x cid) := by
 unfold Q6w
 refine Qwm ?_
 refine Q4q (Q := fun r => r = cardV x cid) (fun m z => ∃ (k : Nat) (es : Es8) (clk : Nat), z = (((k : Int), ()), (), (), (es, clk), ()) ∧ k ≤ x.length ∧ m = x.length - k ∧ MapOf (x.take k) cid es) ?_ N x.length _ ⟨0, [], 0, rfl, by omega, by omega, ⟨fun _ => rfl, fun _ => rfl, by simp, fun r => by simp [valsV]⟩⟩ (by omega)
 rintro m z rec ⟨k, es, clk, rfl, hk, rfl, hm⟩ ih
 by_cases hkl : k < x.length
 ·simp only [Qg, decide_eq_true hkl, cond_true, at?_nat, getl hkl, Option.bind_some, Q6 (show k + 1 < 9223372036854775808 by omega)]
  cases h1 : x[k].2.1 == 1 with
  | false =>
   simp only [cond_false]
   refine ih (x.length - (k + 1)) _ (by omega) ⟨k + 1, es, clk, rfl, by omega, rfl, ?_⟩
   rw [Q2p hkl]
   exact hm.skip fun r => by simp [setsB, h1]
  | true =>
   cases h2 : x[k].2.2.1 == cid with
   | false =>
    simp only [cond_false, cond_true]
    refine ih (x.length - (k + 1)) _ (by omega) ⟨k + 1, es, clk, rfl, by omega, rfl, ?_⟩
    rw [Q2p hkl]
    exact hm.skip fun r => by simp [setsB, h2]
   | true =>
    have e1 : Qyd .u8 Qe x[k].2.2.2.1 es = true := hm.flag _
    have e2 : (tvalX .u8 Qe x[k].2.2.2.1 es).length ≤ k := by
     rw [show tvalX .u8 Qe x[k].2.2.2.1 es = valsV (x.take k) cid x[k].2.2.2.1 from hm.val _]
     have := Qfb (x.take k) cid x[k].2.2.2.1
     rw [List.length_take] at this; omega
    have hf : fitsB ((tvalX .u8 Qe x[k].2.2.2.1 es).length + (0 + 1)) 32 = true := fit (by omega) (by omega)
    simp only [cond_true, e1, List.length_cons, List.length_nil, hf]
    refine ih (x.length - (k + 1)) _ (by omega) ⟨k + 1, _, _, rfl, by omega, rfl, ?_⟩
    rw [Q2p hkl]
    refine hm.put (e := x[k]) (r0 := x[k].2.2.2.1) (fun r => ?_) clk
    simp only [setsB, h1, h2, Bool.true_and]
    rw [Bool.eq_iff_iff]
    simp only [beq_iff_eq, decide_eq_true_eq]
    exact eq_comm
 ·have : k = x.length := by omega
  subst this
  rw [List.take_length] at hm
  have hlen : (fgTX .u8 Qe es).length = (hasR x cid 256).length := by rw [← Qz0 hm]; simp [fgT]
  have hle : (hasR x cid 256).length ≤ 256 := Qmt x cid 256
  have hb : (fgTX .u8 Qe es).length.ble 1000000000 = true := by rw [Nat.ble_eq, hlen]; omega
  have hks : keys8 (fgTX .u8 Qe es) = hasR x cid 256 := hm.keys
  simp only [Qg, decide_eq_false hkl, cond_false, hb, cond_true, hks]
  rw [hlen, Qsx]
  cases hh : (hasR x cid 256).isEmpty with
  | true =>
   have : hasR x cid 256 = [] := by simpa using hh
   refine ⟨_, rfl, ?_⟩
   simp [cardV, Q2c, this]
  | false =>
   simp only [cond_false]
   refine ⟨cardV x cid, ?_, rfl⟩
   have hc : cardV x cid = ((cid, Q2c x cid), true) := by
    have : (Q2c x cid).isEmpty = false := by
     unfold Q2c
     cases hq : hasR x cid 256 with
     | nil => rw [hq] at hh; cases hh
     | cons a r => rfl
    simp only [cardV, this, cond_false]
   rw [hc]
   refine Q7f (fun k : Nat => ((((k : Int), ()), ((cid, ((hasR x cid 256).take k).map (fun r => lineV r (valsV x cid r)), ()), ()), (), ()) : (Int × Unit) × ((Int × List Ln × Unit) × Unit) × Unit × Unit)) _ 0 (hasR x cid 256).length (by omega) ?_ ?_ N (by omega)
   ·intro rec k _ h2
    have hl : (((hasR x cid 256).take k).map (fun r => lineV r (valsV x cid r))).length ≤ k := by
     rw [List.length_map, List.length_take]; omega
    have hv := Qfb x cid (hasR x cid 256)[k]
    rw [Q2p h2, List.map_append]
    generalize ((hasR x cid 256).take k).map (fun r => lineV r (valsV x cid r)) = A at *
    have hf2 : fitsB (A.length + (0 + 1)) 48 = true := fit (by omega) (by omega)
    have hg := hm.get (hasR x cid 256)[k]
    simp only [Qg, decide_eq_true h2, cond_true, at?_nat, getl h2, Option.bind_some, Q6 (show k + 1 < 9223372036854775808 by omega), hg, Q12q N _ _ (show (valsV x cid (hasR x cid 256)[k]).length ≤ 1000 by omega) hN, List.length_cons, List.length_nil, hf2, List.map_cons, List.map_nil]
   ·intro rec
    simp only [Qg, decide_eq_false (Nat.lt_irrefl _), cond_false, List.take_length, Q2c]
end Go.Proofs.Xg
set_option linter.unusedVariables false
set_option linter.unusedSimpArgs false
set_option linter.unnecessarySimpa false
set_option maxRecDepth 100000
namespace Go.Proofs.Xg
open Go Go.Xl Go.Ab Go.Proofs Go.Sort
abbrev ltI (x y : Int) : Bool := decide (x < y)
def cidL (x : List Ev) : List Int := (x.filter (fun e => e.2.1 == 1)).map (·.2.2.1)
def cidsV (x : List Ev) : List Int := putsG ltI (cidL x)
theorem Qz8 (x : List Ev) (e : Ev) : cidL (x ++ [e]) = cidL x ++ cond (e.2.1 == 1) [e.2.2.1] [] := by
 unfold cidL
 rw [List.filter_append, List.map_append]
 cases h : e.2.1 == 1 <;> simp [h]
theorem Qmp (x : List Ev) : (cidL x).length ≤ x.length := by
 unfold cidL
 rw [List.length_map]
 exact List.length_filter_le _ _
theorem Qqy (x : List Ev) : (cidsV x).length ≤ x.length := Nat.le_trans (Qkv Qgl _) (Qmp x)
def listV (x : List Ev) : List Cd := (cidsV x).map fun c => (cardV x c).1
theorem Qhj {X Y : Type} (h : X → Y) : ∀ (l : List X) (a : List Y), l.foldl (fun a x => a ++ [h x]) a = a ++ l.map h
 | [], a => by simp
 | x :: r, a => by
  simp only [List.foldl_cons, List.map_cons]
  rw [Qhj h r]
  simp
theorem Q129 (N : Nat) (hN : 0 < N) : Xu.F0_slices_Sort_suint64_uint64 N = some () := by
 unfold Xu.F0_slices_Sort_suint64_uint64 Xu.F0_slices_pdqsortOrdered_uint64
 rw [len0, Option.bind_some]
 obtain ⟨M, rfl⟩ : ∃ M, N = M + 1 := ⟨N - 1, by omega⟩
 unfold Xu.F0_slices_insertionSortOrdered_uint64
 simp only [iter]
 rfl
def optL (c : List Int) : Option (List Int × Nat) := match c with
 | [] => none
 | a :: r => some (a :: r, (a :: r).length)
theorem Qwa (N : Nat) (x : List Ev) (hx : x.length ≤ 1000) (hN : 1000000000000 < N) : Q84 N x = some (listV x) := by
 have hsl : (Xu.U.srt (cidL x)).length = (cidL x).length := by simp [Xu.U.srt]
 have hcl := Qmp x
 obtain ⟨q, hq, h1, h2⟩ := Qvc N (Xu.U.srt (cidL x)) (by rw [hsl]; omega) (by rw [hsl]; omega)
 rw [hsl] at hq
 have h1 : q.1.take q.2 = cidsV x := by
  rw [h1]
  exact Qr1 Qgl (List.mergeSort_perm _ _) (Qs2 Qgl _)
 have hc := Qqy x
 have hcv : (cidsV x).length = q.2 := by rw [← h1, List.length_take]; omega
 unfold Q84
 refine Q7f (fun k : Nat => ((((k : Int), ()), (), (optL (cidL (x.take k)), ()), ()) : (Int × Unit) × Unit × (Option (List Int × Nat) × Unit) × Unit)) (some (listV x)) 0 x.length (by omega) ?_ ?_ N (by omega)
 ·intro rec k _ hk
  have hl := Qmp (x.take k)
  rw [List.length_take] at hl
  rw [Q2p hk, Qz8]
  generalize cidL (x.take k) = c at *
  cases c with
  | nil =>
   simp only [optL, Q3j, Qg, decide_eq_true hk, cond_true, at?_nat, getl hk, Option.bind_some, Q6 (show k + 1 < 9223372036854775808 by omega)]
   cases x[k].2.1 == 1 <;> rfl
  | cons a r =>
   have hb : (a :: r).length.beq (a :: r).length = true := by simp
   have hf : fitsB ((a :: r).length + [x[k].2.2.1].length) 8 = true := fit (by simp only [List.length_cons, List.length_nil] at *; omega) (by simp only [List.length_cons, List.length_nil] at *; omega)
   simp only [optL, Q3j, Qg, decide_eq_true hk, cond_true, at?_nat, getl hk, Option.bind_some, Q6 (show k + 1 < 9223372036854775808 by omega), hb, hf]
   cases x[k].2.1 == 1 with
   | true =>
    simp only [cond_true, List.cons_append, List.length_append, List.length_cons, List.length_nil]
   | false => simp only [cond_false, List.append_nil]
 ·intro rec
  rw [List.take_length]
  cases hcc : cidL x with
  | nil =>
   simp only [optL, Q3j, Qg, decide_eq_false (Nat.lt_irrefl _), cond_false, Q129 N (by omega), Q1o, Option.bind_some]
   have : listV x = [] := by unfold listV cidsV; rw [hcc]; rfl
   rw [this]
   obtain ⟨M, rfl⟩ : ∃ M, N = M + 1 := ⟨N - 1, by omega⟩
   simp only [iter]
   rfl
  | cons a r =>
   have hsort : Xu.F_slices_Sort_suint64_uint64 N (a :: r) (a :: r).length = some (Xu.U.srt (a :: r), ()) := Xu.U.Sort_eq N (a :: r) (by rw [← hcc]; omega) hN
   rw [hcc] at hq
   have hb : (0 + q.2).ble q.1.length = true := by rw [Nat.ble_eq]; omega
   simp only [optL, Q3j, Qg, decide_eq_false (Nat.lt_irrefl _), cond_false, hsort, hq, Option.bind_some, hb, cond_true, List.drop_zero, h1]
   simp only [← hcv]
   have hq : listV x = [] ++ (cidsV x).map (fun c => (cardV x c).1) := rfl
   rw [hq, ← Qhj]
   refine Qqe (cidsV x) (fun a c => a ++ [(cardV x c).1]) [] (fun a => some a) ?_ ?_ N (by omega)
   ·intro rec k a hk ha
    have hal : a.length ≤ k := by
     rw [ha, Qhj, List.nil_append, List.length_map, List.length_take]; omega
    have hf : fitsB (a.length + (0 + 1)) 32 = true := fit (by omega) (by omega)
    simp only [Qg, decide_eq_true hk, cond_true, at?_nat, getl hk, Option.bind_some, Q6 (show k + 1 < 9223372036854775808 by omega), Qwc N x _ hx hN, List.length_cons, List.length_nil, hf]
   ·intro rec
    simp only [Qg, decide_eq_false (Nat.lt_irrefl _), cond_false]
theorem Qe9 {α : Type} [BEq α] [LawfulBEq α] (a : α) : (a != a) = false := by simp
theorem Qza (N : Nat) (l : List (List UInt8)) (hl : l.length ≤ 100000) (hN : 1000000 < N) : Q38 N l l = some true := by
 unfold Q38
 simp only [Qe9, cond_false]
 refine Q7f (fun k : Nat => ((((k : Int), ()), (), (), ()) : (Int × Unit) × Unit × Unit × Unit)) (some true) 0 l.length (by omega) ?_ ?_ N (by omega)
 ·intro rec k _ hk
  simp only [Qg, decide_eq_true hk, cond_true, at?_nat, getl hk, Option.bind_some, Q6 (show k + 1 < 9223372036854775808 by omega), Qe9, cond_false]
 ·intro rec
  simp only [Qg, decide_eq_false (Nat.lt_irrefl _), cond_false]
theorem Qzk (N : Nat) (l : List Ln) (hl : l.length ≤ 100000) (hs : ∀ e ∈ l, e.2.2.length ≤ 100000) (hN : 1000000 < N) : Q2x N l l = some true := by
 unfold Q2x
 simp only [Qe9, cond_false]
 refine Q7f (fun k : Nat => ((((k : Int), ()), (), (), ()) : (Int × Unit) × Unit × Unit × Unit)) (some true) 0 l.length (by omega) ?_ ?_ N (by omega)
 ·intro rec k _ hk
  simp only [Qg, decide_eq_true hk, cond_true, at?_nat, getl hk, Option.bind_some, Q6 (show k + 1 < 9223372036854775808 by omega), Qe9, cond_false, Qza N _ (hs _ (List.getElem_mem hk)) hN, Bool.not_true]
 ·intro rec
  simp only [Qg, decide_eq_false (Nat.lt_irrefl _), cond_false]
structure SmC (c : Cd) : Prop where
 len : c.2.length ≤ 100000
 txt : ∀ e ∈ c.2, e.2.2.length ≤ 100000
theorem Qs0 (N : Nat) (c : Cd) (hc : SmC c) (hN : 1000000 < N) : Q2a N c c = some true := by
 unfold Q2a
 simp only [beq_self_eq_true, cond_true, Qzk N c.2 hc.len hc.txt hN, Option.bind_some]
theorem sameAll (N : Nat) (l : List Cd) (hl : l.length ≤ 100000) (hs : ∀ c ∈ l, SmC c) (hN : 1000000 < N) : Q43 N l l = some true := by
 unfold Q43
 simp only [Qe9, cond_false]
 refine Q7f (fun k : Nat => ((((k : Int), ()), (), (), ()) : (Int × Unit) × Unit × Unit × Unit)) (some true) 0 l.length (by omega) ?_ ?_ N (by omega)
 ·intro rec k _ hk
  simp only [Qg, decide_eq_true hk, cond_true, at?_nat, getl hk, Option.bind_some, Q6 (show k + 1 < 9223372036854775808 by omega), Qs0 N _ (hs _ (List.getElem_mem hk)) hN, Bool.not_true, cond_false]
 ·intro rec
  simp only [Qg, decide_eq_false (Nat.lt_irrefl _), cond_false]
theorem Qt3 (x : List Vl) : (txtV x).length ≤ x.length := by
 have := Qkv Qch (x.map (·.2))
 rw [List.length_map] at this
 exact this
theorem Q11w (x : List Ev) (cid : Int) (hx : x.length ≤ 1000) : SmC (cardV x cid).1 := by
 unfold cardV
 cases (Q2c x cid).isEmpty with
 | true => exact ⟨by simp, by simp⟩
 | false =>
  simp only [cond_false]
  refine ⟨?_, ?_⟩
  ·unfold Q2c
   rw [List.length_map]
   have := Qmt x cid 256; omega
  ·intro e he
   unfold Q2c at he
   obtain ⟨r, _, rfl⟩ := List.mem_map.1 he
   unfold lineV
   cases (valsV x cid r).isEmpty with
   | true => simp
   | false =>
    simp only [cond_false]
    have h1 := List.length_filter_le (fun e => !(e == (winV (valsV x cid r)).2)) (txtV (valsV x cid r))
    have h2 := Qt3 (valsV x cid r)
    have h3 := Qfb x cid r
    omega
theorem Q11g (x : List Ev) (hx : x.length ≤ 1000) : ∀ c ∈ listV x, SmC c := by
 intro c hc
 obtain ⟨i, _, rfl⟩ := List.mem_map.1 hc
 exact Q11w x i hx
theorem Qrr : cardV [((1, 1), 1, 5, 1, [97], []), ((2, 1), 1, 5, 1, [98], [])] 5 = ((5, [(1, [98], [[97]])]), true) := by
 decide
theorem Qvy (N : Nat) (hN : 1000000000000 < N) : Q28 N = some true := by
 unfold Q28
 rw [Qwc N _ _ (by decide) hN, Qrr]
 simp only [Option.bind_some, cond_true]
 rw [Qs0 N _ ⟨by simp, by simp⟩ (by omega)]
 rfl
end Go.Proofs.Xg
set_option linter.unusedVariables false
set_option linter.unusedSimpArgs false
set_option linter.unnecessarySimpa false
set_option maxRecDepth 100000
namespace Go.Proofs.Xg
open Go Go.Xl Go.Ab Go.Proofs Go.Sort
theorem Q10i {a b : Vl} (h1 : ahd a b = false) (h2 : ahd b a = false) : a.1 = b.1 := by
 obtain ⟨⟨a1, a2⟩, _⟩ := a
 obtain ⟨⟨b1, b2⟩, _⟩ := b
 simp [ahd] at *
 omega
theorem Qjr : ∀ (r : List Vl) (c : Vl), ((r.foldl (fun c e => cond (ahd e c) e c) c = c ∨ r.foldl (fun c e => cond (ahd e c) e c) c ∈ r)) ∧ ahd c (r.foldl (fun c e => cond (ahd e c) e c) c) = false ∧ ∀ e ∈ r, ahd e (r.foldl (fun c e => cond (ahd e c) e c) c) = false
 | [], c => by simp [ahd]
 | e :: r, c => by
  obtain ⟨h1, h2, h3⟩ := Qjr r (cond (ahd e c) e c)
  rw [List.foldl_cons]
  generalize r.foldl (fun c e => cond (ahd e c) e c) (cond (ahd e c) e c) = R at *
  cases hc : ahd e c with
  | true =>
   rw [hc, cond_true] at h1 h2
   refine ⟨.inr (by rcases h1 with h | h <;> simp [h]), ?_, ?_⟩
   ·simp [ahd] at *; omega
   ·intro x hx
    rcases List.mem_cons.1 hx with rfl | hx
    ·exact h2
    ·exact h3 x hx
  | false =>
   rw [hc, cond_false] at h1 h2
   refine ⟨by rcases h1 with h | h <;> simp [h], h2, ?_⟩
   intro x hx
   rcases List.mem_cons.1 hx with rfl | hx
   ·simp [ahd] at *; omega
   ·exact h3 x hx
theorem Qn4 {l : List Vl} (h : l ≠ []) : winV l ∈ l := by
 cases l with
 | nil => exact absurd rfl h
 | cons a r =>
  rcases (Qjr r a).1 with h | h
  ·show r.foldl _ a ∈ _
   rw [h]; exact List.mem_cons_self
  ·exact List.mem_cons_of_mem _ h
theorem Qt6 {l : List Vl} {e : Vl} (h : e ∈ l) : ahd e (winV l) = false := by
 cases l with
 | nil => cases h
 | cons a r =>
  obtain ⟨_, h2, h3⟩ := Qjr r a
  rcases List.mem_cons.1 h with rfl | h
  ·exact h2
  ·exact h3 e h
theorem Q120 {l m : List Vl} (hm : ∀ e, e ∈ l ↔ e ∈ m) (hu : ∀ a ∈ l, ∀ b ∈ l, a.1 = b.1 → a = b) : winV l = winV m := by
 by_cases h0 : l = []
 ·subst h0
  have : m = [] := by
   cases m with
   | nil => rfl
   | cons a r => have := (hm a).2 List.mem_cons_self; cases this
  rw [this]
 ·have h1 := Qn4 h0
  have h0' : m ≠ [] := fun h => by rw [h] at hm; have := (hm _).1 h1; cases this
  have h2 := Qn4 h0'
  exact hu _ h1 _ ((hm _).2 h2) (Q10i (Qt6 ((hm _).1 h1)) (Qt6 ((hm _).2 h2)))
theorem Qak {x : List Ev} {cid : Int} {r : UInt8} {v : Vl} : v ∈ valsV x cid r ↔ ∃ e ∈ x, setsB cid r e = true ∧ valE e = v := by
 unfold valsV
 simp only [List.mem_map, List.mem_filter, and_assoc]
theorem Qz5 {l m : List Vl} (r : UInt8) (hm : ∀ e, e ∈ l ↔ e ∈ m) (hu : ∀ a ∈ l, ∀ b ∈ l, a.1 = b.1 → a = b) : lineV r l = lineV r m := by
 unfold lineV
 have h1 : l.isEmpty = m.isEmpty := by
  cases l with
  | nil =>
   cases m with
   | nil => rfl
   | cons a r => have := (hm a).2 List.mem_cons_self; cases this
  | cons a r =>
   cases m with
   | nil => have := (hm a).1 List.mem_cons_self; cases this
   | cons _ _ => rfl
 have h2 : txtV l = txtV m := Qpz Qch fun t => by
  simp only [List.mem_map]
  exact ⟨fun ⟨a, h, e⟩ => ⟨a, (hm a).1 h, e⟩, fun ⟨a, h, e⟩ => ⟨a, (hm a).2 h, e⟩⟩
 rw [h1, Q120 hm hu, h2]
structure Mates (x y : List Ev) : Prop where
 mem : ∀ e, e ∈ x ↔ e ∈ y
 uniq : ∀ a ∈ x, ∀ b ∈ x, a.1 = b.1 → a = b
theorem Mates.vals {x y : List Ev} (h : Mates x y) (cid : Int) (r : UInt8) : (∀ v, v ∈ valsV x cid r ↔ v ∈ valsV y cid r) ∧ ∀ a ∈ valsV x cid r, ∀ b ∈ valsV x cid r, a.1 = b.1 → a = b := by
 refine ⟨fun v => ?_, fun a ha b hb hab => ?_⟩
 ·rw [Qak, Qak]
  exact ⟨fun ⟨e, h1, h2⟩ => ⟨e, (h.mem e).1 h1, h2⟩, fun ⟨e, h1, h2⟩ => ⟨e, (h.mem e).2 h1, h2⟩⟩
 ·obtain ⟨e, he, _, rfl⟩ := Qak.1 ha
  obtain ⟨e', he', _, rfl⟩ := Qak.1 hb
  rw [h.uniq e he e' he' hab]
theorem Q10j {α : Type} {l m : List α} (h : ∀ v, v ∈ l ↔ v ∈ m) : l.isEmpty = m.isEmpty := by
 cases l with
 | nil =>
  cases m with
  | nil => rfl
  | cons a r => have := (h a).2 List.mem_cons_self; cases this
 | cons a r =>
  cases m with
  | nil => have := (h a).1 List.mem_cons_self; cases this
  | cons _ _ => rfl
theorem Mates.card {x y : List Ev} (h : Mates x y) (cid : Int) : cardV x cid = cardV y cid := by
 have h1 : hasR x cid 256 = hasR y cid 256 := by
  unfold hasR
  refine List.filter_congr fun r _ => ?_
  rw [Q10j (h.vals cid r).1]
 have h2 : Q2c x cid = Q2c y cid := by
  unfold Q2c
  rw [h1]
  exact List.map_congr_left fun r _ => Qz5 r (h.vals cid r).1 (h.vals cid r).2
 unfold cardV
 rw [h2]
theorem Mates.list {x y : List Ev} (h : Mates x y) : listV x = listV y := by
 have h1 : cidsV x = cidsV y := Qpz Qgl fun c => by
  unfold cidL
  simp only [List.mem_map, List.mem_filter]
  exact ⟨fun ⟨a, ⟨h1, h2⟩, e⟩ => ⟨a, ⟨(h.mem a).1 h1, h2⟩, e⟩, fun ⟨a, ⟨h1, h2⟩, e⟩ => ⟨a, ⟨(h.mem a).2 h1, h2⟩, e⟩⟩
 unfold listV
 rw [h1]
 exact List.map_congr_left fun c _ => by rw [h.card c]
end Go.Proofs.Xg
set_option linter.unusedVariables false
set_option linter.unusedSimpArgs false
set_option linter.unnecessarySimpa false
set_option maxRecDepth 100000
namespace Go.Proofs.Xg
open Go Go.Xl Go.Ab Go.Proofs Go.Sort
theorem Qk5 {σ R : Type} {f : (σ → Option R) → σ → Option R} (st : Nat → σ) (a n : Nat) (han : a ≤ n)
  (hs : ∀ (rec : σ → Option R) (k : Nat), a ≤ k → k < n → (∃ r, rec (st (k + 1)) = some r) → ∃ r, f rec (st k) = some r) (he : ∀ rec, ∃ r, f rec (st n) = some r) (N : Nat) (hN : n < N) : ∃ r, iter f N (st a) = some r := by
 have key : ∀ (m k : Nat), a ≤ k → k ≤ n → n - k < m → ∃ r, iter f m (st k) = some r := by
  intro m
  induction m with
  | zero => intro k _ _ h; omega
  | succ m ih =>
   intro k h1 h2 h3
   simp only [iter]
   by_cases hk : k < n
   ·exact hs _ k h1 hk (ih (k + 1) (by omega) (by omega) (by omega))
   ·have : k = n := by omega
    subst this
    exact he _
 exact key N a (Nat.le_refl _) han (by omega)
abbrev st1' (k : Nat) : (Int × Unit) × Unit × Unit × Unit := (((k : Int), ()), (), (), ())
theorem Qz7 (N : Nat) (t : List UInt8) (ht : t.length ≤ 1000) (hN : 1000000 < N) : ∃ b, Qh N t = some b := by
 unfold Qh
 refine Qk5 st1' 0 t.length (by omega) ?_ ?_ N (by omega)
 ·rintro rec k _ hk ⟨r, hr⟩
  simp only [st1'] at hr
  simp only [Qg, decide_eq_true hk, cond_true, at?_nat, getl hk, Option.bind_some, Q6 (show k + 1 < 9223372036854775808 by omega), hr]
  cases decide (t[k] < 32) <;> cases decide (126 < t[k]) <;> exact ⟨_, rfl⟩
 ·intro rec
  simp only [Qg, decide_eq_false (Nat.lt_irrefl _), cond_false]
  exact ⟨_, rfl⟩
theorem Quo (N : Nat) (l : List (Int × Int)) (hl : l.length ≤ 1000) (hN : 1000000 < N) : ∃ b, Qf N l = some b := by
 unfold Qf
 rcases Nat.eq_zero_or_pos l.length with h0 | h0
 ·obtain ⟨M, rfl⟩ : ∃ M, N = M + 1 := ⟨N - 1, by omega⟩
  have : decide ((1 : Int) < (l.length : Int)) = false := by rw [h0]; rfl
  simp only [iter, this, cond_false]
  exact ⟨_, rfl⟩
 ·refine Qk5 st1' 1 l.length h0 ?_ ?_ N (by omega)
  ·rintro rec k h1 hk ⟨r, hr⟩
   simp only [st1'] at hr
   have hk1 : k - 1 < l.length := by omega
   simp only [Qg, decide_eq_true hk, cond_true, Qq (show 0 < k by omega) (show k < 9223372036854775808 by omega), at?_nat, getl hk, getl hk1, Option.bind_some, Q6 (show k + 1 < 9223372036854775808 by omega), hr, Qq1]
   cases decide (0 ≤ cfDot l[k - 1] l[k]) <;> exact ⟨_, rfl⟩
  ·intro rec
   simp only [Qg, decide_eq_false (Nat.lt_irrefl _), cond_false]
   exact ⟨_, rfl⟩
theorem Qfy (N : Nat) (d : Int × Int) : ∃ b, Qc N d = some b := by
 unfold Qc
 cases decide (1 ≤ d.1) <;> cases decide (1 ≤ d.2) <;> exact ⟨_, rfl⟩
theorem Quu (N : Nat) (c : Int) : ∃ u, Q13 N c = some u := by
 unfold Q13 Q5c
 simp only [Option.bind_some]
 obtain ⟨b, hb⟩ := Qfy N (IntKind.u16.wrap (IntKind.u64.wrap (c.tdiv 281474976710656)), c.tmod 281474976710656)
 rw [hb]
 cases b <;> exact ⟨_, rfl⟩
theorem Quz (N : Nat) (r : UInt8) : ∃ b, Qu N r = some b := by
 unfold Qu
 cases decide (1 ≤ r) <;> exact ⟨_, rfl⟩
structure GoodE (N : Nat) (e : Ev) : Prop where
 cid : ∃ u, Q13 N e.2.2.1 = some (u, true)
 reg : e.2.1 = 1 → Qu N e.2.2.2.1 = some true
 txt : e.2.1 = 1 → Qh N e.2.2.2.2.1 = some true
structure SmE (e : Ev) : Prop where
 kills : e.2.2.2.2.2.length ≤ 300
 text : e.2.2.2.2.1.length ≤ 200
theorem kloop (N : Nat) (l : List (Int × Int)) (hl : l.length ≤ 300) (hN : 1000000 < N) (o : Option Bool) (ho : ∃ b, o = some b) {f : ((Int × Unit) × Unit × Unit × Unit → Option Bool) → (Int × Unit) × Unit × Unit × Unit → Option Bool}
  (hf : ∀ rec z, f rec z = bif decide (z.fst.fst < (l.length : Int)) then
    (at? l z.fst.fst).bind fun (e : Int × Int) => Option.bind (Qc N e) fun (y : Bool) => bif !y then some false else rec ((IntKind.i64.wrap (z.fst.fst + 1), ()), (), (), ())
   else o) : ∃ b, iter f N ((0, ()), (), (), ()) = some b := by
 refine Qk5 st1' 0 l.length (by omega) ?_ ?_ N (by omega)
 ·rintro rec k _ hk ⟨r, hr⟩
  simp only [st1'] at hr
  obtain ⟨b, hb⟩ := Qfy N l[k]
  simp only [hf, st1', Qg, decide_eq_true hk, cond_true, at?_nat, getl hk, Option.bind_some, Q6 (show k + 1 < 9223372036854775808 by omega), hr, hb]
  cases b <;> exact ⟨_, rfl⟩
 ·intro rec
  simp only [hf, st1', Qg, decide_eq_false (Nat.lt_irrefl _), cond_false]
  exact ho
noncomputable def kfun (N : Nat) (l : List (Int × Int)) (d : Int × Int) : ((Int × Unit) × Unit × Unit × Unit → Option Bool) → (Int × Unit) × Unit × Unit × Unit → Option Bool := fun rec z =>
 bif decide (z.fst.fst < (l.length : Int)) then
  (at? l z.fst.fst).bind fun (e : Int × Int) => Option.bind (Qc N e) fun (y : Bool) => bif !y then some false else rec ((IntKind.i64.wrap (z.fst.fst + 1), ()), (), (), ())
 else
  bif decide ((l.length : Int) ≤ 256) then
   Option.bind (Qf N l) fun (y : Bool) =>
    bif y then Option.bind (Qj N l d) fun (y : Bool) => some !y else some false
  else some false
theorem Q13b (N : Nat) (e : Ev) (he : SmE e) (hN : 1000000 < N) : ∃ b, Q1c N e = some b ∧ (b = true → GoodE N e) := by
 have hk := he.kills
 have ht := he.text
 unfold Q1c
 obtain ⟨⟨u, ok⟩, hu⟩ := Quu N e.2.2.1
 obtain ⟨g, hg⟩ := Qfy N e.1
 obtain ⟨rg, hrg⟩ := Quz N e.2.2.2.1
 obtain ⟨tx, htx⟩ := Qz7 N e.2.2.2.2.1 (by omega) hN
 obtain ⟨ri, hri⟩ := Quo N e.2.2.2.2.2 (by omega) hN
 have hhas := Qzt N e.2.2.2.2.2 e.1 (by omega) (by omega)
 obtain ⟨bl, hbl⟩ : ∃ b, iter (kfun N e.2.2.2.2.2 e.1) N ((0, ()), (), (), ()) = some b := by
  refine kloop N e.2.2.2.2.2 hk hN _ ?_ (fun _ _ => rfl)
  simp only [hri, hhas, Option.bind_some]
  cases decide ((e.2.2.2.2.2.length : Int) ≤ 256) <;> cases ri <;> exact ⟨_, rfl⟩
 unfold kfun at hbl
 simp only [hu, hg, hrg, htx, Option.bind_some, hbl]
 cases ok with
 | false => exact ⟨false, rfl, by simp⟩
 | true =>
  cases g with
  | false => exact ⟨false, rfl, by simp⟩
  | true =>
   simp only [Bool.not_true, cond_false]
   by_cases k1 : e.2.1 = 1
   ·have b1 : (e.2.1 == 1) = true := by simpa using k1
    have b2 : (e.2.1 == 2) = false := by rw [k1]; rfl
    simp only [bne, b1, b2, Bool.not_true, Bool.not_false, cond_false, cond_true]
    cases rg with
    | false => exact ⟨false, rfl, by simp⟩
    | true =>
     cases tx with
     | false => exact ⟨false, rfl, by simp⟩
     | true =>
      simp only [Bool.not_true, cond_false]
      exact ⟨bl, rfl, fun _ => ⟨⟨u, hu⟩, fun _ => hrg, fun _ => htx⟩⟩
   ·have b1 : (e.2.1 == 1) = false := by simpa using k1
    have G : GoodE N e := ⟨⟨u, hu⟩, fun h => absurd h k1, fun h => absurd h k1⟩
    simp only [bne, b1, Bool.not_false, cond_true, cond_false]
    cases h2 : e.2.1 == 2 with
    | false => exact ⟨false, rfl, fun _ => G⟩
    | true =>
     simp only [Bool.not_true, cond_false, cond_true]
     cases h3 : e.2.2.2.1 == 0 with
     | false => exact ⟨false, rfl, fun _ => G⟩
     | true =>
      cases h4 : e.2.2.2.2.1 == [] with
      | false => exact ⟨false, rfl, fun _ => G⟩
      | true => exact ⟨bl, rfl, fun _ => G⟩
theorem Q12e (N : Nat) (T : List (List UInt8)) (v : List UInt8) (hT : T.length ≤ 1000) (hg : ∀ t ∈ T, Qh N t = some true ∧ (t == v) = false) (ha : SAsc Op.bytesLess T) (hN : 1000000 < N) : Q1t N T v = some true := by
 unfold Q1t
 refine Q7f st1' (some true) 0 T.length (by omega) ?_ ?_ N (by omega)
 ·intro rec k _ hk
  obtain ⟨h1, h2⟩ := hg T[k] (List.getElem_mem hk)
  simp only [Qg, decide_eq_true hk, cond_true, at?_nat, getl hk, Option.bind_some, Q6 (show k + 1 < 9223372036854775808 by omega), h1, h2, Bool.not_true, cond_false]
  by_cases h0 : 0 < k
  ·have hk1 : k - 1 < T.length := by omega
   have d : decide ((0 : Int) < (k : Int)) = true := by simpa using h0
   have hlt : Op.bytesLess T[k - 1] T[k] = true := List.pairwise_iff_getElem.1 ha (k - 1) k hk1 hk (by omega)
   simp only [d, cond_true, Qq h0 (show k < 9223372036854775808 by omega), at?_nat, getl hk1, Option.bind_some, hlt, Bool.not_true, cond_false]
  ·have d : decide ((0 : Int) < (k : Int)) = false := by simpa using h0
   simp only [d, cond_false]
 ·intro rec
  simp only [st1', Qg, decide_eq_false (Nat.lt_irrefl _), cond_false]
structure GoodL (N : Nat) (l : Ln) : Prop where
 reg : Qu N l.1 = some true
 txt : Qh N l.2.1 = some true
 more : Q1t N l.2.2 l.2.1 = some true
theorem Q11b (N : Nat) (c : Cd) (u : Int × Int) (hu : Q13 N c.1 = some (u, true)) (h0 : c.2 ≠ []) (hl : c.2.length ≤ 1000) (hg : ∀ l ∈ c.2, GoodL N l) (ha : c.2.Pairwise (fun a b => a.1 < b.1)) (hN : 1000000 < N) : Q1s N c = some true := by
 unfold Q1s
 have hz : ((c.2.length : Int) == 0) = false := by
  rw [Qsx]
  cases hc : c.2 with
  | nil => exact absurd hc h0
  | cons _ _ => rfl
 simp only [hu, Option.bind_some, Bool.not_true, cond_false, hz]
 refine Q7f st1' (some true) 0 c.2.length (by omega) ?_ ?_ N (by omega)
 ·intro rec k _ hk
  have hG := hg c.2[k] (List.getElem_mem hk)
  simp only [Qg, decide_eq_true hk, cond_true, at?_nat, getl hk, Option.bind_some, Q6 (show k + 1 < 9223372036854775808 by omega), hG.reg, hG.txt, hG.more, Bool.not_true, cond_false]
  by_cases h0 : 0 < k
  ·have hk1 : k - 1 < c.2.length := by omega
   have d : decide ((0 : Int) < (k : Int)) = true := by simpa using h0
   have hlt : c.2[k - 1].1 < c.2[k].1 := List.pairwise_iff_getElem.1 ha (k - 1) k hk1 hk (by omega)
   have hle : decide (c.2[k].1 ≤ c.2[k - 1].1) = false := by
    rw [decide_eq_false_iff_not, UInt8.le_iff_toNat_le]
    rw [UInt8.lt_iff_toNat_lt] at hlt
    omega
   simp only [d, cond_true, Qq h0 (show k < 9223372036854775808 by omega), at?_nat, getl hk1, Option.bind_some, hle, cond_false]
  ·have d : decide ((0 : Int) < (k : Int)) = false := by simpa using h0
   simp only [d, cond_false]
 ·intro rec
  simp only [st1', Qg, decide_eq_false (Nat.lt_irrefl _), cond_false]
theorem Q11i (N : Nat) (y : List Ev) (hy : y.length ≤ 1000) (hg : ∀ e ∈ y, GoodE N e) (hN : 1000000 < N) : ∀ c ∈ listV y, Q1s N c = some true := by
 intro c hc
 obtain ⟨i, hi, rfl⟩ := List.mem_map.1 hc
 unfold cidsV at hi
 rw [Qcu Qgl] at hi
 unfold cidL at hi
 obtain ⟨e, he, rfl⟩ := List.mem_map.1 hi
 obtain ⟨he, hk⟩ := List.mem_filter.1 he
 have hk1 : e.2.1 = 1 := by simpa using hk
 obtain ⟨u, hu⟩ := (hg e he).cid
 have hv : valE e ∈ valsV y e.2.2.1 e.2.2.2.1 := Qak.2 ⟨e, he, by simp [setsB, hk1], rfl⟩
 have hr : e.2.2.2.1 ∈ hasR y e.2.2.1 256 := by
  unfold hasR
  refine List.mem_filter.2 ⟨Qtk _, ?_⟩
  cases hq : valsV y e.2.2.1 e.2.2.2.1 with
  | nil => rw [hq] at hv; cases hv
  | cons _ _ => rfl
 have hne : Q2c y e.2.2.1 ≠ [] := by
  intro h
  unfold Q2c at h
  rw [List.map_eq_nil_iff] at h
  rw [h] at hr; cases hr
 have hcv : cardV y e.2.2.1 = ((e.2.2.1, Q2c y e.2.2.1), true) := by
  unfold cardV
  cases hq : Q2c y e.2.2.1 with
  | nil => exact absurd hq hne
  | cons _ _ => rfl
 rw [hcv]
 -- what a register's values are
 have hvals : ∀ r, ∀ v ∈ valsV y e.2.2.1 r, Qu N r = some true ∧ Qh N v.2 = some true := by
  intro r v hv
  obtain ⟨e', he', hs, rfl⟩ := Qak.1 hv
  simp only [setsB, Bool.and_eq_true, beq_iff_eq] at hs
  obtain ⟨h1, _, h2⟩ := hs
  have := hg e' he'
  exact ⟨h2 ▸ this.reg h1, this.txt h1⟩
 refine Q11b N _ u hu hne ?_ ?_ ?_ hN
 ·show (Q2c y e.2.2.1).length ≤ 1000
  unfold Q2c
  rw [List.length_map]
  have := Qmt y e.2.2.1 256; omega
 ·intro l hl
  obtain ⟨r, hr, rfl⟩ := List.mem_map.1 hl
  have hne : valsV y e.2.2.1 r ≠ [] := by
   intro h
   have := (List.mem_filter.1 hr).2
   rw [h] at this; cases this
  have hle := Qfb y e.2.2.1 r
  have hvr := hvals r
  generalize valsV y e.2.2.1 r = V at *
  have hemp : V.isEmpty = false := by
   cases V with
   | nil => exact absurd rfl hne
   | cons _ _ => rfl
  have hw := hvr _ (Qn4 hne)
  unfold lineV
  rw [hemp, cond_false]
  refine ⟨hw.1, hw.2, ?_⟩
  refine Q12e N _ _ ?_ ?_ ?_ hN
  ·have h1 := List.length_filter_le (fun e => !(e == (winV V).2)) (txtV V)
   have h2 := Qt3 V
   simp only
   omega
  ·intro t ht
   obtain ⟨h1, h2⟩ := List.mem_filter.1 ht
   unfold txtV at h1
   rw [Qcu Qch] at h1
   obtain ⟨v, hv, rfl⟩ := List.mem_map.1 h1
   exact ⟨(hvr v hv).2, by simpa using h2⟩
  ·exact (Qfe Qch _).filter _
 ·show (Q2c y e.2.2.1).Pairwise _
  unfold Q2c
  rw [List.pairwise_map]
  have hs : (hasR y e.2.2.1 256).Pairwise (fun x y => x < y) := (Qub 256 (Nat.le_refl _)).filter _
  refine hs.imp_of_mem ?_
  intro a b ha hb hab
  have e1 : ∀ r ∈ hasR y e.2.2.1 256, (lineV r (valsV y e.2.2.1 r)).1 = r := by
   intro r hr
   have := (List.mem_filter.1 hr).2
   unfold lineV
   cases hq : (valsV y e.2.2.1 r).isEmpty with
   | true => rw [hq] at this; cases this
   | false => rfl
  rw [e1 a ha, e1 b hb]
  exact hab
end Go.Proofs.Xg
set_option linter.unusedVariables false
set_option linter.unusedSimpArgs false
set_option linter.unnecessarySimpa false
set_option maxRecDepth 100000
namespace Go.Proofs.Xg
open Go Go.Xl Go.Ab Go.Proofs Go.Sort
theorem Q13l (N : Nat) (l : List Ev) (m : Nat) (hm : m ≤ 100) (hN : 10000 < N) : ∃ b, Q2n N l m = some b ∧ (b = true → l.length ≤ m ∧ ∀ e ∈ l, SmE e) := by
 unfold Q2n
 by_cases hl : m < l.length
 ·have : decide ((m : Int) < (l.length : Int)) = true := by simpa using hl
  rw [this]
  exact ⟨false, rfl, by simp⟩
 ·have : decide ((m : Int) < (l.length : Int)) = false := by simpa using hl
  rw [this, cond_false]
  refine Q4q (Q := fun b => b = true → l.length ≤ m ∧ ∀ e ∈ l, SmE e) (fun n z => ∃ k : Nat, z = (((k : Int), ()), (), (), ()) ∧ k ≤ l.length ∧ n = l.length - k ∧ ∀ e ∈ l.take k, SmE e) ?_ N l.length _ ⟨0, rfl, Nat.zero_le _, rfl, by simp⟩ (by omega)
  rintro n z rec ⟨k, rfl, hk, rfl, hall⟩ ih
  simp only [Qg]
  by_cases hkl : k < l.length
  ·simp only [decide_eq_true hkl, cond_true, at?_nat, getl hkl, Option.bind_some]
   by_cases h1 : (300 : Int) < (l[k].2.2.2.2.2.length : Int)
   ·rw [decide_eq_true h1]; exact ⟨false, rfl, by simp⟩
   ·rw [decide_eq_false h1, cond_false]
    by_cases h2 : (200 : Int) < (l[k].2.2.2.2.1.length : Int)
    ·rw [decide_eq_true h2]; exact ⟨false, rfl, by simp⟩
    ·rw [decide_eq_false h2, cond_false, Q6 (by omega)]
     refine ih (l.length - (k + 1)) _ (by omega) ⟨k + 1, rfl, by omega, rfl, ?_⟩
     intro e he
     rw [List.take_add_one, getl hkl] at he
     rcases List.mem_append.1 he with he | he
     ·exact hall e he
     ·simp at he; subst he
      exact ⟨by omega, by omega⟩
  ·simp only [decide_eq_false hkl, cond_false]
   refine ⟨true, rfl, fun _ => ⟨by omega, ?_⟩⟩
   rwa [List.take_of_length_le (by omega)] at hall
theorem Q12m {a b : Ev} : eqE a b = true ↔ a.1 = b.1 := by
 unfold eqE
 rw [Bool.and_eq_true, beq_iff_eq, beq_iff_eq, Prod.ext_iff]
theorem Qo9 : ∀ (l q : List Ev), (∀ a ∈ q, ∀ b ∈ q, a.1 = b.1 → a = b) → ∀ a ∈ l.foldl (fun q x => putR ltE eqE x q) q, ∀ b ∈ l.foldl (fun q x => putR ltE eqE x q) q, a.1 = b.1 → a = b
 | [], q, h => h
 | e :: r, q, h => by
  rw [List.foldl_cons]
  refine Qo9 r _ ?_
  unfold putR
  cases hq : q.any (eqE e) with
  | true => exact h
  | false =>
   have hno : ∀ x ∈ q, ¬ e.1 = x.1 := by
    intro x hx he
    have := List.any_eq_false.1 hq x hx
    exact this (Q12m.2 he)
   simp only [cond_false]
   intro a ha b hb hab
   rcases Qes.1 ha with ea | ha
   ·rcases Qes.1 hb with eb | hb
    ·rw [ea, eb]
    ·rw [ea] at hab
     exact absurd hab (hno b hb)
   ·rcases Qes.1 hb with eb | hb
    ·rw [eb] at hab
     exact absurd hab.symm (hno a ha)
    ·exact h a ha b hb hab
theorem Qxb (l : List Ev) : ∀ a ∈ sortE l, ∀ b ∈ sortE l, a.1 = b.1 → a = b := by
 rw [Qhp]
 exact Qo9 l [] (by simp)
def turnL (y : List Ev) (s k : Nat) : List Ev := (List.range k).map fun i => y.getD ((y.length - 1 - i + s) % y.length) ((0, 0), 0, 0, 0, [], [])
theorem Qy8 (y : List Ev) (s k : Nat) : turnL y s (k + 1) = turnL y s k ++ [y.getD ((y.length - 1 - k + s) % y.length) ((0, 0), 0, 0, 0, [], [])] := by
 unfold turnL
 rw [List.range_succ, List.map_append]; rfl
theorem Qxs (y : List Ev) (s : Nat) (hu : ∀ a ∈ y, ∀ b ∈ y, a.1 = b.1 → a = b) : Mates y (turnL y s y.length) := by
 refine ⟨fun e => ⟨fun he => ?_, fun he => ?_⟩, hu⟩
 ·obtain ⟨j, hj, rfl⟩ := List.mem_iff_getElem.1 he
  unfold turnL
  refine List.mem_map.2 ⟨(y.length - 1 - j + s) % y.length, List.mem_range.2 (Nat.mod_lt _ (by omega)), ?_⟩
  have hi : (y.length - 1 - j + s) % y.length < y.length := Nat.mod_lt _ (by omega)
  have hd := Nat.div_add_mod (y.length - 1 - j + s) y.length
  generalize (y.length - 1 - j + s) % y.length = i at *
  generalize (y.length - 1 - j + s) / y.length = q at *
  have e1 : y.length - 1 - i + s = j + y.length * q := by omega
  rw [e1, Nat.add_mul_mod_self_left, Nat.mod_eq_of_lt hj, List.getD_eq_getElem?_getD, getl hj]; rfl
 ·unfold turnL at he
  obtain ⟨i, hi, rfl⟩ := List.mem_map.1 he
  have hlt := List.mem_range.1 hi
  have hm : (y.length - 1 - i + s) % y.length < y.length := Nat.mod_lt _ (by omega)
  rw [List.getD_eq_getElem?_getD, getl hm]
  exact List.getElem_mem hm
theorem viewOrder_true (N : Nat) (hN : 1000000000000 < N) (x : List Ev) (s : UInt8) : Q36 N x s = some true := by
 unfold Q36
 obtain ⟨b, h1, h2⟩ := Q13l N x 15 (by omega) (by omega)
 have h1 : Q2n N x 15 = some b := h1
 rw [h1, Option.bind_some]
 cases b with
 | false => simp only [Bool.not_false, cond_true, Qvy N hN, Option.bind_some]
 | true =>
  obtain ⟨hl, hsm⟩ := h2 rfl
  rw [Qvi N x (by omega) (by omega)]
  simp only [Bool.not_true, cond_false, Option.bind_some]
  have hyl := Quf x
  have hyu := Qxb x
  have hys : ∀ e ∈ sortE x, SmE e := fun e he => hsm e (Qys he)
  generalize sortE x = y at *
  let gE : Ev → Bool := fun e => (Q1c N e).getD false
  have hgE : ∀ e ∈ y, Q1c N e = some (gE e) ∧ (gE e = true → GoodE N e) := by
   intro e he
   obtain ⟨g, hg, hg'⟩ := Q13b N e (hys e he) (by omega)
   have : gE e = g := by show (Q1c N e).getD false = g; rw [hg]; rfl
   exact ⟨by rw [this]; exact hg, by rw [this]; exact hg'⟩
  have hs256 : s.toNat < 256 := s.toNat_lt
  refine Q7f (fun k : Nat => (((turnL y s.toNat k, (y.take k).all gE, (k : Int), ()), (), (), ()) : (List Ev × Bool × Int × Unit) × Unit × Unit × Unit)) (some true) 0 y.length (by omega) ?_ ?_ N (by omega)
  ·intro rec k _ hk
   have hz : ((y.length : Int) == 0) = false := by rw [beq_eq_false_iff_ne]; omega
   have e1 : IntKind.i64.wrap ((y.length : Int) - 1) = ((y.length - 1 : Nat) : Int) := Qq (by omega) (by omega)
   have e2 : IntKind.i64.wrap (((y.length - 1 : Nat) : Int) - (k : Int)) = ((y.length - 1 - k : Nat) : Int) := by
    rw [IntWalk.i64_in _ (by omega)]; omega
   have e3 : IntKind.i64.wrap (((y.length - 1 - k : Nat) : Int) + (s.toNat : Int)) = ((y.length - 1 - k + s.toNat : Nat) : Int) := by
    rw [IntWalk.i64_in _ (by omega)]; omega
   have e4 : ((y.length - 1 - k + s.toNat : Nat) : Int).tmod (y.length : Int) = (((y.length - 1 - k + s.toNat) % y.length : Nat) : Int) := rfl
   have hm : (y.length - 1 - k + s.toNat) % y.length < y.length := Nat.mod_lt _ (by omega)
   have e5 : y.getD ((y.length - 1 - k + s.toNat) % y.length) ((0, 0), 0, 0, 0, [], []) = y[(y.length - 1 - k + s.toNat) % y.length] := by
    rw [List.getD_eq_getElem?_getD, getl hm]; rfl
   have hle : (turnL y s.toNat k).length = k := by simp [turnL]
   have hf : fitsB ((turnL y s.toNat k).length + (0 + 1)) 80 = true := fit (by omega) (by omega)
   have hall : (y.take (k + 1)).all gE = ((y.take k).all gE && gE y[k]) := by
    rw [Q2p hk, List.all_append]; simp
   rw [Qy8, e5, hall]
   simp only [Qg, decide_eq_true hk, cond_true, hz, cond_false, e1, e2, e3, e4, at?_nat, getl hm, Option.bind_some, List.length_cons, List.length_nil, hf, Q6 (show k + 1 < 9223372036854775808 by omega), getl hk, (hgE y[k] (List.getElem_mem hk)).1]
   cases (y.take k).all gE <;> simp only [cond_true, cond_false, Bool.true_and, Bool.false_and]
  ·intro rec
   simp only [Qg, decide_eq_false (Nat.lt_irrefl _), cond_false, List.take_length, Qwa N y (by omega) hN, Option.bind_some]
   have hcl : (listV y).length ≤ 15 := by
    unfold listV
    rw [List.length_map]
    have := Qqy y; omega
   have hgood : y.all gE = true → ∀ c ∈ listV y, Q1s N c = some true := fun h => Q11i N y (by omega) (fun e he => (hgE e he).2 (List.all_eq_true.1 h e he)) (by omega)
   have hM := Qxs y s.toNat hyu
   have hle : (turnL y s.toNat y.length).length = y.length := by simp [turnL]
   refine Q7f st1' (some true) 0 (listV y).length (by omega) ?_ ?_ N (by omega)
   ·intro rec k _ hk
    simp only [Qg, decide_eq_true hk, cond_true, at?_nat, getl hk, Option.bind_some, Q6 (show k + 1 < 9223372036854775808 by omega)]
    cases hb : y.all gE with
    | false => simp only [cond_false]
    | true => simp only [cond_true, hgood hb _ (List.getElem_mem hk), Option.bind_some, Bool.not_true, cond_false]
   ·intro rec
    simp only [st1', Qg, decide_eq_false (Nat.lt_irrefl _), cond_false]
    rw [Qwa N (turnL y s.toNat y.length) (by omega) hN, Option.bind_some, ← hM.list, sameAll N _ (by omega) (Q11g y (by omega)) (by omega)]
    simp only [Option.bind_some, cond_true, Qvy N hN]
end Go.Proofs.Xg
set_option linter.unusedVariables false
set_option linter.unusedSimpArgs false
namespace Go.Xl
open Go.Ab
def Ty.In : (t : Ty) → t.T → Prop
 | .int k, n => (Lit.int k n).wf = true
 | .u8, _ => True
 | .bool, _ => True
 | .str, l => l.length ≤ maxLen
 | .sl a, l => l.length ≤ maxLen ∧ ∀ x ∈ l, a.In x
 | .unit, _ => True
 | .pair a b, x => a.In x.1 ∧ b.In x.2
 | .st1 a, x => a.In x
 | .tab _, _ => True
 | .err, _ => True
 | .ic _ _, _ => True
 | .ptr, _ => True
def opFs (P : Program) (rec : TypeId → Ty → Bool) : Nat → List Field → Ty → Bool
 | off, [f], .st1 a => cond (Nat.beq f.offset off) (cond (Nat.beq (P.cellsOf f.type) a.size) (rec f.type a) false) false
 | off, [f, g], .pair a b => cond (Nat.beq f.offset off) (cond (Nat.beq (P.cellsOf f.type) a.size) (cond (rec f.type a) (cond (Nat.beq g.offset (off + a.size)) (cond (Nat.beq (P.cellsOf g.type) b.size) (rec g.type b) false) false) false) false) false
 | off, f :: g :: h :: r, .pair a b => cond (Nat.beq f.offset off) (cond (Nat.beq (P.cellsOf f.type) a.size) (cond (rec f.type a) (opFs P rec (off + a.size) (g :: h :: r) b) false) false) false
 | _, _, _ => false
def opB (P : Program) : Nat → TypeId → Ty → Bool
 | 0, _, _ => false
 | n + 1, t, ty =>
  match P.underlying t, ty with
  | some (.int k), .int k' => cond (kindB k k') true false
  | some (.int .u8), .u8 => true
  | some .bool, .bool => true
  | some .string, .str => true
  | some (.slice e), .sl a => cond (Nat.beq (P.cellsOf e) a.size) (cond (Nat.ble 1 a.size) (opB P n e a) false) false
  | some (.struct fs), a => cond a.agg (cond (Nat.beq (P.cellsOf t) a.size) (opFs P (opB P n) 0 fs.toList a) false) false
  | _, _ => false
def Q8v (γ : Nat → Nat) (w : World) (ds : List D) (cs : List Value) : Prop := ds.length = cs.length ∧ ∀ (i : Nat) d v, ds[i]? = some d → cs[i]? = some v → RD γ w d v
theorem Q8v.one {γ : Nat → Nat} {w : World} {d : D} {v : Value} (h : RD γ w d v) : Q8v γ w [d] [v] := by
 refine ⟨rfl, fun i e u he hu => ?_⟩
 cases i with
 | zero => simp at he hu; subst he; subst hu; exact h
 | succ i => simp at he
theorem Q8v.append {γ : Nat → Nat} {w : World} {a b : List D} {cs ds : List Value} (h : Q8v γ w a cs) (h' : Q8v γ w b ds) : Q8v γ w (a ++ b) (cs ++ ds) := by
 refine ⟨by simp [h.1, h'.1], fun i e u he hu => ?_⟩
 rw [List.getElem?_append] at he hu
 rw [← h.1] at hu
 split at he
 ·rename_i hlt
  rw [if_pos hlt] at hu
  exact h.2 i e u he hu
 ·rename_i hge
  rw [if_neg hge] at hu
  exact h'.2 _ e u he hu
theorem cT {a b : Bool} (h : cond a b false = true) : a = true ∧ b = true := by
 cases a <;> simp at h; exact ⟨rfl, h⟩
section
variable {H : Type} {enc : TypeId × Value → H} {P : Program} {W : World}
def OpR (P : Program) (W : World) (H : Type) (enc : TypeId × Value → H) (fuel : Nat) (rec : TypeId → Ty → Bool) : Prop :=
 ∀ (t : TypeId) (ty : Ty) (cs : List Value) (d : DataW H) (ps : List MemPlace), rec t ty = true → DataW.trod enc P W 0 (fun _ => true) true fuel t cs = some (d, ps) →
  ∃ x : ty.T, ty.In x ∧ Q8v (fullγ W) W (ty.ds x) cs
theorem take_split {α : Type} (l : List α) (off a b : Nat) : (l.drop off).take (a + b) = (l.drop off).take a ++ (l.drop (off + a)).take b := by
 rw [List.take_add, List.drop_drop]
theorem Qw7 {fuel : Nat} {rec : TypeId → Ty → Bool} (hr : OpR P W H enc fuel rec) {cs : List Value} : ∀ (fs : List Field) (off : Nat) (ty : Ty), opFs P rec off fs ty = true →
  (∀ f ∈ fs, ∃ y, DataW.trod enc P W 0 (fun _ => true) true fuel f.type ((cs.drop f.offset).take (P.cellsOf f.type)) = some y) →
  ∃ x : ty.T, ty.In x ∧ Q8v (fullγ W) W (ty.ds x) ((cs.drop off).take ty.size)
 | [], off, ty, h, hf => by cases ty <;> simp [opFs] at h
 | [f], off, ty, h, hf => by
  cases ty with
  | st1 a =>
   simp only [opFs] at h
   obtain ⟨h1, h⟩ := cT h
   obtain ⟨h2, h⟩ := cT h
   have h1 := Nat.eq_of_beq_eq_true h1
   have h2 := Nat.eq_of_beq_eq_true h2
   obtain ⟨y, hy⟩ := hf f (by simp)
   rw [h1, h2] at hy
   exact hr f.type a _ _ _ h hy
  | _ => simp [opFs] at h
 | [f, g], off, ty, h, hf => by
  cases ty with
  | pair a b =>
   simp only [opFs] at h
   obtain ⟨h1, h⟩ := cT h
   obtain ⟨h2, h⟩ := cT h
   obtain ⟨h3, h⟩ := cT h
   obtain ⟨h4, h⟩ := cT h
   obtain ⟨h5, h⟩ := cT h
   have h1 := Nat.eq_of_beq_eq_true h1
   have h2 := Nat.eq_of_beq_eq_true h2
   have h4 := Nat.eq_of_beq_eq_true h4
   have h5 := Nat.eq_of_beq_eq_true h5
   obtain ⟨y, hy⟩ := hf f (by simp)
   obtain ⟨z, hz⟩ := hf g (by simp)
   rw [h1, h2] at hy
   rw [h4, h5] at hz
   obtain ⟨x1, i1, c1⟩ := hr _ _ _ _ _ h3 hy
   obtain ⟨x2, i2, c2⟩ := hr _ _ _ _ _ h hz
   refine ⟨(x1, x2), ⟨i1, i2⟩, ?_⟩
   simp only [Ty.ds, Ty.size]
   rw [take_split]
   exact c1.append c2
  | _ => simp [opFs] at h
 | f :: g :: k :: r, off, ty, h, hf => by
  cases ty with
  | pair a b =>
   simp only [opFs] at h
   obtain ⟨h1, h⟩ := cT h
   obtain ⟨h2, h⟩ := cT h
   obtain ⟨h3, h⟩ := cT h
   have h1 := Nat.eq_of_beq_eq_true h1
   have h2 := Nat.eq_of_beq_eq_true h2
   obtain ⟨y, hy⟩ := hf f (by simp)
   rw [h1, h2] at hy
   obtain ⟨x1, i1, c1⟩ := hr _ _ _ _ _ h3 hy
   obtain ⟨x2, i2, c2⟩ := Qw7 hr (g :: k :: r) (off + a.size) b h (fun q hq => hf q (List.mem_cons_of_mem _ hq))
   refine ⟨(x1, x2), ⟨i1, i2⟩, ?_⟩
   simp only [Ty.ds, Ty.size]
   rw [take_split]
   exact c1.append c2
  | _ => simp [opFs] at h
theorem Qvs {α β : Type} (p : Nat → β → α → Prop) : ∀ (l : List β), (∀ i y, l[i]? = some y → ∃ x, p i y x) → ∃ xs : List α, xs.length = l.length ∧ ∀ i y x, l[i]? = some y → xs[i]? = some x → p i y x := by
 intro l
 induction l generalizing p with
 | nil => intro _; exact ⟨[], rfl, by simp⟩
 | cons a r ih =>
  intro h
  obtain ⟨x, hx⟩ := h 0 a rfl
  obtain ⟨xs, h1, h2⟩ := ih (fun i => p (i + 1)) (fun i y hy => h (i + 1) y (by simpa using hy))
  refine ⟨x :: xs, by simp [h1], fun i y z hy hz => ?_⟩
  cases i with
  | zero => simp at hy hz; subst hy; subst hz; exact hx
  | succ i => exact h2 i y z (by simpa using hy) (by simpa using hz)
theorem Qhv : ∀ (n fuel : Nat), OpR P W H enc fuel (opB P n)
 | 0, fuel => by intro t ty cs d ps ho; simp [opB] at ho
 | n + 1, fuel => by
  intro t ty cs d ps ho h
  unfold opB at ho
  split at ho
  ·rename_i k k' hu
   obtain ⟨hk, _⟩ := cT ho
   have := Q21 hk
   subst this
   obtain ⟨m, rfl, _, hw⟩ := DataW.trod_int hu h
   exact ⟨m, hw, .one (.sc _)⟩
  ·rename_i hu
   obtain ⟨m, rfl, _, hw⟩ := DataW.trod_int hu h
   have hm : 0 ≤ m ∧ m ≤ 255 := by simpa [Lit.wf, IntKind.wrap, IntKind.bits, IntKind.signed, IntKind.min, IntKind.max] using hw
   refine ⟨UInt8.ofNat m.toNat, trivial, .one ?_⟩
   have : (((UInt8.ofNat m.toNat).toNat : Nat) : Int) = m := by
    rw [UInt8.toNat_ofNat']; omega
   rw [this]
   exact .sc _
  ·rename_i hu
   obtain ⟨b, rfl, _⟩ := DataW.trod_bool hu h
   exact ⟨b, trivial, .one (.sc _)⟩
  ·rename_i hu
   obtain ⟨s, rfl, _, hw⟩ := DataW.trod_string hu h
   exact ⟨s.data.toList, by simpa [Ty.In] using hw, .one (.sc _)⟩
  ·rename_i e a hu
   obtain ⟨h1, ho⟩ := cT ho
   obtain ⟨h2, ho⟩ := cT ho
   have h1 := Nat.eq_of_beq_eq_true h1
   have h2 := Nat.le_of_ble_eq_true h2
   rcases DataW.trod_slice hu h with ⟨rfl, _⟩ | ⟨ad, len, cap, elems, rest, m, rfl, rfl, _, hb, hl, hc, hel, hcell, _, _⟩
   ·exact ⟨[], ⟨by simp, by simp⟩, .one (.nil _ _ _ fun _ => rfl)⟩
   ·have key : ∀ i y, (List.range len)[i]? = some y → ∃ x : a.T, a.In x ∧ ∃ cs', cs'.length = a.size ∧ Q8v (fullγ W) W (a.ds x) cs' ∧ ∀ j, j < a.size → W.cell? ((ad.add (i * a.size)).add j) = cs'[j]? := by
     intro i y hi
     have hlt : i < len := by have := (List.getElem?_eq_some_iff.1 hi).1; simpa using this
     have hc := hcell i hlt
     obtain ⟨z, hz⟩ : ∃ z, elems[i]? = some z := ⟨_, List.getElem?_eq_getElem (by omega)⟩
     rw [hz, Option.bind_eq_some_iff, h1] at hc
     obtain ⟨cs', hc1, hc2⟩ := hc
     obtain ⟨_, hcl, hcc⟩ := World.cells?_some hc1
     obtain ⟨x, hx1, hx2⟩ := Qhv n m _ _ _ _ _ ho hc2
     exact ⟨x, hx1, cs', hcl, hx2, hcc⟩
    obtain ⟨xs, hxl, hx⟩ := Qvs _ _ key
    rw [List.length_range] at hxl
    have hxs : ∀ i x, xs[i]? = some x → a.In x ∧ ∃ cs', cs'.length = a.size ∧ Q8v (fullγ W) W (a.ds x) cs' ∧ ∀ j, j < a.size → W.cell? ((ad.add (i * a.size)).add j) = cs'[j]? := by
     intro i x hi
     have hlt : i < len := by have := (List.getElem?_eq_some_iff.1 hi).1; omega
     exact hx i i x (by simp [hlt]) hi
    refine ⟨xs, ⟨by omega, fun x hm => ?_⟩, .one ?_⟩
    ·obtain ⟨i, hi⟩ := List.mem_iff_getElem?.1 hm
     exact (hxs i x hi).1
    ·rcases Nat.eq_zero_or_pos len with h0 | h0
     ·have : xs = [] := List.eq_nil_of_length_eq_zero (by omega)
      subst this
      subst h0
      exact .nil _ (some ad) cap (by simp)
     ·have spot : ad.spot = none := by
       obtain ⟨x0, hx0⟩ : ∃ z, xs[0]? = some z := ⟨_, List.getElem?_eq_getElem (by omega)⟩
       obtain ⟨_, cs', hl', _, hc'⟩ := hxs 0 x0 hx0
       have := hc' 0 (by omega)
       rw [List.getElem?_eq_getElem (by omega)] at this
       have := World.cell?_spot this
       simpa [Addr.add] using this
      obtain ⟨b, off, sp⟩ := ad
      simp only at spot
      subst spot
      have hcell' : ∀ i x, xs[i]? = some x → ∃ cs', cs'.length = a.size ∧ Q8v (fullγ W) W (a.ds x) cs' ∧ ∀ j, j < a.size → W.cell? ⟨b, off + (i * a.size + j), none⟩ = cs'[j]? := by
       intro i x hi
       obtain ⟨_, cs', hl', hd', hc'⟩ := hxs i x hi
       refine ⟨cs', hl', hd', fun j hj => ?_⟩
       have := hc' j hj
       rwa [WideShapes.add_plain, WideShapes.add_plain, Nat.add_assoc] at this
      refine .ofCells' (by simp [hxl]) ?_ hl ?_ ?_
      ·obtain ⟨x, hx⟩ : ∃ z, xs[len - 1]? = some z := ⟨_, List.getElem?_eq_getElem (by omega)⟩
       obtain ⟨cs', hl', _, hc'⟩ := hcell' (len - 1) x hx
       have := hc' (a.size - 1) (by omega)
       rw [List.getElem?_eq_getElem (by omega)] at this
       have := Qx3 this
       have e : len * a.size = (len - 1) * a.size + a.size := by
        rw [← Nat.succ_mul]; congr 1; omega
       show off + len * a.size ≤ fullγ W b
       omega
      ·intro i cs hi
       rw [List.getElem?_map, Option.map_eq_some_iff] at hi
       obtain ⟨x, _, rfl⟩ := hi
       exact a.ds_length x
      ·intro i j cs c u hi hj hu
       rw [List.getElem?_map, Option.map_eq_some_iff] at hi
       obtain ⟨x, hx, rfl⟩ := hi
       obtain ⟨cs', hl', hd', hc'⟩ := hcell' i x hx
       have hjl : j < a.size := by have := (List.getElem?_eq_some_iff.1 hj).1; rwa [a.ds_length] at this
       rw [hc' j hjl] at hu
       exact hd'.2 j c u hj hu
  ·rename_i fs hu
   obtain ⟨_, ho⟩ := cT ho
   obtain ⟨h2, ho⟩ := cT ho
   have h2 := Nat.eq_of_beq_eq_true h2
   obtain ⟨xs, m, rfl, _, hl, hxl, hall⟩ := DataW.trod_struct hu h
   obtain ⟨x, hx1, hx2⟩ := Qw7 (Qhv n m) (cs := cs) fs.toList 0 _ ho (by
    intro f hf
    obtain ⟨i, hi⟩ := List.mem_iff_getElem?.1 hf
    have hi' : fs[i]? = some f := by simpa using hi
    have := hall i f hi'
    rw [this]
    have hlt := (Array.getElem?_eq_some_iff.1 hi').1
    exact ⟨_, List.getElem?_eq_getElem (by omega)⟩)
   refine ⟨x, hx1, ?_⟩
   rw [List.drop_zero, List.take_of_length_le (by omega)] at hx2
   exact hx2
  ·cases ho
theorem open_arg {b0 n : Nat} {t : TypeId} {ty : Ty} {v : Value} {d : DataW H} {ps : List MemPlace} (ho : opB P n t ty = true) (hv : Value.okWide P W .any b0 t v)
  (h : DataW.Trod enc P W 0 (fun _ => true) true t v d ps) : ∃ x : ty.T, ty.In x ∧ RA (full W) W (XV.d (ty.xv x)).a v := by
 obtain ⟨fuel, hf⟩ := h
 obtain ⟨x, h1, h2⟩ := Qhv n fuel _ _ _ _ _ ho hf
 refine ⟨x, h1, .d _ _ ?_⟩
 show RD (fullγ W) W (ty.dv x) v
 cases hagg : ty.agg with
 | true =>
  rw [ty.dv_agg x hagg]
  have : ∃ fs, P.underlying t = some (.struct fs) := by
   cases n with
   | zero => simp [opB] at ho
   | succ n =>
    unfold opB at ho
    split at ho <;> simp_all [Ty.agg]
  obtain ⟨fs, hu⟩ := this
  obtain ⟨cs, rfl, _⟩ := WideShapes.okWide_struct hu hv
  simp only [Value.cells] at h2
  exact .agg _ _ (by simpa using h2.1) fun i c u hc hu => h2.2 i c u hc (by simpa using hu)
 | false =>
  rw [ty.dv_one x hagg] at h2
  have hv' : v.cells = #[v] := by
   have := h2.1
   cases v with
   | agg cs =>
    exfalso
    cases n with
    | zero => simp [opB] at ho
    | succ n =>
     unfold opB at ho
     split at ho
     ·rename_i hu; obtain ⟨_, e⟩ := WideShapes.okWide_int hu hv; cases e
     ·rename_i hu; obtain ⟨_, e⟩ := WideShapes.okWide_int hu hv; cases e
     ·rename_i hu; obtain ⟨_, e⟩ := WideShapes.okWide_bool hu hv; cases e
     ·rename_i hu; obtain ⟨_, e⟩ := WideShapes.okWide_string hu hv; cases e
     ·rename_i hu; obtain ⟨_, _, _, e⟩ := WideShapes.okWide_slice hu hv; cases e
     ·rw [hagg] at ho; simp at ho
     ·cases ho
   | _ => rfl
  rw [hv'] at h2
  exact h2.2 0 _ _ rfl rfl
end
end Go.Xl
