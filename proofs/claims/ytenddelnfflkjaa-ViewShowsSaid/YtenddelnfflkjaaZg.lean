import Derived.Test.YtenddelnfflkjaaZf
import Derived.Test.YtenddelnfflkjaaZe
import Derived.KernelRfl
import Derived.Test.YtenddelnfflkjaaZd
set_option linter.unusedVariables false
set_option linter.unusedSimpArgs false
namespace Go.Proofs.Xg
open Go Go.Xl Go.Ab Go.Proofs Go.Sort
def Qq9 (l : List (List UInt8)) (r : List (List UInt8) × Nat) : Prop := r.1.take r.2 = comp l ∧ r.2 ≤ r.1.length
theorem Qu3 (N : Nat) (l : List (List UInt8)) (hb : l.length < 4611686018427387904) (hN : l.length < N) : ∃ r, Qy N l l.length = some r ∧ Qq9 l r := by
 unfold Qy
 simp only [cond_eq_ite]
 by_cases h2 : ((l.length : Nat) : Int) < 2
 ·rw [if_pos (by simpa using h2)]
  refine ⟨_, rfl, ?_, Nat.le_refl _⟩
  have : l = l.take 1 := by rw [List.take_of_length_le (by omega)]
  rw [List.take_length, this, Qgo]
 ·rw [if_neg (by simpa using h2)]
  refine Q5f (fun n z => ∃ k : Nat, z = (((k : Int), ()), (), (), l, ()) ∧ 1 ≤ k ∧ k ≤ l.length ∧ n = l.length - k ∧ comp (l.take k) = l.take k) ?_ N (l.length - 1) _ ⟨1, rfl, by omega, by omega, rfl, Qgo l⟩ (by omega)
  rintro n z rec ⟨k, rfl, k1, k2, hn, hc⟩ ih
  simp only
  by_cases hk : k < l.length
  ·have e1 : IntKind.i64.wrap ((k : Int) - 1) = ((k - 1 : Nat) : Int) := Qx (by omega) (by omega)
   have e2 : IntKind.i64.wrap ((k : Int) + 1) = ((k + 1 : Nat) : Int) := Q6 (by omega)
   simp only [e1, e2, Q4a, Nat.zero_add, getElem?_lt hk, getElem?_lt (show k - 1 < l.length by omega), Option.bind_some]
   rw [if_pos (by simp; omega), if_pos (by simp; omega), if_pos (by simp; omega)]
   have hstep := Q9e (l := l) (m := k) (by omega) (getElem?_lt (show k - 1 < l.length by omega)) (getElem?_lt hk)
   by_cases he : l[k] = l[k - 1]
   ·rw [if_pos (by simpa using he), if_pos (by simp [cutOk]; omega)]
    refine Q5f (fun n z => ∃ (i q : Nat) (c : List (List UInt8)), z = (((i : Int), (q : Int), ()), (), (), c, ()) ∧ 1 ≤ q ∧ k + q ≤ l.length ∧ i + 1 ≤ k + q ∧ c.length = l.length ∧
     (∀ j, i ≤ j → c[j]? = l[j]?) ∧ c.take i = comp (l.take (k + q)) ∧ n = l.length - (k + q)) ?_ N (l.length - (k + 1)) _
     ⟨k, 1, l, rfl, by omega, by omega, by omega, rfl, fun _ _ => rfl, by rw [hstep, if_pos he, hc], rfl⟩ (by omega)
    rintro n z rec ⟨i, q, c, rfl, q1, q2, q3, hcl, hcj, hct, hn⟩ ih'
    simp only
    by_cases hq : k + q < l.length
    ·have f1 : IntKind.i64.wrap ((q : Int) - 1) = ((q - 1 : Nat) : Int) := Qx (by omega) (by omega)
     have f2 : IntKind.i64.wrap ((q : Int) + 1) = ((q + 1 : Nat) : Int) := Q6 (by omega)
     have f3 : IntKind.i64.wrap ((i : Int) + 1) = ((i + 1 : Nat) : Int) := Q6 (by omega)
     have g1 : c[k + q]? = some l[k + q] := by rw [hcj _ (by omega), getElem?_lt hq]
     have g2 : c[k + (q - 1)]? = some l[k + (q - 1)] := by rw [hcj _ (by omega), getElem?_lt (by omega)]
     have g3 : c[i]? = some (c[i]'(by omega)) := getElem?_lt (by omega)
     simp only [f1, f2, f3, Q4a, Nat.zero_add, g1, g2, g3, Option.bind_some]
     rw [if_pos (by simp; omega), if_pos (by simp; omega), if_pos (by simp; omega)]
     have hs := Q9e (l := l) (m := k + q) (a := l[k + (q - 1)]) (by omega) (by rw [show k + q - 1 = k + (q - 1) by omega]; exact getElem?_lt _) (getElem?_lt hq)
     by_cases hne : l[k + q] = l[k + (q - 1)]
     ·rw [if_neg (by simpa using hne)]
      refine ih' (l.length - (k + (q + 1))) _ (by omega) ⟨i, q + 1, c, rfl, by omega, by omega, by omega, hcl, hcj, ?_, rfl⟩
      rw [hct, ← Nat.add_assoc, hs, if_pos hne]
     ·rw [if_pos (by simpa using hne), if_pos (by simp; omega), if_pos (by simp; omega)]
      refine ih' (l.length - (k + (q + 1))) _ (by omega) ⟨i + 1, q + 1, c.set i l[k + q], rfl, by omega, by omega, by omega, by simpa using hcl, ?_, ?_, rfl⟩
      ·intro j hj
       rw [List.getElem?_set_ne (by omega)]
       exact hcj j (by omega)
      ·rw [← Nat.add_assoc, hs, if_neg hne, ← hct, List.take_add_one, List.take_set_of_le (Nat.le_refl _), List.getElem?_set_self (by omega)]; rfl
    ·rw [if_neg (by simp; omega), if_pos (by simp [cutOk]; omega), if_pos (by simp [cutOk]; omega)]
     refine ⟨_, rfl, ?_, ?_⟩
     ·have : k + q = l.length := by omega
      rw [this, List.take_length] at hct
      simp only [Q4a, Nat.zero_add, Nat.sub_zero, Qq9]
      rw [← hct, List.take_take, Nat.min_self]
     ·simp only [Q4a, Nat.sub_zero, Nat.zero_add, List.length_take]; omega
   ·rw [if_neg (by simpa using he)]
    refine ih (l.length - (k + 1)) _ (by omega) ⟨k + 1, rfl, by omega, by omega, rfl, ?_⟩
    rw [hstep, if_neg he, hc, List.take_add_one, getElem?_lt hk]; rfl
  ·rw [if_neg (by simp; omega)]
   refine ⟨_, rfl, ?_, Nat.le_refl _⟩
   have : k = l.length := by omega
   subst this
   rw [List.take_length] at hc ⊢
   exact hc.symm
def Qpk (l : List (Int)) (r : List (Int) × Nat) : Prop := r.1.take r.2 = comp l ∧ r.2 ≤ r.1.length
theorem Qu6 (N : Nat) (l : List (Int)) (hb : l.length < 4611686018427387904) (hN : l.length < N) : ∃ r, Qz N l l.length = some r ∧ Qpk l r := by
 unfold Qz
 simp only [cond_eq_ite]
 by_cases h2 : ((l.length : Nat) : Int) < 2
 ·rw [if_pos (by simpa using h2)]
  refine ⟨_, rfl, ?_, Nat.le_refl _⟩
  have : l = l.take 1 := by rw [List.take_of_length_le (by omega)]
  rw [List.take_length, this, Qgo]
 ·rw [if_neg (by simpa using h2)]
  refine Q5f (fun n z => ∃ k : Nat, z = (((k : Int), ()), (), (), l, ()) ∧ 1 ≤ k ∧ k ≤ l.length ∧ n = l.length - k ∧ comp (l.take k) = l.take k) ?_ N (l.length - 1) _ ⟨1, rfl, by omega, by omega, rfl, Qgo l⟩ (by omega)
  rintro n z rec ⟨k, rfl, k1, k2, hn, hc⟩ ih
  simp only
  by_cases hk : k < l.length
  ·have e1 : IntKind.i64.wrap ((k : Int) - 1) = ((k - 1 : Nat) : Int) := Qx (by omega) (by omega)
   have e2 : IntKind.i64.wrap ((k : Int) + 1) = ((k + 1 : Nat) : Int) := Q6 (by omega)
   simp only [e1, e2, Q4a, Nat.zero_add, getElem?_lt hk, getElem?_lt (show k - 1 < l.length by omega), Option.bind_some]
   rw [if_pos (by simp; omega), if_pos (by simp; omega), if_pos (by simp; omega)]
   have hstep := Q9e (l := l) (m := k) (by omega) (getElem?_lt (show k - 1 < l.length by omega)) (getElem?_lt hk)
   by_cases he : l[k] = l[k - 1]
   ·rw [if_pos (by simpa using he), if_pos (by simp [cutOk]; omega)]
    refine Q5f (fun n z => ∃ (i q : Nat) (c : List (Int)), z = (((i : Int), (q : Int), ()), (), (), c, ()) ∧ 1 ≤ q ∧ k + q ≤ l.length ∧ i + 1 ≤ k + q ∧ c.length = l.length ∧
     (∀ j, i ≤ j → c[j]? = l[j]?) ∧ c.take i = comp (l.take (k + q)) ∧ n = l.length - (k + q)) ?_ N (l.length - (k + 1)) _
     ⟨k, 1, l, rfl, by omega, by omega, by omega, rfl, fun _ _ => rfl, by rw [hstep, if_pos he, hc], rfl⟩ (by omega)
    rintro n z rec ⟨i, q, c, rfl, q1, q2, q3, hcl, hcj, hct, hn⟩ ih'
    simp only
    by_cases hq : k + q < l.length
    ·have f1 : IntKind.i64.wrap ((q : Int) - 1) = ((q - 1 : Nat) : Int) := Qx (by omega) (by omega)
     have f2 : IntKind.i64.wrap ((q : Int) + 1) = ((q + 1 : Nat) : Int) := Q6 (by omega)
     have f3 : IntKind.i64.wrap ((i : Int) + 1) = ((i + 1 : Nat) : Int) := Q6 (by omega)
     have g1 : c[k + q]? = some l[k + q] := by rw [hcj _ (by omega), getElem?_lt hq]
     have g2 : c[k + (q - 1)]? = some l[k + (q - 1)] := by rw [hcj _ (by omega), getElem?_lt (by omega)]
     have g3 : c[i]? = some (c[i]'(by omega)) := getElem?_lt (by omega)
     simp only [f1, f2, f3, Q4a, Nat.zero_add, g1, g2, g3, Option.bind_some]
     rw [if_pos (by simp; omega), if_pos (by simp; omega), if_pos (by simp; omega)]
     have hs := Q9e (l := l) (m := k + q) (a := l[k + (q - 1)]) (by omega) (by rw [show k + q - 1 = k + (q - 1) by omega]; exact getElem?_lt _) (getElem?_lt hq)
     by_cases hne : l[k + q] = l[k + (q - 1)]
     ·rw [if_neg (by simpa using hne)]
      refine ih' (l.length - (k + (q + 1))) _ (by omega) ⟨i, q + 1, c, rfl, by omega, by omega, by omega, hcl, hcj, ?_, rfl⟩
      rw [hct, ← Nat.add_assoc, hs, if_pos hne]
     ·rw [if_pos (by simpa using hne), if_pos (by simp; omega), if_pos (by simp; omega)]
      refine ih' (l.length - (k + (q + 1))) _ (by omega) ⟨i + 1, q + 1, c.set i l[k + q], rfl, by omega, by omega, by omega, by simpa using hcl, ?_, ?_, rfl⟩
      ·intro j hj
       rw [List.getElem?_set_ne (by omega)]
       exact hcj j (by omega)
      ·rw [← Nat.add_assoc, hs, if_neg hne, ← hct, List.take_add_one, List.take_set_of_le (Nat.le_refl _), List.getElem?_set_self (by omega)]; rfl
    ·rw [if_neg (by simp; omega), if_pos (by simp [cutOk]; omega), if_pos (by simp [cutOk]; omega)]
     refine ⟨_, rfl, ?_, ?_⟩
     ·have : k + q = l.length := by omega
      rw [this, List.take_length] at hct
      simp only [Q4a, Nat.zero_add, Nat.sub_zero, Qpk]
      rw [← hct, List.take_take, Nat.min_self]
     ·simp only [Q4a, Nat.sub_zero, Nat.zero_add, List.length_take]; omega
   ·rw [if_neg (by simpa using he)]
    refine ih (l.length - (k + 1)) _ (by omega) ⟨k + 1, rfl, by omega, by omega, rfl, ?_⟩
    rw [hstep, if_neg he, hc, List.take_add_one, getElem?_lt hk]; rfl
  ·rw [if_neg (by simp; omega)]
   refine ⟨_, rfl, ?_, Nat.le_refl _⟩
   have : k = l.length := by omega
   subst this
   rw [List.take_length] at hc ⊢
   exact hc.symm
end Go.Proofs.Xg
set_option linter.unusedVariables false
set_option linter.unusedSimpArgs false
namespace Go.Proofs.Xg
open Go Go.Xl Go.Ab Go.Proofs Go.Sort
end Go.Proofs.Xg
set_option linter.unusedVariables false
set_option linter.unusedSimpArgs false
namespace Go.Proofs.Xg
open Go Go.Xl Go.Ab Go.Proofs Go.Sort
theorem getl {α : Type} {l : List α} {i : Nat} (h : i < l.length) : l[i]? = some l[i] := List.getElem?_eq_getElem h
theorem Qe (a b : Nat) : decide ((a : Int) < (b : Int)) = decide (a < b) := by simp
abbrev Ev := (Int × Int) × UInt8 × Int × UInt8 × List UInt8 × List (Int × Int)
end Go.Proofs.Xg
set_option linter.unusedVariables false
set_option linter.unusedSimpArgs false
namespace Go.Xl
structure LO {α : Type} (lt eq : α → α → Bool) : Prop where
 asymm : ∀ x y, lt x y = true → lt y x = false
 ntrans : ∀ x y z, lt x y = false → lt y z = false → lt x z = false
 eq_def : ∀ x y, eq x y = (!lt x y && !lt y x)
section
variable {α : Type} {lt eq : α → α → Bool}
theorem LO.trans (h : LO lt eq) {x y z : α} (h1 : lt x y = true) (h2 : lt y z = true) : lt x z = true := by
 cases hx : lt x z with
 | true => rfl
 | false =>
  have := h.ntrans x z y hx (h.asymm _ _ h2)
  rw [h1] at this; cases this
theorem LO.lt_le (h : LO lt eq) {x y z : α} (h1 : lt x y = true) (h2 : lt z y = false) : lt x z = true := by
 cases hx : lt x z with
 | true => rfl
 | false => have := h.ntrans x z y hx h2; rw [h1] at this; cases this
theorem LO.eq_true (h : LO lt eq) {x y : α} : eq x y = true ↔ lt x y = false ∧ lt y x = false := by
 rw [h.eq_def]; simp
end
end Go.Xl
set_option linter.unusedVariables false
set_option linter.unusedSimpArgs false
set_option maxRecDepth 100000
namespace Go.Proofs.Xg
open Go Go.Xl Go.Ab Go.Proofs Go.Sort
def ltE (x y : Ev) : Bool := ltOf cfDot x.1 y.1
def eqE (x y : Ev) : Bool := x.1.1 == y.1.1 && x.1.2 == y.1.2
theorem lo_E : LO ltE eqE where
 asymm x y h := by
  unfold ltE at *
  rw [Qnm] at *
  simp at *; omega
 ntrans x y z h1 h2 := by
  unfold ltE at *
  rw [Qnm] at *
  simp at *; omega
 eq_def x y := by
  unfold ltE eqE
  rw [Qnm, Qnm, Bool.eq_iff_iff]
  simp
  omega
end Go.Proofs.Xg
set_option linter.unusedVariables false
set_option linter.unusedSimpArgs false
set_option maxRecDepth 100000
namespace Go.Proofs.Xg
open Go Go.Xl Go.Ab Go.Proofs Go.Sort
section
variable {α : Type}
end
theorem inB {a n : Nat} (h : a < n) : (decide (0 ≤ (a : Int)) && decide (a < n)) = true := by simp; omega
end Go.Proofs.Xg
set_option linter.unusedVariables false
set_option linter.unusedSimpArgs false
set_option maxRecDepth 100000
namespace Go.Proofs.Xg
open Go Go.Xl Go.Ab Go.Proofs Go.Sort
structure St (S M : List Ev) : Prop where
 perm : M.Perm S
 cls : ∀ x, M.filter (eqE x) = S.filter (eqE x)
theorem St.refl (S : List Ev) : St S S := ⟨.refl _, fun _ => rfl⟩
theorem St.trans {S M L : List Ev} (h : St S M) (h' : St M L) : St S L := ⟨h'.perm.trans h.perm, fun x => (h'.cls x).trans (h.cls x)⟩
theorem St.app {S M S' M' : List Ev} (h : St S M) (h' : St S' M') : St (S ++ S') (M ++ M') := ⟨h.perm.append h'.perm, fun x => by rw [List.filter_append, List.filter_append, h.cls, h'.cls]⟩
theorem St.swap {X Y : List Ev} (h : ∀ y ∈ Y, ∀ x ∈ X, ltE y x = true) : St (X ++ Y) (Y ++ X) := by
 refine ⟨List.perm_append_comm, fun z => ?_⟩
 rw [List.filter_append, List.filter_append]
 have : X.filter (eqE z) = [] ∨ Y.filter (eqE z) = [] := by
  rcases List.eq_nil_or_concat (X.filter (eqE z)) with h1 | ⟨_, x, h1⟩
  ·exact .inl h1
  ·right
   rw [List.filter_eq_nil_iff]
   intro y hy hzy
   have hx : x ∈ X.filter (eqE z) := by rw [h1]; simp
   obtain ⟨hx1, hx2⟩ := List.mem_filter.1 hx
   have e1 := lo_E.eq_true.1 hzy
   have e2 := lo_E.eq_true.1 hx2
   have h3 := h y hy x hx1
   -- y < x, x not above z: y < z
   have h4 := lo_E.lt_le h3 e2.1
   rw [e1.2] at h4; cases h4
 rcases this with h | h <;> simp [h]
end Go.Proofs.Xg
set_option linter.unusedVariables false
set_option linter.unusedSimpArgs false
set_option maxRecDepth 100000
namespace Go.Proofs.Xg
open Go Go.Xl Go.Ab Go.Proofs Go.Sort
end Go.Proofs.Xg
set_option linter.unusedVariables false
set_option linter.unusedSimpArgs false
set_option maxRecDepth 100000
namespace Go.Proofs.Xg
open Go Go.Xl Go.Ab Go.Proofs Go.Sort
end Go.Proofs.Xg
set_option linter.unusedVariables false
set_option linter.unusedSimpArgs false
set_option maxRecDepth 100000
namespace Go.Proofs.Xg
open Go Go.Xl Go.Ab Go.Proofs Go.Sort
end Go.Proofs.Xg
set_option linter.unusedVariables false
set_option linter.unusedSimpArgs false
set_option maxRecDepth 100000
namespace Go.Proofs.Xg
open Go Go.Xl Go.Ab Go.Proofs Go.Sort
end Go.Proofs.Xg
set_option linter.unusedVariables false
set_option linter.unusedSimpArgs false
set_option maxRecDepth 100000
namespace Go.Proofs.Xg
open Go Go.Xl Go.Ab Go.Proofs Go.Sort
theorem Q11t (N : Nat) (l : List Ev) (m : Nat) (hm : m ≤ 100) (hN : 10000 < N) : ∃ b, Q2h N l m = some b ∧ (b = true → l.length ≤ m ∧ ∀ e ∈ l, e.2.2.2.2.2.length ≤ 300) := by
 unfold Q2h
 by_cases hl : m < l.length
 ·have : decide ((m : Int) < (l.length : Int)) = true := by simpa using hl
  rw [this]
  exact ⟨false, rfl, by simp⟩
 ·have : decide ((m : Int) < (l.length : Int)) = false := by simpa using hl
  rw [this, cond_false]
  refine Q5f (Q := fun b => b = true → l.length ≤ m ∧ ∀ e ∈ l, e.2.2.2.2.2.length ≤ 300) (fun n z => ∃ k : Nat, z = (((k : Int), ()), (), (), ()) ∧ k ≤ l.length ∧ n = l.length - k ∧ ∀ e ∈ l.take k, e.2.2.2.2.2.length ≤ 300) ?_ N l.length _ ⟨0, rfl, Nat.zero_le _, rfl, by simp⟩ (by omega)
  rintro n z rec ⟨k, rfl, hk, rfl, hall⟩ ih
  simp only [Qe]
  by_cases hkl : k < l.length
  ·simp only [decide_eq_true hkl, cond_true, at?_nat, getl hkl, Option.bind_some]
   by_cases h1 : (300 : Int) < (l[k].2.2.2.2.2.length : Int)
   ·rw [decide_eq_true h1]; exact ⟨false, rfl, by simp⟩
   ·rw [decide_eq_false h1, cond_false]
    by_cases h2 : (200 : Int) < (l[k].2.2.2.2.1.length : Int)
    ·rw [decide_eq_true h2]; exact ⟨false, rfl, by simp⟩
    ·rw [decide_eq_false h2, cond_false, Q6 (by omega)]
     refine ih (l.length - (k + 1)) _ (by omega) ⟨k + 1, rfl, by omega, rfl, ?_⟩
     intro e he
     rw [List.take_add_one, getl hkl] at he
     rcases List.mem_append.1 he with he | he
     ·exact hall e he
     ·simp at he; subst he
      omega
  ·simp only [decide_eq_false hkl, cond_false]
   refine ⟨true, rfl, fun _ => ⟨by omega, ?_⟩⟩
   rwa [List.take_of_length_le (by omega)] at hall
end Go.Proofs.Xg
set_option linter.unusedVariables false
set_option linter.unusedSimpArgs false
set_option linter.unnecessarySimpa false
set_option maxRecDepth 100000
namespace Go.Proofs.Xg
open Go Go.Xl Go.Ab Go.Proofs Go.Sort
abbrev Vl := (Int × Int) × List UInt8
def ahd (a b : Vl) : Bool := decide (b.1.2 < a.1.2) || (decide (a.1.2 = b.1.2) && decide (b.1.1 < a.1.1))
def winV : List Vl → Vl
 | [] => ((0, 0), [])
 | a :: r => r.foldl (fun c e => cond (ahd e c) e c) a
theorem Qpj {l : List Vl} (e : Vl) (h : l ≠ []) : winV (l ++ [e]) = cond (ahd e (winV l)) e (winV l) := by
 cases l with
 | nil => exact absurd rfl h
 | cons a r => simp [winV, List.foldl_append]
theorem Q10f (N : Nat) (a b : Vl) : Q1z N a b = some (ahd a b) := by
 unfold Q1z ahd
 simp only [cond_eq_ite]
 by_cases h1 : b.1.2 < a.1.2
 ·simp [h1]
 ·by_cases h2 : a.1.2 = b.1.2 <;> simp [h1, h2]
theorem Qv8 {α : Type} {l : List α} {k : Nat} (h1 : 1 ≤ k) (h2 : k < l.length) : l.take k ≠ [] := by
 intro h
 have := congrArg List.length h
 rw [List.length_take, List.length_nil] at this; omega
theorem Qra (N : Nat) (x : List Vl) (hx : x.length ≤ 1000) (hN : 1000 < N) : Q2j N x = some (winV x, !x.isEmpty) := by
 unfold Q2j
 cases x with
 | nil => rfl
 | cons a r =>
  generalize hxx : a :: r = x at *
  have hpos : 1 ≤ x.length := by subst hxx; simp
  have h0 : ((x.length : Int) == 0) = false := by rw [beq_eq_false_iff_ne]; omega
  have e0 : x[0]? = some a := by subst hxx; rfl
  have e1 : winV (x.take 1) = a := by subst hxx; rfl
  simp only [h0, cond_false, e0, Option.bind_some]
  have hne : (!x.isEmpty) = true := by subst hxx; rfl
  rw [hne]
  have := Q7x (fun k : Nat => ((((k : Int), ()), ((winV (x.take k), ()), ()), (), ()) : (Int × Unit) × ((Vl × Unit) × Unit) × Unit × Unit)) (some (winV x, true)) 1 x.length hpos
   (f := fun rec z => bif decide (z.fst.fst < (x.length : Int)) then
      (at? x z.fst.fst).bind fun (e : (Int × Int) × List UInt8) =>
       Option.bind (Q1z N e z.snd.fst.fst.fst) fun (y : Bool) =>
        bif y then
         (at? x z.fst.fst).bind fun (e : (Int × Int) × List UInt8) =>
          rec ((IntKind.i64.wrap (z.fst.fst + 1), ()), ((e, ()), ()), (), ())
        else rec ((IntKind.i64.wrap (z.fst.fst + 1), ()), ((z.snd.fst.fst.fst, ()), ()), (), ())
     else some (z.snd.fst.fst.fst, true)) ?_ ?_ N (by omega)
  ·rw [e1] at this
   exact this
  ·intro rec k h1 h2
   simp only [Qe, decide_eq_true h2, cond_true, at?_nat, getl h2, Option.bind_some, Q10f, Q6 (show k + 1 < 9223372036854775808 by omega), Q23 h2, Qpj _ (Qv8 h1 h2)]
   cases ahd x[k] (winV (x.take k)) <;> rfl
  ·intro rec
   simp only [Qe, decide_eq_false (Nat.lt_irrefl _), cond_false, List.take_length]
theorem Q10u (N : Nat) (a b : Int) : Q2w N a b = some (if a < b then -1 else if b < a then 1 else 0) := by
 simp only [Q2w, Qm, cond_eq_ite, Option.bind_some]
 grind
theorem Qzv (N : Nat) (a b : Int) : Q2z N a b = some (if a < b then -1 else if b < a then 1 else 0) := by
 simp only [Q2z, Q4c, cond_eq_ite, Option.bind_some]
 grind
theorem or_eq (N : Nat) (a b : Int) (hN : 10 < N) : Q8j N [a, b] = some (if a ≠ 0 then a else b) := by
 unfold Q8j
 obtain ⟨M, rfl⟩ : ∃ M, N = M + 3 := ⟨N - 3, by omega⟩
 have e1 : IntKind.i64.wrap (0 + 1) = 1 := by decide
 have e2 : IntKind.i64.wrap (1 + 1) = 2 := by decide
 simp only [iter, e1, e2]
 by_cases h : a = 0
 ·by_cases h' : b = 0
  ·simp [h, h', at?, e1, e2]
  ·have : (b != 0) = true := by simpa using h'
   simp [h, at?, e1, e2, this]
 ·have : (a != 0) = true := by simpa using h
  simp [h, at?, this]
theorem Qx3 (N : Nat) (a b : Vl) (hN : 10 < N) : ∃ v, Q5e N a b = some v ∧ decide (0 < v) = ahd a b := by
 unfold Q5e
 simp only [Q10u, Qzv, or_eq N _ _ hN, Option.bind_some]
 refine ⟨_, rfl, ?_⟩
 unfold ahd
 rw [Bool.eq_iff_iff]
 simp only [decide_eq_true_eq, Bool.or_eq_true, Bool.and_eq_true]
 grind
theorem Qzk (N : Nat) (x : List Vl) (hx : x.length ≤ 1000) (hN : 1000 < N) : Q8q N x = some (winV x, !x.isEmpty) := by
 unfold Q8q
 cases x with
 | nil => rfl
 | cons a r =>
  generalize hxx : a :: r = x at *
  have hpos : 1 ≤ x.length := by subst hxx; simp
  have h0 : ((x.length : Int) == 0) = false := by rw [beq_eq_false_iff_ne]; omega
  have e0 : x[0]? = some a := by subst hxx; rfl
  have e1 : winV (x.take 1) = a := by subst hxx; rfl
  have hne : (!x.isEmpty) = true := by subst hxx; rfl
  rw [hne]
  simp only [h0, cond_false]
  have hm : Q15 N x = some (((), ()), ((winV x, ()), ()), (), ()) := by
   unfold Q15 Qj
   have h1 : decide ((x.length : Int) < 1) = false := by simp; omega
   simp only [h1, cond_false, e0, Option.bind_some]
   have := Q7x (fun k : Nat => ((((k : Int), ()), ((winV (x.take k), ()), ()), (), ()) : (Int × Unit) × ((Vl × Unit) × Unit) × Unit × Unit)) (some ((((), ()), ((winV x, ()), ()), (), ()) : (Unit × Unit) × ((Vl × Unit) × Unit) × Unit × Unit)) 1 x.length hpos
    (f := fun rec z => bif decide (z.fst.fst < (x.length : Int)) then
       (at? x z.fst.fst).bind fun (e : (Int × Int) × List UInt8) =>
        Option.bind (Q5e N e z.snd.fst.fst.fst) fun (y_1 : Int) =>
         bif decide (0 < y_1) then
          (at? x z.fst.fst).bind fun (e : (Int × Int) × List UInt8) =>
           rec ((IntKind.i64.wrap (z.fst.fst + 1), ()), ((e, ()), ()), (), ())
         else rec ((IntKind.i64.wrap (z.fst.fst + 1), ()), ((z.snd.fst.fst.fst, ()), ()), (), ())
      else some (((), ()), ((z.snd.fst.fst.fst, ()), ()), (), ())) ?_ ?_ N (by omega)
   ·rw [e1] at this
    exact this
   ·intro rec k h1 h2
    obtain ⟨v, hv, hv'⟩ := Qx3 N x[k] (winV (x.take k)) (by omega)
    simp only [Qe, decide_eq_true h2, cond_true, at?_nat, getl h2, Option.bind_some, hv, hv', Q6 (show k + 1 < 9223372036854775808 by omega), Q23 h2, Qpj _ (Qv8 h1 h2)]
    cases ahd x[k] (winV (x.take k)) <;> rfl
   ·intro rec
    simp only [Qe, decide_eq_false (Nat.lt_irrefl _), cond_false, List.take_length]
  rw [hm]
  rfl
theorem Q99 : Tot Op.bytesLess where
 asymm x y h := by
  rw [Xu.S.bytesLess_lt] at *
  simp only [decide_eq_true_eq, decide_eq_false_iff_not] at *
  exact List.lt_asymm h
 trans {x y z} h h' := by
  rw [Xu.S.bytesLess_lt] at *
  simp only [decide_eq_true_eq] at *
  exact List.lt_trans h h'
 total x y h h' := by
  rw [Xu.S.bytesLess_lt] at *
  simp only [decide_eq_false_iff_not] at *
  exact List.le_antisymm h' h
theorem Tot.irr {α : Type} {lt : α → α → Bool} (h : Tot lt) (x : α) : lt x x = false := by
 cases hx : lt x x with
 | false => rfl
 | true => have := h.asymm x x hx; rw [hx] at this; cases this
theorem Qto {α : Type} {lt : α → α → Bool} (h : Tot lt) (l : List α) : (l.mergeSort (fun x y => !lt y x)).Pairwise (fun a b => lt b a = false) := by
 have := List.pairwise_mergeSort (le := fun x y => !lt y x) (by
  intro a b c h1 h2
  simp only [Bool.not_eq_true'] at *
  cases hc : lt c a with
  | false => rfl
  | true =>
   cases hb : lt b c with
   | true => rw [h.trans hb hc] at h1; cases h1
   | false => have := h.total b c hb h2; subst this; rw [hc] at h1; cases h1) (by
  intro a b
  cases hab : lt b a with
  | false => simp
  | true => simp [h.asymm b a hab]) l
 refine this.imp ?_
 intro a b h
 simpa using h
theorem notle (x y : List UInt8) : (!(Op.bytesLess x y || x == y)) = Op.bytesLess y x := by
 cases h1 : Op.bytesLess x y with
 | true => rw [Q99.asymm _ _ h1]; rfl
 | false =>
  by_cases he : x = y
  ·subst he; simp [Q99.irr]
  ·cases h2 : Op.bytesLess y x with
   | true => simp [he]
   | false => exact absurd (Q99.total _ _ h1 h2) he
theorem Qx2 (N : Nat) (l : List (List UInt8)) (d : List UInt8) (hl : l.length ≤ 1000000) (hN : 1000000 < N) : Q4i N l d = some (putG Op.bytesLess d l) := by
 unfold Q4i
 have e0 := Q1w (fun x => Op.bytesLess x d) l []
 rw [Q6c l (fun a x => cond (Op.bytesLess x d) (a ++ [x]) a) [] (fun a => some (a ++ [d] ++ l.filter (fun x => Op.bytesLess d x))) ?_ ?_ N (by omega), e0]
 ·rfl
 ·intro rec k a hk ha
  have hal : a.length ≤ k := by
   rw [ha, Q1w, List.nil_append]
   have := List.length_filter_le (fun x => Op.bytesLess x d) (l.take k)
   rw [List.length_take] at this; omega
  have hf : fitsB (a.length + [l[k]].length) 16 = true := fit (by simp; omega) (by simp; omega)
  simp only [Qe, decide_eq_true hk, cond_true, at?_nat, getl hk, Option.bind_some, hf, Q6 (show k + 1 < 9223372036854775808 by omega)]
  cases Op.bytesLess l[k] d <;> rfl
 ·intro rec
  have hal : (l.foldl (fun a x => cond (Op.bytesLess x d) (a ++ [x]) a) []).length ≤ l.length := by
   rw [Q1w, List.nil_append]
   exact List.length_filter_le _ _
  generalize l.foldl (fun a x => cond (Op.bytesLess x d) (a ++ [x]) a) [] = b at *
  have hf : fitsB (b.length + [d].length) 16 = true := fit (by simp; omega) (by simp; omega)
  simp only [Qe, decide_eq_false (Nat.lt_irrefl _), cond_false, hf, cond_true]
  have e1 := Q1w (fun x => Op.bytesLess d x) l (b ++ [d])
  rw [Q6c l (fun a x => cond (Op.bytesLess d x) (a ++ [x]) a) (b ++ [d]) (fun a => some a) ?_ ?_ N (by omega), e1]
  ·intro rec k a hk ha
   have hal : a.length ≤ k + b.length + 1 := by
    rw [ha, Q1w]
    have := List.length_filter_le (Op.bytesLess d) (l.take k)
    rw [List.length_take] at this
    rw [List.length_append, List.length_append, List.length_singleton]
    omega
   have hf : fitsB (a.length + [l[k]].length) 16 = true := fit (by simp; omega) (by simp; omega)
   simp only [Qe, decide_eq_true hk, cond_true, at?_nat, getl hk, Option.bind_some, notle, hf, Q6 (show k + 1 < 9223372036854775808 by omega)]
   cases Op.bytesLess d l[k] <;> rfl
  ·intro rec
   simp only [Qe, decide_eq_false (Nat.lt_irrefl _), cond_false]
def txtV (x : List Vl) : List (List UInt8) := putsG Op.bytesLess (x.map (·.2))
theorem Qub (N : Nat) (x : List Vl) (hx : x.length ≤ 1000) (hN : 1000000 < N) : Q2q N x = some (txtV x) := by
 unfold Q2q
 have hq : ∀ l : List Vl, l.foldl (fun q (e : Vl) => putG Op.bytesLess e.2 q) [] = txtV l := by
  intro l
  unfold txtV putsG
  rw [List.foldl_map]
 rw [Q6c x (fun q e => putG Op.bytesLess e.2 q) [] (fun a => some a) ?_ ?_ N (by omega), hq]
 ·intro rec k a hk ha
  rw [hq] at ha
  have hal : a.length ≤ k := by
   rw [ha]
   have := Qcv Q99 ((x.take k).map (·.2))
   simp only [List.length_map, List.length_take] at this
   unfold txtV; omega
  simp only [Qe, decide_eq_true hk, cond_true, at?_nat, getl hk, Option.bind_some, Qx2 N a _ (by omega) hN, Q6 (show k + 1 < 9223372036854775808 by omega)]
 ·intro rec
  simp only [Qe, decide_eq_false (Nat.lt_irrefl _), cond_false]
end Go.Proofs.Xg
set_option linter.unusedVariables false
set_option linter.unusedSimpArgs false
set_option linter.unnecessarySimpa false
set_option maxRecDepth 100000
namespace Go.Proofs.Xg
open Go Go.Xl Go.Ab Go.Proofs Go.Sort
theorem Qzu (N : Nat) (x : List Vl) (hx : x.length ≤ 1000) (h0 : x ≠ []) (hN : 1000000000000 < N) : ∃ q : List (List UInt8) × Nat, Q9w N x = some (some q) ∧ q.1.take q.2 = txtV x ∧ q.2 ≤ q.1.length := by
 have hpos : 1 ≤ x.length := by cases x with | nil => exact absurd rfl h0 | cons a r => simp
 have hsl : (Xu.S.srt (x.map (·.2))).length = (x.map (·.2)).length := by simp [Xu.S.srt]
 obtain ⟨q, hq, h1, h2⟩ := Qu3 N (Xu.S.srt (x.map (·.2))) (by rw [hsl, List.length_map]; omega) (by rw [hsl, List.length_map]; omega)
 rw [hsl] at hq
 refine ⟨q, ?_, ?_, h2⟩
 ·unfold Q9w
  refine Q7x (fun k : Nat => ((((k : Int), ()), (), ((match k with | 0 => none | j + 1 => some ((x.take (j + 1)).map (·.2), j + 1)), ()), ()) : (Int × Unit) × Unit × (Option (List (List UInt8) × Nat) × Unit) × Unit)) (some (some q)) 0 x.length (by omega) ?_ ?_ N (by omega)
  ·intro rec k _ h2
   cases k with
   | zero =>
    simp only [Q3o, Qe, decide_eq_true h2, cond_true, at?_nat, getl h2, Option.bind_some, Q6 (show 0 + 1 < 9223372036854775808 by omega), Q23 h2, List.take_zero, List.nil_append, List.map_cons, List.map_nil, List.length_cons, List.length_nil]
   | succ j =>
    have hl : ((x.take (j + 1)).map (·.2)).length = j + 1 := by rw [List.length_map, List.length_take]; omega
    have hb : ((x.take (j + 1)).map (·.2)).length.beq (j + 1) = true := by rw [hl]; simp
    have hf : fitsB (j + 1 + (0 + 1)) 16 = true := fit (by omega) (by omega)
    simp only [Q3o, Qe, decide_eq_true h2, cond_true, at?_nat, getl h2, Option.bind_some, Q6 (show j + 1 + 1 < 9223372036854775808 by omega), hb, hf, Q23 h2, List.map_append, List.map_cons, List.map_nil, List.length_cons, List.length_nil]
  ·intro rec
   cases hxl : x.length with
   | zero => omega
   | succ j =>
    have e : x.take (j + 1) = x := by rw [← hxl, List.take_length]
    have e2 : Xu.F_slices_Sort_sstring_string N (x.map (·.2)) (j + 1) = some (Xu.S.srt (x.map (·.2)), ()) := by
     have := Xu.S.Sort_eq N (x.map (·.2)) (by rw [List.length_map]; omega) hN
     rw [List.length_map, hxl] at this
     exact this
    rw [List.length_map, hxl] at hq
    simp only [Q3o, hxl, Qe, decide_eq_false (Nat.lt_irrefl _), cond_false, e, e2, Option.bind_some, hq]
 ·rw [h1]
  exact Qpn Q99 (List.mergeSort_perm _ _) (Qto Q99 _)
theorem Qxt (N n : Nat) (w : Vl) (l : List (List UInt8)) (hn : n ≤ l.length) (hl : n ≤ 1000000) (hN : 1000000 < N) :
  ∃ i : Int, Qv N n w l = some ((i, ()), (), (), ()) ∧ ((i = -1 ∧ (l.take n).filter (fun e => !(e == w.2)) = l.take n) ∨ ∃ m : Nat, i = (m : Int) ∧ m < n ∧ (l.take (m + 1)).filter (fun e => !(e == w.2)) = l.take m) := by
 unfold Qv
 have key := Q5f (σ := (Int × Unit) × Unit × Unit × Unit) (R := (Int × Unit) × Unit × Unit × Unit)
  (Q := fun r => ∃ i : Int, r = ((i, ()), (), (), ()) ∧ ((i = -1 ∧ (l.take n).filter (fun e => !(e == w.2)) = l.take n) ∨ ∃ m : Nat, i = (m : Int) ∧ m < n ∧ (l.take (m + 1)).filter (fun e => !(e == w.2)) = l.take m))
  (f := fun (rec : (Int × Unit) × Unit × Unit × Unit → Option ((Int × Unit) × Unit × Unit × Unit)) (z : (Int × Unit) × Unit × Unit × Unit) =>
   bif decide (z.fst.fst < (↑n : Int)) then
    bif decide (0 ≤ z.fst.fst) && decide (z.fst.fst < (↑n : Int)) then
     l[0 + z.fst.fst.toNat]?.bind fun (e : List UInt8) =>
      Option.bind (Q49 N e w) fun (y : (Bool × Unit) × Unit × Unit × Unit) =>
       bif y.fst.fst then some ((z.fst.fst, ()), (), (), ())
       else rec ((IntKind.i64.wrap (z.fst.fst + 1), ()), (), (), ())
    else none
   else some ((-1, ()), (), (), ()))
  (fun m z => ∃ k : Nat, z = (((k : Int), ()), (), (), ()) ∧ k ≤ n ∧ m = n - k ∧ (l.take k).filter (fun e => !(e == w.2)) = l.take k) ?_ N n ((((0 : Nat) : Int), ()), (), (), ()) ?_ (by omega)
 ·obtain ⟨r, h1, i, rfl, h2⟩ := key
  exact ⟨i, h1, h2⟩
 ·rintro m z rec ⟨k, rfl, h1, h2, h3⟩ ih
  by_cases hk : k < n
  ·have hkl : k < l.length := by omega
   have hb : decide (0 ≤ (k : Int)) = true := by simp
   simp only [Qe, decide_eq_true hk, cond_true, hb, Bool.and_self, Q4a, Nat.zero_add, getl hkl, Option.bind_some, Q49, Q6 (show k + 1 < 9223372036854775808 by omega)]
   cases he : (l[k] == w.2) with
   | true =>
    refine ⟨_, rfl, _, rfl, .inr ⟨k, rfl, hk, ?_⟩⟩
    rw [Q23 hkl, List.filter_append, h3]
    simp [he]
   | false =>
    refine ih (n - (k + 1)) _ (by omega) ⟨k + 1, rfl, by omega, rfl, ?_⟩
    rw [Q23 hkl, List.filter_append, h3]
    simp [he]
  ·have : k = n := by omega
   subst this
   simp only [Qe, decide_eq_false hk, cond_false]
   exact ⟨_, rfl, _, rfl, .inl ⟨rfl, h3⟩⟩
 ·exact ⟨0, rfl, Nat.zero_le _, rfl, by simp⟩
theorem Qw9 (N n : Nat) (w : Vl) (l : List (List UInt8)) (hn : n ≤ l.length) (hl : n ≤ 1000000) (hN : 1000000 < N) :
  ∃ (m : Nat) (c : List (List UInt8)), Qs N n w l = some ((m, ()), (), (), c, ()) ∧ m ≤ c.length ∧ c.take m = (l.take n).filter (fun e => !(e == w.2)) := by
 obtain ⟨i, hi, hc⟩ := Qxt N n w l hn hl hN
 unfold Qs
 simp only [hi, Option.bind_some]
 rcases hc with ⟨rfl, h⟩ | ⟨i0, rfl, hi0, h⟩
 ·exact ⟨n, l, rfl, hn, h.symm⟩
 ·have hb : ((i0 : Int) == -1) = false := by rw [beq_eq_false_iff_ne]; omega
  simp only [hb, cond_false]
  rw [Q6 (show i0 + 1 < 9223372036854775808 by omega)]
  have key := Q5f (σ := (Int × Int × Unit) × Unit × Unit × List (List UInt8) × Unit) (R := (Nat × Unit) × Unit × Unit × List (List UInt8) × Unit)
   (Q := fun r => ∃ (m : Nat) (c : List (List UInt8)), r = ((m, ()), (), (), c, ()) ∧ m ≤ c.length ∧ c.take m = (l.take n).filter (fun e => !(e == w.2)))
   (f := fun rec z =>
     bif decide (z.fst.snd.fst < (↑n : Int)) then
      bif decide (0 ≤ z.fst.snd.fst) && decide (z.fst.snd.fst < (↑n : Int)) then
       z.snd.snd.snd.fst[0 + z.fst.snd.fst.toNat]?.bind fun (e : List UInt8) =>
        Option.bind (Q49 N e w) fun (y : (Bool × Unit) × Unit × Unit × Unit) =>
         bif !y.fst.fst then
          bif decide (0 ≤ z.fst.fst) && decide (z.fst.fst < (↑n : Int)) then
           z.snd.snd.snd.fst[0 + z.fst.fst.toNat]?.bind fun (e_1 : List UInt8) =>
            rec
             ((IntKind.i64.wrap (z.fst.fst + 1), IntKind.i64.wrap (z.fst.snd.fst + 1), ()), (), (),
              z.snd.snd.snd.fst.set (0 + z.fst.fst.toNat) e, ())
          else none
         else rec ((z.fst.fst, IntKind.i64.wrap (z.fst.snd.fst + 1), ()), (), (), z.snd.snd.snd.fst, ())
      else none
     else
      bif cutOk z.fst.fst (↑n : Int) n then
       bif cutOk 0 z.fst.fst n then
        some ((z.fst.fst.toNat - 0, ()), (), (), List.take (0 + z.fst.fst.toNat) z.snd.snd.snd.fst, ())
       else none
      else none)
   (fun r z => ∃ (a j : Nat) (c : List (List UInt8)), z = (((a : Int), (j : Int), ()), (), (), c, ()) ∧ a < j ∧ j ≤ n ∧ r = n - j ∧ c.length = l.length ∧ (∀ t, j ≤ t → c[t]? = l[t]?) ∧ c.take a = (l.take j).filter (fun e => !(e == w.2))) ?_ N (n - (i0 + 1)) (((i0 : Int), ((i0 + 1 : Nat) : Int), ()), (), (), l, ()) ?_ (by omega)
  ·obtain ⟨r, h1, m, c, rfl, h2⟩ := key
   exact ⟨m, c, h1, h2⟩
  ·rintro r z rec ⟨a, j, c, rfl, haj, hjn, rfl, hcl, hct, hca⟩ ih
   by_cases hj : j < n
   ·have hjl : j < l.length := by omega
    have hb1 : decide (0 ≤ (j : Int)) = true := by simp
    have hb2 : decide (0 ≤ (a : Int)) = true := by simp
    have han : a < n := by omega
    have hcj : c[j]? = some l[j] := by rw [hct _ (Nat.le_refl _), getl hjl]
    have hac : a < c.length := by omega
    simp only [Qe, decide_eq_true hj, decide_eq_true han, cond_true, hb1, hb2, Bool.and_self, Q4a, Nat.zero_add, hcj, getl hac, Option.bind_some, Q49, Q6 (show j + 1 < 9223372036854775808 by omega), Q6 (show a + 1 < 9223372036854775808 by omega)]
    cases he : (l[j] == w.2) with
    | true =>
     simp only [Bool.not_true, cond_false]
     refine ih (n - (j + 1)) _ (by omega) ⟨a, j + 1, c, rfl, by omega, by omega, rfl, hcl, fun t ht => hct t (by omega), ?_⟩
     rw [Q23 hjl, List.filter_append, hca]
     simp [he]
    | false =>
     simp only [Bool.not_false, cond_true]
     refine ih (n - (j + 1)) _ (by omega) ⟨a + 1, j + 1, c.set a l[j], rfl, by omega, by omega, rfl, by simpa using hcl, fun t ht => ?_, ?_⟩
     ·rw [List.getElem?_set_ne (by omega)]
      exact hct t (by omega)
     ·rw [Q23 hjl, List.filter_append, ← hca, List.take_add_one, List.take_set_of_le (Nat.le_refl _), List.getElem?_set_self hac]
      simp [he]
   ·have : j = n := by omega
    subst this
    have hb1 : cutOk (a : Int) (j : Int) j = true := by simp [cutOk]; omega
    have hb2 : cutOk 0 (a : Int) j = true := by simp [cutOk]; omega
    simp only [Qe, decide_eq_false hj, cond_false, hb1, hb2, cond_true, Q4a, Nat.zero_add, Nat.sub_zero]
    refine ⟨_, rfl, _, _, rfl, ?_, ?_⟩
    ·rw [List.length_take]; omega
    ·rw [List.take_take, Nat.min_self, hca]
  ·exact ⟨i0, i0 + 1, l, rfl, by omega, by omega, rfl, rfl, fun _ _ => rfl, h.symm⟩
abbrev Ln := UInt8 × List UInt8 × List (List UInt8)
def lineV (r : UInt8) (x : List Vl) : Ln := cond x.isEmpty (0, [], []) (r, (winV x).2, (txtV x).filter (fun e => !(e == (winV x).2)))
theorem Q11c (N : Nat) (r : UInt8) (x : List Vl) (hx : x.length ≤ 1000) (hN : 1000000000000 < N) : Qb0 N r x = some (lineV r x) := by
 unfold Qb0
 rw [Qzk N x hx (by omega)]
 simp only [Option.bind_some]
 by_cases h0 : x = []
 ·subst h0; rfl
 ·have he : x.isEmpty = false := by cases x with | nil => exact absurd rfl h0 | cons a r => rfl
  obtain ⟨q, hq, q1, q2⟩ := Qzu N x hx h0 hN
  have hle : (txtV x).length ≤ 1000 := by
   have := Qcv Q99 (x.map (·.2))
   rw [List.length_map] at this
   unfold txtV; omega
  have hq2 : q.2 ≤ 1000 := by
   have := congrArg List.length q1
   rw [List.length_take] at this; omega
  obtain ⟨m, c, hd, d1, d2⟩ := Qw9 N q.2 (winV x) q.1 q2 (by omega) (by omega)
  have hb : (0 + m).ble c.length = true := by simp only [Nat.ble_eq]; omega
  simp only [he, Bool.not_false, Bool.not_true, cond_false, hq, Option.bind_some, Q3o, hd, hb, cond_true, List.drop_zero, d2, q1, lineV]
theorem Qvv (N : Nat) (r : UInt8) (x : List Vl) (hx : x.length ≤ 1000) (hN : 1000000 < N) : Q3a N r x = some (lineV r x) := by
 unfold Q3a
 rw [Qra N x hx (by omega)]
 simp only [Option.bind_some]
 by_cases h0 : x = []
 ·subst h0; rfl
 ·have he : x.isEmpty = false := by cases x with | nil => exact absurd rfl h0 | cons a r => rfl
  have hle : (txtV x).length ≤ 1000 := by
   have := Qcv Q99 (x.map (·.2))
   rw [List.length_map] at this
   unfold txtV; omega
  rw [Qub N x hx hN]
  simp only [he, Bool.not_false, Bool.not_true, cond_false, Option.bind_some, lineV]
  generalize hT : txtV x = T at *
  generalize (winV x).2 = v
  refine Q7x (fun k : Nat => ((((k : Int), ()), (((r, v, (T.take k).filter (fun e => !(e == v))), ()), ()), (), ()) : (Int × Unit) × (((UInt8 × List UInt8 × List (List UInt8)) × Unit) × Unit) × Unit × Unit)) (some (r, v, T.filter (fun e => !(e == v)))) 0 T.length (by omega) ?_ ?_ N (by omega)
  ·intro rec k _ h2
   have hl : ((T.take k).filter (fun e => !(e == v))).length ≤ 1000 := by
    have := List.length_filter_le (fun e => !(e == v)) (T.take k)
    rw [List.length_take] at this; omega
   have e2 : (T.take (k + 1)).filter (fun e => !(e == v)) = (T.take k).filter (fun e => !(e == v)) ++ cond (T[k] == v) [] [T[k]] := by
    rw [Q23 h2, List.filter_append]
    cases he : T[k] == v <;> simp [he]
   rw [e2]
   generalize (T.take k).filter (fun e => !(e == v)) = A at *
   have hf1 : fitsB (0 + A.length) 16 = true := fit (by omega) (by omega)
   have hf2 : fitsB (A.length + (0 + 1)) 16 = true := fit (by omega) (by omega)
   simp only [Qe, decide_eq_true h2, cond_true, at?_nat, getl h2, Option.bind_some, Q6 (show k + 1 < 9223372036854775808 by omega), hf1, List.nil_append, List.length_cons, List.length_nil, hf2]
   cases he : T[k] == v with
   | true =>
    have : (T[k] != v) = false := by simp only [bne, he]; rfl
    simp only [this, cond_false, cond_true, List.append_nil]
   | false =>
    have : (T[k] != v) = true := by simp only [bne, he]; rfl
    simp only [this, cond_false, cond_true]
  ·intro rec
   simp only [Qe, decide_eq_false (Nat.lt_irrefl _), cond_false, List.take_length]
end Go.Proofs.Xg
set_option linter.unusedVariables false
set_option linter.unusedSimpArgs false
set_option linter.unnecessarySimpa false
set_option maxRecDepth 100000
namespace Go.Proofs.Xg
open Go Go.Xl Go.Ab Go.Proofs Go.Sort
def setsB (cid : Int) (r : UInt8) (e : Ev) : Bool := e.2.1 == 1 && (e.2.2.1 == cid && e.2.2.2.1 == r)
def valE (e : Ev) : Vl := (e.1, e.2.2.2.2.1)
def valsV (x : List Ev) (cid : Int) (r : UInt8) : List Vl := (x.filter (setsB cid r)).map valE
theorem Qed {X Y : Type} (p : X → Bool) (h : X → Y) : ∀ (l : List X) (a : List Y), l.foldl (fun a x => cond (p x) (a ++ [h x]) a) a = a ++ (l.filter p).map h
 | [], a => by simp
 | x :: r, a => by
  simp only [List.foldl_cons, List.filter_cons]
  rw [Qed p h r]
  cases p x <;> simp
theorem Qcu (x : List Ev) (cid : Int) (r : UInt8) : (valsV x cid r).length ≤ x.length := by
 unfold valsV
 rw [List.length_map]
 exact List.length_filter_le _ _
theorem Q11d (N : Nat) (x : List Ev) (cid : Int) (r : UInt8) (hx : x.length ≤ 1000) (hN : 1000 < N) : Q2k N x cid r = some (valsV x cid r) := by
 unfold Q2k
 have hq : ∀ l : List Ev, l.foldl (fun a e => cond (setsB cid r e) (a ++ [valE e]) a) [] = valsV l cid r := by
  intro l
  rw [Qed]; rfl
 rw [Q6c x (fun a e => cond (setsB cid r e) (a ++ [valE e]) a) [] (fun a => some a) ?_ ?_ N (by omega), hq]
 ·intro rec k a hk ha
  rw [hq] at ha
  have hal : a.length ≤ k := by
   rw [ha]
   have := Qcu (x.take k) cid r
   rw [List.length_take] at this; omega
  have hf : fitsB (a.length + (0 + 1)) 32 = true := fit (by omega) (by omega)
  simp only [Qe, decide_eq_true hk, cond_true, at?_nat, getl hk, Option.bind_some, Q6 (show k + 1 < 9223372036854775808 by omega), List.length_cons, List.length_nil, hf, setsB]
  cases h1 : x[k].2.1 == 1 with
  | false => rfl
  | true =>
   cases h2 : x[k].2.2.1 == cid with
   | false => rfl
   | true => cases h3 : x[k].2.2.2.1 == r <;> rfl
 ·intro rec
  simp only [Qe, decide_eq_false (Nat.lt_irrefl _), cond_false]
def regsV (k : Nat) : List UInt8 := (List.range k).map UInt8.ofNat
def hasR (x : List Ev) (cid : Int) (k : Nat) : List UInt8 := (regsV k).filter (fun r => !(valsV x cid r).isEmpty)
theorem Qzj (x : List Ev) (cid : Int) (k : Nat) : hasR x cid (k + 1) = hasR x cid k ++ cond (valsV x cid (UInt8.ofNat k)).isEmpty [] [UInt8.ofNat k] := by
 unfold hasR regsV
 rw [List.range_succ, List.map_append, List.filter_append]
 cases h : (valsV x cid (UInt8.ofNat k)).isEmpty <;> simp [h]
theorem Qm5 (x : List Ev) (cid : Int) (k : Nat) : (hasR x cid k).length ≤ k := by
 unfold hasR
 have := List.length_filter_le (fun r => !(valsV x cid r).isEmpty) (regsV k)
 simpa [regsV] using this
abbrev Cd := Int × List Ln
def Q8m (x : List Ev) (cid : Int) : List Ln := (hasR x cid 256).map fun r => lineV r (valsV x cid r)
def cardV (x : List Ev) (cid : Int) : Cd × Bool := cond (Q8m x cid).isEmpty ((0, []), false) ((cid, Q8m x cid), true)
theorem Qol {k : Nat} (h : k < 256) : toU8 (IntKind.u8.wrap (k : Int)) = UInt8.ofNat k := by
 have : IntKind.u8.wrap (k : Int) = (k : Int) := IntWalk.u8_in _ (by omega)
 rw [this]
 unfold toU8
 congr 1
 omega
theorem Qum {α : Type} (l : List α) : decide ((0 : Int) < (l.length : Int)) = !l.isEmpty := by
 cases l with
 | nil => rfl
 | cons a r => simp
theorem Qsy {α : Type} (l : List α) : ((l.length : Int) == 0) = l.isEmpty := by
 cases l with
 | nil => rfl
 | cons a r => rw [beq_eq_false_iff_ne.2]; rfl; simp only [List.length_cons]; omega
theorem Qo1 (N : Nat) (x : List Ev) (cid : Int) (hx : x.length ≤ 1000) (hN : 1000000 < N) : Q24 N x cid = some (cardV x cid) := by
 unfold Q24
 refine Q7x (fun k : Nat => ((((k : Int), ()), (((cid, (hasR x cid k).map fun r => lineV r (valsV x cid r)), ()), ()), (), ()) : (Int × Unit) × ((Cd × Unit) × Unit) × Unit × Unit)) (some (cardV x cid)) 0 256 (by omega) ?_ ?_ N (by omega)
 ·intro rec k _ h2
  have h3 : decide ((k : Int) < 256) = true := by simp; omega
  have hl := Qm5 x cid k
  have hf1 : fitsB (0 + (hasR x cid k).length) 48 = true := fit (by omega) (by omega)
  have hf2 : fitsB ((hasR x cid k).length + (0 + 1)) 48 = true := fit (by omega) (by omega)
  have hv := Qcu x cid (UInt8.ofNat k)
  rw [Qzj]
  simp only [h3, cond_true, Qol h2, Q11d N x cid _ hx (by omega), Option.bind_some, Qum, Q6 (show k + 1 < 9223372036854775808 by omega), List.length_map, hf1, Qvv N (UInt8.ofNat k) _ (show (valsV x cid (UInt8.ofNat k)).length ≤ 1000 by omega) hN, List.nil_append, List.length_cons, List.length_nil, hf2]
  cases h : (valsV x cid (UInt8.ofNat k)).isEmpty with
  | true => simp only [Bool.not_true, cond_false, cond_true, List.append_nil]
  | false => simp only [Bool.not_false, cond_false, cond_true, List.map_append, List.map_cons, List.map_nil]
 ·intro rec
  have h3 : decide (((256 : Nat) : Int) < 256) = false := by decide
  simp only [h3, cond_false, Qsy, cardV, Q8m]
  cases (List.map (fun r => lineV r (valsV x cid r)) (hasR x cid 256)).isEmpty <;> rfl
end Go.Proofs.Xg
set_option linter.unusedVariables false
set_option linter.unusedSimpArgs false
set_option linter.unnecessarySimpa false
set_option maxRecDepth 100000
namespace Go.Proofs.Xg
open Go Go.Xl Go.Ab Go.Proofs Go.Sort
section
variable {kt vt : Ty}
theorem Qd0 (hk : kt.key = true) (a a' : kt.T) (v : List vt.T) (f : Bool) (c : Nat) [DecidableEq kt.T] : ∀ es : EntT kt vt, tget a' (tput a v f c (toff a es)) = if a' = a then some (tborn a es c, f, v) else tget a' es
 | [] => by
  by_cases h : a' = a
  ·subst h; simp [toff, tput, tget, tborn, (Ty.eqv_iff kt a' a' hk).2 rfl]
  ·have : kt.eqv a' a = false := by rw [Bool.eq_false_iff]; exact fun hh => h ((Ty.eqv_iff kt a' a hk).1 hh)
   simp [toff, tput, tget, this, h]
 | e :: r => by
  cases he : kt.eqv a e.2.1 with
  | true =>
   have e1 := (Ty.eqv_iff kt _ _ hk).1 he
   simp only [toff, he, cond_true, tput, tget]
   by_cases h : a' = a
   ·subst h; simp [tborn, tget, he, (Ty.eqv_iff kt a' a' hk).2 rfl]
   ·have : kt.eqv a' a = false := by rw [Bool.eq_false_iff]; exact fun hh => h ((Ty.eqv_iff kt a' a hk).1 hh)
    rw [← e1]
    simp [this, h]
  | false =>
   have ih := Qd0 hk a a' v f c r
   simp only [toff, he, cond_false, tput, tget]
   rw [ih]
   by_cases h : a' = a
   ·subst h; simp [he, tborn, tget]
   ·simp [h]
theorem Qti (a : kt.T) : ∀ es : EntT kt vt, mget a (fgT es) = (tget a es).map (·.2.2)
 | [] => rfl
 | e :: r => by
  have ih := Qti a r
  simp only [fgT, List.map_cons, mget, tget] at ih ⊢
  cases kt.eqv a e.2.1 with
  | true => rfl
  | false => exact ih
theorem Qd9 (hk : kt.key = true) (a : kt.T) (v : List vt.T) (f : Bool) (c : Nat) [DecidableEq kt.T] : ∀ es : EntT kt vt, (tput a v f c (toff a es)).map (·.2.1) = if a ∈ es.map (·.2.1) then es.map (·.2.1) else es.map (·.2.1) ++ [a]
 | [] => by simp [toff, tput]
 | e :: r => by
  cases he : kt.eqv a e.2.1 with
  | true =>
   have e1 := (Ty.eqv_iff kt _ _ hk).1 he
   have hm : a ∈ (e :: r).map (·.2.1) := by rw [List.map_cons, ← e1]; exact List.mem_cons_self
   rw [if_pos hm]
   simp only [toff, he, cond_true, tput, List.map_cons]
   exact congrArg (· :: _) e1
  | false =>
   have ih := Qd9 hk a v f c r
   have hne : ¬ a = e.2.1 := fun hh => by rw [(Ty.eqv_iff kt a e.2.1 hk).2 hh] at he; cases he
   simp only [toff, he, cond_false, tput, List.map_cons, ih, List.mem_cons]
   by_cases h : a ∈ r.map (·.2.1)
   ·rw [if_pos h, if_pos (.inr h)]
   ·rw [if_neg h, if_neg (by rintro (h' | h'); exact hne h'; exact h h')]; rfl
end
abbrev Es8 := EntT .u8 Q7
theorem Qn9 (x : List Ev) (e : Ev) (cid : Int) (r : UInt8) : valsV (x ++ [e]) cid r = valsV x cid r ++ cond (setsB cid r e) [valE e] [] := by
 unfold valsV
 rw [List.filter_append, List.map_append]
 cases h : setsB cid r e <;> simp [h]
structure MapOf (x : List Ev) (cid : Int) (es : Es8) : Prop where
 flag : ∀ r : UInt8, tflag (kt := .u8) r es = true
 val : ∀ r : UInt8, tval (kt := .u8) r es = valsV x cid r
 nd : (es.map (·.2.1)).Nodup
 key : ∀ r : UInt8, r ∈ es.map (·.2.1) ↔ valsV x cid r ≠ []
theorem MapOf.skip {x : List Ev} {cid : Int} {es : Es8} (h : MapOf x cid es) {e : Ev} (he : ∀ r, setsB cid r e = false) : MapOf (x ++ [e]) cid es := by
 have : ∀ r, valsV (x ++ [e]) cid r = valsV x cid r := fun r => by rw [Qn9, he r]; simp
 exact ⟨h.flag, fun r => by rw [this]; exact h.val r, h.nd, fun r => by rw [this]; exact h.key r⟩
theorem MapOf.put {x : List Ev} {cid : Int} {es : Es8} (h : MapOf x cid es) {e : Ev} {r0 : UInt8} (he : ∀ r, setsB cid r e = decide (r = r0)) (c : Nat) : MapOf (x ++ [e]) cid (tput (kt := .u8) (vt := Q7) r0 (tval (kt := .u8) r0 es ++ [valE e]) true c (toff (kt := .u8) r0 es)) := by
 have hv : ∀ r, valsV (x ++ [e]) cid r = if r = r0 then valsV x cid r ++ [valE e] else valsV x cid r := fun r => by
  rw [Qn9, he r]
  by_cases hr : r = r0 <;> simp [hr]
 refine ⟨fun r => ?_, fun r => ?_, ?_, fun r => ?_⟩
 ·unfold tflag
  rw [Qd0 rfl]
  by_cases hr : r = r0
  ·rw [if_pos hr]
  ·rw [if_neg hr]; exact h.flag r
 ·rw [hv]
  unfold tval
  rw [Qd0 rfl]
  by_cases hr : r = r0
  ·subst hr
   rw [if_pos rfl, if_pos rfl, ← h.val r]; rfl
  ·rw [if_neg hr, if_neg hr, ← h.val r]; rfl
 ·rw [Qd9 rfl]
  split
  ·exact h.nd
  ·rename_i hn
   rw [List.nodup_append]
   exact ⟨h.nd, by simp, fun a ha b hb => by simp at hb; subst hb; rintro rfl; exact hn ha⟩
 ·rw [Qd9 rfl, hv]
  by_cases hr : r = r0
  ·subst hr
   rw [if_pos rfl]
   split <;> simp_all
  ·rw [if_neg hr, ← h.key r]
   split
   ·rfl
   ·simp [hr]
theorem Q104 (k : Nat) (h : k ≤ 256) : (regsV k).Pairwise (fun x y => x < y) := by
 unfold regsV
 rw [List.pairwise_map]
 refine (List.pairwise_lt_range (n := k)).imp_of_mem ?_
 intro a b ha hb hab
 rw [List.mem_range] at ha hb
 rw [UInt8.lt_iff_toNat_lt, UInt8.toNat_ofNat', UInt8.toNat_ofNat']
 omega
theorem Qzw (r : UInt8) : r ∈ regsV 256 := by
 unfold regsV
 rw [List.mem_map]
 refine ⟨r.toNat, List.mem_range.2 r.toNat_lt, ?_⟩
 simp
theorem MapOf.keys {x : List Ev} {cid : Int} {es : Es8} (h : MapOf x cid es) : keys8 (fgT es) = hasR x cid 256 := by
 unfold keys8
 have hs : (hasR x cid 256).Pairwise (fun x y => x < y) := (Q104 256 (Nat.le_refl _)).filter _
 refine Ql5 ?_ (hs.imp fun {a b} hab => UInt8.le_of_lt hab)
 rw [show (fgT es).map (fun e => e.2.1) = es.map (·.2.1) from Qgz es]
 refine (List.perm_ext_iff_of_nodup h.nd (hs.imp fun {a b} hab => UInt8.ne_of_lt hab)).2 fun r => ?_
 rw [h.key r]
 unfold hasR
 rw [List.mem_filter]
 simp [Qzw]
theorem MapOf.get {x : List Ev} {cid : Int} {es : Es8} (h : MapOf x cid es) (r : UInt8) : (mgetX .u8 Q7.sl r (fgTX .u8 Q7 es)).getD [] = valsV x cid r := by
 rw [← h.val r]
 show (mget r (fgT es)).getD [] = _
 rw [Qti]
 unfold tval
 cases tget (kt := .u8) (vt := Q7) r es <;> rfl
theorem Qxr {x : List Ev} {cid : Int} {es : Es8} (h : MapOf x cid es) : es.length = (hasR x cid 256).length := by
 rw [← h.keys]
 unfold keys8
 rw [(Qf1 _).length_eq, List.length_map]
 simp [fgT]
theorem Qp0 (N : Nat) (x : List Ev) (cid : Int) (hx : x.length ≤ 1000) (hN : 1000000000000 < N) : Q58 N x cid = some (cardV x cid) := by
 unfold Q58
 refine Q11j ?_
 refine Q5f (Q := fun r => r = cardV x cid) (fun m z => ∃ (k : Nat) (es : Es8) (clk : Nat), z = (((k : Int), ()), (), (), (es, clk), ()) ∧ k ≤ x.length ∧ m = x.length - k ∧ MapOf (x.take k) cid es) ?_ N x.length _ ⟨0, [], 0, rfl, by omega, by omega, ⟨fun _ => rfl, fun _ => rfl, by simp, fun r => by simp [valsV]⟩⟩ (by omega)
 rintro m z rec ⟨k, es, clk, rfl, hk, rfl, hm⟩ ih
 by_cases hkl : k < x.length
 ·simp only [Qe, decide_eq_true hkl, cond_true, at?_nat, getl hkl, Option.bind_some, Q6 (show k + 1 < 9223372036854775808 by omega)]
  cases h1 : x[k].2.1 == 1 with
  | false =>
   simp only [cond_false]
   refine ih (x.length - (k + 1)) _ (by omega) ⟨k + 1, es, clk, rfl, by omega, rfl, ?_⟩
   rw [Q23 hkl]
   exact hm.skip fun r => by simp [setsB, h1]
  | true =>
   cases h2 : x[k].2.2.1 == cid with
   | false =>
    simp only [cond_false, cond_true]
    refine ih (x.length - (k + 1)) _ (by omega) ⟨k + 1, es, clk, rfl, by omega, rfl, ?_⟩
    rw [Q23 hkl]
    exact hm.skip fun r => by simp [setsB, h2]
   | true =>
    have e1 : Qyb .u8 Q7 x[k].2.2.2.1 es = true := hm.flag _
    have e2 : (tvalX .u8 Q7 x[k].2.2.2.1 es).length ≤ k := by
     rw [show tvalX .u8 Q7 x[k].2.2.2.1 es = valsV (x.take k) cid x[k].2.2.2.1 from hm.val _]
     have := Qcu (x.take k) cid x[k].2.2.2.1
     rw [List.length_take] at this; omega
    have hf : fitsB ((tvalX .u8 Q7 x[k].2.2.2.1 es).length + (0 + 1)) 32 = true := fit (by omega) (by omega)
    simp only [cond_true, e1, List.length_cons, List.length_nil, hf]
    refine ih (x.length - (k + 1)) _ (by omega) ⟨k + 1, _, _, rfl, by omega, rfl, ?_⟩
    rw [Q23 hkl]
    refine hm.put (e := x[k]) (r0 := x[k].2.2.2.1) (fun r => ?_) clk
    simp only [setsB, h1, h2, Bool.true_and]
    rw [Bool.eq_iff_iff]
    simp only [beq_iff_eq, decide_eq_true_eq]
    exact eq_comm
 ·have : k = x.length := by omega
  subst this
  rw [List.take_length] at hm
  have hlen : (fgTX .u8 Q7 es).length = (hasR x cid 256).length := by rw [← Qxr hm]; simp [fgT]
  have hle : (hasR x cid 256).length ≤ 256 := Qm5 x cid 256
  have hb : (fgTX .u8 Q7 es).length.ble 1000000000 = true := by rw [Nat.ble_eq, hlen]; omega
  have hks : keys8 (fgTX .u8 Q7 es) = hasR x cid 256 := hm.keys
  simp only [Qe, decide_eq_false hkl, cond_false, hb, cond_true, hks]
  rw [hlen, Qsy]
  cases hh : (hasR x cid 256).isEmpty with
  | true =>
   have : hasR x cid 256 = [] := by simpa using hh
   refine ⟨_, rfl, ?_⟩
   simp [cardV, Q8m, this]
  | false =>
   simp only [cond_false]
   refine ⟨cardV x cid, ?_, rfl⟩
   have hc : cardV x cid = ((cid, Q8m x cid), true) := by
    have : (Q8m x cid).isEmpty = false := by
     unfold Q8m
     cases hq : hasR x cid 256 with
     | nil => rw [hq] at hh; cases hh
     | cons a r => rfl
    simp only [cardV, this, cond_false]
   rw [hc]
   refine Q7x (fun k : Nat => ((((k : Int), ()), ((cid, ((hasR x cid 256).take k).map (fun r => lineV r (valsV x cid r)), ()), ()), (), ()) : (Int × Unit) × ((Int × List Ln × Unit) × Unit) × Unit × Unit)) _ 0 (hasR x cid 256).length (by omega) ?_ ?_ N (by omega)
   ·intro rec k _ h2
    have hl : (((hasR x cid 256).take k).map (fun r => lineV r (valsV x cid r))).length ≤ k := by
     rw [List.length_map, List.length_take]; omega
    have hv := Qcu x cid (hasR x cid 256)[k]
    rw [Q23 h2, List.map_append]
    generalize ((hasR x cid 256).take k).map (fun r => lineV r (valsV x cid r)) = A at *
    have hf2 : fitsB (A.length + (0 + 1)) 48 = true := fit (by omega) (by omega)
    have hg := hm.get (hasR x cid 256)[k]
    simp only [Qe, decide_eq_true h2, cond_true, at?_nat, getl h2, Option.bind_some, Q6 (show k + 1 < 9223372036854775808 by omega), hg, Q11c N _ _ (show (valsV x cid (hasR x cid 256)[k]).length ≤ 1000 by omega) hN, List.length_cons, List.length_nil, hf2, List.map_cons, List.map_nil]
   ·intro rec
    simp only [Qe, decide_eq_false (Nat.lt_irrefl _), cond_false, List.take_length, Q8m]
end Go.Proofs.Xg
set_option linter.unusedVariables false
set_option linter.unusedSimpArgs false
set_option linter.unnecessarySimpa false
set_option maxRecDepth 100000
namespace Go.Proofs.Xg
open Go Go.Xl Go.Ab Go.Proofs Go.Sort
abbrev ltI (x y : Int) : Bool := decide (x < y)
def cidL (x : List Ev) : List Int := (x.filter (fun e => e.2.1 == 1)).map (·.2.2.1)
def cidsV (x : List Ev) : List Int := putsG ltI (cidL x)
theorem Qxp (x : List Ev) (e : Ev) : cidL (x ++ [e]) = cidL x ++ cond (e.2.1 == 1) [e.2.2.1] [] := by
 unfold cidL
 rw [List.filter_append, List.map_append]
 cases h : e.2.1 == 1 <;> simp [h]
theorem Qlq (x : List Ev) : (cidL x).length ≤ x.length := by
 unfold cidL
 rw [List.length_map]
 exact List.length_filter_le _ _
theorem Qey (x : List Ev) : (cidsV x).length ≤ x.length := Nat.le_trans (Qcv Qoa _) (Qlq x)
theorem Q115 (N : Nat) (x : List Ev) (hx : x.length ≤ 1000) (hN : 1000000 < N) : Q39 N x = some (cidsV x) := by
 unfold Q39
 have hq : ∀ l : List Ev, l.foldl (fun q (e : Ev) => cond (e.2.1 == 1) (putG ltI e.2.2.1 q) q) [] = cidsV l := by
  intro l
  unfold cidsV putsG
  suffices H : ∀ (l : List Ev) (q : List Int), l.foldl (fun q (e : Ev) => cond (e.2.1 == 1) (putG ltI e.2.2.1 q) q) q = (cidL l).foldl (fun q d => putG ltI d q) q from H l []
  intro l
  induction l with
  | nil => intro q; rfl
  | cons e r ih =>
   intro q
   rw [List.foldl_cons, ih]
   unfold cidL
   rw [List.filter_cons]
   cases h : e.2.1 == 1 <;> simp
 rw [Q6c x (fun q e => cond (e.2.1 == 1) (putG ltI e.2.2.1 q) q) [] (fun a => some a) ?_ ?_ N (by omega), hq]
 ·intro rec k a hk ha
  rw [hq] at ha
  have hal : a.length ≤ k := by
   rw [ha]
   have := Qey (x.take k)
   rw [List.length_take] at this; omega
  simp only [Qe, decide_eq_true hk, cond_true, at?_nat, getl hk, Option.bind_some, Q6 (show k + 1 < 9223372036854775808 by omega)]
  cases hb : x[k].2.1 == 1 with
  | false =>
   have : (x[k].2.1 != 1) = true := by simp only [bne, hb]; rfl
   simp only [this, cond_true, cond_false]
  | true =>
   have : (x[k].2.1 != 1) = false := by simp only [bne, hb]; rfl
   simp only [this, cond_true, cond_false]
   generalize x[k].2.2.1 = d
   have e0 := Q1w (fun x => ltI x d) a []
   rw [Q6c a (fun b x => cond (ltI x d) (b ++ [x]) b) [] (fun b => rec ((b ++ [d] ++ a.filter (fun x => ltI d x), ((k + 1 : Nat) : Int), ()), (), (), ())) ?_ ?_ N (by omega), e0]
   ·rfl
   ·intro rec1 j b hj hb
    have hbl : b.length ≤ j := by
     rw [hb, Q1w, List.nil_append]
     have := List.length_filter_le (fun x => ltI x d) (a.take j)
     rw [List.length_take] at this; omega
    have hf : fitsB (b.length + (0 + 1)) 8 = true := fit (by omega) (by omega)
    simp only [Qe, decide_eq_true hj, cond_true, at?_nat, getl hj, Option.bind_some, Q6 (show j + 1 < 9223372036854775808 by omega), List.length_cons, List.length_nil, hf]
    by_cases hc : a[j] < d <;> simp [hc, ltI]
   ·intro rec1
    have hbl : (a.foldl (fun b x => cond (ltI x d) (b ++ [x]) b) []).length ≤ a.length := by
     rw [Q1w, List.nil_append]
     exact List.length_filter_le _ _
    generalize a.foldl (fun b x => cond (ltI x d) (b ++ [x]) b) [] = b at *
    have hf : fitsB (b.length + (0 + 1)) 8 = true := fit (by omega) (by omega)
    simp only [Qe, decide_eq_false (Nat.lt_irrefl _), cond_false, List.length_cons, List.length_nil, hf, cond_true]
    have e1 := Q1w (fun x => ltI d x) a (b ++ [d])
    rw [Q6c a (fun b x => cond (ltI d x) (b ++ [x]) b) (b ++ [d]) (fun b => rec ((b, ((k + 1 : Nat) : Int), ()), (), (), ())) ?_ ?_ N (by omega), e1]
    ·intro rec2 j c hj hc
     have hcl : c.length ≤ j + b.length + 1 := by
      rw [hc, Q1w]
      have := List.length_filter_le (ltI d) (a.take j)
      rw [List.length_take] at this
      rw [List.length_append, List.length_append, List.length_singleton]
      omega
     have hf : fitsB (c.length + (0 + 1)) 8 = true := fit (by omega) (by omega)
     simp only [Qe, decide_eq_true hj, cond_true, at?_nat, getl hj, Option.bind_some, Q6 (show j + 1 < 9223372036854775808 by omega), List.length_cons, List.length_nil, hf]
     by_cases hc : d < a[j] <;> simp [hc, ltI]
    ·intro rec2
     simp only [Qe, decide_eq_false (Nat.lt_irrefl _), cond_false]
 ·intro rec
  simp only [Qe, decide_eq_false (Nat.lt_irrefl _), cond_false]
def listV (x : List Ev) : List Cd := (cidsV x).map fun c => (cardV x c).1
theorem Qba {X Y : Type} (h : X → Y) : ∀ (l : List X) (a : List Y), l.foldl (fun a x => a ++ [h x]) a = a ++ l.map h
 | [], a => by simp
 | x :: r, a => by
  simp only [List.foldl_cons, List.map_cons]
  rw [Qba h r]
  simp
theorem Qx9 (N : Nat) (x : List Ev) (hx : x.length ≤ 1000) (hN : 1000000 < N) : Q3c N x = some (listV x) := by
 unfold Q3c
 rw [Q115 N x hx hN, Option.bind_some]
 have hc := Qey x
 have hq : listV x = [] ++ (cidsV x).map (fun c => (cardV x c).1) := rfl
 rw [hq, ← Qba]
 refine Q6c (cidsV x) (fun a c => a ++ [(cardV x c).1]) [] (fun a => some a) ?_ ?_ N (by omega)
 ·intro rec k a hk ha
  have hal : a.length ≤ k := by
   rw [ha, Qba, List.nil_append, List.length_map, List.length_take]; omega
  have hf : fitsB (a.length + (0 + 1)) 32 = true := fit (by omega) (by omega)
  simp only [Qe, decide_eq_true hk, cond_true, at?_nat, getl hk, Option.bind_some, Q6 (show k + 1 < 9223372036854775808 by omega), Qo1 N x _ hx hN, List.length_cons, List.length_nil, hf]
 ·intro rec
  simp only [Qe, decide_eq_false (Nat.lt_irrefl _), cond_false]
theorem Q11f (N : Nat) (hN : 0 < N) : Xu.F0_slices_Sort_suint64_uint64 N = some () := by
 unfold Xu.F0_slices_Sort_suint64_uint64 Xu.F0_slices_pdqsortOrdered_uint64
 rw [len0, Option.bind_some]
 obtain ⟨M, rfl⟩ : ∃ M, N = M + 1 := ⟨N - 1, by omega⟩
 unfold Xu.F0_slices_insertionSortOrdered_uint64
 simp only [iter]
 rfl
def optL (c : List Int) : Option (List Int × Nat) := match c with
 | [] => none
 | a :: r => some (a :: r, (a :: r).length)
theorem Q11q (N : Nat) (x : List Ev) (hx : x.length ≤ 1000) (hN : 1000000000000 < N) : Q9q N x = some (listV x) := by
 have hsl : (Xu.U.srt (cidL x)).length = (cidL x).length := by simp [Xu.U.srt]
 have hcl := Qlq x
 obtain ⟨q, hq, h1, h2⟩ := Qu6 N (Xu.U.srt (cidL x)) (by rw [hsl]; omega) (by rw [hsl]; omega)
 rw [hsl] at hq
 have h1 : q.1.take q.2 = cidsV x := by
  rw [h1]
  exact Qpn Qoa (List.mergeSort_perm _ _) (Qto Qoa _)
 have hc := Qey x
 have hcv : (cidsV x).length = q.2 := by rw [← h1, List.length_take]; omega
 unfold Q9q
 refine Q7x (fun k : Nat => ((((k : Int), ()), (), (optL (cidL (x.take k)), ()), ()) : (Int × Unit) × Unit × (Option (List Int × Nat) × Unit) × Unit)) (some (listV x)) 0 x.length (by omega) ?_ ?_ N (by omega)
 ·intro rec k _ hk
  have hl := Qlq (x.take k)
  rw [List.length_take] at hl
  rw [Q23 hk, Qxp]
  generalize cidL (x.take k) = c at *
  cases c with
  | nil =>
   simp only [optL, Q3o, Qe, decide_eq_true hk, cond_true, at?_nat, getl hk, Option.bind_some, Q6 (show k + 1 < 9223372036854775808 by omega)]
   cases x[k].2.1 == 1 <;> rfl
  | cons a r =>
   have hb : (a :: r).length.beq (a :: r).length = true := by simp
   have hf : fitsB ((a :: r).length + [x[k].2.2.1].length) 8 = true := fit (by simp only [List.length_cons, List.length_nil] at *; omega) (by simp only [List.length_cons, List.length_nil] at *; omega)
   simp only [optL, Q3o, Qe, decide_eq_true hk, cond_true, at?_nat, getl hk, Option.bind_some, Q6 (show k + 1 < 9223372036854775808 by omega), hb, hf]
   cases x[k].2.1 == 1 with
   | true =>
    simp only [cond_true, List.cons_append, List.length_append, List.length_cons, List.length_nil]
   | false => simp only [cond_false, List.append_nil]
 ·intro rec
  rw [List.take_length]
  cases hcc : cidL x with
  | nil =>
   simp only [optL, Q3o, Qe, decide_eq_false (Nat.lt_irrefl _), cond_false, Q11f N (by omega), Q1f, Option.bind_some]
   have : listV x = [] := by unfold listV cidsV; rw [hcc]; rfl
   rw [this]
   obtain ⟨M, rfl⟩ : ∃ M, N = M + 1 := ⟨N - 1, by omega⟩
   simp only [iter]
   rfl
  | cons a r =>
   have hsort : Xu.F_slices_Sort_suint64_uint64 N (a :: r) (a :: r).length = some (Xu.U.srt (a :: r), ()) := Xu.U.Sort_eq N (a :: r) (by rw [← hcc]; omega) hN
   rw [hcc] at hq
   have hb : (0 + q.2).ble q.1.length = true := by rw [Nat.ble_eq]; omega
   simp only [optL, Q3o, Qe, decide_eq_false (Nat.lt_irrefl _), cond_false, hsort, hq, Option.bind_some, hb, cond_true, List.drop_zero, h1]
   simp only [← hcv]
   have hq : listV x = [] ++ (cidsV x).map (fun c => (cardV x c).1) := rfl
   rw [hq, ← Qba]
   refine Q6c (cidsV x) (fun a c => a ++ [(cardV x c).1]) [] (fun a => some a) ?_ ?_ N (by omega)
   ·intro rec k a hk ha
    have hal : a.length ≤ k := by
     rw [ha, Qba, List.nil_append, List.length_map, List.length_take]; omega
    have hf : fitsB (a.length + (0 + 1)) 32 = true := fit (by omega) (by omega)
    simp only [Qe, decide_eq_true hk, cond_true, at?_nat, getl hk, Option.bind_some, Q6 (show k + 1 < 9223372036854775808 by omega), Qp0 N x _ hx hN, List.length_cons, List.length_nil, hf]
   ·intro rec
    simp only [Qe, decide_eq_false (Nat.lt_irrefl _), cond_false]
theorem Qe9 {α : Type} [BEq α] [LawfulBEq α] (a : α) : (a != a) = false := by simp
theorem Qy1 (N : Nat) (l : List (List UInt8)) (hl : l.length ≤ 100000) (hN : 1000000 < N) : Q32 N l l = some true := by
 unfold Q32
 simp only [Qe9, cond_false]
 refine Q7x (fun k : Nat => ((((k : Int), ()), (), (), ()) : (Int × Unit) × Unit × Unit × Unit)) (some true) 0 l.length (by omega) ?_ ?_ N (by omega)
 ·intro rec k _ hk
  simp only [Qe, decide_eq_true hk, cond_true, at?_nat, getl hk, Option.bind_some, Q6 (show k + 1 < 9223372036854775808 by omega), Qe9, cond_false]
 ·intro rec
  simp only [Qe, decide_eq_false (Nat.lt_irrefl _), cond_false]
theorem Qyr (N : Nat) (l : List Ln) (hl : l.length ≤ 100000) (hs : ∀ e ∈ l, e.2.2.length ≤ 100000) (hN : 1000000 < N) : Q2y N l l = some true := by
 unfold Q2y
 simp only [Qe9, cond_false]
 refine Q7x (fun k : Nat => ((((k : Int), ()), (), (), ()) : (Int × Unit) × Unit × Unit × Unit)) (some true) 0 l.length (by omega) ?_ ?_ N (by omega)
 ·intro rec k _ hk
  simp only [Qe, decide_eq_true hk, cond_true, at?_nat, getl hk, Option.bind_some, Q6 (show k + 1 < 9223372036854775808 by omega), Qe9, cond_false, Qy1 N _ (hs _ (List.getElem_mem hk)) hN, Bool.not_true]
 ·intro rec
  simp only [Qe, decide_eq_false (Nat.lt_irrefl _), cond_false]
structure SmC (c : Cd) : Prop where
 len : c.2.length ≤ 100000
 txt : ∀ e ∈ c.2, e.2.2.length ≤ 100000
theorem Qls (N : Nat) (c : Cd) (hc : SmC c) (hN : 1000000 < N) : Q1l N c c = some true := by
 unfold Q1l
 simp only [beq_self_eq_true, cond_true, Qyr N c.2 hc.len hc.txt hN, Option.bind_some]
theorem sameAll (N : Nat) (l : List Cd) (hl : l.length ≤ 100000) (hs : ∀ c ∈ l, SmC c) (hN : 1000000 < N) : Q47 N l l = some true := by
 unfold Q47
 simp only [Qe9, cond_false]
 refine Q7x (fun k : Nat => ((((k : Int), ()), (), (), ()) : (Int × Unit) × Unit × Unit × Unit)) (some true) 0 l.length (by omega) ?_ ?_ N (by omega)
 ·intro rec k _ hk
  simp only [Qe, decide_eq_true hk, cond_true, at?_nat, getl hk, Option.bind_some, Q6 (show k + 1 < 9223372036854775808 by omega), Qls N _ (hs _ (List.getElem_mem hk)) hN, Bool.not_true, cond_false]
 ·intro rec
  simp only [Qe, decide_eq_false (Nat.lt_irrefl _), cond_false]
theorem Q10l (x : List Vl) : (txtV x).length ≤ x.length := by
 have := Qcv Q99 (x.map (·.2))
 rw [List.length_map] at this
 exact this
theorem Qry (x : List Ev) (cid : Int) (hx : x.length ≤ 1000) : SmC (cardV x cid).1 := by
 unfold cardV
 cases (Q8m x cid).isEmpty with
 | true => exact ⟨by simp, by simp⟩
 | false =>
  simp only [cond_false]
  refine ⟨?_, ?_⟩
  ·unfold Q8m
   rw [List.length_map]
   have := Qm5 x cid 256; omega
  ·intro e he
   unfold Q8m at he
   obtain ⟨r, _, rfl⟩ := List.mem_map.1 he
   unfold lineV
   cases (valsV x cid r).isEmpty with
   | true => simp
   | false =>
    simp only [cond_false]
    have h1 := List.length_filter_le (fun e => !(e == (winV (valsV x cid r)).2)) (txtV (valsV x cid r))
    have h2 := Q10l (valsV x cid r)
    have h3 := Qcu x cid r
    omega
theorem Q102 (x : List Ev) (hx : x.length ≤ 1000) : ∀ c ∈ listV x, SmC c := by
 intro c hc
 obtain ⟨i, _, rfl⟩ := List.mem_map.1 hc
 exact Qry x i hx
theorem Qrj : cardV [((1, 1), 1, 5, 1, [97], []), ((2, 1), 1, 5, 1, [98], [])] 5 = ((5, [(1, [98], [[97]])]), true) := by
 decide
theorem Qv7 (N : Nat) (hN : 1000000000000 < N) : Q20 N = some true := by
 unfold Q20
 rw [Qp0 N _ _ (by decide) hN, Qrj]
 simp only [Option.bind_some, cond_true]
 rw [Qls N _ ⟨by simp, by simp⟩ (by omega)]
 rfl
end Go.Proofs.Xg
set_option linter.unusedVariables false
set_option linter.unusedSimpArgs false
set_option linter.unnecessarySimpa false
set_option maxRecDepth 100000
namespace Go.Proofs.Xg
open Go Go.Xl Go.Ab Go.Proofs Go.Sort
theorem viewShows_true (N : Nat) (hN : 1000000000000 < N) (x : List Ev) (cid : Int) : Q2r N x cid = some true := by
 unfold Q2r
 obtain ⟨b, h1, h2⟩ := Q11t N x 20 (by omega) (by omega)
 have h1 : Q2h N x 20 = some b := h1
 rw [h1, Option.bind_some]
 cases b with
 | false => simp only [Bool.not_false, cond_true, Qv7 N hN, Option.bind_some]
 | true =>
  obtain ⟨hl, _⟩ := h2 rfl
  simp only [Bool.not_true, cond_false, Qp0 N x cid (by omega) hN, Qo1 N x cid (by omega) (by omega), Option.bind_some, Qls N _ (Qry x cid (by omega)) (by omega), beq_self_eq_true, cond_true, Q11q N x (by omega) hN, Qx9 N x (by omega) (by omega)]
  rw [sameAll N _ (by unfold listV; rw [List.length_map]; have := Qey x; omega) (Q102 x (by omega)) (by omega)]
  simp only [Option.bind_some, cond_true, Qv7 N hN]
theorem Qew {x : List Ev} {cid : Int} {r : UInt8} {v : Vl} : v ∈ valsV x cid r ↔ ∃ e ∈ x, setsB cid r e = true ∧ valE e = v := by
 unfold valsV
 simp only [List.mem_map, List.mem_filter, and_assoc]
structure Mates (x y : List Ev) : Prop where
 mem : ∀ e, e ∈ x ↔ e ∈ y
 uniq : ∀ a ∈ x, ∀ b ∈ x, a.1 = b.1 → a = b
theorem Mates.vals {x y : List Ev} (h : Mates x y) (cid : Int) (r : UInt8) : (∀ v, v ∈ valsV x cid r ↔ v ∈ valsV y cid r) ∧ ∀ a ∈ valsV x cid r, ∀ b ∈ valsV x cid r, a.1 = b.1 → a = b := by
 refine ⟨fun v => ?_, fun a ha b hb hab => ?_⟩
 ·rw [Qew, Qew]
  exact ⟨fun ⟨e, h1, h2⟩ => ⟨e, (h.mem e).1 h1, h2⟩, fun ⟨e, h1, h2⟩ => ⟨e, (h.mem e).2 h1, h2⟩⟩
 ·obtain ⟨e, he, _, rfl⟩ := Qew.1 ha
  obtain ⟨e', he', _, rfl⟩ := Qew.1 hb
  rw [h.uniq e he e' he' hab]
end Go.Proofs.Xg
set_option linter.unusedVariables false
set_option linter.unusedSimpArgs false
namespace Go.Xl
open Go.Ab
def Ty.In : (t : Ty) → t.T → Prop
 | .int k, n => (Lit.int k n).wf = true
 | .u8, _ => True
 | .bool, _ => True
 | .str, l => l.length ≤ maxLen
 | .sl a, l => l.length ≤ maxLen ∧ ∀ x ∈ l, a.In x
 | .unit, _ => True
 | .pair a b, x => a.In x.1 ∧ b.In x.2
 | .st1 a, x => a.In x
 | .tab _, _ => True
 | .err, _ => True
 | .ic _ _, _ => True
 | .ptr, _ => True
def opFs (P : Program) (rec : TypeId → Ty → Bool) : Nat → List Field → Ty → Bool
 | off, [f], .st1 a => cond (Nat.beq f.offset off) (cond (Nat.beq (P.cellsOf f.type) a.size) (rec f.type a) false) false
 | off, [f, g], .pair a b => cond (Nat.beq f.offset off) (cond (Nat.beq (P.cellsOf f.type) a.size) (cond (rec f.type a) (cond (Nat.beq g.offset (off + a.size)) (cond (Nat.beq (P.cellsOf g.type) b.size) (rec g.type b) false) false) false) false) false
 | off, f :: g :: h :: r, .pair a b => cond (Nat.beq f.offset off) (cond (Nat.beq (P.cellsOf f.type) a.size) (cond (rec f.type a) (opFs P rec (off + a.size) (g :: h :: r) b) false) false) false
 | _, _, _ => false
def opB (P : Program) : Nat → TypeId → Ty → Bool
 | 0, _, _ => false
 | n + 1, t, ty =>
  match P.underlying t, ty with
  | some (.int k), .int k' => cond (kindB k k') true false
  | some (.int .u8), .u8 => true
  | some .bool, .bool => true
  | some .string, .str => true
  | some (.slice e), .sl a => cond (Nat.beq (P.cellsOf e) a.size) (cond (Nat.ble 1 a.size) (opB P n e a) false) false
  | some (.struct fs), a => cond a.agg (cond (Nat.beq (P.cellsOf t) a.size) (opFs P (opB P n) 0 fs.toList a) false) false
  | _, _ => false
def Q8p (γ : Nat → Nat) (w : World) (ds : List D) (cs : List Value) : Prop := ds.length = cs.length ∧ ∀ (i : Nat) d v, ds[i]? = some d → cs[i]? = some v → RD γ w d v
theorem Q8p.one {γ : Nat → Nat} {w : World} {d : D} {v : Value} (h : RD γ w d v) : Q8p γ w [d] [v] := by
 refine ⟨rfl, fun i e u he hu => ?_⟩
 cases i with
 | zero => simp at he hu; subst he; subst hu; exact h
 | succ i => simp at he
theorem Q8p.append {γ : Nat → Nat} {w : World} {a b : List D} {cs ds : List Value} (h : Q8p γ w a cs) (h' : Q8p γ w b ds) : Q8p γ w (a ++ b) (cs ++ ds) := by
 refine ⟨by simp [h.1, h'.1], fun i e u he hu => ?_⟩
 rw [List.getElem?_append] at he hu
 rw [← h.1] at hu
 split at he
 ·rename_i hlt
  rw [if_pos hlt] at hu
  exact h.2 i e u he hu
 ·rename_i hge
  rw [if_neg hge] at hu
  exact h'.2 _ e u he hu
theorem cT {a b : Bool} (h : cond a b false = true) : a = true ∧ b = true := by
 cases a <;> simp at h; exact ⟨rfl, h⟩
section
variable {H : Type} {enc : TypeId × Value → H} {P : Program} {W : World}
def OpR (P : Program) (W : World) (H : Type) (enc : TypeId × Value → H) (fuel : Nat) (rec : TypeId → Ty → Bool) : Prop :=
 ∀ (t : TypeId) (ty : Ty) (cs : List Value) (d : DataW H) (ps : List MemPlace), rec t ty = true → DataW.trod enc P W 0 (fun _ => true) true fuel t cs = some (d, ps) →
  ∃ x : ty.T, ty.In x ∧ Q8p (fullγ W) W (ty.ds x) cs
theorem take_split {α : Type} (l : List α) (off a b : Nat) : (l.drop off).take (a + b) = (l.drop off).take a ++ (l.drop (off + a)).take b := by
 rw [List.take_add, List.drop_drop]
theorem Qvr {fuel : Nat} {rec : TypeId → Ty → Bool} (hr : OpR P W H enc fuel rec) {cs : List Value} : ∀ (fs : List Field) (off : Nat) (ty : Ty), opFs P rec off fs ty = true →
  (∀ f ∈ fs, ∃ y, DataW.trod enc P W 0 (fun _ => true) true fuel f.type ((cs.drop f.offset).take (P.cellsOf f.type)) = some y) →
  ∃ x : ty.T, ty.In x ∧ Q8p (fullγ W) W (ty.ds x) ((cs.drop off).take ty.size)
 | [], off, ty, h, hf => by cases ty <;> simp [opFs] at h
 | [f], off, ty, h, hf => by
  cases ty with
  | st1 a =>
   simp only [opFs] at h
   obtain ⟨h1, h⟩ := cT h
   obtain ⟨h2, h⟩ := cT h
   have h1 := Nat.eq_of_beq_eq_true h1
   have h2 := Nat.eq_of_beq_eq_true h2
   obtain ⟨y, hy⟩ := hf f (by simp)
   rw [h1, h2] at hy
   exact hr f.type a _ _ _ h hy
  | _ => simp [opFs] at h
 | [f, g], off, ty, h, hf => by
  cases ty with
  | pair a b =>
   simp only [opFs] at h
   obtain ⟨h1, h⟩ := cT h
   obtain ⟨h2, h⟩ := cT h
   obtain ⟨h3, h⟩ := cT h
   obtain ⟨h4, h⟩ := cT h
   obtain ⟨h5, h⟩ := cT h
   have h1 := Nat.eq_of_beq_eq_true h1
   have h2 := Nat.eq_of_beq_eq_true h2
   have h4 := Nat.eq_of_beq_eq_true h4
   have h5 := Nat.eq_of_beq_eq_true h5
   obtain ⟨y, hy⟩ := hf f (by simp)
   obtain ⟨z, hz⟩ := hf g (by simp)
   rw [h1, h2] at hy
   rw [h4, h5] at hz
   obtain ⟨x1, i1, c1⟩ := hr _ _ _ _ _ h3 hy
   obtain ⟨x2, i2, c2⟩ := hr _ _ _ _ _ h hz
   refine ⟨(x1, x2), ⟨i1, i2⟩, ?_⟩
   simp only [Ty.ds, Ty.size]
   rw [take_split]
   exact c1.append c2
  | _ => simp [opFs] at h
 | f :: g :: k :: r, off, ty, h, hf => by
  cases ty with
  | pair a b =>
   simp only [opFs] at h
   obtain ⟨h1, h⟩ := cT h
   obtain ⟨h2, h⟩ := cT h
   obtain ⟨h3, h⟩ := cT h
   have h1 := Nat.eq_of_beq_eq_true h1
   have h2 := Nat.eq_of_beq_eq_true h2
   obtain ⟨y, hy⟩ := hf f (by simp)
   rw [h1, h2] at hy
   obtain ⟨x1, i1, c1⟩ := hr _ _ _ _ _ h3 hy
   obtain ⟨x2, i2, c2⟩ := Qvr hr (g :: k :: r) (off + a.size) b h (fun q hq => hf q (List.mem_cons_of_mem _ hq))
   refine ⟨(x1, x2), ⟨i1, i2⟩, ?_⟩
   simp only [Ty.ds, Ty.size]
   rw [take_split]
   exact c1.append c2
  | _ => simp [opFs] at h
theorem Qut {α β : Type} (p : Nat → β → α → Prop) : ∀ (l : List β), (∀ i y, l[i]? = some y → ∃ x, p i y x) → ∃ xs : List α, xs.length = l.length ∧ ∀ i y x, l[i]? = some y → xs[i]? = some x → p i y x := by
 intro l
 induction l generalizing p with
 | nil => intro _; exact ⟨[], rfl, by simp⟩
 | cons a r ih =>
  intro h
  obtain ⟨x, hx⟩ := h 0 a rfl
  obtain ⟨xs, h1, h2⟩ := ih (fun i => p (i + 1)) (fun i y hy => h (i + 1) y (by simpa using hy))
  refine ⟨x :: xs, by simp [h1], fun i y z hy hz => ?_⟩
  cases i with
  | zero => simp at hy hz; subst hy; subst hz; exact hx
  | succ i => exact h2 i y z (by simpa using hy) (by simpa using hz)
theorem Qh9 : ∀ (n fuel : Nat), OpR P W H enc fuel (opB P n)
 | 0, fuel => by intro t ty cs d ps ho; simp [opB] at ho
 | n + 1, fuel => by
  intro t ty cs d ps ho h
  unfold opB at ho
  split at ho
  ·rename_i k k' hu
   obtain ⟨hk, _⟩ := cT ho
   have := Q1x hk
   subst this
   obtain ⟨m, rfl, _, hw⟩ := DataW.trod_int hu h
   exact ⟨m, hw, .one (.sc _)⟩
  ·rename_i hu
   obtain ⟨m, rfl, _, hw⟩ := DataW.trod_int hu h
   have hm : 0 ≤ m ∧ m ≤ 255 := by simpa [Lit.wf, IntKind.wrap, IntKind.bits, IntKind.signed, IntKind.min, IntKind.max] using hw
   refine ⟨UInt8.ofNat m.toNat, trivial, .one ?_⟩
   have : (((UInt8.ofNat m.toNat).toNat : Nat) : Int) = m := by
    rw [UInt8.toNat_ofNat']; omega
   rw [this]
   exact .sc _
  ·rename_i hu
   obtain ⟨b, rfl, _⟩ := DataW.trod_bool hu h
   exact ⟨b, trivial, .one (.sc _)⟩
  ·rename_i hu
   obtain ⟨s, rfl, _, hw⟩ := DataW.trod_string hu h
   exact ⟨s.data.toList, by simpa [Ty.In] using hw, .one (.sc _)⟩
  ·rename_i e a hu
   obtain ⟨h1, ho⟩ := cT ho
   obtain ⟨h2, ho⟩ := cT ho
   have h1 := Nat.eq_of_beq_eq_true h1
   have h2 := Nat.le_of_ble_eq_true h2
   rcases DataW.trod_slice hu h with ⟨rfl, _⟩ | ⟨ad, len, cap, elems, rest, m, rfl, rfl, _, hb, hl, hc, hel, hcell, _, _⟩
   ·exact ⟨[], ⟨by simp, by simp⟩, .one (.nil _ _ _ fun _ => rfl)⟩
   ·have key : ∀ i y, (List.range len)[i]? = some y → ∃ x : a.T, a.In x ∧ ∃ cs', cs'.length = a.size ∧ Q8p (fullγ W) W (a.ds x) cs' ∧ ∀ j, j < a.size → W.cell? ((ad.add (i * a.size)).add j) = cs'[j]? := by
     intro i y hi
     have hlt : i < len := by have := (List.getElem?_eq_some_iff.1 hi).1; simpa using this
     have hc := hcell i hlt
     obtain ⟨z, hz⟩ : ∃ z, elems[i]? = some z := ⟨_, List.getElem?_eq_getElem (by omega)⟩
     rw [hz, Option.bind_eq_some_iff, h1] at hc
     obtain ⟨cs', hc1, hc2⟩ := hc
     obtain ⟨_, hcl, hcc⟩ := World.cells?_some hc1
     obtain ⟨x, hx1, hx2⟩ := Qh9 n m _ _ _ _ _ ho hc2
     exact ⟨x, hx1, cs', hcl, hx2, hcc⟩
    obtain ⟨xs, hxl, hx⟩ := Qut _ _ key
    rw [List.length_range] at hxl
    have hxs : ∀ i x, xs[i]? = some x → a.In x ∧ ∃ cs', cs'.length = a.size ∧ Q8p (fullγ W) W (a.ds x) cs' ∧ ∀ j, j < a.size → W.cell? ((ad.add (i * a.size)).add j) = cs'[j]? := by
     intro i x hi
     have hlt : i < len := by have := (List.getElem?_eq_some_iff.1 hi).1; omega
     exact hx i i x (by simp [hlt]) hi
    refine ⟨xs, ⟨by omega, fun x hm => ?_⟩, .one ?_⟩
    ·obtain ⟨i, hi⟩ := List.mem_iff_getElem?.1 hm
     exact (hxs i x hi).1
    ·rcases Nat.eq_zero_or_pos len with h0 | h0
     ·have : xs = [] := List.eq_nil_of_length_eq_zero (by omega)
      subst this
      subst h0
      exact .nil _ (some ad) cap (by simp)
     ·have spot : ad.spot = none := by
       obtain ⟨x0, hx0⟩ : ∃ z, xs[0]? = some z := ⟨_, List.getElem?_eq_getElem (by omega)⟩
       obtain ⟨_, cs', hl', _, hc'⟩ := hxs 0 x0 hx0
       have := hc' 0 (by omega)
       rw [List.getElem?_eq_getElem (by omega)] at this
       have := World.cell?_spot this
       simpa [Addr.add] using this
      obtain ⟨b, off, sp⟩ := ad
      simp only at spot
      subst spot
      have hcell' : ∀ i x, xs[i]? = some x → ∃ cs', cs'.length = a.size ∧ Q8p (fullγ W) W (a.ds x) cs' ∧ ∀ j, j < a.size → W.cell? ⟨b, off + (i * a.size + j), none⟩ = cs'[j]? := by
       intro i x hi
       obtain ⟨_, cs', hl', hd', hc'⟩ := hxs i x hi
       refine ⟨cs', hl', hd', fun j hj => ?_⟩
       have := hc' j hj
       rwa [WideShapes.add_plain, WideShapes.add_plain, Nat.add_assoc] at this
      refine .ofCells' (by simp [hxl]) ?_ hl ?_ ?_
      ·obtain ⟨x, hx⟩ : ∃ z, xs[len - 1]? = some z := ⟨_, List.getElem?_eq_getElem (by omega)⟩
       obtain ⟨cs', hl', _, hc'⟩ := hcell' (len - 1) x hx
       have := hc' (a.size - 1) (by omega)
       rw [List.getElem?_eq_getElem (by omega)] at this
       have := Qwd this
       have e : len * a.size = (len - 1) * a.size + a.size := by
        rw [← Nat.succ_mul]; congr 1; omega
       show off + len * a.size ≤ fullγ W b
       omega
      ·intro i cs hi
       rw [List.getElem?_map, Option.map_eq_some_iff] at hi
       obtain ⟨x, _, rfl⟩ := hi
       exact a.ds_length x
      ·intro i j cs c u hi hj hu
       rw [List.getElem?_map, Option.map_eq_some_iff] at hi
       obtain ⟨x, hx, rfl⟩ := hi
       obtain ⟨cs', hl', hd', hc'⟩ := hcell' i x hx
       have hjl : j < a.size := by have := (List.getElem?_eq_some_iff.1 hj).1; rwa [a.ds_length] at this
       rw [hc' j hjl] at hu
       exact hd'.2 j c u hj hu
  ·rename_i fs hu
   obtain ⟨_, ho⟩ := cT ho
   obtain ⟨h2, ho⟩ := cT ho
   have h2 := Nat.eq_of_beq_eq_true h2
   obtain ⟨xs, m, rfl, _, hl, hxl, hall⟩ := DataW.trod_struct hu h
   obtain ⟨x, hx1, hx2⟩ := Qvr (Qh9 n m) (cs := cs) fs.toList 0 _ ho (by
    intro f hf
    obtain ⟨i, hi⟩ := List.mem_iff_getElem?.1 hf
    have hi' : fs[i]? = some f := by simpa using hi
    have := hall i f hi'
    rw [this]
    have hlt := (Array.getElem?_eq_some_iff.1 hi').1
    exact ⟨_, List.getElem?_eq_getElem (by omega)⟩)
   refine ⟨x, hx1, ?_⟩
   rw [List.drop_zero, List.take_of_length_le (by omega)] at hx2
   exact hx2
  ·cases ho
theorem open_arg {b0 n : Nat} {t : TypeId} {ty : Ty} {v : Value} {d : DataW H} {ps : List MemPlace} (ho : opB P n t ty = true) (hv : Value.okWide P W .any b0 t v)
  (h : DataW.Trod enc P W 0 (fun _ => true) true t v d ps) : ∃ x : ty.T, ty.In x ∧ RA (full W) W (XV.d (ty.xv x)).a v := by
 obtain ⟨fuel, hf⟩ := h
 obtain ⟨x, h1, h2⟩ := Qh9 n fuel _ _ _ _ _ ho hf
 refine ⟨x, h1, .d _ _ ?_⟩
 show RD (fullγ W) W (ty.dv x) v
 cases hagg : ty.agg with
 | true =>
  rw [ty.dv_agg x hagg]
  have : ∃ fs, P.underlying t = some (.struct fs) := by
   cases n with
   | zero => simp [opB] at ho
   | succ n =>
    unfold opB at ho
    split at ho <;> simp_all [Ty.agg]
  obtain ⟨fs, hu⟩ := this
  obtain ⟨cs, rfl, _⟩ := WideShapes.okWide_struct hu hv
  simp only [Value.cells] at h2
  exact .agg _ _ (by simpa using h2.1) fun i c u hc hu => h2.2 i c u hc (by simpa using hu)
 | false =>
  rw [ty.dv_one x hagg] at h2
  have hv' : v.cells = #[v] := by
   have := h2.1
   cases v with
   | agg cs =>
    exfalso
    cases n with
    | zero => simp [opB] at ho
    | succ n =>
     unfold opB at ho
     split at ho
     ·rename_i hu; obtain ⟨_, e⟩ := WideShapes.okWide_int hu hv; cases e
     ·rename_i hu; obtain ⟨_, e⟩ := WideShapes.okWide_int hu hv; cases e
     ·rename_i hu; obtain ⟨_, e⟩ := WideShapes.okWide_bool hu hv; cases e
     ·rename_i hu; obtain ⟨_, e⟩ := WideShapes.okWide_string hu hv; cases e
     ·rename_i hu; obtain ⟨_, _, _, e⟩ := WideShapes.okWide_slice hu hv; cases e
     ·rw [hagg] at ho; simp at ho
     ·cases ho
   | _ => rfl
  rw [hv'] at h2
  exact h2.2 0 _ _ rfl rfl
end
end Go.Xl
