import Derived.Test.YtoangfbpdedofaaDoorZe
import Derived.Test.YtoangfbpdedofaaDoorZd
import Derived.OpenShut
import Derived.FnData
import Derived.LaidSub
/-
  Lists without neighbours that are the same.
-/
set_option linter.unusedVariables false
set_option linter.unusedSimpArgs false
namespace Go.Proofs.Xs
open Go Go.Xl Go.Ab Go.Proofs Go.Proofs.Xr Go.Sort

section
variable {α : Type} [DecidableEq α]

def compGo (p : α) : List α → List α
  | [] => []
  | y :: r => if y = p then compGo p r else y :: compGo y r

/-- each one once, of those that stand side by side -/
def comp : List α → List α
  | [] => []
  | x :: r => x :: compGo x r

theorem compGo_snoc (q y : α) : ∀ (p : α) (l : List α), (p :: l).getLast? = some q → compGo p (l ++ [y]) = if y = q then compGo p l else compGo p l ++ [y]
  | p, [], h => by
    simp at h
    subst h
    simp [compGo]
  | p, x :: r, h => by
    rw [List.getLast?_cons_cons] at h
    simp only [List.cons_append, compGo]
    have ih := compGo_snoc q y x r h
    by_cases hx : x = p
    · subst hx
      rw [if_pos rfl, if_pos rfl, ih]
    · rw [if_neg hx, if_neg hx, ih]
      by_cases hy : y = q
      · rw [if_pos hy, if_pos hy]
      · rw [if_neg hy, if_neg hy]; rfl

theorem comp_take_succ {l : List α} {m : Nat} (hm : 0 < m) {a b : α} (ha : l[m - 1]? = some a) (hb : l[m]? = some b) : comp (l.take (m + 1)) = if b = a then comp (l.take m) else comp (l.take m) ++ [b] := by
  have hlt : m < l.length := (List.getElem?_eq_some_iff.1 hb).1
  have e : l.take (m + 1) = l.take m ++ [b] := by
    rw [List.take_add_one, hb]; rfl
  rw [e]
  cases hl : l.take m with
  | nil => simp at hl; rcases hl with h | h <;> (subst h; simp at *)
  | cons x r =>
    have hlast : (x :: r).getLast? = some a := by
      rw [← hl, List.getLast?_eq_getElem?, List.length_take, List.getElem?_take, Nat.min_eq_left (by omega), if_pos (by omega)]; exact ha
    simp only [List.cons_append, comp]
    rw [compGo_snoc a b x r hlast]
    by_cases h : b = a
    · rw [if_pos h, if_pos h]
    · rw [if_neg h, if_neg h]

theorem comp_one (l : List α) : comp (l.take 1) = l.take 1 := by
  cases l with
  | nil => rfl
  | cons x r => simp [comp, compGo]
end

theorem dot_eq (e f : Int × Int) : (e.fst == f.fst && e.snd == f.snd) = decide (e = f) := by
  obtain ⟨a, b⟩ := e; obtain ⟨c, d⟩ := f
  by_cases h1 : a = c <;> by_cases h2 : b = d <;> simp [h1, h2]

end Go.Proofs.Xs

/-
  slices.Compact at dots.
-/
set_option linter.unusedVariables false
set_option linter.unusedSimpArgs false
namespace Go.Proofs.Xs
open Go Go.Xl Go.Ab Go.Proofs Go.Proofs.Xr Go.Sort

theorem getElem?_lt {α : Type} {l : List α} {i : Nat} (h : i < l.length) : l[i]? = some l[i] := List.getElem?_eq_getElem h

theorem toNat_nat (n : Nat) : ((n : Int)).toNat = n := rfl

/-- what Compact is said to do -/
def CompactQ (l : List (Int × Int)) (r : List (Int × Int) × Nat) : Prop := r.1.take r.2 = comp l ∧ r.2 ≤ r.1.length

theorem compact_eq (N : Nat) (l : List (Int × Int)) (hb : l.length < 4611686018427387904) (hN : l.length < N) : ∃ r, F_slices_Compact_sDot_Dot N l l.length = some r ∧ CompactQ l r := by
  unfold F_slices_Compact_sDot_Dot
  simp only [cond_eq_ite, dot_eq]
  by_cases h2 : ((l.length : Nat) : Int) < 2
  · rw [if_pos (by simpa using h2)]
    refine ⟨_, rfl, ?_, Nat.le_refl _⟩
    have : l = l.take 1 := by rw [List.take_of_length_le (by omega)]
    rw [List.take_length, this, comp_one]
  · rw [if_neg (by simpa using h2)]
    refine iter_ok (fun n z => ∃ k : Nat, z = (((k : Int), ()), (), (), l, ()) ∧ 1 ≤ k ∧ k ≤ l.length ∧ n = l.length - k ∧ comp (l.take k) = l.take k) ?_ N (l.length - 1) _ ⟨1, rfl, by omega, by omega, rfl, comp_one l⟩ (by omega)
    rintro n z rec ⟨k, rfl, k1, k2, hn, hc⟩ ih
    simp only
    by_cases hk : k < l.length
    · have e1 : IntKind.i64.wrap ((k : Int) - 1) = ((k - 1 : Nat) : Int) := i64_pred (by omega) (by omega)
      have e2 : IntKind.i64.wrap ((k : Int) + 1) = ((k + 1 : Nat) : Int) := i64_succ (by omega)
      simp only [e1, e2, toNat_nat, Nat.zero_add, getElem?_lt hk, getElem?_lt (show k - 1 < l.length by omega), Option.bind_some]
      rw [if_pos (by simp; omega), if_pos (by simp; omega), if_pos (by simp; omega)]
      have hstep := comp_take_succ (l := l) (m := k) (by omega) (getElem?_lt (show k - 1 < l.length by omega)) (getElem?_lt hk)
      by_cases he : l[k] = l[k - 1]
      · rw [if_pos (by simpa using he), if_pos (by simp [cutOk]; omega)]
        refine iter_ok (fun n z => ∃ (i q : Nat) (c : List (Int × Int)), z = (((i : Int), (q : Int), ()), (), (), c, ()) ∧ 1 ≤ q ∧ k + q ≤ l.length ∧ i + 1 ≤ k + q ∧ c.length = l.length ∧
          (∀ j, i ≤ j → c[j]? = l[j]?) ∧ c.take i = comp (l.take (k + q)) ∧ n = l.length - (k + q)) ?_ N (l.length - (k + 1)) _
          ⟨k, 1, l, rfl, by omega, by omega, by omega, rfl, fun _ _ => rfl, by rw [hstep, if_pos he, hc], rfl⟩ (by omega)
        rintro n z rec ⟨i, q, c, rfl, q1, q2, q3, hcl, hcj, hct, hn⟩ ih'
        simp only
        by_cases hq : k + q < l.length
        · have f1 : IntKind.i64.wrap ((q : Int) - 1) = ((q - 1 : Nat) : Int) := i64_pred (by omega) (by omega)
          have f2 : IntKind.i64.wrap ((q : Int) + 1) = ((q + 1 : Nat) : Int) := i64_succ (by omega)
          have f3 : IntKind.i64.wrap ((i : Int) + 1) = ((i + 1 : Nat) : Int) := i64_succ (by omega)
          have g1 : c[k + q]? = some l[k + q] := by rw [hcj _ (by omega), getElem?_lt hq]
          have g2 : c[k + (q - 1)]? = some l[k + (q - 1)] := by rw [hcj _ (by omega), getElem?_lt (by omega)]
          have g3 : c[i]? = some (c[i]'(by omega)) := getElem?_lt (by omega)
          simp only [f1, f2, f3, toNat_nat, Nat.zero_add, g1, g2, g3, Option.bind_some]
          rw [if_pos (by simp; omega), if_pos (by simp; omega), if_pos (by simp; omega)]
          have hs := comp_take_succ (l := l) (m := k + q) (a := l[k + (q - 1)]) (by omega) (by rw [show k + q - 1 = k + (q - 1) by omega]; exact getElem?_lt _) (getElem?_lt hq)
          by_cases hne : l[k + q] = l[k + (q - 1)]
          · rw [if_neg (by simpa using hne)]
            refine ih' (l.length - (k + (q + 1))) _ (by omega) ⟨i, q + 1, c, rfl, by omega, by omega, by omega, hcl, hcj, ?_, rfl⟩
            rw [hct, ← Nat.add_assoc, hs, if_pos hne]
          · rw [if_pos (by simpa using hne), if_pos (by simp; omega), if_pos (by simp; omega)]
            refine ih' (l.length - (k + (q + 1))) _ (by omega) ⟨i + 1, q + 1, c.set i l[k + q], rfl, by omega, by omega, by omega, by simpa using hcl, ?_, ?_, rfl⟩
            · intro j hj
              rw [List.getElem?_set_ne (by omega)]
              exact hcj j (by omega)
            · rw [← Nat.add_assoc, hs, if_neg hne, ← hct, List.take_add_one, List.take_set_of_le (Nat.le_refl _), List.getElem?_set_self (by omega)]; rfl
        · rw [if_neg (by simp; omega), if_pos (by simp [cutOk]; omega), if_pos (by simp [cutOk]; omega)]
          refine ⟨_, rfl, ?_, ?_⟩
          · have : k + q = l.length := by omega
            rw [this, List.take_length] at hct
            simp only [toNat_nat, Nat.zero_add, Nat.sub_zero, CompactQ]
            rw [← hct, List.take_take, Nat.min_self]
          · simp only [toNat_nat, Nat.sub_zero, Nat.zero_add, List.length_take]; omega
      · rw [if_neg (by simpa using he)]
        refine ih (l.length - (k + 1)) _ (by omega) ⟨k + 1, rfl, by omega, by omega, rfl, ?_⟩
        rw [hstep, if_neg he, hc, List.take_add_one, getElem?_lt hk]; rfl
    · rw [if_neg (by simp; omega)]
      refine ⟨_, rfl, ?_, Nat.le_refl _⟩
      have : k = l.length := by omega
      subst this
      rw [List.take_length] at hc ⊢
      exact hc.symm

end Go.Proofs.Xs

/-
  dot.Sort: in order, each once.
-/
set_option linter.unusedVariables false
set_option linter.unusedSimpArgs false
namespace Go.Proofs.Xs
open Go Go.Xl Go.Ab Go.Proofs Go.Proofs.Xr Go.Sort

/-- dots in order, each once -/
def sortDots (l : List (Int × Int)) : List (Int × Int) := comp (F_SortFunc_Dot l)

theorem sort_length (l : List (Int × Int)) : (F_SortFunc_Dot l).length = l.length := by simp [F_SortFunc_Dot]

theorem dotSort_eq (N : Nat) (l : List (Int × Int)) (hb : l.length * 16 ≤ 140737488355328) (hN : l.length < N) : F_dot_Sort N l = some (sortDots l) := by
  unfold F_dot_Sort
  cases l with
  | nil =>
    simp only [listCase, optCase, Option.bind_some, sortDots, F_SortFunc_Dot, List.mergeSort_nil, comp]
    rfl
  | cons x r =>
    have hlen : (x :: r).length < 4611686018427387904 := by omega
    have hfit : fitsB (x :: r).length 16 = true := by
      simp only [fitsB, Bool.and_eq_true, decide_eq_true_eq]
      omega
    generalize hl : x :: r = l at *
    have hs := sort_length l
    obtain ⟨q, hq, h1, h2⟩ := compact_eq N (F_SortFunc_Dot l) (by omega) (by omega)
    rw [hs] at hq
    have e : listCase l (some none) (fun (y : Int × Int) r => bif fitsB (y :: r).length 16 then some (some (y :: r, (y :: r).length)) else none) = some (some (l, l.length)) := by
      subst hl
      simp only [listCase, hfit, cond_true]
    rw [e]
    simp only [Option.bind_some, optCase, List.take_length, List.drop_length, List.append_nil, hq]
    have b1 : Nat.ble l.length l.length = true := by simp
    have b2 : Nat.ble l.length 4611686018427387903 = true := by simp only [Nat.ble_eq]; omega
    have b3 : Nat.ble (0 + q.2) q.1.length = true := by simp only [Nat.ble_eq]; omega
    simp only [b1, b2, b3, cond_true, List.drop_zero, h1]
    rfl

end Go.Proofs.Xs

/-
  EventTells: plain laws.
-/
set_option linter.unusedVariables false
set_option linter.unusedSimpArgs false
namespace Go.Proofs.Xs
open Go Go.Xl Go.Ab Go.Proofs Go.Proofs.Xr Go.Sort

theorem getl {α : Type} {l : List α} {i : Nat} (h : i < l.length) : l[i]? = some l[i] := List.getElem?_eq_getElem h

theorem dec_lt (a b : Nat) : decide ((a : Int) < (b : Int)) = decide (a < b) := by simp

theorem same_eq (N : Nat) (l m : List (Int × Int)) (hl : l.length < 9223372036854775807) (hN : l.length < N) : F_epitaphref07_Same N l m = some (decide (l = m)) := by
  unfold F_epitaphref07_Same
  by_cases hlen : l.length = m.length
  · have h0 : ((l.length : Int) != (m.length : Int)) = false := by simp [hlen]
    simp only [h0, cond_false]
    refine (scan_eq l.length (fun k => some (decide (l.drop k = m.drop k))) 0 ?_ ?_ N hN).trans rfl
    · intro rec k _ hk hr
      have hk' : k < m.length := by omega
      simp only [dec_lt, at?_nat, getl hk, getl hk', Option.bind_some, i64_succ (show k + 1 < 9223372036854775808 by omega), hr, decide_eq_true hk, cond_true, dot_eq]
      have e1 : l.drop k = l[k] :: l.drop (k + 1) := List.drop_eq_getElem_cons hk
      have e2 : m.drop k = m[k] :: m.drop (k + 1) := List.drop_eq_getElem_cons hk'
      rw [e1, e2]
      by_cases he : l[k] = m[k] <;> simp [-List.getElem_cons_drop, he]
    · intro rec k hk
      simp only [dec_lt, decide_eq_false (show ¬ k < l.length by omega), cond_false]
      rw [List.drop_eq_nil_of_le hk, List.drop_eq_nil_of_le (by omega)]; rfl
  · have h0 : ((l.length : Int) != (m.length : Int)) = true := by simp; omega
    have h1 : ¬ l = m := fun h => hlen (by rw [h])
    simp only [h0, cond_true, decide_eq_false h1]

end Go.Proofs.Xs

/-
  EventTells: lists that rise, dots of numbers.
-/
set_option linter.unusedVariables false
set_option linter.unusedSimpArgs false
namespace Go.Proofs.Xs
open Go Go.Xl Go.Ab Go.Proofs Go.Proofs.Xr Go.Sort

def rise : List (Int × Int) → Bool
  | [] => true
  | [_] => true
  | x :: y :: r => decide (cfDot x y < 0) && rise (y :: r)

theorem rise_short {l : List (Int × Int)} (h : l.length ≤ 1) : rise l = true := by
  match l with
  | [] => rfl
  | [_] => rfl
  | _ :: _ :: _ => simp at h

theorem rise_drop {l : List (Int × Int)} {k : Nat} (h0 : 0 < k) (hk : k < l.length) : rise (l.drop (k - 1)) = (decide (cfDot l[k - 1] l[k] < 0) && rise (l.drop k)) := by
  have e1 : l.drop (k - 1) = l[k - 1] :: l.drop (k - 1 + 1) := List.drop_eq_getElem_cons (by omega)
  have e2 : l.drop k = l[k] :: l.drop (k + 1) := List.drop_eq_getElem_cons hk
  rw [show k - 1 + 1 = k by omega] at e1
  rw [e1, e2, rise]

end Go.Proofs.Xs

/-
  Dots put one by one; the dots of events.
-/
set_option linter.unusedVariables false
set_option linter.unusedSimpArgs false
set_option maxRecDepth 100000
namespace Go.Proofs.Xs
open Go Go.Xl Go.Ab Go.Proofs Go.Proofs.Xr Go.Sort

def ltD (x y : Int × Int) : Bool := ltOf cfDot x y

theorem ltD_asymm (x y : Int × Int) (h : ltD x y = true) : ltD y x = false := by
  unfold ltD at *
  rw [dot_lt] at *
  simp at *; omega
theorem ltD_trans {x y z : Int × Int} (h : ltD x y = true) (h' : ltD y z = true) : ltD x z = true := by
  unfold ltD at *
  rw [dot_lt] at *
  simp at *; omega
theorem ltD_total (x y : Int × Int) (h1 : ltD x y = false) (h2 : ltD y x = false) : x = y := dot_total x y h1 h2
theorem gtD (x y : Int × Int) : decide (0 < cfDot x y) = ltD y x := by
  unfold ltD
  rw [dot_lt, Bool.eq_iff_iff]
  unfold cfDot
  simp only [decide_eq_true_eq]
  grind
theorem ltD_def (x y : Int × Int) : decide (cfDot x y < 0) = ltD x y := rfl

/-- a dot more -/
def putF (d : Int × Int) (l : List (Int × Int)) : List (Int × Int) := l.filter (fun x => ltD x d) ++ [d] ++ l.filter (fun x => ltD d x)

theorem putF_length (d : Int × Int) (l : List (Int × Int)) : (putF d l).length ≤ l.length + 1 := by
  unfold putF
  have : ∀ l : List (Int × Int), (l.filter (fun x => ltD x d)).length + (l.filter (fun x => ltD d x)).length ≤ l.length := by
    intro l
    induction l with
    | nil => simp
    | cons x r ih =>
      simp only [List.filter_cons]
      cases h1 : ltD x d with
      | true => rw [ltD_asymm _ _ h1]; simp; omega
      | false => cases ltD d x <;> simp <;> omega
  have := this l
  simp; omega

theorem putF_mem (d x : Int × Int) (l : List (Int × Int)) : x ∈ putF d l ↔ x = d ∨ x ∈ l := by
  unfold putF
  simp only [List.mem_append, List.mem_filter, List.mem_singleton]
  constructor
  · rintro ((⟨h, _⟩ | h) | ⟨h, _⟩)
    · exact .inr h
    · exact .inl h
    · exact .inr h
  · rintro (h | h)
    · exact .inl (.inr h)
    · cases h1 : ltD x d with
      | true => exact .inl (.inl ⟨h, rfl⟩)
      | false =>
        cases h2 : ltD d x with
        | true => exact .inr ⟨h, rfl⟩
        | false => exact .inl (.inr (ltD_total _ _ h1 h2))

theorem putF_asc (d : Int × Int) (l : List (Int × Int)) (h : SAsc ltD l) : SAsc ltD (putF d l) := by
  unfold putF SAsc
  rw [List.append_assoc, List.pairwise_append, List.singleton_append, List.pairwise_cons]
  refine ⟨List.Pairwise.filter _ h, ⟨fun y hy => (List.mem_filter.1 hy).2, List.Pairwise.filter _ h⟩, ?_⟩
  intro a ha b hb
  have h1 := (List.mem_filter.1 ha).2
  rcases List.mem_cons.1 hb with rfl | hb
  · exact h1
  · exact ltD_trans h1 (List.mem_filter.1 hb).2

/-- dots put one by one -/
def putsF (l : List (Int × Int)) : List (Int × Int) := l.foldl (fun q d => putF d q) []

theorem putsF_facts : ∀ (l q : List (Int × Int)), SAsc ltD q → SAsc ltD (l.foldl (fun q d => putF d q) q) ∧ (∀ x, x ∈ l.foldl (fun q d => putF d q) q ↔ x ∈ q ∨ x ∈ l) ∧ (l.foldl (fun q d => putF d q) q).length ≤ q.length + l.length
  | [], q, h => ⟨h, by simp, by simp⟩
  | d :: r, q, h => by
    obtain ⟨h1, h2, h3⟩ := putsF_facts r (putF d q) (putF_asc d q h)
    refine ⟨h1, fun x => ?_, ?_⟩
    · rw [List.foldl_cons, h2, putF_mem]; simp; constructor <;> rintro (h | h) <;> grind
    · rw [List.foldl_cons]
      have := putF_length d q
      simp; omega

theorem compGo_mem {p x : Int × Int} : ∀ {l : List (Int × Int)}, (x = p ∨ x ∈ compGo p l) ↔ (x = p ∨ x ∈ l)
  | [] => by simp [compGo]
  | y :: r => by
    simp only [compGo]
    by_cases hy : y = p
    · subst hy
      rw [if_pos rfl, compGo_mem (l := r)]; simp
    · rw [if_neg hy]
      have := compGo_mem (p := y) (x := x) (l := r)
      simp only [List.mem_cons]
      rw [this]

theorem compGo_asc : ∀ (p : Int × Int) (l : List (Int × Int)), (p :: l).Pairwise (fun a b => ltD b a = false) → SAsc ltD (p :: compGo p l)
  | p, [], h => by simp [compGo, SAsc]
  | p, y :: r, h => by
    have h' := h
    simp only [List.pairwise_cons, List.mem_cons] at h'
    simp only [compGo]
    by_cases hy : y = p
    · subst hy
      rw [if_pos rfl]
      exact compGo_asc y r (by simp only [List.pairwise_cons]; exact ⟨fun a ha => h'.1 a (.inr ha), h'.2.2⟩)
    · rw [if_neg hy]
      have ih := compGo_asc y r (by simp only [List.pairwise_cons]; exact h'.2)
      have hpy : ltD p y = true := by
        cases hh : ltD p y with
        | true => rfl
        | false => exact absurd (ltD_total _ _ (h'.1 y (.inl rfl)) hh) hy
      unfold SAsc at *
      rw [List.pairwise_cons]
      refine ⟨fun a ha => ?_, ih⟩
      rcases List.mem_cons.1 ha with rfl | ha
      · exact hpy
      · exact ltD_trans hpy ((List.pairwise_cons.1 ih).1 a ha)

theorem sortDots_facts (l : List (Int × Int)) : SAsc ltD (sortDots l) ∧ ∀ x, x ∈ sortDots l ↔ x ∈ l := by
  have hp : (F_SortFunc_Dot l).Pairwise (fun a b => ltD b a = false) := by
    have := List.pairwise_mergeSort (le := fun x y => !(ltOf cfDot) y x) (by
      intro a b c h1 h2
      simp only [Bool.not_eq_true'] at *
      exact dot_swo.ntrans _ _ _ h2 h1) (by
      intro a b
      cases h : ltOf cfDot b a with
      | false => simp [h]
      | true => simp [h, ltD_asymm b a h] ; exact ltD_asymm b a h) l
    refine this.imp ?_
    intro a b h
    simpa [ltD] using h
  have hm : ∀ x, x ∈ F_SortFunc_Dot l ↔ x ∈ l := fun x => by simp [F_SortFunc_Dot]
  unfold sortDots
  cases hs : F_SortFunc_Dot l with
  | nil =>
    rw [hs] at hm
    exact ⟨by simp [comp, SAsc], by simpa [comp] using hm⟩
  | cons p r =>
    rw [hs] at hm hp
    refine ⟨compGo_asc p r hp, fun x => ?_⟩
    simp only [comp, List.mem_cons]
    rw [compGo_mem, ← hm x, List.mem_cons]

theorem sortDots_puts (l : List (Int × Int)) : sortDots l = putsF l := by
  obtain ⟨h1, h2⟩ := sortDots_facts l
  obtain ⟨h3, h4, _⟩ := putsF_facts l [] (by simp [SAsc])
  exact SAsc.ext ltD_asymm h1 h3 fun x => by rw [h2, putsF, h4]; simp

end Go.Proofs.Xs
/-
  A row's arguments, opened: values of any code.
-/
set_option linter.unusedVariables false
set_option linter.unusedSimpArgs false
namespace Go.Xl
open Go.Ab

/-- what the integers of a value are, and how long its lists -/
def Ty.In : (t : Ty) → t.T → Prop
  | .int k, n => (Lit.int k n).wf = true
  | .u8, _ => True
  | .bool, _ => True
  | .str, l => l.length ≤ maxLen
  | .sl a, l => l.length ≤ maxLen ∧ ∀ x ∈ l, a.In x
  | .unit, _ => True
  | .pair a b, x => a.In x.1 ∧ b.In x.2
  | .st1 a, x => a.In x
  | .tab _, _ => True
  | .err, _ => True
  | .ic _ _, _ => True
  | .ptr, _ => True

/-- the code of a struct's fields, from the cell off on -/
def opFs (P : Program) (rec : TypeId → Ty → Bool) : Nat → List Field → Ty → Bool
  | off, [f], .st1 a => cond (Nat.beq f.offset off) (cond (Nat.beq (P.cellsOf f.type) a.size) (rec f.type a) false) false
  | off, [f, g], .pair a b => cond (Nat.beq f.offset off) (cond (Nat.beq (P.cellsOf f.type) a.size) (cond (rec f.type a) (cond (Nat.beq g.offset (off + a.size)) (cond (Nat.beq (P.cellsOf g.type) b.size) (rec g.type b) false) false) false) false) false
  | off, f :: g :: h :: r, .pair a b => cond (Nat.beq f.offset off) (cond (Nat.beq (P.cellsOf f.type) a.size) (cond (rec f.type a) (opFs P rec (off + a.size) (g :: h :: r) b) false) false) false
  | _, _, _ => false

/-- the code of a type, with the layout that a row's reading asks for -/
def opB (P : Program) : Nat → TypeId → Ty → Bool
  | 0, _, _ => false
  | n + 1, t, ty =>
    match P.underlying t, ty with
    | some (.int k), .int k' => cond (kindB k k') true false
    | some (.int .u8), .u8 => true
    | some .bool, .bool => true
    | some .string, .str => true
    | some (.slice e), .sl a => cond (Nat.beq (P.cellsOf e) a.size) (cond (Nat.ble 1 a.size) (opB P n e a) false) false
    | some (.struct fs), a => cond a.agg (cond (Nat.beq (P.cellsOf t) a.size) (opFs P (opB P n) 0 fs.toList a) false) false
    | _, _ => false

/-- cells that hold a value -/
def CellsD (γ : Nat → Nat) (w : World) (ds : List D) (cs : List Value) : Prop := ds.length = cs.length ∧ ∀ (i : Nat) d v, ds[i]? = some d → cs[i]? = some v → RD γ w d v

theorem CellsD.one {γ : Nat → Nat} {w : World} {d : D} {v : Value} (h : RD γ w d v) : CellsD γ w [d] [v] := by
  refine ⟨rfl, fun i e u he hu => ?_⟩
  cases i with
  | zero => simp at he hu; subst he; subst hu; exact h
  | succ i => simp at he

theorem CellsD.append {γ : Nat → Nat} {w : World} {a b : List D} {cs ds : List Value} (h : CellsD γ w a cs) (h' : CellsD γ w b ds) : CellsD γ w (a ++ b) (cs ++ ds) := by
  refine ⟨by simp [h.1, h'.1], fun i e u he hu => ?_⟩
  rw [List.getElem?_append] at he hu
  rw [← h.1] at hu
  split at he
  · rename_i hlt
    rw [if_pos hlt] at hu
    exact h.2 i e u he hu
  · rename_i hge
    rw [if_neg hge] at hu
    exact h'.2 _ e u he hu

theorem cT {a b : Bool} (h : cond a b false = true) : a = true ∧ b = true := by
  cases a <;> simp at h; exact ⟨rfl, h⟩

section
variable {H : Type} {enc : TypeId × Value → H} {P : Program} {W : World}

/-- what is asked of the types inside -/
def OpR (P : Program) (W : World) (H : Type) (enc : TypeId × Value → H) (fuel : Nat) (rec : TypeId → Ty → Bool) : Prop :=
  ∀ (t : TypeId) (ty : Ty) (cs : List Value) (d : DataW H) (ps : List MemPlace), rec t ty = true → DataW.trod enc P W 0 (fun _ => true) true fuel t cs = some (d, ps) →
    ∃ x : ty.T, ty.In x ∧ CellsD (fullγ W) W (ty.ds x) cs

theorem take_split {α : Type} (l : List α) (off a b : Nat) : (l.drop off).take (a + b) = (l.drop off).take a ++ (l.drop (off + a)).take b := by
  rw [List.take_add, List.drop_drop]

theorem open_fs {fuel : Nat} {rec : TypeId → Ty → Bool} (hr : OpR P W H enc fuel rec) {cs : List Value} : ∀ (fs : List Field) (off : Nat) (ty : Ty), opFs P rec off fs ty = true →
    (∀ f ∈ fs, ∃ y, DataW.trod enc P W 0 (fun _ => true) true fuel f.type ((cs.drop f.offset).take (P.cellsOf f.type)) = some y) →
    ∃ x : ty.T, ty.In x ∧ CellsD (fullγ W) W (ty.ds x) ((cs.drop off).take ty.size)
  | [], off, ty, h, hf => by cases ty <;> simp [opFs] at h
  | [f], off, ty, h, hf => by
    cases ty with
    | st1 a =>
      simp only [opFs] at h
      obtain ⟨h1, h⟩ := cT h
      obtain ⟨h2, h⟩ := cT h
      have h1 := Nat.eq_of_beq_eq_true h1
      have h2 := Nat.eq_of_beq_eq_true h2
      obtain ⟨y, hy⟩ := hf f (by simp)
      rw [h1, h2] at hy
      exact hr f.type a _ _ _ h hy
    | _ => simp [opFs] at h
  | [f, g], off, ty, h, hf => by
    cases ty with
    | pair a b =>
      simp only [opFs] at h
      obtain ⟨h1, h⟩ := cT h
      obtain ⟨h2, h⟩ := cT h
      obtain ⟨h3, h⟩ := cT h
      obtain ⟨h4, h⟩ := cT h
      obtain ⟨h5, h⟩ := cT h
      have h1 := Nat.eq_of_beq_eq_true h1
      have h2 := Nat.eq_of_beq_eq_true h2
      have h4 := Nat.eq_of_beq_eq_true h4
      have h5 := Nat.eq_of_beq_eq_true h5
      obtain ⟨y, hy⟩ := hf f (by simp)
      obtain ⟨z, hz⟩ := hf g (by simp)
      rw [h1, h2] at hy
      rw [h4, h5] at hz
      obtain ⟨x1, i1, c1⟩ := hr _ _ _ _ _ h3 hy
      obtain ⟨x2, i2, c2⟩ := hr _ _ _ _ _ h hz
      refine ⟨(x1, x2), ⟨i1, i2⟩, ?_⟩
      simp only [Ty.ds, Ty.size]
      rw [take_split]
      exact c1.append c2
    | _ => simp [opFs] at h
  | f :: g :: k :: r, off, ty, h, hf => by
    cases ty with
    | pair a b =>
      simp only [opFs] at h
      obtain ⟨h1, h⟩ := cT h
      obtain ⟨h2, h⟩ := cT h
      obtain ⟨h3, h⟩ := cT h
      have h1 := Nat.eq_of_beq_eq_true h1
      have h2 := Nat.eq_of_beq_eq_true h2
      obtain ⟨y, hy⟩ := hf f (by simp)
      rw [h1, h2] at hy
      obtain ⟨x1, i1, c1⟩ := hr _ _ _ _ _ h3 hy
      obtain ⟨x2, i2, c2⟩ := open_fs hr (g :: k :: r) (off + a.size) b h (fun q hq => hf q (List.mem_cons_of_mem _ hq))
      refine ⟨(x1, x2), ⟨i1, i2⟩, ?_⟩
      simp only [Ty.ds, Ty.size]
      rw [take_split]
      exact c1.append c2
    | _ => simp [opFs] at h

theorem choose_list {α β : Type} (p : Nat → β → α → Prop) : ∀ (l : List β), (∀ i y, l[i]? = some y → ∃ x, p i y x) → ∃ xs : List α, xs.length = l.length ∧ ∀ i y x, l[i]? = some y → xs[i]? = some x → p i y x := by
  intro l
  induction l generalizing p with
  | nil => intro _; exact ⟨[], rfl, by simp⟩
  | cons a r ih =>
    intro h
    obtain ⟨x, hx⟩ := h 0 a rfl
    obtain ⟨xs, h1, h2⟩ := ih (fun i => p (i + 1)) (fun i y hy => h (i + 1) y (by simpa using hy))
    refine ⟨x :: xs, by simp [h1], fun i y z hy hz => ?_⟩
    cases i with
    | zero => simp at hy hz; subst hy; subst hz; exact hx
    | succ i => exact h2 i y z (by simpa using hy) (by simpa using hz)

theorem open_cells : ∀ (n fuel : Nat), OpR P W H enc fuel (opB P n)
  | 0, fuel => by intro t ty cs d ps ho; simp [opB] at ho
  | n + 1, fuel => by
    intro t ty cs d ps ho h
    unfold opB at ho
    split at ho
    · rename_i k k' hu
      obtain ⟨hk, _⟩ := cT ho
      have := kindB_eq hk
      subst this
      obtain ⟨m, rfl, _, hw⟩ := DataW.trod_int hu h
      exact ⟨m, hw, .one (.sc _)⟩
    · rename_i hu
      obtain ⟨m, rfl, _, hw⟩ := DataW.trod_int hu h
      have hm : 0 ≤ m ∧ m ≤ 255 := by simpa [Lit.wf, IntKind.wrap, IntKind.bits, IntKind.signed, IntKind.min, IntKind.max] using hw
      refine ⟨UInt8.ofNat m.toNat, trivial, .one ?_⟩
      have : (((UInt8.ofNat m.toNat).toNat : Nat) : Int) = m := by
        rw [UInt8.toNat_ofNat']; omega
      rw [this]
      exact .sc _
    · rename_i hu
      obtain ⟨b, rfl, _⟩ := DataW.trod_bool hu h
      exact ⟨b, trivial, .one (.sc _)⟩
    · rename_i hu
      obtain ⟨s, rfl, _, hw⟩ := DataW.trod_string hu h
      exact ⟨s.data.toList, by simpa [Ty.In] using hw, .one (.sc _)⟩
    · rename_i e a hu
      obtain ⟨h1, ho⟩ := cT ho
      obtain ⟨h2, ho⟩ := cT ho
      have h1 := Nat.eq_of_beq_eq_true h1
      have h2 := Nat.le_of_ble_eq_true h2
      rcases DataW.trod_slice hu h with ⟨rfl, _⟩ | ⟨ad, len, cap, elems, rest, m, rfl, rfl, _, hb, hl, hc, hel, hcell, _, _⟩
      · exact ⟨[], ⟨by simp, by simp⟩, .one (.nil _ _ _ fun _ => rfl)⟩
      · have key : ∀ i y, (List.range len)[i]? = some y → ∃ x : a.T, a.In x ∧ ∃ cs', cs'.length = a.size ∧ CellsD (fullγ W) W (a.ds x) cs' ∧ ∀ j, j < a.size → W.cell? ((ad.add (i * a.size)).add j) = cs'[j]? := by
          intro i y hi
          have hlt : i < len := by have := (List.getElem?_eq_some_iff.1 hi).1; simpa using this
          have hc := hcell i hlt
          obtain ⟨z, hz⟩ : ∃ z, elems[i]? = some z := ⟨_, List.getElem?_eq_getElem (by omega)⟩
          rw [hz, Option.bind_eq_some_iff, h1] at hc
          obtain ⟨cs', hc1, hc2⟩ := hc
          obtain ⟨_, hcl, hcc⟩ := World.cells?_some hc1
          obtain ⟨x, hx1, hx2⟩ := open_cells n m _ _ _ _ _ ho hc2
          exact ⟨x, hx1, cs', hcl, hx2, hcc⟩
        obtain ⟨xs, hxl, hx⟩ := choose_list _ _ key
        rw [List.length_range] at hxl
        have hxs : ∀ i x, xs[i]? = some x → a.In x ∧ ∃ cs', cs'.length = a.size ∧ CellsD (fullγ W) W (a.ds x) cs' ∧ ∀ j, j < a.size → W.cell? ((ad.add (i * a.size)).add j) = cs'[j]? := by
          intro i x hi
          have hlt : i < len := by have := (List.getElem?_eq_some_iff.1 hi).1; omega
          exact hx i i x (by simp [hlt]) hi
        refine ⟨xs, ⟨by omega, fun x hm => ?_⟩, .one ?_⟩
        · obtain ⟨i, hi⟩ := List.mem_iff_getElem?.1 hm
          exact (hxs i x hi).1
        · rcases Nat.eq_zero_or_pos len with h0 | h0
          · have : xs = [] := List.eq_nil_of_length_eq_zero (by omega)
            subst this
            subst h0
            exact .nil _ (some ad) cap (by simp)
          · have spot : ad.spot = none := by
              obtain ⟨x0, hx0⟩ : ∃ z, xs[0]? = some z := ⟨_, List.getElem?_eq_getElem (by omega)⟩
              obtain ⟨_, cs', hl', _, hc'⟩ := hxs 0 x0 hx0
              have := hc' 0 (by omega)
              rw [List.getElem?_eq_getElem (by omega)] at this
              have := World.cell?_spot this
              simpa [Addr.add] using this
            obtain ⟨b, off, sp⟩ := ad
            simp only at spot
            subst spot
            have hcell' : ∀ i x, xs[i]? = some x → ∃ cs', cs'.length = a.size ∧ CellsD (fullγ W) W (a.ds x) cs' ∧ ∀ j, j < a.size → W.cell? ⟨b, off + (i * a.size + j), none⟩ = cs'[j]? := by
              intro i x hi
              obtain ⟨_, cs', hl', hd', hc'⟩ := hxs i x hi
              refine ⟨cs', hl', hd', fun j hj => ?_⟩
              have := hc' j hj
              rwa [WideShapes.add_plain, WideShapes.add_plain, Nat.add_assoc] at this
            refine .ofCells' (by simp [hxl]) ?_ hl ?_ ?_
            · obtain ⟨x, hx⟩ : ∃ z, xs[len - 1]? = some z := ⟨_, List.getElem?_eq_getElem (by omega)⟩
              obtain ⟨cs', hl', _, hc'⟩ := hcell' (len - 1) x hx
              have := hc' (a.size - 1) (by omega)
              rw [List.getElem?_eq_getElem (by omega)] at this
              have := fullγ_cell this
              have e : len * a.size = (len - 1) * a.size + a.size := by
                rw [← Nat.succ_mul]; congr 1; omega
              show off + len * a.size ≤ fullγ W b
              omega
            · intro i cs hi
              rw [List.getElem?_map, Option.map_eq_some_iff] at hi
              obtain ⟨x, _, rfl⟩ := hi
              exact a.ds_length x
            · intro i j cs c u hi hj hu
              rw [List.getElem?_map, Option.map_eq_some_iff] at hi
              obtain ⟨x, hx, rfl⟩ := hi
              obtain ⟨cs', hl', hd', hc'⟩ := hcell' i x hx
              have hjl : j < a.size := by have := (List.getElem?_eq_some_iff.1 hj).1; rwa [a.ds_length] at this
              rw [hc' j hjl] at hu
              exact hd'.2 j c u hj hu
    · rename_i fs hu
      obtain ⟨_, ho⟩ := cT ho
      obtain ⟨h2, ho⟩ := cT ho
      have h2 := Nat.eq_of_beq_eq_true h2
      obtain ⟨xs, m, rfl, _, hl, hxl, hall⟩ := DataW.trod_struct hu h
      obtain ⟨x, hx1, hx2⟩ := open_fs (open_cells n m) (cs := cs) fs.toList 0 _ ho (by
        intro f hf
        obtain ⟨i, hi⟩ := List.mem_iff_getElem?.1 hf
        have hi' : fs[i]? = some f := by simpa using hi
        have := hall i f hi'
        rw [this]
        have hlt := (Array.getElem?_eq_some_iff.1 hi').1
        exact ⟨_, List.getElem?_eq_getElem (by omega)⟩)
      refine ⟨x, hx1, ?_⟩
      rw [List.drop_zero, List.take_of_length_le (by omega)] at hx2
      exact hx2
    · cases ho

/-- an argument, opened -/
theorem open_arg {b0 n : Nat} {t : TypeId} {ty : Ty} {v : Value} {d : DataW H} {ps : List MemPlace} (ho : opB P n t ty = true) (hv : Value.okWide P W .any b0 t v)
    (h : DataW.Trod enc P W 0 (fun _ => true) true t v d ps) : ∃ x : ty.T, ty.In x ∧ RA (full W) W (XV.d (ty.xv x)).a v := by
  obtain ⟨fuel, hf⟩ := h
  obtain ⟨x, h1, h2⟩ := open_cells n fuel _ _ _ _ _ ho hf
  refine ⟨x, h1, .d _ _ ?_⟩
  show RD (fullγ W) W (ty.dv x) v
  cases hagg : ty.agg with
  | true =>
    rw [ty.dv_agg x hagg]
    have : ∃ fs, P.underlying t = some (.struct fs) := by
      cases n with
      | zero => simp [opB] at ho
      | succ n =>
        unfold opB at ho
        split at ho <;> simp_all [Ty.agg]
    obtain ⟨fs, hu⟩ := this
    obtain ⟨cs, rfl, _⟩ := WideShapes.okWide_struct hu hv
    simp only [Value.cells] at h2
    exact .agg _ _ (by simpa using h2.1) fun i c u hc hu => h2.2 i c u hc (by simpa using hu)
  | false =>
    rw [ty.dv_one x hagg] at h2
    have hv' : v.cells = #[v] := by
      have := h2.1
      cases v with
      | agg cs =>
        exfalso
        cases n with
        | zero => simp [opB] at ho
        | succ n =>
          unfold opB at ho
          split at ho
          · rename_i hu; obtain ⟨_, e⟩ := WideShapes.okWide_int hu hv; cases e
          · rename_i hu; obtain ⟨_, e⟩ := WideShapes.okWide_int hu hv; cases e
          · rename_i hu; obtain ⟨_, e⟩ := WideShapes.okWide_bool hu hv; cases e
          · rename_i hu; obtain ⟨_, e⟩ := WideShapes.okWide_string hu hv; cases e
          · rename_i hu; obtain ⟨_, _, _, e⟩ := WideShapes.okWide_slice hu hv; cases e
          · rw [hagg] at ho; simp at ho
          · cases ho
      | _ => rfl
    rw [hv'] at h2
    exact h2.2 0 _ _ rfl rfl
end

/-- an argument that is a text, opened, with what it reads as -/
theorem open_str {H : Type} {enc : TypeId × Value → H} {P : Program} {W : World} {b0 : Nat} {t : TypeId} {v : Value} {d : DataW H} {ps : List MemPlace} (ht : P.underlying t = some .string) (hv : Value.okWide P W .any b0 t v)
    (h : DataW.Trod enc P W 0 (fun _ => true) true t v d ps) : ∃ x : List UInt8, Ty.str.In x ∧ RA (full W) W (XV.d (Ty.str.xv x)).a v ∧ d = .lit (.string x) := by
  obtain ⟨fuel, hf⟩ := h
  obtain ⟨s, h1, h2, hw⟩ := DataW.trod_string ht hf
  obtain ⟨u, rfl⟩ := WideShapes.okWide_string ht hv
  have hv1 : u = s := by simpa [Value.cells] using h1
  subst hv1
  exact ⟨u.data.toList, by simpa [Ty.In] using hw, .d _ _ (.sc _), (Prod.mk.inj h2).1⟩

end Go.Xl
/-
  Dots: their numbers, their texts.
-/
set_option linter.unusedVariables false
set_option linter.unusedSimpArgs false
set_option maxRecDepth 100000
namespace Go.Proofs.Xs
open Go Go.Xl Go.Ab Go.Proofs Go.Proofs.Xr

theorem wf_u64 {x : Int} (h : (Lit.int .u64 x).wf = true) : ∃ n : Nat, x = (n : Int) ∧ n < 18446744073709551616 := by
  have : 0 ≤ x ∧ x ≤ 18446744073709551615 := by simpa [Lit.wf, IntKind.wrap, IntKind.bits, IntKind.signed, IntKind.min, IntKind.max] using h
  exact ⟨x.toNat, by omega, by omega⟩
theorem wf_u16 {x : Int} (h : (Lit.int .u16 x).wf = true) : ∃ n : Nat, x = (n : Int) ∧ n < 65536 := by
  have : 0 ≤ x ∧ x ≤ 65535 := by simpa [Lit.wf, IntKind.wrap, IntKind.bits, IntKind.signed, IntKind.min, IntKind.max] using h
  exact ⟨x.toNat, by omega, by omega⟩

theorem and48 (x : Nat) : x &&& 281474976710655 = x % 281474976710656 := Nat.and_two_pow_sub_one_eq_mod x 48

theorem split_eq (N v : Nat) (hv : v < 18446744073709551616) : F_shift_Split N (v : Int) = some (((v / 281474976710656 : Nat) : Int), ((v % 281474976710656 : Nat) : Int)) := by
  unfold F_shift_Split
  rw [show (281474976710655 : Int) = ((281474976710655 : Nat) : Int) from rfl, bits_and_u64_nat v _ hv (by decide), and48, show ((v : Nat) : Int).fdiv 281474976710656 = ((v / 281474976710656 : Nat) : Int) from fd v 281474976710656,
    IntWalk.u16_in _ (by omega)]

theorem good_eq (N : Nat) (d : Int × Int) : F_dot_Good N d = F_epitaphref07_Good N d := by
  unfold F_dot_Good F_epitaphref07_Good
  have e1 : decide (0 < d.1) = decide (1 ≤ d.1) := by rw [decide_eq_decide]; omega
  have e2 : decide (0 < d.2) = decide (1 ≤ d.2) := by rw [decide_eq_decide]; omega
  have e3 : decide (d.2 ≤ 281474976710655) = decide (d.2 < 281474976710656) := by rw [decide_eq_decide]; omega
  simp only [e1, e2, e3]

theorem good_some (N : Nat) (d : Int × Int) : F_epitaphref07_Good N d = some (decide (1 ≤ d.1) && decide (1 ≤ d.2) && decide (d.2 < 281474976710656)) := by
  unfold F_epitaphref07_Good
  cases decide (1 ≤ d.1) <;> cases decide (1 ≤ d.2) <;> rfl

/-- a dot's text -/
noncomputable def dotText (a n : Nat) : List UInt8 := dec a ++ [46] ++ dec n

theorem text_eq (N a n : Nat) (hN : 30 ≤ N) (ha : a < 65536) (hn : n < 18446744073709551616) : F_dot_Text N ((a : Int), (n : Int)) tab0 = some (dotText a n) := by
  unfold F_dot_Text
  have h1 := dec_len a (by omega)
  have h2 := dec_len n hn
  simp only
  rw [u64n (show a < 18446744073709551616 by omega), format_eq N a (by omega) hN, Option.bind_some, decide_eq_true (by omega), cond_true, format_eq N n hn hN, Option.bind_some, decide_eq_true (by simp; omega), cond_true]
  rfl

theorem dotText_ex : dotText 3 17 = [51, 46, 49, 55] := by decide +kernel

theorem works_tab (N : Nat) (hN : 30 ≤ N) : F_epitaphlaw07_works N tab0 = some true := by
  unfold F_epitaphlaw07_works
  have := text_eq N 3 17 hN (by decide) (by decide)
  rw [show F_dot_Text N (3, 17) tab0 = some (dotText 3 17) from this, dotText_ex]
  have e1 : sortDots [(2, 1), (1, 9), (2, 1)] = [(1, 9), (2, 1)] := by rw [sortDots_puts]; decide
  rw [dotSort_eq N _ (by decide) (by simp; omega), e1]
  simp only [Option.bind_some]
  rw [same_eq N _ _ (by decide) (by simp; omega)]
  rfl

theorem bindS {α β : Type} {x : Option α} {y : α} {f : α → Option β} (h : x = some y) : Option.bind x f = f y := by rw [h]; rfl
theorem condT {α : Type} {b : Bool} {x y : α} (h : b = true) : (bif b then x else y) = x := by rw [h]; rfl

end Go.Proofs.Xs
/-
  Numbers read from text: strconv.ParseUint at base 10.
-/
set_option linter.unusedVariables false
set_option linter.unusedSimpArgs false
set_option maxRecDepth 100000
namespace Go.Proofs.Xs
open Go Go.Xl Go.Ab Go.Proofs Go.Proofs.Xr

/-- digits read, up to a bound -/
def pu (M : Nat) : Nat → List UInt8 → Int × Option Int
  | n, [] => ((n : Int), none)
  | n, c :: r => if 48 ≤ c.toNat ∧ c.toNat ≤ 57 then (if n * 10 + (c.toNat - 48) ≤ M then pu M (n * 10 + (c.toNat - 48)) r else ((M : Int), some 1)) else (0, some 2)

theorem u8all {p : UInt8 → Prop} (h : ∀ k < 256, p (UInt8.ofNat k)) (c : UInt8) : p c := by
  have := h c.toNat c.toNat_lt
  rwa [UInt8.ofNat_toNat] at this

theorem letter : ∀ y : UInt8, decide (97 ≤ y) = true → decide (y ≤ 122) = true → decide ((10 : UInt8) ≤ y - 97 + 10) = true := u8all (by decide +kernel)
theorem digit : ∀ c : UInt8, 48 ≤ c.toNat ∧ c.toNat ≤ 57 → (c == 95) = false ∧ decide (48 ≤ c) = true ∧ decide (c ≤ 57) = true ∧ decide ((10 : UInt8) ≤ c - 48) = false ∧ ((c - 48).toNat : Nat) = c.toNat - 48 := u8all (by decide +kernel)
theorem nodigit : ∀ c : UInt8, ¬ (48 ≤ c.toNat ∧ c.toNat ≤ 57) → (decide (48 ≤ c) = false ∨ decide (c ≤ 57) = false) := u8all (by decide +kernel)
theorem ten8 : toU8 (IntKind.u8.wrap 10) = 10 := by decide

theorem lower_eq (N : Nat) (c : UInt8) : ∃ y, F_internal_strconv_lower N c = some y := ⟨_, rfl⟩

theorem u64w {x : Int} (h0 : 0 ≤ x) (h : x < 18446744073709551616) : IntKind.u64.wrap x = x := IntWalk.u64_in _ (by omega)

theorem intParse_eq (N M : Nat) (s : List UInt8) (bs : Int) (hl : s.length < 9223372036854775807) (hN : s.length < N) (hM : M ≤ 281474976710655) (h0 : (bs == 0) = false) (h1 : decide (bs < 0) = false) (h2 : decide (64 < bs) = false)
    (h3 : decide (0 ≤ IntKind.u64.wrap bs) = true) (hb : IntKind.u64.wrap (IntKind.u64.wrap (1 * 2 ^ min (IntKind.u64.wrap bs).toNat 64) - 1) = (M : Int)) :
    F_internal_strconv_ParseUint N s 10 bs = some (if s = [] then (0, some 2) else pu M 0 s) := by
  unfold F_internal_strconv_ParseUint
  by_cases hs : s = []
  · subst hs; rfl
  rw [if_neg hs]
  have hs' : (s == []) = false := by simpa using hs
  have t1 : decide ((2 : Int) ≤ 10) = true := rfl
  have t2 : decide ((10 : Int) ≤ 36) = true := rfl
  have t3 : ((10 : Int) == 10) = true := rfl
  have t4 : ((10 : Int) == 0) = false := rfl
  have t5 : IntKind.u64.wrap 10 = 10 := rfl
  simp only [hs', cond_false, joinAt, t1, t2, t3, t4, cond_true, h0, h1, h2, h3, hb, ten8, t5]
  refine (iter_eq (R := Int × Option Int) (G := fun z : (Bool × Int × Int × Unit) × Unit × Unit × Unit => some (pu M z.1.2.1.toNat (s.drop z.1.2.2.1.toNat)))
    (fun m z => ∃ n i : Nat, z = ((false, (n : Int), (i : Int), ()), (), (), ()) ∧ n ≤ M ∧ i ≤ s.length ∧ m = s.length - i)
    ?_ N s.length ((false, 0, 0, ()), (), (), ()) ⟨0, 0, rfl, Nat.zero_le _, Nat.zero_le _, rfl⟩ hN).trans rfl
  rintro m z rec ⟨n, i, rfl, hn, hi, rfl⟩ ih
  simp only [Int.toNat_natCast, at?_nat]
  by_cases hil : i < s.length
  · have e1 : decide ((i : Int) < (s.length : Int)) = true := by simpa using hil
    rw [e1, cond_true, List.getElem?_eq_getElem hil, Option.bind_some, List.drop_eq_getElem_cons hil]
    generalize hc : s[i] = c
    simp only [pu]
    by_cases hd : 48 ≤ c.toNat ∧ c.toNat ≤ 57
    · obtain ⟨d1, d2, d3, d4, d5⟩ := digit c hd
      rw [if_pos hd]
      simp only [d1, d2, d3, d4, d5, cond_true, cond_false]
      have f1 : IntKind.u64.wrap ((n : Int) * 10) = (n : Int) * 10 := u64w (by omega) (by omega)
      have f2 : IntKind.u64.wrap ((n : Int) * 10 + ((c.toNat - 48 : Nat) : Int)) = ((n * 10 + (c.toNat - 48) : Nat) : Int) := by rw [u64w (by omega) (by omega)]; omega
      have f3 : decide ((1844674407370955162 : Int) ≤ (n : Int)) = false := by simp; omega
      have f4 : decide (((n * 10 + (c.toNat - 48) : Nat) : Int) < (n : Int) * 10) = false := by simp; omega
      rw [f1, f2, f3, f4, cond_false, cond_false, i64_succ (by omega)]
      by_cases hm : n * 10 + (c.toNat - 48) ≤ M
      · have f5 : decide ((M : Int) < ((n * 10 + (c.toNat - 48) : Nat) : Int)) = false := by simp; omega
        rw [if_pos hm, f5, cond_false]
        have := ih (s.length - (i + 1)) ((false, ((n * 10 + (c.toNat - 48) : Nat) : Int), ((i + 1 : Nat) : Int), ()), (), (), ()) (by omega) ⟨_, _, rfl, hm, by omega, rfl⟩
        rw [this]
        simp only [Int.toNat_natCast]
      · have f5 : decide ((M : Int) < ((n * 10 + (c.toNat - 48) : Nat) : Int)) = true := by simp; omega
        rw [if_neg hm, f5, cond_true]
    · rw [if_neg hd]
      obtain ⟨y, hy⟩ := lower_eq N c
      simp only [hy, Option.bind_some]
      have hx : ∀ (A : Option (Int × Option Int)), (bif decide (97 ≤ y) then bif decide (y ≤ 122) then bif decide ((10 : UInt8) ≤ y - 97 + 10) then some (0, some 2) else A else some (0, some 2) else some (0, some 2)) = some ((0 : Int), some (2 : Int)) := by
        intro A
        cases a1 : decide (97 ≤ y) with
        | false => rfl
        | true =>
          cases a2 : decide (y ≤ 122) with
          | false => rfl
          | true => rw [letter y a1 a2]; rfl
      rw [hx]
      rcases nodigit c hd with h | h
      · simp only [h, cond_false, Bool.cond_self]
      · simp only [h, cond_false, Bool.cond_self]
  · have e1 : decide ((i : Int) < (s.length : Int)) = false := by simpa using hil
    have : i = s.length := by omega
    subst this
    rw [e1, cond_false, List.drop_length]
    rfl
end Go.Proofs.Xs
/-
  Digits: what a text of digits is worth, and which text a number has.
-/
set_option linter.unusedVariables false
set_option linter.unusedSimpArgs false
set_option maxRecDepth 100000
namespace Go.Proofs.Xs
open Go Go.Xl Go.Ab Go.Proofs Go.Proofs.Xr

def isD (c : UInt8) : Prop := 48 ≤ c.toNat ∧ c.toNat ≤ 57
/-- a digit's worth -/
def wd (c : UInt8) : Nat := c.toNat - 48
attribute [irreducible] wd
theorem wd_eq (c : UInt8) : wd c = c.toNat - 48 := by unfold wd; rfl
/-- what digits are worth, behind n -/
def vl : Nat → List UInt8 → Nat
  | n, [] => n
  | n, c :: r => vl (n * 10 + wd c) r

theorem vl_ge : ∀ (s : List UInt8) (n : Nat), n ≤ vl n s
  | [], n => Nat.le_refl _
  | c :: r, n => Nat.le_trans (by omega) (vl_ge r _)

def puStep (M k : Nat) (c : UInt8) (r : List UInt8) : Int × Option Int := if 48 ≤ c.toNat ∧ c.toNat ≤ 57 then (if k ≤ M then pu M k r else ((M : Int), some 1)) else (0, some 2)
theorem pu_cons (M n : Nat) (c : UInt8) (r : List UInt8) : pu M n (c :: r) = puStep M (n * 10 + wd c) c r := by unfold puStep; rw [pu, wd_eq]
theorem vl_cons (n : Nat) (c : UInt8) (r : List UInt8) : vl n (c :: r) = vl (n * 10 + wd c) r := by rw [vl]

theorem pu_none {M : Nat} (s : List UInt8) : ∀ n : Nat, n ≤ M → (((pu M n s).2 = none ↔ (∀ c ∈ s, isD c) ∧ vl n s ≤ M) ∧ ((pu M n s).2 = none → (pu M n s).1 = (vl n s : Int))) := by
  induction s with
  | nil =>
    intro n h
    exact ⟨⟨fun _ => ⟨fun c hc => (by cases hc), h⟩, fun _ => rfl⟩, fun _ => rfl⟩
  | cons c r ih =>
    intro n h
    rw [pu_cons, vl_cons]
    unfold puStep
    by_cases hd : 48 ≤ c.toNat ∧ c.toNat ≤ 57
    · rw [if_pos hd]
      generalize n * 10 + wd c = k
      by_cases hm : k ≤ M
      · rw [if_pos hm]
        obtain ⟨h1, h2⟩ := ih k hm
        refine ⟨h1.trans ⟨fun h => ⟨?_, h.2⟩, fun h => ⟨fun x hx => h.1 x (List.mem_cons_of_mem _ hx), h.2⟩⟩, h2⟩
        intro x hx
        rcases List.mem_cons.1 hx with rfl | hx
        · exact hd
        · exact h.1 x hx
      · rw [if_neg hm]
        have hg := vl_ge r k
        exact ⟨⟨fun h => (by cases h), fun h => absurd (Nat.le_trans hg h.2) hm⟩, fun h => (by cases h)⟩
    · rw [if_neg hd]
      exact ⟨⟨fun h => (by cases h), fun h => absurd (h.1 c List.mem_cons_self) hd⟩, fun h => (by cases h)⟩

theorem pu_err {M : Nat} : ∀ (s : List UInt8) (n : Nat), (pu M n s).2 = none ∨ (pu M n s).2 = some 1 ∨ (pu M n s).2 = some 2
  | [], n => .inl rfl
  | c :: r, n => by
    simp only [pu]
    split
    · split
      · exact pu_err r _
      · exact .inr (.inl rfl)
    · exact .inr (.inr rfl)

theorem vl_snoc (c : UInt8) (s : List UInt8) : ∀ (n : Nat), vl n (s ++ [c]) = vl n s * 10 + wd c := by
  induction s with
  | nil => intro n; rw [List.nil_append, vl_cons]; simp only [vl]
  | cons d r ih => intro n; rw [List.cons_append, vl_cons, vl_cons, ih]

theorem dg_val (x : Nat) : (dg x).toNat = 48 + x % 10 := by
  unfold dg
  rw [UInt8.toNat_ofNat']
  omega

theorem dg_of {c : UInt8} (h : isD c) (y : Nat) : dg (y * 10 + wd c) = c := by
  rw [wd_eq]
  apply UInt8.toNat_inj.1
  rw [dg_val]
  obtain ⟨h1, h2⟩ := h
  omega

/-- digits are those of their worth -/
theorem pad_vl : ∀ (d : Nat) (s : List UInt8), s.length = d → (∀ c ∈ s, isD c) → pad d (vl 0 s) = s ∧ vl 0 s < 10 ^ d
  | 0, s, hl, _ => by
    have : s = [] := List.eq_nil_of_length_eq_zero hl
    subst this
    exact ⟨rfl, by simp [vl]⟩
  | d + 1, s, hl, h => by
    obtain ⟨t, c, rfl⟩ : ∃ t c, s = t ++ [c] := by
      rcases List.eq_nil_or_concat s with h0 | ⟨t, c, h0⟩
      · subst h0; simp at hl
      · exact ⟨t, c, by rw [h0]; simp⟩
    have hc : isD c := h c (by simp)
    obtain ⟨h1, h2⟩ := pad_vl d t (by simpa using hl) fun x hx => h x (by simp [hx])
    rw [vl_snoc c t 0]
    have e : (vl 0 t * 10 + wd c) / 10 = vl 0 t := by
      rw [wd_eq]
      obtain ⟨h3, h4⟩ := hc
      omega
    refine ⟨?_, ?_⟩
    · rw [pad, e, h1, dg_of hc]
    · obtain ⟨h3, h4⟩ := hc
      rw [Nat.pow_succ, wd_eq]
      omega

theorem pad_isD : ∀ (d x : Nat), ∀ c ∈ pad d x, isD c
  | 0, _, c, h => by cases h
  | d + 1, x, c, h => by
    rw [pad] at h
    rcases List.mem_append.1 h with h | h
    · exact pad_isD d _ c h
    · simp at h
      subst h
      unfold isD
      rw [dg_val]
      omega

theorem vl_pad : ∀ (d x : Nat), vl 0 (pad d x) = x % 10 ^ d
  | 0, x => by simp [pad, vl, Nat.mod_one]
  | d + 1, x => by
    rw [pad, vl_snoc _ _ 0, vl_pad d, wd_eq, dg_val, Nat.pow_succ]
    have := Nat.mod_mul (x := x) (a := 10) (b := 10 ^ d)
    rw [Nat.mul_comm 10] at this
    omega

/-- a number's text, read -/
theorem dec_facts (x : Nat) (hx : x < 18446744073709551616) : (∀ c ∈ dec x, isD c) ∧ vl 0 (dec x) = x ∧ Dig (dec x).length x := by
  obtain ⟨d, h1, h2⟩ := Dig.exists x hx
  rw [dec_pad hx h1]
  refine ⟨pad_isD d x, ?_, ?_⟩
  · rw [vl_pad, Nat.mod_eq_of_lt h1.2.1]
  · rw [pad_len]; exact h1

/-- digits with no zero ahead -/
theorem dec_of {s : List UInt8} (h0 : s ≠ []) (h : ∀ c ∈ s, isD c) (hz : 1 < s.length → s[0]? ≠ some 48) (hx : vl 0 s < 18446744073709551616) : dec (vl 0 s) = s := by
  obtain ⟨h1, h2⟩ := pad_vl s.length s rfl h
  have hl : 1 ≤ s.length := List.length_pos_iff.2 h0
  have hd : Dig s.length (vl 0 s) := by
    refine ⟨hl, h2, ?_⟩
    by_cases h3 : s.length = 1
    · exact .inl h3
    · right
      obtain ⟨c, r, rfl⟩ : ∃ c r, s = c :: r := List.exists_cons_of_ne_nil h0
      have hc := h c List.mem_cons_self
      have hne : c.toNat ≠ 48 := by
        intro he
        refine hz (by omega) ?_
        simp
        exact UInt8.toNat_inj.1 he
      simp only [vl, List.length_cons, Nat.add_sub_cancel]
      have : ∀ (r : List UInt8) (n : Nat), 1 ≤ n → 10 ^ r.length ≤ vl n r := by
        intro r
        induction r with
        | nil => intro n hn; simpa [vl] using hn
        | cons d r ih =>
          intro n hn
          simp only [vl, List.length_cons]
          have h5 : ∀ (r : List UInt8) (n m : Nat), n ≤ m → vl n r ≤ vl m r := by
            intro r
            induction r with
            | nil => intro n m h; exact h
            | cons d r ih2 => intro n m h; exact ih2 _ _ (by omega)
          have h6 : ∀ (r : List UInt8) (n : Nat), n * 10 ^ r.length ≤ vl n r := by
            intro r
            induction r with
            | nil => intro n; simp [vl]
            | cons d r ih2 =>
              intro n
              have := ih2 (n * 10 + wd d)
              simp only [vl, List.length_cons]
              refine Nat.le_trans ?_ this
              rw [Nat.pow_succ, Nat.mul_comm (10 ^ r.length), ← Nat.mul_assoc]
              exact Nat.mul_le_mul_right _ (by omega)
          have := h6 (d :: r) n
          simp only [vl, List.length_cons] at this
          refine Nat.le_trans ?_ this
          exact Nat.le_mul_of_pos_left _ hn
      exact this r _ (by rw [wd_eq]; unfold isD at hc; omega)
  rw [dec_pad hx hd, h1]

end Go.Proofs.Xs
/-
  Texts of dots, read: dot.Parse and the document's Parse.
-/
set_option linter.unusedVariables false
set_option linter.unusedSimpArgs false
set_option maxRecDepth 100000
namespace Go.Proofs.Xs
open Go Go.Xl Go.Ab Go.Proofs Go.Proofs.Xr

theorem clone_eq (N : Nat) (s : List UInt8) (h : s.length ≤ 281474976710656) : F_internal_stringslite_Clone N s = some s := by
  unfold F_internal_stringslite_Clone
  by_cases h0 : s.length = 0
  · have : s = [] := List.eq_nil_of_length_eq_zero h0
    subst this; rfl
  · have e1 : (((s.length : Nat) : Int) == 0) = false := by simpa using h0
    have e2 : (repB 0 s.length).length = s.length := by simp [repB]
    have e3 : (decide (1 * s.length ≤ 281474976710656) && decide ((s.length : Int) ≤ 9223372036854775807)) = true := by simp; omega
    have e4 : decide ((0 : Int) < (s.length : Int)) = true := by simp; omega
    have e5 : s.length.beq 0 = false := by cases hh : s.length.beq 0 with
      | false => rfl
      | true => exact absurd (Nat.eq_of_beq_eq_true hh) h0
    have e6 : (((s.length : Nat) : Int) == ((s.length : Nat) : Int)) = true := by simp
    have e7 : decide (s.length ≤ 9223372036854775807) = true := by simp; omega
    simp only [Int.toNat_natCast, e1, e2, e3, e4, e5, e6, e7, Nat.beq_refl, cond_true, cond_false]

def puR (M : Nat) (s : List UInt8) : Int × Option Int := if s = [] then (0, some 2) else pu M 0 s

theorem puR_err (M : Nat) (s : List UInt8) : (puR M s).2 = none ∨ (puR M s).2 = some 1 ∨ (puR M s).2 = some 2 := by
  unfold puR
  split
  · exact .inr (.inr rfl)
  · exact pu_err _ _

theorem puR_none {M : Nat} {s : List UInt8} : (puR M s).2 = none ↔ s ≠ [] ∧ (∀ c ∈ s, isD c) ∧ vl 0 s ≤ M := by
  unfold puR
  split
  · rename_i h; simp [h]
  · rename_i h; rw [(pu_none s 0 (Nat.zero_le _)).1]; simp [h]
theorem puR_val {M : Nat} {s : List UInt8} (h : (puR M s).2 = none) : (puR M s).1 = (vl 0 s : Int) := by
  unfold puR at h ⊢
  split at h
  · cases h
  · rename_i h0; rw [if_neg h0]; exact (pu_none s 0 (Nat.zero_le _)).2 h

theorem parse_eq (N M : Nat) (s : List UInt8) (bs : Int) (hl : s.length ≤ 281474976710656) (hN : s.length < N) (hM : M ≤ 281474976710655) (h0 : (bs == 0) = false) (h1 : decide (bs < 0) = false) (h2 : decide (64 < bs) = false)
    (h3 : decide (0 ≤ IntKind.u64.wrap bs) = true) (hb : IntKind.u64.wrap (IntKind.u64.wrap (1 * 2 ^ min (IntKind.u64.wrap bs).toNat 64) - 1) = (M : Int)) (b1 b2 : Bool) :
    F_strconv_ParseUint N s 10 bs [b1] [b2] = some ((puR M s).1, (puR M s).2.isSome) := by
  unfold F_strconv_ParseUint
  rw [intParse_eq N M s bs (by omega) hN hM h0 h1 h2 h3 hb, Option.bind_some]
  show (bif bif true then !(puR M s).2.isNone else (puR M s).2.isNone then Option.bind (F_strconv_toError N _ s 10 bs (puR M s).2 [b1] [b2]) fun y_1 => some ((puR M s).1, y_1) else some ((puR M s).1, false)) = _
  unfold F_strconv_toError F_strconv_syntaxError F_strconv_rangeError
  rw [clone_eq N s hl]
  rcases puR_err M s with h | h | h <;> rw [h] <;> rfl

theorem parse16 (N : Nat) (s : List UInt8) (hl : s.length ≤ 281474976710656) (hN : s.length < N) (b1 b2 : Bool) : F_strconv_ParseUint N s 10 16 [b1] [b2] = some ((puR 65535 s).1, (puR 65535 s).2.isSome) :=
  parse_eq N 65535 s 16 hl hN (by decide) rfl rfl rfl rfl (by decide +kernel) b1 b2
theorem parse48 (N : Nat) (s : List UInt8) (hl : s.length ≤ 281474976710656) (hN : s.length < N) (b1 b2 : Bool) : F_strconv_ParseUint N s 10 48 [b1] [b2] = some ((puR 281474976710655 s).1, (puR 281474976710655 s).2.isSome) :=
  parse_eq N 281474976710655 s 48 hl hN (by decide) rfl rfl rfl rfl (by decide +kernel) b1 b2

theorem idx_none {c : UInt8} : ∀ {l : List UInt8}, c ∉ l → Lib.indexByte l c = -1
  | [], _ => rfl
  | b :: r, h => by
    have h1 : (b == c) = false := by simp at h ⊢; exact fun e => h.1 e.symm
    have h2 := idx_none (l := r) (c := c) (fun hh => h (List.mem_cons_of_mem _ hh))
    simp [Lib.indexByte, h1, h2]
theorem idx_some {c : UInt8} : ∀ {h t : List UInt8}, c ∉ h → Lib.indexByte (h ++ c :: t) c = (h.length : Int)
  | [], t, _ => by simp [Lib.indexByte]
  | b :: r, t, h => by
    have h1 : (b == c) = false := by simp at h ⊢; exact fun e => h.1 e.symm
    have h2 := idx_some (h := r) (t := t) (c := c) (fun hh => h (List.mem_cons_of_mem _ hh))
    have h3 : ((r.length : Int) == -1) = false := by simp
    simp [Lib.indexByte, h1, h2, h3]
theorem split_at (c : UInt8) : ∀ (x : List UInt8), c ∉ x ∨ ∃ h t, x = h ++ c :: t ∧ c ∉ h
  | [] => .inl (by simp)
  | b :: r => by
    by_cases hb : b = c
    · exact .inr ⟨[], r, by simp [hb], by simp⟩
    · rcases split_at c r with h | ⟨h, t, rfl, hn⟩
      · exact .inl (by simp [h, Ne.symm hb])
      · exact .inr ⟨b :: h, t, rfl, by simp [hn, Ne.symm hb]⟩

theorem index_eq (N : Nat) (x : List UInt8) : F_internal_stringslite_Index N x [46] = some (Lib.indexByte x 46) := by
  unfold F_internal_stringslite_Index
  by_cases h : x = [46]
  · subst h; rfl
  · have : (([46] : List UInt8) == x) = false := by simpa using fun e => h e.symm
    rw [this]
    rfl

theorem cut_none (N : Nat) {x : List UInt8} (h : (46 : UInt8) ∉ x) : F_strings_Cut N x [46] = some (x, [], false) := by
  unfold F_strings_Cut F_internal_stringslite_Cut
  rw [index_eq, idx_none h]
  rfl
theorem cut_some (N : Nat) {h t : List UInt8} (hn : (46 : UInt8) ∉ h) (hl : (h ++ 46 :: t).length < 9223372036854775807) : F_strings_Cut N (h ++ 46 :: t) [46] = some (h, t, true) := by
  unfold F_strings_Cut F_internal_stringslite_Cut
  rw [index_eq, idx_some hn]
  have hlen : (h ++ 46 :: t).length = h.length + (t.length + 1) := by simp
  rw [hlen] at hl ⊢
  have e1 : decide ((0 : Int) ≤ (h.length : Int)) = true := by simp
  have e2 : cutOk 0 (h.length : Int) (h.length + (t.length + 1)) = true := by simp [cutOk]; omega
  have e3 : IntKind.i64.wrap ((h.length : Int) + (([46] : List UInt8).length : Int)) = ((h.length + 1 : Nat) : Int) := i64_succ (by omega)
  have e4 : cutOk ((h.length + 1 : Nat) : Int) ((h.length + (t.length + 1) : Nat) : Int) (h.length + (t.length + 1)) = true := by simp [cutOk]; omega
  simp only [Option.bind_some, e1, e2, e3, e4, cond_true, Int.toNat_natCast]
  rw [List.take_left, show h ++ 46 :: t = (h ++ [46]) ++ t by simp, List.drop_left' (by simp)]

end Go.Proofs.Xs
/-
  The document's Number and Parse.
-/
set_option linter.unusedVariables false
set_option linter.unusedSimpArgs false
set_option maxRecDepth 100000
namespace Go.Proofs.Xs
open Go Go.Xl Go.Ab Go.Proofs Go.Proofs.Xr

def nr : Nat → List UInt8 → Int × Bool
  | n, [] => ((n : Int), true)
  | n, c :: r => if 48 ≤ c.toNat ∧ c.toNat ≤ 57 then nr (n * 10 + wd c) r else (0, false)

theorem nr_cons (n : Nat) (c : UInt8) (r : List UInt8) : nr n (c :: r) = if 48 ≤ c.toNat ∧ c.toNat ≤ 57 then nr (n * 10 + wd c) r else (0, false) := by rw [nr]

theorem nr_eq (s : List UInt8) : ∀ n : Nat, ((∀ c ∈ s, isD c) ∧ nr n s = ((vl n s : Int), true)) ∨ (¬ (∀ c ∈ s, isD c) ∧ nr n s = (0, false)) := by
  induction s with
  | nil => intro n; exact .inl ⟨fun c hc => (by cases hc), by simp only [nr, vl]⟩
  | cons c r ih =>
    intro n
    rw [nr_cons, vl_cons]
    by_cases hd : 48 ≤ c.toNat ∧ c.toNat ≤ 57
    · rw [if_pos hd]
      rcases ih (n * 10 + wd c) with ⟨h1, h2⟩ | ⟨h1, h2⟩
      · refine .inl ⟨fun x hx => ?_, h2⟩
        rcases List.mem_cons.1 hx with rfl | hx
        · exact hd
        · exact h1 x hx
      · exact .inr ⟨fun h => h1 fun x hx => h x (List.mem_cons_of_mem _ hx), h2⟩
    · rw [if_neg hd]
      exact .inr ⟨fun h => hd (h c List.mem_cons_self), rfl⟩

theorem digit2 : ∀ c : UInt8, 48 ≤ c.toNat ∧ c.toNat ≤ 57 → decide (c < 48) = false ∧ decide (57 < c) = false ∧ ((c - 48).toNat : Nat) = c.toNat - 48 ∧ c.toNat - 48 ≤ 9 := u8all (by decide +kernel)
theorem nodigit2 : ∀ c : UInt8, ¬ (48 ≤ c.toNat ∧ c.toNat ≤ 57) → (decide (c < 48) = true ∨ decide (c < 48) = false ∧ decide (57 < c) = true) := u8all (by decide +kernel)

theorem num_loop (N : Nat) (s : List UInt8) (hl : s.length ≤ 15) (hN : s.length < N) :
    iter (fun (rec : (Int × Int × Unit) × Unit × Unit × Unit → Option (Int × Bool)) (z : (Int × Int × Unit) × Unit × Unit × Unit) =>
      bif decide (z.fst.snd.fst < (↑s.length : Int)) then
        (at? s z.fst.snd.fst).bind fun (c : UInt8) =>
          bif decide (c < 48) then some (0, false)
          else
            (at? s z.fst.snd.fst).bind fun (c : UInt8) =>
              bif decide (57 < c) then some (0, false)
              else
                (at? s z.fst.snd.fst).bind fun (c : UInt8) =>
                  rec ((IntKind.u64.wrap (IntKind.u64.wrap (z.fst.fst * 10) + (↑(c - 48).toNat : Int)), IntKind.i64.wrap (z.fst.snd.fst + 1), ()), (), (), ())
      else some (z.fst.fst, true)) N ((0, 0, ()), (), (), ()) = some (nr 0 s) := by
  refine (iter_eq (R := Int × Bool) (G := fun z : (Int × Int × Unit) × Unit × Unit × Unit => some (nr z.1.1.toNat (s.drop z.1.2.1.toNat)))
    (fun m z => ∃ n i : Nat, z = (((n : Int), (i : Int), ()), (), (), ()) ∧ n < 10 ^ i ∧ i ≤ s.length ∧ m = s.length - i)
    ?_ N s.length ((0, 0, ()), (), (), ()) ⟨0, 0, rfl, by decide, Nat.zero_le _, rfl⟩ hN).trans rfl
  rintro m z rec ⟨n, i, rfl, hn, hi, rfl⟩ ih
  simp only [Int.toNat_natCast, at?_nat]
  by_cases hil : i < s.length
  · have e1 : decide ((i : Int) < (s.length : Int)) = true := by simpa using hil
    rw [e1, cond_true, List.getElem?_eq_getElem hil, Option.bind_some, List.drop_eq_getElem_cons hil]
    generalize hc : s[i] = c
    rw [nr_cons]
    have hb : 10 ^ i ≤ 10 ^ 14 := Nat.pow_le_pow_right (by decide) (by omega)
    by_cases hd : 48 ≤ c.toNat ∧ c.toNat ≤ 57
    · obtain ⟨d1, d2, d3, d4⟩ := digit2 c hd
      rw [if_pos hd]
      simp only [d1, d2, d3, cond_false, Option.bind_some]
      have hw := wd_eq c
      have f1 : IntKind.u64.wrap ((n : Int) * 10) = (n : Int) * 10 := u64w (by omega) (by omega)
      have f2 : IntKind.u64.wrap ((n : Int) * 10 + ((c.toNat - 48 : Nat) : Int)) = ((n * 10 + wd c : Nat) : Int) := by rw [u64w (by omega) (by omega), hw]; omega
      rw [f1, f2, i64_succ (by omega)]
      have := ih (s.length - (i + 1)) ((((n * 10 + wd c : Nat) : Int), ((i + 1 : Nat) : Int), ()), (), (), ()) (by omega) ⟨_, _, rfl, by rw [Nat.pow_succ]; omega, by omega, rfl⟩
      rw [this]
      simp only [Int.toNat_natCast]
    · rw [if_neg hd]
      rcases nodigit2 c hd with h | ⟨h, h'⟩
      · simp only [h, cond_true]
      · simp only [h, h', cond_true, cond_false, Option.bind_some]
  · have e1 : decide ((i : Int) < (s.length : Int)) = false := by simpa using hil
    have : i = s.length := by omega
    subst this
    rw [e1, cond_false, List.drop_length]
    simp only [nr]

/-- the texts that are numbers -/
def numOk (s : List UInt8) : Prop := 1 ≤ s.length ∧ s.length ≤ 15 ∧ (1 < s.length → s[0]? ≠ some 48) ∧ ∀ c ∈ s, isD c

theorem number_eq (N : Nat) (s : List UInt8) (hN : 15 < N) : (numOk s ∧ F_epitaphref07_Number N s = some ((vl 0 s : Int), true)) ∨ (¬ numOk s ∧ F_epitaphref07_Number N s = some (0, false)) := by
  unfold F_epitaphref07_Number
  by_cases h1 : 1 ≤ s.length
  case neg =>
    have e : decide ((s.length : Int) < 1) = true := by simp; omega
    rw [e, cond_true]
    exact .inr ⟨fun h => h1 h.1, rfl⟩
  have e1 : decide ((s.length : Int) < 1) = false := by simp; omega
  rw [e1, cond_false]
  by_cases h2 : s.length ≤ 15
  case neg =>
    have e : decide (15 < (s.length : Int)) = true := by simp; omega
    rw [e, cond_true]
    exact .inr ⟨fun h => h2 h.2.1, rfl⟩
  have e2 : decide (15 < (s.length : Int)) = false := by simp; omega
  rw [e2, cond_false]
  have fin : (1 < s.length → s[0]? ≠ some 48) → (numOk s ∧ some (nr 0 s) = some ((vl 0 s : Int), true)) ∨ (¬ numOk s ∧ some (nr 0 s) = some (0, false)) := by
    intro h3
    rcases nr_eq s 0 with ⟨h4, h5⟩ | ⟨h4, h5⟩
    · exact .inl ⟨⟨h1, h2, h3, h4⟩, by rw [h5]⟩
    · exact .inr ⟨fun h => h4 h.2.2.2, by rw [h5]⟩
  by_cases h3 : 1 < s.length
  · have e3 : decide (1 < (s.length : Int)) = true := by simp; omega
    rw [e3, cond_true, List.getElem?_eq_getElem (by omega), Option.bind_some]
    by_cases h4 : s[0] = 48
    · have : (s[0] == 48) = true := by simpa using h4
      rw [this, cond_true]
      exact .inr ⟨fun h => h.2.2.1 h3 (by rw [List.getElem?_eq_getElem (by omega), h4]), rfl⟩
    · have : (s[0] == 48) = false := by simpa using h4
      rw [this, cond_false, num_loop N s h2 (by omega)]
      exact fin fun _ => by rw [List.getElem?_eq_getElem (by omega)]; simpa using h4
  · have e3 : decide (1 < (s.length : Int)) = false := by simp; omega
    rw [e3, cond_false, num_loop N s h2 (by omega)]
    exact fin fun h => absurd h h3

end Go.Proofs.Xs
/-
  dot.Parse and the document's Parse come to the same.
-/
set_option linter.unusedVariables false
set_option linter.unusedSimpArgs false
set_option maxRecDepth 100000
namespace Go.Proofs.Xs
open Go Go.Xl Go.Ab Go.Proofs Go.Proofs.Xr

/-- the texts of dots -/
def dotOk (h t : List UInt8) : Prop := numOk h ∧ numOk t ∧ 1 ≤ vl 0 h ∧ vl 0 h ≤ 65535 ∧ 1 ≤ vl 0 t ∧ vl 0 t < 281474976710656

theorem refGood_eq (N : Nat) (a n : Nat) : F_epitaphref07_Good N ((a : Int), (n : Int)) = some (decide (1 ≤ a ∧ 1 ≤ n ∧ n < 281474976710656)) := by
  rw [good_some]
  congr 1
  rw [Bool.eq_iff_iff]
  simp
  omega

theorem vl_15 {s : List UInt8} (h : numOk s) : vl 0 s < 1000000000000000 := by
  obtain ⟨h1, h2, h3, h4⟩ := h
  have := (pad_vl s.length s rfl h4).2
  have : 10 ^ s.length ≤ 10 ^ 15 := Nat.pow_le_pow_right (by decide) h2
  omega

/-- the document's, behind the first point -/
theorem refParse_some (N : Nat) {h t : List UInt8} (hn : (46 : UInt8) ∉ h) (hl : (h ++ 46 :: t).length < 9223372036854775807) (hN : (h ++ 46 :: t).length < N) (hN2 : 15 < N) :
    (dotOk h t ∧ F_epitaphref07_Parse N (h ++ 46 :: t) = some (((vl 0 h : Int), (vl 0 t : Int)), true)) ∨ (¬ dotOk h t ∧ F_epitaphref07_Parse N (h ++ 46 :: t) = some ((0, 0), false)) := by
  have hlen : (h ++ 46 :: t).length = h.length + (t.length + 1) := by simp
  have key : ∀ R, (Option.bind (F_epitaphref07_Number N h) fun (y : Int × Bool) =>
                  Option.bind (F_epitaphref07_Number N t) fun (y_1 : Int × Bool) =>
                    bif !y.snd then some ((0, 0), false)
                    else
                      bif !y_1.snd then some ((0, 0), false)
                      else
                        bif decide (65535 < y.fst) then some ((0, 0), false)
                        else
                          Option.bind (F_epitaphref07_Good N (IntKind.u16.wrap (y.fst.tmod 65536), y_1.fst))
                            fun (y_2 : Bool) =>
                            bif !y_2 then some ((0, 0), false)
                            else some ((IntKind.u16.wrap (y.fst.tmod 65536), y_1.fst), true)) = R → F_epitaphref07_Parse N (h ++ 46 :: t) = R := by
    intro R hR
    unfold F_epitaphref07_Parse
    refine (iter_eq (R := (Int × Int) × Bool) (G := fun _ => R) (fun m z => ∃ i : Nat, z = (((i : Int), ()), (((0, 0), ()), ()), (), ()) ∧ i ≤ h.length ∧ m = h.length - i)
      ?_ N h.length ((0, ()), (((0, 0), ()), ()), (), ()) ⟨0, rfl, Nat.zero_le _, rfl⟩ (by omega))
    rintro m z rec ⟨i, rfl, hi, rfl⟩ ih
    have e1 : decide ((i : Int) < ((h ++ 46 :: t).length : Int)) = true := by simp; omega
    simp only [e1, cond_true, at?_nat]
    by_cases hih : i < h.length
    · rw [List.getElem?_append_left hih, List.getElem?_eq_getElem hih, Option.bind_some]
      have hne : (h[i] != 46) = true := by
        simp only [bne_iff_ne, ne_eq]
        exact fun e => hn (e ▸ List.getElem_mem hih)
      rw [hne, cond_true, i64_succ (by omega)]
      exact ih (h.length - (i + 1)) _ (by omega) ⟨i + 1, rfl, by omega, rfl⟩
    · have : i = h.length := by omega
      subst this
      rw [List.getElem?_append_right (Nat.le_refl _), Nat.sub_self, List.getElem?_cons_zero, Option.bind_some]
      have hne : ((46 : UInt8) != 46) = false := rfl
      have e2 : cutOk 0 (h.length : Int) (h ++ 46 :: t).length = true := by simp [cutOk]; omega
      have e3 : IntKind.i64.wrap ((h.length : Int) + 1) = ((h.length + 1 : Nat) : Int) := i64_succ (by omega)
      have e4 : cutOk ((h.length + 1 : Nat) : Int) ((h ++ 46 :: t).length : Int) (h ++ 46 :: t).length = true := by simp [cutOk]; omega
      have e5 : List.take h.length (h ++ 46 :: t) = h := by simp
      have e6 : List.drop (h.length + 1) (h ++ 46 :: t) = t := by
        rw [show h ++ 46 :: t = (h ++ [46]) ++ t by simp, List.drop_left' (by simp)]
      simp only [hne, e2, e3, e4, e5, e6, cond_true, cond_false, Int.toNat_natCast]
      exact hR
  rcases number_eq N h hN2 with ⟨h1, h2⟩ | ⟨h1, h2⟩
  case inr =>
    rcases number_eq N t hN2 with ⟨h3, h4⟩ | ⟨h3, h4⟩ <;> exact .inr ⟨fun hd => h1 hd.1, key _ (by rw [h2, h4]; rfl)⟩
  rcases number_eq N t hN2 with ⟨h3, h4⟩ | ⟨h3, h4⟩
  case inr => exact .inr ⟨fun hd => h3 hd.2.1, key _ (by rw [h2, h4]; rfl)⟩
  by_cases h5 : vl 0 h ≤ 65535
  case neg =>
    refine .inr ⟨fun hd => h5 hd.2.2.2.1, key _ ?_⟩
    rw [h2, h4]
    have : decide (65535 < ((vl 0 h : Nat) : Int)) = true := by simp; omega
    simp only [Option.bind_some, this]
    rfl
  have e7 : decide (65535 < ((vl 0 h : Nat) : Int)) = false := by simp; omega
  have e8 : IntKind.u16.wrap (((vl 0 h : Nat) : Int).tmod 65536) = ((vl 0 h : Nat) : Int) := by
    rw [show ((vl 0 h : Nat) : Int).tmod 65536 = ((vl 0 h % 65536 : Nat) : Int) from rfl, Nat.mod_eq_of_lt (by omega), IntWalk.u16_in _ (by omega)]
  by_cases h6 : 1 ≤ vl 0 h ∧ 1 ≤ vl 0 t ∧ vl 0 t < 281474976710656
  · refine .inl ⟨⟨h1, h3, h6.1, h5, h6.2.1, h6.2.2⟩, key _ ?_⟩
    rw [h2, h4]
    simp only [Option.bind_some, e7, e8]
    have e9 := refGood_eq N (vl 0 h) (vl 0 t)
    rw [decide_eq_true h6] at e9
    show Option.bind (F_epitaphref07_Good N (((vl 0 h : Nat) : Int), ((vl 0 t : Nat) : Int))) _ = _
    rw [e9]
    rfl
  · refine .inr ⟨fun hd => h6 ⟨hd.2.2.1, hd.2.2.2.2.1, hd.2.2.2.2.2⟩, key _ ?_⟩
    rw [h2, h4]
    simp only [Option.bind_some, e7, e8]
    have e9 := refGood_eq N (vl 0 h) (vl 0 t)
    rw [decide_eq_false h6] at e9
    show Option.bind (F_epitaphref07_Good N (((vl 0 h : Nat) : Int), ((vl 0 t : Nat) : Int))) _ = _
    rw [e9]
    rfl

theorem refParse_none (N : Nat) {x : List UInt8} (hn : (46 : UInt8) ∉ x) (hl : x.length < 9223372036854775807) (hN : x.length < N) : F_epitaphref07_Parse N x = some ((0, 0), false) := by
  unfold F_epitaphref07_Parse
  refine (iter_eq (R := (Int × Int) × Bool) (G := fun _ => some ((0, 0), false)) (fun m z => ∃ i : Nat, z = (((i : Int), ()), (((0, 0), ()), ()), (), ()) ∧ i ≤ x.length ∧ m = x.length - i)
    ?_ N x.length ((0, ()), (((0, 0), ()), ()), (), ()) ⟨0, rfl, Nat.zero_le _, rfl⟩ (by omega))
  rintro m z rec ⟨i, rfl, hi, rfl⟩ ih
  simp only [at?_nat]
  by_cases hih : i < x.length
  · have e1 : decide ((i : Int) < (x.length : Int)) = true := by simp; omega
    rw [e1, cond_true, List.getElem?_eq_getElem hih, Option.bind_some]
    have hne : (x[i] != 46) = true := by
      simp only [bne_iff_ne, ne_eq]
      exact fun e => hn (e ▸ List.getElem_mem hih)
    rw [hne, cond_true, i64_succ (by omega)]
    exact ih (x.length - (i + 1)) _ (by omega) ⟨i + 1, rfl, by omega, rfl⟩
  · have e1 : decide ((i : Int) < (x.length : Int)) = false := by simp; omega
    rw [e1, cond_false]

end Go.Proofs.Xs
/-
  dot.Parse.
-/
set_option linter.unusedVariables false
set_option linter.unusedSimpArgs false
set_option maxRecDepth 100000
namespace Go.Proofs.Xs
open Go Go.Xl Go.Ab Go.Proofs Go.Proofs.Xr

theorem point_unique {c : UInt8} : ∀ {p h q t : List UInt8}, p ++ c :: q = h ++ c :: t → c ∉ p → c ∉ h → p = h ∧ q = t
  | [], [], q, t, e, _, _ => by simpa using e
  | [], d :: h, q, t, e, _, hh => by simp at e hh; exact absurd e.1 hh.1
  | d :: p, [], q, t, e, hp, _ => by simp at e hp; exact absurd e.1.symm hp.1
  | d :: p, d' :: h, q, t, e, hp, hh => by
    simp only [List.cons_append, List.cons.injEq] at e
    obtain ⟨rfl, e⟩ := e
    obtain ⟨h1, h2⟩ := point_unique e (fun x => hp (List.mem_cons_of_mem _ x)) (fun x => hh (List.mem_cons_of_mem _ x))
    exact ⟨by rw [h1], h2⟩

theorem dec_nopoint (x : Nat) (hx : x < 18446744073709551616) : (46 : UInt8) ∉ dec x := fun h => by
  have := (dec_facts x hx).1 46 h
  unfold isD at this
  exact absurd this.1 (by decide)

theorem numOk_dec (x : Nat) (hx : x < 1000000000000000) : numOk (dec x) := by
  obtain ⟨h1, h2, h3⟩ := dec_facts x (by omega)
  obtain ⟨h4, h5, h6⟩ := h3
  refine ⟨h4, ?_, ?_, h1⟩
  · rcases h6 with h6 | h6
    · omega
    · by_cases h7 : (dec x).length ≤ 15
      · exact h7
      · have : 10 ^ 15 ≤ 10 ^ ((dec x).length - 1) := Nat.pow_le_pow_right (by decide) (by omega)
        omega
  · intro h7 h8
    rcases h6 with h6 | h6
    · omega
    generalize dec x = s at *
    cases s with
    | nil => simp at h8
    | cons c r =>
      simp only [List.getElem?_cons_zero, Option.some.injEq] at h8
      subst h8
      rw [vl_cons, wd_eq] at h2
      have h9 : vl 0 r = x := h2
      have := (pad_vl r.length r rfl fun y hy => h1 y (List.mem_cons_of_mem _ hy)).2
      simp only [List.length_cons, Nat.add_sub_cancel] at h6
      omega

theorem dec_vl {s : List UInt8} (h : numOk s) : dec (vl 0 s) = s :=
  dec_of (by rintro rfl; exact absurd h.1 (by decide)) h.2.2.2 h.2.2.1 (by have := vl_15 h; omega)

theorem dotGood_eq (N : Nat) (a n : Nat) : F_dot_Good N ((a : Int), (n : Int)) = some (decide (1 ≤ a ∧ 1 ≤ n ∧ n < 281474976710656)) := by
  rw [good_eq, refGood_eq]

theorem dotParse_some (N : Nat) {h t : List UInt8} (hn : (46 : UInt8) ∉ h) (hl : (h ++ 46 :: t).length ≤ 281474976710656) (hN : (h ++ 46 :: t).length < N) (hN2 : 30 ≤ N) (b1 b2 : Bool) :
    (dotOk h t ∧ F_dot_Parse N (h ++ 46 :: t) tab0 [b1] [b2] = some (((vl 0 h : Int), (vl 0 t : Int)), true)) ∨ (¬ dotOk h t ∧ F_dot_Parse N (h ++ 46 :: t) tab0 [b1] [b2] = some ((0, 0), false)) := by
  have hlen : (h ++ 46 :: t).length = h.length + (t.length + 1) := by simp
  have ok16 : dotOk h t → (puR 65535 h).2 = none := fun hd => puR_none.2 ⟨by rintro rfl; exact absurd hd.1.1 (by decide), hd.1.2.2.2, hd.2.2.2.1⟩
  have ok48 : dotOk h t → (puR 281474976710655 t).2 = none := fun hd => puR_none.2 ⟨by rintro rfl; exact absurd hd.2.1.1 (by decide), hd.2.1.2.2.2, by have := hd.2.2.2.2.2; omega⟩
  unfold F_dot_Parse
  rw [cut_some N hn (by omega), Option.bind_some]
  simp only
  rw [parse16 N h (by omega) (by omega), parse48 N t (by omega) (by omega), Option.bind_some, Option.bind_some]
  simp only
  cases e1 : (puR 65535 h).2 with
  | some k => exact .inr ⟨fun hd => (by rw [ok16 hd] at e1; cases e1), rfl⟩
  | none =>
  cases e2 : (puR 281474976710655 t).2 with
  | some k => exact .inr ⟨fun hd => (by rw [ok48 hd] at e2; cases e2), rfl⟩
  | none =>
  obtain ⟨p1, p2, p3⟩ := puR_none.1 e1
  obtain ⟨q1, q2, q3⟩ := puR_none.1 e2
  rw [puR_val e1, puR_val e2]
  have e8 : IntKind.u16.wrap ((vl 0 h : Nat) : Int) = ((vl 0 h : Nat) : Int) := IntWalk.u16_in _ (by omega)
  rw [e8]
  show (_ ∧ Option.bind (F_dot_Good N (((vl 0 h : Nat) : Int), ((vl 0 t : Nat) : Int))) _ = _) ∨ (_ ∧ Option.bind (F_dot_Good N (((vl 0 h : Nat) : Int), ((vl 0 t : Nat) : Int))) _ = _)
  rw [dotGood_eq, Option.bind_some]
  by_cases h6 : 1 ≤ vl 0 h ∧ 1 ≤ vl 0 t ∧ vl 0 t < 281474976710656
  case neg =>
    rw [decide_eq_false h6]
    exact .inr ⟨fun hd => h6 ⟨hd.2.2.1, hd.2.2.2.2.1, hd.2.2.2.2.2⟩, rfl⟩
  rw [decide_eq_true h6]
  show (_ ∧ Option.bind (F_dot_Text N (((vl 0 h : Nat) : Int), ((vl 0 t : Nat) : Int)) tab0) _ = _) ∨ (_ ∧ Option.bind (F_dot_Text N (((vl 0 h : Nat) : Int), ((vl 0 t : Nat) : Int)) tab0) _ = _)
  rw [text_eq N (vl 0 h) (vl 0 t) hN2 (by omega) (by omega), Option.bind_some]
  by_cases h7 : dotText (vl 0 h) (vl 0 t) = h ++ 46 :: t
  · rw [h7]
    have e3 : (h ++ 46 :: t != h ++ 46 :: t) = false := by simp
    rw [e3]
    refine .inl ⟨?_, rfl⟩
    unfold dotText at h7
    rw [List.append_assoc, List.singleton_append] at h7
    obtain ⟨g1, g2⟩ := point_unique h7 (dec_nopoint _ (by omega)) hn
    have n1 := numOk_dec (vl 0 h) (by omega)
    have n2 := numOk_dec (vl 0 t) (by omega)
    rw [g1] at n1
    rw [g2] at n2
    exact ⟨n1, n2, h6.1, p3, h6.2.1, h6.2.2⟩
  · have e3 : (dotText (vl 0 h) (vl 0 t) != h ++ 46 :: t) = true := by simpa using h7
    rw [e3]
    refine .inr ⟨fun hd => h7 ?_, rfl⟩
    unfold dotText
    rw [dec_vl hd.1, dec_vl hd.2.1, List.append_assoc, List.singleton_append]

theorem dotParse_none (N : Nat) {x : List UInt8} (hn : (46 : UInt8) ∉ x) (hl : x.length ≤ 281474976710656) (hN : x.length < N) (b1 b2 : Bool) : F_dot_Parse N x tab0 [b1] [b2] = some ((0, 0), false) := by
  unfold F_dot_Parse
  rw [cut_none N hn, Option.bind_some]
  simp only
  rw [parse16 N x (by omega) (by omega), parse48 N [] (by decide) (by simp; omega), Option.bind_some, Option.bind_some]
  simp only
  cases e1 : (puR 65535 x).2 with
  | some k => rfl
  | none => rfl

end Go.Proofs.Xs
/-
  DotParses, DotPacks: they are true.
-/
set_option linter.unusedVariables false
set_option linter.unusedSimpArgs false
set_option maxRecDepth 100000
namespace Go.Proofs.Xs
open Go Go.Xl Go.Ab Go.Proofs Go.Proofs.Xr

theorem text_of {h t : List UInt8} (hd : dotOk h t) : dotText (vl 0 h) (vl 0 t) = h ++ 46 :: t := by
  unfold dotText
  rw [dec_vl hd.1, dec_vl hd.2.1, List.append_assoc, List.singleton_append]

theorem dotParses_true (N : Nat) (x : List UInt8) (hl : x.length ≤ 281474976710656) (hN : x.length < N) (hN2 : 30 ≤ N) (b1 b2 : Bool) : F_epitaphlaw07_DotParses N x tab0 [b1] [b2] = some true := by
  unfold F_epitaphlaw07_DotParses
  have hw := works_tab N hN2
  rcases split_at 46 x with hn | ⟨h, t, rfl, hn⟩
  · rw [dotParse_none N hn hl hN, refParse_none N hn (by omega) hN, Option.bind_some, Option.bind_some, hw]
    rfl
  · rcases dotParse_some N hn hl hN hN2 b1 b2 with ⟨h1, h2⟩ | ⟨h1, h2⟩
    · rcases refParse_some N hn (by omega) hN (by omega) with ⟨h3, h4⟩ | ⟨h3, h4⟩
      · rw [h2, h4, Option.bind_some, Option.bind_some]
        have e1 : (((vl 0 h : Nat) : Int) == ((vl 0 h : Nat) : Int)) = true := by simp
        have e2 : (((vl 0 t : Nat) : Int) == ((vl 0 t : Nat) : Int)) = true := by simp
        have ht := text_eq N (vl 0 h) (vl 0 t) hN2 (by have := h1.2.2.2.1; omega) (by have := h1.2.2.2.2.2; omega)
        rw [text_of h1] at ht
        simp only [e1, e2, Bool.and_self, cond_true]
        show Option.bind (F_dot_Text N (((vl 0 h : Nat) : Int), ((vl 0 t : Nat) : Int)) tab0) _ = _
        rw [ht, Option.bind_some]
        have e3 : (h ++ 46 :: t == h ++ 46 :: t) = true := by simp
        rw [e3, cond_true, hw]
        rfl
      · exact absurd h1 h3
    · rcases refParse_some N hn (by omega) hN (by omega) with ⟨h3, h4⟩ | ⟨h3, h4⟩
      · exact absurd h3 h1
      · rw [h2, h4, Option.bind_some, Option.bind_some, hw]
        rfl

/-- the text of a dot, read -/
theorem parse_text (N a n : Nat) (ha : a < 65536) (hn : n < 18446744073709551616) (hN : 60 ≤ N) (b1 b2 : Bool) :
    F_dot_Parse N (dotText a n) tab0 [b1] [b2] = some (if 1 ≤ a ∧ 1 ≤ n ∧ n < 281474976710656 then (((a : Int), (n : Int)), true) else ((0, 0), false)) := by
  have e : dotText a n = dec a ++ 46 :: dec n := by unfold dotText; rw [List.append_assoc, List.singleton_append]
  have l1 := dec_len a (by omega)
  have l2 := dec_len n hn
  have hv1 := (dec_facts a (by omega)).2.1
  have hv2 := (dec_facts n hn).2.1
  rw [e]
  have hl : (dec a ++ 46 :: dec n).length ≤ 41 := by simp; omega
  rcases dotParse_some N (h := dec a) (t := dec n) (dec_nopoint a (by omega)) (by omega) (by omega) (by omega) b1 b2 with ⟨h1, h2⟩ | ⟨h1, h2⟩
  · rw [h2, hv1, hv2]
    obtain ⟨_, _, g1, g2, g3, g4⟩ := h1
    rw [hv1] at g1
    rw [hv2] at g3 g4
    rw [if_pos ⟨g1, g3, g4⟩]
  · rw [h2, if_neg]
    rintro ⟨g1, g2, g3⟩
    refine h1 ⟨numOk_dec a (by omega), numOk_dec n (by omega), ?_, ?_, ?_, ?_⟩
    · rw [hv1]; exact g1
    · rw [hv1]; omega
    · rw [hv2]; exact g2
    · rw [hv2]; exact g3

theorem pack_nat (N a n : Nat) (ha : a < 65536) (hn : n < 18446744073709551616) : F_dot_Pack N ((a : Int), (n : Int)) = some ((a * 281474976710656 + n % 281474976710656 : Nat) : Int) := by
  unfold F_dot_Pack F_shift_Pack
  simp only [Option.bind_some]
  rw [show (281474976710655 : Int) = ((281474976710655 : Nat) : Int) from rfl, bits_and_u64_nat n _ hn (by decide), and48, u64n (show a < 18446744073709551616 by omega),
    show ((a : Nat) : Int) * 281474976710656 = ((a * 281474976710656 : Nat) : Int) by omega, u64n (show a * 281474976710656 < 18446744073709551616 by omega), bits_or_u64_nat _ _ (by omega) (by omega)]
  have := Nat.two_pow_add_eq_or_of_lt (i := 48) (b := n % 281474976710656) (Nat.mod_lt _ (by decide)) a
  rw [show a * 281474976710656 = 2 ^ 48 * a by omega, this]

theorem unpack_nat (N a n : Nat) (ha : a < 65536) : F_dot_Unpack N ((a * 281474976710656 + n % 281474976710656 : Nat) : Int) = some (if 1 ≤ a ∧ 1 ≤ n % 281474976710656 then (((a : Int), ((n % 281474976710656 : Nat) : Int)), true) else ((0, 0), false)) := by
  unfold F_dot_Unpack
  have e1 : (a * 281474976710656 + n % 281474976710656) / 281474976710656 = a := by omega
  have e2 : (a * 281474976710656 + n % 281474976710656) % 281474976710656 = n % 281474976710656 := by omega
  rw [split_eq N _ (by omega), e1, e2, Option.bind_some, dotGood_eq, Option.bind_some]
  have hlt : n % 281474976710656 < 281474976710656 := by omega
  by_cases h : 1 ≤ a ∧ 1 ≤ n % 281474976710656
  · rw [if_pos h, decide_eq_true ⟨h.1, h.2, hlt⟩]; rfl
  · rw [if_neg h, decide_eq_false (fun hh => h ⟨hh.1, hh.2.1⟩)]; rfl

end Go.Proofs.Xs
/-
  DotPacks: it is true.
-/
set_option linter.unusedVariables false
set_option linter.unusedSimpArgs false
set_option maxRecDepth 100000
namespace Go.Proofs.Xs
open Go Go.Xl Go.Ab Go.Proofs Go.Proofs.Xr

theorem condF {α : Type} {b : Bool} {x y : α} (h : b = false) : (bif b then x else y) = y := by rw [h]; rfl

theorem dotPacks_nat (N a n c m : Nat) (hN : 60 ≤ N) (ha : a < 65536) (hn : n < 18446744073709551616) (hc : c < 65536) (hm : m < 18446744073709551616) (b1 b2 : Bool) :
    F_epitaphlaw07_DotPacks N ((a : Int), (n : Int)) ((c : Int), (m : Int)) tab0 [b1] [b2] = some true := by
  have hw := works_tab N (by omega)
  unfold F_epitaphlaw07_DotPacks
  refine (bindS (pack_nat N a n ha hn)).trans ((bindS (unpack_nat N a n ha)).trans ((bindS (text_eq N a n (by omega) ha hn)).trans ((bindS (parse_text N a n ha hn hN b1 b2)).trans ((bindS (dotGood_eq N a n)).trans ?_))))
  by_cases hg : 1 ≤ a ∧ 1 ≤ n ∧ n < 281474976710656
  · have hmod : n % 281474976710656 = n := Nat.mod_eq_of_lt hg.2.2
    rw [if_pos hg, hmod, if_pos ⟨hg.1, hg.2.1⟩, decide_eq_true hg]
    have x1 : (((a : Nat) : Int) == ((a : Nat) : Int)) = true := by simp
    have x2 : (((n : Nat) : Int) == ((n : Nat) : Int)) = true := by simp
    have x3 : (((a : Nat) : Int) == ((a : Nat) : Int) && ((n : Nat) : Int) == ((n : Nat) : Int)) = true := by rw [x1, x2]; rfl
    have fin : (bif (((a : Nat) : Int) == ((a : Nat) : Int) && ((n : Nat) : Int) == ((n : Nat) : Int)) then (bif (((a : Nat) : Int) == ((a : Nat) : Int) && ((n : Nat) : Int) == ((n : Nat) : Int)) then Option.bind (F_epitaphlaw07_works N tab0) fun (y : Bool) => some y else some false) else some false) = some true := by
      rw [x3, cond_true, cond_true, hw]; rfl
    refine (condF (b := !true) rfl).trans ((bindS (dotGood_eq N c m)).trans ?_)
    by_cases hb : 1 ≤ c ∧ 1 ≤ m ∧ m < 281474976710656
    · refine (condT (decide_eq_true hb)).trans ((bindS (Cmp_eq N _ _)).trans ((bindS (pack_nat N a n ha hn)).trans ((bindS (pack_nat N c m hc hm)).trans ?_)))
      have hmod2 : m % 281474976710656 = m := Nat.mod_eq_of_lt hb.2.2
      rw [hmod, hmod2]
      have k1 : (!decide (cfDot ((a : Int), (n : Int)) ((c : Int), (m : Int)) < 0) == decide (((a * 281474976710656 + n : Nat) : Int) < ((c * 281474976710656 + m : Nat) : Int))) = false := by
        have : decide (cfDot ((a : Int), (n : Int)) ((c : Int), (m : Int)) < 0) = decide (((a * 281474976710656 + n : Nat) : Int) < ((c * 281474976710656 + m : Nat) : Int)) := by
          rw [decide_eq_decide]
          have := dot_lt ((a : Int), (n : Int)) ((c : Int), (m : Int))
          unfold ltOf at this
          rw [decide_eq_decide] at this
          rw [this]
          simp only
          omega
        rw [this]
        cases decide (((a * 281474976710656 + n : Nat) : Int) < ((c * 281474976710656 + m : Nat) : Int)) <;> rfl
      refine (condF k1).trans ((bindS (pack_nat N a n ha hn)).trans ((bindS (pack_nat N c m hc hm)).trans ?_))
      rw [hmod, hmod2]
      have k2 : (!(((a * 281474976710656 + n : Nat) : Int) == ((c * 281474976710656 + m : Nat) : Int)) == (((a : Nat) : Int) == ((c : Nat) : Int) && ((n : Nat) : Int) == ((m : Nat) : Int))) = false := by
        have : (((a * 281474976710656 + n : Nat) : Int) == ((c * 281474976710656 + m : Nat) : Int)) = (((a : Nat) : Int) == ((c : Nat) : Int) && ((n : Nat) : Int) == ((m : Nat) : Int)) := by
          rw [Bool.eq_iff_iff]
          simp
          omega
        rw [this]
        cases (((a : Nat) : Int) == ((c : Nat) : Int) && ((n : Nat) : Int) == ((m : Nat) : Int)) <;> rfl
      exact (condF k2).trans fin
    · exact (condF (decide_eq_false hb)).trans fin
  · rw [if_neg hg, decide_eq_false hg]
    by_cases h2 : 1 ≤ a ∧ 1 ≤ n % 281474976710656
    · rw [if_pos h2]
      have hne : (((a : Nat) : Int) == ((a : Nat) : Int) && ((n % 281474976710656 : Nat) : Int) == ((n : Nat) : Int)) = false := by
        have : n % 281474976710656 ≠ n := by omega
        simp
        omega
      have hne2 : (!(((a : Nat) : Int) == ((a : Nat) : Int) && ((n % 281474976710656 : Nat) : Int) == ((n : Nat) : Int))) = true := by rw [hne]; rfl
      refine (condT (b := !false) rfl).trans ((condT (b := !false) rfl).trans ((condF (b := !true) rfl).trans ((condT hne2).trans ?_)))
      rw [hw]; rfl
    · rw [if_neg h2]
      refine (condT (b := !false) rfl).trans ((condT (b := !false) rfl).trans ((condT (b := !false) rfl).trans ?_))
      rw [hw]; rfl

end Go.Proofs.Xs
/-
  DotPacks, for dots as they come.
-/
set_option linter.unusedVariables false
namespace Go.Proofs.Xs
open Go Go.Xl Go.Ab Go.Proofs Go.Proofs.Xr

theorem dotPacks_true (N : Nat) (hN : 60 ≤ N) (a b : Int × Int) (ha : tDot.In a) (hb : tDot.In b) (b1 b2 : Bool) : F_epitaphlaw07_DotPacks N a b tab0 [b1] [b2] = some true := by
  obtain ⟨a1, a2⟩ := a
  obtain ⟨c1, c2⟩ := b
  obtain ⟨x, hx, hx1⟩ := wf_u16 (x := a1) ha.1
  obtain ⟨n, hn, hn1⟩ := wf_u64 (x := a2) ha.2
  obtain ⟨y, hy, hy1⟩ := wf_u16 (x := c1) hb.1
  obtain ⟨m, hm, hm1⟩ := wf_u64 (x := c2) hb.2
  subst hx; subst hn; subst hy; subst hm
  exact dotPacks_nat N x n y m hN hx1 hn1 hy1 hm1 b1 b2

end Go.Proofs.Xs
/-
  A row's laid tables: what the premise says of them, as data of the layer.
-/
set_option linter.unusedVariables false
set_option linter.unusedSimpArgs false
namespace Go.Xl
open Go.Ab Go.RowKit

def litV : Lit → Value
  | .bool b => .bool b
  | .int k n => .int k n
  | .string s => .string ⟨s.toArray⟩
  | .float k b => .float k b
  | .nil => .nilIface

theorem trod_lit {H : Type} {enc : TypeId × Value → H} {P : Program} {w : World} {base : Nat} {sp : Nat → Bool} {held : Bool} {fuel : Nat} {t : TypeId} {cs : List Value} {l : Lit} {p : List MemPlace}
    (h : DataW.trod enc P w base sp held fuel t cs = some (.lit l, p)) : cs = [litV l] := by
  cases fuel with
  | zero => simp [DataW.trod] at h
  | succ m =>
    unfold DataW.trod at h
    split at h <;> simp_all [litV, Option.map_eq_some_iff, Option.bind_eq_some_iff]
    all_goals first
      | (obtain ⟨_, h, _⟩ := h; subst h; rfl)
      | (obtain ⟨h, _⟩ := h; subst h; rfl)
      | (subst h; rfl)
      | (split at h <;> simp_all [Option.bind_eq_some_iff, Option.map_eq_some_iff] <;> (try (obtain ⟨_, _, _, _, h⟩ := h; split at h <;> simp_all)))
      | skip

/-- a row of scalars -/
theorem laid_cells {H : Type} {enc : TypeId × Value → H} {P : Program} {w : World} {base : Nat} {sp : Nat → Bool} {held : Bool} {fuel : Nat} {t e : TypeId} {n : Nat} {cs : List Value} {ls : List Lit} {p : List MemPlace}
    (ht : P.underlying t = some (.array n e)) (he : P.cellsOf e = 1) (hn : P.cellsOf t = ls.length) (hn' : n = ls.length) (h : DataW.trod enc P w base sp held fuel t cs = some (.agg (ls.map .lit), p)) : cs = ls.map litV := by
  obtain ⟨xs, m, rfl, hx, hl, hxl, hc⟩ := DataW.trod_array ht h
  simp only [Prod.mk.injEq, DataW.agg.injEq] at hx
  apply List.ext_getElem?
  intro i
  by_cases hi : i < ls.length
  · have h1 := hc i (by omega)
    have h2 : (xs.map (·.1))[i]? = (ls.map DataW.lit)[i]? := by rw [← hx.1]
    rw [List.getElem?_eq_getElem (l := xs) (by omega)] at h1
    simp only [List.getElem?_map, List.getElem?_eq_getElem (l := xs) (show i < xs.length by omega), List.getElem?_eq_getElem hi, Option.map_some, Option.some.injEq] at h2
    generalize xs[i] = x at h1 h2
    obtain ⟨x1, x2⟩ := x
    simp only at h2
    subst h2
    have := trod_lit h1
    rw [he, Nat.mul_one] at this
    have hd : (cs.drop i)[0]? = some (litV ls[i]) := by
      have h3 : ((cs.drop i).take 1)[0]? = some (litV ls[i]) := by rw [this]; rfl
      simpa using h3
    simp only [List.getElem?_drop, Nat.add_zero] at hd
    rw [hd]
    simp [hi]
  · rw [List.getElem?_eq_none (by omega), List.getElem?_eq_none (by simpa using hi)]

/-- scalars -/
def litOf : (ty : Ty) → ty.T → Lit
  | .int k, n => .int k n
  | .u8, x => .int .u8 (x.toNat : Int)
  | .bool, b => .bool b
  | .str, l => .string l
  | _, _ => .nil

def scTy : Ty → Bool
  | .int _ | .u8 | .bool | .str => true
  | _ => false

theorem sc_ds {ty : Ty} (h : scTy ty = true) (x : ty.T) : ty.ds x = [.sc (litV (litOf ty x))] := by
  cases ty <;> simp [scTy] at h <;> rfl

theorem sc_flat {ty : Ty} (h : scTy ty = true) : ∀ (l : List ty.T), (l.map ty.ds).flatten = l.map fun x => .sc (litV (litOf ty x))
  | [] => rfl
  | x :: r => by rw [List.map_cons, List.flatten_cons, sc_flat h r, sc_ds h x]; rfl

/-- a laid table, as the layer's data -/
theorem laid_tab {P : Program} {laid : List (String × DataW Unit)} {w : World} (h : laidMetH P laid w) (n : String) (g t e k : Nat) (ty : Ty) (l : List ty.T)
    (hf : laid.filter (fun x => x.1 == n) = [(n, .agg (l.map fun x => .lit (litOf ty x)))]) (hg : P.globalNamed n = some g) (ht : (P.globals[g]?).map (·.type) = some t)
    (hu : P.underlying t = some (.array k e)) (he : P.cellsOf e = 1) (hn : P.cellsOf t = k) (hk : k = l.length) (hs : scTy ty = true) :
    RA (full w) w (XV.d (.pa ty l)).a (.pointer (some ⟨g, 0, none⟩)) := by
  have h1 := h.filter (fun x => x.1 == n)
  rw [hf] at h1
  have h2 : laidMet P [(n, .agg (l.map fun x => .lit (litOf ty x)))] w := h1
  obtain ⟨ps, hl, _, _⟩ := h2
  obtain ⟨g', t', cs, fuel, p, q, e1, e2, e3, e4, _, _⟩ := hl
  rw [hg] at e1
  cases e1
  rw [ht] at e2
  cases e2
  have e4' : DataW.trod (fun _ => ()) P w 0 (fun _ => true) false fuel t cs.toList = some (.agg ((l.map (litOf ty)).map .lit), p) := by
    rw [List.map_map]; exact e4
  have hc := laid_cells (ls := l.map (litOf ty)) hu he (by simp; omega) (by simp; omega) e4'
  have hcell : ∀ i, w.cell? ⟨g, i, none⟩ = (l.map fun x => litV (litOf ty x))[i]? := by
    intro i
    rw [World.var?_cell hg e3 i, ← Array.getElem?_toList, hc, List.map_map]; rfl
  refine .d _ _ ?_
  show RD (fullγ w) w (.ep ((l.map ty.ds).flatten)) _
  rw [sc_flat hs]
  refine .ep _ _ _ ?_ ?_
  · rw [Nat.zero_add, List.length_map]
    have h0 : w.heap[g]? = some (.cells cs ((w.heap[g]?).elim 0 (fun b => match b with | .cells _ t _ => t | _ => 0)) ((w.heap[g]?).elim (0, 0) (fun b => match b with | .cells _ _ f => f | _ => (0, 0)))) := by
      unfold World.var? at e3
      rw [hg, Option.bind_some] at e3
      split at e3
      · rename_i cs' T fr hh
        cases e3
        rw [hh]; rfl
      · cases e3
    unfold fullγ
    rw [h0]
    have : cs.toList.length = l.length := by rw [hc]; simp
    simp at this
    simp [this]
  · intro j c v hc1 hc2
    rw [Nat.zero_add, hcell j] at hc2
    simp only [List.getElem?_map, Option.map_eq_some_iff] at hc1 hc2
    obtain ⟨x, hx, rfl⟩ := hc1
    obtain ⟨y, hy, rfl⟩ := hc2
    rw [hx] at hy
    cases hy
    exact .sc _

/-- a law that looks at laid tables -/
theorem DoesG.lawAs {P : Program} {f : FuncId} {args : List AV} {gs : List (Nat × AV)} (h : DoesG P f args gs (.d (.sc (.bool true)))) {w : World} {vs : Array Value} (ha : RAs (full w) w args vs.toList) (hg : GHold (full w) w gs) :
    Calls P f vs w fun e w' => e = .returned (.bool true) ∧ Below w.heap.size w w' := by
  refine (h (full w) w vs (full_hr w) hg (by have := ha.get.1; simpa using this) fun i x v hx hv => ha.get.2 i x v hx (by simpa using hv)).mono ?_
  rintro e w' ⟨g', v, rfl, hr, h1⟩
  refine ⟨by rw [hr.sc_inv], ⟨h1.io.1, h1.io.2.2.1, h1.io.2.1, h1.base, fun b hb => (h1.frame b hb ?_).1⟩⟩
  rintro (⟨k, o, hk, _⟩ | ⟨n, hn⟩)
  · simp [X0] at hk
  · simp [full] at hn

theorem GHold.nil (g : Gh) (w : World) : GHold g w [] := by intro p hp; cases hp
theorem GHold.cons {g : Gh} {w : World} {k : Nat} {a : AV} {gs : List (Nat × AV)} (h : RA g w a (.pointer (some ⟨k, 0, none⟩))) (h' : GHold g w gs) : GHold g w ((k, a) :: gs) := by
  intro p hp
  rcases List.mem_cons.1 hp with rfl | hp
  · exact h
  · exact h' p hp

/-- an interface that holds something -/
theorem trod_iface {H : Type} {enc : TypeId × Value → H} {P : Program} {w : World} {base : Nat} {sp : Nat → Bool} {held : Bool} {fuel : Nat} {t : TypeId} {cs : List Value} {n : String} {x : DataW H} {p : List MemPlace}
    (h : DataW.trod enc P w base sp held fuel t cs = some (.iface n x, p)) : ∃ tp u, cs = [.iface tp u] := by
  cases fuel with
  | zero => simp [DataW.trod] at h
  | succ m =>
    unfold DataW.trod at h
    split at h <;> simp_all [Option.map_eq_some_iff, Option.bind_eq_some_iff]
    all_goals first
      | exact ⟨_, _, rfl⟩
      | (split at h <;> simp_all [Option.bind_eq_some_iff, Option.map_eq_some_iff] <;> (try (obtain ⟨_, _, _, _, h⟩ := h; split at h <;> simp_all)))
      | skip

theorem laid_err {P : Program} {laid : List (String × DataW Unit)} {w : World} (h : laidMetH P laid w) (n : String) (g : Nat) {s : String} {x : DataW Unit}
    (hf : laid.filter (fun x => x.1 == n) = [(n, .iface s x)]) (hh : (DataW.iface s x).handleName?.isNone = true) (hg : P.globalNamed n = some g) :
    RA (full w) w (XV.d (.pa .err [true])).a (.pointer (some ⟨g, 0, none⟩)) := by
  have h1 := h.filter (fun x => x.1 == n)
  rw [hf] at h1
  have h2 : laidMet P [(n, .iface s x)] w := by
    have := (laidMetH_iff.1 h1).1
    rwa [List.filter_cons_of_pos (by exact hh), List.filter_nil] at this
  obtain ⟨ps, hl, _, _⟩ := h2
  obtain ⟨g', t', cs, fuel, p, q, e1, e2, e3, e4, _, _⟩ := hl
  rw [hg] at e1
  cases e1
  obtain ⟨tp, u, hc⟩ := trod_iface e4
  have hcell : ∀ i, w.cell? ⟨g, i, none⟩ = [Value.iface tp u][i]? := by
    intro i
    rw [World.var?_cell hg e3 i, ← Array.getElem?_toList, hc]
  refine .d _ _ ?_
  show RD (fullγ w) w (.ep ((([true] : List Bool).map Ty.err.ds).flatten)) _
  refine .ep _ _ _ ?_ ?_
  · have h0 : w.heap[g]? = some (.cells cs ((w.heap[g]?).elim 0 (fun b => match b with | .cells _ t _ => t | _ => 0)) ((w.heap[g]?).elim (0, 0) (fun b => match b with | .cells _ _ f => f | _ => (0, 0)))) := by
      unfold World.var? at e3
      rw [hg, Option.bind_some] at e3
      split at e3
      · rename_i cs' T fr hh
        cases e3
        rw [hh]; rfl
      · cases e3
    unfold fullγ
    rw [h0]
    have : cs.toList.length = 1 := by rw [hc]; rfl
    simp at this
    simp [this]
    decide
  · intro j c v hc1 hc2
    rw [Nat.zero_add, hcell j] at hc2
    cases j with
    | zero =>
      simp at hc2
      subst hc2
      simp [Ty.ds] at hc1
      subst hc1
      exact .any _ _ ⟨tp, u, rfl⟩ rfl
    | succ j => simp at hc2

end Go.Xl
