import Derived.Test.YtoangfbpdedofaaDoorZe
import Derived.Lib.IndexMore
import Derived.Lib.RabinKarp
import Derived.Test.YtoangfbpdedofaaDoorZd
import Derived.OpenShut
import Derived.FnData
import Derived.LaidSub
import Derived.Shelf.Vars
import Derived.HandedShaped
set_option linter.unusedVariables false
set_option linter.unusedSimpArgs false
set_option maxRecDepth 100000
namespace Go.Proofs.Xs
open Go Go.Xl Go.Ab Go.Proofs Go.Proofs.Xr
theorem unpack_nat (N a n : Nat) (ha : a < 65536) : F_dot_Unpack N ((a * 281474976710656 + n % 281474976710656 : Nat) : Int) = some (if 1 ≤ a ∧ 1 ≤ n % 281474976710656 then (((a : Int), ((n % 281474976710656 : Nat) : Int)), true) else ((0, 0), false)) := by
  unfold F_dot_Unpack
  have e1 : (a * 281474976710656 + n % 281474976710656) / 281474976710656 = a := by omega
  have e2 : (a * 281474976710656 + n % 281474976710656) % 281474976710656 = n % 281474976710656 := by omega
  rw [split_eq N _ (by omega), e1, e2, Option.bind_some, dotGood_eq, Option.bind_some]
  have hlt : n % 281474976710656 < 281474976710656 := by omega
  by_cases h : 1 ≤ a ∧ 1 ≤ n % 281474976710656
  · rw [if_pos h, decide_eq_true ⟨h.1, h.2, hlt⟩]; rfl
  · rw [if_neg h, decide_eq_false (fun hh => h ⟨hh.1, hh.2.1⟩)]; rfl
end Go.Proofs.Xs
set_option linter.unusedVariables false
set_option linter.unusedSimpArgs false
set_option maxRecDepth 100000
namespace Go.Proofs.Xs
open Go Go.Xl Go.Ab Go.Proofs Go.Proofs.Xr
end Go.Proofs.Xs
set_option linter.unusedVariables false
namespace Go.Proofs.Xs
open Go Go.Xl Go.Ab Go.Proofs Go.Proofs.Xr
end Go.Proofs.Xs
set_option linter.unusedVariables false
set_option linter.unusedSimpArgs false
set_option maxRecDepth 100000
namespace Go.Proofs.Xv
open Go Go.Xl Go.Ab Go.Proofs Go.Proofs.Xr Go.Proofs.Xs
def textOk (l : List UInt8) : Bool := decide (l.length ≤ 60) && l.all fun c => !decide (c < 32) && !decide (126 < c)
theorem all_drop {l : List UInt8} {p : UInt8 → Bool} {k : Nat} (hk : k < l.length) : (l.drop k).all p = (p l[k] && (l.drop (k + 1)).all p) := by
  rw [List.drop_eq_getElem_cons hk, List.all_cons]
theorem text_eq (N : Nat) (l : List UInt8) (hN : l.length < N) (hl : l.length < 9223372036854775808) : F_field_Text N l = some (textOk l) := by
  unfold F_field_Text textOk
  by_cases h : l.length ≤ 60
  · rw [decide_eq_false (by omega), cond_false, decide_eq_true h, Bool.true_and]
    refine (scan_eq l.length (fun k => some ((l.drop k).all fun c => !decide (c < 32) && !decide (126 < c))) 0 ?_ ?_ N hN).trans (by simp)
    · intro rec k _ hk hr
      simp only [decide_eq_true (show (k : Int) < (l.length : Int) by omega), cond_true, at?_nat, List.getElem?_eq_getElem hk, Option.bind_some, i64_succ (show k + 1 < 9223372036854775808 by omega), hr]
      rw [all_drop hk]
      cases decide (l[k] < 32) <;> cases decide (126 < l[k]) <;> simp
    · intro rec k hk
      simp only [decide_eq_false (show ¬ (k : Int) < (l.length : Int) by omega), cond_false]
      rw [List.drop_eq_nil_of_le hk]; rfl
  · rw [decide_eq_true (by omega), cond_true, decide_eq_false h, Bool.false_and]
theorem refText_eq (N : Nat) (l : List UInt8) (hN : l.length < N) (hl : l.length < 9223372036854775808) : F_epitaphref11_Text N l = some (textOk l) := by
  unfold F_epitaphref11_Text textOk
  refine (scan_eq l.length (fun k => some (((l.drop k).all fun c => !decide (c < 32) && !decide (126 < c)) && decide (l.length ≤ 60))) 0 ?_ ?_ N hN).trans (by simp [Bool.and_comm])
  · intro rec k _ hk hr
    simp only [decide_eq_true (show (k : Int) < (l.length : Int) by omega), cond_true, at?_nat, List.getElem?_eq_getElem hk, Option.bind_some, i64_succ (show k + 1 < 9223372036854775808 by omega), hr]
    rw [all_drop hk]
    cases decide (l[k] < 32) <;> cases decide (126 < l[k]) <;> simp
  · intro rec k hk
    simp only [decide_eq_false (show ¬ (k : Int) < (l.length : Int) by omega), cond_false]
    rw [List.drop_eq_nil_of_le hk]
    simp only [List.all_nil, Bool.true_and, Option.some.injEq]
    rw [decide_eq_decide]; omega
def mk (c : UInt8) : Bool := c == 34 || c == 92
def fail : List UInt8 × List UInt8 × Bool := ([], [], false)
def unq : List UInt8 → List UInt8 → List UInt8 × List UInt8 × Bool
  | [], _ => fail
  | c :: r, out => if c = 34 then (if textOk out then (out, r, true) else fail)
    else if c = 92 then (match r with
      | [] => fail
      | d :: r' => if mk d then unq r' (out ++ [d]) else fail)
    else unq r (out ++ [c])
theorem marked_eq (N : Nat) (c : UInt8) : F_field_marked N c = some (mk c) := by
  unfold F_field_marked mk
  cases c == 34 <;> rfl
theorem fits_eq (N : Nat) (a b : List UInt8) (hN : a.length < N) (hl : a.length < 1000000000) : F_field_fits N a b = some (if textOk a then (a, b, true) else fail) := by
  unfold F_field_fits
  rw [text_eq N a hN (by omega), Option.bind_some]
  cases textOk a <;> rfl
theorem cut1 {k n : Nat} (h : k < n) (hn : n < 1000000000) : cutOk (IntKind.i64.wrap ((k : Int) + 1)) (n : Int) n = true := by
  rw [i64_succ (by omega)]; simp [cutOk]; omega
theorem fit1 {n : Nat} (h : n < 1000000000) : fitsB (n + 1) 1 = true := fit (by omega) (by omega)
theorem hasP (N : Nat) (l : List UInt8) : F_strings_HasPrefix N l [34] = some (match l with | [] => false | c :: _ => c == 34) := by
  unfold F_strings_HasPrefix F_internal_stringslite_HasPrefix
  cases l with
  | nil => rfl
  | cons c r =>
    have h1 : decide (((([34] : List UInt8)).length : Int) ≤ ((c :: r).length : Int)) = true := by simp; omega
    have h2 : cutOk 0 (((([34] : List UInt8)).length : Nat) : Int) (c :: r).length = true := by simp [cutOk]; omega
    rw [h1, h2]
    simp
theorem unq_step (l out : List UInt8) (k : Nat) (hk : k < l.length) : unq (l.drop k) out = if l[k] = 34 then (if textOk out then (out, l.drop (k + 1), true) else fail)
    else if l[k] = 92 then (match l.drop (k + 1) with
      | [] => fail
      | d :: r' => if mk d then unq r' (out ++ [d]) else fail)
    else unq (l.drop (k + 1)) (out ++ [l[k]]) := by
  rw [List.drop_eq_getElem_cons hk, unq.eq_def]
def unqT (l : List UInt8) : List UInt8 × List UInt8 × Bool := match l with | [] => fail | c :: r => if c = 34 then unq r [] else fail
theorem unquote_eq (N : Nat) (l : List UInt8) (hl : l.length ≤ 10000000) (hN : 1000000000 < N) : F_field_Unquote N l = some (unqT l) := by
  unfold F_field_Unquote
  rw [hasP]
  cases l with
  | nil => rfl
  | cons c0 r0 =>
    show _ = some (if c0 = 34 then unq r0 [] else fail)
    simp only [Option.bind_some]
    by_cases hc : c0 ≠ 34
    · have : (c0 == 34) = false := by simpa using hc
      rw [this, if_neg hc]; rfl
    · have hc : c0 = 34 := Classical.not_not.1 hc
      have : (c0 == 34) = true := by simpa using hc
      rw [this, if_pos hc]
      simp only [Bool.not_true, cond_false]
      generalize hL : c0 :: r0 = L at hl ⊢
      have hd1 : r0 = L.drop 1 := by rw [← hL]; rfl
      have hlen1 : 1 ≤ L.length := by rw [← hL]; simp
      rw [hd1]
      clear hL hd1
      refine iter_eq (G := fun z => some (unq (L.drop z.1.2.1.toNat) z.1.1)) (fun n z => ∃ (k : Nat) (out : List UInt8), z = ((out, (k : Int), ()), (), (), ()) ∧ k ≤ L.length ∧ out.length ≤ k ∧ n = L.length - k) ?_ N (L.length - 1) _ ⟨1, [], rfl, hlen1, by simp, rfl⟩ (by omega)
      rintro n z rec ⟨k, out, rfl, h1, h2, h3⟩ ih
      simp only [Int.toNat_natCast]
      by_cases hk : k < L.length
      · rw [decide_eq_true (by omega), cond_true]
        simp only [at?_nat, List.getElem?_eq_getElem hk, Option.bind_some]
        rw [unq_step L out k hk, cut1 hk (by omega), cond_true, fits_eq N out _ (by omega) (by omega), Option.bind_some, i64_succ (by omega), Int.toNat_natCast]
        generalize hc : L[k] = c
        by_cases h34 : c = 34
        · rw [if_pos h34, show (c == 34) = true by simpa using h34]; rfl
        · rw [if_neg h34, show (c == 34) = false by simpa using h34, cond_false]
          by_cases h92 : c = 92
          · rw [if_pos h92, show (c == 92) = true by simpa using h92, cond_true]
            by_cases hk2 : k + 1 < L.length
            · rw [show ((((k + 1 : Nat) : Int)) == (L.length : Int)) = false by simp; omega, cond_false, at?_nat, List.getElem?_eq_getElem hk2, Option.bind_some, marked_eq, Option.bind_some, List.drop_eq_getElem_cons hk2]
              cases hm : mk L[k + 1] with
              | false => simp [hm]; rfl
              | true =>
                simp only [hm, Bool.not_true, cond_false, if_true, List.length_singleton, at?_nat, List.getElem?_eq_getElem hk2, Option.bind_some]
                rw [fit1 (by omega), cond_true, i64_succ (by omega)]
                exact ih (L.length - (k + 2)) _ (by omega) ⟨k + 2, _, rfl, by omega, by simp; omega, rfl⟩
            · rw [show ((((k + 1 : Nat) : Int)) == (L.length : Int)) = true by simp; omega, cond_true, List.drop_eq_nil_of_le (by omega)]; rfl
          · rw [if_neg h92, show (c == 92) = false by simpa using h92, cond_false]
            simp only [List.length_singleton]
            rw [fit1 (by omega), cond_true]
            exact ih (L.length - (k + 1)) _ (by omega) ⟨k + 1, _, rfl, by omega, by simp; omega, rfl⟩
      · rw [decide_eq_false (by omega), cond_false, List.drop_eq_nil_of_le (by omega)]; rfl
theorem one {L : List UInt8} {k : Nat} (hk : k < L.length) : List.take (k + 1 - k) (List.drop k L) = [L[k]] := by
  rw [Nat.add_sub_cancel_left, List.drop_eq_getElem_cons hk]; rfl
theorem cut2 {k n : Nat} (h : k < n) (hn : n < 1000000000) : cutOk (k : Int) ((k + 1 : Nat) : Int) n = true := by
  simp [cutOk]; omega
def qs : List UInt8 → List UInt8
  | [] => []
  | c :: r => (if mk c then [92, c] else [c]) ++ qs r
def quo (l : List UInt8) : List UInt8 := 34 :: qs l ++ [34]
theorem qs_app : ∀ (a b : List UInt8), qs (a ++ b) = qs a ++ qs b
  | [], b => rfl
  | c :: r, b => by simp only [List.cons_append, qs, qs_app r b, List.append_assoc]
theorem qs_len : ∀ (l : List UInt8), (qs l).length ≤ 2 * l.length
  | [] => by simp [qs]
  | c :: r => by
    have := qs_len r
    simp only [qs, List.length_append, List.length_cons]
    split <;> simp <;> omega
theorem write_eq (N : Nat) (y : UInt8) (b : Bool) (l : List UInt8) (h : l.length < 1000000000) : F_strings_Builder_WriteByte N y b l = some ((false, ()), ((false, l ++ [y], ()), ()), (), ()) := by
  unfold F_strings_Builder_WriteByte F_strings_Builder_copyCheck
  cases b <;> simp [fit1 h]
theorem string_eq (N : Nat) (b : Bool) (l : List UInt8) (h : l.length < 1000000000) : F_strings_Builder_String N b l = some ((l, ()), ((b, l, ()), ()), (), ()) := by
  unfold F_strings_Builder_String
  cases l with
  | nil => rfl
  | cons a r =>
    simp only [listCase]
    rw [show ((((a :: r).length : Nat) : Int) == (((a :: r).length : Nat) : Int)) = true by simp, cond_true, decide_eq_true (by omega), cond_true]
theorem take_succ' {l : List UInt8} {k : Nat} (hk : k < l.length) : l.take (k + 1) = l.take k ++ [l[k]] := by
  rw [List.take_add_one, List.getElem?_eq_getElem hk]; rfl
theorem quote_eq (N : Nat) (l : List UInt8) (hl : l.length ≤ 10000000) (hN : 1000000000 < N) : F_field_Quote N l = some (quo l) := by
  unfold F_field_Quote
  simp only [joinAt]
  rw [write_eq N 34 true [] (by simp), Option.bind_some]
  simp only [List.nil_append]
  have hb : ∀ k, (34 :: qs (l.take k)).length ≤ 20000001 := fun k => by
    have := qs_len (l.take k)
    rw [List.length_take] at this
    simp only [List.length_cons]; omega
  refine iter_eq (G := fun _ => some (quo l)) (fun n z => ∃ k : Nat, z = (((k : Int), ()), ((false, 34 :: qs (l.take k), ()), ()), (), ()) ∧ k ≤ l.length ∧ n = l.length - k) ?_ N l.length _ ⟨0, rfl, by omega, rfl⟩ (by omega)
  rintro n z rec ⟨k, rfl, h1, h2⟩ ih
  dsimp only
  by_cases hk : k < l.length
  · rw [decide_eq_true (by omega), cond_true]
    simp only [at?_nat, List.getElem?_eq_getElem hk, Option.bind_some, marked_eq]
    have hbk := hb k
    rw [write_eq N 92 false _ (by omega), Option.bind_some, i64_succ (by omega)]
    have e : 34 :: qs (l.take (k + 1)) = 34 :: qs (l.take k) ++ (if mk l[k] then [92, l[k]] else [l[k]]) := by
      rw [take_succ' hk, qs_app]; simp [qs]
    have hr : rec (((((k + 1 : Nat) : Int)), ()), ((false, 34 :: qs (l.take (k + 1)), ()), ()), (), ()) = some (quo l) := ih (l.length - (k + 1)) _ (by omega) ⟨k + 1, rfl, by omega, rfl⟩
    rw [e] at hr
    cases hm : mk l[k] with
    | true =>
      rw [hm, if_pos rfl] at hr
      simp only [cond_true]
      rw [write_eq N _ false _ (by simp at hbk ⊢; omega), Option.bind_some]
      simpa using hr
    | false =>
      rw [hm, if_neg (by simp)] at hr
      simp only [cond_false]
      rw [write_eq N _ false _ (by omega), Option.bind_some]
      exact hr
  · have : k = l.length := by omega
    subst this
    have hbk := hb l.length
    rw [decide_eq_false (by omega), cond_false, write_eq N 34 false _ (by omega), Option.bind_some, string_eq N false _ (by simp at hbk ⊢; omega), Option.bind_some, List.take_length]
    rfl
abbrev T5 : List (List UInt8) := [[110, 97, 109, 101], [112, 104, 111, 110, 101], [109, 97, 105, 108], [116, 111, 119, 110], [110, 111, 116, 101]]
def ofS (s : List UInt8) : UInt8 × Bool :=
  bif [110, 97, 109, 101] == s then (1, true) else bif [112, 104, 111, 110, 101] == s then (2, true) else bif [109, 97, 105, 108] == s then (3, true) else bif [116, 111, 119, 110] == s then (4, true) else bif [110, 111, 116, 101] == s then (5, true) else (0, false)
def ofO (s : List UInt8) : Option (UInt8 × Bool) :=
  bif [110, 97, 109, 101] == s then some (1, true) else bif [112, 104, 111, 110, 101] == s then some (2, true) else bif [109, 97, 105, 108] == s then some (3, true) else bif [116, 111, 119, 110] == s then some (4, true) else bif [110, 111, 116, 101] == s then some (5, true) else some (0, false)
theorem ofO_eq (s : List UInt8) : ofO s = some (ofS s) := by
  unfold ofO ofS
  cases [110, 97, 109, 101] == s <;> cases [112, 104, 111, 110, 101] == s <;> cases [109, 97, 105, 108] == s <;> cases [116, 111, 119, 110] == s <;> cases [110, 111, 116, 101] == s <;> rfl
theorem of_eq (N : Nat) (s : List UInt8) (hN : 10 < N) : F_field_Of N s T5 = some (ofS s) := by
  obtain ⟨M, rfl⟩ : ∃ M, N = M + 6 := ⟨N - 6, by omega⟩
  rw [← ofO_eq]
  kernel_rfl
theorem refOf_eq (N : Nat) (s : List UInt8) (hN : 10 < N) : F_epitaphref11_Of N s = some (ofS s) := by
  obtain ⟨M, rfl⟩ : ∃ M, N = M + 6 := ⟨N - 6, by omega⟩
  rw [← ofO_eq]
  kernel_rfl
theorem u8_all {p : UInt8 → Prop} (h : ∀ n : Nat, n < 256 → p (UInt8.ofNat n)) (x : UInt8) : p x := by
  have := h x.toNat x.toNat_lt
  rwa [UInt8.ofNat_toNat] at this
theorem good_eq (N : Nat) (f : UInt8) : F_field_Good N f = some (decide (1 ≤ f) && decide (f ≤ 5)) := by
  unfold F_field_Good
  cases decide (1 ≤ f) <;> rfl
theorem refGood_eq (N : Nat) (f : UInt8) : F_epitaphref11_Good N f = some (decide (1 ≤ f) && decide (f ≤ 5)) := by
  unfold F_epitaphref11_Good
  cases decide (1 ≤ f) <;> rfl
theorem unq_cons (c : UInt8) (r out : List UInt8) : unq (c :: r) out = if c = 34 then (if textOk out then (out, r, true) else fail)
    else if c = 92 then (match r with
      | [] => fail
      | d :: r' => if mk d then unq r' (out ++ [d]) else fail)
    else unq r (out ++ [c]) := by rw [unq.eq_def]
theorem unq_qs : ∀ (s out rest : List UInt8), unq (qs s ++ 34 :: rest) out = if textOk (out ++ s) then (out ++ s, rest, true) else fail
  | [], out, rest => by simp only [qs, List.nil_append, List.append_nil]; rw [unq_cons]; simp
  | c :: s, out, rest => by
    have ih := unq_qs s (out ++ [c]) rest
    simp only [List.append_assoc, List.cons_append, List.nil_append] at ih
    cases hm : mk c with
    | true =>
      simp only [qs, hm, if_true, List.cons_append, List.nil_append, List.append_assoc]
      rw [unq_cons]
      simp only [show ¬ (92 : UInt8) = 34 by decide, if_false, if_true, hm]
      exact ih
    | false =>
      have h34 : c ≠ 34 := by rintro rfl; exact absurd hm (by decide)
      have h92 : c ≠ 92 := by rintro rfl; exact absurd hm (by decide)
      simp only [qs, hm, if_false, List.cons_append, List.nil_append, List.append_assoc, Bool.false_eq_true]
      rw [unq_cons, if_neg h34, if_neg h92]
      exact ih
theorem unq_back : ∀ (n : Nat) (r out a b : List UInt8), r.length ≤ n → unq r out = (a, b, true) → ∃ c, a = out ++ c ∧ r = qs c ++ 34 :: b
  | n, [], out, a, b, _, h => by simp [unq, fail] at h
  | 0, c :: r, out, a, b, hn, h => by simp at hn
  | n + 1, c :: r, out, a, b, hn, h => by
    simp only [List.length_cons] at hn
    rw [unq_cons] at h
    by_cases h34 : c = 34
    · rw [if_pos h34] at h
      by_cases ht : textOk out = true
      · rw [if_pos ht] at h
        simp only [Prod.mk.injEq, and_true] at h
        obtain ⟨rfl, rfl⟩ := h
        exact ⟨[], by simp, by rw [h34]; rfl⟩
      · rw [if_neg ht] at h; simp [fail] at h
    · rw [if_neg h34] at h
      by_cases h92 : c = 92
      · rw [if_pos h92] at h
        cases r with
        | nil => simp [fail] at h
        | cons d r' =>
          simp only at h
          by_cases hm : mk d = true
          · rw [if_pos hm] at h
            simp only [List.length_cons] at hn
            obtain ⟨e, h1, h2⟩ := unq_back n r' _ a b (by omega) h
            refine ⟨d :: e, by rw [h1]; simp, ?_⟩
            simp only [qs, hm, if_true, List.cons_append, List.nil_append]
            rw [h92, h2]
          · rw [if_neg hm] at h; simp [fail] at h
      · rw [if_neg h92] at h
        obtain ⟨e, h1, h2⟩ := unq_back n r _ a b (by omega) h
        refine ⟨c :: e, by rw [h1]; simp, ?_⟩
        have hm : mk c = false := by
          unfold mk
          rw [show (c == 34) = false by simpa using h34, show (c == 92) = false by simpa using h92]; rfl
        simp only [qs, hm, Bool.false_eq_true, if_false, List.cons_append, List.nil_append]
        rw [h2]
theorem unqT_quo (s rest : List UInt8) : unqT (quo s ++ rest) = if textOk s then (s, rest, true) else fail := by
  have : quo s ++ rest = 34 :: (qs s ++ 34 :: rest) := by simp [quo]
  rw [this]
  simp only [unqT, if_true]
  have := unq_qs s [] rest
  simpa using this
theorem unqT_back {l a b : List UInt8} (h : unqT l = (a, b, true)) : quo a ++ b = l ∧ a.length ≤ l.length := by
  cases l with
  | nil => simp [unqT, fail] at h
  | cons c r =>
    simp only [unqT] at h
    by_cases hc : c = 34
    · rw [if_pos hc] at h
      obtain ⟨e, h1, h2⟩ := unq_back r.length r [] a b (Nat.le_refl _) h
      simp only [List.nil_append] at h1
      subst h1
      have hl : ∀ l : List UInt8, l.length ≤ (qs l).length := by
        intro l
        induction l with
        | nil => simp [qs]
        | cons x l ih => simp only [qs, List.length_append, List.length_cons]; split <;> simp <;> omega
      refine ⟨by rw [hc, h2]; simp [quo], ?_⟩
      have := hl a
      rw [h2]; simp; omega
    · rw [if_neg hc] at h; simp [fail] at h
theorem refUnquote_eq (N : Nat) (l : List UInt8) (hl : l.length ≤ 10000) (hN : 1000000000 < N) : F_epitaphref11_Unquote N l = some (unqT l) := by
  unfold F_epitaphref11_Unquote
  cases l with
  | nil => rfl
  | cons c0 r0 =>
    show _ = some (if c0 = 34 then unq r0 [] else fail)
    have e0 : ((c0 :: r0) == ([] : List UInt8)) = false := rfl
    rw [e0, cond_false]
    simp only [List.getElem?_cons_zero, Option.bind_some]
    by_cases hc : c0 ≠ 34
    · have : (c0 != 34) = true := by simpa using hc
      rw [this, if_neg hc]; rfl
    · have hc : c0 = 34 := Classical.not_not.1 hc
      have : (c0 != 34) = false := by simpa using hc
      rw [this, if_pos hc, cond_false]
      generalize hL : c0 :: r0 = L at hl ⊢
      have hd1 : r0 = L.drop 1 := by rw [← hL]; rfl
      have hlen1 : 1 ≤ L.length := by rw [← hL]; simp
      rw [hd1]
      clear hL hd1
      refine iter_eq (G := fun z => some (unq (L.drop z.1.2.1.toNat) z.1.1)) (fun n z => ∃ (k : Nat) (out : List UInt8), z = ((out, (k : Int), ()), (), (), ()) ∧ k ≤ L.length ∧ out.length ≤ k ∧ n = L.length - k) ?_ N (L.length - 1) _ ⟨1, [], rfl, hlen1, by simp, rfl⟩ (by omega)
      rintro n z rec ⟨k, out, rfl, h1, h2, h3⟩ ih
      simp only [Int.toNat_natCast]
      by_cases hk : k < L.length
      · rw [decide_eq_true (by omega), cond_true]
        simp only [at?_nat, List.getElem?_eq_getElem hk, Option.bind_some, joinAt]
        rw [unq_step L out k hk, cut1 hk (by omega), cond_true, refText_eq N out (by omega) (by omega), Option.bind_some, i64_succ (by omega), Int.toNat_natCast]
        generalize hc : L[k] = c
        by_cases h34 : c = 34
        · rw [if_pos h34, show (c == 34) = true by simpa using h34]
          cases textOk out <;> rfl
        · rw [if_neg h34, show (c == 34) = false by simpa using h34, cond_false]
          by_cases h92 : c = 92
          · rw [if_pos h92, show (c == 92) = true by simpa using h92, cond_true]
            by_cases hk2 : k + 1 < L.length
            · rw [decide_eq_false (by omega), cond_false, at?_nat, List.getElem?_eq_getElem hk2, Option.bind_some, List.drop_eq_getElem_cons hk2]
              rw [i64_succ (by omega), cut2 hk2 (by omega), cond_true]
              have h1t : List.take (k + 1 + 1 - (k + 1)) (L[k + 1] :: List.drop (k + 1 + 1) L) = [L[k + 1]] := by rw [Nat.add_sub_cancel_left]; rfl
              simp only [Int.toNat_natCast, h1t]
              rw [decide_eq_true (show out.length + [L[k + 1]].length ≤ 4611686018427387904 by simp; omega), cond_true]
              have hr : rec ((out ++ [L[k + 1]], ((k + 1 + 1 : Nat) : Int), ()), (), (), ()) = some (unq (L.drop (k + 1 + 1)) (out ++ [L[k + 1]])) := ih (L.length - (k + 2)) _ (by omega) ⟨k + 2, _, rfl, by omega, by simp; omega, rfl⟩
              rw [hr, Option.bind_some]
              unfold mk
              generalize L[k + 1] = d
              by_cases d34 : d = 34
              · subst d34; rfl
              · rw [show (d != 34) = true by simpa using d34, show (d == 34) = false by simpa using d34, cond_true, Bool.false_or]
                by_cases d92 : d = 92
                · subst d92; rfl
                · rw [show (d != 92) = true by simpa using d92, show (d == 92) = false by simpa using d92]; rfl
            · rw [decide_eq_true (by omega), cond_true, List.drop_eq_nil_of_le (by omega)]; rfl
          · rw [if_neg h92, show (c == 92) = false by simpa using h92, cond_false]
            rw [cut2 hk (by omega), cond_true]
            simp only [Int.toNat_natCast, one hk, hc]
            rw [decide_eq_true (show out.length + [c].length ≤ 4611686018427387904 by simp; omega), cond_true]
            exact ih (L.length - (k + 1)) _ (by omega) ⟨k + 1, _, rfl, by omega, by simp; omega, rfl⟩
      · rw [decide_eq_false (by omega), cond_false, List.drop_eq_nil_of_le (by omega)]; rfl
theorem writeS_eq (N : Nat) (y : List UInt8) (b : Bool) (l : List UInt8) (h : l.length + y.length < 1000000000) : F_strings_Builder_WriteString N y b l = some (((y.length : Int), false, ()), ((false, l ++ y, ()), ()), (), ()) := by
  unfold F_strings_Builder_WriteString F_strings_Builder_copyCheck
  have hf : fitsB (l.length + y.length) 1 = true := fit (by omega) (by omega)
  cases b <;> simp [hf]
def nm (f : UInt8) : List UInt8 := if f = 1 then [110, 97, 109, 101] else if f = 2 then [112, 104, 111, 110, 101] else if f = 3 then [109, 97, 105, 108] else if f = 4 then [116, 111, 119, 110] else if f = 5 then [110, 111, 116, 101] else []
theorem nm_eq (N : Nat) (f : UInt8) : F_field_Name N f T5 = some (nm f) := by
  have h : ∀ n : Nat, n < 256 → F_field_Name 0 (UInt8.ofNat n) T5 = some (nm (UInt8.ofNat n)) := by decide +kernel
  exact u8_all (p := fun f => F_field_Name 0 f T5 = some (nm f)) h f
theorem nm_len (f : UInt8) : (nm f).length ≤ 5 := by
  unfold nm
  repeat' split
  all_goals decide
def goodF (f : UInt8) : Bool := decide (1 ≤ f) && decide (f ≤ 5)
end Go.Proofs.Xv
set_option linter.unusedVariables false
set_option linter.unusedSimpArgs false
set_option maxRecDepth 100000
namespace Go.Proofs.Xx
open Go Go.Xl Go.Ab Go.Proofs Go.Proofs.Xr Go.Proofs.Xs Go.Proofs.Xv
abbrev Str := List UInt8
abbrev Ln := UInt8 × Str × List Str
abbrev Cd := Int × List Ln
def prv {α : Type} (l : List α) (k : Nat) : Option α := if k = 0 then none else l[k - 1]?
def aft (p : Option Str) (s : Str) : Bool := match p with | none => true | some q => Op.bytesLess q s
def moreOk (t : Str) : Option Str → List Str → Bool
  | _, [] => true
  | p, s :: r => textOk s && (!(s == t) && (aft p s && moreOk t (some s) r))
def lnOk (x : Ln) : Bool := moreOk x.2.1 none x.2.2 && (goodF x.1 && textOk x.2.1)
def aftF (p : Option UInt8) (f : UInt8) : Bool := match p with | none => true | some q => !decide (f ≤ q)
def lnsOk : Option UInt8 → List Ln → Bool
  | _, [] => true
  | p, x :: r => lnOk x && (aftF p x.1 && lnsOk (some x.1) r)
def cidOk (v : Nat) : Bool := decide (1 ≤ v / 281474976710656) && decide (1 ≤ v % 281474976710656)
def goodC (c : Cd) : Bool := lnsOk none c.2 && (cidOk c.1.toNat && decide (0 < c.2.length))
theorem prv_zero {α : Type} (l : List α) : prv l 0 = none := rfl
theorem prv_succ {α : Type} {l : List α} {k : Nat} (h : k < l.length) : prv l (k + 1) = some l[k] := by
  unfold prv
  rw [if_neg (by omega), Nat.add_sub_cancel, List.getElem?_eq_getElem h]
theorem moreOk_drop (t : Str) (l : List Str) {k : Nat} (h : k < l.length) : moreOk t (prv l k) (l.drop k) = (textOk l[k] && (!(l[k] == t) && (aft (prv l k) l[k] && moreOk t (prv l (k + 1)) (l.drop (k + 1))))) := by
  rw [List.drop_eq_getElem_cons h, moreOk, prv_succ h]
theorem lnsOk_drop (l : List Ln) {k : Nat} (h : k < l.length) : lnsOk ((prv l k).map (·.1)) (l.drop k) = (lnOk l[k] && (aftF ((prv l k).map (·.1)) l[k].1 && lnsOk ((prv l (k + 1)).map (·.1)) (l.drop (k + 1)))) := by
  rw [List.drop_eq_getElem_cons h, lnsOk, prv_succ h]; rfl
def StB (N : Nat) (s : Str) : Prop := s.length < N ∧ s.length < 9223372036854775808
def LnB (N : Nat) (x : Ln) : Prop := StB N x.2.1 ∧ x.2.2.length < N ∧ x.2.2.length < 9223372036854775807 ∧ ∀ s ∈ x.2.2, StB N s
def CdB (N : Nat) (c : Cd) : Prop := c.2.length < N ∧ c.2.length < 9223372036854775807 ∧ (∀ x ∈ c.2, LnB N x) ∧ ∃ v : Nat, c.1 = (v : Int) ∧ v < 18446744073709551616
theorem at_pred {α : Type} (l : List α) {k : Nat} (h : k + 1 < l.length) (hl : l.length < 9223372036854775807) : at? l (IntKind.i64.wrap (((k + 1 : Nat) : Int) - 1)) = some (l[k]'(by omega)) := by
  rw [i64_pred (by omega) (by omega), Nat.add_sub_cancel, at?_nat, List.getElem?_eq_getElem (by omega)]
theorem cardLine_eq (N : Nat) (x : Ln) (h : LnB N x) : F_card_line N x = some (lnOk x) := by
  obtain ⟨⟨h1, h2⟩, h3, h4, h5⟩ := h
  unfold F_card_line
  refine (scan_eq x.2.2.length (fun k => some (moreOk x.2.1 (prv x.2.2 k) (x.2.2.drop k) && (goodF x.1 && textOk x.2.1))) 0 ?_ ?_ N h3).trans (by rfl)
  · intro rec k _ hk hr
    have hb := h5 _ (List.getElem_mem hk)
    simp only [decide_eq_true (show (k : Int) < (x.2.2.length : Int) by omega), cond_true, at?_nat, List.getElem?_eq_getElem hk, Option.bind_some, i64_succ (show k + 1 < 9223372036854775808 by omega), hr]
    rw [Xv.text_eq N _ hb.1 (by have := hb.2; omega), Option.bind_some, moreOk_drop _ _ hk]
    cases textOk x.2.2[k] with
    | false => rfl
    | true =>
    cases x.2.2[k] == x.2.1 with
    | true => rfl
    | false =>
    simp only [Bool.not_true, cond_false, Bool.true_and, Bool.not_false]
    cases k with
    | zero => rfl
    | succ k =>
      rw [decide_eq_true (by omega), cond_true, at_pred _ hk h4, Option.bind_some, prv_succ (k := k) (by omega)]
      simp only [aft]
      cases Op.bytesLess x.2.2[k] x.2.2[k + 1] <;> rfl
  · intro rec k hk
    simp only [decide_eq_false (show ¬ (k : Int) < (x.2.2.length : Int) by omega), cond_false]
    rw [Xv.good_eq, Option.bind_some, List.drop_eq_nil_of_le hk]
    simp only [moreOk, Bool.true_and]
    rw [Xv.text_eq N _ h1 (by omega), Option.bind_some]
    unfold goodF
    cases (decide (1 ≤ x.1) && decide (x.1 ≤ 5)) <;> rfl
theorem unpack_cid (N v : Nat) (hv : v < 18446744073709551616) : ∃ d, F_dot_Unpack N (v : Int) = some (d, cidOk v) := by
  have h := unpack_nat N (v / 281474976710656) (v % 281474976710656) (by omega)
  have e : v / 281474976710656 * 281474976710656 + v % 281474976710656 % 281474976710656 = v := by
    rw [Nat.mod_mod]; omega
  rw [e, Nat.mod_mod] at h
  rw [h]
  unfold cidOk
  by_cases hh : 1 ≤ v / 281474976710656 ∧ 1 ≤ v % 281474976710656
  · rw [if_pos hh, decide_eq_true hh.1, decide_eq_true hh.2]; exact ⟨_, rfl⟩
  · rw [if_neg hh]
    refine ⟨(0, 0), ?_⟩
    have : (decide (1 ≤ v / 281474976710656) && decide (1 ≤ v % 281474976710656)) = false := by
      rw [Bool.and_eq_false_iff, decide_eq_false_iff_not, decide_eq_false_iff_not]
      omega
    rw [this]
theorem refSplit_eq (N v : Nat) (hv : v < 18446744073709551616) : F_epitaphref01_Split N (v : Int) = some (((v / 281474976710656 : Nat) : Int), ((v % 281474976710656 : Nat) : Int)) := by
  unfold F_epitaphref01_Split
  rw [show ((v : Nat) : Int).tdiv 281474976710656 = ((v / 281474976710656 : Nat) : Int) from rfl, u64n (by omega), IntWalk.u16_in _ (by omega)]
  rfl
theorem refUnpack_eq (N v : Nat) (hv : v < 18446744073709551616) : F_epitaphref07_Unpack N (v : Int) = F_dot_Unpack N (v : Int) := by
  unfold F_dot_Unpack F_epitaphref07_Unpack
  rw [split_eq N v hv, refSplit_eq N v hv]
  simp only [Option.bind_some, Xs.good_eq]
theorem cardGood_eq (N : Nat) (c : Cd) (h : CdB N c) : F_card_Good N c = some (goodC c) := by
  obtain ⟨h1, h2, h3, v, h4, h5⟩ := h
  unfold F_card_Good
  refine (scan_eq c.2.length (fun k => some (lnsOk ((prv c.2 k).map (·.1)) (c.2.drop k) && (cidOk c.1.toNat && decide (0 < c.2.length)))) 0 ?_ ?_ N h1).trans (by rfl)
  · intro rec k _ hk hr
    have hb := h3 _ (List.getElem_mem hk)
    simp only [decide_eq_true (show (k : Int) < (c.2.length : Int) by omega), cond_true, at?_nat, List.getElem?_eq_getElem hk, Option.bind_some, i64_succ (show k + 1 < 9223372036854775808 by omega), hr]
    rw [cardLine_eq N _ hb, Option.bind_some, lnsOk_drop _ hk]
    cases lnOk c.2[k] with
    | false => rfl
    | true =>
    simp only [Bool.not_true, cond_false, Bool.true_and]
    cases k with
    | zero => rfl
    | succ k =>
      rw [decide_eq_true (by omega), cond_true, at_pred _ hk h2, Option.bind_some, prv_succ (k := k) (by omega)]
      simp only [Option.map_some, aftF]
      cases decide (c.2[k + 1].1 ≤ c.2[k].1) <;> rfl
  · intro rec k hk
    simp only [decide_eq_false (show ¬ (k : Int) < (c.2.length : Int) by omega), cond_false]
    obtain ⟨d, hd⟩ := unpack_cid N v h5
    rw [h4, hd, Option.bind_some, List.drop_eq_nil_of_le hk]
    simp only [lnsOk, Bool.true_and, Int.toNat_natCast]
    cases cidOk v with
    | false => rfl
    | true =>
      simp only [cond_true, Bool.true_and]
      congr 1
      rw [decide_eq_decide]; omega
theorem more_eq (N : Nat) (l : List Str) (t : Str) (h1 : l.length < N) (h2 : l.length < 9223372036854775807) (h3 : ∀ s ∈ l, StB N s) : F_epitaphref12_more N l t = some (moreOk t none l) := by
  unfold F_epitaphref12_more
  refine (scan_eq l.length (fun k => some (moreOk t (prv l k) (l.drop k))) 0 ?_ ?_ N h1).trans (by rfl)
  · intro rec k _ hk hr
    have hb := h3 _ (List.getElem_mem hk)
    simp only [decide_eq_true (show (k : Int) < (l.length : Int) by omega), cond_true, at?_nat, List.getElem?_eq_getElem hk, Option.bind_some, i64_succ (show k + 1 < 9223372036854775808 by omega), hr]
    rw [Xv.refText_eq N _ hb.1 (by have := hb.2; omega), Option.bind_some, moreOk_drop _ _ hk]
    cases textOk l[k] with
    | false => rfl
    | true =>
    cases l[k] == t with
    | true => rfl
    | false =>
    simp only [Bool.not_true, cond_false, Bool.true_and, Bool.not_false]
    cases k with
    | zero => rfl
    | succ k =>
      rw [decide_eq_true (by omega), cond_true, at_pred _ hk h2, Option.bind_some, prv_succ (k := k) (by omega)]
      simp only [aft]
      cases Op.bytesLess l[k] l[k + 1] <;> rfl
  · intro rec k hk
    simp only [decide_eq_false (show ¬ (k : Int) < (l.length : Int) by omega), cond_false]
    rw [List.drop_eq_nil_of_le hk]
    rfl
theorem refGoodC_eq (N : Nat) (c : Cd) (h : CdB N c) : F_epitaphref12_Good N c = some (goodC c) := by
  obtain ⟨h1, h2, h3, v, h4, h5⟩ := h
  unfold F_epitaphref12_Good goodC
  obtain ⟨d, hd⟩ := unpack_cid N v h5
  rw [h4, refUnpack_eq N v h5, hd, Option.bind_some]
  simp only [Int.toNat_natCast]
  cases cidOk v with
  | false => simp
  | true =>
  simp only [Bool.not_true, cond_false, Bool.true_and]
  by_cases h0 : c.2.length = 0
  · have : ((c.2.length : Int) == 0) = true := by simp [h0]
    rw [this, cond_true, decide_eq_false (by omega), Bool.and_false]
  have : ((c.2.length : Int) == 0) = false := by
    rw [beq_eq_false_iff_ne]; omega
  rw [this, cond_false, decide_eq_true (by omega), Bool.and_true]
  refine (scan_eq c.2.length (fun k => some (lnsOk ((prv c.2 k).map (·.1)) (c.2.drop k))) 0 ?_ ?_ N h1).trans (by rfl)
  · intro rec k _ hk hr
    obtain ⟨⟨b1, b2⟩, b3, b4, b5⟩ := h3 _ (List.getElem_mem hk)
    simp only [decide_eq_true (show (k : Int) < (c.2.length : Int) by omega), cond_true, at?_nat, List.getElem?_eq_getElem hk, Option.bind_some, i64_succ (show k + 1 < 9223372036854775808 by omega), hr]
    rw [Xv.refGood_eq, Option.bind_some, Xv.refText_eq N _ b1 (by omega), Option.bind_some, more_eq N _ _ b3 b4 b5, Option.bind_some, lnsOk_drop _ hk]
    unfold lnOk goodF
    cases (decide (1 ≤ c.2[k].1) && decide (c.2[k].1 ≤ 5)) with
    | false => simp
    | true =>
    simp only [Bool.not_true, cond_false, Bool.true_and]
    cases k with
    | zero =>
      simp only [prv_zero, Option.map_none, aftF]
      rw [decide_eq_false (by omega), cond_false]
      cases textOk c.2[0].2.1 <;> cases moreOk c.2[0].2.1 none c.2[0].2.2 <;> rfl
    | succ k =>
      rw [decide_eq_true (by omega), cond_true, at_pred _ hk h2, Option.bind_some, prv_succ (k := k) (by omega)]
      simp only [Option.map_some, aftF]
      cases decide (c.2[k + 1].1 ≤ c.2[k].1) <;> cases textOk c.2[k + 1].2.1 <;> cases moreOk c.2[k + 1].2.1 none c.2[k + 1].2.2 <;> rfl
  · intro rec k hk
    simp only [decide_eq_false (show ¬ (k : Int) < (c.2.length : Int) by omega), cond_false]
    rw [List.drop_eq_nil_of_le hk]
    rfl
end Go.Proofs.Xx
set_option linter.unusedVariables false
set_option linter.unusedSimpArgs false
set_option maxRecDepth 100000
namespace Go.Proofs.Xx
open Go Go.Xl Go.Ab Go.Proofs Go.Proofs.Xr Go.Proofs.Xs Go.Proofs.Xv
def moreP (l : List Str) : Str := l.flatMap fun s => 32 :: quo s
def lnP (x : Ln) : Str := nm x.1 ++ 32 :: quo x.2.1 ++ moreP x.2.2 ++ [10]
def lnsP (l : List Ln) : Str := l.flatMap lnP
noncomputable def hdP (v : Nat) : Str := [99, 111, 110, 116, 97, 99, 116, 32] ++ dec v ++ [10]
noncomputable def pr (c : Cd) : Str := hdP c.1.toNat ++ lnsP c.2 ++ [101, 110, 100, 10]
noncomputable def printC (c : Cd) : Str := if goodC c then pr c else []
theorem moreP_succ {l : List Str} {k : Nat} (h : k < l.length) : moreP (l.take (k + 1)) = moreP (l.take k) ++ 32 :: quo l[k] := by
  have : l.take (k + 1) = l.take k ++ [l[k]] := by rw [List.take_add_one, List.getElem?_eq_getElem h]; rfl
  rw [this, moreP, List.flatMap_append, List.flatMap_cons, List.flatMap_nil, List.append_nil]; rfl
theorem lnsP_succ {l : List Ln} {k : Nat} (h : k < l.length) : lnsP (l.take (k + 1)) = lnsP (l.take k) ++ lnP l[k] := by
  have : l.take (k + 1) = l.take k ++ [l[k]] := by rw [List.take_add_one, List.getElem?_eq_getElem h]; rfl
  rw [this, lnsP, List.flatMap_append, List.flatMap_cons, List.flatMap_nil, List.append_nil]; rfl
theorem moreP_le (l : List Str) (k : Nat) : (moreP (l.take k)).length ≤ (moreP l).length := by
  conv => rhs; rw [← List.take_append_drop k l]
  rw [moreP, moreP, List.flatMap_append, List.length_append]; omega
theorem lnsP_le (l : List Ln) (k : Nat) : (lnsP (l.take k)).length ≤ (lnsP l).length := by
  conv => rhs; rw [← List.take_append_drop k l]
  rw [lnsP, lnsP, List.flatMap_append, List.length_append]; omega
theorem lnsP_at {l : List Ln} {k : Nat} (h : k < l.length) : (lnsP (l.take k)).length + (lnP l[k]).length ≤ (lnsP l).length := by
  have := lnsP_le l (k + 1)
  rw [lnsP_succ h, List.length_append] at this
  exact this
theorem moreP_at {l : List Str} {k : Nat} (h : k < l.length) : (moreP (l.take k)).length + (quo l[k]).length + 1 ≤ (moreP l).length := by
  have := moreP_le l (k + 1)
  rw [moreP_succ h, List.length_append, List.length_cons] at this
  omega
theorem quo_len (s : Str) : s.length + 2 ≤ (quo s).length := by
  have : ∀ s : Str, s.length ≤ (qs s).length := by
    intro s
    induction s with
    | nil => simp
    | cons c r ih => simp only [qs, List.length_append, List.length_cons]; split <;> simp <;> omega
  have := this s
  simp [quo]; omega
theorem lnP_len (x : Ln) : (lnP x).length = (nm x.1).length + 1 + (quo x.2.1).length + (moreP x.2.2).length + 1 := by
  simp [lnP]; omega
theorem cat_ok {a b : Nat} (h : a + b < 100000000) : decide (a + b ≤ 4611686018427387904) = true := decide_eq_true (by omega)
theorem print_eq (N : Nat) (c : Cd) (h : CdB N c) (hN : 1000000000 < N) (hs : goodC c = true → (pr c).length ≤ 10000000) : F_text_Print N c T5 tab0 = some (printC c) := by
  unfold F_text_Print printC
  rw [cardGood_eq N c h, Option.bind_some]
  cases hg : goodC c with
  | false => rfl
  | true =>
  have hs := hs hg
  obtain ⟨h1, h2, h3, v, h4, h5⟩ := h
  simp only [Bool.not_true, cond_false, if_true, joinAt]
  have hl := hs
  unfold pr at hl
  simp only [List.length_append] at hl
  have hh : (hdP v).length ≤ 10000000 := by rw [h4] at hl; simp only [Int.toNat_natCast] at hl; omega
  have hd : (hdP v).length = 8 + (dec v).length + 1 := by simp [hdP]; omega
  rw [h4, format_eq N v h5 (by omega), Option.bind_some, cat_ok (by omega), cond_true, decide_eq_true (by simp; omega), cond_true]
  have e0 : [99, 111, 110, 116, 97, 99, 116, 32] ++ dec v ++ [10] = hdP v := rfl
  rw [e0, writeS_eq N _ true [] (by simp; omega), Option.bind_some]
  simp only [List.nil_append]
  rw [show c.1.toNat = v by rw [h4]; rfl] at hl
  have key : ∀ k, k ≤ c.2.length → (hdP v ++ lnsP (c.2.take k)).length ≤ 10000000 := by
    intro k _
    have := lnsP_le c.2 k
    rw [List.length_append]; omega
  refine iter_eq (G := fun _ => some (pr c)) (fun n z => ∃ k : Nat, z = (((k : Int), ()), ((false, hdP v ++ lnsP (c.2.take k), ()), ()), (), ()) ∧ k ≤ c.2.length ∧ n = c.2.length - k) ?_ N c.2.length _ ⟨0, by simp [lnsP], by omega, rfl⟩ h1
  rintro n z rec ⟨k, rfl, k1, k2⟩ ih
  dsimp only
  by_cases hk : k < c.2.length
  · rw [decide_eq_true (by omega), cond_true, at?_nat, List.getElem?_eq_getElem hk, Option.bind_some]
    have hat := lnsP_at hk
    obtain ⟨⟨b1, b2⟩, b3, b4, b5⟩ := h3 _ (List.getElem_mem hk)
    have hr := ih (c.2.length - (k + 1)) _ (by omega) ⟨k + 1, rfl, by omega, rfl⟩
    rw [lnsP_succ hk] at hr
    generalize c.2[k] = x at hat b1 b2 b3 b4 b5 hr
    have hxl := lnP_len x
    have hq := quo_len x.2.1
    rw [nm_eq, Option.bind_some, cat_ok (by omega), cond_true, quote_eq N x.2.1 (by omega) hN, Option.bind_some]
    have e1 : (nm x.1 ++ [32]).length = (nm x.1).length + 1 := by simp
    rw [cat_ok (by rw [e1]; omega), cond_true]
    have e2 : (nm x.1 ++ [32] ++ quo x.2.1).length = (nm x.1).length + 1 + (quo x.2.1).length := by simp; omega
    have kk := key k (by omega)
    rw [List.length_append] at kk
    rw [writeS_eq N _ false _ (by rw [List.length_append, e2]; omega), Option.bind_some]
    dsimp only
    have key2 : ∀ j, (hdP v ++ lnsP (c.2.take k) ++ (nm x.1 ++ [32] ++ quo x.2.1) ++ moreP (x.2.2.take j)).length + 1 ≤ 10000000 := by
      intro j
      have := moreP_le x.2.2 j
      rw [List.length_append, List.length_append, e2, List.length_append]; omega
    refine iter_eq (G := fun _ => some (pr c)) (fun n z => ∃ j : Nat, z = (((j : Int), ()), ((false, hdP v ++ lnsP (c.2.take k) ++ (nm x.1 ++ [32] ++ quo x.2.1) ++ moreP (x.2.2.take j), ()), ()), (), ()) ∧ j ≤ x.2.2.length ∧ n = x.2.2.length - j) ?_ N x.2.2.length _ ⟨0, by simp [moreP], by omega, rfl⟩ b3
    rintro n2 z2 rec2 ⟨j, rfl, j1, j2⟩ ih2
    dsimp only
    have kj := key2 j
    by_cases hj : j < x.2.2.length
    · rw [decide_eq_true (by omega), cond_true, at?_nat, List.getElem?_eq_getElem hj, Option.bind_some]
      have hat2 := moreP_at hj
      have hq2 := quo_len x.2.2[j]
      have hr2 := ih2 (x.2.2.length - (j + 1)) _ (by omega) ⟨j + 1, rfl, by omega, rfl⟩
      rw [moreP_succ hj] at hr2
      rw [quote_eq N _ (by omega) hN, Option.bind_some, cat_ok (by omega), cond_true]
      have e3 : ([32] ++ quo x.2.2[j]).length = 1 + (quo x.2.2[j]).length := by simp; omega
      have kj2 := kj
      rw [List.length_append, List.length_append, e2, List.length_append] at kj2
      rw [writeS_eq N _ false _ (by rw [List.length_append, List.length_append, e2, List.length_append, e3]; omega), Option.bind_some, i64_succ (by omega)]
      rw [← List.append_assoc] at hr2
      exact hr2
    · have : j = x.2.2.length := by omega
      subst this
      rw [decide_eq_false (by omega), cond_false, write_eq N 10 false _ (by omega), Option.bind_some, i64_succ (by omega)]
      rw [List.take_length]
      have e4 : hdP v ++ lnsP (c.2.take k) ++ (nm x.1 ++ [32] ++ quo x.2.1) ++ moreP x.2.2 ++ [10] = hdP v ++ (lnsP (c.2.take k) ++ lnP x) := by
        simp [lnP]
      rw [e4]
      exact hr
  · have : k = c.2.length := by omega
    subst this
    rw [List.take_length, decide_eq_false (by omega), cond_false]
    have kk := key c.2.length (by omega)
    rw [List.take_length, List.length_append] at kk
    rw [writeS_eq N _ false _ (by rw [List.length_append]; simp; omega), Option.bind_some, string_eq N false _ (by simp; omega), Option.bind_some]
    dsimp only
    have : c.1.toNat = v := by rw [h4]; rfl
    rw [pr, this]
end Go.Proofs.Xx
set_option linter.unusedVariables false
set_option linter.unusedSimpArgs false
set_option maxRecDepth 100000
namespace Go.Proofs.Xx
open Go Go.Xl Go.Ab Go.Proofs Go.Proofs.Xr Go.Proofs.Xs Go.Proofs.Xv
noncomputable def allP (l : List Cd) : Str := l.flatMap printC
theorem allP_succ {l : List Cd} {k : Nat} (h : k < l.length) : allP (l.take (k + 1)) = allP (l.take k) ++ printC l[k] := by
  have : l.take (k + 1) = l.take k ++ [l[k]] := by rw [List.take_add_one, List.getElem?_eq_getElem h]; rfl
  rw [this, allP, List.flatMap_append, List.flatMap_cons, List.flatMap_nil, List.append_nil]; rfl
def AllB (N : Nat) (l : List Cd) : Prop := l.length ≤ 2000 ∧ ∀ c ∈ l, CdB N c ∧ (goodC c = true → (pr c).length ≤ 8000)
theorem printC_le {c : Cd} (h : goodC c = true → (pr c).length ≤ 8000) : (printC c).length ≤ 8000 := by
  unfold printC
  split
  · rename_i hg; exact h hg
  · simp
theorem allP_le {N : Nat} {l : List Cd} (h : AllB N l) : ∀ k, k ≤ l.length → (allP (l.take k)).length ≤ k * 8000 := by
  intro k
  induction k with
  | zero => intro _; simp [allP]
  | succ k ih =>
    intro hk
    have := ih (by omega)
    have h2 := printC_le (h.2 _ (List.getElem_mem (show k < l.length by omega))).2
    rw [allP_succ (by omega), List.length_append]
    omega
theorem all_eq (N : Nat) (l : List Cd) (h : AllB N l) (hN : 1000000000 < N) : F_text_All N l T5 tab0 = some (allP l) := by
  unfold F_text_All
  simp only [joinAt]
  have hle := allP_le h
  have hlen := h.1
  refine iter_eq (G := fun _ => some (allP l)) (fun n z => ∃ (k : Nat) (b : Bool), z = (((k : Int), ()), ((b, allP (l.take k), ()), ()), (), ()) ∧ k ≤ l.length ∧ n = l.length - k) ?_ N l.length _ ⟨0, true, by simp [allP], by omega, rfl⟩ (by omega)
  rintro n z rec ⟨k, b, rfl, k1, k2⟩ ih
  dsimp only
  have hk2 := hle k k1
  by_cases hk : k < l.length
  · rw [decide_eq_true (by omega), cond_true, at?_nat, List.getElem?_eq_getElem hk, Option.bind_some]
    have hc := h.2 _ (List.getElem_mem hk)
    have hp := printC_le hc.2
    rw [print_eq N _ hc.1 hN (fun hg => by have := hc.2 hg; omega), Option.bind_some, writeS_eq N _ b _ (by omega), Option.bind_some, i64_succ (by omega)]
    dsimp only
    rw [← allP_succ hk]
    exact ih (l.length - (k + 1)) _ (by omega) ⟨k + 1, false, rfl, by omega, rfl⟩
  · have : k = l.length := by omega
    subst this
    rw [decide_eq_false (by omega), cond_false, List.take_length] at *
    rw [string_eq N b _ (by omega), Option.bind_some]
def fewL (x : Ln) : Bool := decide (x.2.1.length ≤ 200) && decide (x.2.2.length ≤ 10)
def fewC (c : Cd) : Bool := decide (c.2.length ≤ 12) && c.2.all fewL
def few (l : List Cd) : Bool := decide (l.length ≤ 25) && l.all fewC
theorem all_drop' {α : Type} {l : List α} {p : α → Bool} {k : Nat} (hk : k < l.length) : (l.drop k).all p = (p l[k] && (l.drop (k + 1)).all p) := by
  rw [List.drop_eq_getElem_cons hk, List.all_cons]
theorem few_eq (N : Nat) (l : List Cd) (hN : 1000000000 < N) : F_epitaphref44_Few N l = some (few l) := by
  unfold F_epitaphref44_Few few
  by_cases h0 : 25 < l.length
  · rw [decide_eq_true (by omega), cond_true, decide_eq_false (by omega)]; rfl
  rw [decide_eq_false (by omega), cond_false, decide_eq_true (by omega), Bool.true_and]
  refine (scan_eq l.length (fun k => some ((l.drop k).all fewC)) 0 ?_ ?_ N (by omega)).trans (by simp)
  · intro rec k _ hk hr
    simp only [decide_eq_true (show (k : Int) < (l.length : Int) by omega), cond_true, at?_nat, List.getElem?_eq_getElem hk, Option.bind_some, i64_succ (show k + 1 < 9223372036854775808 by omega), hr]
    rw [all_drop' hk]
    generalize l[k] = c
    unfold fewC
    by_cases h1 : 12 < c.2.length
    · rw [decide_eq_true (by omega), cond_true, decide_eq_false (by omega)]; rfl
    rw [decide_eq_false (by omega), cond_false, decide_eq_true (by omega), Bool.true_and]
    refine (scan_eq c.2.length (fun j => some ((c.2.drop j).all fewL && (l.drop (k + 1)).all fewC)) 0 ?_ ?_ N (by omega)).trans (by simp; rfl)
    · intro rec2 j _ hj hr2
      simp only [decide_eq_true (show (j : Int) < (c.2.length : Int) by omega), cond_true, at?_nat, List.getElem?_eq_getElem hj, Option.bind_some, i64_succ (show j + 1 < 9223372036854775808 by omega), hr2]
      rw [all_drop' hj]
      have e1 : decide (200 < ((c.2[j].2.1.length : Nat) : Int)) = !decide (c.2[j].2.1.length ≤ 200) := by
        rw [← decide_not, decide_eq_decide]; omega
      have e2 : decide (10 < ((c.2[j].2.2.length : Nat) : Int)) = !decide (c.2[j].2.2.length ≤ 10) := by
        rw [← decide_not, decide_eq_decide]; omega
      rw [e1, e2, show fewL c.2[j] = (decide (c.2[j].2.1.length ≤ 200) && decide (c.2[j].2.2.length ≤ 10)) from rfl]
      cases decide (c.2[j].2.1.length ≤ 200) <;> cases decide (c.2[j].2.2.length ≤ 10) <;> simp
    · intro rec2 j hj
      simp only [decide_eq_false (show ¬ (j : Int) < (c.2.length : Int) by omega), cond_false]
      rw [List.drop_eq_nil_of_le hj]
      simp only [List.all_nil, Bool.true_and]; rfl
  · intro rec k hk
    simp only [decide_eq_false (show ¬ (k : Int) < (l.length : Int) by omega), cond_false]
    rw [List.drop_eq_nil_of_le hk]; rfl
end Go.Proofs.Xx
set_option linter.unusedVariables false
set_option linter.unusedSimpArgs false
set_option maxRecDepth 100000
namespace Go.Proofs.Xx
open Go Go.Xl Go.Ab Go.Proofs Go.Proofs.Xr Go.Proofs.Xs Go.Proofs.Xv
abbrev E5 : Str := [10, 101, 110, 100, 10]
theorem idxStr_val (a : Str) (m : Int) (hm : 5 ≤ m) (ha : a.length < 4294967281) : F_idxStr a E5 [m] = some (Lib.index a E5) := by
  unfold F_idxStr
  have h1 : Nat.ble 2 E5.length = true := rfl
  have h2 : decide (((E5.length : Nat) : Int) ≤ m) = true := decide_eq_true hm
  have h3 : Nat.blt a.length 4294967281 = true := by simpa [Nat.blt_eq] using ha
  simp only [h1, h2, h3, cond_true]
theorem idxByte_eq (N : Nat) (x : Str) (c : UInt8) : F_internal_stringslite_IndexByte N x c = some (Lib.indexByte x c) := rfl
theorem u32_wrap (n : Int) : IntKind.u32.wrap n = n % 4294967296 := by
  unfold IntKind.wrap
  simp [IntKind.bits, IntKind.signed]
open Lib.RK in
theorem hash_E5 (N : Nat) (hN : 100 < N) : F_internal_bytealg_hashStr_string N E5 = some (H E5 % 4294967296, (16777619 : Int) ^ 5 % 4294967296) := by
  obtain ⟨M, rfl⟩ : ∃ M, N = M + 10 := ⟨N - 10, by omega⟩
  have e : (some (H E5 % 4294967296, (16777619 : Int) ^ 5 % 4294967296) : Option (Int × Int)) = some (2882562517, 1185368003) := by decide +kernel
  rw [e]
  rfl
open Lib.RK in
theorem rk_eq (N : Nat) (x : Str) (hx : x.length ≤ 1000000) (h5 : 5 ≤ x.length) (hN : 1000000000 < N) : F_internal_bytealg_IndexRabinKarp_string_f N x E5 = some (Lib.index x E5) := by
  unfold F_internal_bytealg_IndexRabinKarp_string_f
  rw [hash_E5 N (by omega), Option.bind_some]
  dsimp only
  have hE : E5.length = 5 := rfl
  have hE2 : ((E5.length : Nat) : Int) = 5 := rfl
  simp only [hE2]
  -- the windows behind the first one
  have roll : ∀ h : Int, h = H (win x 0 5) % 4294967296 → Lib.occAt x E5 0 = false →
      iter (fun (rec : (Int × Int × Unit) × Unit × Unit × Unit → Option Int) (z : (Int × Int × Unit) × Unit × Unit × Unit) =>
        bif decide (z.fst.snd.fst < (x.length : Int)) then
          (at? x z.fst.snd.fst).bind fun (c : UInt8) =>
            (at? x (IntKind.i64.wrap (z.fst.snd.fst - 5))).bind fun (c_1 : UInt8) =>
              bif IntKind.u32.wrap (IntKind.u32.wrap (IntKind.u32.wrap (z.fst.fst * 16777619) + (c.toNat : Int)) - IntKind.u32.wrap ((16777619 : Int) ^ 5 % 4294967296 * (c_1.toNat : Int))) == H E5 % 4294967296 then
                bif cutOk (IntKind.i64.wrap (IntKind.i64.wrap (z.fst.snd.fst + 1) - 5)) (IntKind.i64.wrap (z.fst.snd.fst + 1)) x.length then
                  bif List.take ((IntKind.i64.wrap (z.fst.snd.fst + 1)).toNat - (IntKind.i64.wrap (IntKind.i64.wrap (z.fst.snd.fst + 1) - 5)).toNat) (List.drop (IntKind.i64.wrap (IntKind.i64.wrap (z.fst.snd.fst + 1) - 5)).toNat x) == E5 then
                    some (IntKind.i64.wrap (IntKind.i64.wrap (z.fst.snd.fst + 1) - 5))
                  else rec ((IntKind.u32.wrap (IntKind.u32.wrap (IntKind.u32.wrap (z.fst.fst * 16777619) + (c.toNat : Int)) - IntKind.u32.wrap ((16777619 : Int) ^ 5 % 4294967296 * (c_1.toNat : Int))), IntKind.i64.wrap (z.fst.snd.fst + 1), ()), (), (), ())
                else none
              else rec ((IntKind.u32.wrap (IntKind.u32.wrap (IntKind.u32.wrap (z.fst.fst * 16777619) + (c.toNat : Int)) - IntKind.u32.wrap ((16777619 : Int) ^ 5 % 4294967296 * (c_1.toNat : Int))), IntKind.i64.wrap (z.fst.snd.fst + 1), ()), (), (), ())
        else some (-1)) N ((h, 5, ()), (), (), ()) = some (Lib.index x E5) := by
    intro h hh h0
    refine iter_eq (G := fun _ => some (Lib.index x E5)) (fun n z => ∃ (j : Nat) (h : Int), z = ((h, ((j + 5 : Nat) : Int), ()), (), (), ()) ∧ h = H (win x j 5) % 4294967296 ∧ Lib.NoOcc x E5 (j + 1) ∧ j + 5 ≤ x.length ∧ n = x.length - j) ?_ N x.length _ ⟨0, h, rfl, hh, (Lib.NoOcc.zero x E5).succ h0, h5, rfl⟩ (by omega)
    rintro n z rec ⟨j, h, rfl, hh, hno, hj, hn⟩ ih
    dsimp only
    by_cases hlt : j + 5 < x.length
    · rw [decide_eq_true (by omega), cond_true, at?_nat, List.getElem?_eq_getElem hlt, Option.bind_some]
      have e1 : IntKind.i64.wrap (((j + 5 : Nat) : Int) - 5) = ((j : Nat) : Int) := by rw [IntWalk.i64_in _ (by omega)]; omega
      have e2 : IntKind.i64.wrap (((j + 5 : Nat) : Int) + 1) = ((j + 6 : Nat) : Int) := by rw [IntWalk.i64_in _ (by omega)]; omega
      have e3 : IntKind.i64.wrap (((j + 6 : Nat) : Int) - 5) = ((j + 1 : Nat) : Int) := by rw [IntWalk.i64_in _ (by omega)]; omega
      rw [e1, at?_nat, List.getElem?_eq_getElem (by omega), Option.bind_some, e2, e3]
      have w1 : win x j 5 = x[j]'(by omega) :: win x (j + 1) 4 := win_cons x j 4 (by omega)
      have w2 : win x (j + 1) 5 = win x (j + 1) 4 ++ [x[j + 5]] := by
        have := win_snoc x (j + 1) 4 (by omega)
        rw [this]
      have hlen : (win x (j + 1) 4).length = 4 := win_length x (j + 1) 4 (by omega)
      have hr := roll_mod (h := h) (pw := (16777619 : Int) ^ 5 % 4294967296) (x[j]'(by omega)) x[j + 5] (win x (j + 1) 4) (by rw [hh, w1]) (by rw [hlen])
      rw [← w2] at hr
      have hb0 : ((x[j]'(by omega)).toNat : Int) % 4294967296 = ((x[j]'(by omega)).toNat : Int) := by
        have := (x[j]'(by omega)).toNat_lt
        omega
      rw [hb0] at hr
      have hroll : IntKind.u32.wrap (IntKind.u32.wrap (IntKind.u32.wrap (h * 16777619) + (x[j + 5].toNat : Int)) - IntKind.u32.wrap ((16777619 : Int) ^ 5 % 4294967296 * ((x[j]'(by omega)).toNat : Int))) = H (win x (j + 1) 5) % 4294967296 := by
        rw [← hr]
        simp only [u32_wrap]
        generalize (16777619 : Int) ^ 5 % 4294967296 * ((x[j]'(by omega)).toNat : Int) = T
        generalize h * 16777619 = A
        omega
      rw [hroll]
      have hocc : Lib.occAt x E5 (j + 1) = (win x (j + 1) 5 == E5) := occAt_win x E5 (j + 1) (by rw [hE]; omega)
      have next : Lib.occAt x E5 (j + 1) = false → rec ((H (win x (j + 1) 5) % 4294967296, ((j + 6 : Nat) : Int), ()), (), (), ()) = some (Lib.index x E5) := fun ho =>
        ih (x.length - (j + 1)) _ (by omega) ⟨j + 1, _, rfl, rfl, hno.succ ho, by omega, rfl⟩
      by_cases hq : H (win x (j + 1) 5) % 4294967296 = H E5 % 4294967296
      · rw [show (H (win x (j + 1) 5) % 4294967296 == H E5 % 4294967296) = true by simpa using hq, cond_true, show cutOk ((j + 1 : Nat) : Int) ((j + 6 : Nat) : Int) x.length = true by simp [cutOk]; omega, cond_true, Int.toNat_natCast, Int.toNat_natCast,
          show j + 6 - (j + 1) = 5 by omega]
        have ew : List.take 5 (List.drop (j + 1) x) = win x (j + 1) 5 := rfl
        rw [ew]
        cases ho : (win x (j + 1) 5 == E5) with
        | true =>
          rw [ho] at hocc
          rw [cond_true, Lib.index_hit hno (by omega) hocc]
        | false =>
          rw [ho] at hocc
          rw [cond_false]
          exact next hocc
      · rw [show (H (win x (j + 1) 5) % 4294967296 == H E5 % 4294967296) = false by simpa using hq, cond_false]
        refine next ?_
        rw [hocc, beq_eq_false_iff_ne]
        exact hash_ne rfl rfl hq
    · have : j + 5 = x.length := by omega
      rw [decide_eq_false (by omega), cond_false, Lib.index_past (by simp) hno (by rw [hE]; omega)]
  -- the first window
  refine iter_eq (G := fun _ => some (Lib.index x E5)) (fun n z => ∃ k : Nat, z = ((H (x.take k) % 4294967296, (k : Int), ()), (), (), ()) ∧ k ≤ 5 ∧ n = 5 - k) ?_ N 5 _ ⟨0, rfl, by omega, rfl⟩ (by omega)
  rintro n z rec ⟨k, rfl, hk, hn⟩ ih
  dsimp only
  by_cases hk5 : k < 5
  · rw [decide_eq_true (by omega), cond_true, at?_nat, List.getElem?_eq_getElem (by omega), Option.bind_some, i64_succ (by omega)]
    have et : x.take (k + 1) = x.take k ++ [x[k]'(by omega)] := by rw [List.take_add_one, List.getElem?_eq_getElem (by omega)]; rfl
    have e1 : IntKind.u32.wrap (IntKind.u32.wrap (H (x.take k) % 4294967296 * 16777619) + ((x[k]'(by omega)).toNat : Int)) = H (x.take (k + 1)) % 4294967296 := by
      rw [et, H_snoc]
      simp only [u32_wrap]
      generalize H (x.take k) = A
      omega
    rw [e1]
    exact ih (5 - (k + 1)) _ (by omega) ⟨k + 1, rfl, by omega, rfl⟩
  · have : k = 5 := by omega
    subst this
    rw [decide_eq_false (by omega), cond_false]
    have hocc : Lib.occAt x E5 0 = (win x 0 5 == E5) := occAt_win x E5 0 (by rw [hE]; omega)
    have ew : x.take 5 = win x 0 5 := rfl
    rw [ew]
    by_cases hq : H (win x 0 5) % 4294967296 = H E5 % 4294967296
    · rw [show (H (win x 0 5) % 4294967296 == H E5 % 4294967296) = true by simpa using hq, cond_true, show cutOk 0 5 x.length = true by simp [cutOk]; omega, cond_true]
      have ew2 : List.take (Int.toNat 5) x = win x 0 5 := rfl
      rw [ew2]
      cases ho : (win x 0 5 == E5) with
      | true =>
        rw [ho] at hocc
        rw [cond_true, Lib.index_hit (Lib.NoOcc.zero x E5) (by omega) hocc]; rfl
      | false =>
        rw [ho] at hocc
        rw [cond_false]
        exact roll _ rfl hocc
    · rw [show (H (win x 0 5) % 4294967296 == H E5 % 4294967296) = false by simpa using hq, cond_false]
      refine roll _ rfl ?_
      rw [hocc, beq_eq_false_iff_ne]
      exact hash_ne rfl rfl hq
theorem indexA_eq (N : Nat) (x : Str) (m : Int) (hm : 5 ≤ m) (hx : x.length ≤ 1000000) (hN : 1000000000 < N) : F_internal_stringslite_Index_f N x E5 [m] = some (Lib.index x E5) := by
  unfold F_internal_stringslite_Index_f
  simp only [joinAt]
  rw [show (((E5.length : Nat) : Int) == 0) = false from rfl, cond_false]
  by_cases hxe : E5 = x
  · subst hxe; rw [Lib.index_self]; rfl
  rw [show (E5 == x) = false by simpa using hxe, cond_false, show (((E5.length : Nat) : Int) == 1) = false from rfl, cond_false]
  have hE : E5.length = 5 := rfl
  by_cases hl : x.length ≤ 5
  · rw [decide_eq_true (by omega), cond_true, Lib.index_long (by omega) hxe]
  rw [decide_eq_false (by omega), cond_false]
  simp only [listCase]
  have hm' : decide (((E5.length : Nat) : Int) ≤ m) = true := decide_eq_true hm
  have hm2 : decide (m < ((E5.length : Nat) : Int)) = false := decide_eq_false (by rw [hE]; omega)
  simp only [hm', hm2, cond_true, cond_false]
  by_cases h64 : x.length ≤ 64
  · rw [decide_eq_true (by omega), cond_true, idxStr_val x m hm (by omega)]; rfl
  rw [decide_eq_false (by omega), cond_false]
  have hT : IntKind.i64.wrap (IntKind.i64.wrap ((x.length : Int) - ((E5.length : Nat) : Int)) + 1) = ((x.length - 4 : Nat) : Int) := by
    rw [hE, i64s (by omega) (by omega), i64_succ (by omega)]; congr 1; omega
  simp only [hT]
  rw [show (E5[0]? : Option UInt8) = some 10 from rfl, Option.bind_some, show (E5[1]? : Option UInt8) = some 101 from rfl, Option.bind_some]
  refine iter_eq (G := fun _ => some (Lib.index x E5)) (fun n z => ∃ (i f : Nat), z = (((i : Int), (f : Int), ()), (), (), ()) ∧ Lib.NoOcc x E5 i ∧ i ≤ x.length ∧ f ≤ i ∧ n = x.length - i) ?_ N x.length _ ⟨0, 0, rfl, .zero _ _, by omega, by omega, rfl⟩ (by omega)
  rintro n z rec ⟨i, f, rfl, hno, hi, hf, hn⟩ ih
  dsimp only
  by_cases hit0 : x.length - 4 ≤ i
  · rw [decide_eq_false (by omega), cond_false, Lib.index_past (by simp) hno (by rw [hE]; omega)]
  have hit : i < x.length - 4 := by omega
  rw [decide_eq_true (by omega), cond_true]
  -- where the first byte stands
  have tail : ∀ j : Nat, Lib.NoOcc x E5 j → j < x.length - 4 → i ≤ j → x[j]? = some 10 →
      ((at? x (IntKind.i64.wrap ((j : Int) + 1))).bind fun (c : UInt8) =>
        bif c == 101 then
          bif cutOk (j : Int) (IntKind.i64.wrap ((j : Int) + ((E5.length : Nat) : Int))) x.length then
            bif List.take ((IntKind.i64.wrap ((j : Int) + ((E5.length : Nat) : Int))).toNat - (j : Int).toNat) (List.drop (j : Int).toNat x) == E5 then some (j : Int)
            else Option.bind (F_internal_bytealg_Cutover_f N (IntKind.i64.wrap ((j : Int) + 1))) fun (y : Int) =>
              bif decide (y < IntKind.i64.wrap ((f : Int) + 1)) then
                bif cutOk (IntKind.i64.wrap ((j : Int) + 1)) (x.length : Int) x.length then
                  (F_idxStr (List.drop (IntKind.i64.wrap ((j : Int) + 1)).toNat x) E5 [m]).bind fun (n : Int) =>
                    bif decide (0 ≤ n) then some (IntKind.i64.wrap (n + IntKind.i64.wrap ((j : Int) + 1))) else some (-1)
                else none
              else rec ((IntKind.i64.wrap ((j : Int) + 1), IntKind.i64.wrap ((f : Int) + 1), ()), (), (), ())
          else none
        else Option.bind (F_internal_bytealg_Cutover_f N (IntKind.i64.wrap ((j : Int) + 1))) fun (y : Int) =>
              bif decide (y < IntKind.i64.wrap ((f : Int) + 1)) then
                bif cutOk (IntKind.i64.wrap ((j : Int) + 1)) (x.length : Int) x.length then
                  (F_idxStr (List.drop (IntKind.i64.wrap ((j : Int) + 1)).toNat x) E5 [m]).bind fun (n : Int) =>
                    bif decide (0 ≤ n) then some (IntKind.i64.wrap (n + IntKind.i64.wrap ((j : Int) + 1))) else some (-1)
                else none
              else rec ((IntKind.i64.wrap ((j : Int) + 1), IntKind.i64.wrap ((f : Int) + 1), ()), (), (), ())) = some (Lib.index x E5) := by
    intro j hnoj hj hij hc
    have rest : Lib.occAt x E5 j = false → (Option.bind (F_internal_bytealg_Cutover_f N (IntKind.i64.wrap ((j : Int) + 1))) fun (y : Int) =>
              bif decide (y < IntKind.i64.wrap ((f : Int) + 1)) then
                bif cutOk (IntKind.i64.wrap ((j : Int) + 1)) (x.length : Int) x.length then
                  (F_idxStr (List.drop (IntKind.i64.wrap ((j : Int) + 1)).toNat x) E5 [m]).bind fun (n : Int) =>
                    bif decide (0 ≤ n) then some (IntKind.i64.wrap (n + IntKind.i64.wrap ((j : Int) + 1))) else some (-1)
                else none
              else rec ((IntKind.i64.wrap ((j : Int) + 1), IntKind.i64.wrap ((f : Int) + 1), ()), (), (), ())) = some (Lib.index x E5) := by
      intro hoc
      have hno1 := hnoj.succ hoc
      show Option.bind (some _) _ = _
      rw [Option.bind_some, i64_succ (by omega), i64_succ (by omega)]
      cases decide (_ < (((f + 1 : Nat) : Int))) with
      | true =>
        rw [cond_true, show cutOk (((j + 1 : Nat) : Int)) (x.length : Int) x.length = true by simp [cutOk]; omega, cond_true, Int.toNat_natCast, idxStr_val _ m hm (by rw [List.length_drop]; omega), Option.bind_some]
        have hd := Lib.index_drop hno1 (show j + 1 ≤ x.length by omega)
        have hge := Lib.index_ge (x.drop (j + 1)) E5
        by_cases h0 : Lib.index (x.drop (j + 1)) E5 = -1
        · rw [h0] at hd ⊢
          rw [hd]; rfl
        · have hle := Lib.index_room (x.drop (j + 1)) E5 (by omega)
          rw [List.length_drop] at hle
          rw [decide_eq_true (by omega), cond_true, hd, show (Lib.index (x.drop (j + 1)) E5 == -1) = false by simpa using h0]
          rw [IntWalk.i64_in _ (by omega)]; rfl
      | false =>
        rw [cond_false]
        exact ih (x.length - (j + 1)) _ (by omega) ⟨j + 1, f + 1, rfl, hno1, by omega, by omega, rfl⟩
    rw [i64_succ (by omega), at?_nat, List.getElem?_eq_getElem (by omega), Option.bind_some]
    rw [show ((j + 1 : Nat) : Int) = IntKind.i64.wrap ((j : Int) + 1) from (i64_succ (by omega)).symm]
    have hroom : Lib.occAt x E5 j = ((x.drop j).take 5 == E5) := Lib.occAt_iff_take x E5 j (by rw [hE]; omega)
    by_cases h2 : x[j + 1]'(by omega) = 101
    · rw [show (x[j + 1]'(by omega) == 101) = true by simpa using h2, cond_true]
      have e5 : IntKind.i64.wrap ((j : Int) + ((E5.length : Nat) : Int)) = ((j + 5 : Nat) : Int) := by
        rw [hE, IntWalk.i64_in _ (by omega)]; rfl
      rw [e5, show cutOk (j : Int) ((j + 5 : Nat) : Int) x.length = true by simp [cutOk]; omega, cond_true, Int.toNat_natCast, Int.toNat_natCast, Nat.add_sub_cancel_left]
      cases hoc : ((x.drop j).take 5 == E5) with
      | true =>
        rw [hoc] at hroom
        rw [cond_true, Lib.index_hit hnoj (by omega) hroom]
      | false =>
        rw [cond_false]
        exact rest (by rw [hroom, hoc])
    · rw [show (x[j + 1]'(by omega) == 101) = false by simpa using h2, cond_false]
      refine rest ?_
      cases hoc : Lib.occAt x E5 j with
      | false => rfl
      | true =>
        have := Lib.occAt_second (c0 := 10) (c1 := 101) (t := [110, 100, 10]) rfl hoc
        rw [List.getElem?_eq_getElem (by omega)] at this
        exact absurd (Option.some.inj this) h2
  rw [at?_nat, List.getElem?_eq_getElem (by omega), Option.bind_some]
  by_cases h10 : x[i]'(by omega) = 10
  · rw [show (x[i]'(by omega) != 10) = false by simpa using h10, cond_false]
    exact tail i hno hit (Nat.le_refl _) (by rw [List.getElem?_eq_getElem (by omega), h10])
  · rw [show (x[i]'(by omega) != 10) = true by simpa using h10, cond_true]
    rw [i64_succ (by omega), show cutOk ((i + 1 : Nat) : Int) ((x.length - 4 : Nat) : Int) x.length = true by simp [cutOk]; omega, cond_true, idxByte_eq, Option.bind_some, Int.toNat_natCast, Int.toNat_natCast]
    have hne : x[i]? ≠ some 10 := by rw [List.getElem?_eq_getElem (by omega)]; simpa using h10
    have hge := Lib.indexByte_ge ((x.drop (i + 1)).take (x.length - 4 - (i + 1))) 10
    by_cases h0 : Lib.indexByte ((x.drop (i + 1)).take (x.length - 4 - (i + 1))) 10 = -1
    · rw [h0, Lib.index_skip_none (t := x.length - 4) rfl hno hne (by rw [hE]; omega) h0]; rfl
    · obtain ⟨o, ho⟩ : ∃ o : Nat, Lib.indexByte ((x.drop (i + 1)).take (x.length - 4 - (i + 1))) 10 = o := ⟨(Lib.indexByte ((x.drop (i + 1)).take (x.length - 4 - (i + 1))) 10).toNat, by omega⟩
      obtain ⟨q1, q2, q3⟩ := Lib.noOcc_skip (t := x.length - 4) rfl hno hne ho
      rw [ho, decide_eq_false (by omega), cond_false]
      have e6 : IntKind.i64.wrap ((i : Int) + IntKind.i64.wrap ((o : Int) + 1)) = ((i + o + 1 : Nat) : Int) := by
        rw [i64_succ (by omega), IntWalk.i64_in _ (by omega)]; push_cast; omega
      rw [e6]
      exact tail (i + o + 1) q1 q3 (by omega) q2
theorem indexB_eq (N : Nat) (x : Str) (m : Int) (hm : m < 5) (hx : x.length ≤ 1000000) (hN : 1000000000 < N) : F_internal_stringslite_Index_f N x E5 [m] = some (Lib.index x E5) := by
  unfold F_internal_stringslite_Index_f
  simp only [joinAt]
  rw [show (((E5.length : Nat) : Int) == 0) = false from rfl, cond_false]
  by_cases hxe : E5 = x
  · subst hxe; rw [Lib.index_self]; rfl
  rw [show (E5 == x) = false by simpa using hxe, cond_false, show (((E5.length : Nat) : Int) == 1) = false from rfl, cond_false]
  have hE : E5.length = 5 := rfl
  by_cases hl : x.length ≤ 5
  · rw [decide_eq_true (by omega), cond_true, Lib.index_long (by omega) hxe]
  rw [decide_eq_false (by omega), cond_false]
  simp only [listCase]
  have hm' : decide (((E5.length : Nat) : Int) ≤ m) = false := decide_eq_false (by rw [hE]; omega)
  have hm2 : decide (m < ((E5.length : Nat) : Int)) = true := decide_eq_true (by rw [hE]; omega)
  simp only [hm', hm2, cond_true, cond_false]
  have hT : IntKind.i64.wrap (IntKind.i64.wrap ((x.length : Int) - ((E5.length : Nat) : Int)) + 1) = ((x.length - 4 : Nat) : Int) := by
    rw [hE, i64s (by omega) (by omega), i64_succ (by omega)]; congr 1; omega
  simp only [hT]
  rw [show (E5[0]? : Option UInt8) = some 10 from rfl, Option.bind_some, show (E5[1]? : Option UInt8) = some 101 from rfl, Option.bind_some]
  refine iter_eq (G := fun _ => some (Lib.index x E5)) (fun n z => ∃ (i f : Nat), z = (((i : Int), (f : Int), ()), (), (), ()) ∧ Lib.NoOcc x E5 i ∧ i ≤ x.length ∧ f ≤ i ∧ n = x.length - i) ?_ N x.length _ ⟨0, 0, rfl, .zero _ _, by omega, by omega, rfl⟩ (by omega)
  rintro n z rec ⟨i, f, rfl, hno, hi, hf, hn⟩ ih
  dsimp only
  by_cases hit0 : x.length - 4 ≤ i
  · rw [decide_eq_false (by omega), cond_false, Lib.index_past (by simp) hno (by rw [hE]; omega)]
  have hit : i < x.length - 4 := by omega
  rw [decide_eq_true (by omega), cond_true]
  -- where the first byte stands
  have tail : ∀ j : Nat, Lib.NoOcc x E5 j → j < x.length - 4 → i ≤ j → x[j]? = some 10 →
      ((at? x (IntKind.i64.wrap ((j : Int) + 1))).bind fun (c : UInt8) =>
        bif c == 101 then
          bif cutOk (j : Int) (IntKind.i64.wrap ((j : Int) + ((E5.length : Nat) : Int))) x.length then
            bif List.take ((IntKind.i64.wrap ((j : Int) + ((E5.length : Nat) : Int))).toNat - (j : Int).toNat) (List.drop (j : Int).toNat x) == E5 then some (j : Int)
            else (bif decide (IntKind.i64.wrap (4 + (IntKind.i64.wrap ((j : Int) + 1)).fdiv 16) ≤ IntKind.i64.wrap ((f : Int) + 1)) then
              bif decide (IntKind.i64.wrap ((j : Int) + 1) < ((x.length - 4 : Nat) : Int)) then
                bif cutOk (IntKind.i64.wrap ((j : Int) + 1)) (x.length : Int) x.length then
                  Option.bind (F_internal_bytealg_IndexRabinKarp_string_f N (List.drop (IntKind.i64.wrap ((j : Int) + 1)).toNat x) E5) fun (y : Int) =>
                    bif decide (y < 0) then some (-1) else some (IntKind.i64.wrap (IntKind.i64.wrap ((j : Int) + 1) + y))
                else none
              else rec ((IntKind.i64.wrap ((j : Int) + 1), IntKind.i64.wrap ((f : Int) + 1), ()), (), (), ())
            else rec ((IntKind.i64.wrap ((j : Int) + 1), IntKind.i64.wrap ((f : Int) + 1), ()), (), (), ()))
          else none
        else (bif decide (IntKind.i64.wrap (4 + (IntKind.i64.wrap ((j : Int) + 1)).fdiv 16) ≤ IntKind.i64.wrap ((f : Int) + 1)) then
              bif decide (IntKind.i64.wrap ((j : Int) + 1) < ((x.length - 4 : Nat) : Int)) then
                bif cutOk (IntKind.i64.wrap ((j : Int) + 1)) (x.length : Int) x.length then
                  Option.bind (F_internal_bytealg_IndexRabinKarp_string_f N (List.drop (IntKind.i64.wrap ((j : Int) + 1)).toNat x) E5) fun (y : Int) =>
                    bif decide (y < 0) then some (-1) else some (IntKind.i64.wrap (IntKind.i64.wrap ((j : Int) + 1) + y))
                else none
              else rec ((IntKind.i64.wrap ((j : Int) + 1), IntKind.i64.wrap ((f : Int) + 1), ()), (), (), ())
            else rec ((IntKind.i64.wrap ((j : Int) + 1), IntKind.i64.wrap ((f : Int) + 1), ()), (), (), ()))) = some (Lib.index x E5) := by
    intro j hnoj hj hij hc
    have rest : Lib.occAt x E5 j = false → (bif decide (IntKind.i64.wrap (4 + (IntKind.i64.wrap ((j : Int) + 1)).fdiv 16) ≤ IntKind.i64.wrap ((f : Int) + 1)) then
              bif decide (IntKind.i64.wrap ((j : Int) + 1) < ((x.length - 4 : Nat) : Int)) then
                bif cutOk (IntKind.i64.wrap ((j : Int) + 1)) (x.length : Int) x.length then
                  Option.bind (F_internal_bytealg_IndexRabinKarp_string_f N (List.drop (IntKind.i64.wrap ((j : Int) + 1)).toNat x) E5) fun (y : Int) =>
                    bif decide (y < 0) then some (-1) else some (IntKind.i64.wrap (IntKind.i64.wrap ((j : Int) + 1) + y))
                else none
              else rec ((IntKind.i64.wrap ((j : Int) + 1), IntKind.i64.wrap ((f : Int) + 1), ()), (), (), ())
            else rec ((IntKind.i64.wrap ((j : Int) + 1), IntKind.i64.wrap ((f : Int) + 1), ()), (), (), ())) = some (Lib.index x E5) := by
      intro hoc
      have hno1 := hnoj.succ hoc
      rw [i64_succ (n := j) (by omega), i64_succ (n := f) (by omega)]
      have hrec : rec ((((j + 1 : Nat) : Int), ((f + 1 : Nat) : Int), ()), (), (), ()) = some (Lib.index x E5) := ih (x.length - (j + 1)) _ (by omega) ⟨j + 1, f + 1, rfl, hno1, by omega, by omega, rfl⟩
      rw [hrec]
      cases decide (IntKind.i64.wrap (4 + (((j + 1 : Nat) : Int)).fdiv 16) ≤ ((f + 1 : Nat) : Int)) with
      | false => rfl
      | true =>
        rw [cond_true]
        by_cases hjt : j + 1 < x.length - 4
        · rw [decide_eq_true (by omega), cond_true, show cutOk (((j + 1 : Nat) : Int)) (x.length : Int) x.length = true by simp [cutOk]; omega, cond_true, Int.toNat_natCast,
            rk_eq N (x.drop (j + 1)) (by rw [List.length_drop]; omega) (by rw [List.length_drop]; omega) hN, Option.bind_some]
          have hd := Lib.index_drop hno1 (show j + 1 ≤ x.length by omega)
          have hge := Lib.index_ge (x.drop (j + 1)) E5
          by_cases h0 : Lib.index (x.drop (j + 1)) E5 = -1
          · rw [h0] at hd ⊢
            rw [hd]; rfl
          · have hle := Lib.index_room (x.drop (j + 1)) E5 (by omega)
            rw [List.length_drop] at hle
            rw [decide_eq_false (by omega), cond_false, hd, show (Lib.index (x.drop (j + 1)) E5 == -1) = false by simpa using h0]
            rw [IntWalk.i64_in _ (by omega), Int.add_comm]; rfl
        · rw [decide_eq_false (by omega), cond_false]
    rw [i64_succ (by omega), at?_nat, List.getElem?_eq_getElem (by omega), Option.bind_some]
    rw [show ((j + 1 : Nat) : Int) = IntKind.i64.wrap ((j : Int) + 1) from (i64_succ (by omega)).symm]
    have hroom : Lib.occAt x E5 j = ((x.drop j).take 5 == E5) := Lib.occAt_iff_take x E5 j (by rw [hE]; omega)
    by_cases h2 : x[j + 1]'(by omega) = 101
    · rw [show (x[j + 1]'(by omega) == 101) = true by simpa using h2, cond_true]
      have e5 : IntKind.i64.wrap ((j : Int) + ((E5.length : Nat) : Int)) = ((j + 5 : Nat) : Int) := by
        rw [hE, IntWalk.i64_in _ (by omega)]; rfl
      rw [e5, show cutOk (j : Int) ((j + 5 : Nat) : Int) x.length = true by simp [cutOk]; omega, cond_true, Int.toNat_natCast, Int.toNat_natCast, Nat.add_sub_cancel_left]
      cases hoc : ((x.drop j).take 5 == E5) with
      | true =>
        rw [hoc] at hroom
        rw [cond_true, Lib.index_hit hnoj (by omega) hroom]
      | false =>
        rw [cond_false]
        exact rest (by rw [hroom, hoc])
    · rw [show (x[j + 1]'(by omega) == 101) = false by simpa using h2, cond_false]
      refine rest ?_
      cases hoc : Lib.occAt x E5 j with
      | false => rfl
      | true =>
        have := Lib.occAt_second (c0 := 10) (c1 := 101) (t := [110, 100, 10]) rfl hoc
        rw [List.getElem?_eq_getElem (by omega)] at this
        exact absurd (Option.some.inj this) h2
  rw [at?_nat, List.getElem?_eq_getElem (by omega), Option.bind_some]
  by_cases h10 : x[i]'(by omega) = 10
  · rw [show (x[i]'(by omega) != 10) = false by simpa using h10, cond_false]
    exact tail i hno hit (Nat.le_refl _) (by rw [List.getElem?_eq_getElem (by omega), h10])
  · rw [show (x[i]'(by omega) != 10) = true by simpa using h10, cond_true]
    rw [i64_succ (by omega), show cutOk ((i + 1 : Nat) : Int) ((x.length - 4 : Nat) : Int) x.length = true by simp [cutOk]; omega, cond_true, idxByte_eq, Option.bind_some, Int.toNat_natCast, Int.toNat_natCast]
    have hne : x[i]? ≠ some 10 := by rw [List.getElem?_eq_getElem (by omega)]; simpa using h10
    have hge := Lib.indexByte_ge ((x.drop (i + 1)).take (x.length - 4 - (i + 1))) 10
    by_cases h0 : Lib.indexByte ((x.drop (i + 1)).take (x.length - 4 - (i + 1))) 10 = -1
    · rw [h0, Lib.index_skip_none (t := x.length - 4) rfl hno hne (by rw [hE]; omega) h0]; rfl
    · obtain ⟨o, ho⟩ : ∃ o : Nat, Lib.indexByte ((x.drop (i + 1)).take (x.length - 4 - (i + 1))) 10 = o := ⟨(Lib.indexByte ((x.drop (i + 1)).take (x.length - 4 - (i + 1))) 10).toNat, by omega⟩
      obtain ⟨q1, q2, q3⟩ := Lib.noOcc_skip (t := x.length - 4) rfl hno hne ho
      rw [ho, decide_eq_false (by omega), cond_false]
      have e6 : IntKind.i64.wrap ((i : Int) + IntKind.i64.wrap ((o : Int) + 1)) = ((i + o + 1 : Nat) : Int) := by
        rw [i64_succ (by omega), IntWalk.i64_in _ (by omega)]; push_cast; omega
      rw [e6]
      exact tail (i + o + 1) q1 q3 (by omega) q2
theorem indexF_eq (N : Nat) (x : Str) (m : Int) (hx : x.length ≤ 1000000) (hN : 1000000000 < N) : F_internal_stringslite_Index_f N x E5 [m] = some (Lib.index x E5) := by
  by_cases h : 5 ≤ m
  · exact indexA_eq N x m h hx hN
  · exact indexB_eq N x m (by omega) hx hN
end Go.Proofs.Xx
set_option linter.unusedVariables false
set_option linter.unusedSimpArgs false
set_option maxRecDepth 100000
namespace Go.Proofs.Xx
open Go Go.Xl Go.Ab Go.Proofs Go.Proofs.Xr Go.Proofs.Xs Go.Proofs.Xv
def spl : Str → Str → List Str
  | [], acc => [acc]
  | c :: r, acc => if c = 10 then acc :: spl r [] else spl r (acc ++ [c])
theorem spl_none : ∀ {s : Str} (acc : Str), (10 : UInt8) ∉ s → spl s acc = [acc ++ s]
  | [], acc, _ => by simp [spl]
  | c :: r, acc, h => by
    rw [List.mem_cons, not_or] at h
    rw [spl, if_neg (Ne.symm h.1), spl_none _ h.2]; simp
theorem spl_cut : ∀ {h : Str} (t acc : Str), (10 : UInt8) ∉ h → spl (h ++ 10 :: t) acc = (acc ++ h) :: spl t []
  | [], t, acc, _ => by simp [spl]
  | c :: r, t, acc, h => by
    rw [List.mem_cons, not_or] at h
    rw [List.cons_append, spl, if_neg (Ne.symm h.1), spl_cut t _ h.2]; simp
theorem spl_len : ∀ (s acc : Str), (spl s acc).length = List.count 10 s + 1
  | [], acc => rfl
  | c :: r, acc => by
    rw [spl, List.count_cons]
    split
    · rename_i h; subst h; simp [spl_len r []]
    · rename_i h; rw [spl_len r]; simp [h]
theorem index1_eq (N : Nat) (x : Str) (m : Int) : F_strings_Index N x [10] [m] = some (Lib.indexByte x 10) := by
  unfold F_strings_Index F_internal_stringslite_Index_f
  simp only [joinAt]
  rw [show ((([10] : Str).length : Int) == 0) = false from rfl, cond_false]
  by_cases h : ([10] : Str) = x
  · subst h; rfl
  rw [show (([10] : Str) == x) = false by simpa using h, cond_false, show ((([10] : Str).length : Int) == 1) = true from rfl, cond_true]
  rfl
theorem genSplit_eq (N : Nat) (s : Str) (m : Int) (hs : s.length ≤ 1000000) (hN : 1000000000 < N) : F_strings_genSplit N s [10] 0 (-1) [m] = some (spl s []) := by
  unfold F_strings_genSplit
  simp only [joinAt]
  rw [show (((-1 : Int)) == 0) = false from rfl, cond_false, show (([10] : Str) == []) = false from rfl, cond_false, show decide ((-1 : Int) < 0) = true from rfl, cond_true]
  have hc : F_strings_Count N s [10] [m] = some ((List.count 10 s : Nat) : Int) := by
    unfold F_strings_Count
    rw [show ((([10] : Str).length : Int) == 0) = false from rfl, cond_false, show ((([10] : Str).length : Int) == 1) = true from rfl, cond_true]
    rfl
  have hle : List.count 10 s ≤ s.length := List.count_le_length
  generalize hk : List.count 10 s = q at hc hle
  rw [hc, Option.bind_some]
  simp only [i64_succ (show q + 1 < 9223372036854775808 by omega), i64_succ (show s.length + 1 < 9223372036854775808 by omega)]
  have hM : (bif true then if ((s.length + 1 : Nat) : Int) < ((q + 1 : Nat) : Int) then ((s.length + 1 : Nat) : Int) else ((q + 1 : Nat) : Int)
      else if ((s.length + 1 : Nat) : Int) > ((q + 1 : Nat) : Int) then ((s.length + 1 : Nat) : Int) else ((q + 1 : Nat) : Int)) = ((q + 1 : Nat) : Int) := by
    rw [cond_true, if_neg (by omega)]
  simp only [hM, Int.toNat_natCast]
  rw [show (decide (0 ≤ ((q + 1 : Nat) : Int)) && (decide (16 * (q + 1) ≤ 281474976710656) && decide (((q + 1 : Nat) : Int) ≤ 9223372036854775807))) = true by simp; omega, cond_true]
  rw [i64_pred (n := q + 1) (by omega) (by omega), Nat.add_sub_cancel]
  refine iter_eq (G := fun _ => some (spl s [])) (fun n z => ∃ (i : Nat) (t : Str) (a : List Str), z = ((t, (i : Int), ()), (), (), a, ()) ∧ a.length = q + 1 ∧ i ≤ q ∧ List.count 10 t = q - i ∧ t.length ≤ s.length ∧ a.take i ++ spl t [] = spl s [] ∧ n = q - i) ?_ N q _ ⟨0, s, List.replicate (q + 1) [], rfl, by simp, by omega, by omega, Nat.le_refl _, by simp, by omega⟩ (by omega)
  rintro n z rec ⟨i, t, a, rfl, ha, hi, hct, htl, hsp, hn⟩ ih
  dsimp only
  by_cases hiq : i < q
  · rw [decide_eq_true (by omega), cond_true, index1_eq, Option.bind_some]
    rcases split_at 10 t with h | ⟨h, u, rfl, hnot⟩
    · rw [List.count_eq_zero.2 h] at hct; omega
    · rw [idx_some hnot, decide_eq_false (by omega), cond_false]
      have hlt : (h ++ 10 :: u).length = h.length + 1 + u.length := by simp; omega
      rw [Int.add_zero, i64k (by omega), show cutOk 0 (h.length : Int) (h ++ 10 :: u).length = true by simp [cutOk]; omega, cond_true]
      rw [show (decide (0 ≤ (i : Int)) && decide ((i : Int) < ((q + 1 : Nat) : Int))) = true by simp; omega, cond_true, Int.toNat_natCast, Nat.zero_add, List.getElem?_eq_getElem (by omega), Option.bind_some]
      have e1 : IntKind.i64.wrap ((h.length : Int) + ((([10] : Str).length : Nat) : Int)) = ((h.length + 1 : Nat) : Int) := by
        rw [show ((([10] : Str).length : Nat) : Int) = 1 from rfl, i64_succ (by omega)]
      rw [e1, show cutOk ((h.length + 1 : Nat) : Int) ((h ++ 10 :: u).length : Int) (h ++ 10 :: u).length = true by simp [cutOk]; omega, cond_true, Int.toNat_natCast, Int.toNat_natCast, i64_succ (by omega)]
      have e2 : List.drop (h.length + 1) (h ++ 10 :: u) = u := by simp
      have e3 : List.take h.length (h ++ 10 :: u) = h := by simp
      rw [e2, e3]
      have e4 : List.count 10 h = 0 := List.count_eq_zero.2 hnot
      refine ih (q - (i + 1)) _ (by omega) ⟨i + 1, u, a.set i h, rfl, by simpa using ha, by omega, ?_, by omega, ?_, rfl⟩
      · rw [List.count_append, List.count_cons, e4] at hct
        simp at hct; omega
      · rw [spl_cut u [] hnot, List.nil_append] at hsp
        rw [← hsp, List.take_add_one, List.take_set_of_le (Nat.le_refl _)]
        rw [List.getElem?_set_self (by omega)]
        simp
  · have : i = q := by omega
    subst this
    rw [decide_eq_false (by omega), cond_false]
    have hnot : (10 : UInt8) ∉ t := List.count_eq_zero.1 (by omega)
    rw [show (decide (0 ≤ (i : Int)) && decide ((i : Int) < ((i + 1 : Nat) : Int))) = true by simp; omega, cond_true, Int.toNat_natCast, Nat.zero_add, List.getElem?_eq_getElem (by omega), Option.bind_some, i64_succ (by omega)]
    rw [show cutOk 0 ((i + 1 : Nat) : Int) (i + 1) = true by simp [cutOk]; omega, cond_true, Int.toNat_natCast, Nat.sub_zero, Nat.zero_add, show (i + 1).ble (a.set i t).length = true by simp [ha], cond_true]
    rw [spl_none [] hnot, List.nil_append] at hsp
    rw [← hsp, List.drop_zero, List.take_add_one, List.take_set_of_le (Nat.le_refl _), List.getElem?_set_self (by omega)]
    rfl
theorem spl_eq (N : Nat) (s : Str) (m : Int) (hs : s.length ≤ 1000000) (hN : 1000000000 < N) : F_strings_Split N s [10] [m] = some (spl s []) := by
  unfold F_strings_Split
  rw [genSplit_eq N s m hs hN]; rfl
end Go.Proofs.Xx
set_option linter.unusedVariables false
set_option linter.unusedSimpArgs false
set_option maxRecDepth 100000
namespace Go.Proofs.Xv
open Go Go.Xl Go.Ab Go.Proofs Go.Proofs.Xr Go.Proofs.Xs
theorem intParse64 (N M : Nat) (s : List UInt8) (bs : Int) (hl : s.length < 9223372036854775807) (hN : s.length < N) (hM : M ≤ 18446744073709551615) (h0 : (bs == 0) = false) (h1 : decide (bs < 0) = false) (h2 : decide (64 < bs) = false)
    (h3 : decide (0 ≤ IntKind.u64.wrap bs) = true) (hb : IntKind.u64.wrap (IntKind.u64.wrap (1 * 2 ^ min (IntKind.u64.wrap bs).toNat 64) - 1) = (M : Int)) :
    F_internal_strconv_ParseUint N s 10 bs = some (if s = [] then (0, some 2) else pu M 0 s) := by
  unfold F_internal_strconv_ParseUint
  by_cases hs : s = []
  · subst hs; rfl
  rw [if_neg hs]
  have hs' : (s == []) = false := by simpa using hs
  have t1 : decide ((2 : Int) ≤ 10) = true := rfl
  have t2 : decide ((10 : Int) ≤ 36) = true := rfl
  have t3 : ((10 : Int) == 10) = true := rfl
  have t4 : ((10 : Int) == 0) = false := rfl
  have t5 : IntKind.u64.wrap 10 = 10 := rfl
  simp only [hs', cond_false, joinAt, t1, t2, t3, t4, cond_true, h0, h1, h2, h3, hb, ten8, t5]
  refine (iter_eq (R := Int × Option Int) (G := fun z : (Bool × Int × Int × Unit) × Unit × Unit × Unit => some (pu M z.1.2.1.toNat (s.drop z.1.2.2.1.toNat)))
    (fun m z => ∃ n i : Nat, z = ((false, (n : Int), (i : Int), ()), (), (), ()) ∧ n ≤ M ∧ i ≤ s.length ∧ m = s.length - i)
    ?_ N s.length ((false, 0, 0, ()), (), (), ()) ⟨0, 0, rfl, Nat.zero_le _, Nat.zero_le _, rfl⟩ hN).trans rfl
  rintro m z rec ⟨n, i, rfl, hn, hi, rfl⟩ ih
  simp only [Int.toNat_natCast, at?_nat]
  by_cases hil : i < s.length
  · have e1 : decide ((i : Int) < (s.length : Int)) = true := by simpa using hil
    rw [e1, cond_true, List.getElem?_eq_getElem hil, Option.bind_some, List.drop_eq_getElem_cons hil]
    generalize hc : s[i] = c
    simp only [pu]
    by_cases hd : 48 ≤ c.toNat ∧ c.toNat ≤ 57
    · obtain ⟨d1, d2, d3, d4, d5⟩ := digit c hd
      rw [if_pos hd]
      simp only [d1, d2, d3, d4, d5, cond_true, cond_false]
      by_cases hco : 1844674407370955162 ≤ n
      · have f3 : decide ((1844674407370955162 : Int) ≤ (n : Int)) = true := by simp; omega
        rw [f3, cond_true, if_neg (by omega)]
      have f1 : IntKind.u64.wrap ((n : Int) * 10) = (n : Int) * 10 := u64w (by omega) (by omega)
      have f3 : decide ((1844674407370955162 : Int) ≤ (n : Int)) = false := by simp; omega
      rw [f1, f3, cond_false]
      by_cases hov : n * 10 + (c.toNat - 48) < 18446744073709551616
      · have f2 : IntKind.u64.wrap ((n : Int) * 10 + ((c.toNat - 48 : Nat) : Int)) = ((n * 10 + (c.toNat - 48) : Nat) : Int) := by rw [u64w (by omega) (by omega)]; omega
        have f4 : decide (((n * 10 + (c.toNat - 48) : Nat) : Int) < (n : Int) * 10) = false := by simp; omega
        rw [f2, f4, cond_false, i64_succ (by omega)]
        by_cases hm : n * 10 + (c.toNat - 48) ≤ M
        · have f5 : decide ((M : Int) < ((n * 10 + (c.toNat - 48) : Nat) : Int)) = false := by simp; omega
          rw [if_pos hm, f5, cond_false]
          have := ih (s.length - (i + 1)) ((false, ((n * 10 + (c.toNat - 48) : Nat) : Int), ((i + 1 : Nat) : Int), ()), (), (), ()) (by omega) ⟨_, _, rfl, hm, by omega, rfl⟩
          rw [this]
          simp only [Int.toNat_natCast]
        · have f5 : decide ((M : Int) < ((n * 10 + (c.toNat - 48) : Nat) : Int)) = true := by simp; omega
          rw [if_neg hm, f5, cond_true]
      · have f2 : IntKind.u64.wrap ((n : Int) * 10 + ((c.toNat - 48 : Nat) : Int)) = ((n * 10 + (c.toNat - 48) - 18446744073709551616 : Nat) : Int) := by
          unfold IntKind.wrap
          simp [IntKind.bits, IntKind.signed]
          omega
        have f4 : decide (((n * 10 + (c.toNat - 48) - 18446744073709551616 : Nat) : Int) < (n : Int) * 10) = true := by simp; omega
        rw [f2, f4, cond_true, if_neg (by omega)]
    · rw [if_neg hd]
      obtain ⟨y, hy⟩ := lower_eq N c
      simp only [hy, Option.bind_some]
      have hx : ∀ (A : Option (Int × Option Int)), (bif decide (97 ≤ y) then bif decide (y ≤ 122) then bif decide ((10 : UInt8) ≤ y - 97 + 10) then some (0, some 2) else A else some (0, some 2) else some (0, some 2)) = some ((0 : Int), some (2 : Int)) := by
        intro A
        cases a1 : decide (97 ≤ y) with
        | false => rfl
        | true =>
          cases a2 : decide (y ≤ 122) with
          | false => rfl
          | true => rw [letter y a1 a2]; rfl
      rw [hx]
      rcases nodigit c hd with h | h
      · simp only [h, cond_false, Bool.cond_self]
      · simp only [h, cond_false, Bool.cond_self]
  · have e1 : decide ((i : Int) < (s.length : Int)) = false := by simpa using hil
    have : i = s.length := by omega
    subst this
    rw [e1, cond_false, List.drop_length]
    rfl
theorem parse64_eq (N M : Nat) (s : List UInt8) (bs : Int) (hl : s.length ≤ 281474976710656) (hN : s.length < N) (hM : M ≤ 18446744073709551615) (h0 : (bs == 0) = false) (h1 : decide (bs < 0) = false) (h2 : decide (64 < bs) = false)
    (h3 : decide (0 ≤ IntKind.u64.wrap bs) = true) (hb : IntKind.u64.wrap (IntKind.u64.wrap (1 * 2 ^ min (IntKind.u64.wrap bs).toNat 64) - 1) = (M : Int)) (b1 b2 : Bool) :
    F_strconv_ParseUint N s 10 bs [b1] [b2] = some ((puR M s).1, (puR M s).2.isSome) := by
  unfold F_strconv_ParseUint
  rw [intParse64 N M s bs (by omega) hN hM h0 h1 h2 h3 hb, Option.bind_some]
  show (bif bif true then !(puR M s).2.isNone else (puR M s).2.isNone then Option.bind (F_strconv_toError N _ s 10 bs (puR M s).2 [b1] [b2]) fun y_1 => some ((puR M s).1, y_1) else some ((puR M s).1, false)) = _
  unfold F_strconv_toError F_strconv_syntaxError F_strconv_rangeError
  rw [clone_eq N s hl]
  rcases puR_err M s with h | h | h <;> rw [h] <;> rfl
theorem parse64 (N : Nat) (s : List UInt8) (hl : s.length ≤ 281474976710656) (hN : s.length < N) (b1 b2 : Bool) : F_strconv_ParseUint N s 10 64 [b1] [b2] = some ((puR 18446744073709551615 s).1, (puR 18446744073709551615 s).2.isSome) :=
  parse64_eq N 18446744073709551615 s 64 hl hN (by decide) rfl rfl rfl rfl (by decide +kernel) b1 b2
theorem pu_le {M : Nat} : ∀ (s : List UInt8) (n : Nat), n ≤ M → ∃ v : Nat, (pu M n s).1 = (v : Int) ∧ v ≤ M
  | [], n, h => ⟨n, rfl, h⟩
  | c :: r, n, h => by
    rw [pu]
    split
    · split
      · rename_i h2; exact pu_le r _ h2
      · exact ⟨M, rfl, Nat.le_refl _⟩
    · exact ⟨0, rfl, Nat.zero_le _⟩
theorem puR_le (M : Nat) (s : List UInt8) : ∃ v : Nat, (puR M s).1 = (v : Int) ∧ v ≤ M := by
  unfold puR
  split
  · exact ⟨0, rfl, Nat.zero_le _⟩
  · exact pu_le s 0 (Nat.zero_le _)
theorem puR_dec (M x : Nat) (hx : x ≤ M) (hx2 : x < 18446744073709551616) : puR M (dec x) = ((x : Int), none) := by
  obtain ⟨h1, h2, h3⟩ := dec_facts x hx2
  have hne : dec x ≠ [] := by
    intro e; rw [e] at h3; exact absurd h3.1 (by simp)
  have hn : (puR M (dec x)).2 = none := puR_none.2 ⟨hne, h1, by rw [h2]; exact hx⟩
  have hv := puR_val hn
  rw [h2] at hv
  exact Prod.ext hv hn
theorem index32_eq (N : Nat) (x : List UInt8) : F_internal_stringslite_Index N x [32] = some (Lib.indexByte x 32) := by
  unfold F_internal_stringslite_Index
  by_cases h : x = [32]
  · subst h; rfl
  · have : (([32] : List UInt8) == x) = false := by simpa using fun e => h e.symm
    rw [this]
    rfl
theorem cut32_none (N : Nat) {x : List UInt8} (h : (32 : UInt8) ∉ x) : F_strings_Cut N x [32] = some (x, [], false) := by
  unfold F_strings_Cut F_internal_stringslite_Cut
  rw [index32_eq, idx_none h]
  rfl
theorem cut32_some (N : Nat) {h t : List UInt8} (hn : (32 : UInt8) ∉ h) (hl : (h ++ 32 :: t).length < 9223372036854775807) : F_strings_Cut N (h ++ 32 :: t) [32] = some (h, t, true) := by
  unfold F_strings_Cut F_internal_stringslite_Cut
  rw [index32_eq, idx_some hn]
  have hlen : (h ++ 32 :: t).length = h.length + (t.length + 1) := by simp
  rw [hlen] at hl ⊢
  have e1 : decide ((0 : Int) ≤ (h.length : Int)) = true := by simp
  have e2 : cutOk 0 (h.length : Int) (h.length + (t.length + 1)) = true := by simp [cutOk]; omega
  have e3 : IntKind.i64.wrap ((h.length : Int) + (([32] : List UInt8).length : Int)) = ((h.length + 1 : Nat) : Int) := i64_succ (by omega)
  have e4 : cutOk ((h.length + 1 : Nat) : Int) ((h.length + (t.length + 1) : Nat) : Int) (h.length + (t.length + 1)) = true := by simp [cutOk]; omega
  simp only [Option.bind_some, e1, e2, e3, e4, cond_true, Int.toNat_natCast]
  rw [List.take_left, show h ++ 32 :: t = (h ++ [32]) ++ t by simp, List.drop_left' (by simp)]
theorem hasPre (N : Nat) (p r : List UInt8) (h : (p ++ r).length < 9223372036854775807) : F_internal_stringslite_HasPrefix N (p ++ r) p = some true := by
  unfold F_internal_stringslite_HasPrefix
  have e1 : decide (((p.length : Nat) : Int) ≤ (((p ++ r).length : Nat) : Int)) = true := by simp; omega
  have e2 : cutOk 0 ((p.length : Nat) : Int) (p ++ r).length = true := by simp [cutOk]; omega
  simp only [e1, e2, cond_true, Int.toNat_natCast, List.take_left]
  simp
theorem hasPre_none (N : Nat) (p x : List UInt8) (h : ¬ p <+: x) : F_internal_stringslite_HasPrefix N x p = some false := by
  unfold F_internal_stringslite_HasPrefix
  by_cases hl : p.length ≤ x.length
  · have e1 : decide (((p.length : Nat) : Int) ≤ ((x.length : Nat) : Int)) = true := by simp; omega
    have e2 : cutOk 0 ((p.length : Nat) : Int) x.length = true := by simp [cutOk]; omega
    simp only [e1, e2, cond_true, Int.toNat_natCast]
    have : (x.take p.length == p) = false := by
      rw [beq_eq_false_iff_ne]
      intro e
      exact h (e ▸ List.take_prefix _ _)
    first
      | (simp only [this]; done)
      | (rw [Nat.sub_zero, List.drop_zero, this])
      | simp [this]
  · have e1 : decide (((p.length : Nat) : Int) ≤ ((x.length : Nat) : Int)) = false := by simp; omega
    simp only [e1, cond_false]
end Go.Proofs.Xv
set_option linter.unusedVariables false
set_option linter.unusedSimpArgs false
set_option maxRecDepth 100000
namespace Go.Proofs.Xx
open Go Go.Xl Go.Ab Go.Proofs Go.Proofs.Xr Go.Proofs.Xs Go.Proofs.Xv
def cutW : Str → Str × Str
  | [] => ([], [])
  | c :: r => if c = 32 then ([], r) else (c :: (cutW r).1, (cutW r).2)
theorem cutW_none : ∀ {s : Str}, (32 : UInt8) ∉ s → cutW s = (s, [])
  | [], _ => rfl
  | c :: r, h => by
    rw [List.mem_cons, not_or] at h
    rw [cutW, if_neg (Ne.symm h.1), cutW_none h.2]
theorem cutW_some : ∀ {h : Str} (t : Str), (32 : UInt8) ∉ h → cutW (h ++ 32 :: t) = (h, t)
  | [], t, _ => by simp [cutW]
  | c :: r, t, h => by
    rw [List.mem_cons, not_or] at h
    rw [List.cons_append, cutW, if_neg (Ne.symm h.1), cutW_some t h.2]
theorem cut_eq (N : Nat) (s : Str) (hs : s.length ≤ 1000000) : ∃ b, F_strings_Cut N s [32] = some ((cutW s).1, (cutW s).2, b) := by
  rcases split_at 32 s with h | ⟨h, t, rfl, hn⟩
  · exact ⟨false, by rw [cut32_none N h, cutW_none h]⟩
  · exact ⟨true, by rw [cut32_some N hn (by omega), cutW_some t hn]⟩
theorem unq_or : ∀ (n : Nat) (l out : Str), l.length ≤ n → unq l out = fail ∨ (unq l out).2.2 = true
  | 0, l, out, h => by
    have : l = [] := List.length_eq_zero_iff.1 (by omega)
    subst this; left; simp [unq]
  | n + 1, [], out, h => by left; simp [unq]
  | n + 1, c :: r, out, h => by
    rw [unq_cons]
    split
    · split
      · right; rfl
      · left; rfl
    · split
      · cases r with
        | nil => left; rfl
        | cons d r' =>
          simp only
          split
          · exact unq_or n r' _ (by simp at h; omega)
          · left; rfl
      · exact unq_or n r _ (by simp at h; omega)
theorem unqT_or (l : Str) : unqT l = fail ∨ ∃ a b, unqT l = (a, b, true) ∧ quo a ++ b = l ∧ textOk a = true := by
  cases l with
  | nil => left; rfl
  | cons c r =>
    by_cases hc : c = 34
    · rcases unq_or r.length r [] (Nat.le_refl _) with h | h
      · left; simp only [unqT, if_pos hc, h]
      · right
        have e : unqT (c :: r) = unq r [] := by simp only [unqT, if_pos hc]
        rw [← e] at h
        generalize hq : unqT (c :: r) = z at h
        obtain ⟨a, b, q⟩ := z
        simp only at h
        subst h
        obtain ⟨h1, h2⟩ := unqT_back hq
        refine ⟨a, b, rfl, h1, ?_⟩
        rw [← h1, unqT_quo] at hq
        split at hq
        · assumption
        · simp [fail] at hq
    · left; simp only [unqT, if_neg hc]
def mGo : Nat → Str → List Str → List Str
  | 0, _, acc => acc
  | n + 1, rest, acc => match rest with
    | [] => acc
    | c :: r => if c = 32 then (if (unqT r).2.2 = true then mGo n (unqT r).2.1 (acc ++ [(unqT r).1]) else acc) else acc
theorem unqT_lt {r : Str} (h : (unqT r).2.2 = true) : (unqT r).2.1.length + 2 ≤ r.length ∧ (unqT r).1.length ≤ r.length ∧ textOk (unqT r).1 = true := by
  rcases unqT_or r with h1 | ⟨a, b, h1, h2, h3⟩
  · rw [h1] at h; simp [fail] at h
  · rw [h1]
    have := quo_len a
    have e : (quo a).length + b.length = r.length := by rw [← h2, List.length_append]
    exact ⟨by simp only; omega, by simp only; omega, h3⟩
theorem mGo_fuel : ∀ (n m : Nat) (rest : Str) (acc : List Str), rest.length ≤ n → rest.length ≤ m → mGo n rest acc = mGo m rest acc
  | 0, m, rest, acc, h, _ => by
    have : rest = [] := List.length_eq_zero_iff.1 (by omega)
    subst this
    cases m <;> rfl
  | n + 1, m, rest, acc, h, h' => by
    cases rest with
    | nil => cases m <;> rfl
    | cons c r =>
      cases m with
      | zero => simp at h'
      | succ m =>
        simp only [mGo]
        split
        · split
          · rename_i hu
            have := unqT_lt hu
            simp at h h'
            exact mGo_fuel n m _ _ (by omega) (by omega)
          · rfl
        · rfl
theorem mGo_bound : ∀ (n : Nat) (rest : Str) (acc : List Str), (mGo n rest acc).length ≤ acc.length + rest.length ∧ ∀ a ∈ mGo n rest acc, a ∈ acc ∨ (a.length ≤ rest.length ∧ textOk a = true)
  | 0, rest, acc => by simp [mGo]; exact fun a h => .inl h
  | n + 1, [], acc => by simp [mGo]; exact fun a h => .inl h
  | n + 1, c :: r, acc => by
    simp only [mGo]
    split
    · split
      · rename_i hu
        obtain ⟨q1, q2, q3⟩ := unqT_lt hu
        obtain ⟨h1, h2⟩ := mGo_bound n (unqT r).2.1 (acc ++ [(unqT r).1])
        refine ⟨by simp at h1 ⊢; omega, fun a ha => ?_⟩
        rcases h2 a ha with h | h
        · rcases List.mem_append.1 h with h | h
          · exact .inl h
          · rw [List.mem_singleton] at h
            subst h
            exact .inr ⟨by simp; omega, q3⟩
        · exact .inr ⟨by simp; omega, h.2⟩
      · exact ⟨by simp, fun a h => .inl h⟩
    · exact ⟨by simp, fun a h => .inl h⟩
noncomputable def pLine (s : Str) : Ln := ((ofS (cutW s).1).1, (unqT (cutW s).2).1, mGo s.length (unqT (cutW s).2).2.1 [])
theorem cutW_len : ∀ (s : Str), (cutW s).2.length ≤ s.length
  | [] => Nat.le_refl _
  | c :: r => by
    rw [cutW]
    split
    · simp
    · have := cutW_len r; simp; omega
theorem unqT_le (l : Str) : (unqT l).2.1.length ≤ l.length ∧ (unqT l).1.length ≤ l.length := by
  rcases unqT_or l with h | ⟨a, b, h, h2, h3⟩
  · rw [h]; simp [fail]
  · have := unqT_lt (r := l) (by rw [h])
    exact ⟨by omega, this.2.1⟩
theorem pLine_B (N : Nat) (s : Str) (hs : s.length ≤ 1000000) (hN : 1000000000 < N) : LnB N (pLine s) := by
  have h1 := cutW_len s
  have h2 := unqT_le (cutW s).2
  obtain ⟨h3, h4⟩ := mGo_bound s.length (unqT (cutW s).2).2.1 []
  refine ⟨⟨by simp only [pLine]; omega, by simp only [pLine]; omega⟩, by simp only [pLine]; simp at h3; omega, by simp only [pLine]; simp at h3; omega, ?_⟩
  intro a ha
  rcases h4 a ha with h | h
  · simp at h
  · exact ⟨by omega, by omega⟩
theorem cutPre (N : Nat) (r : Str) (h : r.length < 1000000) : F_strings_CutPrefix N (32 :: r) [32] = some (r, true) := by
  unfold F_strings_CutPrefix F_internal_stringslite_CutPrefix
  rw [show (32 :: r : Str) = [32] ++ r from rfl, hasPre N [32] r (by simp; omega), Option.bind_some]
  simp only [Bool.not_true, cond_false]
  rw [show cutOk ((([32] : Str).length : Nat) : Int) ((([32] ++ r : Str).length : Nat) : Int) ([32] ++ r : Str).length = true by simp [cutOk]; omega, cond_true]
  rfl
theorem cutPre_not (N : Nat) (x : Str) (h : ∀ r, x ≠ 32 :: r) : F_strings_CutPrefix N x [32] = some (x, false) := by
  unfold F_strings_CutPrefix F_internal_stringslite_CutPrefix
  rw [hasPre_none N [32] x (by rintro ⟨t, ht⟩; exact h t ht.symm), Option.bind_some]
  rfl
theorem line_eq (N : Nat) (s : Str) (hs : s.length ≤ 100000) (hN : 1000000000 < N) : F_text_line N s T5 = some (pLine s) := by
  unfold F_text_line
  obtain ⟨b, hc⟩ := cut_eq N s (by omega)
  have hcl := cutW_len s
  have hul := unqT_le (cutW s).2
  rw [hc, Option.bind_some, of_eq N _ (by omega), Option.bind_some, unquote_eq N _ (show (cutW s).2.length ≤ 10000000 by omega) hN, Option.bind_some]
  have fu := mGo_fuel s.length (unqT (cutW s).2).2.1.length (unqT (cutW s).2).2.1 [] (by omega) (Nat.le_refl _)
  unfold pLine
  rw [fu]
  refine (iter_eq (G := fun z => some (z.2.1.2.1.1, z.2.1.2.1.2.1, mGo z.1.1.length z.1.1 z.2.1.2.1.2.2.1)) (fun n z => ∃ (rest : Str) (f : UInt8) (t : Str) (acc : List Str) (x0 : Ln), z = ((rest, ()), ((x0, ()), (f, t, acc, ()), ()), (), ()) ∧ acc.length + rest.length ≤ 100000 ∧ n = rest.length) ?_ N (unqT (cutW s).2).2.1.length _ ⟨_, _, _, [], _, rfl, by simp; omega, rfl⟩ (by omega)).trans rfl
  rintro n z rec ⟨rest, f, t, acc, x0, rfl, hl, hn⟩ ih
  dsimp only
  by_cases hr : ∃ r, rest = 32 :: r
  · obtain ⟨r, rfl⟩ := hr
    simp only [List.length_cons] at hl hn
    rw [cutPre N r (by omega), Option.bind_some, unquote_eq N r (by omega) hN]
    simp only [Bool.not_true, cond_false, Option.bind_some, mGo, List.length_cons, if_true]
    cases hu : (unqT r).2.2 with
    | false => rfl
    | true =>
      obtain ⟨q1, q2, q3⟩ := unqT_lt hu
      simp only [Bool.not_true, cond_false, if_true]
      rw [show fitsB (acc.length + ([].length + 1)) 16 = true from fit (by simp; omega) (by simp; omega), cond_true]
      rw [ih (unqT r).2.1.length _ (by omega) ⟨_, f, t, acc ++ [(unqT r).1], x0, rfl, by simp; omega, rfl⟩]
      dsimp only
      rw [mGo_fuel r.length (unqT r).2.1.length _ _ (by omega) (Nat.le_refl _)]
  · rw [cutPre_not N rest (fun r h => hr ⟨r, h⟩), Option.bind_some]
    simp only [Bool.not_false, cond_true]
    cases rest with
    | nil => rfl
    | cons c r =>
      simp only [mGo, List.length_cons]
      rw [if_neg (fun hc => hr ⟨r, by rw [hc]⟩)]
theorem nm_no32 (f : UInt8) : (32 : UInt8) ∉ nm f := by
  have h : ∀ n : Nat, n < 256 → (32 : UInt8) ∉ nm (UInt8.ofNat n) := by decide +kernel
  exact u8_all (p := fun f => (32 : UInt8) ∉ nm f) h f
theorem nm_no10 (f : UInt8) : (10 : UInt8) ∉ nm f := by
  have h : ∀ n : Nat, n < 256 → (10 : UInt8) ∉ nm (UInt8.ofNat n) := by decide +kernel
  exact u8_all (p := fun f => (10 : UInt8) ∉ nm f) h f
theorem ofS_nm {f : UInt8} (hf : goodF f = true) : ofS (nm f) = (f, true) := by
  have h : ∀ n : Nat, n < 256 → (goodF (UInt8.ofNat n) = true → ofS (nm (UInt8.ofNat n)) = (UInt8.ofNat n, true)) := by decide +kernel
  exact u8_all (p := fun f => goodF f = true → ofS (nm f) = (f, true)) h f hf
theorem ofS_back {s : Str} (h : (ofS s).2 = true) : goodF (ofS s).1 = true ∧ s = nm (ofS s).1 := by
  unfold ofS at h ⊢
  by_cases h1 : [110, 97, 109, 101] = s
  · subst h1; exact ⟨rfl, rfl⟩
  rw [show ([110, 97, 109, 101] == s) = false by simpa using h1] at h ⊢
  by_cases h2 : [112, 104, 111, 110, 101] = s
  · subst h2; exact ⟨rfl, rfl⟩
  rw [show ([112, 104, 111, 110, 101] == s) = false by simpa using h2] at h ⊢
  by_cases h3 : [109, 97, 105, 108] = s
  · subst h3; exact ⟨rfl, rfl⟩
  rw [show ([109, 97, 105, 108] == s) = false by simpa using h3] at h ⊢
  by_cases h4 : [116, 111, 119, 110] = s
  · subst h4; exact ⟨rfl, rfl⟩
  rw [show ([116, 111, 119, 110] == s) = false by simpa using h4] at h ⊢
  by_cases h5 : [110, 111, 116, 101] = s
  · subst h5; exact ⟨rfl, rfl⟩
  rw [show ([110, 111, 116, 101] == s) = false by simpa using h5] at h
  cases h
theorem mGo_moreP : ∀ (l : List Str) (n : Nat) (acc : List Str), (moreP l).length ≤ n → (∀ s ∈ l, textOk s = true) → mGo n (moreP l) acc = acc ++ l
  | [], n, acc, _, _ => by cases n <;> simp [moreP, mGo]
  | s :: r, n, acc, hn, ht => by
    have e : moreP (s :: r) = 32 :: (quo s ++ moreP r) := rfl
    rw [e] at hn ⊢
    cases n with
    | zero => simp at hn
    | succ n =>
      have hu : unqT (quo s ++ moreP r) = (s, moreP r, true) := by rw [unqT_quo, if_pos (ht s List.mem_cons_self)]
      simp only [mGo, hu, if_true]
      rw [mGo_moreP r n _ (by simp at hn; omega) (fun x hx => ht x (List.mem_cons_of_mem _ hx))]
      simp
theorem moreOk_all : ∀ {l : List Str} {t : Str} {p : Option Str}, moreOk t p l = true → ∀ s ∈ l, textOk s = true
  | [], _, _, _ => by simp
  | s :: r, t, p, h => by
    simp only [moreOk, Bool.and_eq_true] at h
    intro x hx
    rcases List.mem_cons.1 hx with rfl | hx
    · exact h.1
    · exact moreOk_all h.2.2.2 x hx
theorem lnOk_facts {x : Ln} (h : lnOk x = true) : goodF x.1 = true ∧ textOk x.2.1 = true ∧ ∀ s ∈ x.2.2, textOk s = true := by
  simp only [lnOk, Bool.and_eq_true] at h
  exact ⟨h.2.1, h.2.2, moreOk_all h.1⟩
def lnQ (x : Ln) : Str := nm x.1 ++ 32 :: (quo x.2.1 ++ moreP x.2.2)
theorem lnP_Q (x : Ln) : lnP x = lnQ x ++ [10] := by simp [lnP, lnQ]
theorem pLine_lnQ {x : Ln} (h : goodF x.1 = true ∧ textOk x.2.1 = true ∧ ∀ s ∈ x.2.2, textOk s = true) : pLine (lnQ x) = x := by
  obtain ⟨h1, h2, h3⟩ := h
  unfold pLine
  rw [show cutW (lnQ x) = (nm x.1, quo x.2.1 ++ moreP x.2.2) from cutW_some _ (nm_no32 _)]
  rw [ofS_nm h1, unqT_quo, if_pos h2]
  dsimp only
  rw [mGo_moreP _ _ _ (by simp [lnQ]; omega) h3, List.nil_append]
end Go.Proofs.Xx
set_option linter.unusedVariables false
set_option linter.unusedSimpArgs false
set_option maxRecDepth 100000
namespace Go.Proofs.Xx
open Go Go.Xl Go.Ab Go.Proofs Go.Proofs.Xr Go.Proofs.Xs Go.Proofs.Xv
abbrev P8 : Str := [99, 111, 110, 116, 97, 99, 116, 32]
def trimP (e : Str) : Str := if P8 <+: e then e.drop 8 else e
theorem trim_eq (N : Nat) (e : Str) (he : e.length ≤ 1000000) : F_strings_TrimPrefix N e P8 = some (trimP e) := by
  unfold F_strings_TrimPrefix F_internal_stringslite_TrimPrefix trimP
  by_cases h : P8 <+: e
  · obtain ⟨r, rfl⟩ := h
    rw [hasPre N P8 r (by omega), Option.bind_some, if_pos ⟨r, rfl⟩, cond_true]
    rw [show cutOk (((P8 : Str).length : Nat) : Int) (((P8 ++ r : Str).length : Nat) : Int) (P8 ++ r : Str).length = true by simp [cutOk]; omega, cond_true]
    rfl
  · rw [hasPre_none N P8 e h, Option.bind_some, if_neg h]
    rfl
noncomputable def lnsOf (l : List Str) : List Ln := (l.filter (fun s => s != [])).map pLine
theorem lnsOf_succ {l : List Str} {k : Nat} (h : k < l.length) : lnsOf (l.take (k + 1)) = if l[k] != [] then lnsOf (l.take k) ++ [pLine l[k]] else lnsOf (l.take k) := by
  have : l.take (k + 1) = l.take k ++ [l[k]] := by rw [List.take_add_one, List.getElem?_eq_getElem h]; rfl
  rw [this, lnsOf, List.filter_append, List.map_append]
  cases hc : (l[k] != []) with
  | true => simp [hc, lnsOf]
  | false => simp [hc, lnsOf]
theorem lnsOf_len (l : List Str) : (lnsOf l).length ≤ l.length := by
  rw [lnsOf, List.length_map]; exact List.length_filter_le _ _
theorem spl_mem : ∀ (s acc a : Str), a ∈ spl s acc → a.length ≤ acc.length + s.length
  | [], acc, a, h => by simp [spl] at h; subst h; simp
  | c :: r, acc, a, h => by
    rw [spl] at h
    split at h
    · rcases List.mem_cons.1 h with rfl | h
      · simp
      · have := spl_mem r [] a h
        simp at this ⊢; omega
    · have := spl_mem r _ a h
      simp at this ⊢; omega
def pv : Option UInt8 → Nat
  | none => 0
  | some q => q.toNat
theorem lnsOk_len : ∀ (l : List Ln) (p : Option UInt8), lnsOk p l = true → l = [] ∨ pv p + l.length ≤ 5
  | [], p, _ => .inl rfl
  | x :: r, p, h => by
    right
    simp only [lnsOk, Bool.and_eq_true] at h
    obtain ⟨h1, h2, h3⟩ := h
    have hg := (lnOk_facts h1).1
    simp only [goodF, Bool.and_eq_true, decide_eq_true_eq] at hg
    have g1 := UInt8.le_iff_toNat_le.1 hg.1
    have g2 := UInt8.le_iff_toNat_le.1 hg.2
    have e1 : (1 : UInt8).toNat = 1 := rfl
    have e5 : (5 : UInt8).toNat = 5 := rfl
    have hp : pv p + 1 ≤ x.1.toNat := by
      cases p with
      | none => simp only [pv]; omega
      | some q =>
        simp only [aftF, Bool.not_eq_true', decide_eq_false_iff_not, UInt8.le_iff_toNat_le] at h2
        simp only [pv]; omega
    rcases lnsOk_len r _ h3 with h | h
    · subst h; simp; omega
    · simp only [pv] at h; simp; omega
theorem quo_le {s : Str} (h : textOk s = true) : (quo s).length ≤ 122 := by
  simp only [textOk, Bool.and_eq_true, decide_eq_true_eq] at h
  have := qs_len s
  simp [quo]; omega
theorem moreP_len : ∀ {l : List Str}, (∀ s ∈ l, textOk s = true) → (moreP l).length ≤ l.length * 123
  | [], _ => by simp [moreP]
  | s :: r, h => by
    have h1 := quo_le (h s List.mem_cons_self)
    have h2 := moreP_len (l := r) fun x hx => h x (List.mem_cons_of_mem _ hx)
    have e : moreP (s :: r) = 32 :: (quo s ++ moreP r) := rfl
    rw [e]; simp; omega
theorem lnsP_len : ∀ {l : List Ln} {b : Nat}, (∀ x ∈ l, (lnP x).length ≤ b) → (lnsP l).length ≤ l.length * b
  | [], b, _ => by simp [lnsP]
  | x :: r, b, h => by
    have h1 := h x List.mem_cons_self
    have h2 := lnsP_len (l := r) fun y hy => h y (List.mem_cons_of_mem _ hy)
    have e : lnsP (x :: r) = lnP x ++ lnsP r := rfl
    rw [e, List.length_append, List.length_cons, Nat.add_mul]; omega
theorem lnsOk_each : ∀ {l : List Ln} {p : Option UInt8}, lnsOk p l = true → ∀ x ∈ l, lnOk x = true
  | [], _, _ => by simp
  | x :: r, p, h => by
    simp only [lnsOk, Bool.and_eq_true] at h
    intro y hy
    rcases List.mem_cons.1 hy with rfl | hy
    · exact h.1
    · exact lnsOk_each h.2.2 y hy
theorem goodC_facts {c : Cd} (h : goodC c = true) : lnsOk none c.2 = true ∧ cidOk c.1.toNat = true ∧ 0 < c.2.length := by
  simp only [goodC, Bool.and_eq_true, decide_eq_true_eq] at h
  exact h
theorem pr_le {c : Cd} {k : Nat} (h : goodC c = true) (hk : ∀ x ∈ c.2, x.2.2.length ≤ k) (hv : c.1.toNat < 18446744073709551616) : (pr c).length ≤ (130 + k * 123) * 5 + 40 := by
  obtain ⟨h1, h2, h3⟩ := goodC_facts h
  have hl : c.2.length ≤ 5 := by
    rcases lnsOk_len _ _ h1 with h | h
    · rw [h]; simp
    · simp only [pv] at h; omega
  have hb : ∀ x ∈ c.2, (lnP x).length ≤ 130 + k * 123 := by
    intro x hx
    have hf := lnOk_facts (lnsOk_each h1 x hx)
    have a1 := nm_len x.1
    have a2 := quo_le hf.2.1
    have a3 := moreP_len hf.2.2
    have a4 := hk x hx
    have a5 : x.2.2.length * 123 ≤ k * 123 := Nat.mul_le_mul_right _ a4
    rw [lnP_len]; omega
  have hs := lnsP_len hb
  have hm : c.2.length * (130 + k * 123) ≤ 5 * (130 + k * 123) := Nat.mul_le_mul_right _ hl
  have hd := dec_len c.1.toNat hv
  have e : (pr c).length = (8 + (dec c.1.toNat).length + 1) + (lnsP c.2).length + 4 := by simp [pr, hdP]; omega
  rw [e]; omega
noncomputable def crd (v : Nat) (l : List Str) : Cd := ((v : Int), lnsOf l)
theorem crd_B (N v : Nat) (l : List Str) (hv : v < 18446744073709551616) (hl : l.length ≤ 10000) (hs : ∀ s ∈ l, s.length ≤ 10000) (hN : 1000000000 < N) : CdB N (crd v l) := by
  have h1 := lnsOf_len l
  refine ⟨by simp only [crd]; omega, by simp only [crd]; omega, ?_, v, rfl, hv⟩
  intro x hx
  simp only [crd, lnsOf, List.mem_map, List.mem_filter] at hx
  obtain ⟨s, ⟨hs1, _⟩, rfl⟩ := hx
  exact pLine_B N s (by have := hs s hs1; omega) hN
theorem crd_more (v : Nat) (l : List Str) (hs : ∀ s ∈ l, s.length ≤ 10000) : ∀ x ∈ (crd v l).2, x.2.2.length ≤ 10000 := by
  intro x hx
  simp only [crd, lnsOf, List.mem_map, List.mem_filter] at hx
  obtain ⟨s, ⟨hs1, _⟩, rfl⟩ := hx
  have h1 := cutW_len s
  have h2 := unqT_le (cutW s).2
  have h3 := (mGo_bound s.length (unqT (cutW s).2).2.1 []).1
  have := hs s hs1
  simp only [pLine]; simp at h3; omega
theorem one_none (N : Nat) (x : Str) (m : Int) (b1 b2 : Bool) (hx : x.length ≤ 300000) (hN : 1000000000 < N) (h : Lib.index (10 :: x) E5 = -1) : F_text_one N x T5 [m] tab0 [b1] [b2] = some ((0, []), [], false) := by
  unfold F_text_one F_strings_Index
  rw [decide_eq_true (by omega), cond_true, show ([10] ++ x : Str) = 10 :: x from rfl, indexF_eq N (10 :: x) m (by simp; omega) hN, Option.bind_some, Option.bind_some, h]
  rfl
theorem one_val (N : Nat) (x : Str) (m : Int) (b1 b2 : Bool) (k : Nat) (hx : x.length ≤ 300000) (hN : 1000000000 < N) (h : Lib.index (10 :: x) E5 = (k : Int)) (hk : k + 4 ≤ x.length) (hk2 : k ≤ 10000) :
    ∃ v : Nat, v < 18446744073709551616 ∧ (puR 18446744073709551615 (trimP ((spl (x.take k) []).headD []))).1 = (v : Int) ∧
      F_text_one N x T5 [m] tab0 [b1] [b2] = some (crd v ((spl (x.take k) []).drop 1), x.drop (k + 4), goodC (crd v ((spl (x.take k) []).drop 1)) && (pr (crd v ((spl (x.take k) []).drop 1)) == x.take (k + 4))) := by
  unfold F_text_one F_strings_Index
  rw [decide_eq_true (by omega), cond_true, show ([10] ++ x : Str) = 10 :: x from rfl, indexF_eq N (10 :: x) m (by simp; omega) hN, Option.bind_some, Option.bind_some, h]
  have e4 : IntKind.i64.wrap ((k : Int) + 4) = ((k + 4 : Nat) : Int) := IntWalk.i64_in _ (by omega)
  rw [decide_eq_false (by omega), cond_false, e4, show cutOk 0 ((k + 4 : Nat) : Int) x.length = true by simp [cutOk]; omega, cond_true, show cutOk ((k + 4 : Nat) : Int) (x.length : Int) x.length = true by simp [cutOk]; omega, cond_true,
    show cutOk 0 (k : Int) x.length = true by simp [cutOk]; omega, cond_true, Int.toNat_natCast, Int.toNat_natCast]
  have hlt : (x.take k).length ≤ 10000 := by rw [List.length_take]; omega
  rw [spl_eq N (x.take k) m (by omega) hN, Option.bind_some]
  have hls : (spl (x.take k) []).length ≤ 10001 := by
    rw [spl_len]
    have : List.count 10 (x.take k) ≤ (x.take k).length := List.count_le_length
    omega
  have hmem : ∀ a ∈ spl (x.take k) [], a.length ≤ 10000 := by
    intro a ha
    have := spl_mem _ _ a ha
    simp at this; omega
  have hpos : 0 < (spl (x.take k) []).length := by rw [spl_len]; omega
  generalize spl (x.take k) [] = Y at hls hmem hpos
  cases Y with
  | nil => simp at hpos
  | cons e r =>
  have he := hmem e List.mem_cons_self
  rw [show (e :: r)[0]? = some e from rfl, Option.bind_some, trim_eq N e (by omega), Option.bind_some]
  have htl : (trimP e).length ≤ 10000 := by
    unfold trimP; split
    · rw [List.length_drop]; omega
    · omega
  obtain ⟨v, hv1, hv2⟩ := puR_le 18446744073709551615 (trimP e)
  refine ⟨v, by omega, hv1, ?_⟩
  rw [parse64 N (trimP e) (by omega) (by omega) b1 b2, Option.bind_some]
  rw [show cutOk 1 (((e :: r).length : Nat) : Int) (e :: r).length = true by simp [cutOk]; omega, cond_true]
  simp only [hv1, List.drop_succ_cons, List.drop_zero]
  have hmr : ∀ a ∈ r, a.length ≤ 10000 := fun a ha => hmem a (List.mem_cons_of_mem _ ha)
  have hlr : r.length ≤ 10000 := by simp at hls; omega
  refine iter_eq (G := fun _ => some (crd v r, x.drop (k + 4), goodC (crd v r) && (pr (crd v r) == x.take (k + 4)))) (fun n z => ∃ i : Nat, z = (((i : Int), ()), (((v : Int), lnsOf (r.take i), ()), ()), (), ()) ∧ i ≤ r.length ∧ n = r.length - i) ?_ N r.length _ ⟨0, by simp [lnsOf], by omega, rfl⟩ (by omega)
  rintro n z rec ⟨i, rfl, hi, hn⟩ ih
  dsimp only
  by_cases hir : i < r.length
  · rw [decide_eq_true (by omega), cond_true, at?_nat, List.getElem?_eq_getElem hir, Option.bind_some]
    have hr := ih (r.length - (i + 1)) _ (by omega) ⟨i + 1, rfl, by omega, rfl⟩
    rw [lnsOf_succ hir] at hr
    cases hc : (r[i] != []) with
    | true =>
      rw [hc, if_pos rfl] at hr
      rw [cond_true, line_eq N r[i] (by have := hmr _ (List.getElem_mem hir); omega) hN, Option.bind_some]
      have hll := lnsOf_len (r.take i)
      rw [List.length_take] at hll
      rw [show fitsB ((lnsOf (r.take i)).length + [pLine r[i]].length) 48 = true from fit (by simp; omega) (by simp; omega), cond_true, i64_succ (by omega)]
      exact hr
    | false =>
      rw [hc, if_neg (by simp)] at hr
      rw [cond_false, i64_succ (by omega)]
      exact hr
  · have : i = r.length := by omega
    subst this
    rw [List.take_length, decide_eq_false (by omega), cond_false]
    have hB := crd_B N v r (by omega) hlr hmr hN
    have hle : goodC (crd v r) = true → (pr (crd v r)).length ≤ 10000000 := fun hg => by
      have := pr_le hg (crd_more v r hmr) (by simp only [crd, Int.toNat_natCast]; omega)
      omega
    show Option.bind (F_card_Good N (crd v r)) _ = _
    rw [cardGood_eq N _ hB, Option.bind_some]
    cases hg : goodC (crd v r) with
    | false => rfl
    | true =>
      rw [cond_true]
      show Option.bind (F_text_Print N (crd v r) T5 tab0) _ = _
      rw [print_eq N _ hB hN hle, Option.bind_some, printC, if_pos hg, Bool.true_and]
      rfl
end Go.Proofs.Xx
set_option linter.unusedVariables false
set_option linter.unusedSimpArgs false
set_option maxRecDepth 100000
namespace Go.Proofs.Xx
open Go Go.Xl Go.Ab Go.Proofs Go.Proofs.Xr Go.Proofs.Xs Go.Proofs.Xv
theorem one_sound (N : Nat) (x : Str) (m : Int) (b1 b2 : Bool) (hx : x.length ≤ 5000) (hN : 1000000000 < N) :
    ∃ c rest ok, F_text_one N x T5 [m] tab0 [b1] [b2] = some (c, rest, ok) ∧ (ok = true → goodC c = true ∧ x = pr c ++ rest ∧ CdB N c) := by
  rcases Int.lt_or_le (Lib.index (10 :: x) E5) 0 with h | h
  · have hge := Lib.index_ge (10 :: x) E5
    exact ⟨_, _, _, one_none N x m b1 b2 (by omega) hN (by omega), fun h => by cases h⟩
  · obtain ⟨k, hk⟩ : ∃ k : Nat, Lib.index (10 :: x) E5 = k := ⟨_, (Int.toNat_of_nonneg h).symm⟩
    have hr := Lib.index_room (10 :: x) E5 h
    rw [hk] at hr
    simp at hr
    obtain ⟨v, hv, _, he⟩ := one_val N x m b1 b2 k (by omega) hN hk (by omega) (by omega)
    refine ⟨_, _, _, he, fun hok => ?_⟩
    rw [Bool.and_eq_true, beq_iff_eq] at hok
    refine ⟨hok.1, by rw [hok.2, List.take_append_drop], ?_⟩
    have hls : (spl (x.take k) []).length ≤ 10001 := by
      rw [spl_len]
      have : List.count 10 (x.take k) ≤ (x.take k).length := List.count_le_length
      rw [List.length_take] at this
      omega
    refine crd_B N v _ hv (by rw [List.length_drop]; omega) ?_ hN
    intro s hs
    have := spl_mem _ _ s (List.mem_of_mem_drop hs)
    rw [List.length_take] at this
    simp at this; omega
theorem qs_no10 : ∀ {s : Str}, (s.all fun c => !decide (c < 32) && !decide (126 < c)) = true → (10 : UInt8) ∉ qs s
  | [], _ => by simp [qs]
  | c :: r, h => by
    rw [List.all_cons, Bool.and_eq_true] at h
    have hc : c ≠ 10 := by
      rintro rfl
      exact absurd h.1 (by decide)
    simp only [qs, List.mem_append, not_or]
    refine ⟨?_, qs_no10 h.2⟩
    split
    · simp; exact fun e => hc e.symm
    · simp; exact fun e => hc e.symm
theorem quo_no10 {s : Str} (h : textOk s = true) : (10 : UInt8) ∉ quo s := by
  simp only [textOk, Bool.and_eq_true] at h
  simp only [quo, List.mem_cons, List.mem_append, not_or]
  exact ⟨⟨by decide, qs_no10 h.2⟩, by decide, by simp⟩
theorem moreP_no10 : ∀ {l : List Str}, (∀ s ∈ l, textOk s = true) → (10 : UInt8) ∉ moreP l
  | [], _ => by simp [moreP]
  | s :: r, h => by
    have e : moreP (s :: r) = 32 :: (quo s ++ moreP r) := rfl
    rw [e, List.mem_cons, List.mem_append, not_or, not_or]
    exact ⟨by decide, quo_no10 (h s List.mem_cons_self), moreP_no10 fun x hx => h x (List.mem_cons_of_mem _ hx)⟩
theorem lnQ_no10 {x : Ln} (h : lnOk x = true) : (10 : UInt8) ∉ lnQ x := by
  obtain ⟨h1, h2, h3⟩ := lnOk_facts h
  simp only [lnQ, List.mem_append, List.mem_cons, not_or]
  exact ⟨nm_no10 _, by decide, quo_no10 h2, moreP_no10 h3⟩
theorem dec_no10 {v : Nat} (hv : v < 18446744073709551616) : (10 : UInt8) ∉ dec v := fun h => by
  have := (dec_facts v hv).1 10 h
  exact absurd this.1 (by decide)
def lf (ls : List Str) : Str := ls.flatMap fun l => l ++ [10]
theorem lf_cons (l : Str) (ls : List Str) : lf (l :: ls) = l ++ 10 :: lf ls := by simp [lf]
theorem idx_lines (rest : Str) : ∀ (ls : List Str), (∀ l ∈ ls, (10 : UInt8) ∉ l ∧ l ≠ [101, 110, 100]) → Lib.index (10 :: (lf ls ++ [101, 110, 100, 10] ++ rest)) E5 = ((lf ls).length : Int)
  | [], _ => by
    have : lf [] = [] := rfl
    rw [this]
    exact Lib.index_first (i := 0) (by simp) (by rw [Lib.occAt, List.drop_zero, List.isPrefixOf_iff_prefix]; exact ⟨rest, rfl⟩) (by simp)
  | l :: ls, h => by
    obtain ⟨h1, h2⟩ := h l List.mem_cons_self
    have ih := idx_lines rest ls fun a ha => h a (List.mem_cons_of_mem _ ha)
    have e : (10 :: (lf (l :: ls) ++ [101, 110, 100, 10] ++ rest) : Str) = (10 :: l) ++ 10 :: (lf ls ++ [101, 110, 100, 10] ++ rest) := by rw [lf_cons]; simp
    rw [e]
    have hno : Lib.NoOcc ((10 :: l) ++ 10 :: (lf ls ++ [101, 110, 100, 10] ++ rest)) E5 (l.length + 1) := by
      intro j hj
      cases hoc : Lib.occAt ((10 :: l) ++ 10 :: (lf ls ++ [101, 110, 100, 10] ++ rest)) E5 j with
      | false => rfl
      | true =>
        exfalso
        have hh := Lib.occAt_head (c := 10) (t := [101, 110, 100, 10]) rfl hoc
        cases j with
        | zero =>
          rw [Lib.occAt, List.drop_zero, List.isPrefixOf_iff_prefix] at hoc
          obtain ⟨t, ht⟩ := hoc
          simp only [List.cons_append, List.nil_append, List.cons.injEq, true_and] at ht
          have := point_unique (c := 10) (p := [101, 110, 100]) (q := t) (h := l) (t := lf ls ++ [101, 110, 100, 10] ++ rest) (by simpa using ht) (by decide) h1
          exact h2 this.1.symm
        | succ j =>
          rw [List.getElem?_append_left (by simp; omega), List.getElem?_cons_succ] at hh
          exact h1 (List.mem_of_getElem? hh)
    rw [Lib.index_drop hno (by simp), show l.length + 1 = (10 :: l).length by simp, List.drop_left, ih, lf_cons]
    rw [show (((lf ls).length : Int) == -1) = false by rw [beq_eq_false_iff_ne]; omega]
    simp; omega
theorem spl_lines : ∀ (ls : List Str), (∀ l ∈ ls, (10 : UInt8) ∉ l) → spl (lf ls) [] = ls ++ [[]]
  | [], _ => rfl
  | l :: ls, h => by
    rw [lf_cons, spl_cut _ _ (h l List.mem_cons_self), spl_lines ls fun a ha => h a (List.mem_cons_of_mem _ ha)]
    rfl
noncomputable def lns (c : Cd) : List Str := (P8 ++ dec c.1.toNat) :: c.2.map lnQ
theorem lnsP_lf : ∀ (l : List Ln), lnsP l = lf (l.map lnQ)
  | [] => rfl
  | x :: r => by
    have e : lnsP (x :: r) = lnP x ++ lnsP r := rfl
    rw [e, List.map_cons, lf_cons, lnP_Q, lnsP_lf r]; simp
theorem pr_lf (c : Cd) : pr c = lf (lns c) ++ [101, 110, 100, 10] := by
  rw [lns, lf_cons, pr, hdP, lnsP_lf]; simp
theorem lns_no10 {c : Cd} (hg : goodC c = true) (hv : c.1.toNat < 18446744073709551616) : ∀ l ∈ lns c, (10 : UInt8) ∉ l ∧ l ≠ [101, 110, 100] := by
  have h1 := lnsOk_each (goodC_facts hg).1
  intro l hl
  rcases List.mem_cons.1 hl with rfl | hl
  · refine ⟨?_, ?_⟩
    · rw [List.mem_append, not_or]; exact ⟨by decide, dec_no10 hv⟩
    · intro e
      have : (32 : UInt8) ∈ P8 ++ dec c.1.toNat := by simp
      rw [e] at this
      exact absurd this (by decide)
  · obtain ⟨x, hx, rfl⟩ := List.mem_map.1 hl
    refine ⟨lnQ_no10 (h1 x hx), ?_⟩
    intro e
    have : (32 : UInt8) ∈ lnQ x := by simp [lnQ]
    rw [e] at this
    exact absurd this (by decide)
theorem one_complete (N : Nat) (c : Cd) (rest : Str) (m : Int) (b1 b2 : Bool) (hN : 1000000000 < N) (hg : goodC c = true) (hB : CdB N c) (hx : (pr c ++ rest).length ≤ 300000) (hp : (pr c).length ≤ 9000) :
    F_text_one N (pr c ++ rest) T5 [m] tab0 [b1] [b2] = some (c, rest, true) := by
  obtain ⟨v, hv1, hv2⟩ := hB.2.2.2
  have hcv : c.1.toNat = v := by rw [hv1]; rfl
  have hl := lns_no10 hg (by rw [hcv]; exact hv2)
  have e0 : pr c = lf (lns c) ++ [101, 110, 100, 10] := pr_lf c
  have hk : Lib.index (10 :: (pr c ++ rest)) E5 = ((lf (lns c)).length : Int) := by
    rw [e0]; exact idx_lines rest (lns c) hl
  have hlen : (pr c).length = (lf (lns c)).length + 4 := by rw [e0]; simp
  obtain ⟨w, hw1, hw2, hw3⟩ := one_val N (pr c ++ rest) m b1 b2 (lf (lns c)).length hx hN hk (by rw [List.length_append]; omega) (by omega)
  have et : (pr c ++ rest).take (lf (lns c)).length = lf (lns c) := by
    rw [e0, List.append_assoc, List.take_left]
  have ed : (pr c ++ rest).drop ((lf (lns c)).length + 4) = rest := by rw [← hlen, List.drop_left]
  have ep : (pr c ++ rest).take ((lf (lns c)).length + 4) = pr c := by rw [← hlen, List.take_left]
  rw [et, spl_lines _ fun l hx => (hl l hx).1] at hw2 hw3
  rw [ed, ep] at hw3
  have eh : ((lns c ++ [[]]).headD [] : Str) = P8 ++ dec v := by rw [lns, hcv]; rfl
  have etr : trimP (P8 ++ dec v) = dec v := by
    unfold trimP
    rw [if_pos ⟨dec v, rfl⟩]
    rfl
  rw [eh, etr, puR_dec _ v (by omega) hv2] at hw2
  have ew : w = v := by
    have : (v : Int) = (w : Int) := hw2
    omega
  subst ew
  have ec : crd w ((lns c ++ [[]]).drop 1) = c := by
    have : (lns c ++ [[]]).drop 1 = c.2.map lnQ ++ [[]] := by rw [lns]; rfl
    rw [this]
    have h1 := lnsOk_each (goodC_facts hg).1
    have hf : lnsOf (c.2.map lnQ ++ [[]]) = c.2 := by
      rw [lnsOf, List.filter_append]
      have a1 : (c.2.map lnQ).filter (fun s => s != []) = c.2.map lnQ := by
        rw [List.filter_eq_self]
        intro a ha
        obtain ⟨x, _, rfl⟩ := List.mem_map.1 ha
        simp [lnQ]
      rw [a1]
      simp only [bne_self_eq_false, Bool.false_eq_true, not_false_eq_true, List.filter_cons_of_neg, List.filter_nil, List.append_nil, List.map_map]
      conv => rhs; rw [← List.map_id c.2]
      refine List.map_congr_left fun x hx => ?_
      exact pLine_lnQ (lnOk_facts (h1 x hx))
    rw [crd, hf, ← hv1]
  rw [ec, hg] at hw3
  rw [hw3]
  simp
end Go.Proofs.Xx
set_option linter.unusedVariables false
set_option linter.unusedSimpArgs false
set_option maxRecDepth 100000
namespace Go.Proofs.Xx
open Go Go.Xl Go.Ab Go.Proofs Go.Proofs.Xr Go.Proofs.Xs Go.Proofs.Xv
theorem rcut_none (N : Nat) (x : Str) (hx : x.length ≤ 1000000) (hN : 1000000000 < N) (h : (10 : UInt8) ∉ x) : F_epitaphref49_cut N x = some ([], [], false) := by
  unfold F_epitaphref49_cut
  refine scan_eq x.length (fun _ => some ([], [], false)) 0 ?_ ?_ N (by omega)
  · intro rec k _ hk hr
    simp only [decide_eq_true (show (k : Int) < (x.length : Int) by omega), cond_true, at?_nat, List.getElem?_eq_getElem hk, Option.bind_some, i64_succ (show k + 1 < 9223372036854775808 by omega), hr]
    have : x[k] ≠ 10 := fun e => h (e ▸ List.getElem_mem hk)
    rw [show (x[k] == 10) = false by simpa using this, cond_false]
  · intro rec k hk
    simp only [decide_eq_false (show ¬ (k : Int) < (x.length : Int) by omega), cond_false]
theorem rcut_some (N : Nat) (h t : Str) (hx : (h ++ 10 :: t).length ≤ 1000000) (hN : 1000000000 < N) (hn : (10 : UInt8) ∉ h) : F_epitaphref49_cut N (h ++ 10 :: t) = some (h, t, true) := by
  unfold F_epitaphref49_cut
  have hl : (h ++ 10 :: t).length = h.length + 1 + t.length := by simp; omega
  refine iter_eq (G := fun _ => some (h, t, true)) (fun n z => ∃ k : Nat, z = (((k : Int), ()), (), (), ()) ∧ k ≤ h.length ∧ n = h.length - k) ?_ N h.length _ ⟨0, rfl, by omega, rfl⟩ (by omega)
  rintro n z rec ⟨k, rfl, hk, hkn⟩ ih
  dsimp only
  rw [decide_eq_true (by omega), cond_true, at?_nat]
  by_cases hlt : k < h.length
  · rw [List.getElem?_append_left hlt, List.getElem?_eq_getElem hlt, Option.bind_some]
    have : h[k] ≠ 10 := fun e => hn (e ▸ List.getElem_mem hlt)
    rw [show (h[k] == 10) = false by simpa using this, cond_false, i64_succ (by omega)]
    exact ih (h.length - (k + 1)) _ (by omega) ⟨k + 1, rfl, by omega, rfl⟩
  · have : k = h.length := by omega
    subst this
    rw [List.getElem?_append_right (Nat.le_refl _), Nat.sub_self, List.getElem?_cons_zero, Option.bind_some, i64_succ (by omega)]
    rw [show ((10 : UInt8) == 10) = true from rfl, cond_true, show cutOk 0 (h.length : Int) (h ++ 10 :: t).length = true by simp [cutOk]; omega, cond_true,
      show cutOk ((h.length + 1 : Nat) : Int) ((h ++ 10 :: t).length : Int) (h ++ 10 :: t).length = true by simp [cutOk]; omega, cond_true, Int.toNat_natCast, Int.toNat_natCast]
    simp
def nb (M : Nat) : Nat → Str → Option Nat
  | v, [] => some v
  | v, c :: r => if isDb c && decide (v * 10 + wd c ≤ M) then nb M (v * 10 + wd c) r else none
where isDb (c : UInt8) : Bool := decide (48 ≤ c.toNat) && decide (c.toNat ≤ 57)
theorem nb_cons (M v : Nat) (c : UInt8) (r : Str) : nb M v (c :: r) = if nb.isDb c && decide (v * 10 + wd c ≤ M) then nb M (v * 10 + wd c) r else none := by rw [nb]
theorem isDb_iff (c : UInt8) : nb.isDb c = true ↔ isD c := by
  simp [nb.isDb, isD]
theorem nb_some {M : Nat} : ∀ (s : Str) (n v : Nat), nb M n s = some v → n ≤ M → (∀ c ∈ s, isD c) ∧ v = vl n s ∧ v ≤ M
  | [], n, v, h, hn => by simp [nb] at h; subst h; exact ⟨by simp, rfl, hn⟩
  | c :: r, n, v, h, hn => by
    rw [nb_cons] at h
    split at h
    · rename_i hc
      rw [Bool.and_eq_true, decide_eq_true_eq] at hc
      obtain ⟨h1, h2, h3⟩ := nb_some r _ v h hc.2
      refine ⟨?_, by rw [vl_cons]; exact h2, h3⟩
      intro d hd
      rcases List.mem_cons.1 hd with rfl | hd
      · exact (isDb_iff _).1 hc.1
      · exact h1 d hd
    · cases h
theorem nb_of {M : Nat} : ∀ (s : Str) (n : Nat), (∀ c ∈ s, isD c) → vl n s ≤ M → nb M n s = some (vl n s)
  | [], n, _, _ => by simp [nb, vl]
  | c :: r, n, h, hv => by
    rw [vl_cons] at hv ⊢
    have hle := vl_ge r (n * 10 + wd c)
    rw [nb_cons, if_pos (by rw [Bool.and_eq_true, decide_eq_true_eq]; exact ⟨(isDb_iff c).2 (h c List.mem_cons_self), by omega⟩)]
    exact nb_of r _ (fun d hd => h d (List.mem_cons_of_mem _ hd)) hv
abbrev M64 : Nat := 18446744073709551615
def okN (s : Str) : Bool := bif s != [] then (bif s == [48] then true else match s[0]? with | some c => c != 48 | none => false) else false
theorem dig3 : ∀ c : UInt8, nb.isDb c = true → decide (c < 48) = false ∧ decide (57 < c) = false ∧ c.toNat - 48 ≤ 9 ∧ 48 ≤ c.toNat := u8all (by decide +kernel)
theorem nodig3 : ∀ c : UInt8, nb.isDb c = false → (decide (c < 48) = true ∨ decide (c < 48) = false ∧ decide (57 < c) = true) := u8all (by decide +kernel)
theorem number_eq (N : Nat) (s : Str) (hs : s.length ≤ 1000000) (hN : 1000000000 < N) : F_epitaphref49_number N s = some (match nb M64 0 s with | some v => ((v : Int), okN s) | none => (0, false)) := by
  unfold F_epitaphref49_number
  refine (iter_eq (G := fun z => some (match nb M64 z.1.1.toNat (s.drop z.1.2.1.toNat) with | some v => ((v : Int), okN s) | none => (0, false))) (fun n z => ∃ v i : Nat, z = (((v : Int), (i : Int), ()), (), (), ()) ∧ v ≤ M64 ∧ i ≤ s.length ∧ n = s.length - i) ?_ N s.length _ ⟨0, 0, rfl, by omega, by omega, rfl⟩ (by omega)).trans rfl
  rintro n z rec ⟨v, i, rfl, hv, hi, hn⟩ ih
  have hM : M64 = 18446744073709551615 := rfl
  dsimp only
  simp only [Int.toNat_natCast]
  by_cases hk : i < s.length
  · rw [decide_eq_true (by omega), cond_true, at?_nat, List.getElem?_eq_getElem hk, Option.bind_some, Option.bind_some, List.drop_eq_getElem_cons hk, nb_cons]
    have ih' := fun (w : Nat) (hw : w ≤ M64) => ih (s.length - (i + 1)) ((((w : Nat) : Int), ((i + 1 : Nat) : Int), ()), (), (), ()) (by omega) ⟨w, i + 1, rfl, hw, by omega, rfl⟩
    generalize s[i] = c
    cases hd : nb.isDb c with
    | false =>
      rcases nodig3 c hd with h | ⟨h1, h2⟩
      · rw [h, cond_true]; rfl
      · rw [h1, cond_false, Option.bind_some, h2, cond_true]; rfl
    | true =>
      obtain ⟨d1, d2, d3, d4⟩ := dig3 c hd
      rw [d1, cond_false, Option.bind_some, d2, cond_false]
      have w0 : wd c = c.toNat - 48 := wd_eq c
      have e1 : IntKind.u64.wrap ((c.toNat : Int) - 48) = ((wd c : Nat) : Int) := by rw [u64w (by omega) (by omega), w0]; omega
      have e2 : IntKind.u64.wrap (18446744073709551615 - ((wd c : Nat) : Int)) = ((18446744073709551615 - wd c : Nat) : Int) := by rw [u64w (by omega) (by omega)]; omega
      have e3 : (((18446744073709551615 - wd c : Nat) : Int)).tdiv 10 = (((18446744073709551615 - wd c) / 10 : Nat) : Int) := rfl
      rw [e1, e2, e3, u64n (by omega), Bool.true_and]
      by_cases hle : v * 10 + wd c ≤ M64
      · rw [decide_eq_false (by omega), cond_false, if_pos (decide_eq_true hle)]
        have f1 : IntKind.u64.wrap ((v : Int) * 10) = ((v * 10 : Nat) : Int) := by rw [u64w (by omega) (by omega)]; omega
        have f2 : IntKind.u64.wrap (((v * 10 : Nat) : Int) + ((wd c : Nat) : Int)) = ((v * 10 + wd c : Nat) : Int) := by rw [u64w (by omega) (by omega)]; omega
        rw [f1, f2, i64_succ (by omega), ih' _ hle]
        simp only [Int.toNat_natCast]
      · rw [decide_eq_true (by omega), cond_true, if_neg (by simpa using hle)]
  · have : i = s.length := by omega
    subst this
    rw [decide_eq_false (by omega), cond_false, List.drop_length]
    simp only [nb, okN]
    cases s with
    | nil => rfl
    | cons c r =>
      rw [show (c :: r != []) = true from rfl, cond_true, cond_true]
      cases hq : (c :: r == [48]) with
      | true => rfl
      | false => rfl
theorem number_sound {s : Str} {v : Nat} (h : nb M64 0 s = some v) (ho : okN s = true) : s = dec v ∧ v < 18446744073709551616 := by
  obtain ⟨h1, h2, h3⟩ := nb_some s 0 v h (by decide)
  subst h2
  have h3' : vl 0 s < 18446744073709551616 := Nat.lt_succ_of_le h3
  refine ⟨?_, h3'⟩
  unfold okN at ho
  have hne : s ≠ [] := by rintro rfl; simp at ho
  rw [show (s != []) = true by simpa using hne, cond_true] at ho
  refine (dec_of hne h1 ?_ h3').symm
  intro hlen h0
  cases hq : (s == [48]) with
  | true =>
    rw [beq_iff_eq] at hq
    subst hq
    simp at hlen
  | false =>
    rw [hq, cond_false, h0] at ho
    simp at ho
theorem number_dec {v : Nat} (hv : v < 18446744073709551616) : nb M64 0 (dec v) = some v ∧ okN (dec v) = true := by
  obtain ⟨h1, h2, h3⟩ := dec_facts v hv
  have hn := nb_of (M := M64) (dec v) 0 h1 (by rw [h2]; exact Nat.le_of_lt_succ hv)
  rw [h2] at hn
  refine ⟨hn, ?_⟩
  have hne : dec v ≠ [] := by
    intro e; rw [e] at h3; exact absurd h3.1 (by simp)
  unfold okN
  rw [show (dec v != []) = true by simpa using hne, cond_true]
  cases hq : (dec v == [48]) with
  | true => rfl
  | false =>
    rw [cond_false]
    cases hd : dec v with
    | nil => exact absurd hd hne
    | cons c r =>
      rw [List.getElem?_cons_zero]
      simp only [bne_iff_ne, ne_eq]
      rintro rfl
      -- a zero ahead: then it is nought
      have hlen := h3
      rw [hd] at hlen
      cases r with
      | nil => rw [hd] at hq; simp at hq
      | cons d r' =>
        have hvl := h2
        rw [hd, vl_cons] at hvl
        have e0 : 0 * 10 + wd 48 = 0 := by rw [wd_eq]; rfl
        rw [e0] at hvl
        have hp := pad_vl (d :: r').length (d :: r') rfl (fun c hc => h1 c (by rw [hd]; exact List.mem_cons_of_mem _ hc))
        have hlt := hp.2
        rw [hvl] at hlt
        rcases hlen.2.2 with h | h
        · simp at h
        · simp only [List.length_cons, Nat.add_sub_cancel] at h hlt
          omega
end Go.Proofs.Xx
set_option linter.unusedVariables false
set_option linter.unusedSimpArgs false
set_option maxRecDepth 100000
namespace Go.Proofs.Xx
open Go Go.Xl Go.Ab Go.Proofs Go.Proofs.Xr Go.Proofs.Xs Go.Proofs.Xv
abbrev LnZ := (Str × Bool × Int × Unit) × ((Ln × Unit) × (Ln × Unit) × Unit) × Unit × Unit
noncomputable def lnF (N : Nat) (rec : LnZ → Option (Ln × Bool)) (z : LnZ) : Option (Ln × Bool) :=
  bif z.fst.snd.fst then
    bif z.fst.fst != [] then
      z.fst.fst[0]?.bind fun (c : UInt8) =>
        bif c != 32 then some (z.snd.fst.snd.fst.fst, false)
        else
          bif cutOk 1 (↑z.fst.fst.length : Int) z.fst.fst.length then
            Option.bind (F_epitaphref11_Unquote N (List.drop 1 z.fst.fst))
              fun (y : List UInt8 × List UInt8 × Bool) =>
              bif z.fst.snd.snd.fst == 0 then
                rec
                  ((y.snd.fst, y.snd.snd, IntKind.i64.wrap (z.fst.snd.snd.fst + 1), ()),
                    ((z.snd.fst.fst.fst, ()),
                      ((z.snd.fst.snd.fst.fst.fst, y.fst, z.snd.fst.snd.fst.fst.snd.snd), ()), ()),
                    (), ())
              else
                bif fitsB (0 + z.snd.fst.snd.fst.fst.snd.snd.length) 16 then
                  bif fitsB (([] ++ z.snd.fst.snd.fst.fst.snd.snd).length + [y.fst].length) 16 then
                    rec
                      ((y.snd.fst, y.snd.snd, IntKind.i64.wrap (z.fst.snd.snd.fst + 1), ()),
                        ((z.snd.fst.fst.fst, ()),
                          ((z.snd.fst.snd.fst.fst.fst, z.snd.fst.snd.fst.fst.snd.fst,
                              [] ++ z.snd.fst.snd.fst.fst.snd.snd ++ [y.fst]),
                            ()),
                          ()),
                        (), ())
                  else none
                else none
          else none
    else
      bif z.fst.snd.fst then some (z.snd.fst.snd.fst.fst, decide (0 < z.fst.snd.snd.fst))
      else some (z.snd.fst.snd.fst.fst, false)
  else
    bif z.fst.snd.fst then some (z.snd.fst.snd.fst.fst, decide (0 < z.fst.snd.snd.fst))
    else some (z.snd.fst.snd.fst.fst, false)
def cutV : Str → Str × Str
  | [] => ([], [])
  | c :: r => if c = 32 then ([], c :: r) else (c :: (cutV r).1, (cutV r).2)
theorem cutV_app : ∀ (s : Str), (cutV s).1 ++ (cutV s).2 = s
  | [] => rfl
  | c :: r => by
    rw [cutV]
    split
    · rfl
    · simp [cutV_app r]
theorem cutV_no : ∀ (s : Str), (32 : UInt8) ∉ (cutV s).1
  | [] => by simp [cutV]
  | c :: r => by
    rw [cutV]
    split
    · simp
    · rename_i h
      simp only [List.mem_cons, not_or]
      exact ⟨fun e => h e.symm, cutV_no r⟩
theorem cutV_head : ∀ (s : Str), (cutV s).2 = [] ∨ ∃ r, (cutV s).2 = 32 :: r
  | [] => .inl rfl
  | c :: r => by
    rw [cutV]
    split
    · rename_i h; exact .inr ⟨r, by rw [h]⟩
    · exact cutV_head r
theorem cutV_some {h t : Str} (hn : (32 : UInt8) ∉ h) : cutV (h ++ 32 :: t) = (h, 32 :: t) := by
  induction h with
  | nil => simp [cutV]
  | cons c r ih =>
    rw [List.mem_cons, not_or] at hn
    rw [List.cons_append, cutV, if_neg (Ne.symm hn.1), ih hn.2]
theorem rline_unfold (N : Nat) (x : Str) (hx : x.length ≤ 100000) (hN : 1000000000 < N) :
    F_epitaphref49_line N x = iter (lnF N) N (((cutV x).2, (ofS (cutV x).1).2, 0, ()), (((0, [], []), ()), (((ofS (cutV x).1).1, [], []), ()), ()), (), ()) := by
  have e := cutV_app x
  have hno := cutV_no x
  have hhd := cutV_head x
  generalize (cutV x).1 = h at *
  generalize (cutV x).2 = t at *
  subst e
  unfold F_epitaphref49_line
  have hl : (h ++ t).length = h.length + t.length := List.length_append
  refine iter_eq (G := fun _ => iter (lnF N) N ((t, (ofS h).2, 0, ()), (((0, [], []), ()), (((ofS h).1, [], []), ()), ()), (), ())) (fun n z => ∃ k : Nat, z = (((k : Int), ()), (), (), ()) ∧ k ≤ h.length ∧ n = h.length - k) ?_ N h.length _ ⟨0, rfl, by omega, rfl⟩ (by omega)
  rintro n z rec ⟨k, rfl, hk, hkn⟩ ih
  dsimp only
  by_cases hlt : k < h.length
  · rw [decide_eq_true (by omega), cond_true, at?_nat, List.getElem?_append_left hlt, List.getElem?_eq_getElem hlt, Option.bind_some]
    have : h[k] ≠ 32 := fun e => hno (e ▸ List.getElem_mem hlt)
    rw [show (h[k] != 32) = true by simpa using this, cond_true, i64_succ (by omega)]
    exact ih (h.length - (k + 1)) _ (by omega) ⟨k + 1, rfl, by omega, rfl⟩
  · have : k = h.length := by omega
    subst this
    have c1 : cutOk 0 (h.length : Int) (h ++ t).length = true := by simp [cutOk]; omega
    have c2 : cutOk (h.length : Int) ((h ++ t).length : Int) (h ++ t).length = true := by simp [cutOk]; omega
    simp only [Int.toNat_natCast, List.take_left, List.drop_left, c1, c2, cond_true, refOf_eq N h (show 10 < N by omega), Option.bind_some]
    rcases hhd with h0 | ⟨r, h0⟩
    · subst h0
      rw [decide_eq_false (by rw [List.length_append, List.length_nil]; omega), cond_false]
      rfl
    · subst h0
      rw [decide_eq_true (by rw [List.length_append, List.length_cons]; omega), cond_true, at?_nat, List.getElem?_append_right (Nat.le_refl _), Nat.sub_self, List.getElem?_cons_zero, Option.bind_some]
      rfl
theorem lnF_sound (N : Nat) (f : UInt8) (W : Str) (ok0 : Bool) (hW : W.length ≤ 9000) (hN : 1000000000 < N) :
    ∃ r : Ln × Bool, iter (lnF N) N ((W, ok0, 0, ()), (((0, [], []), ()), ((f, [], []), ()), ()), (), ()) = some r ∧
      (r.1.2.2.length ≤ 100001 ∧ (r.2 = true → ok0 = true ∧ ∃ t more, r.1 = (f, t, more) ∧ W = 32 :: quo t ++ moreP more ∧ textOk t = true ∧ ∀ s ∈ more, textOk s = true)) := by
  refine iter_ok (Q := fun (r : Ln × Bool) => r.1.2.2.length ≤ 100001 ∧ (r.2 = true → ok0 = true ∧ ∃ t more, r.1 = (f, t, more) ∧ W = 32 :: quo t ++ moreP more ∧ textOk t = true ∧ ∀ s ∈ more, textOk s = true))
    (fun n z => ∃ (s : Str) (ok : Bool) (k : Nat) (x0 : Ln) (t : Str) (more : List Str), z = ((s, ok, (k : Int), ()), ((x0, ()), ((f, t, more), ()), ()), (), ()) ∧ k + s.length ≤ 9000 ∧ more.length ≤ k ∧ n = s.length ∧
      (ok = true → ok0 = true ∧ ((k = 0 ∧ s = W ∧ more = []) ∨ (0 < k ∧ W = 32 :: quo t ++ moreP more ++ s ∧ textOk t = true ∧ ∀ s ∈ more, textOk s = true)))) ?_ N W.length _
    ⟨W, ok0, 0, (0, [], []), [], [], rfl, by simpa using hW, by simp, rfl, fun h => ⟨h, .inl ⟨rfl, rfl, rfl⟩⟩⟩ (by omega)
  rintro n z rec ⟨s, ok, k, x0, t, more, rfl, h1, h2, h3, h4⟩ ih
  unfold lnF
  dsimp only
  cases ok with
  | false => exact ⟨_, rfl, by simp only; omega, fun h => by cases h⟩
  | true =>
  obtain ⟨hok, h5⟩ := h4 rfl
  simp only [cond_true]
  cases s with
  | nil =>
    refine ⟨_, rfl, by simp only; omega, fun h => ⟨hok, ?_⟩⟩
    simp only [decide_eq_true_eq] at h
    rcases h5 with ⟨h6, _⟩ | ⟨h6, h7, h8, h9⟩
    · omega
    · exact ⟨t, more, rfl, by rw [h7, List.append_nil], h8, h9⟩
  | cons c r =>
    rw [show (c :: r != []) = true from rfl, cond_true, List.getElem?_cons_zero, Option.bind_some]
    by_cases hc : c ≠ 32
    · rw [show (c != 32) = true by simpa using hc, cond_true]
      exact ⟨_, rfl, by simp only; omega, fun h => by cases h⟩
    have hc : c = 32 := Classical.not_not.1 hc
    subst hc
    simp only [List.length_cons] at h1 h3
    rw [show ((32 : UInt8) != 32) = false from rfl, cond_false, show cutOk 1 (((32 :: r : Str).length : Nat) : Int) (32 :: r : Str).length = true by simp [cutOk]; omega, cond_true]
    rw [List.drop_succ_cons, List.drop_zero, refUnquote_eq N r (by omega) hN, Option.bind_some]
    have hul := unqT_le r
    have hlast : (32 :: r : Str).length = r.length + 1 := rfl
    by_cases hk : k = 0
    · subst hk
      rw [show (((0 : Nat) : Int) == 0) = true from rfl, cond_true]
      refine ih (unqT r).2.1.length _ (by omega) ⟨_, _, 1, x0, _, more, rfl, by omega, by omega, rfl, fun hu => ⟨hok, .inr ⟨by omega, ?_⟩⟩⟩
      rcases h5 with ⟨_, h6, h7⟩ | ⟨h6, _⟩
      · subst h7
        rcases unqT_or r with hf | ⟨a, b, hf, hq, ht⟩
        · rw [hf] at hu; simp [fail] at hu
        · rw [hf]
          refine ⟨?_, ht, by simp⟩
          rw [← h6, ← hq]; simp [moreP]
      · omega
    · rw [show (((k : Nat) : Int) == 0) = false by rw [beq_eq_false_iff_ne]; omega, cond_false, show fitsB (0 + more.length) 16 = true from fit (by omega) (by omega), cond_true, List.nil_append,
        show fitsB (more.length + [(unqT r).1].length) 16 = true from fit (by simp; omega) (by simp; omega), cond_true, i64_succ (by omega)]
      by_cases hu : (unqT r).2.2 = true
      · obtain ⟨q1, q2, q3⟩ := unqT_lt hu
        refine ih (unqT r).2.1.length _ (by omega) ⟨_, _, k + 1, x0, t, more ++ [(unqT r).1], rfl, by omega, by simp; omega, rfl, fun _ => ⟨hok, .inr ⟨by omega, ?_⟩⟩⟩
        rcases h5 with ⟨h6, _⟩ | ⟨h6, h7, h8, h9⟩
        · omega
        · rcases unqT_or r with hf | ⟨a, b, hf, hq, ht⟩
          · rw [hf] at hu; simp [fail] at hu
          · rw [hf]
            refine ⟨?_, h8, ?_⟩
            · rw [h7, ← hq]; simp [moreP]
            · intro s hs
              rcases List.mem_append.1 hs with hs | hs
              · exact h9 s hs
              · rw [List.mem_singleton] at hs; subst hs; exact ht
      · have hu' : (unqT r).2.2 = false := by simpa using hu
        have hf : unqT r = fail := by
          rcases unqT_or r with hf | ⟨a, b, hf, _, _⟩
          · exact hf
          · rw [hf] at hu'; cases hu'
        refine ih (unqT r).2.1.length _ (by rw [hf]; simp [fail]; omega) ⟨_, _, k + 1, x0, t, more ++ [(unqT r).1], rfl, by rw [hf]; simp [fail]; omega, by simp; omega, rfl, fun h => absurd h hu⟩
theorem lnF_complete (N : Nat) (x : Ln) (hN : 1000000000 < N) (hW : (32 :: quo x.2.1 ++ moreP x.2.2).length ≤ 9000) (h2 : textOk x.2.1 = true) (h3 : ∀ s ∈ x.2.2, textOk s = true) :
    iter (lnF N) N ((32 :: quo x.2.1 ++ moreP x.2.2, true, 0, ()), (((0, [], []), ()), ((x.1, [], []), ()), ()), (), ()) = some (x, true) := by
  obtain ⟨f, t, more⟩ := x
  simp only at *
  have hml : ∀ l : List Str, l.length ≤ (moreP l).length := by
    intro l
    induction l with
    | nil => simp
    | cons s r ih =>
      have e : moreP (s :: r) = 32 :: (quo s ++ moreP r) := rfl
      rw [e]; simp; omega
  have hm := hml more
  have hW' : 1 + (quo t).length + (moreP more).length ≤ 9000 := by simp at hW; omega
  refine iter_eq (G := fun _ => some ((f, t, more), true)) (fun n z => (∃ x0 : Ln, z = ((32 :: quo t ++ moreP more, true, 0, ()), ((x0, ()), ((f, [], []), ()), ()), (), ()) ∧ n = more.length + 1) ∨
    ∃ (j : Nat) (x0 : Ln), z = ((moreP (more.drop j), true, ((j + 1 : Nat) : Int), ()), ((x0, ()), ((f, t, more.take j), ()), ()), (), ()) ∧ j ≤ more.length ∧ n = more.length - j) ?_ N (more.length + 1) _ (.inl ⟨_, rfl, rfl⟩) (by omega)
  rintro n z rec h ih
  rcases h with ⟨x0, rfl, hn⟩ | ⟨j, x0, rfl, hj, hn⟩
  · unfold lnF
    dsimp only
    simp only [cond_true, List.cons_append]
    rw [show (32 :: (quo t ++ moreP more) != ([] : Str)) = true from rfl, cond_true, List.getElem?_cons_zero, Option.bind_some, show ((32 : UInt8) != 32) = false from rfl, cond_false,
      show cutOk 1 (((32 :: (quo t ++ moreP more) : Str).length : Nat) : Int) (32 :: (quo t ++ moreP more) : Str).length = true by simp [cutOk]; omega, cond_true]
    rw [List.drop_succ_cons, List.drop_zero, refUnquote_eq N _ (by simp; omega) hN, Option.bind_some, unqT_quo, if_pos h2]
    rw [show ((0 : Int) == 0) = true from rfl, cond_true]
    exact ih more.length _ (by omega) (.inr ⟨0, x0, rfl, by omega, rfl⟩)
  · unfold lnF
    dsimp only
    simp only [cond_true]
    by_cases hjl : j < more.length
    · have e : moreP (more.drop j) = 32 :: (quo more[j] ++ moreP (more.drop (j + 1))) := by
        rw [List.drop_eq_getElem_cons hjl]; rfl
      have hml2 : (moreP (more.drop j)).length ≤ (moreP more).length := by
        conv => rhs; rw [← List.take_append_drop j more]
        rw [moreP, moreP, List.flatMap_append, List.length_append]; omega
      rw [e] at hml2 ⊢
      simp only [List.length_cons, List.length_append] at hml2
      rw [show (32 :: (quo more[j] ++ moreP (more.drop (j + 1))) != ([] : Str)) = true from rfl, cond_true, List.getElem?_cons_zero, Option.bind_some, show ((32 : UInt8) != 32) = false from rfl, cond_false,
        show cutOk 1 (((32 :: (quo more[j] ++ moreP (more.drop (j + 1))) : Str).length : Nat) : Int) (32 :: (quo more[j] ++ moreP (more.drop (j + 1))) : Str).length = true by simp [cutOk]; omega, cond_true]
      rw [List.drop_succ_cons, List.drop_zero, refUnquote_eq N _ (by simp; omega) hN, Option.bind_some, unqT_quo, if_pos (h3 _ (List.getElem_mem hjl))]
      rw [show (((j + 1 : Nat) : Int) == 0) = false by rw [beq_eq_false_iff_ne]; omega, cond_false]
      have hlt : (more.take j).length = j := by rw [List.length_take]; omega
      rw [show fitsB (0 + (more.take j).length) 16 = true from fit (by omega) (by omega), cond_true, List.nil_append, show fitsB ((more.take j).length + [more[j]].length) 16 = true from fit (by simp; omega) (by simp; omega), cond_true, i64_succ (by omega)]
      have et : more.take j ++ [more[j]] = more.take (j + 1) := by rw [List.take_add_one, List.getElem?_eq_getElem hjl]; rfl
      rw [et]
      exact ih (more.length - (j + 1)) _ (by omega) (.inr ⟨j + 1, x0, rfl, by omega, rfl⟩)
    · have : j = more.length := by omega
      subst this
      rw [List.drop_length, List.take_length]
      rw [show (moreP [] != ([] : Str)) = false from rfl, cond_false, decide_eq_true (by omega)]
theorem rline_sound (N : Nat) (x : Str) (hx : x.length ≤ 9000) (hN : 1000000000 < N) :
    ∃ y ok, F_epitaphref49_line N x = some (y, ok) ∧ (ok = true → x = lnQ y ∧ goodF y.1 = true ∧ textOk y.2.1 = true ∧ ∀ s ∈ y.2.2, textOk s = true) := by
  rw [rline_unfold N x (by omega) hN]
  have e := cutV_app x
  have hl : (cutV x).2.length ≤ x.length := by conv => rhs; rw [← e]
                                               rw [List.length_append]; omega
  obtain ⟨r, h1, h2, h3⟩ := lnF_sound N (ofS (cutV x).1).1 (cutV x).2 (ofS (cutV x).1).2 (by omega) hN
  refine ⟨r.1, r.2, h1, fun hok => ?_⟩
  obtain ⟨h4, t, more, h5, h6, h7, h8⟩ := h3 hok
  obtain ⟨b1, b2⟩ := ofS_back h4
  rw [h5]
  refine ⟨?_, b1, h7, h8⟩
  conv => lhs; rw [← e, h6, b2]
  simp [lnQ]
theorem rline_complete (N : Nat) (y : Ln) (hN : 1000000000 < N) (hl : (lnQ y).length ≤ 9000) (h1 : goodF y.1 = true) (h2 : textOk y.2.1 = true) (h3 : ∀ s ∈ y.2.2, textOk s = true) : F_epitaphref49_line N (lnQ y) = some (y, true) := by
  rw [rline_unfold N _ (by omega) hN]
  have e : cutV (lnQ y) = (nm y.1, 32 :: quo y.2.1 ++ moreP y.2.2) := cutV_some (nm_no32 _)
  rw [e, ofS_nm h1]
  exact lnF_complete N y hN (by simp [lnQ] at hl ⊢; omega) h2 h3
end Go.Proofs.Xx
set_option linter.unusedVariables false
set_option linter.unusedSimpArgs false
set_option maxRecDepth 100000
namespace Go.Proofs.Xx
open Go Go.Xl Go.Ab Go.Proofs Go.Proofs.Xr Go.Proofs.Xs Go.Proofs.Xv
abbrev OnZ := (Str × Bool × Unit) × ((Cd × Unit) × (Cd × Unit) × Unit) × Unit × Unit
noncomputable def onF (N : Nat) (rec : OnZ → Option (Cd × Str × Bool)) (z : OnZ) : Option (Cd × Str × Bool) :=
  bif z.fst.snd.fst then
    Option.bind (F_epitaphref49_cut N z.fst.fst) fun (y : List UInt8 × List UInt8 × Bool) =>
      bif y.snd.snd then
        bif y.fst == [101, 110, 100] then
          Option.bind (F_epitaphref12_Good N z.snd.fst.snd.fst.fst) fun (y_2 : Bool) =>
            some (z.snd.fst.snd.fst.fst, y.snd.fst, y_2)
        else
          Option.bind (F_epitaphref49_line N y.fst)
            fun (y_2 : (UInt8 × List UInt8 × List (List UInt8)) × Bool) =>
            bif fitsB (0 + z.snd.fst.snd.fst.fst.snd.length) 48 then
              bif fitsB (([] ++ z.snd.fst.snd.fst.fst.snd).length + [y_2.fst].length) 48 then
                bif y.snd.snd then
                  rec
                    ((y.snd.fst, y_2.snd, ()),
                      ((z.snd.fst.fst.fst, ()),
                        ((z.snd.fst.snd.fst.fst.fst, [] ++ z.snd.fst.snd.fst.fst.snd ++ [y_2.fst]),
                          ()),
                        ()),
                      (), ())
                else
                  rec
                    ((y.snd.fst, false, ()),
                      ((z.snd.fst.fst.fst, ()),
                        ((z.snd.fst.snd.fst.fst.fst, [] ++ z.snd.fst.snd.fst.fst.snd ++ [y_2.fst]),
                          ()),
                        ()),
                      (), ())
              else none
            else none
      else
        Option.bind (F_epitaphref49_line N y.fst)
          fun (y_2 : (UInt8 × List UInt8 × List (List UInt8)) × Bool) =>
          bif fitsB (0 + z.snd.fst.snd.fst.fst.snd.length) 48 then
            bif fitsB (([] ++ z.snd.fst.snd.fst.fst.snd).length + [y_2.fst].length) 48 then
              bif y.snd.snd then
                rec
                  ((y.snd.fst, y_2.snd, ()),
                    ((z.snd.fst.fst.fst, ()),
                      ((z.snd.fst.snd.fst.fst.fst, [] ++ z.snd.fst.snd.fst.fst.snd ++ [y_2.fst]), ()),
                      ()),
                    (), ())
              else
                rec
                  ((y.snd.fst, false, ()),
                    ((z.snd.fst.fst.fst, ()),
                      ((z.snd.fst.snd.fst.fst.fst, [] ++ z.snd.fst.snd.fst.fst.snd ++ [y_2.fst]), ()),
                      ()),
                    (), ())
            else none
          else none
  else some ((0, []), [], false)
def lnFact (y : Ln) : Prop := goodF y.1 = true ∧ textOk y.2.1 = true ∧ ∀ s ∈ y.2.2, textOk s = true
theorem moreP_count : ∀ l : List Str, l.length ≤ (moreP l).length
  | [] => by simp
  | s :: r => by
    have e : moreP (s :: r) = 32 :: (quo s ++ moreP r) := rfl
    have := moreP_count r
    rw [e]; simp; omega
theorem lf_mem : ∀ {ls : List Str} {l : Str}, l ∈ ls → l.length + 1 ≤ (lf ls).length
  | a :: ls, l, h => by
    rw [lf_cons, List.length_append, List.length_cons]
    rcases List.mem_cons.1 h with rfl | h
    · omega
    · have := lf_mem h; omega
theorem lf_len : ∀ (ls : List Str), ls.length ≤ (lf ls).length
  | [] => by simp
  | a :: ls => by
    have := lf_len ls
    rw [lf_cons, List.length_append, List.length_cons, List.length_cons]; omega
theorem cdB_of (N v : Nat) (L : List Ln) (hN : 1000000000 < N) (hv : v < 18446744073709551616) (hf : ∀ y ∈ L, lnFact y) (hl : (lf (L.map lnQ)).length ≤ 9000) : CdB N ((v : Int), L) := by
  have h1 := lf_len (L.map lnQ)
  rw [List.length_map] at h1
  refine ⟨by simp only; omega, by simp only; omega, ?_, v, rfl, hv⟩
  intro y hy
  replace hy : y ∈ L := hy
  have h2 := lf_mem (List.mem_map_of_mem (f := lnQ) hy)
  have h3 := moreP_count y.2.2
  have h4 := quo_len y.2.1
  have e : (lnQ y).length = (nm y.1).length + 1 + (quo y.2.1).length + (moreP y.2.2).length := by simp [lnQ]; omega
  refine ⟨⟨by omega, by omega⟩, by omega, by omega, ?_⟩
  intro s hs
  have ht := (hf y hy).2.2 s hs
  simp only [textOk, Bool.and_eq_true, decide_eq_true_eq] at ht
  exact ⟨by omega, by omega⟩
theorem pr_of (v : Nat) (L : List Ln) : lf ((P8 ++ dec v) :: L.map lnQ) ++ [101, 110, 100, 10] = pr ((v : Int), L) := by
  rw [pr_lf]; rfl
theorem onF_sound (N : Nat) (X s0 : Str) (is0 : Bool) (cid : Int) (hN : 1000000000 < N) (hX : X.length ≤ 9000) (hs0 : s0.length ≤ X.length)
    (h0 : is0 = true → ∃ v : Nat, cid = (v : Int) ∧ v < 18446744073709551616 ∧ X = lf [P8 ++ dec v] ++ s0) :
    ∃ r : Cd × Str × Bool, iter (onF N) N ((s0, is0, ()), (((0, []), ()), ((cid, []), ()), ()), (), ()) = some r ∧ (r.2.2 = true → goodC r.1 = true ∧ X = pr r.1 ++ r.2.1 ∧ CdB N r.1) := by
  refine iter_ok (Q := fun (r : Cd × Str × Bool) => r.2.2 = true → goodC r.1 = true ∧ X = pr r.1 ++ r.2.1 ∧ CdB N r.1)
    (fun n z => ∃ (s : Str) (is : Bool) (x0 : Cd) (L : List Ln), z = ((s, is, ()), ((x0, ()), ((cid, L), ()), ()), (), ()) ∧ s.length ≤ 9000 ∧ L.length + s.length ≤ 9001 ∧ n = 2 * s.length + (if is = true then 1 else 0) ∧
      (is = true → L.length + s.length ≤ 9000 ∧ ∃ v : Nat, cid = (v : Int) ∧ v < 18446744073709551616 ∧ X = lf ((P8 ++ dec v) :: L.map lnQ) ++ s ∧ ∀ y ∈ L, lnFact y)) ?_ N (2 * s0.length + (if is0 = true then 1 else 0)) _
    ⟨s0, is0, (0, []), [], rfl, by omega, by simp; omega, rfl, fun h => ⟨by simp; omega, by
      obtain ⟨v, h1, h2, h3⟩ := h0 h
      exact ⟨v, h1, h2, h3, by simp⟩⟩⟩ (by split <;> omega)
  rintro n z rec ⟨s, is, x0, L, rfl, h1, h2, h3, h4⟩ ih
  unfold onF
  dsimp only
  cases is with
  | false => exact ⟨_, rfl, fun h => by cases h⟩
  | true =>
  obtain ⟨h5, v, h6, h7, h8, h9⟩ := h4 rfl
  rw [if_pos rfl] at h3
  simp only [cond_true]
  rcases split_at 10 s with hno | ⟨l, t, rfl, hno⟩
  · rw [rcut_none N s (by omega) hN hno, Option.bind_some]
    dsimp only
    obtain ⟨y, ok, hy, _⟩ := rline_sound N [] (by simp) hN
    rw [cond_false, hy, Option.bind_some, show fitsB (0 + L.length) 48 = true from fit (by omega) (by omega), cond_true, List.nil_append, show fitsB (L.length + [(y, ok).1].length) 48 = true from fit (by simp; omega) (by simp; omega), cond_true, cond_false]
    by_cases hs : s = []
    · subst hs
      exact ih 0 _ (by omega) ⟨[], false, x0, L ++ [y], rfl, by simp, by simp at h5 ⊢; omega, rfl, fun h => by cases h⟩
    · have hp : 0 < s.length := List.length_pos_iff.2 hs
      exact ih 0 _ (by omega) ⟨[], false, x0, L ++ [y], rfl, by simp, by simp; omega, rfl, fun h => by cases h⟩
  · have hl : (l ++ 10 :: t).length = l.length + 1 + t.length := by simp; omega
    rw [rcut_some N l t (by omega) hN hno, Option.bind_some]
    dsimp only
    rw [cond_true]
    by_cases he : l = [101, 110, 100]
    · rw [show (l == [101, 110, 100]) = true by simpa using he, cond_true]
      have hlf : (lf (L.map lnQ)).length ≤ 9000 := by
        have : (lf ((P8 ++ dec v) :: L.map lnQ)).length ≤ X.length := by rw [h8, List.length_append]; omega
        rw [lf_cons, List.length_append, List.length_cons] at this
        omega
      have hB := cdB_of N v L hN h7 h9 hlf
      rw [h6, refGoodC_eq N _ hB, Option.bind_some]
      refine ⟨_, rfl, fun hg => ⟨hg, ?_, hB⟩⟩
      rw [h8, he, ← pr_of]
      simp
    · rw [show (l == [101, 110, 100]) = false by simpa using he, cond_false]
      obtain ⟨y, ok, hy, hyy⟩ := rline_sound N l (by omega) hN
      rw [hy, Option.bind_some, show fitsB (0 + L.length) 48 = true from fit (by omega) (by omega), cond_true, List.nil_append, show fitsB (L.length + [(y, ok).1].length) 48 = true from fit (by simp; omega) (by simp; omega), cond_true, cond_true]
      refine ih (2 * t.length + (if ok = true then 1 else 0)) _ (by split <;> omega) ⟨t, ok, x0, L ++ [y], rfl, by omega, by simp; omega, rfl, fun hok => ⟨by simp; omega, v, h6, h7, ?_, ?_⟩⟩
      · obtain ⟨q1, q2⟩ := hyy hok
        rw [h8, q1]
        simp [lf]
      · intro z hz
        rcases List.mem_append.1 hz with hz | hz
        · exact h9 z hz
        · rw [List.mem_singleton] at hz; subst hz; exact (hyy hok).2
theorem rone_sound (N : Nat) (X : Str) (hN : 1000000000 < N) (hX : X.length ≤ 9000) :
    ∃ c rest ok, F_epitaphref49_one N X = some (c, rest, ok) ∧ (ok = true → goodC c = true ∧ X = pr c ++ rest ∧ CdB N c) := by
  unfold F_epitaphref49_one
  rcases split_at 10 X with hno | ⟨l, t, rfl, hno⟩
  · rw [rcut_none N X (by omega) hN hno, Option.bind_some]
    exact ⟨_, _, _, rfl, fun h => by cases h⟩
  · have hl : (l ++ 10 :: t).length = l.length + 1 + t.length := by simp; omega
    rw [rcut_some N l t (by omega) hN hno, Option.bind_some]
    simp only [Bool.not_true, cond_false]
    by_cases h9 : l.length < 9
    · rw [decide_eq_true (by omega), cond_true]
      exact ⟨_, _, _, rfl, fun h => by cases h⟩
    rw [decide_eq_false (by omega), cond_false, show cutOk 0 8 l.length = true by simp [cutOk]; omega, cond_true]
    by_cases h8 : ¬ l.take 8 = P8
    · rw [show (l.take 8 != P8) = true by simpa using h8, cond_true]
      exact ⟨_, _, _, rfl, fun h => by cases h⟩
    have h8 : l.take 8 = P8 := Classical.not_not.1 h8
    rw [show (l.take 8 != P8) = false by simpa using h8, cond_false, show cutOk 8 (l.length : Int) l.length = true by simp [cutOk]; omega, cond_true]
    rw [number_eq N _ (by rw [List.length_drop]; omega) hN, Option.bind_some]
    obtain ⟨r, hr1, hr2⟩ := onF_sound N (l ++ 10 :: t) t (match nb M64 0 (l.drop 8) with | some v => ((v : Int), okN (l.drop 8)) | none => (0, false)).2 (match nb M64 0 (l.drop 8) with | some v => ((v : Int), okN (l.drop 8)) | none => (0, false)).1 hN hX (by omega) (by
      intro h
      cases hn : nb M64 0 (l.drop 8) with
      | none => rw [hn] at h; cases h
      | some v =>
        rw [hn] at h
        obtain ⟨q1, q2⟩ := number_sound hn h
        refine ⟨v, rfl, q2, ?_⟩
        rw [← q1, ← h8]
        simp [lf])
    exact ⟨r.1, r.2.1, r.2.2, hr1, hr2⟩
theorem onF_complete (N : Nat) (c : Cd) (rest : Str) (hN : 1000000000 < N) (hg : goodC c = true) (hB : CdB N c) (hx : (pr c ++ rest).length ≤ 300000) (hp : (pr c).length ≤ 9000) :
    iter (onF N) N ((lf (c.2.map lnQ) ++ [101, 110, 100, 10] ++ rest, true, ()), (((0, []), ()), ((c.1, []), ()), ()), (), ()) = some (c, rest, true) := by
  obtain ⟨v, hv1, hv2⟩ := hB.2.2.2
  have hcv : c.1.toNat = v := by rw [hv1]; rfl
  have hno := lns_no10 hg (by rw [hcv]; exact hv2)
  have hno2 : ∀ l ∈ c.2.map lnQ, (10 : UInt8) ∉ l ∧ l ≠ [101, 110, 100] := fun l hl => hno l (List.mem_cons_of_mem _ hl)
  have hfacts := lnsOk_each (goodC_facts hg).1
  have hlen : (pr c).length = (8 + (dec v).length + 1) + (lf (c.2.map lnQ)).length + 4 := by
    rw [pr_lf, lns, lf_cons, hcv]; simp; omega
  have hcount := lf_len (c.2.map lnQ)
  rw [List.length_map] at hcount
  rw [List.length_append] at hx
  refine iter_eq (G := fun _ => some (c, rest, true)) (fun n z => ∃ (j : Nat) (x0 : Cd), z = ((lf ((c.2.drop j).map lnQ) ++ [101, 110, 100, 10] ++ rest, true, ()), ((x0, ()), ((c.1, c.2.take j), ()), ()), (), ()) ∧ j ≤ c.2.length ∧ n = c.2.length - j) ?_ N c.2.length _ ⟨0, (0, []), rfl, by omega, rfl⟩ (by omega)
  rintro n z rec ⟨j, x0, rfl, hj, hn⟩ ih
  unfold onF
  dsimp only
  rw [cond_true]
  have hdl : (lf ((c.2.drop j).map lnQ)).length ≤ (lf (c.2.map lnQ)).length := by
    conv => rhs; rw [← List.take_append_drop j c.2]
    rw [List.map_append, lf, lf, List.flatMap_append, List.length_append]; omega
  by_cases hjl : j < c.2.length
  · have e : lf ((c.2.drop j).map lnQ) ++ [101, 110, 100, 10] ++ rest = lnQ c.2[j] ++ 10 :: (lf ((c.2.drop (j + 1)).map lnQ) ++ [101, 110, 100, 10] ++ rest) := by
      rw [List.drop_eq_getElem_cons hjl, List.map_cons, lf_cons]; simp
    have hq := hno2 (lnQ c.2[j]) (List.mem_map_of_mem (List.getElem_mem hjl))
    have hlq := lf_mem (List.mem_map_of_mem (f := lnQ) (List.getElem_mem hjl))
    have elen : (lnQ c.2[j] ++ 10 :: (lf ((c.2.drop (j + 1)).map lnQ) ++ [101, 110, 100, 10] ++ rest)).length ≤ 1000000 := by
      rw [← e]; simp only [List.length_append, List.length_cons, List.length_nil]; omega
    rw [e, rcut_some N _ _ elen hN hq.1, Option.bind_some]
    dsimp only
    rw [cond_true, show (lnQ c.2[j] == [101, 110, 100]) = false by simpa using hq.2, cond_false]
    obtain ⟨f1, f2, f3⟩ := lnOk_facts (hfacts _ (List.getElem_mem hjl))
    rw [rline_complete N _ hN (by omega) f1 f2 f3, Option.bind_some]
    have hlt : (c.2.take j).length = j := by rw [List.length_take]; omega
    rw [show fitsB (0 + (c.2.take j).length) 48 = true from fit (by omega) (by omega), cond_true, List.nil_append, show fitsB ((c.2.take j).length + [(c.2[j], true).1].length) 48 = true from fit (by simp; omega) (by simp; omega), cond_true, cond_true]
    have et : c.2.take j ++ [c.2[j]] = c.2.take (j + 1) := by rw [List.take_add_one, List.getElem?_eq_getElem hjl]; rfl
    dsimp only
    rw [et]
    exact ih (c.2.length - (j + 1)) _ (by omega) ⟨j + 1, x0, rfl, by omega, rfl⟩
  · have : j = c.2.length := by omega
    subst this
    rw [List.drop_length, List.take_length]
    have e : lf (([] : List Ln).map lnQ) ++ [101, 110, 100, 10] ++ rest = [101, 110, 100] ++ 10 :: rest := by simp [lf]
    rw [e, rcut_some N [101, 110, 100] rest (by simp; omega) hN (by decide), Option.bind_some]
    dsimp only
    rw [cond_true, show (([101, 110, 100] : Str) == [101, 110, 100]) = true from rfl, cond_true]
    show Option.bind (F_epitaphref12_Good N c) _ = _
    rw [refGoodC_eq N c hB, Option.bind_some, hg]
theorem rone_complete (N : Nat) (c : Cd) (rest : Str) (hN : 1000000000 < N) (hg : goodC c = true) (hB : CdB N c) (hx : (pr c ++ rest).length ≤ 300000) (hp : (pr c).length ≤ 9000) :
    F_epitaphref49_one N (pr c ++ rest) = some (c, rest, true) := by
  obtain ⟨v, hv1, hv2⟩ := hB.2.2.2
  have hcv : c.1.toNat = v := by rw [hv1]; rfl
  have hno := lns_no10 hg (by rw [hcv]; exact hv2)
  have e : pr c ++ rest = (P8 ++ dec v) ++ 10 :: (lf (c.2.map lnQ) ++ [101, 110, 100, 10] ++ rest) := by
    rw [pr_lf, lns, lf_cons, hcv]; simp
  have h0 : (10 : UInt8) ∉ P8 ++ dec v := by
    have := (hno (P8 ++ dec c.1.toNat) List.mem_cons_self).1
    rw [hcv] at this; exact this
  have hd : 1 ≤ (dec v).length := by
    have := (dec_facts v hv2).2.2
    exact this.1
  have hl8 : (P8 ++ dec v).length = 8 + (dec v).length := by simp; omega
  unfold F_epitaphref49_one
  rw [e] at hx ⊢
  rw [rcut_some N _ _ (by omega) hN h0, Option.bind_some]
  simp only [Bool.not_true, cond_false]
  rw [decide_eq_false (by omega), cond_false, show cutOk 0 8 (P8 ++ dec v).length = true by simp [cutOk]; omega, cond_true]
  have ht : (P8 ++ dec v).take 8 = P8 := by rw [List.take_left' (by rfl)]
  have hdr : (P8 ++ dec v).drop 8 = dec v := by rw [List.drop_left' (by rfl)]
  have hdl := dec_len v hv2
  rw [ht, hdr, show (P8 != P8) = false by simp, cond_false, show cutOk 8 ((P8 ++ dec v).length : Int) (P8 ++ dec v).length = true by simp [cutOk]; omega, cond_true, number_eq N _ (by omega) hN, Option.bind_some]
  obtain ⟨n1, n2⟩ := number_dec hv2
  rw [n1, n2]
  rw [← e] at hx
  have := onF_complete N c rest hN hg hB hx hp
  rw [hv1] at this
  exact this
end Go.Proofs.Xx
set_option linter.unusedVariables false
set_option linter.unusedSimpArgs false
set_option maxRecDepth 100000
namespace Go.Proofs.Xx
open Go Go.Xl Go.Ab Go.Proofs Go.Proofs.Xr Go.Proofs.Xs Go.Proofs.Xv
theorem bneN (n : Nat) : (((n : Nat) : Int) != ((n : Nat) : Int)) = false := by simp
theorem texts_refl (N : Nat) (l : List Str) (h : l.length < N) (h2 : l.length < 9223372036854775807) : F_epitaphref12_Texts N l l = some true := by
  unfold F_epitaphref12_Texts
  rw [bneN, cond_false]
  refine scan_eq l.length (fun _ => some true) 0 ?_ ?_ N h
  · intro rec k _ hk hr
    simp only [decide_eq_true (show (k : Int) < (l.length : Int) by omega), cond_true, at?_nat, List.getElem?_eq_getElem hk, Option.bind_some, i64_succ (show k + 1 < 9223372036854775808 by omega), hr, bne_self_eq_false, cond_false]
  · intro rec k hk
    simp only [decide_eq_false (show ¬ (k : Int) < (l.length : Int) by omega), cond_false]
theorem lines_refl (N : Nat) (l : List Ln) (h : l.length < N) (h2 : l.length < 9223372036854775807) (h3 : ∀ x ∈ l, LnB N x) : F_epitaphref12_Lines N l l = some true := by
  unfold F_epitaphref12_Lines
  rw [bneN, cond_false]
  refine scan_eq l.length (fun _ => some true) 0 ?_ ?_ N h
  · intro rec k _ hk hr
    have hb := h3 _ (List.getElem_mem hk)
    simp only [decide_eq_true (show (k : Int) < (l.length : Int) by omega), cond_true, at?_nat, List.getElem?_eq_getElem hk, Option.bind_some, i64_succ (show k + 1 < 9223372036854775808 by omega), hr, bne_self_eq_false, cond_false,
      texts_refl N _ hb.2.1 hb.2.2.1, Bool.not_true]
  · intro rec k hk
    simp only [decide_eq_false (show ¬ (k : Int) < (l.length : Int) by omega), cond_false]
theorem same_refl (N : Nat) (c : Cd) (h : CdB N c) : F_epitaphref12_Same N c c = some true := by
  unfold F_epitaphref12_Same
  rw [beq_self_eq_true, cond_true, lines_refl N _ h.1 h.2.1 h.2.2.1]; rfl
theorem all_refl (N : Nat) (l : List Cd) (h : l.length < N) (h2 : l.length < 9223372036854775807) (h3 : ∀ c ∈ l, CdB N c) : F_epitaphref12_All N l l = some true := by
  unfold F_epitaphref12_All
  rw [bneN, cond_false]
  refine scan_eq l.length (fun _ => some true) 0 ?_ ?_ N h
  · intro rec k _ hk hr
    have hb := h3 _ (List.getElem_mem hk)
    simp only [decide_eq_true (show (k : Int) < (l.length : Int) by omega), cond_true, at?_nat, List.getElem?_eq_getElem hk, Option.bind_some, i64_succ (show k + 1 < 9223372036854775808 by omega), hr, cond_false,
      same_refl N _ hb, Bool.not_true]
  · intro rec k hk
    simp only [decide_eq_false (show ¬ (k : Int) < (l.length : Int) by omega), cond_false]
abbrev RdZ := (Str × List Cd × Unit) × Unit × Unit × Unit
noncomputable def rdF (one : Str → Option (Cd × Str × Bool)) (rec : RdZ → Option (List Cd × Int)) (z : RdZ) : Option (List Cd × Int) :=
  bif z.fst.fst != [] then
    Option.bind (one z.fst.fst) fun (y : Cd × Str × Bool) =>
      bif !y.snd.snd then some ([], 4)
      else
        bif fitsB (z.fst.snd.fst.length + [y.fst].length) 32 then
          rec ((y.snd.fst, z.fst.snd.fst ++ [y.fst], ()), (), (), ())
        else none
  else some (z.fst.snd.fst, 0)
theorem read_unfold (N : Nat) (x : Str) (m : Int) (b1 b2 : Bool) : F_text_Read N x T5 [m] tab0 [b1] [b2] = iter (rdF fun s => F_text_one N s T5 [m] tab0 [b1] [b2]) N ((x, [], ()), (), (), ()) := rfl
def Got (N : Nat) (c : Cd) : Prop := goodC c = true ∧ CdB N c ∧ (pr c).length ≤ 5000
theorem pr_pos (c : Cd) : 4 ≤ (pr c).length := by simp [pr]; omega
theorem reads (N : Nat) (m : Int) (b1 b2 : Bool) (hN : 1000000000 < N) : ∀ (M : Nat) (s : Str) (acc : List Cd), s.length < M → s.length ≤ 5000 → acc.length + s.length ≤ 5000 →
    ∃ l e, iter (rdF fun s => F_text_one N s T5 [m] tab0 [b1] [b2]) M ((s, acc, ()), (), (), ()) = some (l, e) ∧ iter (rdF fun s => F_epitaphref49_one N s) M ((s, acc, ()), (), (), ()) = some (l, e) ∧
      ((e = 4 ∧ l = []) ∨ (e = 0 ∧ ∃ l', l = acc ++ l' ∧ l'.flatMap pr = s ∧ ∀ c ∈ l', Got N c))
  | 0, s, acc, h, _, _ => by omega
  | M + 1, s, acc, h, h2, h3 => by
    simp only [iter]
    unfold rdF
    dsimp only
    by_cases hs : s = []
    · subst hs
      exact ⟨acc, 0, rfl, rfl, .inr ⟨rfl, [], by simp, rfl, by simp⟩⟩
    rw [show (s != []) = true by simpa using hs, cond_true, cond_true]
    obtain ⟨c, rest, ok, p1, p2⟩ := one_sound N s m b1 b2 h2 hN
    obtain ⟨c', rest', ok', r1, r2⟩ := rone_sound N s hN (by omega)
    cases ok with
    | true =>
      obtain ⟨q1, q2, q3⟩ := p2 rfl
      have hl : (pr c).length + rest.length = s.length := by rw [q2, List.length_append]
      have hp := pr_pos c
      have r3 := rone_complete N c rest hN q1 q3 (by rw [← q2]; omega) (by omega)
      rw [← q2] at r3
      rw [p1, r3, Option.bind_some, Option.bind_some]
      dsimp only
      rw [Bool.not_true, cond_false, cond_false, show fitsB (acc.length + [c].length) 32 = true from fit (by simp; omega) (by simp; omega), cond_true, cond_true]
      obtain ⟨l, e, i1, i2, i3⟩ := reads N m b1 b2 hN M rest (acc ++ [c]) (by omega) (by omega) (by simp; omega)
      refine ⟨l, e, i1, i2, ?_⟩
      rcases i3 with i3 | ⟨i3, l', i4, i5, i6⟩
      · exact .inl i3
      · refine .inr ⟨i3, c :: l', by rw [i4]; simp, by rw [List.flatMap_cons, i5, ← q2], ?_⟩
        intro d hd
        rcases List.mem_cons.1 hd with rfl | hd
        · exact ⟨q1, q3, by omega⟩
        · exact i6 d hd
    | false =>
      cases ok' with
      | true =>
        exfalso
        obtain ⟨q1, q2, q3⟩ := r2 rfl
        have hl : (pr c').length + rest'.length = s.length := by rw [q2, List.length_append]
        have r3 := one_complete N c' rest' m b1 b2 hN q1 q3 (by rw [← q2]; omega) (by omega)
        rw [← q2, p1] at r3
        simp at r3
      | false =>
        rw [p1, r1, Option.bind_some, Option.bind_some]
        exact ⟨[], 4, rfl, rfl, .inl ⟨rfl, rfl⟩⟩
theorem read_all (N : Nat) (m : Int) (b1 b2 : Bool) (G : List Cd) (hN : 1000000000 < N) (hl : G.length ≤ 30) (hG : ∀ c ∈ G, goodC c = true ∧ CdB N c ∧ (pr c).length ≤ 8000) : F_text_Read N (G.flatMap pr) T5 [m] tab0 [b1] [b2] = some (G, 0) := by
  rw [read_unfold]
  have hlen : ∀ j, ((G.drop j).flatMap pr).length ≤ (G.length - j) * 8000 := by
    have : ∀ L : List Cd, (∀ c ∈ L, (pr c).length ≤ 8000) → (L.flatMap pr).length ≤ L.length * 8000 := by
      intro L
      induction L with
      | nil => simp
      | cons c r ih =>
        intro h
        have h1 := h c List.mem_cons_self
        have h2 := ih fun d hd => h d (List.mem_cons_of_mem _ hd)
        rw [List.flatMap_cons, List.length_append, List.length_cons]; omega
    intro j
    have := this (G.drop j) fun c hc => (hG c (List.mem_of_mem_drop hc)).2.2
    rwa [List.length_drop] at this
  refine iter_eq (G := fun _ => some (G, 0)) (fun n z => ∃ j : Nat, z = (((G.drop j).flatMap pr, G.take j, ()), (), (), ()) ∧ j ≤ G.length ∧ n = G.length - j) ?_ N G.length _ ⟨0, rfl, by omega, rfl⟩ (by omega)
  rintro n z rec ⟨j, rfl, hj, hn⟩ ih
  unfold rdF
  dsimp only
  have hb := hlen j
  by_cases hjl : j < G.length
  · have e : (G.drop j).flatMap pr = pr G[j] ++ (G.drop (j + 1)).flatMap pr := by rw [List.drop_eq_getElem_cons hjl, List.flatMap_cons]
    have hc := hG _ (List.getElem_mem hjl)
    have hp := pr_pos G[j]
    rw [e] at hb ⊢
    have hne : (pr G[j] ++ (G.drop (j + 1)).flatMap pr != []) = true := by
      rw [bne_iff_ne]
      intro h
      have := congrArg List.length h
      rw [List.length_append] at this
      simp only [List.length_nil] at this; omega
    have hmul : (G.length - j) * 8000 ≤ 30 * 8000 := Nat.mul_le_mul_right _ (by omega)
    rw [hne, cond_true, one_complete N _ _ m b1 b2 hN hc.1 hc.2.1 (by omega) (by omega), Option.bind_some]
    dsimp only
    have hlt : (G.take j).length = j := by rw [List.length_take]; omega
    rw [Bool.not_true, cond_false, show fitsB ((G.take j).length + [G[j]].length) 32 = true from fit (by simp; omega) (by simp; omega), cond_true]
    have et : G.take j ++ [G[j]] = G.take (j + 1) := by rw [List.take_add_one, List.getElem?_eq_getElem hjl]; rfl
    rw [et]
    exact ih (G.length - (j + 1)) _ (by omega) ⟨j + 1, rfl, by omega, rfl⟩
  · have : j = G.length := by omega
    subst this
    rw [List.drop_length, List.take_length]
    rfl
theorem allP_filter : ∀ (l : List Cd), allP l = (l.filter goodC).flatMap pr
  | [] => rfl
  | c :: r => by
    have e : allP (c :: r) = printC c ++ allP r := rfl
    rw [e, allP_filter r, List.filter_cons, printC]
    split <;> simp
def c0 : Cd := (281474976710657, [(1, [65, 110, 110], [[65, 110, 110, 101]])])
theorem c0_good : goodC c0 = true := by decide +kernel
theorem c0_pr : pr c0 = [99, 111, 110, 116, 97, 99, 116, 32, 50, 56, 49, 52, 55, 52, 57, 55, 54, 55, 49, 48, 54, 53, 55, 10, 110, 97, 109,
        101, 32, 34, 65, 110, 110, 34, 32, 34, 65, 110, 110, 101, 34, 10, 101, 110, 100, 10] := by decide +kernel
theorem c0_B (N : Nat) (hN : 1000000000 < N) : CdB N c0 := by
  refine ⟨by simp [c0]; omega, by simp [c0], ?_, 281474976710657, rfl, by decide⟩
  intro x hx
  simp only [c0, List.mem_singleton] at hx
  subst hx
  refine ⟨⟨by simp; omega, by simp⟩, by simp; omega, by simp, ?_⟩
  intro s hs
  simp only [List.mem_singleton] at hs
  subst hs
  exact ⟨by simp; omega, by simp⟩
theorem works_true (N : Nat) (m : Int) (b1 b2 : Bool) (hN : 1000000000 < N) : F_epitaphlaw49_works N T5 [m] tab0 [b1] [b2] = some true := by
  unfold F_epitaphlaw49_works
  rw [← c0_pr]
  have hl : (pr c0).length ≤ 8000 := by rw [c0_pr]; simp
  have hr := read_all N m b1 b2 [c0] hN (by simp) (by intro c hc; rw [List.mem_singleton] at hc; subst hc; exact ⟨c0_good, c0_B N hN, hl⟩)
  rw [show [c0].flatMap pr = pr c0 by simp] at hr
  rw [hr, Option.bind_some]
  dsimp only
  rw [show ((0 : Int) == 0) = true from rfl, cond_true, show ((([c0] : List Cd).length : Int) == 1) = true from rfl, cond_true, show ([c0] : List Cd)[0]? = some c0 from rfl, Option.bind_some,
    show (c0.1 == (281474976710657 : Int)) = true from rfl, cond_true, Option.bind_some, print_eq N c0 (c0_B N hN) hN (fun _ => by omega), Option.bind_some, printC, if_pos c0_good, beq_self_eq_true]
theorem few_B (N : Nat) (l : List Cd) (hN : 1000000000 < N) (hin : ∀ c ∈ l, (∃ v : Nat, c.1 = (v : Int) ∧ v < 18446744073709551616) ∧ ∀ x ∈ c.2, ∀ s ∈ x.2.2, StB N s) (h : few l = true) : l.length ≤ 25 ∧ ∀ c ∈ l, CdB N c ∧ (goodC c = true → (pr c).length ≤ 8000) := by
  simp only [few, Bool.and_eq_true, decide_eq_true_eq, List.all_eq_true] at h
  refine ⟨h.1, fun c hc => ?_⟩
  have h2 := h.2 c hc
  simp only [fewC, Bool.and_eq_true, decide_eq_true_eq, List.all_eq_true] at h2
  obtain ⟨⟨v, hv1, hv2⟩, hs⟩ := hin c hc
  have hx : ∀ x ∈ c.2, x.2.1.length ≤ 200 ∧ x.2.2.length ≤ 10 := by
    intro x hx
    have := h2.2 x hx
    simpa [fewL] using this
  refine ⟨⟨by omega, by omega, ?_, v, hv1, hv2⟩, fun hg => ?_⟩
  · intro x hxm
    have := hx x hxm
    exact ⟨⟨by omega, by omega⟩, by omega, by omega, hs x hxm⟩
  · have := pr_le hg (fun x hxm => (hx x hxm).2) (by rw [hv1]; simpa using hv2)
    omega
theorem textBack_true (N : Nat) (l : List Cd) (s : Str) (m : Int) (b1 b2 : Bool) (hN : 1000000000 < N) (hin : ∀ c ∈ l, (∃ v : Nat, c.1 = (v : Int) ∧ v < 18446744073709551616) ∧ ∀ x ∈ c.2, ∀ s ∈ x.2.2, StB N s) :
    F_epitaphlaw49_TextBack N l s T5 [m] tab0 [b1] [b2] = some true := by
  unfold F_epitaphlaw49_TextBack
  rw [few_eq N l hN, Option.bind_some]
  cases hf : few l with
  | false => rw [Bool.not_false, cond_true, works_true N m b1 b2 hN]; rfl
  | true =>
  obtain ⟨hl, hB⟩ := few_B N l hN hin hf
  rw [Bool.not_true, cond_false]
  by_cases h : 1500 < s.length
  · rw [decide_eq_true (by omega), cond_true, works_true N m b1 b2 hN]; rfl
  rw [decide_eq_false (by omega), cond_false]
  refine iter_eq (G := fun _ => some true) (fun n z => ∃ k : Nat, z = (((l.take k).filter goodC, (k : Int), ()), (), (), ()) ∧ k ≤ l.length ∧ n = l.length - k) ?_ N l.length _ ⟨0, rfl, by omega, rfl⟩ (by omega)
  rintro n z rec ⟨k, rfl, hk, hn⟩ ih
  dsimp only
  by_cases hkl : k < l.length
  · have hb := hB _ (List.getElem_mem hkl)
    rw [decide_eq_true (by omega), cond_true, at?_nat, List.getElem?_eq_getElem hkl, Option.bind_some, refGoodC_eq N _ hb.1, Option.bind_some, i64_succ (by omega)]
    have et : (l.take (k + 1)).filter goodC = (l.take k).filter goodC ++ if goodC l[k] then [l[k]] else [] := by
      rw [List.take_add_one, List.getElem?_eq_getElem hkl, Option.toList_some, List.filter_append, List.filter_cons]
      split <;> rfl
    have hr := ih (l.length - (k + 1)) _ (by omega) ⟨k + 1, rfl, by omega, rfl⟩
    rw [et] at hr
    have hfl : ((l.take k).filter goodC).length ≤ 25 := by
      have := List.length_filter_le goodC (l.take k)
      rw [List.length_take] at this; omega
    cases hg : goodC l[k] with
    | true =>
      rw [hg, if_pos rfl] at hr
      rw [cond_true, Option.bind_some, show fitsB (((l.take k).filter goodC).length + [l[k]].length) 32 = true from fit (by simp; omega) (by simp; omega), cond_true]
      exact hr
    | false =>
      rw [hg, if_neg (by simp), List.append_nil] at hr
      rw [cond_false]
      exact hr
  · have : k = l.length := by omega
    subst this
    have hA : AllB N l := ⟨by omega, hB⟩
    rw [List.take_length, decide_eq_false (by omega), cond_false, all_eq N l hA hN, Option.bind_some, allP_filter]
    have hfl : (l.filter goodC).length ≤ 25 := by
      have := List.length_filter_le goodC l
      omega
    have hG : ∀ c ∈ l.filter goodC, goodC c = true ∧ CdB N c ∧ (pr c).length ≤ 8000 := by
      intro c hc
      obtain ⟨h1, h2⟩ := List.mem_filter.1 hc
      exact ⟨h2, (hB c h1).1, (hB c h1).2 h2⟩
    rw [read_all N m b1 b2 _ hN (by omega) hG, Option.bind_some, read_unfold]
    obtain ⟨L, e, h1, h2, h3⟩ := reads N m b1 b2 hN N s [] (by omega) (by omega) (by simp; omega)
    rw [h1, Option.bind_some]
    dsimp only
    rw [show ((0 : Int) == 0) = true from rfl, cond_true, all_refl N _ (by omega) (by omega) (fun c hc => (hG c hc).2.1), Option.bind_some, cond_true]
    rcases h3 with ⟨rfl, rfl⟩ | ⟨rfl, l', e1, h4, h5⟩
    · rw [show ((4 : Int) != 0) = true from rfl, cond_true, works_true N m b1 b2 hN]; rfl
    · rw [List.nil_append] at e1
      subst e1
      rw [show ((0 : Int) != 0) = false from rfl, cond_false]
      have hc : ∀ L : List Cd, L.length ≤ (L.flatMap pr).length := by
        intro L
        induction L with
        | nil => simp
        | cons c r ih => have := pr_pos c; rw [List.flatMap_cons, List.length_append, List.length_cons]; omega
      have hcl := hc L
      rw [h4] at hcl
      have hA' : AllB N L := ⟨by omega, fun c hc => ⟨(h5 c hc).2.1, fun _ => by have := (h5 c hc).2.2; omega⟩⟩
      have ef : L.filter goodC = L := List.filter_eq_self.2 fun c hc => (h5 c hc).1
      rw [all_eq N L hA' hN, Option.bind_some, allP_filter, ef, h4, beq_self_eq_true, cond_true, works_true N m b1 b2 hN]; rfl
theorem in_cards {l : List Cd} (h : (Ty.sl tCard).In l) : ∀ c ∈ l, (∃ v : Nat, c.1 = (v : Int) ∧ v < 18446744073709551616) ∧ ∀ x ∈ c.2, ∀ s ∈ x.2.2, StB 10000000000000000000 s := by
  intro c hc
  obtain ⟨h1, h2⟩ := h.2 c hc
  refine ⟨wf_u64 h1, ?_⟩
  intro x hx s hs
  have h3 := h2.2 x hx
  have h4 := h3.2.2.2 s hs
  have hm : maxLen < 9223372036854775808 := by decide
  have h5 : s.length ≤ maxLen := h4
  exact ⟨by omega, by omega⟩
end Go.Proofs.Xx
set_option linter.unusedVariables false
set_option linter.unusedSimpArgs false
namespace Go.Xl
open Go.Ab Go.RowKit
def litV : Lit → Value
  | .bool b => .bool b
  | .int k n => .int k n
  | .string s => .string ⟨s.toArray⟩
  | .float k b => .float k b
  | .nil => .nilIface
theorem trod_lit {H : Type} {enc : TypeId × Value → H} {P : Program} {w : World} {base : Nat} {sp : Nat → Bool} {held : Bool} {fuel : Nat} {t : TypeId} {cs : List Value} {l : Lit} {p : List MemPlace}
    (h : DataW.trod enc P w base sp held fuel t cs = some (.lit l, p)) : cs = [litV l] := by
  cases fuel with
  | zero => simp [DataW.trod] at h
  | succ m =>
    unfold DataW.trod at h
    split at h <;> simp_all [litV, Option.map_eq_some_iff, Option.bind_eq_some_iff]
    all_goals first
      | (obtain ⟨_, h, _⟩ := h; subst h; rfl)
      | (obtain ⟨h, _⟩ := h; subst h; rfl)
      | (subst h; rfl)
      | (split at h <;> simp_all [Option.bind_eq_some_iff, Option.map_eq_some_iff] <;> (try (obtain ⟨_, _, _, _, h⟩ := h; split at h <;> simp_all)))
      | skip
theorem laid_cells {H : Type} {enc : TypeId × Value → H} {P : Program} {w : World} {base : Nat} {sp : Nat → Bool} {held : Bool} {fuel : Nat} {t e : TypeId} {n : Nat} {cs : List Value} {ls : List Lit} {p : List MemPlace}
    (ht : P.underlying t = some (.array n e)) (he : P.cellsOf e = 1) (hn : P.cellsOf t = ls.length) (hn' : n = ls.length) (h : DataW.trod enc P w base sp held fuel t cs = some (.agg (ls.map .lit), p)) : cs = ls.map litV := by
  obtain ⟨xs, m, rfl, hx, hl, hxl, hc⟩ := DataW.trod_array ht h
  simp only [Prod.mk.injEq, DataW.agg.injEq] at hx
  apply List.ext_getElem?
  intro i
  by_cases hi : i < ls.length
  · have h1 := hc i (by omega)
    have h2 : (xs.map (·.1))[i]? = (ls.map DataW.lit)[i]? := by rw [← hx.1]
    rw [List.getElem?_eq_getElem (l := xs) (by omega)] at h1
    simp only [List.getElem?_map, List.getElem?_eq_getElem (l := xs) (show i < xs.length by omega), List.getElem?_eq_getElem hi, Option.map_some, Option.some.injEq] at h2
    generalize xs[i] = x at h1 h2
    obtain ⟨x1, x2⟩ := x
    simp only at h2
    subst h2
    have := trod_lit h1
    rw [he, Nat.mul_one] at this
    have hd : (cs.drop i)[0]? = some (litV ls[i]) := by
      have h3 : ((cs.drop i).take 1)[0]? = some (litV ls[i]) := by rw [this]; rfl
      simpa using h3
    simp only [List.getElem?_drop, Nat.add_zero] at hd
    rw [hd]
    simp [hi]
  · rw [List.getElem?_eq_none (by omega), List.getElem?_eq_none (by simpa using hi)]
def litOf : (ty : Ty) → ty.T → Lit
  | .int k, n => .int k n
  | .u8, x => .int .u8 (x.toNat : Int)
  | .bool, b => .bool b
  | .str, l => .string l
  | _, _ => .nil
def scTy : Ty → Bool
  | .int _ | .u8 | .bool | .str => true
  | _ => false
theorem sc_ds {ty : Ty} (h : scTy ty = true) (x : ty.T) : ty.ds x = [.sc (litV (litOf ty x))] := by
  cases ty <;> simp [scTy] at h <;> rfl
theorem sc_flat {ty : Ty} (h : scTy ty = true) : ∀ (l : List ty.T), (l.map ty.ds).flatten = l.map fun x => .sc (litV (litOf ty x))
  | [] => rfl
  | x :: r => by rw [List.map_cons, List.flatten_cons, sc_flat h r, sc_ds h x]; rfl
theorem laid_tab {P : Program} {laid : List (String × DataW Unit)} {w : World} (h : laidMetH P laid w) (n : String) (g t e k : Nat) (ty : Ty) (l : List ty.T)
    (hf : laid.filter (fun x => x.1 == n) = [(n, .agg (l.map fun x => .lit (litOf ty x)))]) (hg : P.globalNamed n = some g) (ht : (P.globals[g]?).map (·.type) = some t)
    (hu : P.underlying t = some (.array k e)) (he : P.cellsOf e = 1) (hn : P.cellsOf t = k) (hk : k = l.length) (hs : scTy ty = true) :
    RA (full w) w (XV.d (.pa ty l)).a (.pointer (some ⟨g, 0, none⟩)) := by
  have h1 := h.filter (fun x => x.1 == n)
  rw [hf] at h1
  have h2 : laidMet P [(n, .agg (l.map fun x => .lit (litOf ty x)))] w := h1
  obtain ⟨ps, hl, _, _⟩ := h2
  obtain ⟨g', t', cs, fuel, p, q, e1, e2, e3, e4, _, _⟩ := hl
  rw [hg] at e1
  cases e1
  rw [ht] at e2
  cases e2
  have e4' : DataW.trod (fun _ => ()) P w 0 (fun _ => true) false fuel t cs.toList = some (.agg ((l.map (litOf ty)).map .lit), p) := by
    rw [List.map_map]; exact e4
  have hc := laid_cells (ls := l.map (litOf ty)) hu he (by simp; omega) (by simp; omega) e4'
  have hcell : ∀ i, w.cell? ⟨g, i, none⟩ = (l.map fun x => litV (litOf ty x))[i]? := by
    intro i
    rw [World.var?_cell hg e3 i, ← Array.getElem?_toList, hc, List.map_map]; rfl
  refine .d _ _ ?_
  show RD (fullγ w) w (.ep ((l.map ty.ds).flatten)) _
  rw [sc_flat hs]
  refine .ep _ _ _ ?_ ?_
  · rw [Nat.zero_add, List.length_map]
    have h0 : w.heap[g]? = some (.cells cs ((w.heap[g]?).elim 0 (fun b => match b with | .cells _ t _ => t | _ => 0)) ((w.heap[g]?).elim (0, 0) (fun b => match b with | .cells _ _ f => f | _ => (0, 0)))) := by
      unfold World.var? at e3
      rw [hg, Option.bind_some] at e3
      split at e3
      · rename_i cs' T fr hh
        cases e3
        rw [hh]; rfl
      · cases e3
    unfold fullγ
    rw [h0]
    have : cs.toList.length = l.length := by rw [hc]; simp
    simp at this
    simp [this]
  · intro j c v hc1 hc2
    rw [Nat.zero_add, hcell j] at hc2
    simp only [List.getElem?_map, Option.map_eq_some_iff] at hc1 hc2
    obtain ⟨x, hx, rfl⟩ := hc1
    obtain ⟨y, hy, rfl⟩ := hc2
    rw [hx] at hy
    cases hy
    exact .sc _
theorem DoesG.lawAs {P : Program} {f : FuncId} {args : List AV} {gs : List (Nat × AV)} (h : DoesG P f args gs (.d (.sc (.bool true)))) {w : World} {vs : Array Value} (ha : RAs (full w) w args vs.toList) (hg : GHold (full w) w gs) :
    Calls P f vs w fun e w' => e = .returned (.bool true) ∧ Below w.heap.size w w' := by
  refine (h (full w) w vs (full_hr w) hg (by have := ha.get.1; simpa using this) fun i x v hx hv => ha.get.2 i x v hx (by simpa using hv)).mono ?_
  rintro e w' ⟨g', v, rfl, hr, h1⟩
  refine ⟨by rw [hr.sc_inv], ⟨h1.io.1, h1.io.2.2.1, h1.io.2.1, h1.base, fun b hb => (h1.frame b hb ?_).1⟩⟩
  rintro (⟨k, o, hk, _⟩ | ⟨n, hn⟩)
  · simp [X0] at hk
  · simp [full] at hn
theorem GHold.nil (g : Gh) (w : World) : GHold g w [] := by intro p hp; cases hp
theorem GHold.cons {g : Gh} {w : World} {k : Nat} {a : AV} {gs : List (Nat × AV)} (h : RA g w a (.pointer (some ⟨k, 0, none⟩))) (h' : GHold g w gs) : GHold g w ((k, a) :: gs) := by
  intro p hp
  rcases List.mem_cons.1 hp with rfl | hp
  · exact h
  · exact h' p hp
theorem trod_iface {H : Type} {enc : TypeId × Value → H} {P : Program} {w : World} {base : Nat} {sp : Nat → Bool} {held : Bool} {fuel : Nat} {t : TypeId} {cs : List Value} {n : String} {x : DataW H} {p : List MemPlace}
    (h : DataW.trod enc P w base sp held fuel t cs = some (.iface n x, p)) : ∃ tp u, cs = [.iface tp u] := by
  cases fuel with
  | zero => simp [DataW.trod] at h
  | succ m =>
    unfold DataW.trod at h
    split at h <;> simp_all [Option.map_eq_some_iff, Option.bind_eq_some_iff]
    all_goals first
      | exact ⟨_, _, rfl⟩
      | (split at h <;> simp_all [Option.bind_eq_some_iff, Option.map_eq_some_iff] <;> (try (obtain ⟨_, _, _, _, h⟩ := h; split at h <;> simp_all)))
      | skip
theorem laid_err {P : Program} {laid : List (String × DataW Unit)} {w : World} (h : laidMetH P laid w) (n : String) (g : Nat) {s : String} {x : DataW Unit}
    (hf : laid.filter (fun x => x.1 == n) = [(n, .iface s x)]) (hh : (DataW.iface s x).handleName?.isNone = true) (hg : P.globalNamed n = some g) :
    RA (full w) w (XV.d (.pa .err [true])).a (.pointer (some ⟨g, 0, none⟩)) := by
  have h1 := h.filter (fun x => x.1 == n)
  rw [hf] at h1
  have h2 : laidMet P [(n, .iface s x)] w := by
    have := (laidMetH_iff.1 h1).1
    rwa [List.filter_cons_of_pos (by exact hh), List.filter_nil] at this
  obtain ⟨ps, hl, _, _⟩ := h2
  obtain ⟨g', t', cs, fuel, p, q, e1, e2, e3, e4, _, _⟩ := hl
  rw [hg] at e1
  cases e1
  obtain ⟨tp, u, hc⟩ := trod_iface e4
  have hcell : ∀ i, w.cell? ⟨g, i, none⟩ = [Value.iface tp u][i]? := by
    intro i
    rw [World.var?_cell hg e3 i, ← Array.getElem?_toList, hc]
  refine .d _ _ ?_
  show RD (fullγ w) w (.ep ((([true] : List Bool).map Ty.err.ds).flatten)) _
  refine .ep _ _ _ ?_ ?_
  · have h0 : w.heap[g]? = some (.cells cs ((w.heap[g]?).elim 0 (fun b => match b with | .cells _ t _ => t | _ => 0)) ((w.heap[g]?).elim (0, 0) (fun b => match b with | .cells _ _ f => f | _ => (0, 0)))) := by
      unfold World.var? at e3
      rw [hg, Option.bind_some] at e3
      split at e3
      · rename_i cs' T fr hh
        cases e3
        rw [hh]; rfl
      · cases e3
    unfold fullγ
    rw [h0]
    have : cs.toList.length = 1 := by rw [hc]; rfl
    simp at this
    simp [this]
    decide
  · intro j c v hc1 hc2
    rw [Nat.zero_add, hcell j] at hc2
    cases j with
    | zero =>
      simp at hc2
      subst hc2
      simp [Ty.ds] at hc1
      subst hc1
      exact .any _ _ ⟨tp, u, rfl⟩ rfl
    | succ j => simp at hc2
end Go.Xl
set_option linter.unusedVariables false
namespace Go.Xl
open Go.Ab Go.RowKit
variable {H : Type} {enc : TypeId × Value → H}
theorem returnsInHanded_and_shaped {a : Assume} {C : Checked} {os : Os} {f : FuncId} {fn : Func} {s : ChangeSpec} {conds : List PathCond} {apart fresh handsOn again : Bool} {X : World → Array Value → Prop}
    (hX : ∀ (w w' : World) (args : Array Value), w.heap = w'.heap → X w args → X w' args)
    (own : ownKnob C.prog.godebug = none) (started : os.Started) (noInit : C.prog.inits.idxOf? f = none) (hfn : C.prog.funcs[f]? = some fn)
    (witness : ∃ (w : World) (tape : Tape) (i : Input), w.os = os ∧ (w.forCall tape i).Shaped C.prog ∧ i.vars = [] ∧ Input.okWide C.prog (w.forCall tape i) .any w.heap.size f i ∧
      ((s.pre enc C.prog fn conds apart (w.forCall tape i).memory i.args ∧ X (w.forCall tape i).memory i.args) ∧ sizedMet enc C.prog fn (OpenSpec.ofChange s) apart (w.forCall tape i).memory i.args) ∧ a.holds C.prog (lone (Frame.enter C.prog f i.args .normal) [] (w.forCall tape i)))
    (contract : ∀ (W : World) (base : Nat) (args : Array Value) (ds gs : List (DataW H)) (before : List MemPlace),
      (∀ (j : Nat) t v, fn.params[j]? = some t → args[j]? = some v → Value.okWide C.prog W .any base t v) →
      DataW.Whole enc C.prog fn.params.toList s.vars apart W args.toList ds gs before →
      conds.all (PathCond.test C.prog ⟨fn.params.toList, ds, s.plain.varTypes C.prog, gs⟩) = true →
      (DataW.weightsEach C.prog (fn.params.toList ++ s.plain.varTypes C.prog) (ds ++ gs)).all (· ≤ reachBytes) = true → X W args → W.ShapedOpen C.prog →
      a.holds C.prog (lone (Frame.enter C.prog f args .normal) [] W) →
      Calls C.prog f args W fun e W' => ∃ v, e = .returned v ∧ s.post enc C.prog fn apart fresh handsOn again W args v W') :
    ReturnsInHanded a C os f .any (fun w args => (s.pre enc C.prog fn conds apart w args ∧ X w args) ∧ sizedMet enc C.prog fn (OpenSpec.ofChange s) apart w args) (s.post enc C.prog fn apart fresh handsOn again) := by
  refine returnsInHanded_of_calls own started noInit witness ?_
  intro w tape i _ hsh _ hok hpre hholds
  obtain ⟨_, _, _, fn', hfn', _, _, _, _, hval⟩ := hok
  have e : fn' = fn := Option.some.inj (hfn'.symm.trans hfn)
  subst e
  obtain ⟨⟨⟨ds, gs, before, hw, hc⟩, hx⟩, hz⟩ := hpre
  have hw' := DataW.Whole.of_heap (w' := w.forCall tape i) (by rfl) hw
  refine (contract (w.forCall tape i) w.heap.size i.args ds gs before hval hw' hc (hz.weights hw) (hX _ _ _ (by rfl) hx) hsh hholds).mono fun e W' ⟨v, he, hp⟩ => ?_
  subst he
  exact ChangeSpec.post_blind hp
theorem shape_int {P : Program} {w : World} {g : Nat} {k : IntKind} {m : Int} (h : w.cell? ⟨g, 0, none⟩ = some (.int k m)) : RA (full w) w (XV.d (.pa (.int k) [m])).a (.pointer (some ⟨g, 0, none⟩)) := by
  refine .d _ _ ?_
  show RD (fullγ w) w (.ep ((([m] : List Int).map (Ty.int k).ds).flatten)) _
  refine .ep _ _ _ ?_ ?_
  · unfold World.cell? at h
    unfold fullγ
    simp only at h
    cases hb : w.heap[g]? with
    | none => rw [hb] at h; simp at h
    | some o =>
      rw [hb] at h
      cases o with
      | cells cs t fr =>
        simp at h ⊢
        have := (Array.getElem?_eq_some_iff.1 h).1
        simp [Ty.ds]
        omega
      | _ => simp at h
  · intro j c v hc1 hc2
    cases j with
    | zero =>
      rw [Nat.add_zero, h] at hc2
      simp at hc2
      subst hc2
      simp [Ty.ds] at hc1
      subst hc1
      exact .sc _
    | succ j => simp [Ty.ds] at hc1
end Go.Xl
