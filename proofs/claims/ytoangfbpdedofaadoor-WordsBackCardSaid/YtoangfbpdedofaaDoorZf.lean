import Derived.Test.YtoangfbpdedofaaDoorZe
import Derived.Test.YtoangfbpdedofaaDoorZd
import Derived.OpenShut
import Derived.FnData
import Derived.LaidSub
set_option linter.unusedVariables false
set_option linter.unusedSimpArgs false
set_option maxRecDepth 100000
namespace Go.Proofs.Xv
open Go Go.Xl Go.Ab Go.Proofs Go.Proofs.Xr Go.Proofs.Xs
theorem intParse64 (N M : Nat) (s : List UInt8) (bs : Int) (hl : s.length < 9223372036854775807) (hN : s.length < N) (hM : M ≤ 18446744073709551615) (h0 : (bs == 0) = false) (h1 : decide (bs < 0) = false) (h2 : decide (64 < bs) = false)
    (h3 : decide (0 ≤ IntKind.u64.wrap bs) = true) (hb : IntKind.u64.wrap (IntKind.u64.wrap (1 * 2 ^ min (IntKind.u64.wrap bs).toNat 64) - 1) = (M : Int)) :
    F_internal_strconv_ParseUint N s 10 bs = some (if s = [] then (0, some 2) else pu M 0 s) := by
  unfold F_internal_strconv_ParseUint
  by_cases hs : s = []
  · subst hs; rfl
  rw [if_neg hs]
  have hs' : (s == []) = false := by simpa using hs
  have t1 : decide ((2 : Int) ≤ 10) = true := rfl
  have t2 : decide ((10 : Int) ≤ 36) = true := rfl
  have t3 : ((10 : Int) == 10) = true := rfl
  have t4 : ((10 : Int) == 0) = false := rfl
  have t5 : IntKind.u64.wrap 10 = 10 := rfl
  simp only [hs', cond_false, joinAt, t1, t2, t3, t4, cond_true, h0, h1, h2, h3, hb, ten8, t5]
  refine (iter_eq (R := Int × Option Int) (G := fun z : (Bool × Int × Int × Unit) × Unit × Unit × Unit => some (pu M z.1.2.1.toNat (s.drop z.1.2.2.1.toNat)))
    (fun m z => ∃ n i : Nat, z = ((false, (n : Int), (i : Int), ()), (), (), ()) ∧ n ≤ M ∧ i ≤ s.length ∧ m = s.length - i)
    ?_ N s.length ((false, 0, 0, ()), (), (), ()) ⟨0, 0, rfl, Nat.zero_le _, Nat.zero_le _, rfl⟩ hN).trans rfl
  rintro m z rec ⟨n, i, rfl, hn, hi, rfl⟩ ih
  simp only [Int.toNat_natCast, at?_nat]
  by_cases hil : i < s.length
  · have e1 : decide ((i : Int) < (s.length : Int)) = true := by simpa using hil
    rw [e1, cond_true, List.getElem?_eq_getElem hil, Option.bind_some, List.drop_eq_getElem_cons hil]
    generalize hc : s[i] = c
    simp only [pu]
    by_cases hd : 48 ≤ c.toNat ∧ c.toNat ≤ 57
    · obtain ⟨d1, d2, d3, d4, d5⟩ := digit c hd
      rw [if_pos hd]
      simp only [d1, d2, d3, d4, d5, cond_true, cond_false]
      by_cases hco : 1844674407370955162 ≤ n
      · have f3 : decide ((1844674407370955162 : Int) ≤ (n : Int)) = true := by simp; omega
        rw [f3, cond_true, if_neg (by omega)]
      have f1 : IntKind.u64.wrap ((n : Int) * 10) = (n : Int) * 10 := u64w (by omega) (by omega)
      have f3 : decide ((1844674407370955162 : Int) ≤ (n : Int)) = false := by simp; omega
      rw [f1, f3, cond_false]
      by_cases hov : n * 10 + (c.toNat - 48) < 18446744073709551616
      · have f2 : IntKind.u64.wrap ((n : Int) * 10 + ((c.toNat - 48 : Nat) : Int)) = ((n * 10 + (c.toNat - 48) : Nat) : Int) := by rw [u64w (by omega) (by omega)]; omega
        have f4 : decide (((n * 10 + (c.toNat - 48) : Nat) : Int) < (n : Int) * 10) = false := by simp; omega
        rw [f2, f4, cond_false, i64_succ (by omega)]
        by_cases hm : n * 10 + (c.toNat - 48) ≤ M
        · have f5 : decide ((M : Int) < ((n * 10 + (c.toNat - 48) : Nat) : Int)) = false := by simp; omega
          rw [if_pos hm, f5, cond_false]
          have := ih (s.length - (i + 1)) ((false, ((n * 10 + (c.toNat - 48) : Nat) : Int), ((i + 1 : Nat) : Int), ()), (), (), ()) (by omega) ⟨_, _, rfl, hm, by omega, rfl⟩
          rw [this]
          simp only [Int.toNat_natCast]
        · have f5 : decide ((M : Int) < ((n * 10 + (c.toNat - 48) : Nat) : Int)) = true := by simp; omega
          rw [if_neg hm, f5, cond_true]
      · have f2 : IntKind.u64.wrap ((n : Int) * 10 + ((c.toNat - 48 : Nat) : Int)) = ((n * 10 + (c.toNat - 48) - 18446744073709551616 : Nat) : Int) := by
          unfold IntKind.wrap
          simp [IntKind.bits, IntKind.signed]
          omega
        have f4 : decide (((n * 10 + (c.toNat - 48) - 18446744073709551616 : Nat) : Int) < (n : Int) * 10) = true := by simp; omega
        rw [f2, f4, cond_true, if_neg (by omega)]
    · rw [if_neg hd]
      obtain ⟨y, hy⟩ := lower_eq N c
      simp only [hy, Option.bind_some]
      have hx : ∀ (A : Option (Int × Option Int)), (bif decide (97 ≤ y) then bif decide (y ≤ 122) then bif decide ((10 : UInt8) ≤ y - 97 + 10) then some (0, some 2) else A else some (0, some 2) else some (0, some 2)) = some ((0 : Int), some (2 : Int)) := by
        intro A
        cases a1 : decide (97 ≤ y) with
        | false => rfl
        | true =>
          cases a2 : decide (y ≤ 122) with
          | false => rfl
          | true => rw [letter y a1 a2]; rfl
      rw [hx]
      rcases nodigit c hd with h | h
      · simp only [h, cond_false, Bool.cond_self]
      · simp only [h, cond_false, Bool.cond_self]
  · have e1 : decide ((i : Int) < (s.length : Int)) = false := by simpa using hil
    have : i = s.length := by omega
    subst this
    rw [e1, cond_false, List.drop_length]
    rfl
theorem parse64_eq (N M : Nat) (s : List UInt8) (bs : Int) (hl : s.length ≤ 281474976710656) (hN : s.length < N) (hM : M ≤ 18446744073709551615) (h0 : (bs == 0) = false) (h1 : decide (bs < 0) = false) (h2 : decide (64 < bs) = false)
    (h3 : decide (0 ≤ IntKind.u64.wrap bs) = true) (hb : IntKind.u64.wrap (IntKind.u64.wrap (1 * 2 ^ min (IntKind.u64.wrap bs).toNat 64) - 1) = (M : Int)) (b1 b2 : Bool) :
    F_strconv_ParseUint N s 10 bs [b1] [b2] = some ((puR M s).1, (puR M s).2.isSome) := by
  unfold F_strconv_ParseUint
  rw [intParse64 N M s bs (by omega) hN hM h0 h1 h2 h3 hb, Option.bind_some]
  show (bif bif true then !(puR M s).2.isNone else (puR M s).2.isNone then Option.bind (F_strconv_toError N _ s 10 bs (puR M s).2 [b1] [b2]) fun y_1 => some ((puR M s).1, y_1) else some ((puR M s).1, false)) = _
  unfold F_strconv_toError F_strconv_syntaxError F_strconv_rangeError
  rw [clone_eq N s hl]
  rcases puR_err M s with h | h | h <;> rw [h] <;> rfl
theorem parse64 (N : Nat) (s : List UInt8) (hl : s.length ≤ 281474976710656) (hN : s.length < N) (b1 b2 : Bool) : F_strconv_ParseUint N s 10 64 [b1] [b2] = some ((puR 18446744073709551615 s).1, (puR 18446744073709551615 s).2.isSome) :=
  parse64_eq N 18446744073709551615 s 64 hl hN (by decide) rfl rfl rfl rfl (by decide +kernel) b1 b2
theorem parse8 (N : Nat) (s : List UInt8) (hl : s.length ≤ 281474976710656) (hN : s.length < N) (b1 b2 : Bool) : F_strconv_ParseUint N s 10 8 [b1] [b2] = some ((puR 255 s).1, (puR 255 s).2.isSome) :=
  parse64_eq N 255 s 8 hl hN (by decide) rfl rfl rfl rfl (by decide +kernel) b1 b2
theorem parse32 (N : Nat) (s : List UInt8) (hl : s.length ≤ 281474976710656) (hN : s.length < N) (b1 b2 : Bool) : F_strconv_ParseUint N s 10 32 [b1] [b2] = some ((puR 4294967295 s).1, (puR 4294967295 s).2.isSome) :=
  parse64_eq N 4294967295 s 32 hl hN (by decide) rfl rfl rfl rfl (by decide +kernel) b1 b2
theorem pu_le {M : Nat} : ∀ (s : List UInt8) (n : Nat), n ≤ M → ∃ v : Nat, (pu M n s).1 = (v : Int) ∧ v ≤ M
  | [], n, h => ⟨n, rfl, h⟩
  | c :: r, n, h => by
    rw [pu]
    split
    · split
      · rename_i h2; exact pu_le r _ h2
      · exact ⟨M, rfl, Nat.le_refl _⟩
    · exact ⟨0, rfl, Nat.zero_le _⟩
theorem puR_le (M : Nat) (s : List UInt8) : ∃ v : Nat, (puR M s).1 = (v : Int) ∧ v ≤ M := by
  unfold puR
  split
  · exact ⟨0, rfl, Nat.zero_le _⟩
  · exact pu_le s 0 (Nat.zero_le _)
theorem puR_dec (M x : Nat) (hx : x ≤ M) (hx2 : x < 18446744073709551616) : puR M (dec x) = ((x : Int), none) := by
  obtain ⟨h1, h2, h3⟩ := dec_facts x hx2
  have hne : dec x ≠ [] := by
    intro e; rw [e] at h3; exact absurd h3.1 (by simp)
  have hn : (puR M (dec x)).2 = none := puR_none.2 ⟨hne, h1, by rw [h2]; exact hx⟩
  have hv := puR_val hn
  rw [h2] at hv
  exact Prod.ext hv hn
theorem index32_eq (N : Nat) (x : List UInt8) : F_internal_stringslite_Index N x [32] = some (Lib.indexByte x 32) := by
  unfold F_internal_stringslite_Index
  by_cases h : x = [32]
  · subst h; rfl
  · have : (([32] : List UInt8) == x) = false := by simpa using fun e => h e.symm
    rw [this]
    rfl
theorem cut32_none (N : Nat) {x : List UInt8} (h : (32 : UInt8) ∉ x) : F_strings_Cut N x [32] = some (x, [], false) := by
  unfold F_strings_Cut F_internal_stringslite_Cut
  rw [index32_eq, idx_none h]
  rfl
theorem cut32_some (N : Nat) {h t : List UInt8} (hn : (32 : UInt8) ∉ h) (hl : (h ++ 32 :: t).length < 9223372036854775807) : F_strings_Cut N (h ++ 32 :: t) [32] = some (h, t, true) := by
  unfold F_strings_Cut F_internal_stringslite_Cut
  rw [index32_eq, idx_some hn]
  have hlen : (h ++ 32 :: t).length = h.length + (t.length + 1) := by simp
  rw [hlen] at hl ⊢
  have e1 : decide ((0 : Int) ≤ (h.length : Int)) = true := by simp
  have e2 : cutOk 0 (h.length : Int) (h.length + (t.length + 1)) = true := by simp [cutOk]; omega
  have e3 : IntKind.i64.wrap ((h.length : Int) + (([32] : List UInt8).length : Int)) = ((h.length + 1 : Nat) : Int) := i64_succ (by omega)
  have e4 : cutOk ((h.length + 1 : Nat) : Int) ((h.length + (t.length + 1) : Nat) : Int) (h.length + (t.length + 1)) = true := by simp [cutOk]; omega
  simp only [Option.bind_some, e1, e2, e3, e4, cond_true, Int.toNat_natCast]
  rw [List.take_left, show h ++ 32 :: t = (h ++ [32]) ++ t by simp, List.drop_left' (by simp)]
theorem index10_eq (N : Nat) (x : List UInt8) : F_internal_stringslite_Index N x [10] = some (Lib.indexByte x 10) := by
  unfold F_internal_stringslite_Index
  by_cases h : x = [10]
  · subst h; rfl
  · have : (([10] : List UInt8) == x) = false := by simpa using fun e => h e.symm
    rw [this]
    rfl
theorem cut10_none (N : Nat) {x : List UInt8} (h : (10 : UInt8) ∉ x) : F_strings_Cut N x [10] = some (x, [], false) := by
  unfold F_strings_Cut F_internal_stringslite_Cut
  rw [index10_eq, idx_none h]
  rfl
theorem cut10_some (N : Nat) {h t : List UInt8} (hn : (10 : UInt8) ∉ h) (hl : (h ++ 10 :: t).length < 9223372036854775807) : F_strings_Cut N (h ++ 10 :: t) [10] = some (h, t, true) := by
  unfold F_strings_Cut F_internal_stringslite_Cut
  rw [index10_eq, idx_some hn]
  have hlen : (h ++ 10 :: t).length = h.length + (t.length + 1) := by simp
  rw [hlen] at hl ⊢
  have e1 : decide ((0 : Int) ≤ (h.length : Int)) = true := by simp
  have e2 : cutOk 0 (h.length : Int) (h.length + (t.length + 1)) = true := by simp [cutOk]; omega
  have e3 : IntKind.i64.wrap ((h.length : Int) + (([10] : List UInt8).length : Int)) = ((h.length + 1 : Nat) : Int) := i64_succ (by omega)
  have e4 : cutOk ((h.length + 1 : Nat) : Int) ((h.length + (t.length + 1) : Nat) : Int) (h.length + (t.length + 1)) = true := by simp [cutOk]; omega
  simp only [Option.bind_some, e1, e2, e3, e4, cond_true, Int.toNat_natCast]
  rw [List.take_left, show h ++ 10 :: t = (h ++ [10]) ++ t by simp, List.drop_left' (by simp)]
theorem hasPre (N : Nat) (p r : List UInt8) (h : (p ++ r).length < 9223372036854775807) : F_internal_stringslite_HasPrefix N (p ++ r) p = some true := by
  unfold F_internal_stringslite_HasPrefix
  have e1 : decide (((p.length : Nat) : Int) ≤ (((p ++ r).length : Nat) : Int)) = true := by simp; omega
  have e2 : cutOk 0 ((p.length : Nat) : Int) (p ++ r).length = true := by simp [cutOk]; omega
  simp only [e1, e2, cond_true, Int.toNat_natCast, List.take_left]
  simp
theorem hasPre_none (N : Nat) (p x : List UInt8) (h : ¬ p <+: x) : F_internal_stringslite_HasPrefix N x p = some false := by
  unfold F_internal_stringslite_HasPrefix
  by_cases hl : p.length ≤ x.length
  · have e1 : decide (((p.length : Nat) : Int) ≤ ((x.length : Nat) : Int)) = true := by simp; omega
    have e2 : cutOk 0 ((p.length : Nat) : Int) x.length = true := by simp [cutOk]; omega
    simp only [e1, e2, cond_true, Int.toNat_natCast]
    have : (x.take p.length == p) = false := by
      rw [beq_eq_false_iff_ne]
      intro e
      exact h (e ▸ List.take_prefix _ _)
    first
      | (simp only [this]; done)
      | (rw [Nat.sub_zero, List.drop_zero, this])
      | simp [this]
  · have e1 : decide (((p.length : Nat) : Int) ≤ ((x.length : Nat) : Int)) = false := by simp; omega
    simp only [e1, cond_false]
end Go.Proofs.Xv
set_option linter.unusedVariables false
set_option linter.unusedSimpArgs false
set_option maxRecDepth 100000
namespace Go.Proofs.Xw
open Go Go.Xl Go.Ab Go.Proofs Go.Proofs.Xr Go.Proofs.Xs Go.Proofs.Xv
abbrev Str := List UInt8
abbrev Act := UInt8 × UInt8 × Int × UInt8 × Str × Int × Int × Int
def nmd (x : UInt8) : Str :=
  bif x == 1 then [119, 116] else bif x == 2 then [119, 99, 102, 116] else bif x == 3 then [119, 99]
  else bif (bif x == 4 then true else bif x == 5 then true else bif x == 7 then true else bif x == 8 then true else bif x == 15 then true else x == 18) then [119]
  else bif (bif x == 6 then true else bif x == 16 then true else x == 19) then [119, 112]
  else bif (bif x == 9 then true else bif x == 10 then true else bif x == 11 then true else bif x == 13 then true else x == 14) then [112]
  else bif x == 12 then [112, 97, 109] else bif x == 17 then [119, 112, 109] else []
def hb (x c : UInt8) : Bool := (nmd x).contains c
theorem scanL (N : Nat) (L : Str) (c : UInt8) (hN : 10 < N) (hL : L.length ≤ 10) :
    iter (fun (rec : (Int × Unit) × Unit × Unit × Unit → Option Bool) (z : (Int × Unit) × Unit × Unit × Unit) =>
      bif decide (z.fst.fst < (↑L.length : Int)) then (at? L z.fst.fst).bind fun (d : UInt8) => bif d == c then some true else rec ((IntKind.i64.wrap (z.fst.fst + 1), ()), (), (), ())
      else some false) N ((0, ()), (), (), ()) = some (L.contains c) := by
  refine (scan_eq L.length (fun k => some ((L.drop k).contains c)) 0 ?_ ?_ N (by omega)).trans (by simp)
  · intro rec k _ hk hr
    simp only [decide_eq_true (show (k : Int) < (L.length : Int) by omega), cond_true, at?_nat, List.getElem?_eq_getElem hk, Option.bind_some, i64_succ (show k + 1 < 9223372036854775808 by omega), hr]
    rw [List.drop_eq_getElem_cons hk, List.contains_cons, Bool.beq_comm (a := L[k])]
    cases (c == L[k]) <;> rfl
  · intro rec k hk
    simp only [decide_eq_false (show ¬ (k : Int) < (L.length : Int) by omega), cond_false]
    rw [List.drop_of_length_le hk]; rfl
theorem has_eq (N : Nat) (x c : UInt8) (hN : 10 < N) : F_act_has N x c = some (hb x c) := by
  unfold F_act_has hb nmd
  simp only [joinAt]
  rw [scanL N [119, 116] c hN (by decide), scanL N [119, 99, 102, 116] c hN (by decide), scanL N [119, 99] c hN (by decide), scanL N [119] c hN (by decide), scanL N [119, 112] c hN (by decide),
    scanL N [112] c hN (by decide), scanL N [112, 97, 109] c hN (by decide), scanL N [119, 112, 109] c hN (by decide), scanL N [] c hN (by decide)]
  cases x == 1 <;> try rfl
  cases x == 2 <;> try rfl
  cases x == 3 <;> try rfl
  cases x == 4 <;> try rfl
  cases x == 5 <;> try rfl
  cases x == 7 <;> try rfl
  cases x == 8 <;> try rfl
  cases x == 15 <;> try rfl
  cases x == 18 <;> try rfl
  cases x == 6 <;> try rfl
  cases x == 16 <;> try rfl
  cases x == 19 <;> try rfl
  cases x == 9 <;> try rfl
  cases x == 10 <;> try rfl
  cases x == 11 <;> try rfl
  cases x == 13 <;> try rfl
  cases x == 14 <;> try rfl
  cases x == 12 <;> try rfl
  cases x == 17 <;> try rfl
theorem rhas1 (N : Nat) (x : UInt8) : F_epitaphref37_Has N x 1 = some (hb x 119) :=
  u8_all (p := fun x => F_epitaphref37_Has 0 x 1 = some (hb x 119)) (by decide +kernel) x
theorem rhas2 (N : Nat) (x : UInt8) : F_epitaphref37_Has N x 2 = some (hb x 99) :=
  u8_all (p := fun x => F_epitaphref37_Has 0 x 2 = some (hb x 99)) (by decide +kernel) x
theorem rhas3 (N : Nat) (x : UInt8) : F_epitaphref37_Has N x 3 = some (hb x 102) :=
  u8_all (p := fun x => F_epitaphref37_Has 0 x 3 = some (hb x 102)) (by decide +kernel) x
theorem rhas4 (N : Nat) (x : UInt8) : F_epitaphref37_Has N x 4 = some (hb x 116) :=
  u8_all (p := fun x => F_epitaphref37_Has 0 x 4 = some (hb x 116)) (by decide +kernel) x
theorem rhas5 (N : Nat) (x : UInt8) : F_epitaphref37_Has N x 5 = some (hb x 112) :=
  u8_all (p := fun x => F_epitaphref37_Has 0 x 5 = some (hb x 112)) (by decide +kernel) x
theorem rhas6 (N : Nat) (x : UInt8) : F_epitaphref37_Has N x 6 = some (hb x 97) :=
  u8_all (p := fun x => F_epitaphref37_Has 0 x 6 = some (hb x 97)) (by decide +kernel) x
theorem rhas7 (N : Nat) (x : UInt8) : F_epitaphref37_Has N x 7 = some (hb x 109) :=
  u8_all (p := fun x => F_epitaphref37_Has 0 x 7 = some (hb x 109)) (by decide +kernel) x
def flds (x : UInt8) : Str := bif decide (1 ≤ x) && decide (x ≤ 19) then nmd x else [119]
theorem fields_eq (N : Nat) (x : UInt8) : F_words_fields N x = some (flds x) :=
  u8_all (p := fun x => F_words_fields 0 x = some (flds x)) (by decide +kernel) x
def machB (k w : UInt8) : Bool := decide (w < 16) || (w == 255 && decide (15 ≤ k))
theorem machine_eq (N : Nat) (k w : UInt8) : F_act_machine N k w = some (machB k w) := by
  unfold F_act_machine machB
  cases decide (w < 16) with
  | true => rfl
  | false => cases w == 255 <;> rfl
def goodA (a : Act) : Bool :=
  decide (0 < a.1) && (decide (a.1 ≤ 19) && (((hb a.1 119 || a.2.1 == 0) && ((hb a.1 99 || a.2.2.1 == 0) && ((hb a.1 102 || a.2.2.2.1 == 0) && ((hb a.1 116 || a.2.2.2.2.1 == []) && ((hb a.1 112 || a.2.2.2.2.2.1 == 0) &&
    ((hb a.1 97 || a.2.2.2.2.2.2.1 == 0) && (hb a.1 109 || a.2.2.2.2.2.2.2 == 0))))))) && (machB a.1 a.2.1 && (textOk a.2.2.2.2.1 && (!(a.1 == 17) || decide (a.2.2.2.2.2.2.2 ≤ 1))))))
theorem fst_cond {α β : Type} (b : Bool) (p q : α × β) : (bif b then p else q).1 = bif b then p.1 else q.1 := by cases b <;> rfl
theorem snd_cond {α β : Type} (b : Bool) (p q : α × β) : (bif b then p else q).2 = bif b then p.2 else q.2 := by cases b <;> rfl
theorem join_if {α R : Type} {f : α → Option R} {o : Option Bool} {b : Bool} {A B : α} (ho : o = some b) : joinAt f (fun k => Option.bind o fun y => bif y then k A else k B) = f (bif b then A else B) := by
  subst ho; cases b <;> rfl
theorem c8 (b : Bool) (w : UInt8) : ((bif b then 0 else w) == 0) = (b || w == 0) := by cases b <;> rfl
theorem cI (b : Bool) (w : Int) : ((bif b then 0 else w) == 0) = (b || w == 0) := by cases b <;> rfl
theorem cL (b : Bool) (w : Str) : ((bif b then [] else w) == []) = (b || w == []) := by cases b <;> rfl
structure ActB (N : Nat) (a : Act) : Prop where
  cid : ∃ n : Nat, a.2.2.1 = (n : Int) ∧ n < 18446744073709551616
  txt : a.2.2.2.2.1.length < N
  txt2 : a.2.2.2.2.1.length < 9223372036854775808
  pick : -9223372036854775808 ≤ a.2.2.2.2.2.1 ∧ a.2.2.2.2.2.1 < 9223372036854775808
  at' : -9223372036854775808 ≤ a.2.2.2.2.2.2.1 ∧ a.2.2.2.2.2.2.1 < 9223372036854775808
  mask : ∃ n : Nat, a.2.2.2.2.2.2.2 = (n : Int) ∧ n < 4294967296
theorem good_eq (N : Nat) (a : Act) (h : ActB N a) (hN : 10 < N) : F_act_Good N a = some (goodA a) := by
  unfold F_act_Good
  rw [join_if (has_eq N _ _ hN)]
  rw [join_if (has_eq N _ _ hN)]
  rw [join_if (has_eq N _ _ hN)]
  rw [join_if (has_eq N _ _ hN)]
  rw [join_if (has_eq N _ _ hN)]
  rw [join_if (has_eq N _ _ hN)]
  rw [join_if (has_eq N _ _ hN)]
  simp only [fst_cond, snd_cond, Bool.cond_self, machine_eq, text_eq N _ h.txt h.txt2, Option.bind_some, c8, cI, cL, beq_self_eq_true, Bool.true_and]
  unfold goodA
  cases decide (0 < a.1) <;> try rfl
  cases decide (a.1 ≤ 19) <;> try rfl
  generalize ((hb a.1 119 || a.2.1 == 0) && _) = b1
  cases b1 <;> try rfl
  cases machB a.1 a.2.1 <;> try rfl
  cases textOk a.2.2.2.2.1 <;> try rfl
  rw [bne]
  cases (a.1 == 17) <;> rfl
theorem join_b {α : Type} {f : α → Option Bool} {g : (α → Option Bool) → Option Bool} {c B : Bool} {u : α} (h : ∀ k, g k = bif c then k u else some false) (hf : f u = some B) : joinAt f g = some (c && B) := by
  rw [joinAt, h, hf]; cases c <;> rfl
theorem u8_not1 (k : UInt8) : decide (k < 1) = !decide (0 < k) := by
  rw [Bool.eq_iff_iff]; simp [UInt8.lt_iff_toNat_lt, UInt8.le_iff_toNat_le]
theorem u8_not19 (k : UInt8) : decide (19 < k) = !decide (k ≤ 19) := by
  rw [Bool.eq_iff_iff]; simp [UInt8.lt_iff_toNat_lt, UInt8.le_iff_toNat_le]
theorem u8_not16 (k : UInt8) : decide (16 ≤ k) = !decide (k < 16) := by
  rw [Bool.eq_iff_iff]; simp [UInt8.lt_iff_toNat_lt, UInt8.le_iff_toNat_le]
theorem u8_not15 (k : UInt8) : decide (k < 15) = !decide (15 ≤ k) := by
  rw [Bool.eq_iff_iff]; simp [UInt8.lt_iff_toNat_lt, UInt8.le_iff_toNat_le]
theorem refGood_eq (N : Nat) (a : Act) (h : ActB N a) : F_epitaphref37_Good N a = some (goodA a) := by
  unfold F_epitaphref37_Good
  refine (join_b (u := ((), (), (), ())) (c := decide (0 < a.1) && (decide (a.1 ≤ 19) && (bif hb a.1 119 then machB a.1 a.2.1 else a.2.1 == 0))) ?_
    (join_b (u := ((), (), (), ())) (c := (hb a.1 99 || a.2.2.1 == 0) && ((hb a.1 102 || a.2.2.2.1 == 0) && ((hb a.1 116 || a.2.2.2.2.1 == []) && textOk a.2.2.2.2.1))) ?_
      (join_b (u := ((), (), (), ())) (c := (hb a.1 112 || a.2.2.2.2.2.1 == 0) && ((hb a.1 97 || a.2.2.2.2.2.2.1 == 0) && (hb a.1 109 || a.2.2.2.2.2.2.2 == 0))) ?_
        (B := !(a.1 == 17) || decide (a.2.2.2.2.2.2.2 ≤ 1)) ?_))).trans ?_
  · intro k
    simp only [rhas1, Option.bind_some, u8_not1, u8_not19, u8_not16, u8_not15, bne, machB]
    cases decide (0 < a.1) <;> try rfl
    cases decide (a.1 ≤ 19) <;> try rfl
    cases hb a.1 119
    · cases (a.2.1 == 0) <;> rfl
    · cases decide (a.2.1 < 16) <;> try rfl
      cases (a.2.1 == 255) <;> try rfl
      cases decide (15 ≤ a.1) <;> rfl
  · intro k
    simp only [rhas2, rhas3, rhas4, refText_eq N _ h.txt h.txt2, Option.bind_some, bne]
    cases hb a.1 99 <;> cases (a.2.2.1 == 0) <;> try rfl
    all_goals cases hb a.1 102 <;> cases (a.2.2.2.1 == 0) <;> try rfl
    all_goals cases hb a.1 116 <;> cases (a.2.2.2.2.1 == []) <;> try rfl
    all_goals cases textOk a.2.2.2.2.1 <;> rfl
  · intro k
    simp only [rhas5, rhas6, rhas7, Option.bind_some, bne]
    cases hb a.1 112 <;> cases (a.2.2.2.2.2.1 == 0) <;> try rfl
    all_goals cases hb a.1 97 <;> cases (a.2.2.2.2.2.2.1 == 0) <;> try rfl
    all_goals cases hb a.1 109 <;> cases (a.2.2.2.2.2.2.2 == 0) <;> rfl
  · rw [bne]
    cases (a.1 == 17) <;> rfl
  · have hw : (a.2.1 == 0) = true → machB a.1 a.2.1 = true := by
      intro e
      rw [beq_iff_eq] at e
      rw [machB, e]; rfl
    unfold goodA
    generalize (hb a.1 99 || a.2.2.1 == 0) = x1 at *
    generalize (hb a.1 102 || a.2.2.2.1 == 0) = x2 at *
    generalize (hb a.1 116 || a.2.2.2.2.1 == []) = x3 at *
    generalize (hb a.1 112 || a.2.2.2.2.2.1 == 0) = x4 at *
    generalize (hb a.1 97 || a.2.2.2.2.2.2.1 == 0) = x5 at *
    generalize (hb a.1 109 || a.2.2.2.2.2.2.2 == 0) = x6 at *
    generalize textOk a.2.2.2.2.1 = x7 at *
    generalize (!(a.1 == 17) || decide (a.2.2.2.2.2.2.2 ≤ 1)) = x8 at *
    generalize decide (0 < a.1) = x9 at *
    generalize decide (a.1 ≤ 19) = x10 at *
    generalize machB a.1 a.2.1 = x11 at *
    generalize (a.2.1 == 0) = x12 at *
    cases hb a.1 119
    · cases x12
      · simp
      · rw [hw rfl]; simp [Bool.and_assoc, Bool.and_comm, Bool.and_left_comm]
    · simp [Bool.and_assoc, Bool.and_comm, Bool.and_left_comm]
end Go.Proofs.Xw
set_option linter.unusedVariables false
set_option linter.unusedSimpArgs false
set_option maxRecDepth 100000
set_option maxHeartbeats 4000000
namespace Go.Proofs.Xw
open Go Go.Xl Go.Ab Go.Proofs Go.Proofs.Xr Go.Proofs.Xs Go.Proofs.Xv
theorem iter_sim {σ σ' R R' : Type} {f : (σ → Option R) → σ → Option R} {f' : (σ' → Option R') → σ' → Option R'} (φ : σ → σ') (ψ : R → R')
    (h : ∀ (rec : σ → Option R) (rec' : σ' → Option R'), (∀ z, rec' (φ z) = (rec z).map ψ) → ∀ z, f' rec' (φ z) = (f rec z).map ψ) : ∀ (N : Nat) (z : σ), iter f' N (φ z) = (iter f N z).map ψ
  | 0, _ => rfl
  | N + 1, z => h _ _ (fun z => iter_sim φ ψ h N z) z
theorem map_cond {R R' : Type} (b : Bool) (x y : Option R) (ψ : R → R') : (bif b then x else y).map ψ = bif b then x.map ψ else y.map ψ := by cases b <;> rfl
theorem map_bind {A R R' : Type} (o : Option A) (f : A → Option R) (ψ : R → R') : (o.bind f).map ψ = o.bind fun a => (f a).map ψ := by cases o <;> rfl
theorem map_some {R R' : Type} (x : R) (ψ : R → R') : (some x).map ψ = some (ψ x) := rfl
theorem map_none {R R' : Type} (ψ : R → R') : (none : Option R).map ψ = none := rfl
theorem get_p (p : UInt8) (m : Str) (k : Nat) : (p :: m)[1 + k]? = m[k]? := by rw [Nat.add_comm]; rfl
theorem set_p (p c : UInt8) (m : Str) (k : Nat) : (p :: m).set (1 + k) c = p :: m.set k c := by rw [Nat.add_comm]; rfl
theorem get_p1 (p : UInt8) (m : Str) : (p :: m)[1]? = m[0]? := rfl
theorem set_p1 (p c : UInt8) (m : Str) : (p :: m).set 1 c = p :: m.set 0 c := rfl
abbrev Fz := (Int × Int × Unit) × Unit × Unit × List UInt8 × Unit
def phi (p : UInt8) (z : Fz) : Fz := (z.1, (), (), p :: z.2.2.2.1, ())
def psi (p : UInt8) (r : List UInt8 × Unit) : Unit × Unit × Unit × List UInt8 × Unit := ((), (), (), p :: r.1, ())
theorem fb_sim (N : Nat) (p : UInt8) (m : Str) (n : Nat) (u : Int) : F_internal_strconv_formatBase10_b N n u (p :: m) = (F_internal_strconv_formatBase10 N m n u).map (psi p) := by
  unfold F_internal_strconv_formatBase10_b F_internal_strconv_formatBase10
  refine iter_sim (phi p) (psi p) ?_ N ((u, (n : Int), ()), (), (), m, ())
  intro rec rec' hr z
  obtain ⟨⟨u, i, _⟩, _, _, m, _⟩ := z
  have hr' : ∀ (u i : Int) (m : Str), rec' ((u, i, ()), (), (), p :: m, ()) = (rec ((u, i, ()), (), (), m, ())).map (psi p) := fun u i m => hr ((u, i, ()), (), (), m, ())
  simp only [phi, joinAt, map_cond, map_bind, map_some, map_none, get_p, set_p, get_p1, set_p1, Nat.zero_add, hr', psi]
  rfl
end Go.Proofs.Xw
set_option linter.unusedVariables false
set_option linter.unusedSimpArgs false
set_option maxRecDepth 100000
set_option maxHeartbeats 4000000
namespace Go.Proofs.Xw
open Go Go.Xl Go.Ab Go.Proofs Go.Proofs.Xr Go.Proofs.Xs Go.Proofs.Xv
theorem blt_self (n : Nat) : Nat.blt n n = false := by
  cases h : Nat.blt n n with
  | false => rfl
  | true => rw [Nat.blt_eq] at h; omega
noncomputable def decI (x : Int) : Str := bif decide (x < 0) then 45 :: dec x.natAbs else dec x.natAbs
theorem decI_len (x : Int) (h : -9223372036854775808 ≤ x) (h' : x < 9223372036854775808) : (decI x).length ≤ 21 := by
  have := dec_len x.natAbs (by omega)
  unfold decI
  cases decide (x < 0) <;> simp <;> omega
abbrev K20 : List Str := [[], [99, 114, 101, 97, 116, 101], [101, 100, 105, 116], [100, 101, 108, 101, 116, 101], [104, 101, 108, 108, 111], [112, 117, 108, 108], [112, 117, 115, 104], [97, 99, 107], [98, 121, 101], [116, 97, 107, 101], [100, 114, 111, 112],
  [116, 119, 105, 99, 101], [115, 112, 111, 105, 108], [101, 118, 105, 99, 116], [99, 117, 108, 108], [99, 104, 101, 99, 107], [102, 117, 115, 101], [99, 114, 97, 115, 104], [115, 116, 97, 114, 116], [114, 111, 111, 109]]
def word (k : UInt8) : Str := (K20[k.toNat]?).getD []
theorem word_get (k : UInt8) (h : (decide (0 < k) && decide (k ≤ 19)) = true) : K20[k.toNat]? = some (word k) := by
  revert h
  exact u8_all (p := fun x => (decide (0 < x) && decide (x ≤ 19)) = true → K20[x.toNat]? = some (word x)) (by decide +kernel) k
theorem word_len (k : UInt8) : (word k).length ≤ 6 :=
  u8_all (p := fun x => (word x).length ≤ 6) (by decide +kernel) k
noncomputable def shF (a : Act) (c : UInt8) : Str :=
  bif c == 119 then (bif a.2.1 == 255 then [104, 117, 98] else dec a.2.1.toNat)
  else bif c == 99 then dec a.2.2.1.toNat
  else bif c == 102 then dec a.2.2.2.1.toNat
  else bif c == 116 then quo a.2.2.2.2.1
  else bif c == 112 then decI a.2.2.2.2.2.1
  else bif c == 97 then decI a.2.2.2.2.2.2.1
  else dec a.2.2.2.2.2.2.2.toNat
theorem fb_b (N d n : Nat) (hd : d ≤ 20) (hn : n < 10 ^ d) (hn2 : n < 18446744073709551616) (hN : 30 ≤ N) :
    ∃ r : List UInt8, F_internal_strconv_formatBase10_b N d (n : Int) (List.replicate 24 0) = some ((), (), (), 0 :: r, ()) ∧ r.length = 23 ∧ r.take d = pad d n := by
  obtain ⟨r, r1, r2, r3⟩ := fb10 N (List.replicate 23 0) d n (by simp; omega) (by simp) hn hn2 (by omega)
  refine ⟨r.1, ?_, by rw [r2]; rfl, r3⟩
  rw [show List.replicate 24 (0 : UInt8) = 0 :: List.replicate 23 0 from rfl, fb_sim, r1]; rfl
theorem int_tail (N n : Nat) (x : Int) (h0 : 1 ≤ n) (hn : n < 18446744073709551616) (hN : 30 ≤ N) :
    (Option.bind (F_internal_strconv_numDigits N (n : Int) tab0) fun (y : Int) =>
      bif cutOk 1 (IntKind.i64.wrap (1 + y)) 24 then
        Option.bind (F_internal_strconv_formatBase10_b N ((IntKind.i64.wrap (1 + y)).toNat - 1) (n : Int) (List.replicate 24 0))
          fun (y_1 : Unit × Unit × Unit × List UInt8 × Unit) =>
          bif decide (x < 0) then
            y_1.snd.snd.snd.fst[0]?.bind fun (e : UInt8) =>
              bif Nat.ble 24 (y_1.snd.snd.snd.fst.set 0 45).length then
                bif cutOk 0 (IntKind.i64.wrap (1 + y)) 24 then
                  bif (0 + ((IntKind.i64.wrap (1 + y)).toNat - 0)).ble (y_1.snd.snd.snd.fst.set 0 45).length then
                    some (List.take ((IntKind.i64.wrap (1 + y)).toNat - 0) (List.drop 0 (y_1.snd.snd.snd.fst.set 0 45)))
                  else none
                else none
              else none
          else
            bif Nat.ble 24 y_1.snd.snd.snd.fst.length then
              bif cutOk 1 (IntKind.i64.wrap (1 + y)) 24 then
                bif (1 + ((IntKind.i64.wrap (1 + y)).toNat - 1)).ble y_1.snd.snd.snd.fst.length then
                  some (List.take ((IntKind.i64.wrap (1 + y)).toNat - 1) (List.drop 1 y_1.snd.snd.snd.fst))
                else none
              else none
            else none
      else none) = some (bif decide (x < 0) then 45 :: dec n else dec n) := by
  obtain ⟨d, h1, h2⟩ := Dig.exists n hn
  obtain ⟨r, r1, r2, r3⟩ := fb_b N d n h2 h1.2.1 hn hN
  have e1 : IntKind.i64.wrap (1 + (d : Int)) = ((1 + d : Nat) : Int) := by rw [IntWalk.i64_in _ (by omega)]; omega
  have e2 : cutOk 1 ((1 + d : Nat) : Int) 24 = true := by simp [cutOk]; omega
  have e3 : cutOk 0 ((1 + d : Nat) : Int) 24 = true := by simp [cutOk]; omega
  rw [numDigits_eq N n d h0 hn h1, Option.bind_some]
  simp only [e1, e2, e3, cond_true, Int.toNat_natCast, Nat.add_sub_cancel_left, r1, Option.bind_some]
  rw [dec_pad hn h1]
  have e4 : Nat.ble 24 (0 :: r).length = true := by rw [List.length_cons, r2]; rfl
  have e5 : Nat.ble 24 ((0 :: r).set 0 45).length = true := by rw [List.length_set]; exact e4
  have e6 : (0 + (1 + d - 0)).ble ((0 :: r).set 0 45).length = true := by rw [List.length_set, List.length_cons, r2]; exact Nat.ble_eq_true_of_le (by omega)
  have e7 : (1 + d).ble (0 :: r).length = true := by rw [List.length_cons, r2]; exact Nat.ble_eq_true_of_le (by omega)
  cases decide (x < 0) with
  | true =>
    simp only [cond_true]
    rw [List.getElem?_cons_zero, Option.bind_some, e5, cond_true, e6, cond_true, List.drop_zero, List.set_cons_zero, Nat.sub_zero, Nat.add_comm 1 d, List.take_succ_cons, r3]
  | false =>
    simp only [cond_false]
    rw [e4, cond_true, e7, cond_true, List.drop_succ_cons, List.drop_zero, r3]
theorem itoa_eq (N : Nat) (x : Int) (h : -9223372036854775808 ≤ x) (h' : x < 9223372036854775808) (hN : 30 ≤ N) : F_strconv_Itoa N x tab0 = some (decI x) := by
  suffices H : F_internal_strconv_FormatInt N x 10 tab0 = some (decI x) by
    unfold F_strconv_Itoa F_internal_strconv_Itoa
    rw [H]; rfl
  unfold F_internal_strconv_FormatInt
  rw [show ((10 : Int) == 10) = true from rfl, cond_true]
  by_cases h0 : 0 ≤ x
  · obtain ⟨n, rfl⟩ : ∃ n : Nat, x = (n : Int) := ⟨x.toNat, by omega⟩
    have ed : decI (n : Int) = dec n := by
      unfold decI
      rw [decide_eq_false (by omega), cond_false]; rfl
    rw [decide_eq_true h0, cond_true, ed]
    by_cases hs : n < 100
    · rw [decide_eq_true (by omega), cond_true]
      show Option.bind (F_internal_strconv_small 0 (n : Int)) _ = _
      rw [small_all n hs, Option.bind_some]
    · rw [decide_eq_false (by omega), cond_false, joinAt, decide_eq_false (show ¬ (n : Int) < 0 by omega), cond_false, u64n (by omega)]
      have := int_tail N n (n : Int) (by omega) (by omega) hN
      rw [decide_eq_false (show ¬ (n : Int) < 0 by omega)] at this
      exact this
  · have ed : decI x = 45 :: dec x.natAbs := by
      unfold decI
      rw [decide_eq_true (by omega), cond_true]
    rw [decide_eq_false h0, cond_false, ed, joinAt, decide_eq_true (show x < 0 by omega), cond_true]
    have ew : IntKind.u64.wrap (0 - IntKind.u64.wrap x) = ((x.natAbs : Nat) : Int) := by
      have e1 : IntKind.u64.wrap x = x + 18446744073709551616 := by
        rw [IntKind.wrap_u64]; omega
      rw [e1]
      rw [IntKind.wrap_u64]; omega
    rw [ew]
    have := int_tail N x.natAbs x (by omega) (by omega) hN
    rw [decide_eq_true (show x < 0 by omega)] at this
    exact this
theorem decode_at (L : Str) (k : Nat) (hk : k < L.length) (h : L[k].toNat < 128) : Utf8.decode { data := L.toArray } k = (L[k].toNat, 1) := by
  have e : (ByteArray.get! { data := L.toArray } (k + 0)).toNat = L[k].toNat := by
    show ((L.toArray)[k]!).toNat = _
    rw [getElem!_pos _ k (by simpa using hk)]; rfl
  unfold Utf8.decode
  simp only [e]
  rw [if_pos h]
theorem print_loop (N : Nat) (L : Str) (g : UInt8 → Str) (f : Int → Option Str) (B : Nat) (hL : ∀ c ∈ L, c.toNat < 128 ∧ f (c.toNat : Int) = some (g c) ∧ (g c).length ≤ B) (hB : (L.length + 1) * (B + 1) ≤ 1000000) (hN : L.length < N) (e : Str) (he : e.length ≤ 1000000) :
    iter (fun (rec : (List UInt8 × Unit) × Unit × Unit × (List UInt8 × Nat) × Unit → Option (List UInt8)) (z : (List UInt8 × Unit) × Unit × Unit × (List UInt8 × Nat) × Unit) =>
      bif z.snd.snd.snd.fst.snd.blt z.snd.snd.snd.fst.fst.length then
        Option.bind (f (↑(Utf8.decode { data := z.snd.snd.snd.fst.fst.toArray } z.snd.snd.snd.fst.snd).fst : Int)) fun (y : List UInt8) =>
          bif decide (1 + y.length ≤ 4611686018427387904) then
            bif decide (z.fst.fst.length + ([32] ++ y).length ≤ 4611686018427387904) then
              rec ((z.fst.fst ++ ([32] ++ y), ()), (), (), (z.snd.snd.snd.fst.fst, z.snd.snd.snd.fst.snd + (Utf8.decode { data := z.snd.snd.snd.fst.fst.toArray } z.snd.snd.snd.fst.snd).snd), ())
            else none
          else none
      else some z.fst.fst) N ((e, ()), (), (), (L, 0), ()) = some (e ++ L.flatMap fun c => 32 :: g c) := by
  suffices H : ∀ (m k : Nat) (e : Str), k + m = L.length → e.length + (m + 1) * (B + 1) ≤ 4000000 → ∀ N, m < N →
      iter (fun (rec : (List UInt8 × Unit) × Unit × Unit × (List UInt8 × Nat) × Unit → Option (List UInt8)) (z : (List UInt8 × Unit) × Unit × Unit × (List UInt8 × Nat) × Unit) =>
      bif z.snd.snd.snd.fst.snd.blt z.snd.snd.snd.fst.fst.length then
        Option.bind (f (↑(Utf8.decode { data := z.snd.snd.snd.fst.fst.toArray } z.snd.snd.snd.fst.snd).fst : Int)) fun (y : List UInt8) =>
          bif decide (1 + y.length ≤ 4611686018427387904) then
            bif decide (z.fst.fst.length + ([32] ++ y).length ≤ 4611686018427387904) then
              rec ((z.fst.fst ++ ([32] ++ y), ()), (), (), (z.snd.snd.snd.fst.fst, z.snd.snd.snd.fst.snd + (Utf8.decode { data := z.snd.snd.snd.fst.fst.toArray } z.snd.snd.snd.fst.snd).snd), ())
            else none
          else none
      else some z.fst.fst) N ((e, ()), (), (), (L, k), ()) = some (e ++ (L.drop k).flatMap fun c => 32 :: g c) by
    have := H L.length 0 e (by omega) (by omega) N hN
    simpa using this
  intro m
  induction m with
  | zero =>
    intro k e hk he N hN
    obtain ⟨N, rfl⟩ : ∃ n, N = n + 1 := ⟨N - 1, by omega⟩
    have : k = L.length := by omega
    subst this
    rw [iter]
    simp only [blt_self L.length, cond_false, List.drop_length, List.flatMap_nil, List.append_nil]
  | succ m ih =>
    intro k e hk he N hN
    obtain ⟨N, rfl⟩ : ∃ n, N = n + 1 := ⟨N - 1, by omega⟩
    have hkl : k < L.length := by omega
    obtain ⟨h1, h2, h3⟩ := hL L[k] (List.getElem_mem hkl)
    rw [iter]
    simp only [show (Nat.blt k L.length) = true by rw [Nat.blt_eq]; exact hkl, cond_true, decode_at L k hkl h1, h2, Option.bind_some]
    have hx : (m + 1 + 1) * (B + 1) = (m + 1) * (B + 1) + (B + 1) := by rw [Nat.add_mul (m + 1) 1 (B + 1)]; omega
    rw [hx] at he
    rw [decide_eq_true (show 1 + (g L[k]).length ≤ 4611686018427387904 by omega), cond_true]
    rw [decide_eq_true (show e.length + (([32] : List UInt8) ++ g L[k]).length ≤ 4611686018427387904 by simp; omega), cond_true]
    rw [ih (k + 1) (e ++ (([32] : List UInt8) ++ g L[k])) (by omega) (by simp; omega) N (by omega)]
    rw [List.drop_eq_getElem_cons hkl, List.flatMap_cons]
    simp
end Go.Proofs.Xw
set_option linter.unusedVariables false
set_option linter.unusedSimpArgs false
set_option maxRecDepth 100000
set_option maxHeartbeats 4000000
namespace Go.Proofs.Xw
open Go Go.Xl Go.Ab Go.Proofs Go.Proofs.Xr Go.Proofs.Xs Go.Proofs.Xv
def setF (c : UInt8) (b a : Act) : Act :=
  bif c == 119 then (a.1, b.2.1, a.2.2)
  else bif c == 99 then (a.1, a.2.1, b.2.2.1, a.2.2.2)
  else bif c == 102 then (a.1, a.2.1, a.2.2.1, b.2.2.2.1, a.2.2.2.2)
  else bif c == 116 then (a.1, a.2.1, a.2.2.1, a.2.2.2.1, b.2.2.2.2.1, a.2.2.2.2.2)
  else bif c == 112 then (a.1, a.2.1, a.2.2.1, a.2.2.2.1, a.2.2.2.2.1, b.2.2.2.2.2.1, a.2.2.2.2.2.2)
  else bif c == 97 then (a.1, a.2.1, a.2.2.1, a.2.2.2.1, a.2.2.2.2.1, a.2.2.2.2.2.1, b.2.2.2.2.2.2.1, a.2.2.2.2.2.2.2)
  else (a.1, a.2.1, a.2.2.1, a.2.2.2.1, a.2.2.2.2.1, a.2.2.2.2.2.1, a.2.2.2.2.2.2.1, b.2.2.2.2.2.2.2)
abbrev LS : Str := [119, 99, 102, 116, 112, 97, 109]
theorem ls_cases {c : UInt8} (h : c ∈ LS) : c = 119 ∨ c = 99 ∨ c = 102 ∨ c = 116 ∨ c = 112 ∨ c = 97 ∨ c = 109 := by simpa using h
theorem nmd_ls (k : UInt8) : ∀ c ∈ nmd k, c ∈ LS :=
  u8_all (p := fun k => ∀ c ∈ nmd k, c ∈ LS) (by decide +kernel) k
theorem nmd_len (k : UInt8) : (nmd k).length ≤ 4 :=
  u8_all (p := fun k => (nmd k).length ≤ 4) (by decide +kernel) k
theorem setF_kind (c : UInt8) (b a : Act) : (setF c b a).1 = a.1 := by
  unfold setF
  repeat (first | (rw [cond_eq_ite]; split <;> try rfl))
theorem shF_same {c : UInt8} (h : c ∈ LS) (b a : Act) : shF (setF c b a) c = shF b c := by
  rcases ls_cases h with rfl | rfl | rfl | rfl | rfl | rfl | rfl <;> rfl
theorem shF_other {c d : UInt8} (h : c ∈ LS) (h' : d ∈ LS) (hd : d ≠ c) (b a : Act) : shF (setF c b a) d = shF a d := by
  rcases ls_cases h with rfl | rfl | rfl | rfl | rfl | rfl | rfl <;> rcases ls_cases h' with rfl | rfl | rfl | rfl | rfl | rfl | rfl <;> first | rfl | exact absurd rfl hd
theorem fold_set (b : Act) : ∀ (L : Str) (a : Act), (∀ c ∈ L, c ∈ LS) → L.foldl (fun a c => setF c b a) a = (a.1, bif L.contains 119 then b.2.1 else a.2.1, bif L.contains 99 then b.2.2.1 else a.2.2.1, bif L.contains 102 then b.2.2.2.1 else a.2.2.2.1,
      bif L.contains 116 then b.2.2.2.2.1 else a.2.2.2.2.1, bif L.contains 112 then b.2.2.2.2.2.1 else a.2.2.2.2.2.1, bif L.contains 97 then b.2.2.2.2.2.2.1 else a.2.2.2.2.2.2.1, bif L.contains 109 then b.2.2.2.2.2.2.2 else a.2.2.2.2.2.2.2)
  | [], a, _ => rfl
  | c :: L, a, h => by
    rw [List.foldl_cons, fold_set b L _ fun d hd => h d (List.mem_cons_of_mem _ hd)]
    simp only [List.contains_cons]
    rcases ls_cases (h c List.mem_cons_self) with rfl | rfl | rfl | rfl | rfl | rfl | rfl
    · show (_, _) = (_, _)
      cases L.contains 119 <;> rfl
    · cases L.contains 99 <;> rfl
    · cases L.contains 102 <;> rfl
    · cases L.contains 116 <;> rfl
    · cases L.contains 112 <;> rfl
    · cases L.contains 97 <;> rfl
    · cases L.contains 109 <;> rfl
theorem fold_good (b : Act) (h : goodA b = true) : (nmd b.1).foldl (fun a c => setF c b a) (b.1, 0, 0, 0, [], 0, 0, 0) = b := by
  rw [fold_set b _ _ (nmd_ls b.1)]
  simp only [goodA, Bool.and_eq_true] at h
  obtain ⟨-, -, ⟨h1, h2, h3, h4, h5, h6, h7⟩, -⟩ := h
  unfold hb at h1 h2 h3 h4 h5 h6 h7
  have z : ∀ {α : Type} [BEq α] [LawfulBEq α] {p : Bool} {x y : α}, (p || x == y) = true → (bif p then x else y) = x := by
    intro α _ _ p x y e
    cases p with
    | true => rfl
    | false => rw [Bool.false_or, beq_iff_eq] at e; rw [e]; rfl
  rw [z h1, z h2, z h3, z h4, z h5, z h6, z h7]
noncomputable def printA (a : Act) : Str := bif goodA a then word a.1 ++ (nmd a.1).flatMap (fun c => 32 :: shF a c) else []
theorem dec_ne (x : Nat) (hx : x < 18446744073709551616) : ∀ c ∈ dec x, 48 ≤ c.toNat ∧ c.toNat ≤ 57 := (dec_facts x hx).1
theorem no32 {N : Nat} {a : Act} {c : UInt8} (h : ActB N a) (hc : c ∈ LS) (ht : c ≠ 116) : (32 : UInt8) ∉ shF a c := by
  have hd : ∀ x, x < 18446744073709551616 → (32 : UInt8) ∉ dec x := by
    intro x hx hm
    have := (dec_ne x hx _ hm).1
    exact absurd this (by decide)
  have hi : ∀ x : Int, -9223372036854775808 ≤ x → x < 9223372036854775808 → (32 : UInt8) ∉ decI x := by
    intro x h1 h2 hm
    unfold decI at hm
    cases hx : decide (x < 0) with
    | true =>
      rw [hx, cond_true, List.mem_cons] at hm
      rcases hm with hm | hm
      · exact absurd hm (by decide)
      · exact hd _ (by omega) hm
    | false => rw [hx, cond_false] at hm; exact hd _ (by omega) hm
  obtain ⟨n, hn, hn2⟩ := h.cid
  obtain ⟨m, hm, hm2⟩ := h.mask
  rcases ls_cases hc with rfl | rfl | rfl | rfl | rfl | rfl | rfl
  · show (32 : UInt8) ∉ (bif a.2.1 == 255 then [104, 117, 98] else dec a.2.1.toNat)
    cases a.2.1 == 255
    · exact hd _ (by have := a.2.1.toNat_lt; omega)
    · rw [cond_true]; decide
  · exact hd _ (by rw [hn]; omega)
  · exact hd _ (by have := a.2.2.2.1.toNat_lt; omega)
  · exact absurd rfl ht
  · exact hi _ h.pick.1 h.pick.2
  · exact hi _ h.at'.1 h.at'.2
  · exact hd _ (by rw [hm]; omega)
theorem shF_len {N : Nat} {a : Act} {c : UInt8} (h : ActB N a) (hc : c ∈ LS) (ht : a.2.2.2.2.1.length ≤ 10000) : (shF a c).length ≤ 20002 := by
  obtain ⟨n, hn, hn2⟩ := h.cid
  obtain ⟨m, hm, hm2⟩ := h.mask
  rcases ls_cases hc with rfl | rfl | rfl | rfl | rfl | rfl | rfl
  · show (bif a.2.1 == 255 then [104, 117, 98] else dec a.2.1.toNat).length ≤ 20002
    cases a.2.1 == 255
    · have := dec_len a.2.1.toNat (by have := a.2.1.toNat_lt; omega)
      simp only [cond_false]; omega
    · rw [cond_true]; decide
  · have := dec_len a.2.2.1.toNat (by rw [hn]; omega)
    show (dec a.2.2.1.toNat).length ≤ 20002; omega
  · have := dec_len a.2.2.2.1.toNat (by have := a.2.2.2.1.toNat_lt; omega)
    show (dec a.2.2.2.1.toNat).length ≤ 20002; omega
  · have := qs_len a.2.2.2.2.1
    show (quo a.2.2.2.2.1).length ≤ 20002
    simp [quo]; omega
  · have := decI_len _ h.pick.1 h.pick.2
    show (decI a.2.2.2.2.2.1).length ≤ 20002; omega
  · have := decI_len _ h.at'.1 h.at'.2
    show (decI a.2.2.2.2.2.2.1).length ≤ 20002; omega
  · have := dec_len a.2.2.2.2.2.2.2.toNat (by rw [hm]; omega)
    show (dec a.2.2.2.2.2.2.2.toNat).length ≤ 20002; omega
theorem good_facts {a : Act} (h : goodA a = true) : (decide (0 < a.1) && decide (a.1 ≤ 19)) = true ∧ textOk a.2.2.2.2.1 = true := by
  simp only [goodA, Bool.and_eq_true] at h
  exact ⟨by simp only [Bool.and_eq_true]; exact ⟨h.1, h.2.1⟩, h.2.2.2.2.1⟩
theorem textOk_len {t : Str} (h : textOk t = true) : t.length ≤ 60 := by
  simp only [textOk, Bool.and_eq_true, decide_eq_true_eq] at h
  exact h.1
theorem flds_good {k : UInt8} (h : (decide (0 < k) && decide (k ≤ 19)) = true) : flds k = nmd k := by
  revert h
  exact u8_all (p := fun k => (decide (0 < k) && decide (k ≤ 19)) = true → flds k = nmd k) (by decide +kernel) k
theorem flds_ls (k : UInt8) : ∀ c ∈ flds k, c ∈ LS :=
  u8_all (p := fun k => ∀ c ∈ flds k, c ∈ LS) (by decide +kernel) k
theorem flds_len (k : UInt8) : (flds k).length ≤ 4 :=
  u8_all (p := fun k => (flds k).length ≤ 4) (by decide +kernel) k
theorem ls_ascii {c : UInt8} (h : c ∈ LS) : c.toNat < 128 := by
  rcases ls_cases h with rfl | rfl | rfl | rfl | rfl | rfl | rfl <;> decide
theorem word_no32 (k : UInt8) : (32 : UInt8) ∉ word k :=
  u8_all (p := fun k => (32 : UInt8) ∉ word k) (by decide +kernel) k
noncomputable def rj (b : Act) (L : Str) : Str := (L.flatMap fun c => 32 :: shF b c).drop 1
theorem rj_cons (b : Act) (c : UInt8) (L : Str) : rj b (c :: L) = shF b c ++ L.flatMap fun c => 32 :: shF b c := rfl
theorem fm_rj (b : Act) (L : Str) : (L.flatMap fun c => 32 :: shF b c) = [] ∧ rj b L = [] ∨ (L.flatMap fun c => 32 :: shF b c) = 32 :: rj b L := by
  cases L with
  | nil => exact .inl ⟨rfl, rfl⟩
  | cons c L => exact .inr rfl
end Go.Proofs.Xw
set_option linter.unusedVariables false
set_option linter.unusedSimpArgs false
set_option maxRecDepth 100000
set_option maxHeartbeats 4000000
namespace Go.Proofs.Xw
open Go Go.Xl Go.Ab Go.Proofs Go.Proofs.Xr Go.Proofs.Xs Go.Proofs.Xv
def dB (c : UInt8) : Bool := decide (48 ≤ c.toNat) && decide (c.toNat ≤ 57)
theorem dB_isD (c : UInt8) : dB c = true ↔ isD c := by simp [dB, isD]
theorem allD_iff (u : Str) : u.all dB = true ↔ ∀ c ∈ u, isD c := by
  rw [List.all_eq_true]; exact ⟨fun h c hc => (dB_isD c).1 (h c hc), fun h c hc => (dB_isD c).2 (h c hc)⟩
theorem u8_dig (c : UInt8) : decide (9 < c - 48) = !dB c :=
  u8_all (p := fun c => decide (9 < c - 48) = !dB c) (by decide +kernel) c
theorem u8_val (c : UInt8) (h : dB c = true) : (c - 48).toNat = wd c ∧ wd c ≤ 9 := by
  rw [wd_eq]
  revert h
  exact u8_all (p := fun c => dB c = true → (c - 48).toNat = c.toNat - 48 ∧ c.toNat - 48 ≤ 9) (by decide +kernel) c
theorem atoi_loop (N : Nat) (u : Str) (fin : Int → Option (Int × Option Int)) (hu : u.length < 19) (hN : u.length < N) :
    iter (fun (rec : (Int × Int × Unit) × Unit × Unit × Unit → Option (Int × Option Int)) (z : (Int × Int × Unit) × Unit × Unit × Unit) =>
      bif decide (z.fst.snd.fst < (↑u.length : Int)) then
        (at? u z.fst.snd.fst).bind fun (e : UInt8) =>
          bif decide (9 < e - 48) then some (0, some 2)
          else rec ((IntKind.i64.wrap (IntKind.i64.wrap (z.fst.fst * 10) + (↑(e - 48).toNat : Int)), IntKind.i64.wrap (z.fst.snd.fst + 1), ()), (), (), ())
      else fin z.fst.fst) N ((0, 0, ()), (), (), ()) = bif u.all dB then fin ((vl 0 u : Nat) : Int) else some (0, some 2) := by
  simp only [u8_dig]
  suffices H : ∀ (r : Str) (i n : Nat), u.drop i = r → i + r.length = u.length → n < 10 ^ i → ∀ N, r.length < N →
      iter (fun (rec : (Int × Int × Unit) × Unit × Unit × Unit → Option (Int × Option Int)) (z : (Int × Int × Unit) × Unit × Unit × Unit) =>
      bif decide (z.fst.snd.fst < (↑u.length : Int)) then
        (at? u z.fst.snd.fst).bind fun (e : UInt8) =>
          bif !dB e then some (0, some 2)
          else rec ((IntKind.i64.wrap (IntKind.i64.wrap (z.fst.fst * 10) + (↑(e - 48).toNat : Int)), IntKind.i64.wrap (z.fst.snd.fst + 1), ()), (), (), ())
      else fin z.fst.fst) N (((n : Int), (i : Int), ()), (), (), ()) = bif r.all dB then fin ((vl n r : Nat) : Int) else some (0, some 2) by
    exact H u 0 0 rfl (by simp) (by simp) N hN
  intro r
  induction r with
  | nil =>
    intro i n _ hi hn N hN
    obtain ⟨N, rfl⟩ : ∃ n, N = n + 1 := ⟨N - 1, by simp at hN; omega⟩
    simp at hi
    rw [iter]
    simp only [decide_eq_false (show ¬ (i : Int) < (u.length : Int) by omega), cond_false, List.all_nil, cond_true, vl]
  | cons c r ih =>
    intro i n hd hi hn N hN
    obtain ⟨N, rfl⟩ : ∃ n, N = n + 1 := ⟨N - 1, by simp at hN; omega⟩
    simp at hi hN
    have hil : i < u.length := by omega
    have hc : u[i] = c := by
      have := List.drop_eq_getElem_cons hil
      rw [hd] at this; exact (List.cons.inj this).1.symm
    have hr : u.drop (i + 1) = r := by
      have := List.drop_eq_getElem_cons hil
      rw [hd] at this; exact (List.cons.inj this).2.symm
    rw [iter]
    simp only [decide_eq_true (show (i : Int) < (u.length : Int) by omega), cond_true, at?_nat, List.getElem?_eq_getElem hil, hc, Option.bind_some, List.all_cons]
    cases hb : dB c with
    | false => rfl
    | true =>
      obtain ⟨e1, e2⟩ := u8_val c hb
      have hp : 10 ^ (i + 1) ≤ 10 ^ 18 := Nat.pow_le_pow_right (by omega) (by omega)
      have hp' : 10 ^ (i + 1) = 10 ^ i * 10 := Nat.pow_succ ..
      have hp2 : (10 : Nat) ^ 18 = 1000000000000000000 := by decide
      rw [hp2] at hp
      simp only [Bool.not_true, cond_false, Bool.true_and, e1]
      rw [IntWalk.i64_in ((n : Int) * 10) (by omega), IntWalk.i64_in ((n : Int) * 10 + _) (by omega), i64_succ (by omega)]
      rw [show (n : Int) * 10 + ((wd c : Nat) : Int) = ((n * 10 + wd c : Nat) : Int) by omega]
      rw [ih (i + 1) (n * 10 + wd c) hr (by omega) (by omega) N (by omega), vl_cons]
def sgn : Str → Str × Bool
  | [] => ([], false)
  | c :: r => bif c == 43 then (r, false) else bif c == 45 then (r, true) else (c :: r, false)
theorem sgn_cons (c : UInt8) (r : Str) : sgn (c :: r) = bif c == 43 then (r, false) else bif c == 45 then (r, true) else (c :: r, false) := rfl
def piR (neg : Bool) (r : Int × Option Int) : Int × Option Int :=
  bif r.2 == some 2 then (0, some 2)
  else bif neg then (bif decide (9223372036854775808 < r.1) then (-9223372036854775808, some 1) else (IntKind.i64.wrap (0 - IntKind.i64.wrap r.1), none))
  else bif decide (9223372036854775808 ≤ r.1) then (9223372036854775807, some 1) else (IntKind.i64.wrap r.1, none)
theorem pu0_eq (N : Nat) (s : Str) (hl : s.length < 1000000000) (hN : s.length < N) : F_internal_strconv_ParseUint N s 10 0 = some (puR 18446744073709551615 s) := by
  rw [show F_internal_strconv_ParseUint N s 10 0 = F_internal_strconv_ParseUint N s 10 64 from rfl]
  exact intParse64 N 18446744073709551615 s 64 (by omega) hN (by decide) rfl rfl rfl rfl (by decide +kernel)
theorem pint_tail (neg : Bool) (r : Int × Option Int) (he : r.2 = none ∨ r.2 = some 1 ∨ r.2 = some 2) (F G : Option (Int × Option Int)) (hF : r.2 ≠ some 2 → F = some (piR neg r)) (hG : r.2 ≠ some 2 → G = some (piR neg r)) :
    (bif bif true then !r.2.isNone else r.2.isNone then bif bif true then !r.2 == some 1 else r.2 == some 1 then some (0, r.2) else F else G) = some (piR neg r) := by
  rcases he with h | h | h
  · rw [hG (by rw [h]; simp), h]; rfl
  · rw [hF (by rw [h]; simp), h]; rfl
  · unfold piR; rw [h]; rfl
theorem pint_eq (N : Nat) (s : Str) (hs : s ≠ []) (hl : s.length < 1000000000) (hN : s.length < N) :
    F_internal_strconv_ParseInt N s 10 0 = some (piR (sgn s).2 (puR 18446744073709551615 (sgn s).1)) := by
  obtain ⟨c, r, rfl⟩ : ∃ c r, s = c :: r := by
    cases s with
    | nil => exact absurd rfl hs
    | cons c r => exact ⟨c, r, rfl⟩
  have hl' : r.length < 1000000000 := by simp at hl; omega
  have hN' : r.length < N := by simp at hN; omega
  have hcut : cutOk 1 (((c :: r).length : Nat) : Int) (c :: r).length = true := by simp [cutOk]; omega
  have w1 : IntKind.u64.wrap (IntKind.i64.wrap (64 - 1)) = 63 := by decide +kernel
  have w2 : IntKind.u64.wrap (1 * 2 ^ min ((63 : Int)).toNat 64) = 9223372036854775808 := by decide +kernel
  have w3 : IntKind.i64.wrap (IntKind.u64.wrap (9223372036854775808 - 1)) = 9223372036854775807 := by decide +kernel
  have w4 : IntKind.i64.wrap (0 - IntKind.i64.wrap 9223372036854775808) = -9223372036854775808 := by decide +kernel
  have core : ∀ (u : Str) (neg : Bool), u.length < 1000000000 → u.length < N → _ := fun u neg h1 h2 => pint_tail neg (puR 18446744073709551615 u) (puR_err _ u)
  unfold F_internal_strconv_ParseInt sgn
  rw [show ((c :: r : Str) == []) = false from rfl, cond_false]
  simp only [joinAt, List.getElem?_cons_zero, Option.bind_some, hcut, cond_true, List.drop_one, List.tail_cons, pu0_eq N (c :: r) hl hN, pu0_eq N r hl' hN', show ((0 : Int) == 0) = true from rfl, w1, w2, w3, w4, show decide ((0 : Int) ≤ 63) = true from rfl]
  cases h43 : c == 43 with
  | true =>
    refine pint_tail false _ (puR_err _ r) _ _ ?_ ?_
    all_goals
      intro h
      unfold piR
      rw [show ((puR 18446744073709551615 r).2 == some 2) = false by simpa using h]
      simp only [cond_false, cond_true, Bool.not_false]
      cases decide (9223372036854775808 ≤ (puR 18446744073709551615 r).1) <;> rfl
  | false =>
    cases h45 : c == 45 with
    | true =>
      refine pint_tail true _ (puR_err _ r) _ _ ?_ ?_
      all_goals
        intro h
        unfold piR
        rw [show ((puR 18446744073709551615 r).2 == some 2) = false by simpa using h]
        simp only [cond_false, cond_true, Bool.not_true]
        cases decide (9223372036854775808 < (puR 18446744073709551615 r).1) <;> rfl
    | false =>
      refine pint_tail false _ (puR_err _ (c :: r)) _ _ ?_ ?_
      all_goals
        intro h
        unfold piR
        rw [show ((puR 18446744073709551615 (c :: r)).2 == some 2) = false by simpa using h]
        simp only [cond_false, cond_true, Bool.not_false]
        cases decide (9223372036854775808 ≤ (puR 18446744073709551615 (c :: r)).1) <;> rfl
def fastR (s : Str) : Int × Option Int :=
  bif (sgn s).1 == [] then (0, some 2)
  else bif (sgn s).1.all dB then (bif (sgn s).2 then IntKind.i64.wrap (0 - ((vl 0 (sgn s).1 : Nat) : Int)) else ((vl 0 (sgn s).1 : Nat) : Int), none) else (0, some 2)
theorem fast_eq (N : Nat) (s : Str) (hs : s ≠ []) (hl : s.length < 19) (hN : s.length < N) : F_internal_strconv_Atoi N s = some (fastR s) := by
  obtain ⟨c, r, rfl⟩ : ∃ c r, s = c :: r := by
    cases s with
    | nil => exact absurd rfl hs
    | cons c r => exact ⟨c, r, rfl⟩
  have hl' : r.length < 19 := by simp at hl; omega
  have hN' : r.length < N := by simp at hN; omega
  have hcut : cutOk 1 (((c :: r).length : Nat) : Int) (c :: r).length = true := by simp [cutOk]; omega
  unfold F_internal_strconv_Atoi
  rw [decide_eq_true (show (0 : Int) < ((c :: r).length : Int) by simp only [List.length_cons]; omega), decide_eq_true (show ((c :: r).length : Int) < 19 by omega)]
  simp only [joinAt, cond_true, List.getElem?_cons_zero, Option.bind_some, hcut, List.drop_one, List.tail_cons]
  rw [atoi_loop N (c :: r) (fun n => bif c == 45 then some (IntKind.i64.wrap (0 - n), none) else some (n, none)) hl hN,
    atoi_loop N r (fun n => bif c == 45 then some (IntKind.i64.wrap (0 - n), none) else some (n, none)) hl' hN']
  unfold fastR
  cases h43 : c == 43 with
  | true =>
    have : c = 43 := by simpa using h43
    subst this
    rw [show sgn ((43 : UInt8) :: r) = (r, false) from rfl]
    simp only [cond_true, show ((43 : UInt8) == 45) = false from rfl, cond_false]
    cases r with
    | nil => rfl
    | cons d r =>
      rw [decide_eq_false (show ¬ ((d :: r).length : Int) < 1 by simp only [List.length_cons]; omega), cond_false]
      rw [show ((d :: r : Str) == []) = false from rfl, cond_false]
      cases List.all (d :: r) dB <;> rfl
  | false =>
    cases h45 : c == 45 with
    | true =>
      have : c = 45 := by simpa using h45
      subst this
      rw [show sgn ((45 : UInt8) :: r) = (r, true) from rfl]
      simp only [cond_true, cond_false]
      cases r with
      | nil => rfl
      | cons d r =>
        rw [decide_eq_false (show ¬ ((d :: r).length : Int) < 1 by simp only [List.length_cons]; omega), cond_false]
        rw [show ((d :: r : Str) == []) = false from rfl, cond_false]
        cases List.all (d :: r) dB <;> rfl
    | false =>
      rw [show sgn (c :: r) = (c :: r, false) by rw [sgn_cons, h43, h45]; rfl]
      simp only [cond_true, cond_false]
      rw [show ((c :: r : Str) == []) = false from rfl, cond_false]
      cases List.all (c :: r) dB <;> rfl
def atoiR (s : Str) : Int × Option Int := bif s == [] then (0, some 2) else bif decide (s.length < 19) then fastR s else piR (sgn s).2 (puR 18446744073709551615 (sgn s).1)
theorem intAtoi_eq (N : Nat) (s : Str) (hl : s.length < 1000000000) (hN : s.length < N) : F_internal_strconv_Atoi N s = some (atoiR s) := by
  unfold atoiR
  by_cases hs : s = []
  · subst hs; rfl
  rw [show (s == []) = false by simpa using hs, cond_false]
  by_cases h : s.length < 19
  · rw [decide_eq_true h, cond_true]; exact fast_eq N s hs h hN
  · rw [decide_eq_false h, cond_false]
    unfold F_internal_strconv_Atoi
    rw [decide_eq_false (show ¬ (s.length : Int) < 19 by omega)]
    simp only [cond_false, pint_eq N s hs hl hN, Option.bind_some, Bool.cond_self]
theorem wrapI (x : Int) : -9223372036854775808 ≤ IntKind.i64.wrap x ∧ IntKind.i64.wrap x < 9223372036854775808 := by
  unfold IntKind.wrap
  simp [IntKind.bits, IntKind.signed]
  omega
theorem vl_lt : ∀ (r : Str) (n i : Nat), (∀ c ∈ r, isD c) → n < 10 ^ i → vl n r < 10 ^ (i + r.length)
  | [], n, i, _, h => h
  | c :: r, n, i, hd, h => by
    rw [vl_cons, show i + (c :: r).length = (i + 1) + r.length by simp; omega]
    refine vl_lt r _ _ (fun d hd' => hd d (List.mem_cons_of_mem _ hd')) ?_
    have h1 := hd c List.mem_cons_self
    have h2 : wd c ≤ 9 := by rw [wd_eq]; have := h1.2; omega
    rw [Nat.pow_succ]; omega
theorem sgn_len (s : Str) : (sgn s).1.length ≤ s.length := by
  cases s with
  | nil => simp [sgn]
  | cons c r =>
    rw [sgn_cons]
    cases c == 43
    · cases c == 45 <;> simp
    · simp
theorem piR_ok (neg : Bool) (r : Int × Option Int) : (-9223372036854775808 ≤ (piR neg r).1 ∧ (piR neg r).1 < 9223372036854775808) ∧ ((piR neg r).2 = none ∨ (piR neg r).2 = some 1 ∨ (piR neg r).2 = some 2) := by
  unfold piR
  cases r.2 == some 2
  · cases neg
    · cases decide (9223372036854775808 ≤ r.1)
      · exact ⟨wrapI _, .inl rfl⟩
      · exact ⟨by simp only [cond_true, cond_false]; decide, .inr (.inl rfl)⟩
    · cases decide (9223372036854775808 < r.1)
      · exact ⟨wrapI _, .inl rfl⟩
      · exact ⟨by simp only [cond_true, cond_false]; decide, .inr (.inl rfl)⟩
  · exact ⟨by simp only [cond_true, cond_false]; decide, .inr (.inr rfl)⟩
theorem atoiR_ok (s : Str) : (-9223372036854775808 ≤ (atoiR s).1 ∧ (atoiR s).1 < 9223372036854775808) ∧ ((atoiR s).2 = none ∨ (atoiR s).2 = some 1 ∨ (atoiR s).2 = some 2) := by
  unfold atoiR
  cases s == []
  · by_cases h : s.length < 19
    · rw [decide_eq_true h]
      unfold fastR
      simp only [cond_true, cond_false]
      cases (sgn s).1 == []
      · cases ha : (sgn s).1.all dB
        · exact ⟨by simp only [cond_true, cond_false]; decide, .inr (.inr rfl)⟩
        · cases (sgn s).2
          · refine ⟨?_, .inl rfl⟩
            have h1 := vl_lt (sgn s).1 0 0 ((allD_iff _).1 ha) (by simp)
            have h2 := sgn_len s
            have hp : 10 ^ (0 + (sgn s).1.length) ≤ 10 ^ 18 := Nat.pow_le_pow_right (by omega) (by omega)
            have hp2 : (10 : Nat) ^ 18 = 1000000000000000000 := by decide
            rw [hp2] at hp
            simp only [cond_true, cond_false]
            omega
          · exact ⟨wrapI _, .inl rfl⟩
      · exact ⟨by simp only [cond_true, cond_false]; decide, .inr (.inr rfl)⟩
    · rw [decide_eq_false h]
      exact piR_ok _ _
  · exact ⟨by simp only [cond_true, cond_false]; decide, .inr (.inr rfl)⟩
theorem atoi_eq (N : Nat) (s : Str) (hl : s.length < 1000000000) (hN : s.length < N) (b1 b2 : Bool) : F_strconv_Atoi N s [b1] [b2] = some ((atoiR s).1, (atoiR s).2.isSome) := by
  unfold F_strconv_Atoi
  rw [intAtoi_eq N s hl hN, Option.bind_some]
  unfold F_strconv_toError F_strconv_syntaxError F_strconv_rangeError
  rw [clone_eq N s (by omega)]
  rcases (atoiR_ok s).2 with h | h | h <;> rw [h] <;> rfl
theorem atoiR_decI (x : Int) (h : -9223372036854775808 ≤ x) (h' : x < 9223372036854775808) : (atoiR (decI x)).1 = x := by
  have hx : x.natAbs < 18446744073709551616 := by omega
  obtain ⟨f1, f2, f3⟩ := dec_facts x.natAbs hx
  have hne : dec x.natAbs ≠ [] := by
    intro e; rw [e] at f3; exact absurd f3.1 (by simp)
  have hs : sgn (decI x) = (dec x.natAbs, decide (x < 0)) := by
    unfold decI
    cases hn : decide (x < 0) with
    | true => rfl
    | false =>
      rw [cond_false]
      obtain ⟨c, r, e⟩ : ∃ c r, dec x.natAbs = c :: r := by
        cases hd : dec x.natAbs with
        | nil => exact absurd hd hne
        | cons c r => exact ⟨c, r, rfl⟩
      rw [e]
      have hc := f1 c (by rw [e]; exact List.mem_cons_self)
      rw [sgn_cons]
      rw [show (c == 43) = false by
        rw [beq_eq_false_iff_ne]; intro e; subst e; exact absurd hc.1 (by decide),
        show (c == 45) = false by
        rw [beq_eq_false_iff_ne]; intro e; subst e; exact absurd hc.1 (by decide)]
      rfl
  have hne' : decI x ≠ [] := by
    intro e; rw [e] at hs; exact hne (congrArg Prod.fst hs).symm
  unfold atoiR
  rw [show (decI x == []) = false by simpa using hne', cond_false]
  have hab : (x.natAbs : Int) = if x < 0 then -x else x := by split <;> omega
  cases decide ((decI x).length < 19) with
  | true =>
    rw [cond_true, fastR, hs]
    simp only []
    rw [show (dec x.natAbs == []) = false by simpa using hne, (allD_iff _).2 f1, f2]
    simp only [cond_true, cond_false]
    by_cases hn : x < 0
    · rw [decide_eq_true hn, cond_true, IntWalk.i64_in _ (by omega)]; omega
    · rw [decide_eq_false hn, cond_false]; omega
  | false =>
    rw [cond_false, hs, puR_dec _ _ (by omega) hx]
    unfold piR
    simp only [show ((none : Option Int) == some 2) = false from rfl, cond_false]
    by_cases hn : x < 0
    · rw [decide_eq_true hn, cond_true, decide_eq_false (by omega), cond_false]
      by_cases hm : x = -9223372036854775808
      · subst hm; decide +kernel
      · simp only []
        rw [IntWalk.i64_in ((x.natAbs : Nat) : Int) (by omega), IntWalk.i64_in _ (by omega)]; omega
    · rw [decide_eq_false hn, cond_false, decide_eq_false (by omega), cond_false]
      simp only []
      rw [IntWalk.i64_in _ (by omega)]; omega
end Go.Proofs.Xw
set_option linter.unusedVariables false
set_option linter.unusedSimpArgs false
set_option maxRecDepth 100000
set_option maxHeartbeats 4000000
namespace Go.Proofs.Xw
open Go Go.Xl Go.Ab Go.Proofs Go.Proofs.Xr Go.Proofs.Xs Go.Proofs.Xv
theorem txt0 : ([] : Str).length < 9223372036854775808 := by decide
theorem z64 : (-9223372036854775808 : Int) ≤ 0 ∧ (0 : Int) < 9223372036854775808 := by decide
def kindG : List Str → Nat → Str → UInt8
  | [], _, _ => 0
  | x :: r, k, w => bif x == w then toU8 (IntKind.u8.wrap (k : Int)) else kindG r (k + 1) w
def kindP (w : Str) : UInt8 := kindG K20 0 w
theorem kind_word (k : UInt8) : (decide (0 < k) && decide (k ≤ 19)) = true → kindP (word k) = k :=
  u8_all (p := fun k => (decide (0 < k) && decide (k ≤ 19)) = true → kindP (word k) = k) (by decide +kernel) k
theorem kind_eq (N : Nat) (w : Str) (hN : 30 < N) : F_words_kind N w K20 = some (kindP w) := by
  unfold F_words_kind
  rw [show (((K20 : List Str).length * 1).beq 20) = true from rfl, cond_true]
  refine (scan_eq 20 (fun k => some (kindG (K20.drop k) k w)) 0 ?_ ?_ N (by omega)).trans rfl
  · intro rec k _ hk hr
    have hk' : k < (K20 : List Str).length := hk
    simp only [decide_eq_true (show (k : Int) < 20 by omega), cond_true, show ((K20 : List Str).length.beq 20) = true from rfl, at?_nat, List.getElem?_eq_getElem hk', Option.bind_some, i64_succ (show k + 1 < 9223372036854775808 by omega), hr]
    rw [List.drop_eq_getElem_cons hk', kindG]
    cases ((K20 : List Str)[k] == w) <;> rfl
  · intro rec k hk
    simp only [decide_eq_false (show ¬ (k : Int) < 20 by omega), cond_false]
    rw [List.drop_of_length_le (show (K20 : List Str).length ≤ k from hk)]; rfl
theorem u8_back (c : UInt8) : toU8 (IntKind.u8.wrap ((c.toNat : Nat) : Int)) = c :=
  u8_all (p := fun c => toU8 (IntKind.u8.wrap ((c.toNat : Nat) : Int)) = c) (by decide +kernel) c
section
variable (N : Nat) (w : Str) (T U : List Bool) (a : Act)
theorem read_w : F_words_read N 119 w T U a = Option.bind (F_strconv_ParseUint N w 10 8 T U) fun y => bif w == [104, 117, 98] then some ((), (((a.1, 255, a.2.2), ()), ()), (), ()) else some ((), (((a.1, toU8 (IntKind.u8.wrap y.1), a.2.2), ()), ()), (), ()) := rfl
theorem read_c : F_words_read N 99 w T U a = Option.bind (F_strconv_ParseUint N w 10 64 T U) fun y => some ((), (((a.1, a.2.1, y.1, a.2.2.2), ()), ()), (), ()) := rfl
theorem read_f : F_words_read N 102 w T U a = Option.bind (F_strconv_ParseUint N w 10 8 T U) fun y => some ((), (((a.1, a.2.1, a.2.2.1, toU8 (IntKind.u8.wrap y.1), a.2.2.2.2), ()), ()), (), ()) := rfl
theorem read_p : F_words_read N 112 w T U a = Option.bind (F_strconv_Atoi N w T U) fun y => some ((), (((a.1, a.2.1, a.2.2.1, a.2.2.2.1, a.2.2.2.2.1, y.1, a.2.2.2.2.2.2), ()), ()), (), ()) := rfl
theorem read_a : F_words_read N 97 w T U a = Option.bind (F_strconv_Atoi N w T U) fun y => some ((), (((a.1, a.2.1, a.2.2.1, a.2.2.2.1, a.2.2.2.2.1, a.2.2.2.2.2.1, y.1, a.2.2.2.2.2.2.2), ()), ()), (), ()) := rfl
theorem read_m : F_words_read N 109 w T U a = Option.bind (F_strconv_ParseUint N w 10 32 T U) fun y => some ((), (((a.1, a.2.1, a.2.2.1, a.2.2.2.1, a.2.2.2.2.1, a.2.2.2.2.2.1, a.2.2.2.2.2.2.1, IntKind.u32.wrap y.1), ()), ()), (), ()) := rfl
end
theorem actB_0 (k : UInt8) (N : Nat) (hN : 0 < N) : ActB N (k, 0, 0, 0, [], 0, 0, 0) :=
  ⟨⟨0, rfl, by decide⟩, by simpa using hN, txt0, z64, z64, ⟨0, rfl, by decide⟩⟩
theorem ActB.setF {N : Nat} {a b : Act} (ha : ActB N a) (hb : ActB N b) {c : UInt8} (hc : c ∈ LS) : ActB N (setF c b a) := by
  rcases ls_cases hc with rfl | rfl | rfl | rfl | rfl | rfl | rfl
  · exact ⟨ha.cid, ha.txt, ha.txt2, ha.pick, ha.at', ha.mask⟩
  · exact ⟨hb.cid, ha.txt, ha.txt2, ha.pick, ha.at', ha.mask⟩
  · exact ⟨ha.cid, ha.txt, ha.txt2, ha.pick, ha.at', ha.mask⟩
  · exact ⟨ha.cid, hb.txt, hb.txt2, ha.pick, ha.at', ha.mask⟩
  · exact ⟨ha.cid, ha.txt, ha.txt2, hb.pick, ha.at', ha.mask⟩
  · exact ⟨ha.cid, ha.txt, ha.txt2, ha.pick, hb.at', ha.mask⟩
  · exact ⟨ha.cid, ha.txt, ha.txt2, ha.pick, ha.at', hb.mask⟩
theorem actB_cid {N : Nat} {v : Nat} (hN : 0 < N) (hv : v < 18446744073709551616) : ActB N (0, 0, (v : Int), 0, [], 0, 0, 0) :=
  ⟨⟨v, rfl, hv⟩, by simpa using hN, txt0, z64, z64, ⟨0, rfl, by decide⟩⟩
theorem actB_pick {N : Nat} {v : Int} (hN : 0 < N) (hv : -9223372036854775808 ≤ v ∧ v < 9223372036854775808) : ActB N (0, 0, 0, 0, [], v, 0, 0) :=
  ⟨⟨0, rfl, by decide⟩, by simpa using hN, txt0, hv, z64, ⟨0, rfl, by decide⟩⟩
theorem actB_at {N : Nat} {v : Int} (hN : 0 < N) (hv : -9223372036854775808 ≤ v ∧ v < 9223372036854775808) : ActB N (0, 0, 0, 0, [], 0, v, 0) :=
  ⟨⟨0, rfl, by decide⟩, by simpa using hN, txt0, z64, hv, ⟨0, rfl, by decide⟩⟩
theorem actB_mask {N : Nat} {v : Nat} (hN : 0 < N) (hv : v < 4294967296) : ActB N (0, 0, 0, 0, [], 0, 0, (v : Int)) :=
  ⟨⟨0, rfl, by decide⟩, by simpa using hN, txt0, z64, z64, ⟨v, rfl, hv⟩⟩
theorem read_tot (N : Nat) (w : Str) (a : Act) (c : UInt8) (hc : c ∈ LS) (ht : c ≠ 116) (hl : w.length ≤ 1000000) (hN : 1000000 < N) (b1 b2 : Bool) :
    ∃ b, F_words_read N ((c.toNat : Nat) : Int) w [b1] [b2] a = some ((), (((setF c b a, ()), ()), (), ())) ∧ ActB N b := by
  have h0 : 0 < N := by omega
  rcases ls_cases hc with rfl | rfl | rfl | rfl | rfl | rfl | rfl
  · show ∃ b, F_words_read N 119 w [b1] [b2] a = _ ∧ _
    rw [read_w, parse8 N w (by omega) (by omega), Option.bind_some]
    cases w == [104, 117, 98]
    · exact ⟨(0, toU8 (IntKind.u8.wrap (puR 255 w).1), 0, 0, [], 0, 0, 0), rfl, ⟨⟨0, rfl, by decide⟩, by simpa using h0, txt0, z64, z64, ⟨0, rfl, by decide⟩⟩⟩
    · exact ⟨(0, 255, 0, 0, [], 0, 0, 0), rfl, ⟨⟨0, rfl, by decide⟩, by simpa using h0, txt0, z64, z64, ⟨0, rfl, by decide⟩⟩⟩
  · show ∃ b, F_words_read N 99 w [b1] [b2] a = _ ∧ _
    rw [read_c, parse64 N w (by omega) (by omega), Option.bind_some]
    obtain ⟨v, e, hv⟩ := puR_le 18446744073709551615 w
    exact ⟨(0, 0, (puR 18446744073709551615 w).1, 0, [], 0, 0, 0), rfl, by rw [e]; exact actB_cid h0 (by omega)⟩
  · show ∃ b, F_words_read N 102 w [b1] [b2] a = _ ∧ _
    rw [read_f, parse8 N w (by omega) (by omega), Option.bind_some]
    exact ⟨(0, 0, 0, toU8 (IntKind.u8.wrap (puR 255 w).1), [], 0, 0, 0), rfl, ⟨⟨0, rfl, by decide⟩, by simpa using h0, txt0, z64, z64, ⟨0, rfl, by decide⟩⟩⟩
  · exact absurd rfl ht
  · show ∃ b, F_words_read N 112 w [b1] [b2] a = _ ∧ _
    rw [read_p, atoi_eq N w (by omega) (by omega), Option.bind_some]
    exact ⟨(0, 0, 0, 0, [], (atoiR w).1, 0, 0), rfl, actB_pick h0 (atoiR_ok w).1⟩
  · show ∃ b, F_words_read N 97 w [b1] [b2] a = _ ∧ _
    rw [read_a, atoi_eq N w (by omega) (by omega), Option.bind_some]
    exact ⟨(0, 0, 0, 0, [], 0, (atoiR w).1, 0), rfl, actB_at h0 (atoiR_ok w).1⟩
  · show ∃ b, F_words_read N 109 w [b1] [b2] a = _ ∧ _
    rw [read_m, parse32 N w (by omega) (by omega), Option.bind_some]
    obtain ⟨v, e, hv⟩ := puR_le 4294967295 w
    refine ⟨(0, 0, 0, 0, [], 0, 0, (v : Int)), ?_, actB_mask h0 (by omega)⟩
    rw [e, IntWalk.u32_in _ (by omega)]; rfl
theorem dec_hub (x : Nat) (hx : x < 18446744073709551616) : (dec x == [104, 117, 98]) = false := by
  rw [beq_eq_false_iff_ne]
  intro e
  have := (dec_ne x hx 104 (by rw [e]; exact List.mem_cons_self)).2
  exact absurd this (by decide)
theorem read_shF (N : Nat) (a b : Act) (hb : ActB N b) (c : UInt8) (hc : c ∈ LS) (ht : c ≠ 116) (hN : 1000000 < N) (b1 b2 : Bool) :
    F_words_read N ((c.toNat : Nat) : Int) (shF b c) [b1] [b2] a = some ((), (((setF c b a, ()), ()), (), ())) := by
  obtain ⟨n, hn, hn2⟩ := hb.cid
  obtain ⟨m, hm, hm2⟩ := hb.mask
  have dl : ∀ x, x < 18446744073709551616 → (dec x).length ≤ 20 := dec_len
  rcases ls_cases hc with rfl | rfl | rfl | rfl | rfl | rfl | rfl
  · show F_words_read N 119 (bif b.2.1 == 255 then [104, 117, 98] else dec b.2.1.toNat) [b1] [b2] a = _
    have hw : b.2.1.toNat < 256 := b.2.1.toNat_lt
    cases h : b.2.1 == 255
    · rw [cond_false, read_w, parse8 N _ (by have := dl b.2.1.toNat (by omega); omega) (by have := dl b.2.1.toNat (by omega); omega), Option.bind_some, dec_hub _ (by omega), cond_false, puR_dec 255 _ (by omega) (by omega)]
      simp only [u8_back]; rfl
    · rw [cond_true, read_w, parse8 N _ (by decide) (by simp; omega), Option.bind_some]
      rw [show ([104, 117, 98] == ([104, 117, 98] : Str)) = true from rfl, cond_true]
      have : b.2.1 = 255 := by simpa using h
      show some ((), (((a.1, 255, a.2.2), ()), ()), (), ()) = some ((), (((a.1, b.2.1, a.2.2), ()), ()), (), ())
      rw [this]
  · show F_words_read N 99 (dec b.2.2.1.toNat) [b1] [b2] a = _
    have e : b.2.2.1.toNat = n := by rw [hn]; rfl
    rw [e, read_c, parse64 N _ (by have := dl n hn2; omega) (by have := dl n hn2; omega), Option.bind_some, puR_dec _ _ (by omega) hn2, ← hn]
    rfl
  · show F_words_read N 102 (dec b.2.2.2.1.toNat) [b1] [b2] a = _
    have hw : b.2.2.2.1.toNat < 256 := b.2.2.2.1.toNat_lt
    rw [read_f, parse8 N _ (by have := dl b.2.2.2.1.toNat (by omega); omega) (by have := dl b.2.2.2.1.toNat (by omega); omega), Option.bind_some, puR_dec 255 _ (by omega) (by omega)]
    simp only [u8_back]; rfl
  · exact absurd rfl ht
  · show F_words_read N 112 (decI b.2.2.2.2.2.1) [b1] [b2] a = _
    have := decI_len _ hb.pick.1 hb.pick.2
    rw [read_p, atoi_eq N _ (by omega) (by omega), Option.bind_some, atoiR_decI _ hb.pick.1 hb.pick.2]; rfl
  · show F_words_read N 97 (decI b.2.2.2.2.2.2.1) [b1] [b2] a = _
    have := decI_len _ hb.at'.1 hb.at'.2
    rw [read_a, atoi_eq N _ (by omega) (by omega), Option.bind_some, atoiR_decI _ hb.at'.1 hb.at'.2]; rfl
  · show F_words_read N 109 (dec b.2.2.2.2.2.2.2.toNat) [b1] [b2] a = _
    have e : b.2.2.2.2.2.2.2.toNat = m := by rw [hm]; rfl
    rw [e, read_m, parse32 N _ (by have := dl m (by omega); omega) (by have := dl m (by omega); omega), Option.bind_some, puR_dec _ _ (by omega) (by omega)]
    simp only []
    rw [IntWalk.u32_in _ (by omega), ← hm]; rfl
theorem cut_tot (N : Nat) (x : Str) (hl : x.length ≤ 1000000) : ∃ h t b, F_strings_Cut N x [32] = some (h, t, b) ∧ h.length ≤ x.length ∧ t.length ≤ x.length := by
  rcases split_at 32 x with h | ⟨h, t, rfl, hn⟩
  · exact ⟨x, [], false, cut32_none N h, Nat.le_refl _, by simp⟩
  · exact ⟨h, t, true, cut32_some N hn (by omega), by rw [List.length_append]; omega, by rw [List.length_append, List.length_cons]; omega⟩
def trim32 (e : Str) : Str := match e with | [] => [] | c :: r => bif c == 32 then r else c :: r
theorem trim32_eq (N : Nat) (e : Str) (he : e.length ≤ 1000000) : F_strings_TrimPrefix N e [32] = some (trim32 e) := by
  unfold F_strings_TrimPrefix F_internal_stringslite_TrimPrefix trim32
  cases e with
  | nil => 
    rw [hasPre_none N [32] [] (by intro h; obtain ⟨t, ht⟩ := h; cases ht), Option.bind_some]; rfl
  | cons c r =>
    by_cases h : c = 32
    · subst h
      have := hasPre N [32] r (by simp at he ⊢; omega)
      rw [show ((32 :: r : Str)) = [32] ++ r from rfl, this, Option.bind_some, cond_true]
      rw [show cutOk (((([32] : Str).length : Nat) : Int)) ((([32] ++ r : Str).length : Nat) : Int) ([32] ++ r : Str).length = true by simp [cutOk]; omega, cond_true]
      rfl
    · rw [hasPre_none N [32] (c :: r) (by intro hp; obtain ⟨t, ht⟩ := hp; exact h (List.cons.inj ht).1.symm), Option.bind_some, cond_false]
      show some (c :: r) = some (bif c == 32 then r else c :: r)
      rw [show (c == 32) = false by simpa using h]; rfl
theorem trim32_len (e : Str) : (trim32 e).length ≤ e.length := by
  cases e with
  | nil => simp [trim32]
  | cons c r =>
    show (bif c == 32 then r else c :: r).length ≤ _
    cases c == 32
    · exact Nat.le_refl _
    · rw [cond_true, List.length_cons]; omega
theorem unq_false : ∀ (n : Nat) (r out : Str), r.length ≤ n → (unq r out).2.2 = false → unq r out = fail
  | n, [], out, _, h => by simp [unq]
  | 0, c :: r, out, hn, h => by simp at hn
  | n + 1, c :: r, out, hn, h => by
    simp only [List.length_cons] at hn
    rw [unq_cons] at h ⊢
    by_cases h34 : c = 34
    · rw [if_pos h34] at h ⊢
      by_cases ht : textOk out = true
      · rw [if_pos ht] at h; cases h
      · rw [if_neg ht]
    · rw [if_neg h34] at h ⊢
      by_cases h92 : c = 92
      · rw [if_pos h92] at h ⊢
        cases r with
        | nil => rfl
        | cons d r' =>
          simp only at h ⊢
          by_cases hm : mk d = true
          · rw [if_pos hm] at h ⊢
            simp only [List.length_cons] at hn
            exact unq_false n r' _ (by omega) h
          · rw [if_neg hm]
      · rw [if_neg h92] at h ⊢
        exact unq_false n r _ (by omega) h
theorem unqT_false {l t r : Str} (h : unqT l = (t, r, false)) : unqT l = ([], [], false) := by
  cases l with
  | nil => rfl
  | cons c s =>
    simp only [unqT] at h ⊢
    by_cases hc : c = 34
    · rw [if_pos hc] at h ⊢
      exact unq_false s.length s [] (Nat.le_refl _) (by rw [h])
    · rw [if_neg hc]; rfl
theorem unqT_len (l : Str) : (unqT l).1.length ≤ l.length ∧ (unqT l).2.1.length ≤ l.length := by
  rcases h : unqT l with ⟨t, r, b⟩
  cases b with
  | true =>
    obtain ⟨h1, h2⟩ := unqT_back h
    refine ⟨h2, ?_⟩
    have := congrArg List.length h1
    simp at this ⊢; omega
  | false =>
    have e := unqT_false h
    rw [h] at e; cases e; simp
theorem shown_eq (N : Nat) (a : Act) (h : ActB N a) (ht : a.2.2.2.2.1.length ≤ 10000) (c : UInt8) (hc : c ∈ LS) (hN : 1000000000 < N) : F_words_shown N a ((c.toNat : Nat) : Int) tab0 = some (shF a c) := by
  obtain ⟨n, hn, hn2⟩ := h.cid
  obtain ⟨m, hm, hm2⟩ := h.mask
  rcases ls_cases hc with rfl | rfl | rfl | rfl | rfl | rfl | rfl
  · show (bif a.2.1 == 255 then some [104, 117, 98] else Option.bind (F_strconv_FormatUint N ((a.2.1.toNat : Nat) : Int) 10 tab0) fun y => some y) = some (bif a.2.1 == 255 then [104, 117, 98] else dec a.2.1.toNat)
    rw [format_eq N _ (by have := a.2.1.toNat_lt; omega) (by omega)]
    cases a.2.1 == 255 <;> rfl
  · show (Option.bind (F_strconv_FormatUint N a.2.2.1 10 tab0) fun y => some y) = some (dec a.2.2.1.toNat)
    rw [hn, format_eq N _ hn2 (by omega)]; rfl
  · show (Option.bind (F_strconv_FormatUint N ((a.2.2.2.1.toNat : Nat) : Int) 10 tab0) fun y => some y) = some (dec a.2.2.2.1.toNat)
    rw [format_eq N _ (by have := a.2.2.2.1.toNat_lt; omega) (by omega)]; rfl
  · show (Option.bind (F_field_Quote N a.2.2.2.2.1) fun y => some y) = some (quo a.2.2.2.2.1)
    rw [quote_eq N _ (by omega) hN]; rfl
  · show (Option.bind (F_strconv_Itoa N a.2.2.2.2.2.1 tab0) fun y => some y) = some (decI a.2.2.2.2.2.1)
    rw [itoa_eq N _ h.pick.1 h.pick.2 (by omega)]; rfl
  · show (Option.bind (F_strconv_Itoa N a.2.2.2.2.2.2.1 tab0) fun y => some y) = some (decI a.2.2.2.2.2.2.1)
    rw [itoa_eq N _ h.at'.1 h.at'.2 (by omega)]; rfl
  · show (Option.bind (F_strconv_FormatUint N (IntKind.u64.wrap a.2.2.2.2.2.2.2) 10 tab0) fun y => some y) = some (dec a.2.2.2.2.2.2.2.toNat)
    rw [hm, IntWalk.u64_in _ (by omega), format_eq N _ (by omega) (by omega)]; rfl
theorem print_eq (N : Nat) (a : Act) (h : ActB N a) (hN : 1000000000 < N) : F_words_Print N a K20 tab0 = some (printA a) := by
  unfold F_words_Print printA
  rw [good_eq N a h (by omega), Option.bind_some]
  cases hg : goodA a with
  | false => rfl
  | true =>
    obtain ⟨hk, ht⟩ := good_facts hg
    have hl := textOk_len ht
    rw [Bool.not_true, cond_false, show ((K20 : List Str).length.ble 20) = true from rfl, cond_true, word_get a.1 hk, Option.bind_some, fields_eq, Option.bind_some, flds_good hk, cond_true]
    refine print_loop N (nmd a.1) (shF a) (fun i => F_words_shown N a i tab0) 20002 (fun c hc => ⟨ls_ascii (nmd_ls _ c hc), shown_eq N a h (by omega) c (nmd_ls _ c hc) hN, shF_len h (nmd_ls _ c hc) (by omega)⟩) ?_ ?_ (word a.1) ?_
    · have := nmd_len a.1
      have h2 : ((nmd a.1).length + 1) * (20002 + 1) ≤ 5 * (20002 + 1) := Nat.mul_le_mul_right _ (by omega)
      omega
    · have := nmd_len a.1; omega
    · have := word_len a.1; omega
theorem printA_len {N : Nat} {a : Act} (h : ActB N a) : (printA a).length ≤ 700 := by
  unfold printA
  cases hg : goodA a with
  | false => simp
  | true =>
    obtain ⟨hk, ht⟩ := good_facts hg
    have hl := textOk_len ht
    have h1 := word_len a.1
    have h2 := nmd_len a.1
    have h3 : ∀ c ∈ nmd a.1, (shF a c).length ≤ 122 := by
      intro c hc
      obtain ⟨n, hn, hn2⟩ := h.cid
      obtain ⟨m, hm, hm2⟩ := h.mask
      rcases ls_cases (nmd_ls _ c hc) with rfl | rfl | rfl | rfl | rfl | rfl | rfl
      · show (bif a.2.1 == 255 then [104, 117, 98] else dec a.2.1.toNat).length ≤ 122
        cases a.2.1 == 255
        · have := dec_len a.2.1.toNat (by have := a.2.1.toNat_lt; omega)
          simp only [cond_false]; omega
        · rw [cond_true]; decide
      · have := dec_len a.2.2.1.toNat (by rw [hn]; omega)
        show (dec a.2.2.1.toNat).length ≤ 122; omega
      · have := dec_len a.2.2.2.1.toNat (by have := a.2.2.2.1.toNat_lt; omega)
        show (dec a.2.2.2.1.toNat).length ≤ 122; omega
      · have := qs_len a.2.2.2.2.1
        show (quo a.2.2.2.2.1).length ≤ 122
        simp [quo]; omega
      · have := decI_len _ h.pick.1 h.pick.2
        show (decI a.2.2.2.2.2.1).length ≤ 122; omega
      · have := decI_len _ h.at'.1 h.at'.2
        show (decI a.2.2.2.2.2.2.1).length ≤ 122; omega
      · have := dec_len a.2.2.2.2.2.2.2.toNat (by rw [hm]; omega)
        show (dec a.2.2.2.2.2.2.2.toNat).length ≤ 122; omega
    have h4 : ∀ L : Str, (∀ c ∈ L, (shF a c).length ≤ 122) → (L.flatMap fun c => 32 :: shF a c).length ≤ L.length * 123 := by
      intro L
      induction L with
      | nil => intro _; simp
      | cons c L ih =>
        intro hL
        have i1 := ih fun d hd => hL d (List.mem_cons_of_mem _ hd)
        have i2 := hL c List.mem_cons_self
        simp only [List.flatMap_cons, List.length_append, List.length_cons]
        omega
    have h5 := h4 _ h3
    rw [cond_true, List.length_append]
    omega
abbrev Pz := (List UInt8 × Unit) × ((Act × Unit) × Unit) × Unit × (List UInt8 × Nat) × Unit
noncomputable def pBody {R : Type} (N : Nat) (T U : List Bool) (fin : Act → Option R) (rec : Pz → Option R) (z : Pz) : Option R :=
  bif z.snd.snd.snd.fst.snd.blt z.snd.snd.snd.fst.fst.length then
    bif (↑(Utf8.decode { data := z.snd.snd.snd.fst.fst.toArray } z.snd.snd.snd.fst.snd).fst : Int) == 116 then
      Option.bind (F_field_Unquote N z.fst.fst) fun (y : List UInt8 × List UInt8 × Bool) =>
        Option.bind (F_strings_TrimPrefix N y.snd.fst [32]) fun (y_3 : List UInt8) =>
          rec ((y_3, ()), (((z.snd.fst.fst.fst.fst, z.snd.fst.fst.fst.snd.fst, z.snd.fst.fst.fst.snd.snd.fst, z.snd.fst.fst.fst.snd.snd.snd.fst, y.fst, z.snd.fst.fst.fst.snd.snd.snd.snd.snd), ()), ()), (),
            (z.snd.snd.snd.fst.fst, z.snd.snd.snd.fst.snd + (Utf8.decode { data := z.snd.snd.snd.fst.fst.toArray } z.snd.snd.snd.fst.snd).snd), ())
    else
      Option.bind (F_strings_Cut N z.fst.fst [32]) fun (y : List UInt8 × List UInt8 × Bool) =>
        Option.bind (F_words_read N (↑(Utf8.decode { data := z.snd.snd.snd.fst.fst.toArray } z.snd.snd.snd.fst.snd).fst : Int) y.fst T U z.snd.fst.fst.fst)
          fun (y_3 : Unit × ((Act × Unit) × Unit) × Unit × Unit) =>
          rec ((y.snd.fst, ()), ((y_3.snd.fst.fst.fst, ()), ()), (), (z.snd.snd.snd.fst.fst, z.snd.snd.snd.fst.snd + (Utf8.decode { data := z.snd.snd.snd.fst.fst.toArray } z.snd.snd.snd.fst.snd).snd), ())
  else fin z.snd.fst.fst.fst
theorem u8_116 {c : UInt8} (hc : c ∈ LS) : (((c.toNat : Nat) : Int) == 116) = (c == 116) := by
  rcases ls_cases hc with rfl | rfl | rfl | rfl | rfl | rfl | rfl <;> rfl
theorem pBody_step {R : Type} (N : Nat) (T U : List Bool) (fin : Act → Option R) (rec : Pz → Option R) (rest : Str) (a : Act) (L : Str) (k : Nat) (hk : k < L.length) (hL : ∀ c ∈ L, c ∈ LS) :
    pBody N T U fin rec ((rest, ()), ((a, ()), ()), (), (L, k), ()) = bif L[k] == 116 then Option.bind (F_field_Unquote N rest) fun y => Option.bind (F_strings_TrimPrefix N y.2.1 [32]) fun r => rec ((r, ()), ((setF 116 (0, 0, 0, 0, y.1, 0, 0, 0) a, ()), ()), (), (L, k + 1), ())
      else Option.bind (F_strings_Cut N rest [32]) fun y => Option.bind (F_words_read N ((L[k].toNat : Nat) : Int) y.1 T U a) fun r => rec ((y.2.1, ()), ((r.2.1.1.1, ()), ()), (), (L, k + 1), ()) := by
  have hm := hL _ (List.getElem_mem hk)
  unfold pBody
  simp only [show (Nat.blt k L.length) = true by rw [Nat.blt_eq]; exact hk, cond_true, decode_at L k hk (ls_ascii hm), u8_116 hm]
  rfl
theorem parse_tot {R : Type} (N : Nat) (b1 b2 : Bool) (fin : Act → Option R) (L : Str) (hL : ∀ c ∈ L, c ∈ LS) (hN : 1000000000 < N) : ∀ (m k : Nat) (rest : Str) (a : Act) (M : Nat), k + m = L.length → m < M → rest.length ≤ 100000 → ActB N a →
    ∃ a', iter (pBody N [b1] [b2] fin) M ((rest, ()), ((a, ()), ()), (), (L, k), ()) = fin a' ∧ ActB N a' ∧ a'.1 = a.1 := by
  intro m
  induction m with
  | zero =>
    intro k rest a M hk hM hr ha
    obtain ⟨M, rfl⟩ : ∃ n, M = n + 1 := ⟨M - 1, by omega⟩
    have : k = L.length := by omega
    subst this
    refine ⟨a, ?_, ha, rfl⟩
    rw [iter]
    unfold pBody
    simp only [blt_self L.length, cond_false]
  | succ m ih =>
    intro k rest a M hk hM hr ha
    obtain ⟨M, rfl⟩ : ∃ n, M = n + 1 := ⟨M - 1, by omega⟩
    have hkl : k < L.length := by omega
    have hm := hL _ (List.getElem_mem hkl)
    rw [iter, pBody_step N _ _ fin _ rest a L k hkl hL]
    cases ht : L[k] == 116 with
    | true =>
      have hu := unqT_len rest
      rw [cond_true, unquote_eq N rest (by omega) hN, Option.bind_some, trim32_eq N _ (by omega), Option.bind_some]
      have h2 := trim32_len (unqT rest).2.1
      have hb : ActB N (0, 0, 0, 0, (unqT rest).1, 0, 0, 0) := ⟨⟨0, rfl, by decide⟩, by show (unqT rest).1.length < N; omega, by show (unqT rest).1.length < _; omega, z64, z64, ⟨0, rfl, by decide⟩⟩
      obtain ⟨a', e1, e2, e3⟩ := ih (k + 1) (trim32 (unqT rest).2.1) (setF 116 (0, 0, 0, 0, (unqT rest).1, 0, 0, 0) a) M (by omega) (by omega) (by omega) (ha.setF hb (by decide))
      exact ⟨a', e1, e2, by rw [e3, setF_kind]⟩
    | false =>
      obtain ⟨h, t, b, e, l1, l2⟩ := cut_tot N rest (by omega)
      obtain ⟨c, e', hb⟩ := read_tot N h a L[k] hm (by simpa using ht) (by omega) (by omega) b1 b2
      rw [cond_false, e, Option.bind_some]
      simp only [e', Option.bind_some]
      obtain ⟨a', e1, e2, e3⟩ := ih (k + 1) t (setF L[k] c a) M (by omega) (by omega) (by omega) (ha.setF hb hm)
      exact ⟨a', e1, e2, by rw [e3, setF_kind]⟩
theorem parse_ok {R : Type} (N : Nat) (b1 b2 : Bool) (fin : Act → Option R) (L : Str) (hL : ∀ c ∈ L, c ∈ LS) (b : Act) (hb : ActB N b) (ht : textOk b.2.2.2.2.1 = true) (hN : 1000000000 < N) : ∀ (m k : Nat) (a : Act) (M : Nat), k + m = L.length → m < M → (rj b (L.drop k)).length ≤ 100000 →
    iter (pBody N [b1] [b2] fin) M ((rj b (L.drop k), ()), ((a, ()), ()), (), (L, k), ()) = fin ((L.drop k).foldl (fun a c => setF c b a) a) := by
  intro m
  induction m with
  | zero =>
    intro k a M hk hM hr
    obtain ⟨M, rfl⟩ : ∃ n, M = n + 1 := ⟨M - 1, by omega⟩
    have : k = L.length := by omega
    subst this
    rw [iter]
    unfold pBody
    simp only [blt_self L.length, cond_false, List.drop_length, List.foldl_nil]
  | succ m ih =>
    intro k a M hk hM hr
    obtain ⟨M, rfl⟩ : ∃ n, M = n + 1 := ⟨M - 1, by omega⟩
    have hkl : k < L.length := by omega
    have hm := hL _ (List.getElem_mem hkl)
    have hd : L.drop k = L[k] :: L.drop (k + 1) := List.drop_eq_getElem_cons hkl
    rw [iter, pBody_step N _ _ fin _ _ a L k hkl hL]
    rw [hd, rj_cons] at hr
    have hr' : (rj b (L.drop (k + 1))).length ≤ 100000 := by
      rcases fm_rj b (L.drop (k + 1)) with ⟨h1, h2⟩ | h1
      · rw [h2]; simp
      · rw [h1] at hr; simp at hr; omega
    rw [hd, rj_cons, List.foldl_cons]
    cases ht' : L[k] == 116 with
    | true =>
      have e116 : L[k] = 116 := by simpa using ht'
      rw [cond_true, e116]
      rw [show shF b 116 = quo b.2.2.2.2.1 from rfl] at *
      rw [e116] at hr
      rw [unquote_eq N _ (by rw [show shF b 116 = quo b.2.2.2.2.1 from rfl] at hr; omega) hN, Option.bind_some, unqT_quo, if_pos ht]
      simp only []
      rw [trim32_eq N _ (by rw [List.length_append] at hr; omega), Option.bind_some]
      have e3 : trim32 ((L.drop (k + 1)).flatMap fun c => 32 :: shF b c) = rj b (L.drop (k + 1)) := by
        rcases fm_rj b (L.drop (k + 1)) with ⟨h1, h2⟩ | h1
        · rw [h1, h2]; rfl
        · rw [h1]; rfl
      rw [e3]
      exact ih (k + 1) _ M (by omega) (by omega) hr'
    | false =>
      have hne : L[k] ≠ 116 := by simpa using ht'
      have hn := no32 hb hm hne
      have ec : ∃ q, F_strings_Cut N (shF b L[k] ++ (L.drop (k + 1)).flatMap fun c => 32 :: shF b c) [32] = some (shF b L[k], rj b (L.drop (k + 1)), q) := by
        rcases fm_rj b (L.drop (k + 1)) with ⟨h1, h2⟩ | h1
        · rw [h1, h2, List.append_nil]; exact ⟨_, cut32_none N hn⟩
        · rw [h1] at hr ⊢; exact ⟨_, cut32_some N hn (by omega)⟩
      obtain ⟨q, ec⟩ := ec
      rw [cond_false, ec, Option.bind_some]
      simp only [read_shF N a b hb L[k] hm hne (by omega) b1 b2, Option.bind_some]
      exact ih (k + 1) _ M (by omega) (by omega) hr'
abbrev A0 : Act := (0, 0, 0, 0, [], 0, 0, 0)
noncomputable def pFin (N : Nat) (x : Str) (a : Act) : Option (Act × Int) :=
  bif a.1 == 0 then some (A0, 4)
  else Option.bind (F_act_Good N a) fun (y : Bool) =>
    bif !y then some (A0, 4)
    else Option.bind (F_words_Print N a K20 tab0) fun (y : List UInt8) => bif y != x then some (A0, 4) else some (a, 0)
theorem parse_unf (N : Nat) (x : Str) (T U : List Bool) : F_words_Parse N x K20 tab0 T U = Option.bind (F_strings_Cut N x [32]) fun y => Option.bind (F_words_kind N y.1 K20) fun k => Option.bind (F_words_fields N k) fun L =>
    iter (pBody N T U (pFin N x)) N ((y.2.1, ()), (((k, 0, 0, 0, [], 0, 0, 0), ()), ()), (), (L, 0), ()) := rfl
theorem pFin_eq (N : Nat) (x : Str) (a : Act) (h : ActB N a) (hN : 1000000000 < N) : pFin N x a = some (bif goodA a then (bif printA a == x then (a, 0) else (A0, 4)) else (A0, 4)) := by
  unfold pFin
  rw [good_eq N a h (by omega), Option.bind_some, print_eq N a h hN, Option.bind_some]
  cases hg : goodA a with
  | false => cases a.1 == 0 <;> rfl
  | true =>
    have hk := (good_facts hg).1
    rw [show (a.1 == 0) = false by
      rw [beq_eq_false_iff_ne]; intro e; rw [e] at hk; exact absurd hk (by decide)]
    rw [bne]
    cases printA a == x <;> rfl
def isP (N : Nat) (s : Str) (r : Act × Int) : Prop := r = (A0, 4) ∨ (r.2 = 0 ∧ goodA r.1 = true ∧ ActB N r.1 ∧ printA r.1 = s)
theorem parse_sound (N : Nat) (s : Str) (b1 b2 : Bool) (hl : s.length ≤ 100000) (hN : 1000000000 < N) : ∃ r, F_words_Parse N s K20 tab0 [b1] [b2] = some r ∧ isP N s r := by
  rw [parse_unf]
  obtain ⟨h, t, b, e, l1, l2⟩ := cut_tot N s (by omega)
  rw [e, Option.bind_some, kind_eq N _ (by omega), Option.bind_some, fields_eq, Option.bind_some]
  obtain ⟨a', e1, e2, e3⟩ := parse_tot N b1 b2 (pFin N s) (flds (kindP h)) (flds_ls _) hN (flds (kindP h)).length 0 t (kindP h, 0, 0, 0, [], 0, 0, 0) N (by omega) (by have := flds_len (kindP h); omega) (by omega) (actB_0 _ N (by omega))
  rw [e1, pFin_eq N s a' e2 hN]
  refine ⟨_, rfl, ?_⟩
  cases hg : goodA a' with
  | false => exact .inl rfl
  | true =>
    cases hp : printA a' == s with
    | false => exact .inl rfl
    | true => exact .inr ⟨rfl, hg, e2, by simpa using hp⟩
theorem parse_complete (N : Nat) (a : Act) (b1 b2 : Bool) (h : ActB N a) (hg : goodA a = true) (hN : 1000000000 < N) : F_words_Parse N (printA a) K20 tab0 [b1] [b2] = some (a, 0) := by
  obtain ⟨hk, ht⟩ := good_facts hg
  have hl := printA_len h
  rw [parse_unf]
  have e0 : printA a = word a.1 ++ (nmd a.1).flatMap fun c => 32 :: shF a c := by unfold printA; rw [hg]; rfl
  have ec : ∃ q, F_strings_Cut N (printA a) [32] = some (word a.1, rj a (nmd a.1), q) := by
    rw [e0] at hl ⊢
    rcases fm_rj a (nmd a.1) with ⟨h1, h2⟩ | h1
    · rw [h1, h2, List.append_nil]; exact ⟨_, cut32_none N (word_no32 _)⟩
    · rw [h1] at hl ⊢; exact ⟨_, cut32_some N (word_no32 _) (by omega)⟩
  obtain ⟨q, ec⟩ := ec
  rw [ec, Option.bind_some]
  simp only []
  rw [kind_eq N _ (by omega), Option.bind_some, kind_word a.1 hk, fields_eq, Option.bind_some, flds_good hk]
  have hr : (rj a (nmd a.1)).length ≤ 100000 := by
    rw [e0, List.length_append] at hl
    rcases fm_rj a (nmd a.1) with ⟨h1, h2⟩ | h1
    · rw [h2]; simp
    · rw [h1] at hl; simp at hl; omega
  have := parse_ok N b1 b2 (pFin N (printA a)) (nmd a.1) (nmd_ls _) a h ht hN (nmd a.1).length 0 (a.1, 0, 0, 0, [], 0, 0, 0) N (by omega) (by have := nmd_len a.1; omega) hr
  rw [List.drop_zero] at this
  rw [this, fold_good a hg, pFin_eq N _ a h hN, hg, beq_self_eq_true]; rfl
end Go.Proofs.Xw
set_option linter.unusedVariables false
set_option linter.unusedSimpArgs false
set_option maxRecDepth 100000
set_option maxHeartbeats 4000000
namespace Go.Proofs.Xw
open Go Go.Xl Go.Ab Go.Proofs Go.Proofs.Xr Go.Proofs.Xs Go.Proofs.Xv
abbrev Ln := Str × Bool
end Go.Proofs.Xw
set_option linter.unusedVariables false
set_option linter.unusedSimpArgs false
set_option maxRecDepth 100000
set_option maxHeartbeats 4000000
namespace Go.Proofs.Xw
open Go Go.Xl Go.Ab Go.Proofs Go.Proofs.Xr Go.Proofs.Xs Go.Proofs.Xv
def bh (t : Str) : Prop := ∀ c r, t = c :: r → c = 32
abbrev Zt := Unit × ((Act × Unit) × (Ln × Unit) × Unit) × Unit × Unit
abbrev Z (a : Act) (l : Ln) : Zt := ((), ((a, ()), (l, ()), ()), (), ())
structure Inv (N : Nat) (k0 : UInt8) (P s D : Str) (a : Act) (l : Ln) : Prop where
  act : ActB N a
  kind : a.1 = k0
  len : l.1.length ≤ 9990
  said : l.2 = false → s = P ++ (D.flatMap fun c => bif hb k0 c then 32 :: shF a c else []) ++ l.1
theorem Inv.step {N : Nat} {k0 : UInt8} {P s D : Str} {a : Act} {l : Ln} (I : Inv N k0 P s D a l) {c : UInt8} (hc : c ∈ LS) (hD : ∀ d ∈ D, d ∈ LS ∧ d ≠ c) {R : Type} {i : Int} (hi : F_epitaphref37_Has N a.1 i = some (hb a.1 c))
    {f : Zt → Option R} {body : (Zt → Option R) → Option R} {Q : R → Prop}
    (H : ∃ b l', (∀ k, body k = k (Z (setF c b a) l')) ∧ ActB N b ∧ l'.1.length ≤ l.1.length ∧ (l'.2 = false → l.2 = false ∧ l.1 = 32 :: (shF b c ++ l'.1)))
    (cont : ∀ a' l', Inv N k0 P s (D ++ [c]) a' l' → ∃ r, f (Z a' l') = some r ∧ Q r) :
    ∃ r, joinAt f (fun k => Option.bind (F_epitaphref37_Has N a.1 i) fun (y : Bool) => bif y then body k else k (Z a l)) = some r ∧ Q r := by
  rw [joinAt, hi, Option.bind_some]
  have hk := I.kind
  cases hh : hb a.1 c with
  | false =>
    rw [cond_false]
    refine cont a l ⟨I.act, I.kind, I.len, fun e => ?_⟩
    rw [I.said e, List.flatMap_append, List.flatMap_cons, List.flatMap_nil, ← hk, hh, cond_false]; simp
  | true =>
    obtain ⟨b, l', h1, h2, h3, h4⟩ := H
    rw [cond_true, h1]
    refine cont _ l' ⟨I.act.setF h2 hc, by rw [setF_kind]; exact hk, Nat.le_trans h3 I.len, fun e => ?_⟩
    obtain ⟨e1, e2⟩ := h4 e
    have he : (D.flatMap fun d => bif hb k0 d then 32 :: shF (setF c b a) d else []) = D.flatMap fun d => bif hb k0 d then 32 :: shF a d else [] := by
      have : ∀ L : Str, (∀ d ∈ L, d ∈ LS ∧ d ≠ c) → (L.flatMap fun d => bif hb k0 d then 32 :: shF (setF c b a) d else []) = L.flatMap fun d => bif hb k0 d then 32 :: shF a d else [] := by
        intro L
        induction L with
        | nil => intro _; rfl
        | cons d L ih =>
          intro hL
          rw [List.flatMap_cons, List.flatMap_cons, ih fun x hx => hL x (List.mem_cons_of_mem _ hx)]
          obtain ⟨g1, g2⟩ := hL d List.mem_cons_self
          rw [shF_other hc g1 g2]
      exact this D hD
    rw [I.said e1, List.flatMap_append, List.flatMap_cons, List.flatMap_nil, he, ← hk, hh, cond_true, shF_same hc, e2]
    simp
end Go.Proofs.Xw
set_option linter.unusedVariables false
set_option linter.unusedSimpArgs false
set_option maxRecDepth 100000
set_option maxHeartbeats 4000000
namespace Go.Proofs.Xw
open Go Go.Xl Go.Ab Go.Proofs Go.Proofs.Xr Go.Proofs.Xs Go.Proofs.Xv
noncomputable def pS (N : Nat) (s : Str) : Act × Int := (F_words_Parse N s K20 tab0 [false] [false]).getD (A0, 4)
theorem isP_both {N : Nat} {s : Str} {r q : Act × Int} (h1 : isP N s r) (h2 : isP N s q) (hr : ∀ a, ActB N a → goodA a = true → printA a = s → r = (a, 0)) (hq : ∀ a, ActB N a → goodA a = true → printA a = s → q = (a, 0)) : r = q := by
  rcases h1 with rfl | ⟨e1, e2, e3, e4⟩
  · rcases h2 with rfl | ⟨g1, g2, g3, g4⟩
    · rfl
    · have := hr q.1 g3 g2 g4
      rw [this, hq q.1 g3 g2 g4]
  · rw [hq r.1 e3 e2 e4, hr r.1 e3 e2 e4]
theorem pS_eq (N : Nat) (s : Str) (b1 b2 : Bool) (hl : s.length ≤ 100000) (hN : 1000000000 < N) : F_words_Parse N s K20 tab0 [b1] [b2] = some (pS N s) ∧ isP N s (pS N s) := by
  obtain ⟨r, h1, h2⟩ := parse_sound N s false false hl hN
  obtain ⟨q, g1, g2⟩ := parse_sound N s b1 b2 hl hN
  have e : pS N s = r := by unfold pS; rw [h1]; rfl
  rw [e]
  refine ⟨?_, h2⟩
  rw [g1]
  congr 1
  refine isP_both g2 h2 (fun a h hg hp => ?_) (fun a h hg hp => ?_)
  · have := parse_complete N a b1 b2 h hg hN
    rw [hp, g1] at this
    exact Option.some.inj this
  · have := parse_complete N a false false h hg hN
    rw [hp, h1] at this
    exact Option.some.inj this
theorem pS_print (N : Nat) (a : Act) (h : ActB N a) (hg : goodA a = true) (hN : 1000000000 < N) : pS N (printA a) = (a, 0) := by
  unfold pS
  rw [parse_complete N a false false h hg hN]; rfl
end Go.Proofs.Xw
set_option linter.unusedVariables false
set_option linter.unusedSimpArgs false
set_option maxRecDepth 100000
set_option maxHeartbeats 4000000
namespace Go.Proofs.Xw
open Go Go.Xl Go.Ab Go.Proofs Go.Proofs.Xr Go.Proofs.Xs Go.Proofs.Xv
def lf (ls : List Str) : Str := ls.flatMap fun l => l ++ [10]
theorem lf_cons (l : Str) (ls : List Str) : lf (l :: ls) = l ++ 10 :: lf ls := by simp [lf]
def spl : Str → Str → List Str × Str
  | cur, [] => ([], cur)
  | cur, c :: r => if c = 10 then (cur :: (spl [] r).1, (spl [] r).2) else spl (cur ++ [c]) r
theorem spl_spec : ∀ (x cur : Str), (10 : UInt8) ∉ cur → cur ++ x = lf (spl cur x).1 ++ (spl cur x).2 ∧ (∀ h ∈ (spl cur x).1, (10 : UInt8) ∉ h) ∧ (10 : UInt8) ∉ (spl cur x).2
  | [], cur, hc => by simp [spl, lf]; exact hc
  | c :: r, cur, hc => by
    rw [spl]
    split
    · rename_i e
      subst e
      obtain ⟨h1, h2, h3⟩ := spl_spec r [] (by simp)
      dsimp only
      refine ⟨?_, ?_, h3⟩
      · rw [lf_cons, List.nil_append] at *
        rw [List.append_assoc, List.cons_append, ← h1]
      · intro h hh
        rcases List.mem_cons.1 hh with rfl | hh
        · exact hc
        · exact h2 h hh
    · rename_i e
      obtain ⟨h1, h2, h3⟩ := spl_spec r (cur ++ [c]) (by simp [hc]; exact fun h => e h.symm)
      refine ⟨?_, h2, h3⟩
      rw [← h1]; simp
noncomputable def sl (p : Str → Act × Int) : List Str → Str → List Act → Nat → List Act × Int × Int
  | [], left, acc, n => bif left != [] then ([], (n : Int), 4) else bif decide (1024 < acc.length) then ([], 0, 3) else (acc, 0, 0)
  | h :: ls, left, acc, n => bif (p h).2 != 0 then ([], (n : Int), 4) else sl p ls left (acc ++ [(p h).1]) (n + 1)
theorem lf_len : ∀ (ls : List Str), ls.length ≤ (lf ls).length
  | [] => by simp [lf]
  | l :: ls => by
    have := lf_len ls
    rw [lf_cons]; simp; omega
theorem lf_mem : ∀ (ls : List Str) (h : Str), h ∈ ls → h.length ≤ (lf ls).length
  | l :: ls, h, hm => by
    rw [lf_cons]
    rcases List.mem_cons.1 hm with rfl | hm
    · simp
    · have := lf_mem ls h hm
      simp; omega
theorem script_eq (N : Nat) (b1 b2 : Bool) (ls : List Str) (left : Str) (hls : ∀ h ∈ ls, (10 : UInt8) ∉ h) (hleft : (10 : UInt8) ∉ left) (hl : (lf ls ++ left).length ≤ 100000) (hN : 1000000000 < N) :
    F_words_Script N (lf ls ++ left) K20 tab0 [b1] [b2] = some (sl (pS N) ls left [] 1) := by
  have hp : ∀ s : Str, s.length ≤ 100000 → F_words_Parse N s K20 tab0 [b1] [b2] = some (pS N s) := fun s hs => (pS_eq N s b1 b2 hs hN).1
  unfold F_words_Script
  refine some_of (iter_ok (Q := fun r => r = sl (pS N) ls left [] 1) (fun m z => ∃ (lt : List Str) (acc : List Act) (n : Nat), z = ((lf lt ++ left, acc, (n : Int), ()), (), (), ()) ∧ m = lt.length ∧ (∀ h ∈ lt, (10 : UInt8) ∉ h) ∧ (lf lt ++ left).length ≤ 100000 ∧ acc.length + lt.length ≤ 200000 ∧ n + lt.length ≤ 200000 ∧ sl (pS N) lt left acc n = sl (pS N) ls left [] 1)
    ?_ N ls.length _ ⟨ls, [], 1, rfl, rfl, hls, hl, ?_, ?_, rfl⟩ ?_)
  · rintro m z rec ⟨lt, acc, n, rfl, rfl, h1, h2, h3, h4, h5⟩ ih
    dsimp only
    cases lt with
    | nil =>
      rw [sl] at h5
      rw [show lf [] ++ left = left from rfl] at h2 ⊢
      cases hne : left != [] with
      | false =>
        rw [hne, cond_false] at h5
        rw [cond_false]
        cases hd : decide (1024 < acc.length) with
        | true =>
          rw [hd, cond_true] at h5
          rw [decide_eq_true (show (1024 : Int) < (acc.length : Int) by have := of_decide_eq_true hd; omega), cond_true]
          exact ⟨_, rfl, h5⟩
        | false =>
          rw [hd, cond_false] at h5
          rw [decide_eq_false (show ¬ (1024 : Int) < (acc.length : Int) by have := of_decide_eq_false hd; omega), cond_false]
          exact ⟨_, rfl, h5⟩
      | true =>
        rw [hne, cond_true] at h5
        rw [cond_true, cut10_none N hleft, Option.bind_some, hp left h2, Option.bind_some]
        exact ⟨_, rfl, h5⟩
    | cons h lt =>
      have hlen : (lf (h :: lt) ++ left).length = h.length + 1 + (lf lt ++ left).length := by rw [lf_cons]; simp; omega
      have e0 : lf (h :: lt) ++ left = h ++ 10 :: (lf lt ++ left) := by rw [lf_cons]; simp
      rw [show (lf (h :: lt) ++ left != []) = true by rw [e0]; cases h <;> rfl, cond_true, e0]
      rw [cut10_some N (h1 h List.mem_cons_self) (by rw [← e0]; omega), Option.bind_some]
      dsimp only
      rw [hp h (by omega), Option.bind_some, Bool.not_true, cond_false]
      rw [sl] at h5
      simp only [List.length_cons] at h3 h4
      cases he : (pS N h).2 != 0 with
      | true =>
        rw [he, cond_true] at h5
        exact ⟨_, rfl, h5⟩
      | false =>
        rw [he, cond_false] at h5
        rw [cond_false, show fitsB (acc.length + [(pS N h).1].length) 64 = true from fit (by simp; omega) (by simp; omega), cond_true, i64_succ (by omega)]
        exact ih lt.length _ (by simp) ⟨lt, acc ++ [(pS N h).1], n + 1, rfl, rfl, fun g hg => h1 g (List.mem_cons_of_mem _ hg), by omega, by simp; omega, by omega, h5⟩
  · have := lf_len ls
    rw [List.length_append] at hl
    simp; omega
  · have := lf_len ls
    rw [List.length_append] at hl
    omega
  · have := lf_len ls
    rw [List.length_append] at hl
    omega
theorem script_both (N : Nat) (b1 b2 : Bool) (x : Str) (hl : x.length ≤ 9000) (hN : 1000000000 < N) : F_words_Script N x K20 tab0 [b1] [b2] = some (sl (pS N) (spl [] x).1 (spl [] x).2 [] 1) := by
  obtain ⟨h1, h2, h3⟩ := spl_spec x [] (by simp)
  rw [List.nil_append] at h1
  have := script_eq N b1 b2 (spl [] x).1 (spl [] x).2 h2 h3 (by rw [← h1]; omega) hN
  rw [← h1] at this
  exact this
theorem sl_good (N : Nat) : ∀ (ls : List Str) (left : Str) (acc : List Act) (n : Nat), (∀ h ∈ ls, isP N h (pS N h)) → (sl (pS N) ls left acc n).2.2 = 0 → left = [] ∧ ∃ L : List Act, (sl (pS N) ls left acc n).1 = acc ++ L ∧ L.map printA = ls ∧ (∀ a ∈ L, goodA a = true ∧ ActB N a)
  | [], left, acc, n, _, h => by
    rw [sl] at h ⊢
    cases left with
    | cons c r =>
      rw [show ((c :: r : Str) != []) = true from rfl, cond_true] at h
      exact absurd (show (4 : Int) = 0 from h) (by decide)
    | nil =>
      rw [show (([] : Str) != []) = false from rfl, cond_false] at h ⊢
      cases hd : decide (1024 < acc.length) with
      | true => rw [hd, cond_true] at h; exact absurd h (by decide)
      | false => rw [cond_false]; exact ⟨rfl, [], by simp, rfl, by simp⟩
  | g :: ls, left, acc, n, hp, h => by
    rw [sl] at h ⊢
    cases he : (pS N g).2 != 0 with
    | true => rw [he, cond_true] at h; exact absurd (show (4 : Int) = 0 from h) (by decide)
    | false =>
      rw [he, cond_false] at h
      rw [cond_false]
      obtain ⟨h1, L, h2, h3, h4⟩ := sl_good N ls left _ _ (fun x hx => hp x (List.mem_cons_of_mem _ hx)) h
      rcases hp g List.mem_cons_self with e | ⟨e1, e2, e3, e4⟩
      · rw [e] at he; exact absurd he (by decide)
      · refine ⟨h1, (pS N g).1 :: L, by rw [h2]; simp, by rw [List.map_cons, e4, h3], ?_⟩
        intro a ha
        rcases List.mem_cons.1 ha with rfl | ha
        · exact ⟨e2, e3⟩
        · exact h4 a ha
theorem sl_print (N : Nat) (hN : 1000000000 < N) : ∀ (L : List Act) (acc : List Act) (n : Nat), (∀ a ∈ L, goodA a = true ∧ ActB N a) → acc.length + L.length ≤ 1024 → sl (pS N) (L.map printA) [] acc n = (acc ++ L, 0, 0)
  | [], acc, n, _, h => by
    rw [List.map_nil, sl, show (([] : Str) != []) = false from rfl, cond_false, decide_eq_false (by simp at h; omega), cond_false, List.append_nil]
  | a :: L, acc, n, hp, h => by
    obtain ⟨h1, h2⟩ := hp a List.mem_cons_self
    rw [List.map_cons, sl, pS_print N a h2 h1 hN, show (((a, (0 : Int)) : Act × Int).2 != 0) = false from rfl, cond_false]
    rw [sl_print N hN L _ _ (fun x hx => hp x (List.mem_cons_of_mem _ hx)) (by simp at h ⊢; omega)]
    simp
noncomputable def txt (l : List Act) : Str := lf ((l.filter goodA).map printA)
theorem txt_cons (a : Act) (l : List Act) : txt (a :: l) = (bif goodA a then printA a ++ [10] else []) ++ txt l := by
  unfold txt
  rw [List.filter_cons]
  cases goodA a with
  | true => rw [if_pos rfl, List.map_cons, lf_cons, cond_true]; simp
  | false => rw [if_neg (by decide), cond_false, List.nil_append]
theorem txt_nil : txt [] = [] := rfl
theorem txt_len {N : Nat} : ∀ (l : List Act), (∀ a ∈ l, ActB N a) → (txt l).length ≤ l.length * 701
  | [], _ => by simp [txt_nil]
  | a :: l, h => by
    have i1 := txt_len l fun b hb => h b (List.mem_cons_of_mem _ hb)
    have i2 := printA_len (h a List.mem_cons_self)
    rw [txt_cons, List.length_append, List.length_cons]
    cases goodA a with
    | true => simp only [cond_true, List.length_append, List.length_cons, List.length_nil]; omega
    | false => simp only [cond_false, List.length_nil]; omega
theorem txt_snoc (l : List Act) (a : Act) : txt (l ++ [a]) = txt l ++ (bif goodA a then printA a ++ [10] else []) := by
  induction l with
  | nil => rw [List.nil_append, txt_cons, txt_nil, List.append_nil, List.nil_append]
  | cons b l ih => rw [List.cons_append, txt_cons, ih, txt_cons, List.append_assoc]
theorem printA_no10 {N : Nat} {a : Act} (h : ActB N a) (hg : goodA a = true) : (10 : UInt8) ∉ printA a := by
  obtain ⟨hk, ht⟩ := good_facts hg
  obtain ⟨n, hn, hn2⟩ := h.cid
  obtain ⟨m, hm, hm2⟩ := h.mask
  have hd : ∀ x, x < 18446744073709551616 → (10 : UInt8) ∉ dec x := by
    intro x hx hm
    have := (dec_ne x hx _ hm).1
    exact absurd this (by decide)
  have hi : ∀ x : Int, -9223372036854775808 ≤ x → x < 9223372036854775808 → (10 : UInt8) ∉ decI x := by
    intro x h1 h2 hm
    unfold decI at hm
    cases hx : decide (x < 0) with
    | true =>
      rw [hx, cond_true, List.mem_cons] at hm
      rcases hm with hm | hm
      · exact absurd hm (by decide)
      · exact hd _ (by omega) hm
    | false => rw [hx, cond_false] at hm; exact hd _ (by omega) hm
  have hq : ∀ s : Str, (s.all fun c => !decide (c < 32) && !decide (126 < c)) = true → (10 : UInt8) ∉ qs s := by
    intro s
    induction s with
    | nil => intro _ h; cases h
    | cons c s ih =>
      intro hs
      rw [List.all_cons, Bool.and_eq_true] at hs
      have i := ih hs.2
      have hc : (10 : UInt8) ∉ qs [c] :=
        u8_all (p := fun c => (!decide (c < 32) && !decide (126 < c)) = true → (10 : UInt8) ∉ qs [c]) (by decide +kernel) c hs.1
      rw [show c :: s = [c] ++ s from rfl, qs_app, List.mem_append]
      exact fun h => h.elim hc i
  have hf : ∀ c ∈ LS, (10 : UInt8) ∉ shF a c := by
    intro c hc
    rcases ls_cases hc with rfl | rfl | rfl | rfl | rfl | rfl | rfl
    · show (10 : UInt8) ∉ (bif a.2.1 == 255 then [104, 117, 98] else dec a.2.1.toNat)
      cases a.2.1 == 255
      · exact hd _ (by have := a.2.1.toNat_lt; omega)
      · rw [cond_true]; decide
    · exact hd _ (by rw [hn]; omega)
    · exact hd _ (by have := a.2.2.2.1.toNat_lt; omega)
    · show (10 : UInt8) ∉ quo a.2.2.2.2.1
      simp only [textOk, Bool.and_eq_true] at ht
      have := hq _ ht.2
      simp [quo]; exact this
    · exact hi _ h.pick.1 h.pick.2
    · exact hi _ h.at'.1 h.at'.2
    · exact hd _ (by rw [hm]; omega)
  have hw : (10 : UInt8) ∉ word a.1 := u8_all (p := fun k => (10 : UInt8) ∉ word k) (by decide +kernel) a.1
  unfold printA
  rw [hg, cond_true, List.mem_append]
  rintro (h | h)
  · exact hw h
  · rw [List.mem_flatMap] at h
    obtain ⟨c, hc, h⟩ := h
    rcases List.mem_cons.1 h with h | h
    · exact absurd h (by decide)
    · exact hf c (nmd_ls _ c hc) h
end Go.Proofs.Xw
set_option linter.unusedVariables false
set_option linter.unusedSimpArgs false
set_option maxRecDepth 100000
set_option maxHeartbeats 4000000
namespace Go.Proofs.Xw
open Go Go.Xl Go.Ab Go.Proofs Go.Proofs.Xr Go.Proofs.Xs Go.Proofs.Xv
theorem txt_take {l : List Act} {k : Nat} (hk : k < l.length) : txt (l.take (k + 1)) = txt (l.take k) ++ (bif goodA l[k] then printA l[k] ++ [10] else []) := by
  rw [show l.take (k + 1) = l.take k ++ [l[k]] by rw [List.take_add_one, List.getElem?_eq_getElem hk]; rfl, txt_snoc]
theorem wtext_eq (N : Nat) (l : List Act) (hl : l.length ≤ 100000) (h : ∀ a ∈ l, ActB N a) (hN : 1000000000 < N) : F_words_Text N l K20 tab0 = some (txt l) := by
  unfold F_words_Text
  rw [joinAt]
  refine some_of (iter_ok (Q := fun r => r = txt l) (fun m z => ∃ (k : Nat) (b : Bool), z = (((k : Int), ()), ((b, txt (l.take k), ()), ()), (), ()) ∧ m = l.length - k ∧ k ≤ l.length) ?_ N l.length _ ⟨0, true, rfl, rfl, Nat.zero_le _⟩ (by omega))
  rintro m z rec ⟨k, b, rfl, rfl, hk⟩ ih
  have hb : ∀ k, (txt (l.take k)).length ≤ 80000000 := fun k => by
    have := txt_len (N := N) (l.take k) (fun a ha => h a (List.mem_of_mem_take ha))
    rw [List.length_take] at this
    omega
  dsimp only
  by_cases hlt : k < l.length
  · have ha := h _ (List.getElem_mem hlt)
    rw [decide_eq_true (by omega), cond_true, at?_nat, List.getElem?_eq_getElem hlt, Option.bind_some, good_eq N _ ha (by omega), Option.bind_some]
    have e1 := txt_take hlt
    have hpl := printA_len ha
    have hb1 := hb k
    rw [i64_succ (by omega)]
    cases hg : goodA l[k] with
    | true =>
      rw [hg, cond_true] at e1
      rw [cond_true, print_eq N _ ha hN, Option.bind_some, writeS_eq N _ _ _ (by omega), Option.bind_some]
      dsimp only
      rw [write_eq N _ _ _ (by rw [List.length_append]; omega), Option.bind_some]
      dsimp only
      refine ih (l.length - (k + 1)) _ (by omega) ⟨k + 1, false, ?_, rfl, by omega⟩
      rw [e1, List.append_assoc]
    | false =>
      rw [hg, cond_false, List.append_nil] at e1
      rw [cond_false]
      refine ih (l.length - (k + 1)) _ (by omega) ⟨k + 1, b, ?_, rfl, by omega⟩
      rw [e1]
  · have : k = l.length := by omega
    subst this
    have hb1 := hb l.length
    rw [decide_eq_false (by omega), cond_false, string_eq N _ _ (by omega), Option.bind_some, List.take_length]
    exact ⟨_, rfl, rfl⟩
theorem actEq (a : Act) : (a.fst == a.fst && (a.snd.fst == a.snd.fst && (a.snd.snd.fst == a.snd.snd.fst && (a.snd.snd.snd.fst == a.snd.snd.snd.fst && (a.snd.snd.snd.snd.fst == a.snd.snd.snd.snd.fst && (a.snd.snd.snd.snd.snd.fst == a.snd.snd.snd.snd.snd.fst &&
    (a.snd.snd.snd.snd.snd.snd.fst == a.snd.snd.snd.snd.snd.snd.fst && a.snd.snd.snd.snd.snd.snd.snd == a.snd.snd.snd.snd.snd.snd.snd))))))) = true := by
  simp only [beq_self_eq_true, Bool.and_self]
theorem same_refl (N : Nat) (l : List Act) (h : l.length < N) (h2 : l.length < 9223372036854775807) : F_epitaphref37_Same N l l = some true := by
  unfold F_epitaphref37_Same
  rw [bne_self_eq_false, cond_false]
  refine scan_eq l.length (fun _ => some true) 0 ?_ ?_ N h
  · intro rec k _ hk hr
    simp only [decide_eq_true (show (k : Int) < (l.length : Int) by omega), cond_true, at?_nat, List.getElem?_eq_getElem hk, Option.bind_some, i64_succ (show k + 1 < 9223372036854775808 by omega), hr, cond_false, actEq, Bool.not_true]
  · intro rec k hk
    simp only [decide_eq_false (show ¬ (k : Int) < (l.length : Int) by omega), cond_false]
theorem actB_works1 (N : Nat) (hN : 0 < N) : ActB N (17, 255, 0, 0, [], 3, 0, 1) := ⟨⟨0, rfl, by decide⟩, by simpa using hN, by decide, by decide, by decide, ⟨1, rfl, by decide⟩⟩
theorem actB_works2 (N : Nat) (hN : 0 < N) : ActB N (9, 0, 0, 0, [], -1, 0, 0) := ⟨⟨0, rfl, by decide⟩, by simpa using hN, by decide, by decide, by decide, ⟨0, rfl, by decide⟩⟩
theorem print_works1 : goodA (17, 255, 0, 0, [], 3, 0, 1) = true ∧ printA (17, 255, 0, 0, [], 3, 0, 1) = [99, 114, 97, 115, 104, 32, 104, 117, 98, 32, 51, 32, 49] := by decide +kernel
theorem print_works2 : printA (9, 0, 0, 0, [], -1, 0, 0) = [116, 97, 107, 101, 32, 45, 49] := by decide +kernel
theorem works_true (N : Nat) (b1 b2 : Bool) (hN : 1000000000 < N) : F_epitaphlaw38_works N K20 tab0 [b1] [b2] = some true := by
  unfold F_epitaphlaw38_works
  have := parse_complete N _ b1 b2 (actB_works1 N (by omega)) print_works1.1 hN
  rw [print_works1.2] at this
  rw [this, Option.bind_some, print_eq N _ (actB_works2 N (by omega)) hN, print_works2]
  rfl
theorem spl_len (x : Str) : (spl [] x).1.length ≤ x.length := by
  obtain ⟨h1, h2, h3⟩ := spl_spec x [] (by simp)
  rw [List.nil_append] at h1
  have := lf_len (spl [] x).1
  have h4 := congrArg List.length h1
  rw [List.length_append] at h4
  omega
theorem pS_bad (N : Nat) (a : Act) (hg : goodA a = false) (hN : 1000000000 < N) : pS N (printA a) = (A0, 4) := by
  have e : printA a = [] := by unfold printA; rw [hg]; rfl
  rw [e]
  rcases (pS_eq N [] false false (by simp) hN).2 with h | ⟨h1, h2, h3, h4⟩
  · exact h
  · exfalso
    unfold printA at h4
    rw [h2, cond_true] at h4
    have hk := (good_facts h2).1
    have : word (pS N []).1.1 ≠ [] := by
      revert hk
      exact u8_all (p := fun k => (decide (0 < k) && decide (k ≤ 19)) = true → word k ≠ []) (by decide +kernel) _
    exact this (List.append_eq_nil_iff.1 h4).1
theorem filter_take {l : List Act} {k : Nat} (hk : k < l.length) : (l.take (k + 1)).filter goodA = (l.take k).filter goodA ++ (bif goodA l[k] then [l[k]] else []) := by
  rw [show l.take (k + 1) = l.take k ++ [l[k]] by rw [List.take_add_one, List.getElem?_eq_getElem hk]; rfl, List.filter_append]
  have e : ∀ x : Act, [x].filter goodA = bif goodA x then [x] else [] := fun x => by rw [List.filter_cons]; cases goodA x <;> rfl
  rw [e]
theorem wordsBack_true (N : Nat) (l : List Act) (s : Str) (b1 b2 : Bool) (hN : 1000000000 < N) (h : ∀ a ∈ l, ActB N a) : F_epitaphlaw38_WordsBack N l s K20 tab0 [b1] [b2] = some true := by
  unfold F_epitaphlaw38_WordsBack
  by_cases hl : 60 < l.length
  · rw [decide_eq_true (by omega), cond_true, works_true N b1 b2 hN]; rfl
  rw [decide_eq_false (by omega), cond_false]
  by_cases hs : 2000 < s.length
  · rw [decide_eq_true (by omega), cond_true, works_true N b1 b2 hN]; rfl
  rw [decide_eq_false (by omega), cond_false]
  refine some_of (iter_ok (Q := fun r => r = true) (fun m z => ∃ (k : Nat), z = (((l.take k).filter goodA, (k : Int), ()), (), (), ()) ∧ m = l.length - k ∧ k ≤ l.length) ?_ N l.length _ ⟨0, rfl, rfl, Nat.zero_le _⟩ (by omega))
  rintro m z rec ⟨k, rfl, rfl, hk⟩ ih
  have hb : ∀ k, ((l.take k).filter goodA).length ≤ 60 := fun k => by
    have := List.length_filter_le goodA (l.take k)
    rw [List.length_take] at this
    omega
  dsimp only
  by_cases hlt : k < l.length
  · have ha := h _ (List.getElem_mem hlt)
    have e1 := filter_take hlt
    have hpl := printA_len ha
    have hb1 := hb k
    rw [decide_eq_true (by omega), cond_true, at?_nat, List.getElem?_eq_getElem hlt, Option.bind_some, print_eq N _ ha hN, Option.bind_some, (pS_eq N _ b1 b2 (by omega) hN).1, Option.bind_some, Option.bind_some, refGood_eq N _ ha, Option.bind_some, i64_succ (by omega)]
    cases hg : goodA l[k] with
    | true =>
      rw [hg, cond_true] at e1
      rw [pS_print N _ ha hg hN]
      dsimp only
      rw [show (!(true == ((0 : Int) == 0))) = false from rfl, cond_false, show ((0 : Int) == 0) = true from rfl, cond_true, Option.bind_some, actEq, Bool.not_true, cond_false, cond_true,
        show fitsB (0 + ((l.take k).filter goodA).length) 64 = true from fit (by omega) (by omega), cond_true, Option.bind_some,
        show fitsB (([] ++ (l.take k).filter goodA : List Act).length + [l[k]].length) 64 = true from fit (by simp only [List.nil_append, List.length_cons, List.length_nil]; omega) (by simp only [List.nil_append, List.length_cons, List.length_nil]; omega), cond_true, List.nil_append, ← e1]
      exact ih (l.length - (k + 1)) _ (by omega) ⟨k + 1, rfl, rfl, by omega⟩
    | false =>
      rw [hg, cond_false, List.append_nil] at e1
      rw [pS_bad N _ hg hN]
      dsimp only
      rw [show (!(false == ((4 : Int) == 0))) = false from rfl, cond_false, show ((4 : Int) == 0) = false from rfl, cond_false, cond_false, ← e1]
      exact ih (l.length - (k + 1)) _ (by omega) ⟨k + 1, rfl, rfl, by omega⟩
  · have : k = l.length := by omega
    subst this
    have hb1 := hb l.length
    rw [List.take_length] at hb1
    have hgl : ∀ a ∈ l.filter goodA, goodA a = true ∧ ActB N a := fun a ha => by
      rw [List.mem_filter] at ha
      exact ⟨ha.2, h a ha.1⟩
    have htl := txt_len l h
    rw [decide_eq_false (by omega), cond_false, List.take_length, wtext_eq N l (by omega) h hN, Option.bind_some]
    have e2 : F_words_Script N (txt l) K20 tab0 [b1] [b2] = some (l.filter goodA, 0, 0) := by
      have := script_eq N b1 b2 ((l.filter goodA).map printA) [] (by
        intro x hx
        rw [List.mem_map] at hx
        obtain ⟨a, ha, rfl⟩ := hx
        exact printA_no10 (hgl a ha).2 (hgl a ha).1) (by simp) (by rw [List.append_nil]; show (txt l).length ≤ 100000; omega) hN
      rw [List.append_nil, sl_print N hN _ [] 1 hgl (by simp; omega), List.nil_append] at this
      exact this
    rw [e2, Option.bind_some, script_both N b1 b2 s (by omega) hN, Option.bind_some]
    dsimp only
    rw [show ((0 : Int) == 0) = true from rfl, cond_true, cond_true, same_refl N _ (by omega) (by omega), Option.bind_some, cond_true]
    cases he : (sl (pS N) (spl [] s).1 (spl [] s).2 [] 1).2.2 != 0 with
    | true => rw [cond_true, works_true N b1 b2 hN]; exact ⟨_, rfl, rfl⟩
    | false =>
      rw [cond_false]
      obtain ⟨s1, s2, s3⟩ := spl_spec s [] (by simp)
      rw [List.nil_append] at s1
      have hsl := spl_len s
      have hin : ∀ g ∈ (spl [] s).1, isP N g (pS N g) := fun g hg => by
        have h1 := lf_mem _ _ hg
        have h2 := congrArg List.length s1
        rw [List.length_append] at h2
        exact (pS_eq N g false false (by omega) hN).2
      obtain ⟨g1, L, g2, g3, g4⟩ := sl_good N (spl [] s).1 (spl [] s).2 [] 1 hin (by simpa using he)
      rw [g2, List.nil_append]
      have hLl : L.length ≤ 2000 := by
        have := congrArg List.length g3
        rw [List.length_map] at this
        omega
      rw [wtext_eq N L (by omega) (fun a ha => (g4 a ha).2) hN, Option.bind_some]
      have et : txt L = s := by
        unfold txt
        rw [List.filter_eq_self.2 (fun a ha => (g4 a ha).1), g3]
        rw [g1, List.append_nil] at s1
        exact s1.symm
      rw [et, beq_self_eq_true, cond_true, works_true N b1 b2 hN]
      exact ⟨_, rfl, rfl⟩
theorem wf_i64 {x : Int} (h : (Lit.int .i64 x).wf = true) : -9223372036854775808 ≤ x ∧ x < 9223372036854775808 := by
  have : -9223372036854775808 ≤ x ∧ x ≤ 9223372036854775807 := by simpa [Lit.wf, IntKind.wrap, IntKind.bits, IntKind.signed, IntKind.min, IntKind.max] using h
  omega
theorem wf_u32 {x : Int} (h : (Lit.int .u32 x).wf = true) : ∃ n : Nat, x = (n : Int) ∧ n < 4294967296 := by
  have : 0 ≤ x ∧ x ≤ 4294967295 := by simpa [Lit.wf, IntKind.wrap, IntKind.bits, IntKind.signed, IntKind.min, IntKind.max] using h
  exact ⟨x.toNat, by omega, by omega⟩
theorem in_acts {l : List Act} (h : (Ty.sl tAct).In l) : ∀ a ∈ l, ActB 10000000000000000000 a := by
  intro a ha
  obtain ⟨h1, h2, h3, h4, h5, h6, h7, h8⟩ := h.2 a ha
  have hm : maxLen < 9223372036854775808 := by decide
  have h9 : a.2.2.2.2.1.length ≤ maxLen := h5
  exact ⟨wf_u64 h3, by omega, by omega, wf_i64 h6, wf_i64 h7, wf_u32 h8⟩
end Go.Proofs.Xw
set_option linter.unusedVariables false
set_option linter.unusedSimpArgs false
namespace Go.Xl
open Go.Ab Go.RowKit
def litV : Lit → Value
  | .bool b => .bool b
  | .int k n => .int k n
  | .string s => .string ⟨s.toArray⟩
  | .float k b => .float k b
  | .nil => .nilIface
theorem trod_lit {H : Type} {enc : TypeId × Value → H} {P : Program} {w : World} {base : Nat} {sp : Nat → Bool} {held : Bool} {fuel : Nat} {t : TypeId} {cs : List Value} {l : Lit} {p : List MemPlace}
    (h : DataW.trod enc P w base sp held fuel t cs = some (.lit l, p)) : cs = [litV l] := by
  cases fuel with
  | zero => simp [DataW.trod] at h
  | succ m =>
    unfold DataW.trod at h
    split at h <;> simp_all [litV, Option.map_eq_some_iff, Option.bind_eq_some_iff]
    all_goals first
      | (obtain ⟨_, h, _⟩ := h; subst h; rfl)
      | (obtain ⟨h, _⟩ := h; subst h; rfl)
      | (subst h; rfl)
      | (split at h <;> simp_all [Option.bind_eq_some_iff, Option.map_eq_some_iff] <;> (try (obtain ⟨_, _, _, _, h⟩ := h; split at h <;> simp_all)))
      | skip
theorem laid_cells {H : Type} {enc : TypeId × Value → H} {P : Program} {w : World} {base : Nat} {sp : Nat → Bool} {held : Bool} {fuel : Nat} {t e : TypeId} {n : Nat} {cs : List Value} {ls : List Lit} {p : List MemPlace}
    (ht : P.underlying t = some (.array n e)) (he : P.cellsOf e = 1) (hn : P.cellsOf t = ls.length) (hn' : n = ls.length) (h : DataW.trod enc P w base sp held fuel t cs = some (.agg (ls.map .lit), p)) : cs = ls.map litV := by
  obtain ⟨xs, m, rfl, hx, hl, hxl, hc⟩ := DataW.trod_array ht h
  simp only [Prod.mk.injEq, DataW.agg.injEq] at hx
  apply List.ext_getElem?
  intro i
  by_cases hi : i < ls.length
  · have h1 := hc i (by omega)
    have h2 : (xs.map (·.1))[i]? = (ls.map DataW.lit)[i]? := by rw [← hx.1]
    rw [List.getElem?_eq_getElem (l := xs) (by omega)] at h1
    simp only [List.getElem?_map, List.getElem?_eq_getElem (l := xs) (show i < xs.length by omega), List.getElem?_eq_getElem hi, Option.map_some, Option.some.injEq] at h2
    generalize xs[i] = x at h1 h2
    obtain ⟨x1, x2⟩ := x
    simp only at h2
    subst h2
    have := trod_lit h1
    rw [he, Nat.mul_one] at this
    have hd : (cs.drop i)[0]? = some (litV ls[i]) := by
      have h3 : ((cs.drop i).take 1)[0]? = some (litV ls[i]) := by rw [this]; rfl
      simpa using h3
    simp only [List.getElem?_drop, Nat.add_zero] at hd
    rw [hd]
    simp [hi]
  · rw [List.getElem?_eq_none (by omega), List.getElem?_eq_none (by simpa using hi)]
def litOf : (ty : Ty) → ty.T → Lit
  | .int k, n => .int k n
  | .u8, x => .int .u8 (x.toNat : Int)
  | .bool, b => .bool b
  | .str, l => .string l
  | _, _ => .nil
def scTy : Ty → Bool
  | .int _ | .u8 | .bool | .str => true
  | _ => false
theorem sc_ds {ty : Ty} (h : scTy ty = true) (x : ty.T) : ty.ds x = [.sc (litV (litOf ty x))] := by
  cases ty <;> simp [scTy] at h <;> rfl
theorem sc_flat {ty : Ty} (h : scTy ty = true) : ∀ (l : List ty.T), (l.map ty.ds).flatten = l.map fun x => .sc (litV (litOf ty x))
  | [] => rfl
  | x :: r => by rw [List.map_cons, List.flatten_cons, sc_flat h r, sc_ds h x]; rfl
theorem laid_tab {P : Program} {laid : List (String × DataW Unit)} {w : World} (h : laidMetH P laid w) (n : String) (g t e k : Nat) (ty : Ty) (l : List ty.T)
    (hf : laid.filter (fun x => x.1 == n) = [(n, .agg (l.map fun x => .lit (litOf ty x)))]) (hg : P.globalNamed n = some g) (ht : (P.globals[g]?).map (·.type) = some t)
    (hu : P.underlying t = some (.array k e)) (he : P.cellsOf e = 1) (hn : P.cellsOf t = k) (hk : k = l.length) (hs : scTy ty = true) :
    RA (full w) w (XV.d (.pa ty l)).a (.pointer (some ⟨g, 0, none⟩)) := by
  have h1 := h.filter (fun x => x.1 == n)
  rw [hf] at h1
  have h2 : laidMet P [(n, .agg (l.map fun x => .lit (litOf ty x)))] w := h1
  obtain ⟨ps, hl, _, _⟩ := h2
  obtain ⟨g', t', cs, fuel, p, q, e1, e2, e3, e4, _, _⟩ := hl
  rw [hg] at e1
  cases e1
  rw [ht] at e2
  cases e2
  have e4' : DataW.trod (fun _ => ()) P w 0 (fun _ => true) false fuel t cs.toList = some (.agg ((l.map (litOf ty)).map .lit), p) := by
    rw [List.map_map]; exact e4
  have hc := laid_cells (ls := l.map (litOf ty)) hu he (by simp; omega) (by simp; omega) e4'
  have hcell : ∀ i, w.cell? ⟨g, i, none⟩ = (l.map fun x => litV (litOf ty x))[i]? := by
    intro i
    rw [World.var?_cell hg e3 i, ← Array.getElem?_toList, hc, List.map_map]; rfl
  refine .d _ _ ?_
  show RD (fullγ w) w (.ep ((l.map ty.ds).flatten)) _
  rw [sc_flat hs]
  refine .ep _ _ _ ?_ ?_
  · rw [Nat.zero_add, List.length_map]
    have h0 : w.heap[g]? = some (.cells cs ((w.heap[g]?).elim 0 (fun b => match b with | .cells _ t _ => t | _ => 0)) ((w.heap[g]?).elim (0, 0) (fun b => match b with | .cells _ _ f => f | _ => (0, 0)))) := by
      unfold World.var? at e3
      rw [hg, Option.bind_some] at e3
      split at e3
      · rename_i cs' T fr hh
        cases e3
        rw [hh]; rfl
      · cases e3
    unfold fullγ
    rw [h0]
    have : cs.toList.length = l.length := by rw [hc]; simp
    simp at this
    simp [this]
  · intro j c v hc1 hc2
    rw [Nat.zero_add, hcell j] at hc2
    simp only [List.getElem?_map, Option.map_eq_some_iff] at hc1 hc2
    obtain ⟨x, hx, rfl⟩ := hc1
    obtain ⟨y, hy, rfl⟩ := hc2
    rw [hx] at hy
    cases hy
    exact .sc _
theorem DoesG.lawAs {P : Program} {f : FuncId} {args : List AV} {gs : List (Nat × AV)} (h : DoesG P f args gs (.d (.sc (.bool true)))) {w : World} {vs : Array Value} (ha : RAs (full w) w args vs.toList) (hg : GHold (full w) w gs) :
    Calls P f vs w fun e w' => e = .returned (.bool true) ∧ Below w.heap.size w w' := by
  refine (h (full w) w vs (full_hr w) hg (by have := ha.get.1; simpa using this) fun i x v hx hv => ha.get.2 i x v hx (by simpa using hv)).mono ?_
  rintro e w' ⟨g', v, rfl, hr, h1⟩
  refine ⟨by rw [hr.sc_inv], ⟨h1.io.1, h1.io.2.2.1, h1.io.2.1, h1.base, fun b hb => (h1.frame b hb ?_).1⟩⟩
  rintro (⟨k, o, hk, _⟩ | ⟨n, hn⟩)
  · simp [X0] at hk
  · simp [full] at hn
theorem GHold.nil (g : Gh) (w : World) : GHold g w [] := by intro p hp; cases hp
theorem GHold.cons {g : Gh} {w : World} {k : Nat} {a : AV} {gs : List (Nat × AV)} (h : RA g w a (.pointer (some ⟨k, 0, none⟩))) (h' : GHold g w gs) : GHold g w ((k, a) :: gs) := by
  intro p hp
  rcases List.mem_cons.1 hp with rfl | hp
  · exact h
  · exact h' p hp
theorem trod_iface {H : Type} {enc : TypeId × Value → H} {P : Program} {w : World} {base : Nat} {sp : Nat → Bool} {held : Bool} {fuel : Nat} {t : TypeId} {cs : List Value} {n : String} {x : DataW H} {p : List MemPlace}
    (h : DataW.trod enc P w base sp held fuel t cs = some (.iface n x, p)) : ∃ tp u, cs = [.iface tp u] := by
  cases fuel with
  | zero => simp [DataW.trod] at h
  | succ m =>
    unfold DataW.trod at h
    split at h <;> simp_all [Option.map_eq_some_iff, Option.bind_eq_some_iff]
    all_goals first
      | exact ⟨_, _, rfl⟩
      | (split at h <;> simp_all [Option.bind_eq_some_iff, Option.map_eq_some_iff] <;> (try (obtain ⟨_, _, _, _, h⟩ := h; split at h <;> simp_all)))
      | skip
theorem laid_err {P : Program} {laid : List (String × DataW Unit)} {w : World} (h : laidMetH P laid w) (n : String) (g : Nat) {s : String} {x : DataW Unit}
    (hf : laid.filter (fun x => x.1 == n) = [(n, .iface s x)]) (hh : (DataW.iface s x).handleName?.isNone = true) (hg : P.globalNamed n = some g) :
    RA (full w) w (XV.d (.pa .err [true])).a (.pointer (some ⟨g, 0, none⟩)) := by
  have h1 := h.filter (fun x => x.1 == n)
  rw [hf] at h1
  have h2 : laidMet P [(n, .iface s x)] w := by
    have := (laidMetH_iff.1 h1).1
    rwa [List.filter_cons_of_pos (by exact hh), List.filter_nil] at this
  obtain ⟨ps, hl, _, _⟩ := h2
  obtain ⟨g', t', cs, fuel, p, q, e1, e2, e3, e4, _, _⟩ := hl
  rw [hg] at e1
  cases e1
  obtain ⟨tp, u, hc⟩ := trod_iface e4
  have hcell : ∀ i, w.cell? ⟨g, i, none⟩ = [Value.iface tp u][i]? := by
    intro i
    rw [World.var?_cell hg e3 i, ← Array.getElem?_toList, hc]
  refine .d _ _ ?_
  show RD (fullγ w) w (.ep ((([true] : List Bool).map Ty.err.ds).flatten)) _
  refine .ep _ _ _ ?_ ?_
  · have h0 : w.heap[g]? = some (.cells cs ((w.heap[g]?).elim 0 (fun b => match b with | .cells _ t _ => t | _ => 0)) ((w.heap[g]?).elim (0, 0) (fun b => match b with | .cells _ _ f => f | _ => (0, 0)))) := by
      unfold World.var? at e3
      rw [hg, Option.bind_some] at e3
      split at e3
      · rename_i cs' T fr hh
        cases e3
        rw [hh]; rfl
      · cases e3
    unfold fullγ
    rw [h0]
    have : cs.toList.length = 1 := by rw [hc]; rfl
    simp at this
    simp [this]
    decide
  · intro j c v hc1 hc2
    rw [Nat.zero_add, hcell j] at hc2
    cases j with
    | zero =>
      simp at hc2
      subst hc2
      simp [Ty.ds] at hc1
      subst hc1
      exact .any _ _ ⟨tp, u, rfl⟩ rfl
    | succ j => simp at hc2
end Go.Xl
