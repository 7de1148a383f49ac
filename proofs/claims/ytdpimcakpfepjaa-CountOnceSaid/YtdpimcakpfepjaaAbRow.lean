/-
  From a contract to what a row asks: the ghost that protects all that is there, and the readings of arguments.
-/
import Derived.Test.YtdpimcakpfepjaaAbGlue
import Derived.Below
import Derived.ProofKit
set_option linter.unusedVariables false
set_option linter.unusedSimpArgs false
namespace Go.Ab
open Go.RowKit

/-- all that is there is protected -/
def fullγ (w : World) (b : Nat) : Nat :=
  match w.heap[b]? with
  | some (.cells c _ _) => c.size
  | _ => 0

def full (w : World) : Gh := { γ := fullγ w, β := fun _ => none, ρ := fun _ => 0 }

theorem full_hr (w : World) : HR [] (Base.of (full w) w X0) (full w) w X0 := by
  refine ⟨by simp, ?_, Nat.le_refl _, ⟨rfl, rfl, rfl⟩, .refl _ _, fun _ _ _ => ⟨rfl, rfl⟩, by simp [X0], by simp [X0], by simp [X0], by simp [X0], by simp [X0, full], by simp [full], by simp [full], by simp [full], by simp [full]⟩
  intro b i hi
  simp only [full, fullγ] at hi
  split at hi
  · rename_i c T fr h
    rw [cell?_cells h]
    simp [hi]
  · omega

theorem Does.below {P : Program} {f : FuncId} {args : List AV} {res : AV} (h : Does P f args X0 res X0) {w : World} {vs : Array Value} (hl : args.length = vs.size)
    (ha : ∀ (i : Nat) x v, args[i]? = some x → vs[i]? = some v → RA (full w) w x v) :
    Calls P f vs w fun e w' => ∃ v g', e = .returned v ∧ RA g' w' res v ∧ Below w.heap.size w w' := by
  refine (h (full w) w vs (full_hr w) hl ha).mono ?_
  rintro e w' ⟨g', v, rfl, hr, h1⟩
  refine ⟨v, g', rfl, hr, ⟨h1.io.1, h1.io.2.2, h1.io.2.1, h1.base, fun b hb => (h1.frame b hb ?_).1⟩⟩
  rintro (⟨k, o, hk, _⟩ | ⟨n, hn⟩)
  · simp [X0] at hk
  · simp [full] at hn

/-- a law -/
theorem Does.law {P : Program} {f : FuncId} {args : List AV} (h : Does P f args X0 (.d (.sc (.bool true))) X0) {w : World} {vs : Array Value} (hl : args.length = vs.size)
    (ha : ∀ (i : Nat) x v, args[i]? = some x → vs[i]? = some v → RA (full w) w x v) :
    Calls P f vs w fun e w' => e = .returned (.bool true) ∧ Below w.heap.size w w' := by
  refine (h.below hl ha).mono ?_
  rintro e w' ⟨v, g', rfl, hr, hb⟩
  exact ⟨by rw [hr.sc_inv], hb⟩

inductive RAs (g : Gh) (w : World) : List AV → List Value → Prop
  | nil : RAs g w [] []
  | cons {x : AV} {v : Value} {r : List AV} {rs : List Value} : RA g w x v → RAs g w r rs → RAs g w (x :: r) (v :: rs)

theorem RAs.get {g : Gh} {w : World} {l : List AV} {vs : List Value} (h : RAs g w l vs) : l.length = vs.length ∧ ∀ (i : Nat) x v, l[i]? = some x → vs[i]? = some v → RA g w x v := by
  induction h with
  | nil => exact ⟨rfl, by simp⟩
  | cons h _ ih =>
    refine ⟨by simp [ih.1], ?_⟩
    intro i x u hx hu
    cases i with
    | zero => simp at hx hu; subst hx; subst hu; exact h
    | succ i => exact ih.2 i x u (by simpa using hx) (by simpa using hu)

theorem Does.lawAs {P : Program} {f : FuncId} {args : List AV} (h : Does P f args X0 (.d (.sc (.bool true))) X0) {w : World} {vs : Array Value} (ha : RAs (full w) w args vs.toList) :
    Calls P f vs w fun e w' => e = .returned (.bool true) ∧ Below w.heap.size w w' :=
  h.law (by have := ha.get.1; simpa using this) fun i x v hx hv => ha.get.2 i x v hx (by simpa using hv)

theorem fullγ_cell {w : World} {b i : Nat} {v : Value} (h : w.cell? ⟨b, i, none⟩ = some v) : i < fullγ w b := by
  unfold World.cell? at h
  unfold fullγ
  simp only at h
  split at h
  · rename_i c T fr hh
    rw [hh]
    simp at h
    exact (Array.getElem?_eq_some_iff.1 h).1
  · cases h

/-- a slice of integers that came in -/
theorem ra_ints {k : IntKind} {w : World} {a : Option Addr} {len cap : Nat} {zs : List Int}
    (h : (a = none ∧ len = 0 ∧ cap = 0 ∧ zs = []) ∨ ∃ x : Addr, a = some x ∧ len ≤ cap ∧ cap ≤ maxLen ∧ zs.length = cap ∧ (∀ i, i < zs.length → w.cell? (x.add i) = some (.int k (zs.getD i 0))) ∧ ∀ n ∈ zs, (Lit.int k n).wf = true) :
    RA (full w) w (.d (.sl 1 ((zs.take len).map fun n => [.int k n]))) (.slice a len cap) := by
  rcases h with ⟨rfl, rfl, rfl, rfl⟩ | ⟨x, rfl, hl, _, hz, hc, _⟩
  · exact .d _ _ (.nil 1 none 0 fun _ => rfl)
  · rcases Nat.eq_zero_or_pos len with h0 | h0
    · subst h0
      exact .d _ _ (.nil 1 (some x) cap (by simp))
    · obtain ⟨b, off, sp⟩ := x
      have hc0 := hc 0 (by omega)
      have hsp : sp = none := by
        simp only [Addr.add, if_true] at hc0
        unfold World.cell? at hc0
        simp only at hc0
        split at hc0
        · cases sp with
          | none => rfl
          | some s => simp at hc0
        · cases hc0
      subst hsp
      have hlen : ((zs.take len).map fun n => [D.int k n]).length = len := by simp; omega
      refine .d _ _ (.ofCells' hlen.symm ?_ hl ?_ ?_)
      · have := hc (len - 1) (by omega)
        rw [addr_add] at this
        have := fullγ_cell this
        show off + len * 1 ≤ fullγ w b
        omega
      · intro i cs hi
        rw [List.getElem?_map, Option.map_eq_some_iff] at hi
        obtain ⟨n, _, rfl⟩ := hi
        rfl
      · intro i j cs c u hi hj hu
        rw [List.getElem?_map, Option.map_eq_some_iff] at hi
        obtain ⟨n, hn, rfl⟩ := hi
        cases j with
        | zero =>
          simp at hj; subst hj
          rw [List.getElem?_take] at hn
          split at hn
          · have hlt : i < zs.length := (List.getElem?_eq_some_iff.1 hn).1
            have h1 := hc i hlt
            rw [addr_add] at h1
            rw [Nat.mul_one, Nat.add_zero, h1] at hu
            have hg : zs.getD i 0 = n := by rw [List.getD_eq_getElem?_getD, hn]; rfl
            rw [hg] at hu
            simp only [Option.some.injEq] at hu
            subst hu
            exact .sc _
          · cases hn
        | succ j => simp at hj

/-- what a slice of integers that came in is -/
def IntRow (k : IntKind) (w : World) (a : Option Addr) (len cap : Nat) (zs : List Int) : Prop :=
  (a = none ∧ len = 0 ∧ cap = 0 ∧ zs = []) ∨ ∃ x : Addr, a = some x ∧ len ≤ cap ∧ cap ≤ maxLen ∧ zs.length = cap ∧ (∀ i, i < zs.length → w.cell? (x.add i) = some (.int k (zs.getD i 0))) ∧ ∀ n ∈ zs, (Lit.int k n).wf = true

theorem row_len {k : IntKind} {w : World} {a : Option Addr} {len cap : Nat} {zs : List Int} (h : IntRow k w a len cap zs) : (zs.take len).length ≤ 9223372036854775807 := by
  rcases h with ⟨_, rfl, _, rfl⟩ | ⟨x, _, hl, hm, _⟩
  · simp
  · have := List.length_take_le len zs
    unfold maxLen at hm
    omega

theorem open_ints_row {H : Type} {enc : TypeId × Value → H} {P : Program} {W : World} {t e : TypeId} {k : IntKind} {d : DataW H} {ps : List MemPlace} {a : Option Addr} {len cap : Nat} (ht : P.underlying t = some (.slice e)) (he : P.underlying e = some (.int k))
    (hc : P.cellsOf e = 1) (h : DataW.Trod enc P W 0 (fun _ => true) true t (.slice a len cap) d ps) : ∃ zs, IntRow k W a len cap zs := by
  obtain ⟨fuel, hf⟩ := h
  rcases ChangeShapes.open_ints ht he hc hf with ⟨hcs, _⟩ | ⟨x, l, c, zs, hcs, _, hl, hm, hz, _, hcell, hwz⟩
  · simp [Value.cells] at hcs
    obtain ⟨rfl, rfl, rfl⟩ := hcs
    exact ⟨[], .inl ⟨rfl, rfl, rfl, rfl⟩⟩
  · simp [Value.cells] at hcs
    obtain ⟨rfl, rfl, rfl⟩ := hcs
    exact ⟨zs, .inr ⟨_, rfl, hl, hm, by simpa using hz, hcell, hwz⟩⟩

end Go.Ab
