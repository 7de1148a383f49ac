import Derived.Test.YtlincdcjpobinaaDoorZd
import Derived.OpenShut
import Derived.FnData
import Derived.LaidSub
/-
  A row's laid tables: what the premise says of them, as data of the layer.
-/
set_option linter.unusedVariables false
set_option linter.unusedSimpArgs false
namespace Go.Xl
open Go.Ab Go.RowKit

def litV : Lit → Value
  | .bool b => .bool b
  | .int k n => .int k n
  | .string s => .string ⟨s.toArray⟩
  | .float k b => .float k b
  | .nil => .nilIface

theorem trod_lit {H : Type} {enc : TypeId × Value → H} {P : Program} {w : World} {base : Nat} {sp : Nat → Bool} {held : Bool} {fuel : Nat} {t : TypeId} {cs : List Value} {l : Lit} {p : List MemPlace}
    (h : DataW.trod enc P w base sp held fuel t cs = some (.lit l, p)) : cs = [litV l] := by
  cases fuel with
  | zero => simp [DataW.trod] at h
  | succ m =>
    unfold DataW.trod at h
    split at h <;> simp_all [litV, Option.map_eq_some_iff, Option.bind_eq_some_iff]
    all_goals first
      | (obtain ⟨_, h, _⟩ := h; subst h; rfl)
      | (obtain ⟨h, _⟩ := h; subst h; rfl)
      | (subst h; rfl)
      | (split at h <;> simp_all [Option.bind_eq_some_iff, Option.map_eq_some_iff] <;> (try (obtain ⟨_, _, _, _, h⟩ := h; split at h <;> simp_all)))
      | skip

/-- a row of scalars -/
theorem laid_cells {H : Type} {enc : TypeId × Value → H} {P : Program} {w : World} {base : Nat} {sp : Nat → Bool} {held : Bool} {fuel : Nat} {t e : TypeId} {n : Nat} {cs : List Value} {ls : List Lit} {p : List MemPlace}
    (ht : P.underlying t = some (.array n e)) (he : P.cellsOf e = 1) (hn : P.cellsOf t = ls.length) (hn' : n = ls.length) (h : DataW.trod enc P w base sp held fuel t cs = some (.agg (ls.map .lit), p)) : cs = ls.map litV := by
  obtain ⟨xs, m, rfl, hx, hl, hxl, hc⟩ := DataW.trod_array ht h
  simp only [Prod.mk.injEq, DataW.agg.injEq] at hx
  apply List.ext_getElem?
  intro i
  by_cases hi : i < ls.length
  · have h1 := hc i (by omega)
    have h2 : (xs.map (·.1))[i]? = (ls.map DataW.lit)[i]? := by rw [← hx.1]
    rw [List.getElem?_eq_getElem (l := xs) (by omega)] at h1
    simp only [List.getElem?_map, List.getElem?_eq_getElem (l := xs) (show i < xs.length by omega), List.getElem?_eq_getElem hi, Option.map_some, Option.some.injEq] at h2
    generalize xs[i] = x at h1 h2
    obtain ⟨x1, x2⟩ := x
    simp only at h2
    subst h2
    have := trod_lit h1
    rw [he, Nat.mul_one] at this
    have hd : (cs.drop i)[0]? = some (litV ls[i]) := by
      have h3 : ((cs.drop i).take 1)[0]? = some (litV ls[i]) := by rw [this]; rfl
      simpa using h3
    simp only [List.getElem?_drop, Nat.add_zero] at hd
    rw [hd]
    simp [hi]
  · rw [List.getElem?_eq_none (by omega), List.getElem?_eq_none (by simpa using hi)]

/-- scalars -/
def litOf : (ty : Ty) → ty.T → Lit
  | .int k, n => .int k n
  | .u8, x => .int .u8 (x.toNat : Int)
  | .bool, b => .bool b
  | .str, l => .string l
  | _, _ => .nil

def scTy : Ty → Bool
  | .int _ | .u8 | .bool | .str => true
  | _ => false

theorem sc_ds {ty : Ty} (h : scTy ty = true) (x : ty.T) : ty.ds x = [.sc (litV (litOf ty x))] := by
  cases ty <;> simp [scTy] at h <;> rfl

theorem sc_flat {ty : Ty} (h : scTy ty = true) : ∀ (l : List ty.T), (l.map ty.ds).flatten = l.map fun x => .sc (litV (litOf ty x))
  | [] => rfl
  | x :: r => by rw [List.map_cons, List.flatten_cons, sc_flat h r, sc_ds h x]; rfl

/-- a laid table, as the layer's data -/
theorem laid_tab {P : Program} {laid : List (String × DataW Unit)} {w : World} (h : laidMetH P laid w) (n : String) (g t e k : Nat) (ty : Ty) (l : List ty.T)
    (hf : laid.filter (fun x => x.1 == n) = [(n, .agg (l.map fun x => .lit (litOf ty x)))]) (hg : P.globalNamed n = some g) (ht : (P.globals[g]?).map (·.type) = some t)
    (hu : P.underlying t = some (.array k e)) (he : P.cellsOf e = 1) (hn : P.cellsOf t = k) (hk : k = l.length) (hs : scTy ty = true) :
    RA (full w) w (XV.d (.pa ty l)).a (.pointer (some ⟨g, 0, none⟩)) := by
  have h1 := h.filter (fun x => x.1 == n)
  rw [hf] at h1
  have h2 : laidMet P [(n, .agg (l.map fun x => .lit (litOf ty x)))] w := h1
  obtain ⟨ps, hl, _, _⟩ := h2
  obtain ⟨g', t', cs, fuel, p, q, e1, e2, e3, e4, _, _⟩ := hl
  rw [hg] at e1
  cases e1
  rw [ht] at e2
  cases e2
  have e4' : DataW.trod (fun _ => ()) P w 0 (fun _ => true) false fuel t cs.toList = some (.agg ((l.map (litOf ty)).map .lit), p) := by
    rw [List.map_map]; exact e4
  have hc := laid_cells (ls := l.map (litOf ty)) hu he (by simp; omega) (by simp; omega) e4'
  have hcell : ∀ i, w.cell? ⟨g, i, none⟩ = (l.map fun x => litV (litOf ty x))[i]? := by
    intro i
    rw [World.var?_cell hg e3 i, ← Array.getElem?_toList, hc, List.map_map]; rfl
  refine .d _ _ ?_
  show RD (fullγ w) w (.ep ((l.map ty.ds).flatten)) _
  rw [sc_flat hs]
  refine .ep _ _ _ ?_ ?_
  · rw [Nat.zero_add, List.length_map]
    have h0 : w.heap[g]? = some (.cells cs ((w.heap[g]?).elim 0 (fun b => match b with | .cells _ t _ => t | _ => 0)) ((w.heap[g]?).elim (0, 0) (fun b => match b with | .cells _ _ f => f | _ => (0, 0)))) := by
      unfold World.var? at e3
      rw [hg, Option.bind_some] at e3
      split at e3
      · rename_i cs' T fr hh
        cases e3
        rw [hh]; rfl
      · cases e3
    unfold fullγ
    rw [h0]
    have : cs.toList.length = l.length := by rw [hc]; simp
    simp at this
    simp [this]
  · intro j c v hc1 hc2
    rw [Nat.zero_add, hcell j] at hc2
    simp only [List.getElem?_map, Option.map_eq_some_iff] at hc1 hc2
    obtain ⟨x, hx, rfl⟩ := hc1
    obtain ⟨y, hy, rfl⟩ := hc2
    rw [hx] at hy
    cases hy
    exact .sc _

/-- a law that looks at laid tables -/
theorem DoesG.lawAs {P : Program} {f : FuncId} {args : List AV} {gs : List (Nat × AV)} (h : DoesG P f args gs (.d (.sc (.bool true)))) {w : World} {vs : Array Value} (ha : RAs (full w) w args vs.toList) (hg : GHold (full w) w gs) :
    Calls P f vs w fun e w' => e = .returned (.bool true) ∧ Below w.heap.size w w' := by
  refine (h (full w) w vs (full_hr w) hg (by have := ha.get.1; simpa using this) fun i x v hx hv => ha.get.2 i x v hx (by simpa using hv)).mono ?_
  rintro e w' ⟨g', v, rfl, hr, h1⟩
  refine ⟨by rw [hr.sc_inv], ⟨h1.io.1, h1.io.2.2.1, h1.io.2.1, h1.base, fun b hb => (h1.frame b hb ?_).1⟩⟩
  rintro (⟨k, o, hk, _⟩ | ⟨n, hn⟩)
  · simp [X0] at hk
  · simp [full] at hn

theorem GHold.nil (g : Gh) (w : World) : GHold g w [] := by intro p hp; cases hp
theorem GHold.cons {g : Gh} {w : World} {k : Nat} {a : AV} {gs : List (Nat × AV)} (h : RA g w a (.pointer (some ⟨k, 0, none⟩))) (h' : GHold g w gs) : GHold g w ((k, a) :: gs) := by
  intro p hp
  rcases List.mem_cons.1 hp with rfl | hp
  · exact h
  · exact h' p hp

end Go.Xl
