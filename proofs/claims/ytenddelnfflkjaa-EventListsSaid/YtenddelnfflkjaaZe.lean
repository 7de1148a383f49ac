import Derived.Test.YtenddelnfflkjaaZd
import Derived.Test.YtenddelnfflkjaaZb
import Derived.Below
import Derived.ProofKit
import Derived.Test.YtenddelnfflkjaaZc
import Derived.Sort.Grow
import Derived.Shelf.GgSortFunc.InsertionK
import Derived.Laws.StandIn
import Derived.Lib.Bytealg
import Derived.Test.YtenddelnfflkjaaProg
import Derived.KernelRfl
import Derived.Shelf.SlSortCmp.NoneTotal
import Derived.Shelf.SlGeneric
import Derived.Ground.SlsfProg
import Derived.IntWalk
set_option linter.unusedVariables false
set_option linter.unusedSimpArgs false
set_option linter.unnecessarySimpa false
namespace Go.Xl
open Go.Ab
@[reducible] def Fun : List Ty → Type → Type
  | [], R => R
  | t :: r, R => t.T → Fun r R
@[reducible] def ResT : List Ty → Type
  | [] => Unit
  | [t] => t.T
  | t :: u :: r => t.T × ResT (u :: r)
def resL : (ts : List Ty) → ResT ts → List XV
  | [], _ => []
  | [t], x => [.d (t.xv x)]
  | t :: u :: r, x => .d (t.xv x.1) :: resL (u :: r) x.2
def tupX : List XV → XV
  | [x] => x
  | l => .tup l
def resXV (ts : List Ty) (x : ResT ts) : XV := tupX (resL ts x)
theorem tupX_a (l : List XV) : (tupX l).a = tupled (asOf l) := by
  cases l with
  | nil => rfl
  | cons x r => cases r <;> rfl
def decRes : (ts : List Ty) → List XV → Option (ResT ts)
  | [], [] => some ()
  | [t], [x] => decXVr t x
  | t :: u :: r, x :: xs => match decXVr t x, decRes (u :: r) xs with
    | some y, some ys => some (y, ys)
    | _, _ => none
  | _, _ => none
inductive AsLe : List AV → List AV → Prop
  | nil : AsLe [] []
  | cons {x y : AV} {r s : List AV} : ALe x y → AsLe r s → AsLe (x :: r) (y :: s)
theorem AsLe.length {a b : List AV} (h : AsLe a b) : a.length = b.length := by
  induction h with
  | nil => rfl
  | cons _ _ ih => simp [ih]
theorem AsLe.get {a b : List AV} (h : AsLe a b) : ∀ {i : Nat} {y : AV}, b[i]? = some y → ∃ x, a[i]? = some x ∧ ALe x y := by
  induction h with
  | nil => intro i y hy; simp at hy
  | cons h1 _ ih =>
    intro i y hy
    cases i with
    | zero => simp at hy; subst hy; exact ⟨_, rfl, h1⟩
    | succ i => simp at hy; simpa using ih hy
theorem AsLe.tup {a b : List AV} (h : AsLe a b) : ALe (.tup a) (.tup b) := by
  intro g w v hr
  cases hr with
  | tup _ vs hl hc =>
    refine .tup b vs (h.length ▸ hl) fun i c u hb hu => ?_
    obtain ⟨x, hx, hle⟩ := h.get hb
    exact hle _ _ _ (hc i x u hx hu)
theorem decRes_le : ∀ {ts : List Ty} {xs : List XV} {y : ResT ts}, decRes ts xs = some y → AsLe (asOf xs) (asOf (resL ts y))
  | [], xs, y, h => by
    cases xs with
    | nil => exact .nil
    | cons _ _ => simp [decRes] at h
  | [t], xs, y, h => by
    cases xs with
    | nil => simp [decRes] at h
    | cons x r =>
      cases r with
      | nil => exact .cons (decXVr_le h) .nil
      | cons _ _ => simp [decRes] at h
  | t :: u :: r, xs, y, h => by
    cases xs with
    | nil => simp [decRes] at h
    | cons x xs =>
      simp only [decRes] at h
      split at h
      · rename_i y1 ys h1 h2
        cases h
        exact .cons (decXVr_le h1) (decRes_le h2)
      · cases h
theorem resXV_le {ts : List Ty} {xs : List XV} {y : ResT ts} (h : decRes ts xs = some y) : ALe (tupX xs).a (resXV ts y).a := by
  have hl := decRes_le h
  unfold resXV
  rw [tupX_a, tupX_a]
  generalize asOf xs = a at hl
  generalize asOf (resL ts y) = b at hl
  cases hl with
  | nil => exact .refl _
  | cons h1 h2 =>
    cases h2 with
    | nil => exact h1
    | cons h3 h4 => exact (AsLe.cons h1 (.cons h3 h4)).tup
def xres (P : Program) (st : XSt) : List ResultVar → Option (List XV)
  | [] => some []
  | .tmp t :: r => match xeval st (.tmp t), xres P st r with
    | some x, some l => some (x :: l)
    | _, _ => none
  | .cell a ty :: r => match xeval st (.tmp a), tyI P ty, xres P st r with
    | some (.nm k (.p off)), some (agg, sz), some l => match lk k st.objs with
      | some (.cells cs _) => cond agg (cond (Nat.ble (off + sz) cs.length) (some (xjoin ((cs.drop off).take sz) :: l)) none)
          (cond (Nat.beq sz 1) (match cs[off]? with
            | some v => some (v :: l)
            | none => none) none)
      | _ => none
    | _, _, _ => none
theorem xres_ok {P : Program} {st : XSt} : ∀ {rs : List ResultVar} {xs : List XV}, xres P st rs = some xs → RVs P st.im rs (asOf xs)
  | [], xs, h => by simp [xres] at h; subst h; exact .nil
  | .tmp t :: r, xs, h => by
    simp only [xres] at h
    split at h
    · rename_i x l hx hl
      cases h
      exact .cons _ _ _ _ (.tmp t _ (xeval_tmp hx).1 (.eq _ (lk_sees (xeval_tmp hx).2))) (xres_ok hl)
    · cases h
  | .cell a ty :: r, xs, h => by
    simp only [xres] at h
    split at h
    · rename_i k off agg sz l ha ht hl
      have hT := tyI_I ht
      split at h
      · rename_i cs oty hk
        have hk' := lk_im hk
        cases agg with
        | true =>
          simp only [cond_true] at h
          cases hb : Nat.ble (off + sz) cs.length with
          | false => simp [hb] at h
          | true =>
            simp only [hb, cond_true, Option.some.injEq] at h
            subst h
            simp only [asOf]
            refine .cons _ _ _ _ (.cell a ty k off _ (xeval_tmp ha).1 (.eq _ (lk_sees (xeval_tmp ha).2)) (.agg sz (asOf cs) oty _ hT hk' (by rw [asOf_length]; exact Nat.le_of_ble_eq_true hb) ?_)) (xres_ok hl)
            rw [xjoin_a, asOf_take, asOf_drop]
        | false =>
          simp only [cond_false] at h
          cases hb : Nat.beq sz 1 with
          | false => simp [hb] at h
          | true =>
            have := Nat.eq_of_beq_eq_true hb
            subst this
            simp only [hb, cond_true] at h
            split at h
            · rename_i v hv
              cases h
              exact .cons _ _ _ _ (.cell a ty k off _ (xeval_tmp ha).1 (.eq _ (lk_sees (xeval_tmp ha).2)) (.one (asOf cs) oty _ hT hk' (by rw [asOf_get, hv]; rfl))) (xres_ok hl)
            · cases h
      · cases h
    · cases h
def envX : Nat → List XV → List (Nat × XV)
  | _, [] => []
  | n, x :: r => (n, x) :: envX (n + 1) r
theorem envX_im (n : Nat) (l : List XV) : imEnv (envX n l) = envOf n (asOf l) := by
  induction l generalizing n with
  | nil => rfl
  | cons x r ih => simp only [envX, imEnv, List.map_cons, asOf, envOf] at ih ⊢; rw [ih]
def frz : List XV → List (Nat × XOb) → Option (List XV × List (Nat × XOb))
  | [], objs => some ([], objs)
  | .os k t a len :: r, objs => match lk k objs with
    | some (.arr u l) => cond (u.eqb t) (cond (Nat.ble (a + len) l.length) (match frz r (dropX k objs) with
      | some (ys, o) => some (.d (.sl u ((l.drop a).take len)) :: ys, o)
      | none => none) none) none
    | _ => none
  | x :: r, objs => match frz r objs with
    | some (ys, o) => some (x :: ys, o)
    | none => none
inductive AsTo (g : Gh) (g' : Gh) (w : World) : List XV → List XV → Prop
  | nil : AsTo g g' w [] []
  | cons {x y : XV} {r s : List XV} : (∀ v, RA g w x.a v → RA g' w y.a v) → AsTo g g' w r s → AsTo g g' w (x :: r) (y :: s)
theorem AsTo.pre {g g1 g' : Gh} {w : World} {l m : List XV} (h : AsTo g1 g' w l m) (ht : Trans [] g w g1 w) : AsTo g g' w l m := by
  induction h with
  | nil => exact .nil
  | cons h1 _ ih => exact .cons (fun v hv => h1 v (hv.mono ht (.nil _))) ih
theorem AsTo.post {g g1 g' : Gh} {w : World} {l m : List XV} (h : AsTo g g1 w l m) (ht : Trans [] g1 w g' w) : AsTo g g' w l m := by
  induction h with
  | nil => exact .nil
  | cons h1 _ ih => exact .cons (fun v hv => (h1 v hv).mono ht (.nil _)) ih
theorem AsTo.length {g g' : Gh} {w : World} {l m : List XV} (h : AsTo g g' w l m) : l.length = m.length := by
  induction h with
  | nil => rfl
  | cons _ _ ih => simp [ih]
theorem AsTo.get {g g' : Gh} {w : World} {l m : List XV} (h : AsTo g g' w l m) : ∀ {i : Nat} {y : XV}, m[i]? = some y → ∃ x, l[i]? = some x ∧ ∀ v, RA g w x.a v → RA g' w y.a v := by
  induction h with
  | nil => intro i y hy; simp at hy
  | cons h1 _ ih =>
    intro i y hy
    cases i with
    | zero => simp at hy; subst hy; exact ⟨_, rfl, h1⟩
    | succ i => simp at hy; simpa using ih hy
theorem AsTo.tupX {g g' : Gh} {w : World} {l m : List XV} (h : AsTo g g' w l m) {v : Value} (hr : RA g w (tupX l).a v) : RA g' w (tupX m).a v := by
  have tup : ∀ l m : List XV, AsTo g g' w l m → RA g w (.tup (asOf l)) v → RA g' w (.tup (asOf m)) v := by
    intro l m h hr
    cases hr with
    | tup _ vs hl hc =>
      refine .tup _ vs (by rw [asOf_length, ← h.length, ← asOf_length]; exact hl) fun i c u hb hu => ?_
      rw [asOf_get, Option.map_eq_some_iff] at hb
      obtain ⟨y, hy, rfl⟩ := hb
      obtain ⟨x, hx, hxy⟩ := h.get hy
      exact hxy u (hc i x.a u (by rw [asOf_get, hx]; rfl) hu)
  cases h with
  | nil => exact tup [] [] .nil hr
  | cons h1 h2 =>
    cases h2 with
    | nil => exact h1 v hr
    | cons h3 h4 => exact tup _ _ (.cons h1 (.cons h3 h4)) hr
theorem frz_ok {B : Base} {w : World} {live : List Nat} : ∀ {xs ys : List XV} {objs objs' : List (Nat × XOb)}, frz xs objs = some (ys, objs') → ∀ g, HR [] B g w ⟨imObjs objs, live⟩ →
    ∃ g', HR [] B g' w ⟨imObjs objs', live⟩ ∧ Trans [] g w g' w ∧ AsTo g g' w xs ys
  | [], ys, objs, objs', h, g, hr => by
    simp only [frz, Option.some.injEq, Prod.mk.injEq] at h
    obtain ⟨rfl, rfl⟩ := h
    exact ⟨g, hr, .refl _ _ _, .nil⟩
  | x :: r, ys, objs, objs', h, g, hr => by
    have other : (match frz r objs with | some (ys, o) => some (x :: ys, o) | none => none) = some (ys, objs') → ∃ g', HR [] B g' w ⟨imObjs objs', live⟩ ∧ Trans [] g w g' w ∧ AsTo g g' w (x :: r) ys := by
      intro h
      split at h
      · rename_i zs o hz
        cases h
        obtain ⟨g', h1, h2, h3⟩ := frz_ok hz g hr
        exact ⟨g', h1, h2, .cons (fun v hv => hv.mono h2 (.nil _)) h3⟩
      · cases h
    cases x with
    | os k t a len =>
      simp only [frz] at h
      split at h
      · rename_i u l hk
        cases h1 : u.eqb t with
        | false => simp [h1] at h
        | true =>
        cases h2 : Nat.ble (a + len) l.length with
        | false => simp [h1, h2] at h
        | true =>
          simp only [h1, h2, cond_true] at h
          split at h
          · rename_i zs o hz
            cases h
            have := Ty.eqb_eq h1
            subst this
            have ho := lk_imA hk
            obtain ⟨f1, f2, f3⟩ := hr.freeze (k := k) (sz := u.size) (es := l.map u.ds) (ty := none) (by simp) ho (by
              intro i cs hc
              rw [List.getElem?_map, Option.map_eq_some_iff] at hc
              obtain ⟨y, _, rfl⟩ := hc
              exact u.ds_length y)
            have e : Ab.dropObj k ⟨imObjs objs, live⟩ = ⟨imObjs (dropX k objs), live⟩ := by
              rw [dropX_im]; rfl
            rw [e] at f1
            obtain ⟨g', h3, h4, h5⟩ := frz_ok hz _ f1
            refine ⟨g', h3, f2.trans h4, .cons (fun v hv => ?_) (h5.pre f2)⟩
            have hle := Nat.le_of_ble_eq_true h2
            have := f3 a len v (by simpa using hle) hv
            have := this.mono h4 (.nil _)
            simp only [XV.a, XD.d]
            rw [List.map_take, List.map_drop]
            exact this
          · cases h
      · cases h
    | _ => exact other h
def frzK {R : Type} : List XV → List (Nat × XOb) → (List XV → Option R) → Option R
  | [], _, K => K []
  | .os k t a len :: r, objs, K => match lk k objs with
    | some (.arr u l) => cond (u.eqb t) (cond (Nat.ble (a + len) l.length) (frzK r (dropX k objs) fun ys => K (.d (.sl u ((l.drop a).take len)) :: ys)) none) none
    | _ => none
  | x :: r, objs, K => frzK r objs fun ys => K (x :: ys)
theorem frzK_some {R : Type} {y : R} : ∀ {xs : List XV} {objs : List (Nat × XOb)} {K : List XV → Option R}, frzK xs objs K = some y → ∃ ys o, frz xs objs = some (ys, o) ∧ K ys = some y
  | [], objs, K, h => ⟨[], objs, rfl, h⟩
  | x :: r, objs, K, h => by
    have other : (frzK r objs fun ys => K (x :: ys)) = some y → ∃ ys o, (match frz r objs with | some (ys, o) => some (x :: ys, o) | none => none) = some (ys, o) ∧ K ys = some y := by
      intro h
      obtain ⟨ys, o, h1, h2⟩ := frzK_some h
      exact ⟨x :: ys, o, by rw [h1], h2⟩
    cases x with
    | os k t a len =>
      simp only [frzK] at h
      split at h
      · rename_i u l hk
        cases h1 : u.eqb t with
        | false => simp [h1] at h
        | true =>
        cases h2 : Nat.ble (a + len) l.length with
        | false => simp [h1, h2] at h
        | true =>
          simp only [h1, h2, cond_true] at h
          obtain ⟨ys, o, h3, h4⟩ := frzK_some h
          exact ⟨.d (.sl u ((l.drop a).take len)) :: ys, o, by simp only [frz, hk, h1, h2, h3, cond_true], h4⟩
      · cases h
    | _ => exact other h
def finishL (P : Program) (fn : Func) (res : List Ty) (s : XSt) : Option (ResT res) :=
  match xres P s fn.results.toList with
  | some xs => frzK xs s.objs fun ys => decRes res ys
  | none => none
def finish (P : Program) (fn : Func) (res : List Ty) : Exit → XSt → Option (ResT res)
  | .ret, s => finishL P fn res s
  | .normal, s => finishL P fn res s
  | _, _ => none
noncomputable def runB (P : Program) (Γ : List (Ent P)) (own : List Nat) (N : Nat) (fn : Func) (an : An) (res : List Ty) (xs : List XV) : Option (ResT res) :=
  match fn.body with
  | some c => cond (Nat.ble fn.ntmps GB) (exec P Γ own [] fn.ntmps N c an ⟨envX 0 xs, [], [], [], []⟩ (finish P fn res)) none
  | none => none
theorem Does.le {P : Program} {f : FuncId} {args : List AV} {X X' : Store} {res res' : AV} (h : Does P f args X res X') (hle : ALe res res') : Does P f args X res' X' := by
  intro g w vs hr hl ha
  exact (h g w vs hr hl ha).mono fun e w' ⟨g', v, h1, h2, h3⟩ => ⟨g', v, h1, hle g' w' v h2, h3⟩
theorem condG {α : Type} {n : Nat} {x : Option α} {y : α} (h : cond (Nat.ble n GB) x none = some y) : n ≤ GB ∧ x = some y := by
  cases hb : Nat.ble n GB with
  | false => simp [hb] at h
  | true => exact ⟨Nat.le_of_ble_eq_true hb, by simpa [hb] using h⟩
theorem runB_sound {P : Program} {Γ : List (Ent P)} {own : List Nat} {N : Nat} {f : FuncId} {fn : Func} {an : An} {res : List Ty} {xs : List XV} {y : ResT res} (hm : P.follows .mixedOrders = true) (hf : P.funcs[f]? = some fn)
    (hn : Nat.ble xs.length fn.ntmps = true) (h : runB P Γ own N fn an res xs = some y) : Does P f (asOf xs) X0 (resXV res y).a X0 := by
  unfold runB at h
  split at h
  · rename_i c hc
    obtain ⟨hG, h⟩ := condG h
    have hs := exec_sound (S := ⟨fn.ntmps, [], by simp⟩) hm rfl c an ⟨envX 0 xs, [], [], [], []⟩ ⟨envX 0 xs, [], [], [], []⟩ _ _ (.refl _) h
    have key : ∀ s', ∀ zs, xres P s' fn.results.toList = some zs → decRes res zs = some y → True := fun _ _ _ _ => trivial
    -- the result as it stands
    intro g w vs hr hl ha
    refine calls_of_wp hf hc (wp_mono (hs (Base.of g w X0) g w _ ?_) ?_)
    · refine ⟨rfl, ?_, hr, ?_⟩
      · have := Nat.le_of_ble_eq_true hn
        rw [asOf_length] at hl
        simp; omega
      · intro t x hx
        have hx' : (envOf 0 (asOf xs)).lookup t = some x := by rw [← envX_im]; exact hx
        obtain ⟨_, hx'⟩ := envOf_lookup hx'
        rw [Nat.sub_zero] at hx'
        have hlt : t < vs.size := by have := (List.getElem?_eq_some_iff.1 hx').1; omega
        refine ⟨vs[t], ?_, ha t x _ hx' (by simp [hlt])⟩
        have := Nat.le_of_ble_eq_true hn
        rw [asOf_length] at hl
        rw [slotV_tmp (by omega)]
        simp [Array.getElem?_append, hlt]
    · rintro e a' w' ⟨s, g', ⟨st', rfl, hi, hk⟩, hs'⟩
      have fin : finishL P fn res st' = some y →
          a'.defers = [] ∧ ∃ v, (results fn a'.tmps).run P w' = .ok v w' ∧ ∃ g' v_1, Ending.returned v = Ending.returned v_1 ∧ RA g' w' (resXV res y).a v_1 ∧ HR (X0.objs.map (·.1)) (Base.of g w X0) g' w' X0 := by
        intro h
        unfold finishL at h
        split at h
        · rename_i zs h1
          obtain ⟨ys, o, h2, h⟩ := frzK_some h
          · obtain ⟨v, hv, hra⟩ := run_results (xres_ok h1) hs'
            obtain ⟨g1, hr1, ht1, has⟩ := frz_ok h2 g' hs'.hr
            have hs1 : SR ⟨fn.ntmps, [], by simp⟩ (Base.of g w X0) g1 w' ⟨[], ⟨imObjs o, st'.live⟩⟩ a' := ⟨hs'.defers, hs'.size, hr1, by simp⟩
            have hw : Weak [] ⟨[], ⟨imObjs o, st'.live⟩⟩ ⟨[], X0⟩ := ⟨by simp, by simp [X0], by simp [X0], by simp⟩
            obtain ⟨g'', ht, hs''⟩ := hs1.weaken' hw
            rw [← tupX_a] at hra
            have hra' := (has.tupX hra).mono ht (.nil _)
            exact ⟨hs'.defers, v, hv, g'', v, rfl, resXV_le h g'' w' v hra', hs''.hr⟩
        · cases h
      cases e with
      | ret => exact fin hk
      | normal => exact fin hk
      | _ => simp [finish] at hk
  · cases h
def bindArgs {α : Type} : (ts : List Ty) → (List XV → α) → List XV → Fun ts α
  | [], f, acc => f acc
  | t :: r, f, acc => fun x => bindArgs r f (acc ++ [.d (t.xv x)])
noncomputable def runF (P : Program) (Γ : List (Ent P)) (own : List Nat) (N : Nat) (fn : Func) (an : An) (args res : List Ty) : Fun args (Option (ResT res)) :=
  bindArgs args (fun xs => runB P Γ own N fn an res xs) []
def SoundF (P : Program) (f : FuncId) (res : List Ty) : (args : List Ty) → Fun args (Option (ResT res)) → List XV → Prop
  | [], F, acc => ∀ y, F = some y → Does P f (asOf acc) X0 (resXV res y).a X0
  | t :: r, F, acc => ∀ x : t.T, SoundF P f res r (F x) (acc ++ [.d (t.xv x)])
theorem bindArgs_sound {P : Program} {Γ : List (Ent P)} {own : List Nat} {N : Nat} {f : FuncId} {fn : Func} {an : An} {res : List Ty} (hm : P.follows .mixedOrders = true) (hf : P.funcs[f]? = some fn) :
    ∀ (args : List Ty) (acc : List XV), Nat.ble (acc.length + args.length) fn.ntmps = true → SoundF P f res args (bindArgs args (fun xs => runB P Γ own N fn an res xs) acc) acc
  | [], acc, hn => fun y hy => runB_sound hm hf (by simpa using hn) hy
  | t :: r, acc, hn => fun x => bindArgs_sound hm hf r (acc ++ [.d (t.xv x)]) (by
      have := Nat.le_of_ble_eq_true hn
      refine Nat.ble_eq_true_of_le ?_
      simp at this ⊢; omega)
theorem runF_sound {P : Program} {Γ : List (Ent P)} {own : List Nat} {N : Nat} {f : FuncId} {fn : Func} {an : An} {args res : List Ty} (hm : P.follows .mixedOrders = true) (hf : P.funcs[f]? = some fn)
    (hn : Nat.ble args.length fn.ntmps = true) : SoundF P f res args (runF P Γ own N fn an args res) [] :=
  bindArgs_sound hm hf args [] (by simpa using hn)
def appK {β R : Type} : (ts : List Ty) → Fun ts (Option β) → List Operand → List XV → List (Operand × XV) → (Option β → List (Operand × XV) → Option R) → Option R
  | [], F, [], [], acc, K => K F acc
  | t :: r, F, x :: ops, v :: vs, acc, K => match decXV t v with
    | some y => appK r (F y) ops vs (acc ++ [(x, .d (t.xv y))]) K
    | none => none
  | _, _, _, _, _, _ => none
def callArgs (o : Oper) : List Operand :=
  match o.op with
  | .call c => c.args.toList
  | _ => []
def dataRun {R : Type} (args res : List Ty) (F : Fun args (Option (ResT res))) (o : Oper) (st : XSt) (vs : List XV) (K : Out → Option R) : Option R :=
  appK args F (callArgs o) vs [] fun Fv rd => Option.bind Fv fun y => K (quietO st (resXV res y) rd)
theorem resL_data : ∀ (ts : List Ty) (y : ResT ts), areData (asOf (resL ts y)) = true
  | [], _ => rfl
  | [t], y => rfl
  | t :: u :: r, y => by simp only [resL, asOf, areData, resL_data (u :: r) y.2]; rfl
theorem resXV_data (ts : List Ty) (y : ResT ts) : isData (resXV ts y).a = true := by
  unfold resXV
  rw [tupX_a]
  have := resL_data ts y
  cases h : asOf (resL ts y) with
  | nil => rfl
  | cons x r =>
    rw [h] at this
    cases r with
    | nil => simp only [tupled]; simp only [areData, Bool.and_true] at this; exact this
    | cons z s => simp only [tupled, isData]; exact this
theorem xevals_cons {st : XSt} {x : Operand} {ops : List Operand} {v : XV} {vs : List XV} (h : xevals st (x :: ops) = some (v :: vs)) : xeval st x = some v ∧ xevals st ops = some vs := by
  simp only [xevals] at h
  split at h
  · rename_i a l ha hl; cases h; exact ⟨ha, hl⟩
  · cases h
theorem decXV_sees {st : XSt} {x : Operand} {v : XV} {t : Ty} {y : t.T} (h : xeval st x = some v) (hd : decXV t v = some y) : Sees st.im x (.d (t.dv y)) := by
  cases v with
  | d u => exact xeval_d h (t.decv_spec hd)
  | tip n u l ty => exact xd_sees (a := .sl u l) (by simp [xd, h, XV.asD]) (t.decv_spec hd)
  | _ => simp [decXV] at hd
theorem appK_ok {P : Program} {R : Type} {f : FuncId} {res : List Ty} {st : XSt} {K : Option (ResT res) → List (Operand × XV) → Option R} {r : R} : ∀ (ts : List Ty) (F : Fun ts (Option (ResT res))) (ops : List Operand) (vs : List XV) (acc : List (Operand × XV)) (aops : List Operand) (axs : List XV),
    SoundF P f res ts F axs → xevals st ops = some vs → acc = aops.zip axs → aops.length = axs.length → (∀ p ∈ imRd acc, Sees st.im p.1 p.2) → areData (asOf axs) = true → appK ts F ops vs acc K = some r →
    ∃ (Fv : Option (ResT res)) (xs : List XV), xs.length = (aops ++ ops).length ∧ (∀ y, Fv = some y → Does P f (asOf xs) X0 (resXV res y).a X0) ∧ areData (asOf xs) = true ∧
      (∀ p ∈ imRd ((aops ++ ops).zip xs), Sees st.im p.1 p.2) ∧ K Fv ((aops ++ ops).zip xs) = some r
  | [], F, ops, vs, acc, aops, axs, hs, hv, hacc, hlen, hsee, hda, h => by
    cases ops with
    | nil =>
      cases vs with
      | nil =>
        subst hacc
        exact ⟨F, axs, by simp [hlen], hs, hda, by simpa using hsee, by rw [List.append_nil]; exact h⟩
      | cons _ _ => simp [appK] at h
    | cons _ _ => simp [appK] at h
  | t :: ts, F, ops, vs, acc, aops, axs, hs, hv, hacc, hlen, hsee, hda, h => by
    cases ops with
    | nil => simp [appK] at h
    | cons x ops =>
      cases vs with
      | nil => simp [appK] at h
      | cons v vs =>
        simp only [appK] at h
        obtain ⟨hx, hvs⟩ := xevals_cons hv
        split at h
        · rename_i y hy
          have := appK_ok ts (F y) ops vs _ (aops ++ [x]) (axs ++ [.d (t.xv y)]) (hs y) hvs (by rw [hacc, List.zip_append hlen]; rfl) (by simp [hlen]) (by
            intro p hp
            rw [imRd_append] at hp
            rcases List.mem_append.1 hp with hp | hp
            · exact hsee p hp
            · simp only [imRd, List.map_cons, List.map_nil, List.mem_singleton] at hp
              subst hp
              exact decXV_sees hx hy) (by
            have : ∀ l : List AV, areData l = true → areData (l ++ [.d (t.dv y)]) = true := by
              intro l
              induction l with
              | nil => intro _; rfl
              | cons a r ih => intro h; simp only [areData, Bool.and_eq_true, List.cons_append] at h ⊢; exact ⟨h.1, ih h.2⟩
            rw [asOf_append]; exact this _ hda) h
          simpa using this
        · cases h
def mkEnt {P : Program} (id : FuncId) (args res : List Ty) (F : Fun args (Option (ResT res))) (hc : CallI P id) (hs : SoundF P id res args F []) : Ent P where
  id := id
  run := dataRun args res F
  ok := by
    intro R o st aops ts vs K r ho hv h
    unfold dataRun at h
    have e : callArgs o = aops.toList := by simp [callArgs, ho]
    rw [e] at h
    obtain ⟨Fv, xs, h1, h2, h3, h4, h5⟩ := appK_ok (st := st) args F aops.toList vs [] [] [] hs hv rfl rfl (by simp [imRd]) rfl h
    obtain ⟨y, hy, hK⟩ := Option.bind_eq_some_iff.1 h5
    simp only [List.nil_append] at h1 h4 hK
    refine ⟨_, hK, quietO_ok h4 fun X => ?_⟩
    have := op_call (X := X) (xs := asOf xs) ho hc (h2 y hy) (by rw [asOf_length, h1]; simp) h3 (resXV_data res y)
    rw [imRd_zip]
    exact this
def mkFn {P : Program} {Γ : List (Ent P)} {own : List Nat} {N : Nat} (id : FuncId) (fn : Func) (an : An) (args res : List Ty) (F : Fun args (Option (ResT res))) (hm : P.follows .mixedOrders = true) (hf : P.funcs[id]? = some fn)
    (hc : CallI P id) (hn : Nat.ble args.length fn.ntmps = true) (hE : runF P Γ own N fn an args res = F) : Ent P :=
  mkEnt id args res F hc (hE ▸ runF_sound hm hf hn)
end Go.Xl
set_option linter.unusedVariables false
set_option linter.unusedSimpArgs false
set_option linter.unnecessarySimpa false
namespace Go.Xl
open Go.Ab
inductive AK where
  | d (t : Ty)
  | c (f : Nat)
@[reducible] def FunA : List AK → Type → Type
  | [], R => R
  | .d t :: r, R => t.T → FunA r R
  | .c _ :: r, R => FunA r R
inductive RK where
  | d (t : Ty)
  | s
@[reducible] def RK.T : RK → Type
  | .d t => t.T
  | .s => Nat
@[reducible] def ResO : List RK → Type
  | [] => Unit
  | [r] => r.T
  | r :: u :: rs => r.T × ResO (u :: rs)
def RK.val (k : Nat) (t : Ty) : (r : RK) → r.T → XV
  | .d u, x => .d (u.xv x)
  | .s, n => .os k t 0 n
def resLO (k : Nat) (t : Ty) : (rs : List RK) → ResO rs → List XV
  | [], _ => []
  | [r], x => [r.val k t x]
  | r :: u :: rs, x => r.val k t x.1 :: resLO k t (u :: rs) x.2
def osLen (t : Ty) : XV → Option Nat
  | .os k t' a n => cond (Nat.beq k 1) (cond (t'.eqb t) (cond (Nat.beq a 0) (some n) none) none) none
  | _ => none
def RK.dec (t : Ty) : (r : RK) → XV → Option r.T
  | .d u, x => decXV u x
  | .s, x => osLen t x
def decO (t : Ty) : (rs : List RK) → List XV → Option (ResO rs)
  | [], [] => some ()
  | [r], [x] => r.dec t x
  | r :: u :: rs, x :: xs => match r.dec t x, decO t (u :: rs) xs with
    | some y, some ys => some (y, ys)
    | _, _ => none
  | _, _ => none
theorem RK.dec_le {t : Ty} {r : RK} {x : XV} {y : r.T} (h : r.dec t x = some y) : ALe x.a (r.val 1 t y).a := by
  cases r with
  | d u => exact decXV_le h
  | s =>
    change osLen t x = some y at h
    unfold osLen at h
    split at h
    · rename_i k t' a n
      cases h1 : Nat.beq k 1 with
      | false => simp [h1] at h
      | true =>
      cases h2 : t'.eqb t with
      | false => simp [h1, h2] at h
      | true =>
      cases h3 : Nat.beq a 0 with
      | false => simp [h1, h2, h3] at h
      | true =>
        simp only [h1, h2, h3, cond_true, Option.some.injEq] at h
        have e1 := Nat.eq_of_beq_eq_true h1
        have e2 := Ty.eqb_eq h2
        have e3 := Nat.eq_of_beq_eq_true h3
        subst e1; subst e2; subst e3; subst h
        exact .refl _
    · cases h
theorem decO_le {t : Ty} : ∀ {rs : List RK} {xs : List XV} {y : ResO rs}, decO t rs xs = some y → AsLe (asOf xs) (asOf (resLO 1 t rs y))
  | [], xs, y, h => by
    cases xs with
    | nil => exact .nil
    | cons _ _ => simp [decO] at h
  | [r], xs, y, h => by
    cases xs with
    | nil => simp [decO] at h
    | cons x xs =>
      cases xs with
      | nil => exact .cons (RK.dec_le h) .nil
      | cons _ _ => simp [decO] at h
  | r :: u :: rs, xs, y, h => by
    cases xs with
    | nil => simp [decO] at h
    | cons x xs =>
      simp only [decO] at h
      split at h
      · rename_i y1 ys h1 h2
        cases h
        exact .cons (RK.dec_le h1) (decO_le h2)
      · cases h
theorem AsLe.tupX {a b : List XV} (hl : AsLe (asOf a) (asOf b)) : ALe (Xl.tupX a).a (Xl.tupX b).a := by
  rw [tupX_a, tupX_a]
  generalize asOf a = a at hl
  generalize asOf b = b at hl
  cases hl with
  | nil => exact .refl _
  | cons h1 h2 =>
    cases h2 with
    | nil => exact h1
    | cons h3 h4 => exact (AsLe.cons h1 (.cons h3 h4)).tup
def finO (P : Program) (fn : Func) (t : Ty) (rs : List RK) (s : XSt) : Option (List t.T × ResO rs) :=
  match lk 1 s.objs with
  | some (.arr u l) => if h : u.eqb t = true then match xres P s fn.results.toList with
    | some xs => match decO t rs xs with
      | some y => some ((Ty.eqb_eq h ▸ l : List t.T), y)
      | none => none
    | none => none else none
  | _ => none
def finishO (P : Program) (fn : Func) (t : Ty) (rs : List RK) : Exit → XSt → Option (List t.T × ResO rs)
  | .ret, s => finO P fn t rs s
  | .normal, s => finO P fn t rs s
  | _, _ => none
noncomputable def runBO (P : Program) (Γ : List (Ent P)) (own : List Nat) (N : Nat) (fn : Func) (an : An) (t : Ty) (rs : List RK) (l : List t.T) (n : Nat) (xs : List XV) : Option (List t.T × ResO rs) :=
  match fn.body with
  | some c => cond (Nat.ble fn.ntmps GB) (exec P Γ own [1] fn.ntmps N c an ⟨envX 0 (.os 1 t 0 n :: xs), [(1, .arr t l)], [], [], []⟩ (finishO P fn t rs)) none
  | none => none
def O1 (t : Ty) (l : List t.T) : Store := ⟨[(1, (XOb.arr t l).o)], []⟩
theorem runBO_sound {P : Program} {Γ : List (Ent P)} {own : List Nat} {N : Nat} {f : FuncId} {fn : Func} {an : An} {t : Ty} {rs : List RK} {l : List t.T} {n : Nat} {xs : List XV} {y : List t.T × ResO rs} (hm : P.follows .mixedOrders = true) (hf : P.funcs[f]? = some fn)
    (hn : Nat.ble (xs.length + 1) fn.ntmps = true) (h : runBO P Γ own N fn an t rs l n xs = some y) : Does P f (asOf (.os 1 t 0 n :: xs)) (O1 t l) (tupX (resLO 1 t rs y.2)).a (O1 t y.1) := by
  unfold runBO at h
  split at h
  · rename_i c hc
    obtain ⟨hG, h⟩ := condG h
    have hs := exec_sound (S := ⟨fn.ntmps, [1], by simp⟩) hm rfl c an _ _ _ _ (.refl _) h
    intro g w vs hr hl ha
    refine calls_of_wp hf hc (wp_mono (hs (Base.of g w (O1 t l)) g w _ ?_) ?_)
    · refine ⟨rfl, ?_, hr, ?_⟩
      · have := Nat.le_of_ble_eq_true hn
        rw [asOf_length] at hl
        simp at hl ⊢; omega
      · intro s x hx
        have hx' : (envOf 0 (asOf (.os 1 t 0 n :: xs))).lookup s = some x := by rw [← envX_im]; exact hx
        obtain ⟨_, hx'⟩ := envOf_lookup hx'
        rw [Nat.sub_zero] at hx'
        have hlt : s < vs.size := by have := (List.getElem?_eq_some_iff.1 hx').1; omega
        refine ⟨vs[s], ?_, ha s x _ hx' (by simp [hlt])⟩
        have := Nat.le_of_ble_eq_true hn
        rw [asOf_length, List.length_cons] at hl
        rw [slotV_tmp (by omega)]
        simp [Array.getElem?_append, hlt]
    · rintro e a' w' ⟨s, g', ⟨st', rfl, hi, hk⟩, hs'⟩
      have fin : finO P fn t rs st' = some y →
          a'.defers = [] ∧ ∃ v, (results fn a'.tmps).run P w' = .ok v w' ∧ ∃ g' v_1, Ending.returned v = Ending.returned v_1 ∧ RA g' w' (tupX (resLO 1 t rs y.2)).a v_1 ∧ HR ((O1 t l).objs.map (·.1)) (Base.of g w (O1 t l)) g' w' (O1 t y.1) := by
        intro h
        unfold finO at h
        split at h
        · rename_i u l' hk1
          split at h
          · rename_i hu
            have := Ty.eqb_eq hu
            subst this
            split at h
            · rename_i zs h1
              split at h
              · rename_i z h2
                cases h
                obtain ⟨v, hv, hra⟩ := run_results (xres_ok h1) hs'
                have hw : Weak [1] st'.im ⟨[], O1 u l'⟩ := ⟨by simp, by
                  intro p hp
                  simp only [O1, List.mem_singleton] at hp
                  subst hp
                  exact lk_imA hk1, by simp [O1], by simp [O1]⟩
                obtain ⟨g'', ht, hs''⟩ := hs'.weaken' hw
                have hra' := hra.mono ht (.nil _)
                rw [← tupX_a] at hra'
                exact ⟨hs'.defers, v, hv, g'', v, rfl, (AsLe.tupX (decO_le h2)) g'' w' v hra', hs''.hr⟩
              · cases h
            · cases h
          · cases h
        · cases h
      cases e with
      | ret => exact fin hk
      | normal => exact fin hk
      | _ => simp [finishO] at hk
  · cases h
def bindA {α : Type} : (ks : List AK) → (List XV → α) → List XV → FunA ks α
  | [], f, acc => f acc
  | .d t :: r, f, acc => fun x => bindA r f (acc ++ [.d (t.xv x)])
  | .c g :: r, f, acc => bindA r f (acc ++ [.clo g []])
noncomputable def runO (P : Program) (Γ : List (Ent P)) (own : List Nat) (N : Nat) (fn : Func) (an : An) (t : Ty) (ks : List AK) (rs : List RK) (l : List t.T) (n : Nat) : FunA ks (Option (List t.T × ResO rs)) :=
  bindA ks (fun xs => runBO P Γ own N fn an t rs l n xs) []
def SndA {β : Type} (Q : β → List XV → Prop) : (ks : List AK) → FunA ks (Option β) → List XV → Prop
  | [], F, acc => ∀ y, F = some y → Q y acc
  | .d u :: r, F, acc => ∀ x : u.T, SndA Q r (F x) (acc ++ [.d (u.xv x)])
  | .c g :: r, F, acc => SndA Q r F (acc ++ [.clo g []])
def SoundO (P : Program) (f : FuncId) (t : Ty) (rs : List RK) (l : List t.T) (n : Nat) (ks : List AK) (F : FunA ks (Option (List t.T × ResO rs))) (acc : List XV) : Prop :=
  SndA (fun y acc => Does P f (asOf (.os 1 t 0 n :: acc)) (O1 t l) (tupX (resLO 1 t rs y.2)).a (O1 t y.1)) ks F acc
theorem bindA_snd {β : Type} {Q : β → List XV → Prop} {B : List XV → Option β} (m : Nat) (hB : ∀ acc, acc.length ≤ m → ∀ y, B acc = some y → Q y acc) :
    ∀ (ks : List AK) (acc : List XV), acc.length + ks.length ≤ m → SndA Q ks (bindA ks B acc) acc
  | [], acc, hn => fun y hy => hB acc (by simpa using hn) y hy
  | .d u :: r, acc, hn => fun x => bindA_snd m hB r _ (by simp at hn ⊢; omega)
  | .c g :: r, acc, hn => by
    simp only [SndA, bindA]
    exact bindA_snd m hB r (acc ++ [.clo g []]) (by simp at hn ⊢; omega)
theorem runO_sound {P : Program} {Γ : List (Ent P)} {own : List Nat} {N : Nat} {f : FuncId} {fn : Func} {an : An} {t : Ty} {ks : List AK} {rs : List RK} (hm : P.follows .mixedOrders = true) (hf : P.funcs[f]? = some fn)
    (hn : Nat.ble (ks.length + 1) fn.ntmps = true) (l : List t.T) (n : Nat) : SoundO P f t rs l n ks (runO P Γ own N fn an t ks rs l n) [] :=
by
  have h1 := Nat.le_of_ble_eq_true hn
  unfold SoundO runO
  have hB : ∀ acc : List XV, acc.length ≤ fn.ntmps - 1 → ∀ y, runBO P Γ own N fn an t rs l n acc = some y → Does P f (asOf (.os 1 t 0 n :: acc)) (O1 t l) (tupX (resLO 1 t rs y.2)).a (O1 t y.1) :=
    fun acc hl y hy => runBO_sound hm hf (Nat.ble_eq_true_of_le (by omega)) hy
  exact bindA_snd (Q := fun (y : List t.T × ResO rs) acc => Does P f (asOf (.os 1 t 0 n :: acc)) (O1 t l) (tupX (resLO 1 t rs y.2)).a (O1 t y.1)) (fn.ntmps - 1) hB ks [] (by simp; omega)
def asClo : XV → Option Nat
  | .clo g [] => some g
  | _ => none
theorem asClo_eq {v : XV} {g : Nat} (h : asClo v = some g) : v = .clo g [] := by
  unfold asClo at h
  split at h
  · cases h; rfl
  · cases h
def appA {β R : Type} : (ks : List AK) → FunA ks (Option β) → List Operand → List XV → List (Operand × XV) → (Option β → List (Operand × XV) → Option R) → Option R
  | [], F, [], [], acc, K => K F acc
  | .d t :: r, F, x :: ops, v :: vs, acc, K => match decXV t v with
    | some y => appA r (F y) ops vs (acc ++ [(x, .d (t.xv y))]) K
    | none => none
  | .c g :: r, F, x :: ops, v :: vs, acc, K => match asClo v with
    | some g' => cond (Nat.beq g' g) (appA r F ops vs (acc ++ [(x, .clo g [])]) K) none
    | none => none
  | _, _, _, _, _, _ => none
def argX : XV → Bool
  | .d _ => true
  | .clo _ [] => true
  | _ => false
def argsX : List XV → Bool
  | [] => true
  | x :: r => cond (argX x) (argsX r) false
theorem argsX_app {a b : List XV} (ha : argsX a = true) (hb : argsX b = true) : argsX (a ++ b) = true := by
  induction a with
  | nil => exact hb
  | cons x r ih =>
    simp only [argsX, List.cons_append] at ha ⊢
    cases hx : argX x with
    | false => simp [hx] at ha
    | true => simp only [hx, cond_true] at ha ⊢; exact ih ha
theorem argX_map {f : Nat → Nat} {x : XV} (h : argX x = true) : mapAV f x.a = x.a := by
  unfold argX at h
  split at h <;> first | rfl | cases h
theorem argsX_map {f : Nat → Nat} : ∀ {l : List XV}, argsX l = true → mapAVs f (asOf l) = asOf l
  | [], _ => rfl
  | x :: r, h => by
    simp only [argsX] at h
    cases hx : argX x with
    | false => simp [hx] at h
    | true =>
      simp only [hx, cond_true] at h
      simp only [asOf, mapAVs, argX_map hx, argsX_map h]
theorem argsX_names {ks : List Nat} : ∀ {l : List XV}, argsX l = true → namesIns ks (asOf l) = true
  | [], _ => rfl
  | x :: r, h => by
    simp only [argsX] at h
    cases hx : argX x with
    | false => simp [hx] at h
    | true =>
      simp only [hx, cond_true] at h
      have : namesIn ks x.a = true := by
        unfold argX at hx
        split at hx <;> first | rfl | cases hx
      simp only [asOf, namesIns, this, argsX_names h, Bool.and_self]
theorem appA_ok {β R : Type} {Q : β → List XV → Prop} {st : XSt} {K : Option β → List (Operand × XV) → Option R} {r : R} : ∀ (ks : List AK) (F : FunA ks (Option β)) (ops : List Operand) (vs : List XV) (acc : List (Operand × XV)) (aops : List Operand) (axs : List XV),
    SndA Q ks F axs → xevals st ops = some vs → acc = aops.zip axs → aops.length = axs.length → (∀ p ∈ imRd acc, Sees st.im p.1 p.2) → argsX axs = true → appA ks F ops vs acc K = some r →
    ∃ (Fv : Option β) (xs : List XV), xs.length = (aops ++ ops).length ∧ (∀ y, Fv = some y → Q y xs) ∧ argsX xs = true ∧
      (∀ p ∈ imRd ((aops ++ ops).zip xs), Sees st.im p.1 p.2) ∧ K Fv ((aops ++ ops).zip xs) = some r
  | [], F, ops, vs, acc, aops, axs, hs, hv, hacc, hlen, hsee, hda, h => by
    cases ops with
    | nil =>
      cases vs with
      | nil =>
        subst hacc
        exact ⟨F, axs, by simp [hlen], hs, hda, by simpa using hsee, by rw [List.append_nil]; exact h⟩
      | cons _ _ => simp [appA] at h
    | cons _ _ => simp [appA] at h
  | .d u :: ts, F, ops, vs, acc, aops, axs, hs, hv, hacc, hlen, hsee, hda, h => by
    cases ops with
    | nil => simp [appA] at h
    | cons x ops =>
      cases vs with
      | nil => simp [appA] at h
      | cons v vs =>
        simp only [appA] at h
        obtain ⟨hx, hvs⟩ := xevals_cons hv
        split at h
        · rename_i y hy
          have := appA_ok ts (F y) ops vs _ (aops ++ [x]) (axs ++ [.d (u.xv y)]) (hs y) hvs (by rw [hacc, List.zip_append hlen]; rfl) (by simp [hlen]) (by
            intro p hp
            rw [imRd_append] at hp
            rcases List.mem_append.1 hp with hp | hp
            · exact hsee p hp
            · simp only [imRd, List.map_cons, List.map_nil, List.mem_singleton] at hp
              subst hp
              exact decXV_sees hx hy) (argsX_app hda rfl) h
          simpa using this
        · cases h
  | .c g :: ts, F, ops, vs, acc, aops, axs, hs, hv, hacc, hlen, hsee, hda, h => by
    cases ops with
    | nil => simp [appA] at h
    | cons x ops =>
      cases vs with
      | nil => simp [appA] at h
      | cons v vs =>
        simp only [appA] at h
        obtain ⟨hx, hvs⟩ := xevals_cons hv
        split at h
        · rename_i g' hg
          cases h1 : Nat.beq g' g with
          | false => simp [h1] at h
          | true =>
            simp only [h1, cond_true] at h
            have := Nat.eq_of_beq_eq_true h1
            subst this
            have := asClo_eq hg
            subst this
            have := appA_ok ts F ops vs _ (aops ++ [x]) (axs ++ [.clo g' []]) hs hvs (by rw [hacc, List.zip_append hlen]; rfl) (by simp [hlen]) (by
              intro p hp
              rw [imRd_append] at hp
              rcases List.mem_append.1 hp with hp | hp
              · exact hsee p hp
              · simp only [imRd, List.map_cons, List.map_nil, List.mem_singleton] at hp
                subst hp
                exact xeval_sees hx) (argsX_app hda rfl) h
            simpa using this
        · cases h
theorem mapOb_arr (f : Nat → Nat) (t : Ty) (l : List t.T) : mapOb f (XOb.arr t l).o = (XOb.arr t l).o := by
  show Ob.cells (mapAVs f _) none = _
  congr 1
  generalize (l.map t.ds).flatten = ds
  induction ds with
  | nil => rfl
  | cons x r ih => simp only [List.map_cons, mapAVs, mapAV, ih]
theorem namesIns_map_d (ks : List Nat) : ∀ (l : List D), namesIns ks (l.map .d) = true
  | [] => rfl
  | x :: r => by simp only [List.map_cons, namesIns, namesIn, namesIns_map_d ks r, Bool.and_self]
theorem arr_names (ks : List Nat) (t : Ty) (l : List t.T) : namesInOb ks (XOb.arr t l).o = true := namesIns_map_d ks _
theorem resLO_map (k : Nat) (t : Ty) : ∀ (rs : List RK) (y : ResO rs), mapAVs (nf [(1, k)]) (asOf (resLO 1 t rs y)) = asOf (resLO k t rs y)
  | [], _ => rfl
  | [r], y => by cases r <;> rfl
  | r :: u :: rs, y => by
    simp only [resLO, asOf, mapAVs, resLO_map k t (u :: rs) y.2]
    congr 1
    cases r <;> rfl
theorem resLO_tup (k : Nat) (t : Ty) (rs : List RK) (y : ResO rs) : mapAV (nf [(1, k)]) (tupX (resLO 1 t rs y)).a = (tupX (resLO k t rs y)).a := by
  rw [tupX_a, tupX_a]
  have h := resLO_map k t rs y
  generalize asOf (resLO k t rs y) = m at h ⊢
  subst h
  generalize asOf (resLO 1 t rs y) = l
  cases l with
  | nil => rfl
  | cons x r => cases r <;> rfl
theorem resLO_names (t : Ty) : ∀ (rs : List RK) (y : ResO rs), namesIns [1] (asOf (resLO 1 t rs y)) = true
  | [], _ => rfl
  | [r], y => by cases r <;> rfl
  | r :: u :: rs, y => by
    have : namesIn [1] (r.val 1 t y.1).a = true := by cases r <;> rfl
    simp only [resLO, asOf, namesIns, this, resLO_names t (u :: rs) y.2, Bool.and_self]
theorem resLO_tnames (t : Ty) (rs : List RK) (y : ResO rs) : namesIn [1] (tupX (resLO 1 t rs y)).a = true := by
  rw [tupX_a]
  have := resLO_names t rs y
  generalize asOf (resLO 1 t rs y) = l at this ⊢
  cases l with
  | nil => rfl
  | cons x r =>
    cases r with
    | nil => simp only [namesIns, Bool.and_true] at this; exact this
    | cons z s => exact this
def oRun {P : Program} {R : Type} (t : Ty) (ks : List AK) (rs : List RK) (F : List t.T → Nat → FunA ks (Option (List t.T × ResO rs))) (o : Oper) (st : XSt) (vs : List XV) (K : Out → Option R) : Option R :=
  match callArgs o, vs with
  | x :: ops, .os k t' a n :: vs => match lk k st.objs with
    | some (.arr u l) => if h : u.eqb t = true then cond (t'.eqb t) (cond (Nat.beq a 0)
        (appA ks (F (Ty.eqb_eq h ▸ l : List t.T) n) ops vs [] fun Fv rd => Option.bind Fv fun y =>
          K ⟨.put k (.arr t y.1), tupX (resLO k t rs y.2), (x, .os k t 0 n) :: rd, xset k (.arr t y.1) st.objs, st.live, [], [k]⟩) none) none else none
    | _ => none
  | _, _ => none
theorem oRun_ok {P : Program} {R : Type} {f : FuncId} {t : Ty} {ks : List AK} {rs : List RK} {F : List t.T → Nat → FunA ks (Option (List t.T × ResO rs))} (hc : CallI P f) (hs : ∀ l n, SoundO P f t rs l n ks (F l n) []) {o : Oper} {st : XSt} {aops : Array Operand} {ts : Array TypeId} {vs : List XV} {K : Out → Option R} {r : R}
    (ho : o.op = .call { callee := .value (.func f), args := aops, argTypes := ts }) (hv : xevals st aops.toList = some vs) (h : oRun (P := P) t ks rs F o st vs K = some r) : ∃ out, K out = some r ∧ OpOk P o st out := by
  have e : callArgs o = aops.toList := by simp [callArgs, ho]
  unfold oRun at h
  rw [e] at h
  split at h
  · rename_i x ops k t' a n vs' hl
    rw [hl] at hv
    obtain ⟨hx, hvs⟩ := xevals_cons hv
    split at h
    · rename_i u l hk
      split at h
      · rename_i hu
        have e2 := Ty.eqb_eq hu
        subst e2
        cases h2 : t'.eqb u with
        | false => simp [h2] at h
        | true =>
        cases h3 : Nat.beq a 0 with
        | false => simp [h2, h3] at h
        | true =>
          simp only [h2, h3, cond_true] at h
          have e3 := Ty.eqb_eq h2
          have e4 := Nat.eq_of_beq_eq_true h3
          subst e3; subst e4
          obtain ⟨Fv, xs, h1, h2, h3, h4, h5⟩ := appA_ok (st := st) ks (F l n) ops vs' [] [] [] (hs l n) hvs rfl rfl (by simp [imRd]) rfl h
          obtain ⟨y, hy, hK⟩ := Option.bind_eq_some_iff.1 h5
          simp only [List.nil_append] at h1 h4 hK
          refine ⟨_, hK, ⟨?_, ⟨rfl, rfl, rfl, fun X hX => ?_⟩, ?_⟩⟩
          · intro p hp
            rcases List.mem_cons.1 hp with rfl | hp
            · exact xeval_sees hx
            · exact h4 p hp
          · have hlk : X.objs.lookup k = some (XOb.arr t' l).o := by rw [hX]; exact lk_imA hk
            have hoc : ObjCall X (O1 t' l) (O1 t' y.1) (nf [(1, k)]) [] := by
              refine ⟨⟨rfl, rfl⟩, ?_, ?_, ?_, by simp [O1], by simp [O1], ?_, ?_, by simp [objsFree]⟩
              · intro p hp
                simp only [O1, List.mem_singleton] at hp
                subst hp
                simp only [mapOb_arr]
                exact hlk
              · simp [O1, arr_names]
              · simp [O1, arr_names]
              · intro p hp
                simp only [O1, List.mem_singleton] at hp
                subst hp
                exact .inl (by simp [O1])
              · intro p hp
                simp only [O1, List.mem_singleton] at hp
                subst hp
                simp [O1]
            have hcall := op_call_obj (X := X) [(1, k)] [] ho hc (h2 y hy) hoc (by
                have hl' : aops.size = ops.length + 1 := by rw [← Array.length_toList, hl]; rfl
                simp only [asOf, List.length_cons, asOf_length, hl', h1]) (by
                simp only [asOf, namesIns, argsX_names h3, Bool.and_true]; rfl) (resLO_tnames t' rs y.2)
            rw [hl] at hcall
            rw [resLO_tup] at hcall
            have e5 : mapAVs (nf [(1, k)]) (asOf (.os 1 t' 0 n :: xs)) = asOf (.os k t' 0 n :: xs) := by
              simp only [asOf, mapAVs, argsX_map h3]; rfl
            rw [e5] at hcall
            have e6 : imRd ((x, .os k t' 0 n) :: ops.zip xs) = (x :: ops).zip (asOf (.os k t' 0 n :: xs)) := by
              rw [asOf, List.zip_cons_cons, ← imRd_zip]; rfl
            rw [e6]
            have e7 : putObjs (nf [(1, k)]) (O1 t' y.1).objs X.objs = Ab.setObj k (XOb.arr t' y.1).o X.objs := by
              simp only [O1, putObjs, mapOb_arr]; rfl
            rw [e7] at hcall
            exact hcall
          · intro j z hj hz
            simp only [List.mem_singleton] at hj
            rw [lk_xset _ _ _ _ hj] at hz; exact hz
      · cases h
    · cases h
  · cases h
@[reducible] def RK.ty (t : Ty) : RK → Ty
  | .d u => u
  | .s => .sl t
@[reducible] def rkTys (t : Ty) : List RK → List Ty
  | [] => []
  | r :: rs => r.ty t :: rkTys t rs
noncomputable def runO0 (P : Program) (Γ : List (Ent P)) (own : List Nat) (N : Nat) (fn : Func) (an : An) (t : Ty) (ks : List AK) (rs : List RK) : FunA ks (Option (ResT (rkTys t rs))) :=
  bindA ks (fun xs => runB P Γ own N fn an (rkTys t rs) (.d (.sl t []) :: xs)) []
def EmptyS (P : Program) (f : FuncId) (t : Ty) (rs : List RK) (y : ResT (rkTys t rs)) (acc : List XV) : Prop :=
  Does P f (asOf (.d (.sl t []) :: acc)) X0 (resXV (rkTys t rs) y).a X0
theorem runO0_sound {P : Program} {Γ : List (Ent P)} {own : List Nat} {N : Nat} {f : FuncId} {fn : Func} {an : An} {t : Ty} {ks : List AK} {rs : List RK} (hm : P.follows .mixedOrders = true) (hf : P.funcs[f]? = some fn)
    (hn : Nat.ble (ks.length + 1) fn.ntmps = true) : SndA (EmptyS P f t rs) ks (runO0 P Γ own N fn an t ks rs) [] := by
  have h1 := Nat.le_of_ble_eq_true hn
  have hB : ∀ acc : List XV, acc.length ≤ fn.ntmps - 1 → ∀ y, runB P Γ own N fn an (rkTys t rs) (.d (.sl t []) :: acc) = some y → EmptyS P f t rs y acc :=
    fun acc hl y hy => runB_sound hm hf (Nat.ble_eq_true_of_le (by simp; omega)) hy
  exact bindA_snd (Q := EmptyS P f t rs) (fn.ntmps - 1) hB ks [] (by simp; omega)
def isOs : XV → Bool
  | .os _ _ _ _ => true
  | _ => false
def oRun2 {P : Program} {R : Type} (t : Ty) (ks : List AK) (rs : List RK) (F : List t.T → Nat → FunA ks (Option (List t.T × ResO rs))) (F0 : FunA ks (Option (ResT (rkTys t rs)))) (o : Oper) (st : XSt) (vs : List XV) (K : Out → Option R) : Option R :=
  match callArgs o, vs with
  | x :: ops, v :: vs' => cond (isOs v) (oRun (P := P) t ks rs F o st vs K) (match decXV (.sl t) v with
    | some [] => appA ks F0 ops vs' [] fun Fv rd => Option.bind Fv fun y => K (quietO st (resXV (rkTys t rs) y) ((x, .d (.sl t [])) :: rd))
    | _ => none)
  | _, _ => none
theorem argsX_data : ∀ {xs : List XV}, argsX xs = true → areData (asOf xs) = true
  | [], _ => rfl
  | x :: r, h => by
    simp only [argsX] at h
    cases hx : argX x with
    | false => simp [hx] at h
    | true =>
      simp only [hx, cond_true] at h
      have : isData x.a = true := by
        unfold argX at hx
        split at hx <;> first | rfl | cases hx
      simp only [asOf, areData, this, argsX_data h, Bool.and_self]
theorem oRun2_ok {P : Program} {R : Type} {f : FuncId} {t : Ty} {ks : List AK} {rs : List RK} {F : List t.T → Nat → FunA ks (Option (List t.T × ResO rs))} {F0 : FunA ks (Option (ResT (rkTys t rs)))} (hc : CallI P f) (hs : ∀ l n, SoundO P f t rs l n ks (F l n) []) (hs0 : SndA (EmptyS P f t rs) ks F0 []) {o : Oper} {st : XSt} {aops : Array Operand} {ts : Array TypeId} {vs : List XV} {K : Out → Option R} {r : R}
    (ho : o.op = .call { callee := .value (.func f), args := aops, argTypes := ts }) (hv : xevals st aops.toList = some vs) (h : oRun2 (P := P) t ks rs F F0 o st vs K = some r) : ∃ out, K out = some r ∧ OpOk P o st out := by
  have e : callArgs o = aops.toList := by simp [callArgs, ho]
  unfold oRun2 at h
  rw [e] at h
  split at h
  · rename_i x ops v vs' hl
    cases hos : isOs v with
    | true =>
      simp only [hos, cond_true] at h
      exact oRun_ok hc hs ho hv h
    | false =>
      simp only [hos, cond_false] at h
      rw [hl] at hv
      obtain ⟨hx, hvs⟩ := xevals_cons hv
      split at h
      · rename_i hd
        obtain ⟨Fv, xs, h1, h2, h3, h4, h5⟩ := appA_ok (st := st) ks F0 ops vs' [] [] [] hs0 hvs rfl rfl (by simp [imRd]) rfl h
        obtain ⟨y, hy, hK⟩ := Option.bind_eq_some_iff.1 h5
        simp only [List.nil_append] at h1 h4 hK
        refine ⟨_, hK, quietO_ok ?_ fun X => ?_⟩
        · intro p hp
          rcases List.mem_cons.1 hp with rfl | hp
          · exact decXV_sees hx hd
          · exact h4 p hp
        · have hl' : aops.size = ops.length + 1 := by rw [← Array.length_toList, hl]; rfl
          have := op_call (X := X) (xs := asOf (.d (.sl t []) :: xs)) ho hc (h2 y hy) (by simp only [asOf, List.length_cons, asOf_length, hl', h1]) (by
            simp only [asOf, areData, argsX_data h3, Bool.and_true]; rfl) (resXV_data _ y)
          have e6 : imRd ((x, .d (.sl t [])) :: ops.zip xs) = (x :: ops).zip (asOf (.d (.sl t []) :: xs)) := by
            rw [asOf, List.zip_cons_cons, ← imRd_zip]; rfl
          rw [hl] at this
          rw [e6]
          exact this
      · cases h
  · cases h
def mkO2 {P : Program} {Γ : List (Ent P)} {own : List Nat} {N : Nat} (id : FuncId) (fn : Func) (an an0 : An) (t : Ty) (ks : List AK) (rs : List RK) (F : List t.T → Nat → FunA ks (Option (List t.T × ResO rs))) (F0 : FunA ks (Option (ResT (rkTys t rs)))) (hm : P.follows .mixedOrders = true) (hf : P.funcs[id]? = some fn)
    (hc : CallI P id) (hn : Nat.ble (ks.length + 1) fn.ntmps = true) (hE : runO P Γ own N fn an t ks rs = F) (hE0 : runO0 P Γ own N fn an0 t ks rs = F0) : Ent P where
  id := id
  run := oRun2 (P := P) t ks rs F F0
  ok := by
    intro R o st aops ts vs K r ho hv h
    exact oRun2_ok hc (fun l n => hE ▸ runO_sound hm hf hn l n) (hE0 ▸ runO0_sound hm hf hn) ho hv h
end Go.Xl
set_option linter.unusedVariables false
set_option linter.unusedSimpArgs false
set_option linter.unnecessarySimpa false
namespace Go.Xl
open Go.Ab
def finN (P : Program) (fn : Func) (t : Ty) (s : XSt) : Option (Option (List t.T × Nat)) :=
  match xres P s fn.results.toList with
  | some [.os k t' a n] => match lk k s.objs with
    | some (.arr u l) => if h : u.eqb t = true then cond (t'.eqb t) (cond (Nat.beq a 0) (cond (Nat.ble 1000 k) (some (some ((Ty.eqb_eq h ▸ l : List t.T), n))) none) none) none else none
    | _ => none
  | some [x] => match decXV (.sl t) x with
    | some [] => some none
    | _ => none
  | _ => none
def finishN (P : Program) (fn : Func) (t : Ty) : Exit → XSt → Option (Option (List t.T × Nat))
  | .ret, s => finN P fn t s
  | .normal, s => finN P fn t s
  | _, _ => none
noncomputable def runBN (P : Program) (Γ : List (Ent P)) (own : List Nat) (N : Nat) (fn : Func) (an : An) (t : Ty) (xs : List XV) : Option (Option (List t.T × Nat)) :=
  match fn.body with
  | some c => cond (Nat.ble fn.ntmps GB) (exec P Γ own [] fn.ntmps N c an ⟨envX 0 xs, [], [], [], []⟩ (finishN P fn t)) none
  | none => none
def NewS (P : Program) (f : FuncId) (t : Ty) (y : Option (List t.T × Nat)) (xs : List XV) : Prop :=
  match y with
  | none => Does P f (asOf xs) X0 (.d (.sl t.size [])) X0
  | some z => Does P f (asOf xs) X0 (.osl 1 0 z.2 t.size) (O1 t z.1)
theorem does_of_fin {P : Program} {R : Type} {f : FuncId} {fn : Func} {c : Code} {nm : List Nat} {hsm : ∀ j ∈ nm, j < 1000} {xs : List XV} {objs : List (Nat × XOb)} {s0 : XSt} {K : Exit → XSt → Option R} {r : R} {res : AV} {X' : Store}
    (hf : P.funcs[f]? = some fn) (hc : fn.body = some c) (hn : xs.length ≤ fn.ntmps) (hG : fn.ntmps ≤ GB) (hnm : (imObjs objs).map (·.1) = nm) (hs : AWp P ⟨fn.ntmps, nm, hsm⟩ c (PostE s0 K r) (XSt.im ⟨envX 0 xs, objs, [], [], []⟩))
    (hend : ∀ e st', K e st' = some r → e = .ret ∨ e = .normal)
    (fin : ∀ B e st' a' w' g', K e st' = some r → SR ⟨fn.ntmps, nm, hsm⟩ B g' w' st'.im a' → ∃ v g'', (results fn a'.tmps).run P w' = .ok v w' ∧ RA g'' w' res v ∧ HR nm B g'' w' X') :
    Does P f (asOf xs) ⟨imObjs objs, []⟩ res X' := by
  subst hnm
  intro g w vs hr hl ha
  refine calls_of_wp hf hc (wp_mono (hs (Base.of g w ⟨imObjs objs, []⟩) g w _ ?_) ?_)
  · refine ⟨rfl, ?_, hr, ?_⟩
    · rw [asOf_length] at hl
      simp; omega
    · intro t x hx
      have hx' : (envOf 0 (asOf xs)).lookup t = some x := by rw [← envX_im]; exact hx
      obtain ⟨_, hx'⟩ := envOf_lookup hx'
      rw [Nat.sub_zero] at hx'
      have hlt : t < vs.size := by have := (List.getElem?_eq_some_iff.1 hx').1; omega
      refine ⟨vs[t], ?_, ha t x _ hx' (by simp [hlt])⟩
      rw [asOf_length] at hl
      rw [slotV_tmp (by omega)]
      simp [Array.getElem?_append, hlt]
  · rintro e a' w' ⟨s, g', ⟨st', rfl, hi, hk⟩, hs'⟩
    obtain ⟨v, g'', h1, h2, h3⟩ := fin _ e st' a' w' g' hk hs'
    have key : a'.defers = [] ∧ ∃ v, (results fn a'.tmps).run P w' = .ok v w' ∧ ∃ g' v_1, Ending.returned v = Ending.returned v_1 ∧ RA g' w' res v_1 ∧ HR ((imObjs objs).map (·.1)) (Base.of g w ⟨imObjs objs, []⟩) g' w' X' :=
      ⟨hs'.defers, v, h1, g'', v, rfl, h2, h3⟩
    rcases hend e st' hk with rfl | rfl
    · exact key
    · exact key
theorem runBN_sound {P : Program} {Γ : List (Ent P)} {own : List Nat} {N : Nat} {f : FuncId} {fn : Func} {an : An} {t : Ty} {xs : List XV} {y : Option (List t.T × Nat)} (hm : P.follows .mixedOrders = true) (hf : P.funcs[f]? = some fn)
    (hn : Nat.ble xs.length fn.ntmps = true) (h : runBN P Γ own N fn an t xs = some y) : NewS P f t y xs := by
  unfold runBN at h
  split at h
  · rename_i c hc
    obtain ⟨hG, h⟩ := condG h
    have hs := exec_sound (S := ⟨fn.ntmps, [], by simp⟩) hm rfl c an _ _ _ _ (.refl _) h
    have hend : ∀ e st', finishN P fn t e st' = some y → e = .ret ∨ e = .normal := by
      intro e st' hk
      cases e <;> simp_all [finishN]
    have hkey : ∀ e st', finishN P fn t e st' = some y → finN P fn t st' = some y := by
      intro e st' hk
      cases e <;> simp_all [finishN]
    cases y with
    | none =>
      refine does_of_fin (objs := []) (hsm := by simp [imObjs]) hf hc (Nat.le_of_ble_eq_true hn) hG rfl hs hend fun B e st' a' w' g' hk hs' => ?_
      have h := hkey e st' hk
      unfold finN at h
      split at h
      · split at h
        · split at h
          · rename_i k t' a n _ _ _ _ _ _
            cases h2 : t'.eqb t <;> cases h3 : Nat.beq a 0 <;> cases h4 : Nat.ble 1000 k <;> simp [h2, h3, h4] at h
          · cases h
        · cases h
      · rename_i x _ hx
        split at h
        · rename_i hd
          obtain ⟨v, hv, hra⟩ := run_results (xres_ok hx) hs'
          have hw : Weak [] st'.im ⟨[], X0⟩ := ⟨by simp, by simp [X0], by simp [X0], by simp⟩
          obtain ⟨g'', ht, hs''⟩ := hs'.weaken' hw
          have hra' := hra.mono ht (.nil _)
          exact ⟨v, g'', hv, decXV_le hd g'' w' v hra', hs''.hr⟩
        · cases h
      · cases h
    | some z =>
      refine does_of_fin (objs := []) (hsm := by simp [imObjs]) hf hc (Nat.le_of_ble_eq_true hn) hG rfl hs hend fun B e st' a' w' g' hk hs' => ?_
      have h := hkey e st' hk
      unfold finN at h
      split at h
      · rename_i k t' a n hx
        split at h
        · rename_i u l hkl
          split at h
          · rename_i hu
            have := Ty.eqb_eq hu
            subst this
            cases h2 : t'.eqb u with
            | false => simp [h2] at h
            | true =>
            cases h3 : Nat.beq a 0 with
            | false => simp [h2, h3] at h
            | true =>
            cases h4 : Nat.ble 1000 k with
            | false => simp [h2, h3, h4] at h
            | true =>
              simp only [h2, h3, h4, cond_true, Option.some.injEq] at h
              subst h
              have e1 := Ty.eqb_eq h2
              have e2 := Nat.eq_of_beq_eq_true h3
              have e3 := Nat.le_of_ble_eq_true h4
              subst e1; subst e2
              obtain ⟨v, hv, hra⟩ := run_results (xres_ok hx) hs'
              have hw : Weak [] st'.im ⟨[], ⟨[(k, (XOb.arr t' l).o)], []⟩⟩ := ⟨by simp, by
                intro p hp
                simp only [List.mem_singleton] at hp
                subst hp
                exact lk_imA hkl, by simp, by simp⟩
              obtain ⟨g'', ht, hs''⟩ := hs'.weaken' hw
              have hra' := hra.mono ht (.nil _)
              obtain ⟨hr2, ht2⟩ := hs''.hr.renameObj (k := k) (m := 1) (o := (XOb.arr t' l).o) (by simp [imObjs]) (by simp [imObjs]) (by
                have := arr_free [1] t' l
                simp [objsFree, this]) (by simp) (by omega)
              refine ⟨v, _, hv, ?_, hr2.alike ⟨fun j => ?_, rfl⟩⟩
              · refine RA.osl_name (g := g'') (k := k) ?_ (show upd g''.ρ 1 (g''.ρ k) 1 = g''.ρ k from upd_same _ _ _)
                simp only [asOf, tupled, XV.a, Nat.zero_mul] at hra'
                exact hra'
              · simp only [O1, List.lookup_cons, Ab.dropObj]
                by_cases hj : j = 1
                · subst hj; simp
                · simp [hj]
          · cases h
        · cases h
      · split at h <;> cases h
      · cases h
  · cases h
def nRun {P : Program} {R : Type} (t : Ty) (ks : List AK) (F : FunA ks (Option (Option (List t.T × Nat)))) (o : Oper) (st : XSt) (vs : List XV) (K : Out → Option R) : Option R :=
  match newName o with
  | some m => appA ks F (callArgs o) vs [] fun Fv rd => Option.bind Fv fun y => optCase y (K (quietO st (.d (.sl t [])) rd)) fun z =>
      cond (objsFreeB [m] st) (K ⟨.all, .os m t 0 z.2, rd, (m, .arr t z.1) :: dropX m st.objs, st.live, [m], [m]⟩) none
  | none => none
theorem OpT.drop {P : Program} {o : Oper} {rd : List (Operand × AV)} {X X' : Store} {F : List Nat} {res : AV} {m : Nat} (h : OpT P o rd (Ab.dropObj m X) X' F res) (hm : 1000 ≤ m) : OpT P o rd X X' F res := by
  intro nm hsm B g w a hr hrd
  exact h nm hsm B g w a (hr.dropObj fun hh => by have := hsm m hh; omega) hrd
theorem OpT.alikeR {P : Program} {o : Oper} {rd : List (Operand × AV)} {X X' Y : Store} {F : List Nat} {res : AV} (h : OpT P o rd X X' F res) (e : Ab.Alike X' Y) : OpT P o rd X Y F res := by
  intro nm hsm B g w a hr hrd next Q hn
  exact h nm hsm B g w a hr hrd next Q fun g' w' v h1 h2 h3 => hn g' w' v (h1.alike e) h2 h3
theorem nRun_ok {P : Program} {R : Type} {f : FuncId} {t : Ty} {ks : List AK} {F : FunA ks (Option (Option (List t.T × Nat)))} (hc : CallI P f) (hs : SndA (NewS P f t) ks F []) {o : Oper} {st : XSt} {aops : Array Operand} {ts : Array TypeId} {vs : List XV} {K : Out → Option R} {r : R}
    (ho : o.op = .call { callee := .value (.func f), args := aops, argTypes := ts }) (hv : xevals st aops.toList = some vs) (h : nRun (P := P) t ks F o st vs K = some r) : ∃ out, K out = some r ∧ OpOk P o st out := by
  have e : callArgs o = aops.toList := by simp [callArgs, ho]
  unfold nRun at h
  rw [e] at h
  split at h
  · rename_i m hm
    obtain ⟨Fv, xs, h1, h2, h3, h4, h5⟩ := appA_ok (st := st) ks F aops.toList vs [] [] [] hs hv rfl rfl (by simp [imRd]) rfl h
    obtain ⟨y, hy, hK⟩ := Option.bind_eq_some_iff.1 h5
    simp only [List.nil_append] at h1 h4 hK
    have hd := h2 y hy
    cases y with
    | none =>
      simp only [optCase] at hK
      refine ⟨_, hK, quietO_ok h4 fun X => ?_⟩
      have hda : areData (asOf xs) = true := by
        clear h1 h2 h4 h5 hd hK hy
        induction xs with
        | nil => rfl
        | cons x r ih =>
          simp only [argsX] at h3
          cases hx : argX x with
          | false => simp [hx] at h3
          | true =>
            simp only [hx, cond_true] at h3
            have : isData x.a = true := by
              unfold argX at hx
              split at hx <;> first | rfl | cases hx
            simp only [asOf, areData, this, ih h3, Bool.and_self]
      have := op_call (X := X) (xs := asOf xs) ho hc hd (by rw [asOf_length, h1]; simp) hda rfl
      rw [imRd_zip]
      exact this
    | some z =>
      simp only [optCase] at hK
      cases h6 : objsFreeB [m] st with
      | false => simp [h6] at hK
      | true =>
        simp only [h6, cond_true] at hK
        have hm1 := newName_ge hm
        refine ⟨_, hK, ⟨h4, ?_, fun j x hj hx => ?_⟩⟩
        · refine OpT.drop (m := m) ?_ hm1
          have hoc : ObjCall (Ab.dropObj m st.X) X0 (O1 t z.1) (nf [(1, m)]) [m] := by
            refine ⟨⟨rfl, rfl⟩, by simp [X0], by simp [X0], by simp [O1, arr_names], by simp [O1], by simp [X0], ?_, by simp [X0], ?_⟩
            · intro p hp
              simp only [O1, List.mem_singleton] at hp
              subst hp
              exact .inr ⟨by simp [nf], by simp [nf, Ab.dropObj, lookup_filter]⟩
            · have h6 := objsFreeB_ok h6
              unfold objsFree at h6 ⊢
              simp only [List.isEmpty_cons, Bool.false_or] at h6 ⊢
              rw [List.all_eq_true] at h6 ⊢
              intro p hp
              simp only [Ab.dropObj, List.mem_filter] at hp
              exact h6 p hp.1
          have hcall := op_call_obj (X := Ab.dropObj m st.X) [(1, m)] [m] ho hc hd hoc (by rw [asOf_length, h1]; simp) (argsX_names h3) rfl
          rw [argsX_map h3, ← imRd_zip] at hcall
          have e7 : putObjs (nf [(1, m)]) (O1 t z.1).objs (Ab.dropObj m st.X).objs = Ab.setObj m (XOb.arr t z.1).o (Ab.dropObj m st.X).objs := by
            simp only [O1, putObjs, mapOb_arr]; rfl
          rw [e7] at hcall
          have e8 : mapAV (nf [(1, m)]) (.osl 1 0 z.2 t.size) = (XV.os m t 0 z.2).a := by
            simp only [XV.a, Nat.zero_mul]; rfl
          rw [e8] at hcall
          refine OpT.alikeR hcall ⟨fun j => ?_, rfl⟩
          show (Ab.setObj m (XOb.arr t z.1).o (Ab.dropObj m st.X).objs).lookup j = ((m, (XOb.arr t z.1).o) :: imObjs (dropX m st.objs)).lookup j
          rw [lookup_setObj, List.lookup_cons, dropX_im]
          by_cases hj : j = m
          · subst hj; simp
          · have : (j == m) = false := by simpa using hj
            rw [if_neg hj, this]; rfl
        · simp only [List.mem_cons, List.not_mem_nil, or_false] at hj
          rw [lk_cons_ne hj] at hx
          exact lk_dropX hx
  · cases h
def mkNS {P : Program} (id : FuncId) (t : Ty) (ks : List AK) (F : FunA ks (Option (Option (List t.T × Nat)))) (hc : CallI P id) (hs : SndA (NewS P id t) ks F []) : Ent P where
  id := id
  run := nRun (P := P) t ks F
  ok := by
    intro R o st aops ts vs K r ho hv h
    exact nRun_ok hc hs ho hv h
end Go.Xl
set_option linter.unusedVariables false
set_option linter.unusedSimpArgs false
namespace Go.Ab
open Go.RowKit
def fullγ (w : World) (b : Nat) : Nat :=
  match w.heap[b]? with
  | some (.cells c _ _) => c.size
  | _ => 0
def full (w : World) : Gh := { γ := fullγ w, β := fun _ => none, ρ := fun _ => 0 }
theorem full_hr (w : World) : HR [] (Base.of (full w) w X0) (full w) w X0 := by
  refine ⟨by simp, ?_, Nat.le_refl _, ⟨rfl, rfl, rfl, Nat.le_refl _⟩, .refl _ _, fun _ _ _ => ⟨rfl, rfl⟩, by simp [X0], by simp [X0], by simp [X0], by simp [X0], by simp [X0, full], by simp [full], by simp [full], by simp [full], by simp [full], .off fun _ => rfl⟩
  intro b i hi
  simp only [full, fullγ] at hi
  split at hi
  · rename_i c T fr h
    rw [cell?_cells h]
    simp [hi]
  · omega
theorem Does.below {P : Program} {f : FuncId} {args : List AV} {res : AV} (h : Does P f args X0 res X0) {w : World} {vs : Array Value} (hl : args.length = vs.size)
    (ha : ∀ (i : Nat) x v, args[i]? = some x → vs[i]? = some v → RA (full w) w x v) :
    Calls P f vs w fun e w' => ∃ v g', e = .returned v ∧ RA g' w' res v ∧ Below w.heap.size w w' := by
  refine (h (full w) w vs (full_hr w) hl ha).mono ?_
  rintro e w' ⟨g', v, rfl, hr, h1⟩
  refine ⟨v, g', rfl, hr, ⟨h1.io.1, h1.io.2.2.1, h1.io.2.1, h1.base, fun b hb => (h1.frame b hb ?_).1⟩⟩
  rintro (⟨k, o, hk, _⟩ | ⟨n, hn⟩)
  · simp [X0] at hk
  · simp [full] at hn
theorem Does.law {P : Program} {f : FuncId} {args : List AV} (h : Does P f args X0 (.d (.sc (.bool true))) X0) {w : World} {vs : Array Value} (hl : args.length = vs.size)
    (ha : ∀ (i : Nat) x v, args[i]? = some x → vs[i]? = some v → RA (full w) w x v) :
    Calls P f vs w fun e w' => e = .returned (.bool true) ∧ Below w.heap.size w w' := by
  refine (h.below hl ha).mono ?_
  rintro e w' ⟨v, g', rfl, hr, hb⟩
  exact ⟨by rw [hr.sc_inv], hb⟩
inductive RAs (g : Gh) (w : World) : List AV → List Value → Prop
  | nil : RAs g w [] []
  | cons {x : AV} {v : Value} {r : List AV} {rs : List Value} : RA g w x v → RAs g w r rs → RAs g w (x :: r) (v :: rs)
theorem RAs.get {g : Gh} {w : World} {l : List AV} {vs : List Value} (h : RAs g w l vs) : l.length = vs.length ∧ ∀ (i : Nat) x v, l[i]? = some x → vs[i]? = some v → RA g w x v := by
  induction h with
  | nil => exact ⟨rfl, by simp⟩
  | cons h _ ih =>
    refine ⟨by simp [ih.1], ?_⟩
    intro i x u hx hu
    cases i with
    | zero => simp at hx hu; subst hx; subst hu; exact h
    | succ i => exact ih.2 i x u (by simpa using hx) (by simpa using hu)
theorem Does.lawAs {P : Program} {f : FuncId} {args : List AV} (h : Does P f args X0 (.d (.sc (.bool true))) X0) {w : World} {vs : Array Value} (ha : RAs (full w) w args vs.toList) :
    Calls P f vs w fun e w' => e = .returned (.bool true) ∧ Below w.heap.size w w' :=
  h.law (by have := ha.get.1; simpa using this) fun i x v hx hv => ha.get.2 i x v hx (by simpa using hv)
theorem fullγ_cell {w : World} {b i : Nat} {v : Value} (h : w.cell? ⟨b, i, none⟩ = some v) : i < fullγ w b := by
  unfold World.cell? at h
  unfold fullγ
  simp only at h
  split at h
  · rename_i c T fr hh
    rw [hh]
    simp at h
    exact (Array.getElem?_eq_some_iff.1 h).1
  · cases h
end Go.Ab
set_option linter.unusedVariables false
set_option linter.unusedSimpArgs false
namespace Go.Ab
open Go.Sort Go.Proofs
section
variable {P : Program} {o : Oper} {X : Store}
theorem flatV_length {α : Type} {sz : Nat} {enc : α → List Value} (hk : ∀ x, (enc x).length = sz) (l : List α) : (l.map enc).flatten.length = l.length * sz := by
  induction l with
  | nil => simp
  | cons x r ih => simp only [List.map_cons, List.flatten_cons, List.length_append, ih, hk, List.length_cons, Nat.succ_mul]; omega
theorem flatV_get {α : Type} {sz : Nat} {enc : α → List Value} (hk : ∀ x, (enc x).length = sz) : ∀ (l : List α) (j : Nat), (l.map enc).flatten[j]? = (l[j / sz]?).bind fun x => (enc x)[j % sz]?
  | [], j => by simp
  | x :: r, j => by
    have h0 := hk x
    simp only [List.map_cons, List.flatten_cons, List.getElem?_append]
    by_cases hj : j < (enc x).length
    · rw [if_pos hj, Nat.div_eq_of_lt (by omega), Nat.mod_eq_of_lt (by omega)]
      simp
    · rw [if_neg hj, flatV_get hk r, h0]
      by_cases hz : sz = 0
      · subst hz
        simp
        have : ∀ y, enc y = [] := fun y => List.eq_nil_of_length_eq_zero (hk y)
        cases r <;> simp [this]
      · have hle : sz ≤ j := by omega
        rw [← Nat.sub_add_cancel hle]
        simp only [Nat.add_sub_cancel, Nat.add_mod_right, Nat.add_div_right _ (by omega : 0 < sz)]
        simp
theorem flatK_get {α : Type} [Inhabited α] {sz : Nat} {enc : α → List Value} (hk : ∀ x, (enc x).length = sz) (l : List α) (j : Nat) (hj : j < l.length * sz) : (l.map enc).flatten[j]? = some (flatK enc sz l.toArray)[j]! := by
  have hs : 0 < sz := by
    rcases Nat.eq_zero_or_pos sz with h | h
    · rw [h] at hj; omega
    · exact h
  have h1 : j / sz < l.length := by rw [Nat.div_lt_iff_lt_mul hs]; exact hj
  have h2 : j % sz < sz := Nat.mod_lt _ hs
  rw [flatV_get hk, get_flatK enc sz _ _ (by simpa using hj)]
  have e1 : l[j / sz]? = some l[j / sz] := List.getElem?_eq_getElem h1
  have e2 : l.toArray[j / sz]! = l[j / sz] := by
    rw [getElem!_pos _ _ (by simpa using h1)]; simp
  rw [e1, e2]
  simp only [Option.bind_some]
  have h3 : j % sz < (enc l[j / sz]).length := by rw [hk]; exact h2
  rw [List.getElem!_eq_getElem?_getD, List.getElem?_eq_getElem h3]
  rfl
theorem sc_eq {g : Gh} {w : World} {v u : Value} (h : RA g w (.d (.sc v)) u) : u = v := by
  cases h with
  | d _ _ h => cases h; rfl
theorem op_sortK {α : Type} [Inhabited α] {f c : FuncId} {s x : Operand} {ts : Array TypeId} {k len sz : Nat} {enc : α → List Value} (hk : ∀ x, (enc x).length = sz) {l : List α} {ty : Option TypeId} (φ : List α → List α)
    (ho : o.op = .call { callee := .value (.func f), args := #[s, x], argTypes := ts }) (hf : CallI P f) (hlk : X.objs.lookup k = some (.cells ((l.map enc).flatten.map fun v => .d (.sc v)) ty)) (hlen : len ≤ l.length) (hφ : ∀ d, (φ d).length = d.length)
    (hN : ∀ p cap w, Calls P f #[.slice p 0 cap, .func (.func c) #[] #[]] w fun e w' => e = .returned (.tuple #[]) ∧ w' = w)
    (hC : ∀ blk cap w, HoldsK enc sz w blk 0 (l.take len).toArray → blk < w.heap.size → Calls P f #[.slice (some ⟨blk, 0, none⟩) len cap, .func (.func c) #[] #[]] w fun e w' => e = .returned (.tuple #[]) ∧ ∃ n os, w' = sortWorldK enc sz w blk 0 n (φ (l.take len)).toArray os) :
    OpT P o [(s, .osl k 0 len sz), (x, .clo c [])] X ⟨setObj k (.cells (((φ (l.take len) ++ l.drop len).map enc).flatten.map fun v => .d (.sc v)) ty) X.objs, X.live⟩ [] (.tup []) := by
  intro nm hsm B g w a hr hrd next Q hnext
  have e1 := rd0 hrd
  have e2 := hrd (x, .clo c []) (by simp)
  simp only at e1 e2
  obtain ⟨cap, q, hcap, hv, hq, T, c', hsh, hc⟩ := e1.osl_inv
  generalize hfv : a.eval x = fv at e2
  cases e2 with
  | clo _ _ vs hl0 _ =>
  have hvs : vs = #[] := by
    apply Array.eq_empty_of_size_eq_zero; rw [← hl0]; rfl
  subst hvs
  unfold Oper.wp
  have hrun : (execOp a.eval o).run P w = .ok (.enter f #[.slice (some ⟨g.ρ k, q, none⟩) len cap, .func (.func c) #[] #[]]) w := by
    have h1 : (execOp a.eval o).run P w = .ok (.enter f (#[s, x].map a.eval)) w := by
      simp only [execOp, ho, resolve]
      simp [Act.eval, Deferred.ofValue, invoke, run_callFunc hf]
    rw [h1]
    have h2 : #[s, x].map a.eval = #[.slice (some ⟨g.ρ k, q, none⟩) len cap, .func (.func c) #[] #[]] := by
      have h3 : #[s, x].map a.eval = #[a.eval s, a.eval x] := by simp only [List.map_toArray, List.map_cons, List.map_nil]
      rw [h3, hv, hfv]
    rw [h2]
  rw [hrun]
  cases hr.objs k _ hlk with
  | cells _ _ arr T' hb hl hcc hty =>
  have hval : ∀ (j : Nat) (v : Value), (l.map enc).flatten[j]? = some v → arr[j]? = some v := by
    intro j v hj
    have hlt : j < arr.size := by
      have := (List.getElem?_eq_some_iff.1 hj).1
      rw [List.length_map] at hl; omega
    have hr' := hcc j (.d (.sc v)) arr[j] (by rw [List.getElem?_map, hj]; rfl) (by simp [hlt])
    rw [← sc_eq hr']; simp [hlt]
  have hsz : (l.map enc).flatten.length = l.length * sz := flatV_length hk l
  have hszarr : l.length * sz ≤ arr.size := by rw [← hsz]; rw [List.length_map] at hl; exact hl
  by_cases hlen0 : len = 0
  · subst hlen0
    refine (hN _ _ _).mono ?_
    rintro e w' ⟨rfl, rfl⟩
    have he : φ (l.take 0) ++ l.drop 0 = l := by
      have : φ (l.take 0) = [] := List.eq_nil_of_length_eq_zero (by rw [hφ]; simp)
      rw [this]; simp
    rw [he] at hnext
    obtain ⟨hw1, hw2⟩ := hr.write hlk (w' := w') (o' := .cells ((l.map enc).flatten.map fun v => .d (.sc v)) ty) rfl ⟨rfl, rfl, rfl, Nat.le_refl _⟩ (fun _ _ => rfl) (fun _ => .cells _ _ arr T' hb hl hcc hty) (fun s h => h)
    exact hnext g w' _ hw1 hw2 (.tup _ _ rfl (by simp))
  · have hq0 : q = 0 := hq.resolve_left (by omega)
    subst hq0
    have hblk : g.ρ k < w.heap.size := obRel_lt (hr.objs k _ hlk)
    have hd : (l.take len).length = len := by simp; omega
    have hH : HoldsK enc sz w (g.ρ k) 0 (l.take len).toArray := by
      intro j hj
      have hj' : j < len * sz := by rw [size_flatK] at hj; simpa [Nat.min_eq_left hlen] using hj
      have hfl : ((l.take len).map enc).flatten[j]? = (l.map enc).flatten[j]? := by
        have : (l.map enc).flatten = ((l.take len).map enc).flatten ++ ((l.drop len).map enc).flatten := by
          rw [← List.flatten_append, ← List.map_append, List.take_append_drop]
        rw [this, List.getElem?_append_left (by rw [flatV_length hk, hd]; exact hj')]
      have := flatK_get hk (l.take len) j (by rw [hd]; exact hj')
      rw [hfl] at this
      have h3 := hval j _ this
      constructor
      · rw [cell?_cells hb, Nat.zero_add, h3]; rfl
      · simp [World.frozen?, hb]
    refine (hC _ cap w hH hblk).mono ?_
    rintro e w' ⟨rfl, n, os, rfl⟩
    generalize hd' : (φ (l.take len)).toArray = d'
    have hd's : d'.size = len := by rw [← hd']; simp [hφ, hd]
    have hnewlen : (φ (l.take len) ++ l.drop len).length = l.length := by simp [hφ]; omega
    let arr' := putCells id 0 (flatK enc sz d') arr
    have hb' : (putRowK enc sz (Sort.ahead w n) (g.ρ k) 0 d').heap[g.ρ k]? = some (.cells arr' T' (0, 0)) := by
      simp only [putRowK, putRow, mapBlock, Array.getElem?_modify, heap_ahead, hb]
      simp [onCells, arr']
    have harr' : arr'.size = arr.size := by simp [arr', putCells]
    have hget : ∀ j (hj : j < arr.size), arr'[j]? = some (if j < len * sz then (flatK enc sz d')[j]! else arr[j]) := by
      intro j hj
      simp only [arr', putCells, Array.getElem?_mapIdx, Array.getElem?_eq_getElem hj, Option.map_some, size_flatK, hd's, Nat.zero_le, true_and, Nat.zero_add, Nat.sub_zero, id]
    have hwr : HR nm B g (putRowK enc sz (Sort.ahead w n) (g.ρ k) 0 d') ⟨setObj k (.cells (((φ (l.take len) ++ l.drop len).map enc).flatten.map fun v => .d (.sc v)) ty) X.objs, X.live⟩ ∧ Trans [] g w g (putRowK enc sz (Sort.ahead w n) (g.ρ k) 0 d') := by
      refine hr.write hlk (by simp [putRowK]) ⟨rfl, rfl, rfl, by simp [putRowK]⟩ (fun b hbne => ?_) (fun _ => ?_) (fun s hs => ?_)
      · simp only [putRowK, putRow, mapBlock, Array.getElem?_modify, heap_ahead]
        rw [if_neg (Ne.symm hbne)]
      · refine .cells _ _ arr' T' hb' (by rw [harr']; simp only [List.length_map]; rw [flatV_length hk, hnewlen]; exact hszarr) ?_ hty
        intro j y v hy hv'
        rw [List.getElem?_map, Option.map_eq_some_iff] at hy
        obtain ⟨u, hu, rfl⟩ := hy
        have hjlt : j < l.length * sz := by
          have := (List.getElem?_eq_some_iff.1 hu).1
          rw [flatV_length hk, hnewlen] at this; exact this
        have hja : j < arr.size := by omega
        rw [hget j hja] at hv'
        simp only [Option.some.injEq] at hv'
        rw [List.map_append, List.flatten_append] at hu
        have hl1 : ((φ (l.take len)).map enc).flatten.length = len * sz := by rw [flatV_length hk, hφ, hd]
        rw [List.getElem?_append, hl1] at hu
        by_cases hj : j < len * sz
        · rw [if_pos hj] at hu hv'
          rw [flatK_get hk _ _ (by rw [hφ, hd]; exact hj), hd'] at hu
          simp only [Option.some.injEq] at hu
          rw [← hv', hu]
          exact .d _ _ (.sc _)
        · rw [if_neg hj] at hu hv'
          have h4 : (l.map enc).flatten[j]? = some u := by
            have : (l.map enc).flatten = ((l.take len).map enc).flatten ++ ((l.drop len).map enc).flatten := by
              rw [← List.flatten_append, ← List.map_append, List.take_append_drop]
            rw [this, List.getElem?_append_right (by rw [flatV_length hk, hd]; omega), flatV_length hk, hd]
            exact hu
          have h5 := hval j u h4
          rw [Array.getElem?_eq_getElem hja] at h5
          simp only [Option.some.injEq] at h5
          rw [← hv', h5]
          exact .d _ _ (.sc _)
      · simp only [World.shape?, hb] at hs
        simp only [World.shape?, hb', harr']
        exact hs
    obtain ⟨h6, h7⟩ := hwr
    have hgrow : HR nm B g (sortWorldK enc sz w (g.ρ k) 0 n d' os) _ ∧ Trans [] g (putRowK enc sz (Sort.ahead w n) (g.ρ k) 0 d') g (sortWorldK enc sz w (g.ρ k) 0 n d' os) :=
      h6.grow (by simp [sortWorldK]) (fun b hbl => heap_grow_old _ _ hbl) ⟨rfl, rfl, rfl, Nat.le_refl _⟩
    exact hnext g _ _ hgrow.1 (h7.trans hgrow.2) (.tup _ _ rfl (by simp))
theorem op_sort_nil {f c : FuncId} {s x : Operand} {ts : Array TypeId} {sz : Nat} (ho : o.op = .call { callee := .value (.func f), args := #[s, x], argTypes := ts }) (hf : CallI P f)
    (hN : ∀ p cap w, Calls P f #[.slice p 0 cap, .func (.func c) #[] #[]] w fun e w' => e = .returned (.tuple #[]) ∧ w' = w) :
    OpT P o [(s, .d (.sl sz [])), (x, .clo c [])] X X [] (.tup []) := by
  intro nm hsm B g w a hr hrd next Q hnext
  have e1 := rd0 hrd
  have e2 := hrd (x, .clo c []) (by simp)
  simp only at e1 e2
  have hv : ∃ p cap, a.eval s = .slice p 0 cap := by
    generalize a.eval s = v at e1
    cases e1 with
    | d _ _ h =>
      cases h with
      | nil => exact ⟨_, _, rfl⟩
      | sl _ _ b off len cap hl => subst hl; exact ⟨_, _, rfl⟩
  obtain ⟨p, cap, hv⟩ := hv
  generalize hfv : a.eval x = fv at e2
  cases e2 with
  | clo _ _ vs hl0 _ =>
  have hvs : vs = #[] := by
    apply Array.eq_empty_of_size_eq_zero; rw [← hl0]; rfl
  subst hvs
  unfold Oper.wp
  have hrun : (execOp a.eval o).run P w = .ok (.enter f #[.slice p 0 cap, .func (.func c) #[] #[]]) w := by
    have h1 : (execOp a.eval o).run P w = .ok (.enter f (#[s, x].map a.eval)) w := by
      simp only [execOp, ho, resolve]
      simp [Act.eval, Deferred.ofValue, invoke, run_callFunc hf]
    rw [h1]
    have h2 : #[s, x].map a.eval = #[.slice p 0 cap, .func (.func c) #[] #[]] := by
      have h3 : #[s, x].map a.eval = #[a.eval s, a.eval x] := by simp only [List.map_toArray, List.map_cons, List.map_nil]
      rw [h3, hv, hfv]
    rw [h2]
  rw [hrun]
  refine (hN _ _ _).mono ?_
  rintro e w' ⟨rfl, rfl⟩
  exact hnext g w' _ hr (.refl _ _ _) (.tup _ _ rfl (by simp))
theorem Does.grown {f : FuncId} {args : List AV} {rv : Value} (h : Does P f args X0 (.d (.sc rv)) X0) {w : World} {vs : Array Value} (hl : args.length = vs.size)
    (ha : ∀ (i : Nat) x v, args[i]? = some x → vs[i]? = some v → RA (full w) w x v) :
    Calls P f vs w fun e w' => e = .returned rv ∧ ∃ q os', w' = Sort.grow (w.drewN q) os' := by
  refine (h (full w) w vs (full_hr w) hl ha).mono ?_
  rintro e w' ⟨g', v, rfl, hr, h1⟩
  rw [sc_eq hr]
  refine ⟨rfl, w'.drawn - w.drawn, w'.heap.extract w.heap.size w'.heap.size, ?_⟩
  have hna : ∀ b, ¬ (Base.of (full w) w X0).allowed b := by
    rintro b (⟨k, o, hk, _⟩ | ⟨n, hn⟩)
    · simp [X0] at hk
    · simp [full] at hn
  have hb : w.heap.size ≤ w'.heap.size := h1.base
  have hheap : w'.heap = w.heap ++ w'.heap.extract w.heap.size w'.heap.size := by
    apply Array.ext_getElem?
    intro b
    rw [Array.getElem?_append]
    split
    · rename_i hlt
      exact (h1.frame b hlt (hna b)).1
    · rename_i hge
      simp only [Array.getElem?_extract]
      split
      · congr 1; omega
      · rw [Array.getElem?_eq_none]; omega
  have hio := h1.io
  have hd : w.drawn + (w'.drawn - w.drawn) = w'.drawn := Nat.add_sub_cancel' hio.2.2.2
  obtain ⟨hp, tp, dr, os, ou⟩ := w'
  obtain ⟨hp0, tp0, dr0, os0, ou0⟩ := w
  simp only at hheap hd ⊢
  obtain ⟨i1, i2, i3, _⟩ := hio
  change os = os0 at i1
  change ou = ou0 at i2
  change tp = tp0 at i3
  subst i1 i2 i3
  unfold Sort.grow World.drewN
  simp only [hd]
  rw [← hheap]
end
end Go.Ab
set_option linter.unusedVariables false
set_option linter.unusedSimpArgs false
set_option linter.unnecessarySimpa false
namespace Go.Xl
open Go.Ab Go.Sort Go.Proofs
def Ty.dflt : (t : Ty) → t.T
  | .int _ => (0 : Int)
  | .u8 => (0 : UInt8)
  | .bool => false
  | .str => ([] : List UInt8)
  | .sl _ => []
  | .unit => ()
  | .pair a b => (a.dflt, b.dflt)
  | .st1 a => a.dflt
  | .tab _ => []
  | .err => false
  | .ic _ _ => none
  | .ptr => ()
def scOf : D → Value
  | .sc v => v
  | _ => undef
def plainDs : List D → Bool
  | [] => true
  | .sc _ :: r => plainDs r
  | _ :: _ => false
theorem plainDs_eq : ∀ {l : List D}, plainDs l = true → (l.map scOf).map .sc = l
  | [], _ => rfl
  | .sc v :: r, h => by simp only [List.map_cons, scOf]; rw [plainDs_eq (l := r) h]
  | .agg _ :: r, h => by simp [plainDs] at h
  | .sl _ _ :: r, h => by simp [plainDs] at h
  | .ep _ :: r, h => by simp [plainDs] at h
  | .any _ :: r, h => by simp [plainDs] at h
def Ty.vals (t : Ty) (x : t.T) : List Value := (t.ds x).map scOf
structure Ty.Plain (t : Ty) : Prop where
  ok : ∀ x : t.T, plainDs (t.ds x) = true
theorem Ty.Plain.vals {t : Ty} (h : t.Plain) (x : t.T) : (t.vals x).map D.sc = t.ds x := plainDs_eq (h.ok x)
theorem Ty.vals_length (t : Ty) (x : t.T) : (t.vals x).length = t.size := by simp [Ty.vals, Ty.ds_length]
theorem Ty.Plain.flat {t : Ty} (h : t.Plain) (l : List t.T) : ((l.map t.vals).flatten.map fun v => AV.d (.sc v)) = ((l.map t.ds).flatten.map .d) := by
  induction l with
  | nil => rfl
  | cons x r ih =>
    simp only [List.map_cons, List.flatten_cons, List.map_append, ih]
    rw [← h.vals x, List.map_map]; rfl
@[reducible] def tyInh (T : Ty) : Inhabited T.T := ⟨T.dflt⟩
structure Sorts (P : Program) (f c : FuncId) (T : Ty) (φ : List T.T → List T.T) : Prop where
  plain : T.Plain
  ci : CallI P f
  len : ∀ d, (φ d).length = d.length
  none : ∀ p cap w, Calls P f #[.slice p 0 cap, .func (.func c) #[] #[]] w fun e w' => e = .returned (.tuple #[]) ∧ w' = w
  some : letI := tyInh T; ∀ (l : List T.T) blk cap w, l.length ≤ 4611686018427387903 → HoldsK T.vals T.size w blk 0 l.toArray → blk < w.heap.size →
    Calls P f #[.slice (some ⟨blk, 0, .none⟩) l.length cap, .func (.func c) #[] #[]] w fun e w' => e = .returned (.tuple #[]) ∧ ∃ n os, w' = sortWorldK T.vals T.size w blk 0 n (φ l).toArray os
def sortRun {P : Program} {R : Type} (c : FuncId) (T : Ty) (φ : List T.T → List T.T) (o : Oper) (st : XSt) (vs : List XV) (K : Out → Option R) : Option R :=
  match callArgs o, vs with
  | [s, x], [v, .clo c' []] => cond (Nat.beq c' c) (match v with
    | .os k t a len => match lk k st.objs with
      | some (.arr u l) => if h : u.eqb T = true then cond (t.eqb T) (cond (Nat.beq a 0) (cond (Nat.ble len l.length) (cond (Nat.ble len 4611686018427387903)
          (K ⟨.put k (.arr T (φ ((Ty.eqb_eq h ▸ l : List T.T).take len) ++ (Ty.eqb_eq h ▸ l : List T.T).drop len)), .tup [], [(s, .os k T 0 len), (x, .clo c [])],
            xset k (.arr T (φ ((Ty.eqb_eq h ▸ l : List T.T).take len) ++ (Ty.eqb_eq h ▸ l : List T.T).drop len)) st.objs, st.live, [], [k]⟩) none) none) none) none else none
      | _ => none
    | v => match decXV (.sl T) v with
      | some [] => K (quietO st (.tup []) [(s, .d (.sl T [])), (x, .clo c [])])
      | _ => none) none
  | _, _ => none
theorem sortRun_ok {P : Program} {R : Type} {f c : FuncId} {T : Ty} {φ : List T.T → List T.T} (hS : Sorts P f c T φ) {o : Oper} {st : XSt} {aops : Array Operand} {ts : Array TypeId} {vs : List XV} {K : Out → Option R} {r : R}
    (ho : o.op = .call { callee := .value (.func f), args := aops, argTypes := ts }) (hv : xevals st aops.toList = some vs) (h : sortRun (P := P) c T φ o st vs K = some r) : ∃ out, K out = some r ∧ OpOk P o st out := by
  have e : callArgs o = aops.toList := by simp [callArgs, ho]
  unfold sortRun at h
  rw [e] at h
  split at h
  · rename_i s x v c' hl
    have ho' : o.op = .call { callee := .value (.func f), args := #[s, x], argTypes := ts } := by rw [ho, ← hl]
    rw [hl] at hv
    obtain ⟨hs, hv⟩ := xevals_cons hv
    obtain ⟨hx, _⟩ := xevals_cons hv
    cases h1 : Nat.beq c' c with
    | false => simp [h1] at h
    | true =>
    have e1 := Nat.eq_of_beq_eq_true h1
    subst e1
    simp only [h1, cond_true] at h
    have sx : Sees st.im x (.clo c' []) := xeval_sees hx
    split at h
    · rename_i k t a len
      split at h
      · rename_i u l hk
        split at h
        · rename_i hu
          have e2 := Ty.eqb_eq hu
          subst e2
          cases h2 : t.eqb u with
          | false => simp [h2] at h
          | true =>
          cases h3 : Nat.beq a 0 with
          | false => simp [h2, h3] at h
          | true =>
          cases h4 : Nat.ble len l.length with
          | false => simp [h2, h3, h4] at h
          | true =>
          cases h5 : Nat.ble len 4611686018427387903 with
          | false => simp only [h2, h3, h4, h5, cond_true, cond_false] at h; cases h
          | true =>
            simp only [h2, h3, h4, h5, cond_true] at h
            have e3 := Ty.eqb_eq h2
            have e4 := Nat.eq_of_beq_eq_true h3
            have e5 := Nat.le_of_ble_eq_true h4
            have e6 := Nat.le_of_ble_eq_true h5
            subst e3; subst e4
            refine ⟨_, h, ⟨?_, ⟨rfl, rfl, rfl, fun X hX => ?_⟩, ?_⟩⟩
            · intro p hp
              simp only [imRd, List.map_cons, List.map_nil, List.mem_cons, List.not_mem_nil, or_false] at hp
              rcases hp with rfl | rfl
              · exact xeval_sees hs
              · exact sx
            · have hlk : X.objs.lookup k = some (.cells ((l.map t.vals).flatten.map fun v => .d (.sc v)) none) := by
                rw [hX, show st.X.objs.lookup k = _ from lk_imA hk, hS.plain.flat]; rfl
              have key : OpT P o (imRd [(s, .os k t 0 len), (x, .clo c' [])]) X ⟨Ab.setObj k (XOb.arr t (φ (l.take len) ++ l.drop len)).o X.objs, X.live⟩ [] (XV.tup []).a := by
                letI := tyInh t
                have := op_sortK (X := X) (enc := t.vals) (sz := t.size) t.vals_length φ ho' hS.ci hlk e5 hS.len hS.none (fun blk cap w hH hb => by
                  have hd : (l.take len).length = len := by simp; omega
                  have := hS.some (l.take len) blk cap w (by omega) hH hb
                  rw [hd] at this
                  exact this)
                rw [hS.plain.flat] at this
                simp only [imRd, List.map_cons, List.map_nil, XV.a, Nat.zero_mul, asOf]
                exact this
              exact key
            · intro j y hj hy
              simp only [List.mem_singleton] at hj
              rw [lk_xset _ _ _ _ hj] at hy; exact hy
        · cases h
      · cases h
    · rename_i v hne
      split at h
      · rename_i hd
        refine ⟨_, h, quietO_ok ?_ fun X => ?_⟩
        · intro p hp
          simp only [imRd, List.map_cons, List.map_nil, List.mem_cons, List.not_mem_nil, or_false] at hp
          rcases hp with rfl | rfl
          · exact decXV_sees hs hd
          · exact sx
        · exact op_sort_nil ho' hS.ci hS.none
      · cases h
  · cases h
def mkSort {P : Program} {f c : FuncId} {T : Ty} {φ : List T.T → List T.T} (hS : Sorts P f c T φ) : Ent P where
  id := f
  run := sortRun (P := P) c T φ
  ok := by
    intro R o st aops ts vs K r ho hv h
    exact sortRun_ok hS ho hv h
end Go.Xl
set_option linter.unusedVariables false
set_option linter.unusedSimpArgs false
namespace Go.Xl
open Go.Ab
def cloneF (t : Ty) (bytes : Nat) (l : List t.T) : Option (Option (List t.T × Nat)) :=
  listCase l (some none) fun y r => cond (fitsB (y :: r).length bytes) (some (some (y :: r, (y :: r).length))) none
theorem NewS.empty {P : Program} {f : FuncId} {t : Ty} {xs : List XV} (h : NewS P f t (some ([], 0)) xs) : NewS P f t none xs := by
  intro g w vs hr hl ha
  refine (h g w vs hr hl ha).mono ?_
  rintro e w' ⟨g', v, rfl, h1, h2⟩
  refine ⟨g', v, rfl, ?_, ?_⟩
  · obtain ⟨cap, o, _, hv, _⟩ := RA.osl_inv h1
    rw [hv]
    exact .d _ _ (.nil _ _ _ (by simp))
  · refine (h2.dropObj (k := 1) (by simp [X0])).alike ⟨fun j => ?_, rfl⟩
    simp only [O1, Ab.dropObj, X0]
    by_cases hj : j = 1
    · subst hj; rfl
    · rfl
theorem clone_sound {P : Program} {own : List Nat} {N : Nat} {f : FuncId} {fn : Func} {an : An} {t : Ty} {bytes : Nat} (hm : P.follows .mixedOrders = true) (hf : P.funcs[f]? = some fn) (hn : Nat.ble 1 fn.ntmps = true)
    (h1 : ∀ y r, runBN P [] own N fn an t [.d (.sl t (y :: r))] = cond (fitsB (0 + (y :: r).length) bytes) (some (some ([] ++ y :: r, 0 + (y :: r).length))) none)
    (h2 : runBN P [] own N fn an t [.d (.v (.slice none 0 0))] = some none) (h3 : ∀ a cap, runBN P [] own N fn an t [.d (.v (.slice (some a) 0 cap))] = some (some ([], 0))) :
    SndA (NewS P f t) [.d (.sl t)] (cloneF t bytes) [] := by
  intro l y hy
  cases l with
  | cons x r =>
    simp only [cloneF, listCase] at hy
    have h1' := h1 x r
    rw [Nat.zero_add, List.nil_append] at h1'
    rw [← h1'] at hy
    exact runBN_sound hm hf hn hy
  | nil =>
    simp only [cloneF, listCase, Option.some.injEq] at hy
    subst hy
    have k2 := runBN_sound (xs := [.d (.v (.slice none 0 0))]) hm hf hn h2
    have k3 := fun a cap => (runBN_sound (xs := [.d (.v (.slice (some a) 0 cap))]) hm hf hn (h3 a cap)).empty
    intro g w vs hr hl ha
    have hsz : vs.size = 1 := by rw [← hl]; rfl
    have e0 := ha 0 _ vs[0] rfl (by simp [hsz])
    generalize hv : vs[0] = v at e0
    have hp : ∃ p cap, v = .slice p 0 cap ∧ (p = none → cap = 0) := by
      cases e0 with
      | d _ _ h =>
        cases h with
        | nil _ p cap h0 => exact ⟨_, _, rfl, h0⟩
        | sl _ _ b off len cap hl => subst hl; exact ⟨_, _, rfl, by simp⟩
    obtain ⟨p, cap, rfl, h0⟩ := hp
    have args : ∀ x : XV, RA g w x.a (.slice p 0 cap) → ∀ (i : Nat) z u, (asOf [x])[i]? = some z → vs[i]? = some u → RA g w z u := by
      intro x hx i z u hz hu
      cases i with
      | zero =>
        simp only [asOf, List.getElem?_cons_zero, Option.some.injEq] at hz
        subst hz
        have : u = vs[0] := by
          rw [Array.getElem?_eq_getElem (by omega)] at hu
          exact (Option.some.inj hu).symm
        rw [this, hv]; exact hx
      | succ i => simp [asOf] at hz
    cases p with
    | none =>
      have := h0 rfl
      subst this
      exact k2 g w vs hr (by simpa [asOf] using hl) (args _ (.d _ _ (.sc _)))
    | some a => exact k3 a cap g w vs hr (by simpa [asOf] using hl) (args _ (.d _ _ (.sc _)))
theorem NewS.frozen {P : Program} {f : FuncId} {t : Ty} {xs : List XV} {z : List t.T × Nat} (h : NewS P f t (some z) xs) (hz : z.2 ≤ z.1.length) : Does P f (asOf xs) X0 (.d (.sl t.size ((z.1.take z.2).map t.ds))) X0 := by
  intro g w vs hr hl ha
  refine (h g w vs hr hl ha).mono ?_
  rintro e w' ⟨g', v, rfl, h1, h2⟩
  obtain ⟨f1, f2, f3⟩ := HR.freeze (k := 1) (sz := t.size) (es := z.1.map t.ds) (ty := none) h2 (by simp [X0]) rfl (by
    intro i cs hc
    rw [List.getElem?_map, Option.map_eq_some_iff] at hc
    obtain ⟨y, _, rfl⟩ := hc
    exact t.ds_length y)
  refine ⟨_, v, rfl, ?_, f1.alike ⟨fun j => ?_, rfl⟩⟩
  · have := f3 0 z.2 v (by simpa using hz) (by simpa using h1)
    rw [List.drop_zero, ← List.map_take] at this
    exact this
  · simp only [O1, Ab.dropObj, X0]
    by_cases hj : j = 1
    · subst hj; rfl
    · rfl
def cloneD (t : Ty) (bytes : Nat) (l : List t.T) : Option (List t.T) :=
  listCase l (some []) fun y r => cond (fitsB (y :: r).length bytes) (some (y :: r)) none
theorem cloneD_sound {P : Program} {f : FuncId} {t : Ty} {bytes : Nat} (h : SndA (NewS P f t) [.d (.sl t)] (cloneF t bytes) []) : SoundF P f [.sl t] [.sl t] (cloneD t bytes) [] := by
  intro l y hy
  cases l with
  | nil =>
    simp only [cloneD, listCase, Option.some.injEq] at hy
    subst hy
    exact h [] none rfl
  | cons x r =>
    simp only [cloneD, listCase] at hy
    cases hb : fitsB (x :: r).length bytes with
    | false => simp only [hb, cond_false] at hy; cases hy
    | true =>
      simp only [hb, cond_true, Option.some.injEq] at hy
      subst hy
      have := h (x :: r) (some (x :: r, (x :: r).length)) (by simp only [cloneF, listCase, hb, cond_true])
      have := this.frozen (Nat.le_refl _)
      rw [List.take_length] at this
      exact this
end Go.Xl
set_option linter.unusedVariables false
set_option linter.unusedSimpArgs false
set_option linter.unnecessarySimpa false
namespace Go.Xl
open Go.Ab
def GHold (g : Gh) (w : World) (gs : List (Nat × AV)) : Prop := ∀ p ∈ gs, RA g w p.2 (.pointer (some ⟨p.1, 0, none⟩))
def DoesG (P : Program) (f : FuncId) (args : List AV) (gs : List (Nat × AV)) (res : AV) : Prop :=
  ∀ (g : Gh) (w : World) (vs : Array Value), HR [] (Base.of g w X0) g w X0 → GHold g w gs → args.length = vs.size →
    (∀ (i : Nat) x v, args[i]? = some x → vs[i]? = some v → RA g w x v) →
    Calls P f vs w fun e w' => ∃ g' v, e = .returned v ∧ RA g' w' res v ∧ HR [] (Base.of g w X0) g' w' X0
theorem DoesG.plain {P : Program} {f : FuncId} {args : List AV} {res : AV} (h : DoesG P f args [] res) : Does P f args X0 res X0 :=
  fun g w vs hr hl ha => h g w vs hr (by simp [GHold]) hl ha
theorem DoesG.use {P : Program} {X : Store} {f : FuncId} {xs : List AV} {gs : List (Nat × AV)} {res : AV} (hs : DoesG P f xs gs res) (hd : areData xs = true) (hg : areData (gs.map (·.2)) = true) (hdr : isData res = true) {nm : List Nat} {B : Base} {g : Gh} {w : World}
    (hr : HR nm B g w X) (hgs : GHold g w gs) {vs : Array Value} (hl : xs.length = vs.size) (hvs : ∀ (i : Nat) x v, xs[i]? = some x → vs[i]? = some v → RA g w x v) :
    Calls P f vs w fun e w' => ∃ v g', e = .returned v ∧ HR nm B g' w' X ∧ Trans [] g w g' w' ∧ RA g' w' res v := by
  have h0 : HR [] (Base.of { g with β := fun _ => none } w X0) { g with β := fun _ => none } w X0 :=
    ⟨by simp, hr.sane, Nat.le_refl _, ⟨rfl, rfl, rfl, Nat.le_refl _⟩, .refl _ _, fun b _ _ => ⟨rfl, rfl⟩, by simp [X0], by simp [X0], by simp [X0], by simp [X0], by simp [X0], by simp, by simp, by simp, by simp, .off fun _ => rfl⟩
  have hgs' : GHold { g with β := fun _ => none } w gs := by
    intro p hp
    obtain ⟨i, hi⟩ := List.getElem?_of_mem hp
    exact (hgs p hp).data (areData_get hg (i := i) (by rw [List.getElem?_map, hi]; rfl)) (.refl _ _)
  have := hs { g with β := fun _ => none } w vs h0 hgs' hl fun i x v hx hv => (hvs i x v hx hv).data (areData_get hd hx) (.refl _ _)
  refine this.mono ?_
  rintro e w' ⟨gc, v, rfl, hra, h1⟩
  obtain ⟨h2, h3⟩ := hr.pureCall (gc := gc) h1
  exact ⟨v, _, rfl, h2, h3, hra.data hdr (.refl _ _)⟩
theorem areData_zip : ∀ {l : List AV} (ks : List Nat), areData l = true → areData ((ks.zip l).map (·.2)) = true
  | [], ks, _ => by cases ks <;> rfl
  | x :: r, [], _ => rfl
  | x :: r, k :: ks, h => by
    simp only [areData, Bool.and_eq_true] at h
    simp only [List.zip_cons_cons, List.map_cons, areData, Bool.and_eq_true]
    exact ⟨h.1, areData_zip ks h.2⟩
def glE : List Nat → List XV → List (Nat × XV)
  | k :: ks, x :: r => (GB + k, x) :: glE ks r
  | _, _ => []
theorem glE_mem : ∀ {gids : List Nat} {xs : List XV} {t : Nat} {x : AV}, (t, x) ∈ imEnv (glE gids xs) → ∃ k, t = GB + k ∧ (k, x) ∈ gids.zip (asOf xs)
  | [], xs, t, x, h => by simp [glE, imEnv] at h
  | k :: ks, [], t, x, h => by simp [glE, imEnv] at h
  | k :: ks, y :: r, t, x, h => by
    simp only [glE, imEnv, List.map_cons, List.mem_cons, Prod.mk.injEq] at h
    rcases h with ⟨rfl, rfl⟩ | h
    · exact ⟨k, rfl, by simp [asOf]⟩
    · obtain ⟨k', h1, h2⟩ := glE_mem (gids := ks) (xs := r) (t := t) (x := x) (by simpa [imEnv] using h)
      exact ⟨k', h1, by simp only [asOf, List.zip_cons_cons]; exact List.mem_cons_of_mem _ h2⟩
def gops : List Nat → List Operand
  | [] => []
  | k :: r => .global k :: gops r
theorem gops_map (l : List Nat) : gops l = l.map Operand.global := by
  induction l with
  | nil => rfl
  | cons k r ih => simp [gops, ih]
def appL {α : Type} : List α → List α → List α
  | [], b => b
  | x :: r, b => x :: appL r b
theorem appL_eq {α : Type} (a b : List α) : appL a b = a ++ b := by
  induction a with
  | nil => rfl
  | cons x r ih => simp [appL, ih]
theorem xevals_append {st : XSt} : ∀ {a b : List Operand} {u v : List XV}, xevals st a = some u → xevals st b = some v → xevals st (a ++ b) = some (u ++ v)
  | [], b, u, v, h, h' => by simp [xevals] at h; subst h; exact h'
  | x :: a, b, u, v, h, h' => by
    simp only [xevals] at h
    split at h
    · rename_i y l hy hl
      cases h
      simp only [List.cons_append, xevals, hy, xevals_append hl h']
    · cases h
end Go.Xl
set_option linter.unusedVariables false
set_option linter.unusedSimpArgs false
set_option linter.unnecessarySimpa false
namespace Go.Xl
open Go.Ab
mutual
def XV.mp (f fl : Nat → Nat) : XV → XV
  | .d x => .d x
  | .nm k p => .nm (f k) p
  | .tip n t l ty => .tip (fl n) t l ty
  | .tup l => .tup (mpL f fl l)
  | .agg l => .agg (mpL f fl l)
  | .clo g l => .clo g (mpL f fl l)
  | .os k t a len => .os (f k) t a len
  | .el k t i fo => .el (f k) t i fo
  | .tpt n e x l => .tpt (fl n) e x l
def mpL (f fl : Nat → Nat) : List XV → List XV
  | [] => []
  | x :: r => x.mp f fl :: mpL f fl r
end

mutual
theorem XV.mp_a (f fl : Nat → Nat) : ∀ x : XV, (x.mp f fl).a = mapL f fl x.a
  | .d x => rfl
  | .nm k p => rfl
  | .tip n t l ty => rfl
  | .tup l => by simp only [XV.mp, XV.a, mapL, mpL_a f fl l]
  | .agg l => by simp only [XV.mp, XV.a, mapL, mpL_a f fl l]
  | .clo g l => by simp only [XV.mp, XV.a, mapL, mpL_a f fl l]
  | .os k t a len => rfl
  | .el k t i fo => rfl
  | .tpt n e x l => rfl
theorem mpL_a (f fl : Nat → Nat) : ∀ l : List XV, asOf (mpL f fl l) = mapLs f fl (asOf l)
  | [] => rfl
  | x :: r => by simp only [mpL, asOf, mapLs, XV.mp_a f fl x, mpL_a f fl r]
end

theorem mpL_map (f fl : Nat → Nat) (l : List XV) : mpL f fl l = l.map (XV.mp f fl) := by
  induction l with
  | nil => rfl
  | cons x r ih => simp [mpL, ih]
mutual
def XV.nms (ks ls : List Nat) : XV → Bool
  | .d _ => true
  | .nm k _ => inl k ks
  | .tip n _ _ _ => inl n ls
  | .tup l => nmsL ks ls l
  | .agg l => nmsL ks ls l
  | .clo _ l => nmsL ks ls l
  | .os k _ _ _ => inl k ks
  | .el k _ _ _ => inl k ks
  | .tpt n _ _ _ => inl n ls
def nmsL (ks ls : List Nat) : List XV → Bool
  | [] => true
  | x :: r => cond (x.nms ks ls) (nmsL ks ls r) false
end

theorem inl_con {k : Nat} {l : List Nat} (h : inl k l = true) : l.contains k = true := List.contains_iff_mem.2 ((inl_eq k l).1 h)
mutual
theorem XV.nms_a {ks ls : List Nat} : ∀ {x : XV}, x.nms ks ls = true → namesL ks ls x.a = true
  | .d x, h => rfl
  | .nm k p, h => inl_con h
  | .tip n t l ty, h => inl_con h
  | .tup l, h => by simp only [XV.nms] at h; simp only [XV.a, namesL]; exact nmsL_a h
  | .agg l, h => by simp only [XV.nms] at h; simp only [XV.a, namesL]; exact nmsL_a h
  | .clo g l, h => by simp only [XV.nms] at h; simp only [XV.a, namesL]; exact nmsL_a h
  | .os k t a len, h => inl_con h
  | .el k t i fo, h => inl_con h
  | .tpt n e x l, h => inl_con h
theorem nmsL_a {ks ls : List Nat} : ∀ {l : List XV}, nmsL ks ls l = true → namesLs ks ls (asOf l) = true
  | [], h => rfl
  | x :: r, h => by
    simp only [nmsL] at h
    cases hx : x.nms ks ls with
    | false => simp [hx] at h
    | true =>
      simp only [hx, cond_true] at h
      simp only [asOf, namesLs, XV.nms_a hx, nmsL_a h, Bool.and_self]
end

def XOb.mp (f fl : Nat → Nat) : XOb → XOb
  | .cells cs ty => .cells (mpL f fl cs) ty
  | .arr t l => .arr t l
  | .sit s p => .sit s p
  | .map kt vt es c => .map kt vt es c
  | .mit m a b c => .mit (f m) a b c
  | .mitn => .mitn
  | .bts e l => .bts e l
  | .mapt L kt vt es c => .mapt L kt vt es c
theorem mapLs_map_d (f fl : Nat → Nat) : ∀ l : List D, mapLs f fl (l.map .d) = l.map .d
  | [] => rfl
  | x :: r => by simp only [List.map_cons, mapLs, mapL, mapLs_map_d f fl r]
theorem XOb.mp_o (f fl : Nat → Nat) (o : XOb) : (o.mp f fl).o = mapObL f fl o.o := by
  cases o with
  | cells cs ty => simp only [XOb.mp, XOb.o, mapObL, mpL_a]
  | arr t l => simp only [XOb.mp, XOb.o, mapObL, mapLs_map_d]
  | bts e l => simp only [XOb.mp, XOb.o, mapObL, mapLs_map_d]
  | _ => rfl
def XOb.nms (ks ls : List Nat) : XOb → Bool
  | .cells cs _ => nmsL ks ls cs
  | .mit m _ _ _ => inl m ks
  | .mapt _ _ _ _ _ => false
  | _ => true
theorem namesLs_map_d (ks ls : List Nat) : ∀ l : List D, namesLs ks ls (l.map .d) = true
  | [] => rfl
  | x :: r => by simp only [List.map_cons, namesLs, namesL, namesLs_map_d ks ls r, Bool.and_self]
theorem XOb.nms_o {ks ls : List Nat} {o : XOb} (h : o.nms ks ls = true) : namesObL ks ls o.o = true := by
  cases o with
  | cells cs ty => simp only [XOb.nms] at h; simp only [XOb.o, namesObL]; exact nmsL_a h
  | arr t l => simp only [XOb.o, namesObL]; exact namesLs_map_d _ _ _
  | bts e l => simp only [XOb.o, namesObL]; exact namesLs_map_d _ _ _
  | mit m a b c => exact inl_con h
  | mapt L kt vt es c => simp [XOb.nms] at h
  | _ => rfl
def objsNms (ks ls : List Nat) : List (Nat × XOb) → Bool
  | [] => true
  | p :: r => cond (p.2.nms ks ls) (objsNms ks ls r) false
theorem objsNms_im {ks ls : List Nat} : ∀ {l : List (Nat × XOb)}, objsNms ks ls l = true → ((imObjs l).all fun p => namesObL ks ls p.2) = true
  | [], _ => rfl
  | p :: r, h => by
    simp only [objsNms] at h
    cases hx : p.2.nms ks ls with
    | false => simp [hx] at h
    | true =>
      simp only [hx, cond_true] at h
      have := objsNms_im h
      simp only [imObjs, List.map_cons, List.all_cons, XOb.nms_o hx, Bool.true_and] at this ⊢
      exact this
def putXs (f fl : Nat → Nat) : List (Nat × XOb) → List (Nat × XOb) → List (Nat × XOb)
  | [], acc => acc
  | p :: r, acc => putXs f fl r (xset (f p.1) (p.2.mp f fl) acc)
theorem putXs_im (f fl : Nat → Nat) : ∀ (l acc : List (Nat × XOb)), imObjs (putXs f fl l acc) = putObjsL f fl (imObjs l) (imObjs acc)
  | [], acc => rfl
  | p :: r, acc => by
    have := putXs_im f fl r (xset (f p.1) (p.2.mp f fl) acc)
    rw [im_xset, XOb.mp_o] at this
    exact this
theorem putXs_other (f fl : Nat → Nat) : ∀ (l acc : List (Nat × XOb)) (j : Nat), (∀ p ∈ l, f p.1 ≠ j) → lk j (putXs f fl l acc) = lk j acc
  | [], acc, j, h => rfl
  | p :: r, acc, j, h => by
    simp only [putXs]
    rw [putXs_other f fl r _ j (fun q hq => h q (List.mem_cons_of_mem _ hq)), lk_xset _ _ _ _ (fun e => h p (List.mem_cons_self ..) e.symm)]
inductive ObLe : Ob → Ob → Prop
  | refl (o : Ob) : ObLe o o
  | cells {cs cs' : List AV} {ty ty' : Option TypeId} : cs.length = cs'.length → (∀ (i : Nat) x y, cs[i]? = some x → cs'[i]? = some y → ALe x y) → (ty' = ty ∨ ty' = none) → ObLe (.cells cs ty) (.cells cs' ty')
theorem obRel_weak {g : Gh} {w : World} {b : Nat} {o o' : Ob} (h : ObRel g w b o) (hle : ObLe o o') : ObRel g w b o' := by
  cases hle with
  | refl => exact h
  | cells hl hc ht =>
    cases h with
    | cells _ _ arr T h1 h2 h3 h4 =>
      refine .cells _ _ arr T h1 (hl ▸ h2) ?_ ?_
      · intro i y v hy hv
        have hlt := (List.getElem?_eq_some_iff.1 hy).1
        obtain ⟨x, hx⟩ : ∃ x, _ = some x := ⟨_, List.getElem?_eq_getElem (l := _) (i := i) (by rw [hl]; exact hlt)⟩
        exact hc i x y hx hy g w v (h3 i x v hx hv)
      · intro t hh
        rcases ht with e | e
        · exact h4 t (e ▸ hh)
        · rw [e] at hh; cases hh
theorem hr_weak {nm : List Nat} {B : Base} {g : Gh} {w : World} {X Y : Store} (h : HR nm B g w X) (hle : ∀ k o', Y.objs.lookup k = some o' → ∃ o, X.objs.lookup k = some o ∧ ObLe o o')
    (hk : ∀ k, (X.objs.lookup k).isSome → (Y.objs.lookup k).isSome) (hl : Y.live = X.live) : HR nm B g w Y where
  keep k hm := ⟨(h.keep k hm).1, hk k (h.keep k hm).2⟩
  sane := h.sane
  base := h.base
  io := h.io
  le := h.le
  frame := h.frame
  objs k o' ho := by obtain ⟨o, h1, h2⟩ := hle k o' ho; exact obRel_weak (h.objs k o h1) h2
  objγ k o' ho := by obtain ⟨o, h1, h2⟩ := hle k o' ho; exact h.objγ k o h1
  objinj k k' o o' ho ho' := by
    obtain ⟨_, h1, _⟩ := hle k o ho
    obtain ⟨_, h2, _⟩ := hle k' o' ho'
    exact h.objinj k k' _ _ h1 h2
  objnew k o' ho := by obtain ⟨o, h1, h2⟩ := hle k o' ho; exact h.objnew k o h1
  live n := by rw [hl]; exact h.live n
  tipinj := h.tipinj
  tipobj n b k o' hn ho := by obtain ⟨o, h1, h2⟩ := hle k o' ho; exact h.tipobj n b k o hn h1
  tipnew := h.tipnew
  tiplt := h.tiplt
  eta := h.eta.same (Nat.le_refl _) fun k o' ho => let ⟨o, h1, _⟩ := hle k o' ho; ⟨o, h1⟩
theorem opT_weak {P : Program} {o : Oper} {rd : List (Operand × AV)} {X Y X' : Store} {F : List Nat} {res : AV} (h : OpT P o rd Y X' F res) (hle : ∀ k o', Y.objs.lookup k = some o' → ∃ o, X.objs.lookup k = some o ∧ ObLe o o')
    (hk : ∀ k, (X.objs.lookup k).isSome → (Y.objs.lookup k).isSome) (hl : Y.live = X.live) : OpT P o rd X X' F res :=
  fun nm hsm B g w a hr => h nm hsm B g w a (hr_weak hr hle hk hl)
theorem op_call_clo_lab {P : Program} {X : Store} {o : Oper} {fn : FuncId} {c : Operand} {args : Array Operand} {ts : Array TypeId} {xs caps : List AV} {res : AV} {Xc Xc' : Store} (f fl : Nat → Nat) (F : List Nat)
    (ho : o.op = .call { callee := .value c, args := args, argTypes := ts }) (hf : CallI P fn) (hs : Does P fn (xs ++ caps) Xc res Xc') (hc : LabCall X Xc Xc' f fl F)
    (hl : xs.length = args.size) (hd : namesLs (Xc.objs.map (·.1)) Xc.live (xs ++ caps) = true) (hdr : namesL (Xc'.objs.map (·.1)) Xc'.live res = true) :
    OpT P o ((c, .clo fn (mapLs f fl caps)) :: args.toList.zip (mapLs f fl xs)) X ⟨putObjsL f fl Xc'.objs X.objs, liveAfter fl X Xc Xc'⟩ F (mapL f fl res) := by
  intro nm hsm B g w a hr hrd next Q hn
  have e1 := rd0 hrd
  simp only at e1
  unfold Oper.wp
  generalize hcv : a.eval c = vc at e1
  cases e1 with
  | clo _ _ vs hlen hvs =>
    have : (execOp a.eval o).run P w = .ok (.enter fn (args.map a.eval ++ vs)) w := by
      simp only [execOp, ho, resolve]
      simp [hcv, Deferred.ofValue, invoke, run_callFunc hf]
    rw [this]
    have hm : ∀ l m : List AV, mapLs f fl (l ++ m) = mapLs f fl l ++ mapLs f fl m := fun l m => by rw [mapLs_eq, mapLs_eq, mapLs_eq, List.map_append]
    have hml : (mapLs f fl xs).length = args.size := by rw [mapLs_eq, List.length_map, hl]
    have hmc : caps.length = vs.size := by rw [mapLs_eq, List.length_map] at hlen; exact hlen
    refine (hs.useLab hc hd hdr hr (vs := args.map a.eval ++ vs) (by simp [hl, hmc]) ?_).mono ?_
    · intro i x v hx hv
      rw [hm, List.getElem?_append] at hx
      split at hx
      · rename_i hlt
        rw [Array.getElem?_append_left (by simp; omega)] at hv
        exact rds_args (fun p hp => hrd p (List.mem_cons_of_mem _ hp)) i x v hx hv
      · rename_i hge
        rw [Array.getElem?_append_right (by simp; omega)] at hv
        refine hvs _ x v hx ?_
        rw [hml]; simpa using hv
    · rintro e w' ⟨v, g', rfl, h1, h2, h3⟩
      exact hn g' w' v h1 h2 h3
theorem op_call_f_lab {P : Program} {X : Store} {o : Oper} {fn : FuncId} {args : Array Operand} {ts : Array TypeId} {gids : List Nat} {xs ys : List AV} {res : AV} {Xc Xc' : Store} (f fl : Nat → Nat) (F : List Nat)
    (ho : o.op = .call { callee := .value (.func fn), args := args, argTypes := ts }) (hf : CallI P fn) (hs : DoesH P fn xs (gids.zip ys) Xc res Xc') (hc : LabCall X Xc Xc' f fl F)
    (hl : xs.length = args.size) (hd : namesLs (Xc.objs.map (·.1)) Xc.live xs = true) (hy : areData ys = true) (hdr : namesL (Xc'.objs.map (·.1)) Xc'.live res = true) :
    OpT P o (args.toList.zip (mapLs f fl xs) ++ (gids.map Operand.global).zip ys) X ⟨putObjsL f fl Xc'.objs X.objs, liveAfter fl X Xc Xc'⟩ F (mapL f fl res) := by
  intro nm hsm B g w a hr hrd next Q hn
  unfold Oper.wp
  have : (execOp a.eval o).run P w = .ok (.enter fn (args.map a.eval)) w := by
    simp only [execOp, ho, resolve]
    simp [Act.eval, Deferred.ofValue, invoke, run_callFunc hf]
  rw [this]
  have hG : GH g w (gids.zip ys) := by
    intro p hp
    have h1 : (Operand.global p.1, p.2) ∈ (gids.map Operand.global).zip ys := by
      rw [List.zip_map_left, List.mem_map]
      exact ⟨p, hp, rfl⟩
    exact hrd _ (List.mem_append_right _ h1)
  refine (hs.useLab (areData_zip _ hy) hc hd hdr hr hG (by simpa using hl) (rds_args fun p hp => hrd p (List.mem_append_left _ hp))).mono ?_
  rintro e w' ⟨v, g', rfl, h1, h2, h3⟩
  exact hn g' w' v h1 h2 h3
end Go.Xl
set_option linter.unusedVariables false
set_option linter.unusedSimpArgs false
set_option linter.unnecessarySimpa false
namespace Go.Xl
open Go.Ab
inductive AS where
  | d (t : Ty)
  | p (k off : Nat)
  | os (k : Nat) (t : Ty)
  | clo (f : Nat) (ps : List (Nat × Nat))
  /-- such a slice that begins at a place -/
  | oa (k a : Nat) (t : Ty)
  /-- what a package variable holds: behind all other ones -/
  | g (k : Nat) (t : Ty)
def gidsOf : List AS → List Nat
  | [] => []
  | .g k _ :: r => k :: gidsOf r
  | _ :: r => gidsOf r
def plainN : List AS → Nat
  | [] => 0
  | .g _ _ :: _ => 0
  | _ :: r => plainN r + 1
structure CSp where
  args : List AS
  objs : List (Nat × List VK × Option TypeId)
  arrs : List (Nat × OK)
  out : Cut
def CSp.names (S : CSp) : List Nat := namesOf S.objs ++ arrNames S.arrs
def CSp.labs (S : CSp) : List Nat := labsOfObjs S.objs
def CSp.gids (S : CSp) : List Nat := gidsOf S.args
def CSp.n (S : CSp) : Nat := plainN S.args
def CSp.s0 (S : CSp) (xs : List XV) (objs : List (Nat × XOb)) : XSt := ⟨envX 0 (xs.take S.n) ++ glE S.gids (xs.drop S.n), objs, S.labs, [], []⟩
@[reducible] def CurA : List AS → Type → Type
  | [], R => R
  | .d t :: r, R => t.T → CurA r R
  | .p _ _ :: r, R => CurA r R
  | .os _ _ :: r, R => Nat → CurA r R
  | .oa _ _ _ :: r, R => Nat → CurA r R
  | .clo _ _ :: r, R => CurA r R
  | .g _ t :: r, R => t.T → CurA r R
@[reducible] def CurC : List VK → Type → Type
  | [], R => R
  | .d t :: r, R => t.T → CurC r R
  | .p _ _ :: r, R => CurC r R
  | .z _ _ :: r, R => Bool → CurC r R
  | .tip _ t _ :: r, R => List t.T → CurC r R
@[reducible] def CurO : List (Nat × List VK × Option TypeId) → Type → Type
  | [], R => R
  | p :: r, R => CurC p.2.1 (CurO r R)
@[reducible] def CurR : List (Nat × OK) → Type → Type
  | [], R => R
  | p :: r, R => p.2.T → CurR r R
@[reducible] def CSp.Fun (S : CSp) (R : Type) : Type := CurA S.args (CurO S.objs (CurR S.arrs R))
def psX (ps : List (Nat × Nat)) : List XV := ps.map fun p => .nm p.1 (pkOf p.2)
def lamA {α : Type} : (l : List AS) → (List XV → α) → List XV → CurA l α
  | [], f, acc => f acc
  | .d t :: r, f, acc => fun y => lamA r f (acc ++ [.d (t.xv y)])
  | .p k off :: r, f, acc => lamA r f (acc ++ [.nm k (pkOf off)])
  | .os k t :: r, f, acc => fun n => lamA r f (acc ++ [.os k t 0 n])
  | .oa k a t :: r, f, acc => fun n => lamA r f (acc ++ [.os k t a n])
  | .clo g ps :: r, f, acc => lamA r f (acc ++ [.clo g (psX ps)])
  | .g _ t :: r, f, acc => fun y => lamA r f (acc ++ [.d (t.xv y)])
def lamC {α : Type} : (l : List VK) → (List XV → α) → List XV → CurC l α
  | [], f, acc => f acc
  | .d t :: r, f, acc => fun y => lamC r f (acc ++ (t.enc y).map .d)
  | .p k off :: r, f, acc => lamC r f (acc ++ [.nm k (pkOf off)])
  | .z k off :: r, f, acc => fun b => lamC r f (acc ++ [.nm k (.z b off)])
  | .tip n t ty :: r, f, acc => fun l => lamC r f (acc ++ [.tip n t l ty])
def lamO {α : Type} : (l : List (Nat × List VK × Option TypeId)) → (List (Nat × XOb) → α) → List (Nat × XOb) → CurO l α
  | [], f, acc => f acc
  | p :: r, f, acc => lamC p.2.1 (fun cs => lamO r f (acc ++ [(p.1, .cells cs p.2.2)])) []
def lamR {α : Type} : (l : List (Nat × OK)) → (List (Nat × XOb) → α) → List (Nat × XOb) → CurR l α
  | [], f, acc => f acc
  | p :: r, f, acc => fun l => lamR r f (acc ++ [(p.1, p.2.ob l)])
def GndA {β : Type} (Q : β → List XV → Prop) : (l : List AS) → CurA l β → List XV → Prop
  | [], F, acc => Q F acc
  | .d t :: r, F, acc => ∀ y : t.T, GndA Q r (F y) (acc ++ [.d (t.xv y)])
  | .p k off :: r, F, acc => GndA Q r F (acc ++ [.nm k (pkOf off)])
  | .os k t :: r, F, acc => ∀ n : Nat, GndA Q r (F n) (acc ++ [.os k t 0 n])
  | .oa k a t :: r, F, acc => ∀ n : Nat, GndA Q r (F n) (acc ++ [.os k t a n])
  | .clo g ps :: r, F, acc => GndA Q r F (acc ++ [.clo g (psX ps)])
  | .g _ t :: r, F, acc => ∀ y : t.T, GndA Q r (F y) (acc ++ [.d (t.xv y)])
def GndC {β : Type} (Q : β → List XV → Prop) : (l : List VK) → CurC l β → List XV → Prop
  | [], F, acc => Q F acc
  | .d t :: r, F, acc => ∀ y : t.T, GndC Q r (F y) (acc ++ (t.enc y).map .d)
  | .p k off :: r, F, acc => GndC Q r F (acc ++ [.nm k (pkOf off)])
  | .z k off :: r, F, acc => ∀ b : Bool, GndC Q r (F b) (acc ++ [.nm k (.z b off)])
  | .tip n t ty :: r, F, acc => ∀ l : List t.T, GndC Q r (F l) (acc ++ [.tip n t l ty])
def GndO {β : Type} (Q : β → List (Nat × XOb) → Prop) : (l : List (Nat × List VK × Option TypeId)) → CurO l β → List (Nat × XOb) → Prop
  | [], F, acc => Q F acc
  | p :: r, F, acc => GndC (fun F' cs => GndO Q r F' (acc ++ [(p.1, .cells cs p.2.2)])) p.2.1 F []
def GndR {β : Type} (Q : β → List (Nat × XOb) → Prop) : (l : List (Nat × OK)) → CurR l β → List (Nat × XOb) → Prop
  | [], F, acc => Q F acc
  | p :: r, F, acc => ∀ l : p.2.T, GndR Q r (F l) (acc ++ [(p.1, p.2.ob l)])
theorem lamA_gnd {α : Type} {Q : α → List XV → Prop} {f : List XV → α} (m : Nat) (h : ∀ acc, acc.length = m → Q (f acc) acc) : ∀ (l : List AS) (acc : List XV), acc.length + l.length = m → GndA Q l (lamA l f acc) acc
  | [], acc, hm => h acc (by simpa using hm)
  | .d t :: r, acc, hm => fun y => lamA_gnd m h r _ (by simp at hm ⊢; omega)
  | .p k off :: r, acc, hm => by
    simp only [GndA, lamA]
    exact lamA_gnd m h r (acc ++ [.nm k (pkOf off)]) (by simp at hm ⊢; omega)
  | .os k t :: r, acc, hm => fun n => lamA_gnd m h r _ (by simp at hm ⊢; omega)
  | .oa k a t :: r, acc, hm => fun n => lamA_gnd m h r _ (by simp at hm ⊢; omega)
  | .clo g ps :: r, acc, hm => by
    simp only [GndA, lamA]
    exact lamA_gnd m h r (acc ++ [.clo g (psX ps)]) (by simp at hm ⊢; omega)
  | .g _ t :: r, acc, hm => fun y => lamA_gnd m h r _ (by simp at hm ⊢; omega)
theorem lamC_gnd {α : Type} {Q : α → List XV → Prop} {f : List XV → α} (h : ∀ acc, Q (f acc) acc) : ∀ (l : List VK) (acc : List XV), GndC Q l (lamC l f acc) acc
  | [], acc => h acc
  | .d t :: r, acc => fun y => lamC_gnd h r _
  | .p k off :: r, acc => by
    simp only [GndC, lamC]
    exact lamC_gnd h r (acc ++ [.nm k (pkOf off)])
  | .z k off :: r, acc => fun b => lamC_gnd h r _
  | .tip n t ty :: r, acc => fun l => lamC_gnd h r _
theorem lamO_gnd {α : Type} {Q : α → List (Nat × XOb) → Prop} {f : List (Nat × XOb) → α} (ns : List Nat) (h : ∀ acc, acc.map (·.1) = ns → Q (f acc) acc) : ∀ (l : List (Nat × List VK × Option TypeId)) (acc : List (Nat × XOb)), acc.map (·.1) ++ namesOf l = ns → GndO Q l (lamO l f acc) acc
  | [], acc, hm => h acc (by simpa [namesOf] using hm)
  | p :: r, acc, hm => lamC_gnd (fun cs => lamO_gnd ns h r _ (by simpa [namesOf] using hm)) p.2.1 []
theorem lamR_gnd {α : Type} {Q : α → List (Nat × XOb) → Prop} {f : List (Nat × XOb) → α} (ns : List Nat) (h : ∀ acc, acc.map (·.1) = ns → Q (f acc) acc) : ∀ (l : List (Nat × OK)) (acc : List (Nat × XOb)), acc.map (·.1) ++ arrNames l = ns → GndR Q l (lamR l f acc) acc
  | [], acc, hm => h acc (by simpa [arrNames] using hm)
  | p :: r, acc, hm => fun l => lamR_gnd ns h r _ (by simpa [arrNames] using hm)
section
variable (P : Program) (Γ : List (Ent P)) (own : List Nat) (N : Nat) (fn : Func) (an : An) (S : CSp)
def finX (S : CSp) (xs : List XV) (objs : List (Nat × XOb)) (s : XSt) : Option S.out.T := proj S.names (keepL (S.s0 xs objs) S.out) S.out s
def finC (S : CSp) (xs : List XV) (objs : List (Nat × XOb)) : Exit → XSt → Option S.out.T
  | .ret, s => finX S xs objs s
  | .normal, s => finX S xs objs s
  | _, _ => none
noncomputable def runBC (xs : List XV) (objs : List (Nat × XOb)) : Option S.out.T :=
  match fn.body with
  | some c => cond (Nat.ble fn.ntmps GB) (exec P Γ own S.names fn.ntmps N c an (S.s0 xs objs) (finC S xs objs)) none
  | none => none
noncomputable def runC : S.Fun (Option S.out.T) := lamA S.args (fun xs => lamO S.objs (fun os => lamR S.arrs (fun os' => runBC P Γ own N fn an S xs os') os) []) []
end
def GoodC (P : Program) (f : FuncId) (fn : Func) (S : CSp) (y : S.out.T) (xs : List XV) (objs : List (Nat × XOb)) : Prop :=
  objs.map (·.1) = S.names ∧ ∀ rs, xres P (gen (S.s0 xs objs) S.out y) fn.results.toList = some rs → DoesH P f (asOf (xs.take S.n)) (S.gids.zip (asOf (xs.drop S.n))) ⟨imObjs objs, S.labs⟩ (tupX rs).a (gen (S.s0 xs objs) S.out y).X
def SndC (P : Program) (f : FuncId) (fn : Func) (S : CSp) (F : S.Fun (Option S.out.T)) : Prop :=
  GndA (fun F' xs => GndO (fun F'' os => GndR (fun F3 os' => ∀ y, F3 = some y → GoodC P f fn S y xs os') S.arrs F'' os) S.objs F' []) S.args F []
def smallL : List Nat → Bool
  | [] => true
  | n :: r => cond (Nat.blt n 1000) (smallL r) false
theorem smallL_spec : ∀ {l : List Nat}, smallL l = true → ∀ j ∈ l, j < 1000
  | [], _ => by simp
  | n :: r, h => by
    simp only [smallL] at h
    cases hb : Nat.blt n 1000 with
    | false => simp [hb] at h
    | true =>
      simp only [hb, cond_true] at h
      intro j hj
      rcases List.mem_cons.1 hj with rfl | hj
      · simpa [Nat.blt_eq] using hb
      · exact smallL_spec h j hj
def noKeepS (S : CSp) : Bool := match S.out.keepS with
  | [] => true
  | _ => false
theorem imObjs_names (l : List (Nat × XOb)) : (imObjs l).map (·.1) = l.map (·.1) := by simp [imObjs]
theorem runBC_sound {P : Program} {Γ : List (Ent P)} {own : List Nat} {N : Nat} {f : FuncId} {fn : Func} {an : An} {S : CSp} {xs : List XV} {objs : List (Nat × XOb)} {y : S.out.T} (hm : P.follows .mixedOrders = true) (hf : P.funcs[f]? = some fn)
    (hn : xs.length ≤ fn.ntmps) (hsm : smallL S.names = true) (hks : noKeepS S = true) (hnames : objs.map (·.1) = S.names) (h : runBC P Γ own N fn an S xs objs = some y) : GoodC P f fn S y xs objs := by
  unfold runBC at h
  split at h
  · rename_i c hc
    obtain ⟨hG, h⟩ := condG h
    have hs := exec_sound (S := ⟨fn.ntmps, S.names, smallL_spec hsm⟩) hm rfl c an _ _ _ _ (.refl _) h
    have hks' : S.out.keepS = [] := by
      unfold noKeepS at hks
      split at hks
      · assumption
      · cases hks
    refine ⟨hnames, fun rs hrs => ?_⟩
    intro g w vs hr hgs hl ha
    have hnm : (imObjs objs).map (·.1) = S.names := by rw [imObjs_names, hnames]
    refine calls_of_wp hf hc (wp_mono (hs (Base.of g w ⟨imObjs objs, S.labs⟩) g w _ ?_) ?_)
    · rw [asOf_length, List.length_take] at hl
      refine ⟨rfl, ?_, ?_, ?_⟩
      · simp; omega
      · have := hr
        rw [hnm] at this
        exact this
      · intro s x hx
        have hx' : (imEnv (envX 0 (xs.take S.n)) ++ imEnv (glE S.gids (xs.drop S.n))).lookup s = some x := by
          rw [imEnv, imEnv, ← List.map_append]; exact hx
        rw [List.lookup_append, envX_im] at hx'
        cases h1 : (envOf 0 (asOf (xs.take S.n))).lookup s with
        | some x1 =>
          rw [h1] at hx'
          simp only [Option.some_or, Option.some.injEq] at hx'
          subst hx'
          obtain ⟨_, hx'⟩ := envOf_lookup h1
          rw [Nat.sub_zero] at hx'
          have hlt : s < vs.size := by
            have := (List.getElem?_eq_some_iff.1 hx').1
            rw [asOf_length, List.length_take] at this; omega
          refine ⟨vs[s], ?_, ha s x1 _ hx' (by simp [hlt])⟩
          rw [slotV_tmp (by omega)]
          simp [Array.getElem?_append, hlt]
        | none =>
          rw [h1] at hx'
          simp only [Option.none_or] at hx'
          obtain ⟨k, rfl, hk⟩ := glE_mem (lookup_mem hx')
          exact ⟨_, slotV_glob k, hgs _ hk⟩
    · rintro e a' w' ⟨s, g', ⟨st', rfl, hi, hk⟩, hs'⟩
      have fin : finX S xs objs st' = some y →
          a'.defers = [] ∧ ∃ v, (results fn a'.tmps).run P w' = .ok v w' ∧ ∃ g' v_1, Ending.returned v = Ending.returned v_1 ∧ RA g' w' (tupX rs).a v_1 ∧ HR ((imObjs objs).map (·.1)) (Base.of g w ⟨imObjs objs, S.labs⟩) g' w' (gen (S.s0 xs objs) S.out y).X := by
        intro h
        unfold finX at h
        obtain ⟨g'', hs''⟩ := cut_sound h (by rw [hks']; simp) (fun k _ x hk hx => hi.objs k x hk hx) hs' rfl
        obtain ⟨v, hv, hra⟩ := run_results (xres_ok hrs) hs''
        rw [← tupX_a] at hra
        exact ⟨hs''.defers, v, hv, g'', v, rfl, hra, by rw [hnm]; exact hs''.hr⟩
      cases e with
      | ret => exact fin hk
      | normal => exact fin hk
      | _ => simp [finC] at hk
  · cases h
theorem runC_sound {P : Program} {Γ : List (Ent P)} {own : List Nat} {N : Nat} {f : FuncId} {fn : Func} {an : An} {S : CSp} (hm : P.follows .mixedOrders = true) (hf : P.funcs[f]? = some fn)
    (hn : Nat.ble S.args.length fn.ntmps = true) (hsm : smallL S.names = true) (hks : noKeepS S = true) : SndC P f fn S (runC P Γ own N fn an S) := by
  unfold SndC runC
  refine lamA_gnd S.args.length (fun xs hxs => ?_) S.args [] (by simp)
  refine lamO_gnd (namesOf S.objs) (fun os hos => ?_) S.objs [] (by simp)
  refine lamR_gnd S.names (fun os' hos' => ?_) S.arrs os (by rw [hos]; rfl)
  intro y hy
  exact runBC_sound hm hf (by have := Nat.le_of_ble_eq_true hn; omega) hsm hks hos' hy
end Go.Xl
set_option linter.unusedVariables false
set_option linter.unusedSimpArgs false
set_option linter.unnecessarySimpa false
namespace Go.Xl
open Go.Ab
def isPtr (k off : Nat) : XV → Bool
  | .nm k' p => cond (Nat.beq k' k) (pkEq p off) false
  | _ => false
theorem isPtr_eq {k off : Nat} {v : XV} (h : isPtr k off v = true) : v = .nm k (pkOf off) := by
  unfold isPtr at h
  split at h
  · rename_i k' off'
    cases h1 : Nat.beq k' k with
    | false => simp [h1] at h
    | true =>
      simp only [h1, cond_true] at h
      rw [Nat.eq_of_beq_eq_true h1, pkEq_eq h]
  · cases h
def osOf (k : Nat) (t : Ty) : XV → Option Nat
  | .os k' t' a n => cond (Nat.beq k' k) (cond (t'.eqb t) (cond (Nat.beq a 0) (some n) none) none) none
  | _ => none
theorem osOf_eq {k : Nat} {t : Ty} {v : XV} {n : Nat} (h : osOf k t v = some n) : v = .os k t 0 n := by
  unfold osOf at h
  split at h
  · rename_i k' t' a m
    cases h1 : Nat.beq k' k with
    | false => simp [h1] at h
    | true =>
    cases h2 : t'.eqb t with
    | false => simp [h1, h2] at h
    | true =>
    cases h3 : Nat.beq a 0 with
    | false => simp [h1, h2, h3] at h
    | true =>
      simp only [h1, h2, h3, cond_true, Option.some.injEq] at h
      rw [Nat.eq_of_beq_eq_true h1, Ty.eqb_eq h2, Nat.eq_of_beq_eq_true h3, h]
  · cases h
def osOfA (k a : Nat) (t : Ty) : XV → Option Nat
  | .os k' t' a' n => cond (Nat.beq k' k) (cond (t'.eqb t) (cond (Nat.beq a' a) (some n) none) none) none
  | _ => none
theorem osOfA_eq {k a : Nat} {t : Ty} {v : XV} {n : Nat} (h : osOfA k a t v = some n) : v = .os k t a n := by
  unfold osOfA at h
  split at h
  · rename_i k' t' a' m
    cases h1 : Nat.beq k' k with
    | false => simp [h1] at h
    | true =>
    cases h2 : t'.eqb t with
    | false => simp [h1, h2] at h
    | true =>
    cases h3 : Nat.beq a' a with
    | false => simp [h1, h2, h3] at h
    | true =>
      simp only [h1, h2, h3, cond_true, Option.some.injEq] at h
      rw [Nat.eq_of_beq_eq_true h1, Ty.eqb_eq h2, Nat.eq_of_beq_eq_true h3, h]
  · cases h
def capsEq (f : Nat → Nat) : List (Nat × Nat) → List XV → Bool
  | [], [] => true
  | p :: ps, c :: cs => cond (isPtr (f p.1) p.2 c) (capsEq f ps cs) false
  | _, _ => false
theorem capsEq_eq {f fl : Nat → Nat} : ∀ {ps : List (Nat × Nat)} {cs : List XV}, capsEq f ps cs = true → cs = mpL f fl (psX ps)
  | [], [], _ => rfl
  | [], _ :: _, h => by simp [capsEq] at h
  | _ :: _, [], h => by simp [capsEq] at h
  | p :: ps, c :: cs, h => by
    simp only [capsEq] at h
    cases h1 : isPtr (f p.1) p.2 c with
    | false => simp [h1] at h
    | true =>
      simp only [h1, cond_true] at h
      have e := capsEq_eq (fl := fl) h
      rw [isPtr_eq h1, e]
      rfl
def isCloP (f : Nat → Nat) (g : Nat) (ps : List (Nat × Nat)) : XV → Bool
  | .clo g' caps => cond (Nat.beq g' g) (capsEq f ps caps) false
  | _ => false
theorem isCloP_eq {f fl : Nat → Nat} {g : Nat} {ps : List (Nat × Nat)} {v : XV} (h : isCloP f g ps v = true) : v = (XV.clo g (psX ps)).mp f fl := by
  unfold isCloP at h
  split at h
  · rename_i g' caps
    cases h1 : Nat.beq g' g with
    | false => simp [h1] at h
    | true =>
      simp only [h1, cond_true] at h
      rw [Nat.eq_of_beq_eq_true h1, capsEq_eq (fl := fl) h]
      rfl
  · cases h
inductive ArgR (f fl : Nat → Nat) : List XV → List XV → Prop
  | nil : ArgR f fl [] []
  | dat {t : Ty} {v : XV} {y : t.T} {vs xs : List XV} : decXV t v = some y → ArgR f fl vs xs → ArgR f fl (v :: vs) (.d (t.xv y) :: xs)
  | same {v x : XV} {vs xs : List XV} : v = x.mp f fl → ArgR f fl vs xs → ArgR f fl (v :: vs) (x :: xs)
theorem ArgR.app {f fl : Nat → Nat} {a b c d : List XV} (h : ArgR f fl a b) (h' : ArgR f fl c d) : ArgR f fl (a ++ c) (b ++ d) := by
  induction h with
  | nil => exact h'
  | dat h1 _ ih => exact .dat h1 ih
  | same h1 _ ih => exact .same h1 ih
theorem ArgR.length {f fl : Nat → Nat} {a b : List XV} (h : ArgR f fl a b) : a.length = b.length := by
  induction h with
  | nil => rfl
  | dat _ _ ih => simp [ih]
  | same _ _ ih => simp [ih]
theorem ArgR.split {f fl : Nat → Nat} : ∀ {a c xs : List XV}, ArgR f fl (a ++ c) xs → ∃ b d, xs = b ++ d ∧ ArgR f fl a b ∧ ArgR f fl c d
  | [], c, xs, h => ⟨[], xs, rfl, .nil, h⟩
  | v :: a, c, xs, h => by
    rw [List.cons_append] at h
    cases h with
    | dat h1 h2 =>
      obtain ⟨b, d, rfl, h3, h4⟩ := ArgR.split h2
      exact ⟨_ :: b, d, rfl, .dat h1 h3, h4⟩
    | same h1 h2 =>
      obtain ⟨b, d, rfl, h3, h4⟩ := ArgR.split h2
      exact ⟨_ :: b, d, rfl, .same h1 h3, h4⟩
def nmOnly : List XV → Bool
  | [] => true
  | .nm _ _ :: r => nmOnly r
  | _ :: _ => false
theorem ArgR.caps {f fl : Nat → Nat} : ∀ {cs xs : List XV}, ArgR f fl cs xs → nmOnly cs = true → cs = mpL f fl xs
  | [], xs, h, _ => by cases h; rfl
  | v :: cs, xs, h, hn => by
    cases v with
    | nm k p =>
      simp only [nmOnly] at hn
      cases h with
      | dat h1 h2 => simp [decXV] at h1
      | same h1 h2 => rw [h1, ArgR.caps h2 hn]; rfl
    | _ => simp [nmOnly] at hn
theorem ArgR.sees {f fl : Nat → Nat} {st : XSt} : ∀ {ops : List Operand} {vs xs : List XV}, xevals st ops = some vs → ArgR f fl vs xs → ∀ p ∈ imRd (ops.zip (mpL f fl xs)), Sees st.im p.1 p.2
  | [], vs, xs, hv, h => by simp [imRd]
  | x :: ops, [], xs, hv, h => by have := xevals_len hv; simp at this
  | x :: ops, v :: vs, xs, hv, h => by
    obtain ⟨hx, hvs⟩ := xevals_cons hv
    cases h with
    | dat h1 h2 =>
      intro p hp
      simp only [mpL, List.zip_cons_cons, imRd, List.map_cons, List.mem_cons] at hp
      rcases hp with rfl | hp
      · exact decXV_sees hx h1
      · exact ArgR.sees hvs h2 p hp
    | same h1 h2 =>
      intro p hp
      simp only [mpL, List.zip_cons_cons, imRd, List.map_cons, List.mem_cons] at hp
      rcases hp with rfl | hp
      · rw [← h1]; exact xeval_sees hx
      · exact ArgR.sees hvs h2 p hp
def appAs {β R : Type} (f : Nat → Nat) : (l : List AS) → CurA l β → List XV → List XV → (β → List XV → Option R) → Option R
  | [], F, [], acc, K => K F acc
  | .d t :: r, F, v :: vs, acc, K => match decXV t v with
    | some y => appAs f r (F y) vs (acc ++ [.d (t.xv y)]) K
    | none => none
  | .p k off :: r, F, v :: vs, acc, K => cond (isPtr (f k) off v) (appAs f r F vs (acc ++ [.nm k (pkOf off)]) K) none
  | .os k t :: r, F, v :: vs, acc, K => match osOf (f k) t v with
    | some n => appAs f r (F n) vs (acc ++ [.os k t 0 n]) K
    | none => none
  | .oa k a t :: r, F, v :: vs, acc, K => match osOfA (f k) a t v with
    | some n => appAs f r (F n) vs (acc ++ [.os k t a n]) K
    | none => none
  | .clo g ps :: r, F, v :: vs, acc, K => cond (isCloP f g ps v) (appAs f r F vs (acc ++ [.clo g (psX ps)]) K) none
  | .g _ t :: r, F, v :: vs, acc, K => match decXV t v with
    | some y => appAs f r (F y) vs (acc ++ [.d (t.xv y)]) K
    | none => none
  | _, _, _, _, _ => none
theorem appAs_ok {β R : Type} {Q : β → List XV → Prop} {f fl : Nat → Nat} {K : β → List XV → Option R} {r : R} : ∀ (l : List AS) (F : CurA l β) (vs us acc : List XV), GndA Q l F acc → ArgR f fl us acc → appAs f l F vs acc K = some r →
    ∃ F' xs, Q F' xs ∧ ArgR f fl (us ++ vs) xs ∧ K F' xs = some r
  | [], F, [], us, acc, hg, hr, h => ⟨F, acc, hg, by simpa using hr, h⟩
  | [], F, _ :: _, us, acc, hg, hr, h => by simp [appAs] at h
  | .d t :: l, F, [], us, acc, hg, hr, h => by simp [appAs] at h
  | .p k off :: l, F, [], us, acc, hg, hr, h => by simp [appAs] at h
  | .os k t :: l, F, [], us, acc, hg, hr, h => by simp [appAs] at h
  | .clo g ps :: l, F, [], us, acc, hg, hr, h => by simp [appAs] at h
  | .g k t :: l, F, [], us, acc, hg, hr, h => by simp [appAs] at h
  | .oa k a t :: l, F, [], us, acc, hg, hr, h => by simp [appAs] at h
  | .oa k a t :: l, F, v :: vs, us, acc, hg, hr, h => by
    simp only [appAs] at h
    split at h
    · rename_i n hn
      obtain ⟨F', xs, h1, h2, h3⟩ := appAs_ok l (F n) vs (us ++ [v]) _ (hg n) (hr.app (.same (x := .os k t a n) (osOfA_eq hn) .nil)) h
      exact ⟨F', xs, h1, by simpa using h2, h3⟩
    · cases h
  | .g k t :: l, F, v :: vs, us, acc, hg, hr, h => by
    simp only [appAs] at h
    split at h
    · rename_i y hy
      obtain ⟨F', xs, h1, h2, h3⟩ := appAs_ok l (F y) vs (us ++ [v]) _ (hg y) (hr.app (.dat hy .nil)) h
      exact ⟨F', xs, h1, by simpa using h2, h3⟩
    · cases h
  | .d t :: l, F, v :: vs, us, acc, hg, hr, h => by
    simp only [appAs] at h
    split at h
    · rename_i y hy
      obtain ⟨F', xs, h1, h2, h3⟩ := appAs_ok l (F y) vs (us ++ [v]) _ (hg y) (hr.app (.dat hy .nil)) h
      exact ⟨F', xs, h1, by simpa using h2, h3⟩
    · cases h
  | .p k off :: l, F, v :: vs, us, acc, hg, hr, h => by
    simp only [appAs] at h
    cases hp : isPtr (f k) off v with
    | false => simp [hp] at h
    | true =>
      simp only [hp, cond_true] at h
      obtain ⟨F', xs, h1, h2, h3⟩ := appAs_ok l F vs (us ++ [v]) (acc ++ [.nm k (pkOf off)]) hg (hr.app (.same (x := .nm k (pkOf off)) (isPtr_eq hp) .nil)) h
      exact ⟨F', xs, h1, by simpa using h2, h3⟩
  | .os k t :: l, F, v :: vs, us, acc, hg, hr, h => by
    simp only [appAs] at h
    split at h
    · rename_i n hn
      obtain ⟨F', xs, h1, h2, h3⟩ := appAs_ok l (F n) vs (us ++ [v]) _ (hg n) (hr.app (.same (x := .os k t 0 n) (osOf_eq hn) .nil)) h
      exact ⟨F', xs, h1, by simpa using h2, h3⟩
    · cases h
  | .clo g ps :: l, F, v :: vs, us, acc, hg, hr, h => by
    simp only [appAs] at h
    cases hp : isCloP f g ps v with
    | false => simp [hp] at h
    | true =>
      simp only [hp, cond_true] at h
      obtain ⟨F', xs, h1, h2, h3⟩ := appAs_ok l F vs (us ++ [v]) (acc ++ [.clo g (psX ps)]) hg (hr.app (.same (isCloP_eq hp) .nil)) h
      exact ⟨F', xs, h1, by simpa using h2, h3⟩
def plainX : XD → Bool
  | .v _ => false
  | .ic _ _ _ => false
  | _ => true
def plainXs : List XD → Bool
  | [] => true
  | x :: r => cond (plainX x) (plainXs r) false
theorem plainXs_cons {x : XD} {r : List XD} (h : plainXs (x :: r) = true) : plainX x = true ∧ plainXs r = true := by
  simp only [plainXs] at h
  cases hx : plainX x with
  | false => simp [hx] at h
  | true => simp only [hx, cond_true] at h; exact ⟨rfl, h⟩
theorem dec_plain : ∀ (t : Ty) {cs : List XD} {x : t.T} {r : List XD}, plainXs cs = true → t.dec cs = some (x, r) → dsOf cs = t.ds x ++ dsOf r ∧ plainXs r = true := by
  intro t
  induction t with
  | int k =>
    intro cs x r hp h
    simp only [Ty.dec] at h
    unfold decI at h
    split at h
    · rename_i k' n r'
      cases hk : kindB k' k with
      | false => simp [hk] at h
      | true =>
        have := kindB_eq hk
        subst this
        simp only [hk, cond_true, Option.some.injEq, Prod.mk.injEq] at h
        obtain ⟨rfl, rfl⟩ := h
        exact ⟨rfl, (plainXs_cons hp).2⟩
    · rename_i x' r'
      cases hk : kindB .u8 k with
      | false => simp [hk] at h
      | true =>
        have := kindB_eq hk
        subst this
        simp only [hk, cond_true, Option.some.injEq, Prod.mk.injEq] at h
        obtain ⟨rfl, rfl⟩ := h
        exact ⟨rfl, (plainXs_cons hp).2⟩
    · cases h
  | u8 =>
    intro cs x r hp h
    simp only [Ty.dec] at h
    unfold decU8 at h
    split at h
    · cases h; exact ⟨rfl, (plainXs_cons hp).2⟩
    · cases h
  | bool =>
    intro cs x r hp h
    simp only [Ty.dec] at h
    unfold decB at h
    split at h
    · cases h; exact ⟨rfl, (plainXs_cons hp).2⟩
    · cases h
  | str =>
    intro cs x r hp h
    simp only [Ty.dec] at h
    unfold decS at h
    split at h
    · cases h; exact ⟨rfl, (plainXs_cons hp).2⟩
    · cases h
  | sl t ih =>
    intro cs x r hp h
    simp only [Ty.dec] at h
    unfold decL at h
    split at h
    · rename_i t' l r'
      split at h
      · rename_i ht
        have e := Ty.eqb_eq ht
        subst e
        cases h
        exact ⟨rfl, (plainXs_cons hp).2⟩
      · cases h
    · simp [plainXs, plainX] at hp
    · simp [plainXs, plainX] at hp
    · cases h
  | unit =>
    intro cs x r hp h
    simp [Ty.dec] at h
    subst h
    exact ⟨rfl, hp⟩
  | pair a b iha ihb =>
    intro cs x r hp h
    unfold Ty.dec at h
    split at h
    · rename_i p hpa
      split at h
      · rename_i q hq
        cases h
        obtain ⟨h1, h2⟩ := iha (x := p.1) (r := p.2) hp hpa
        obtain ⟨h3, h4⟩ := ihb (x := q.1) (r := q.2) h2 hq
        exact ⟨by rw [h1, h3]; simp [Ty.ds], h4⟩
      · cases h
    · cases h
  | st1 a iha =>
    intro cs x r hp h
    exact iha hp h
  | tab t ih =>
    intro cs x r hp h
    simp only [Ty.dec] at h
    unfold decT at h
    split at h
    · rename_i t' l r'
      split at h
      · rename_i ht
        have e := Ty.eqb_eq ht
        subst e
        cases h
        exact ⟨rfl, (plainXs_cons hp).2⟩
      · cases h
    · cases h
  | err =>
    intro cs x r hp h
    simp only [Ty.dec] at h
    unfold decE at h
    split at h
    · cases h; exact ⟨rfl, (plainXs_cons hp).2⟩
    · simp [plainXs, plainX] at hp
    · simp [plainXs, plainX] at hp
    · cases h
  | ic t k =>
    intro cs x r hp h
    simp only [Ty.dec] at h
    unfold decIc at h
    split at h
    · simp [plainXs, plainX] at hp
    · simp [plainXs, plainX] at hp
    · cases h
  | ptr =>
    intro cs x r hp h
    simp only [Ty.dec] at h
    unfold decP at h
    split at h
    · cases h; exact ⟨rfl, (plainXs_cons hp).2⟩
    · simp [plainXs, plainX] at hp
    · cases h
def tipOf (m : Nat) (t : Ty) (ty : Option TypeId) : XV → Option (List t.T)
  | .tip m' t' l ty' => cond (Nat.beq m' m) (cond (tyEqO ty' ty) (if h : t'.eqb t = true then some (Ty.eqb_eq h ▸ l) else none) none) none
  | _ => none
theorem tipOf_eq {m : Nat} {t : Ty} {ty : Option TypeId} {v : XV} {l : List t.T} (h : tipOf m t ty v = some l) : v = .tip m t l ty := by
  unfold tipOf at h
  split at h
  · rename_i m' t' l' ty'
    cases h1 : Nat.beq m' m with
    | false => simp [h1] at h
    | true =>
    cases h2 : tyEqO ty' ty with
    | false => simp [h1, h2] at h
    | true =>
      simp only [h1, h2, cond_true] at h
      split at h
      · rename_i ht
        have e := Ty.eqb_eq ht
        subst e
        cases h
        rw [Nat.eq_of_beq_eq_true h1, tyEqO_eq h2]
      · cases h
  · cases h
def zOf (m off : Nat) (ex : Bool) : XV → Option Bool
  | .nm k' (.z b off') => cond (Nat.beq k' m) (cond (Nat.beq off' off) (some b) none) none
  | .nm k' (.p off') => cond ex none (cond (Nat.beq k' m) (cond (Nat.beq off' off) (some false) none) none)
  | .d (.v (.pointer none)) => cond ex none (some true)
  | _ => none
def CellR (f fl : Nat → Nat) (ex : Bool) (cs xs : List XV) : Prop := AsLe (asOf cs) (asOf (mpL f fl xs)) ∧ (ex = true → asOf cs = asOf (mpL f fl xs))
theorem AsLe.refl : ∀ (l : List AV), AsLe l l
  | [] => .nil
  | x :: r => .cons (.refl x) (AsLe.refl r)
theorem AsLe.append {a b c d : List AV} (h : AsLe a b) (h' : AsLe c d) : AsLe (a ++ c) (b ++ d) := by
  induction h with
  | nil => exact h'
  | cons h1 _ ih => exact .cons h1 ih
theorem mpL_append (f fl : Nat → Nat) (a b : List XV) : mpL f fl (a ++ b) = mpL f fl a ++ mpL f fl b := by simp [mpL_map]
theorem CellR.app {f fl : Nat → Nat} {ex : Bool} {a b c d : List XV} (h : CellR f fl ex a b) (h' : CellR f fl ex c d) : CellR f fl ex (a ++ c) (b ++ d) := by
  refine ⟨?_, fun e => ?_⟩
  · rw [asOf_append, mpL_append, asOf_append]; exact h.1.append h'.1
  · rw [asOf_append, mpL_append, asOf_append, h.2 e, h'.2 e]
theorem CellR.same {f fl : Nat → Nat} {ex : Bool} {v x : XV} (h : v = x.mp f fl) : CellR f fl ex [v] [x] := by
  subst h
  exact ⟨.refl _, fun _ => rfl⟩
theorem asOf_map_d (l : List XD) : asOf (l.map .d) = (dsOf l).map .d := by
  rw [asOf_map, dsOf_map]; simp [XV.a]
theorem mpL_map_d (f fl : Nat → Nat) (l : List XD) : mpL f fl (l.map .d) = l.map .d := by
  rw [mpL_map]; simp [XV.mp]
theorem DsLe.as {a b : List D} (h : DsLe a b) : AsLe (a.map .d) (b.map .d) := by
  induction h with
  | nil => exact .nil
  | cons h1 _ ih => exact .cons (ALe.d h1) ih
theorem CellR.data {f fl : Nat → Nat} {ex : Bool} {t : Ty} {ds : List XD} {y : t.T} (h : t.dec ds = some (y, [])) (hex : ex = true → plainXs ds = true) : CellR f fl ex (ds.map .d) ((t.enc y).map .d) := by
  refine ⟨?_, fun e => ?_⟩
  · obtain ⟨ds', h1, h2⟩ := t.dec_spec h
    rw [mpL_map_d, asOf_map_d, asOf_map_d, t.enc_ds]
    simp only [dsOf, List.append_nil] at h1
    rw [h1]
    exact h2.as
  · obtain ⟨h1, _⟩ := dec_plain t (hex e) h
    rw [mpL_map_d, asOf_map_d, asOf_map_d, t.enc_ds, h1]
    simp [dsOf]
theorem zOf_rel {f fl : Nat → Nat} {k off : Nat} {ex : Bool} {v : XV} {b : Bool} (h : zOf (f k) off ex v = some b) : CellR f fl ex [v] [.nm k (.z b off)] := by
  have mk : (∀ (g : Gh) (w : World) (u : Value), RA g w v.a u → RA g w (XV.nm (f k) (.z b off)).a u) → (ex = true → v = .nm (f k) (.z b off)) → CellR f fl ex [v] [.nm k (.z b off)] := by
    intro h1 h2
    refine ⟨.cons h1 .nil, fun he => ?_⟩
    rw [h2 he]; rfl
  unfold zOf at h
  split at h
  · rename_i k' b' off'
    cases h1 : Nat.beq k' (f k) with
    | false => simp [h1] at h
    | true =>
      cases h2 : Nat.beq off' off with
      | false => simp [h1, h2] at h
      | true =>
        simp only [h1, h2, cond_true, Option.some.injEq] at h
        have e1 := Nat.eq_of_beq_eq_true h1
        have e2 := Nat.eq_of_beq_eq_true h2
        subst e1; subst e2; subst h
        exact mk (fun _ _ _ h => h) (fun _ => rfl)
  · rename_i k' off'
    cases hx : ex with
    | true => simp [hx] at h
    | false =>
      rw [hx] at mk
      cases h1 : Nat.beq k' (f k) with
      | false => simp [h1, hx] at h
      | true =>
        cases h2 : Nat.beq off' off with
        | false => simp [h1, h2, hx] at h
        | true =>
          simp only [h1, h2, hx, cond_true, cond_false, Option.some.injEq] at h
          have e1 := Nat.eq_of_beq_eq_true h1
          have e2 := Nat.eq_of_beq_eq_true h2
          subst e1; subst e2; subst h
          refine mk (fun g w u hr => ?_) (fun e => by cases e)
          simp only [XV.a] at hr ⊢
          cases hr with
          | nm _ _ _ h => exact .nm _ _ _ h
  · cases hx : ex with
    | true => simp [hx] at h
    | false =>
      rw [hx] at mk
      simp only [hx, cond_false, Option.some.injEq] at h
      subst h
      refine mk (fun g w u hr => ?_) (fun e => by cases e)
      simp only [XV.a, XD.d] at hr ⊢
      cases hr with
      | d _ _ h1 => cases h1; exact .nm _ _ _ rfl
  · cases h
def appCs {β R : Type} (f fl : Nat → Nat) (ex : Bool) : (l : List VK) → CurC l β → List XV → List XV → (β → List XV → Option R) → Option R
  | [], F, [], acc, K => K F acc
  | .d t :: r, F, cs, acc, K => match allX (cs.take t.size) with
    | some ds => cond (cond ex (plainXs ds) true) (match t.dec ds with
      | some (y, []) => appCs f fl ex r (F y) (cs.drop t.size) (acc ++ (t.enc y).map .d) K
      | _ => none) none
    | none => none
  | .p k off :: r, F, c :: cs, acc, K => cond (isPtr (f k) off c) (appCs f fl ex r F cs (acc ++ [.nm k (pkOf off)]) K) none
  | .z k off :: r, F, c :: cs, acc, K => match zOf (f k) off ex c with
    | some b => appCs f fl ex r (F b) cs (acc ++ [.nm k (.z b off)]) K
    | none => none
  | .tip n t ty :: r, F, c :: cs, acc, K => match tipOf (fl n) t ty c with
    | some l => appCs f fl ex r (F l) cs (acc ++ [.tip n t l ty]) K
    | none => none
  | _, _, _, _, _ => none
theorem appCs_ok {β R : Type} {Q : β → List XV → Prop} {f fl : Nat → Nat} {ex : Bool} {K : β → List XV → Option R} {r : R} : ∀ (l : List VK) (F : CurC l β) (cs us acc : List XV), GndC Q l F acc → CellR f fl ex us acc → appCs f fl ex l F cs acc K = some r →
    ∃ F' xs, Q F' xs ∧ CellR f fl ex (us ++ cs) xs ∧ K F' xs = some r
  | [], F, [], us, acc, hg, hr, h => ⟨F, acc, hg, by simpa using hr, h⟩
  | [], F, _ :: _, us, acc, hg, hr, h => by simp [appCs] at h
  | .p k off :: l, F, [], us, acc, hg, hr, h => by simp [appCs] at h
  | .tip n t ty :: l, F, [], us, acc, hg, hr, h => by simp [appCs] at h
  | .z k off :: l, F, [], us, acc, hg, hr, h => by simp [appCs] at h
  | .d t :: l, F, cs, us, acc, hg, hr, h => by
    unfold appCs at h
    split at h
    · rename_i ds hds
      have hex : ex = true → plainXs ds = true := by
        intro e
        subst e
        cases hp : plainXs ds with
        | true => rfl
        | false => simp [hp] at h
      have h : (match t.dec ds with
        | some (y, []) => appCs f fl ex l (F y) (cs.drop t.size) (acc ++ (t.enc y).map .d) K
        | _ => none) = some r := by
        cases hc : (cond ex (plainXs ds) true) with
        | true => simpa [hc] using h
        | false => simp [hc] at h
      split at h
      · rename_i y hy
        have e1 := allX_map hds
        have hrel := CellR.data (f := f) (fl := fl) (ex := ex) hy hex
        rw [← e1] at hrel
        obtain ⟨F', xs, h1, h2, h3⟩ := appCs_ok l (F y) (cs.drop t.size) (us ++ cs.take t.size) _ (hg y) (hr.app hrel) h
        refine ⟨F', xs, h1, ?_, h3⟩
        rw [List.append_assoc, List.take_append_drop] at h2
        exact h2
      · cases h
    · cases h
  | .p k off :: l, F, c :: cs, us, acc, hg, hr, h => by
    simp only [appCs] at h
    cases hp : isPtr (f k) off c with
    | false => simp [hp] at h
    | true =>
      simp only [hp, cond_true] at h
      obtain ⟨F', xs, h1, h2, h3⟩ := appCs_ok l F cs (us ++ [c]) (acc ++ [.nm k (pkOf off)]) hg (hr.app (.same (x := .nm k (pkOf off)) (isPtr_eq hp))) h
      exact ⟨F', xs, h1, by simpa using h2, h3⟩
  | .z k off :: l, F, c :: cs, us, acc, hg, hr, h => by
    simp only [appCs] at h
    split at h
    · rename_i b hb
      obtain ⟨F', xs, h1, h2, h3⟩ := appCs_ok l (F b) cs (us ++ [c]) _ (hg b) (hr.app (zOf_rel hb)) h
      exact ⟨F', xs, h1, by simpa using h2, h3⟩
    · cases h
  | .tip n t ty :: l, F, c :: cs, us, acc, hg, hr, h => by
    simp only [appCs] at h
    split at h
    · rename_i u hu
      obtain ⟨F', xs, h1, h2, h3⟩ := appCs_ok l (F u) cs (us ++ [c]) _ (hg u) (hr.app (.same (x := .tip n t u ty) (tipOf_eq hu))) h
      exact ⟨F', xs, h1, by simpa using h2, h3⟩
    · cases h
def InR (f fl : Nat → Nat) (ko : List Nat) (objs : List (Nat × XOb)) (p : Nat × XOb) : Prop :=
  ∃ o, lk (f p.1) objs = some o ∧ ObLe o.o (p.2.mp f fl).o ∧ (inl p.1 ko = true → o.o = (p.2.mp f fl).o)
def appOs {β R : Type} (f fl : Nat → Nat) (ko : List Nat) (objs : List (Nat × XOb)) : (l : List (Nat × List VK × Option TypeId)) → CurO l β → List (Nat × XOb) → (β → List (Nat × XOb) → Option R) → Option R
  | [], F, acc, K => K F acc
  | p :: r, F, acc, K => match lk (f p.1) objs with
    | some (.cells cs ty) => cond (tyEqO ty p.2.2) (appCs f fl (inl p.1 ko) p.2.1 F cs [] fun F' xs => appOs f fl ko objs r F' (acc ++ [(p.1, .cells xs p.2.2)]) K) none
    | _ => none
theorem AsLe.obs {a b : List AV} {ty : Option TypeId} (h : AsLe a b) : ObLe (.cells a ty) (.cells b ty) := by
  refine .cells h.length (fun i x y hx hy => ?_) (.inl rfl)
  obtain ⟨x', hx', hle⟩ := h.get hy
  rw [hx] at hx'
  cases hx'
  exact hle
theorem appOs_ok {β R : Type} {Q : β → List (Nat × XOb) → Prop} {f fl : Nat → Nat} {ko : List Nat} {objs : List (Nat × XOb)} {K : β → List (Nat × XOb) → Option R} {r : R} : ∀ (l : List (Nat × List VK × Option TypeId)) (F : CurO l β) (acc : List (Nat × XOb)), GndO Q l F acc → (∀ p ∈ acc, InR f fl ko objs p) → appOs f fl ko objs l F acc K = some r →
    ∃ F' os, Q F' os ∧ (∀ p ∈ os, InR f fl ko objs p) ∧ K F' os = some r
  | [], F, acc, hg, hr, h => ⟨F, acc, hg, hr, h⟩
  | q :: l, F, acc, hg, hr, h => by
    simp only [appOs] at h
    split at h
    · rename_i cs ty hk
      cases ht : tyEqO ty q.2.2 with
      | false => simp [ht] at h
      | true =>
        simp only [ht, cond_true] at h
        have e := tyEqO_eq ht
        subst e
        obtain ⟨F', xs, h1, h2, h3⟩ := appCs_ok q.2.1 F cs [] [] hg ⟨.nil, fun _ => rfl⟩ h
        refine appOs_ok l F' _ h1 ?_ h3
        intro p hp
        rcases List.mem_append.1 hp with hp | hp
        · exact hr p hp
        · simp only [List.mem_singleton] at hp
          subst hp
          refine ⟨_, hk, ?_, fun hh => ?_⟩
          · simp only [XOb.o, XOb.mp]
            exact AsLe.obs h2.1
          · simp only [XOb.o, XOb.mp]
            have := h2.2 hh
            rw [List.nil_append] at this
            rw [this]
    · cases h
def OK.okc (f : Nat → Nat) : OK → Bool
  | .mit m => Nat.beq (f m) m
  | .mapt _ _ _ => false
  | _ => true
theorem OK.okc_mp {f fl : Nat → Nat} {o : OK} {y : o.T} (h : o.okc f = true) : (o.ob y).mp f fl = o.ob y := by
  cases o with
  | mit m => show XOb.mit (f m) _ _ _ = _; rw [Nat.eq_of_beq_eq_true h]; rfl
  | mapt L k v => simp [OK.okc] at h
  | _ => rfl
def appRs {β R : Type} (f : Nat → Nat) (objs : List (Nat × XOb)) : (l : List (Nat × OK)) → CurR l β → List (Nat × XOb) → (β → List (Nat × XOb) → Option R) → Option R
  | [], F, acc, K => K F acc
  | p :: r, F, acc, K => match lk (f p.1) objs with
    | some o => match p.2.dec o with
      | some y => cond (p.2.okc f) (appRs f objs r (F y) (acc ++ [(p.1, p.2.ob y)]) K) none
      | none => none
    | none => none
theorem appRs_ok {β R : Type} {Q : β → List (Nat × XOb) → Prop} {f fl : Nat → Nat} {ko : List Nat} {objs : List (Nat × XOb)} {K : β → List (Nat × XOb) → Option R} {r : R} : ∀ (l : List (Nat × OK)) (F : CurR l β) (acc : List (Nat × XOb)), GndR Q l F acc → (∀ p ∈ acc, InR f fl ko objs p) → appRs f objs l F acc K = some r →
    ∃ F' os, Q F' os ∧ (∀ p ∈ os, InR f fl ko objs p) ∧ K F' os = some r
  | [], F, acc, hg, hr, h => ⟨F, acc, hg, hr, h⟩
  | q :: l, F, acc, hg, hr, h => by
    obtain ⟨qk, qt⟩ := q
    simp only [appRs] at h
    split at h
    · rename_i o hk
      split at h
      · rename_i y hy
        cases hc : qt.okc f with
        | false => simp [hc] at h
        | true =>
        simp only [hc, cond_true] at h
        refine appRs_ok l _ _ (hg y) ?_ h
        intro p hp
        rcases List.mem_append.1 hp with hp | hp
        · exact hr p hp
        · simp only [List.mem_singleton] at hp
          subst hp
          refine ⟨_, hk, ?_, fun _ => ?_⟩
          · rw [OK.okc_mp hc, OK.dec_eq hy]; exact .refl _
          · rw [OK.okc_mp hc, OK.dec_eq hy]
      · cases h
    · cases h
end Go.Xl
set_option linter.unusedVariables false
set_option linter.unusedSimpArgs false
set_option linter.unnecessarySimpa false
namespace Go.Xl
open Go.Ab
def outW (c : Cut) (y : c.T) : List (Nat × XOb) := genObjs c.objs y.2.1 ++ (genOwnO c.own y.2.2.1 ++ genArrs c.arrs y.2.2.2)
theorem gen_objs (s0 : XSt) (c : Cut) (y : c.T) : (gen s0 c y).objs = outW c y ++ keepObjs s0.objs c.keepO := by simp [gen, outW]
def newOk (ns : List Nat) (f : Nat → Nat) (F : List Nat) (objs : List (Nat × XOb)) : List (Nat × XOb) → Bool
  | [] => true
  | p :: r => cond (cond (inl p.1 ns) true (cond (inl (f p.1) F) (match lk (f p.1) objs with
    | none => true
    | some _ => false) false)) (newOk ns f F objs r) false
theorem newOk_spec {ns : List Nat} {f : Nat → Nat} {F : List Nat} {objs : List (Nat × XOb)} : ∀ {l : List (Nat × XOb)}, newOk ns f F objs l = true → ∀ p ∈ l, p.1 ∈ ns ∨ (f p.1 ∈ F ∧ lk (f p.1) objs = none)
  | [], _ => by simp
  | q :: r, h => by
    simp only [newOk] at h
    have hr : newOk ns f F objs r = true ∧ (q.1 ∈ ns ∨ (f q.1 ∈ F ∧ lk (f q.1) objs = none)) := by
      cases h1 : inl q.1 ns with
      | true => simp only [h1, cond_true] at h; exact ⟨h, .inl ((inl_eq _ _).1 h1)⟩
      | false =>
        cases h2 : inl (f q.1) F with
        | false => simp [h1, h2] at h
        | true =>
          cases h3 : lk (f q.1) objs with
          | some _ => simp [h1, h2, h3] at h
          | none => simp only [h1, h2, h3, cond_true, cond_false] at h; exact ⟨h, .inr ⟨(inl_eq _ _).1 h2, rfl⟩⟩
    intro p hp
    rcases List.mem_cons.1 hp with rfl | hp
    · exact hr.2
    · exact newOk_spec hr.1 p hp
def outNew (fl : Nat → Nat) (labs live : List Nat) : List Nat → Bool
  | [] => true
  | n :: r => cond (cond (inl (fl n) live) (inl (fl n) (labs.map fl)) true) (outNew fl labs live r) false
theorem outNew_spec {fl : Nat → Nat} {labs live : List Nat} : ∀ {l : List Nat}, outNew fl labs live l = true → ∀ n ∈ l, fl n ∈ live → fl n ∈ labs.map fl
  | [], _ => by simp
  | m :: r, h => by
    simp only [outNew] at h
    intro n hn hl
    cases h1 : inl (fl m) live with
    | false =>
      simp only [h1, cond_false, cond_true] at h
      rcases List.mem_cons.1 hn with rfl | hn
      · rw [(inl_eq _ _).2 hl] at h1; cases h1
      · exact outNew_spec h n hn hl
    | true =>
      cases h2 : inl (fl m) (labs.map fl) with
      | false => simp [h1, h2] at h
      | true =>
        simp only [h1, h2, cond_true] at h
        rcases List.mem_cons.1 hn with rfl | hn
        · exact (inl_eq _ _).1 h2
        · exact outNew_spec h n hn hl
def cChk (S : CSp) (f fl : Nat → Nat) (F : List Nat) (st : XSt) (xs : List XV) (inO s1o : List (Nat × XOb)) (s1l : List Nat) (res : XV) : Bool :=
  cond (nodupL S.names) (cond (nodupL (S.names.map f)) (cond (objsNms S.names S.labs inO) (cond (objsNms (s1o.map (·.1)) s1l s1o) (cond (nodupL (s1o.map fun p => f p.1)) (cond (newOk S.names f F st.objs s1o)
  (cond (subL S.names (s1o.map (·.1))) (cond (objsFreeX F (putXs f fl inO st.objs)) (cond (subL (S.labs.map fl) st.live) (cond (nodupL (S.labs.map fl)) (cond (nodupL (s1l.map fl)) (cond (subL (s1l.map fl) F)
  (cond (outNew fl S.labs st.live s1l) (cond (nmsL S.names S.labs xs) (res.nms (s1o.map (·.1)) s1l) false) false) false) false) false) false) false) false) false) false) false) false) false) false
structure CChk (S : CSp) (f fl : Nat → Nat) (F : List Nat) (st : XSt) (xs : List XV) (inO s1o : List (Nat × XOb)) (s1l : List Nat) (res : XV) : Prop where
  nd1 : S.names.Nodup
  nd2 : (S.names.map f).Nodup
  innm : objsNms S.names S.labs inO = true
  outnm : objsNms (s1o.map (·.1)) s1l s1o = true
  nd3 : (s1o.map fun p => f p.1).Nodup
  new : ∀ p ∈ s1o, p.1 ∈ S.names ∨ (f p.1 ∈ F ∧ lk (f p.1) st.objs = none)
  sub : ∀ x ∈ S.names, x ∈ s1o.map (·.1)
  free : objsFreeX F (putXs f fl inO st.objs) = true
  l1 : ∀ x ∈ S.labs.map fl, x ∈ st.live
  l2 : (S.labs.map fl).Nodup
  l3 : (s1l.map fl).Nodup
  l4 : ∀ x ∈ s1l.map fl, x ∈ F
  l5 : ∀ n ∈ s1l, fl n ∈ st.live → fl n ∈ S.labs.map fl
  xsn : nmsL S.names S.labs xs = true
  resn : res.nms (s1o.map (·.1)) s1l = true
theorem cChk_spec {S : CSp} {f fl : Nat → Nat} {F : List Nat} {st : XSt} {xs : List XV} {inO s1o : List (Nat × XOb)} {s1l : List Nat} {res : XV} (h : cChk S f fl F st xs inO s1o s1l res = true) : CChk S f fl F st xs inO s1o s1l res := by
  unfold cChk at h
  have c : ∀ {a b : Bool}, cond a b false = true → a = true ∧ b = true := by intro a b h; cases a <;> simp at h; exact ⟨rfl, h⟩
  obtain ⟨h1, h⟩ := c h
  obtain ⟨h2, h⟩ := c h
  obtain ⟨h3, h⟩ := c h
  obtain ⟨h4, h⟩ := c h
  obtain ⟨h5, h⟩ := c h
  obtain ⟨h6, h⟩ := c h
  obtain ⟨h7, h⟩ := c h
  obtain ⟨h8, h⟩ := c h
  obtain ⟨h9, h⟩ := c h
  obtain ⟨h10, h⟩ := c h
  obtain ⟨h11, h⟩ := c h
  obtain ⟨h12, h⟩ := c h
  obtain ⟨h13, h⟩ := c h
  obtain ⟨h14, h⟩ := c h
  exact ⟨nodupL_spec h1, nodupL_spec h2, h3, h4, nodupL_spec h5, newOk_spec h6, subL_spec h7, h8, subL_spec h9, nodupL_spec h10, nodupL_spec h11, subL_spec h12, outNew_spec h13, h14, h⟩
theorem im_mem {l : List (Nat × XOb)} {p : Nat × Ob} (h : p ∈ imObjs l) : ∃ q ∈ l, p = (q.1, q.2.o) := by
  unfold imObjs at h
  obtain ⟨q, hq, rfl⟩ := List.mem_map.1 h
  exact ⟨q, hq, rfl⟩
theorem putObjsL_im_other {f fl : Nat → Nat} {l : List (Nat × XOb)} {acc : List (Nat × Ob)} {j : Nat} (h : ∀ p ∈ l, f p.1 ≠ j) : (putObjsL f fl (imObjs l) acc).lookup j = acc.lookup j := by
  refine putObjsL_other _ _ j fun p hp => ?_
  obtain ⟨q, hq, rfl⟩ := im_mem hp
  exact h q hq
theorem putObjsL_im_mem {f fl : Nat → Nat} {l : List (Nat × XOb)} {acc : List (Nat × Ob)} {p : Nat × XOb} (hn : (l.map fun p => f p.1).Nodup) (h : p ∈ l) : (putObjsL f fl (imObjs l) acc).lookup (f p.1) = some (p.2.mp f fl).o := by
  have := putObjsL_mem (f := f) (fl := fl) (imObjs l) acc (p.1, p.2.o) (by simpa [imObjs, Function.comp_def] using hn) (List.mem_map_of_mem (f := fun p : Nat × XOb => (p.1, p.2.o)) h)
  rw [XOb.mp_o]
  exact this
theorem call_core {P : Program} {o : Oper} {rd : List (Operand × AV)} {S : CSp} {f fl : Nat → Nat} {F : List Nat} {st : XSt} {xs : List XV} {inO : List (Nat × XOb)} {y : S.out.T} {res : XV} {X : Store}
    (hc : CChk S f fl F st xs inO (gen (S.s0 xs inO) S.out y).objs (gen (S.s0 xs inO) S.out y).live res) (hnm : inO.map (·.1) = S.names)
    (hin : ∀ p ∈ inO, ∃ o, X.objs.lookup (f p.1) = some o ∧ ObLe o (p.2.mp f fl).o ∧ (inl p.1 S.out.keepO = true → o = (p.2.mp f fl).o))
    (hnew : ∀ p ∈ (gen (S.s0 xs inO) S.out y).objs, p.1 ∈ S.names ∨ (f p.1 ∈ F ∧ X.objs.lookup (f p.1) = none))
    (hfree : objsFree F ⟨putObjsL f fl (imObjs inO) X.objs, X.live⟩ = true) (hl1 : ∀ x ∈ S.labs.map fl, x ∈ X.live) (hl5 : ∀ n ∈ (gen (S.s0 xs inO) S.out y).live, fl n ∈ X.live → fl n ∈ S.labs.map fl)
    (H : ∀ Y, LabCall Y ⟨imObjs inO, S.labs⟩ (gen (S.s0 xs inO) S.out y).X f fl F → OpT P o rd Y ⟨putObjsL f fl (gen (S.s0 xs inO) S.out y).X.objs Y.objs, liveAfter fl Y ⟨imObjs inO, S.labs⟩ (gen (S.s0 xs inO) S.out y).X⟩ F (res.mp f fl).a) :
    OpT P o rd X ⟨putObjsL f fl (imObjs (outW S.out y)) X.objs, liveAfter fl X ⟨imObjs inO, S.labs⟩ (gen (S.s0 xs inO) S.out y).X⟩ F (res.mp f fl).a := by
  generalize hs1 : gen (S.s0 xs inO) S.out y = s1 at *
  have hobjs : s1.objs = outW S.out y ++ keepObjs inO S.out.keepO := by rw [← hs1, gen_objs]; rfl
  have nd2 : (inO.map fun p => f p.1).Nodup := by
    have := hc.nd2
    rw [← hnm, List.map_map] at this
    exact this
  let Y : Store := ⟨putObjsL f fl (imObjs inO) X.objs, X.live⟩
  have yIn : ∀ p ∈ inO, Y.objs.lookup (f p.1) = some (p.2.mp f fl).o := fun p hp => putObjsL_im_mem nd2 hp
  have yOther : ∀ j, (∀ p ∈ inO, f p.1 ≠ j) → Y.objs.lookup j = X.objs.lookup j := fun j hj => putObjsL_im_other hj
  have yCases : ∀ j, (∃ p ∈ inO, f p.1 = j) ∨ ∀ p ∈ inO, f p.1 ≠ j := by
    intro j
    by_cases h : ∃ p ∈ inO, f p.1 = j
    · exact .inl h
    · exact .inr fun p hp e => h ⟨p, hp, e⟩
  have hle : ∀ k o', Y.objs.lookup k = some o' → ∃ o, X.objs.lookup k = some o ∧ ObLe o o' := by
    intro k o' ho
    rcases yCases k with ⟨p, hp, rfl⟩ | hn
    · rw [yIn p hp] at ho
      cases ho
      obtain ⟨o, h1, h2, _⟩ := hin p hp
      exact ⟨o, h1, h2⟩
    · rw [yOther k hn] at ho
      exact ⟨o', ho, .refl _⟩
  have hkk : ∀ k, (X.objs.lookup k).isSome → (Y.objs.lookup k).isSome := by
    intro k hk
    rcases yCases k with ⟨p, hp, rfl⟩ | hn
    · rw [yIn p hp]; rfl
    · rw [yOther k hn]; exact hk
  have hXn : s1.X.objs.map (·.1) = s1.objs.map (·.1) := imObjs_names _
  have hlab : LabCall Y ⟨imObjs inO, S.labs⟩ s1.X f fl F := by
    refine ⟨?_, ?_, ?_, ?_, ?_, ?_, ?_, hfree, ?_, hc.l2, hc.l3, fun n hn => hc.l4 _ (List.mem_map_of_mem hn), hl5⟩
    · intro p hp
      obtain ⟨q, hq, rfl⟩ := im_mem hp
      rw [yIn q hq, XOb.mp_o]
    · simp only [imObjs_names, hnm]
      exact objsNms_im hc.innm
    · rw [hXn]
      exact objsNms_im hc.outnm
    · have := hc.nd3
      simpa [XSt.X, imObjs, Function.comp_def] using this
    · simp only [imObjs_names, hnm]
      exact hc.nd1
    · intro p hp
      obtain ⟨q, hq, rfl⟩ := im_mem hp
      simp only [imObjs_names, hnm]
      rcases hnew q hq with h | ⟨h1, h2⟩
      · exact .inl h
      · refine .inr ⟨h1, ?_⟩
        rw [yOther]
        · exact h2
        · intro p hp e
          obtain ⟨o, h3, _⟩ := hin p hp
          rw [e, h2] at h3
          cases h3
    · intro p hp
      obtain ⟨q, hq, rfl⟩ := im_mem hp
      rw [hXn]
      exact hc.sub _ (by rw [← hnm]; exact List.mem_map_of_mem (f := fun p : Nat × XOb => p.1) hq)
    · intro n hn
      exact hl1 _ (List.mem_map_of_mem hn)
  have h1 := opT_weak (H Y hlab) hle hkk rfl
  -- the same lookups
  have ndo := hc.nd3
  rw [hobjs] at ndo
  have same : ∀ j, (putObjsL f fl (imObjs (outW S.out y)) X.objs).lookup j = (putObjsL f fl s1.X.objs Y.objs).lookup j := by
    intro j
    by_cases hj : ∃ p ∈ s1.objs, f p.1 = j
    · obtain ⟨p, hp, rfl⟩ := hj
      have e1 : (putObjsL f fl s1.X.objs Y.objs).lookup (f p.1) = some (p.2.mp f fl).o := putObjsL_im_mem hc.nd3 hp
      rw [e1]
      rw [hobjs] at hp
      rcases List.mem_append.1 hp with hp | hp
      · exact putObjsL_im_mem (by
          rw [List.map_append] at ndo
          exact (nodup_app ndo).1) hp
      · rw [putObjsL_im_other]
        · obtain ⟨hk1, hk2⟩ := keepObjs_mem hp
          have hmem : p ∈ inO := lk_mem hk2
          obtain ⟨o, h3, _, h4⟩ := hin p hmem
          rw [h3, h4 ((inl_eq _ _).2 hk1)]
        · intro q hq e
          rw [List.map_append] at ndo
          exact (nodup_app ndo).2.2 (f q.1) (List.mem_map_of_mem (f := fun p : Nat × XOb => f p.1) hq) (by rw [e]; exact List.mem_map_of_mem (f := fun p : Nat × XOb => f p.1) hp)
    · have hn : ∀ p ∈ s1.objs, f p.1 ≠ j := fun p hp e => hj ⟨p, hp, e⟩
      have e1 : (putObjsL f fl s1.X.objs Y.objs).lookup j = Y.objs.lookup j := putObjsL_im_other hn
      rw [e1, yOther j ?_, putObjsL_im_other ?_]
      · intro p hp
        exact hn p (by rw [hobjs]; exact List.mem_append_left _ hp)
      · intro p hp e
        have := hc.sub p.1 (by rw [← hnm]; exact List.mem_map_of_mem (f := fun p : Nat × XOb => p.1) hp)
        obtain ⟨q, hq, hqe⟩ := List.mem_map.1 this
        exact hn q hq (by rw [hqe]; exact e)
  intro nm hsm B g w a hr hrd next Q hn
  refine h1 nm hsm B g w a hr hrd next Q fun g' w' v hr' ht hv => hn g' w' v ?_ ht hv
  refine hr_weak hr' (fun k o' ho => ⟨o', ?_, .refl _⟩) (fun k hk => ?_) rfl
  · rw [← same k]; exact ho
  · rw [same k]; exact hk
def nmBase (o : Oper) : Nat := match o.dst with
  | some d => 1000000 + 1000 * d
  | none => 999000
def findP : List (Nat × Nat) → List XV → List (Nat × Nat) → List (Nat × Nat)
  | p :: ps, .nm k _ :: cs, σ => findP ps cs ((p.1, k) :: σ)
  | _ :: ps, _ :: cs, σ => findP ps cs σ
  | _, _, σ => σ
def findA : List AS → List XV → List (Nat × Nat) → List (Nat × Nat)
  | .p k _ :: r, .nm k' _ :: vs, σ => findA r vs ((k, k') :: σ)
  | .os k _ :: r, .os k' _ _ _ :: vs, σ => findA r vs ((k, k') :: σ)
  | .oa k _ _ :: r, .os k' _ _ _ :: vs, σ => findA r vs ((k, k') :: σ)
  | .clo _ ps :: r, .clo _ caps :: vs, σ => findA r vs (findP ps caps σ)
  | _ :: r, _ :: vs, σ => findA r vs σ
  | _, _, σ => σ
def findC : List VK → List XV → List (Nat × Nat) × List (Nat × Nat) → List (Nat × Nat) × List (Nat × Nat)
  | .d t :: r, cs, σ => findC r (cs.drop t.size) σ
  | .p k _ :: r, .nm k' _ :: cs, σ => findC r cs ((k, k') :: σ.1, σ.2)
  | .tip n _ _ :: r, .tip n' _ _ _ :: cs, σ => findC r cs (σ.1, (n, n') :: σ.2)
  | _ :: r, _ :: cs, σ => findC r cs σ
  | _, _, σ => σ
def findO (objs : List (Nat × XOb)) : List (Nat × List VK × Option TypeId) → List (Nat × Nat) × List (Nat × Nat) → List (Nat × Nat) × List (Nat × Nat)
  | [], σ => σ
  | p :: r, σ => match lk (nf σ.1 p.1) objs with
    | some (.cells cs _) => findO objs r (findC p.2.1 cs σ)
    | _ => findO objs r σ
def newNs (ns : List Nat) (b : Nat) : List Nat → List (Nat × Nat)
  | [] => []
  | k :: r => cond (inl k ns) (newNs ns b r) ((k, b + k) :: newNs ns b r)
def newLs (b : Nat) : List Nat → List (Nat × Nat)
  | [] => []
  | n :: r => (n, b) :: newLs (b + 1) r
def cNew (S : CSp) (o : Oper) : List (Nat × Nat) := newNs S.names (nmBase o) (namesOf S.out.objs ++ (ownNames S.out.own ++ arrNames S.out.arrs))
def cFind (S : CSp) (o : Oper) (st : XSt) (vs : List XV) : List (Nat × Nat) × List (Nat × Nat) :=
  let σ := findO st.objs S.objs (findA S.args vs [], [])
  (σ.1 ++ cNew S o, σ.2 ++ newLs (3000000 + nmBase o) S.out.labs)
def isNilL {α : Type} : List α → Bool
  | [] => true
  | _ => false
def datL : List XV → Bool
  | [] => true
  | .d _ :: r => datL r
  | _ => false
theorem datL_mp {f fl : Nat → Nat} : ∀ {l : List XV}, datL l = true → mpL f fl l = l
  | [], _ => rfl
  | .d x :: r, h => by
    have := datL_mp (f := f) (fl := fl) (l := r) h
    simp only [mpL, XV.mp, this]
  | .nm _ _ :: _, h => by simp [datL] at h
  | .tip _ _ _ _ :: _, h => by simp [datL] at h
  | .tup _ :: _, h => by simp [datL] at h
  | .agg _ :: _, h => by simp [datL] at h
  | .clo _ _ :: _, h => by simp [datL] at h
  | .os _ _ _ _ :: _, h => by simp [datL] at h
  | .el _ _ _ _ :: _, h => by simp [datL] at h
  | .tpt _ _ _ _ :: _, h => by simp [datL] at h
theorem datL_areData : ∀ {l : List XV}, datL l = true → areData (asOf l) = true
  | [], _ => rfl
  | .d x :: r, h => by
    have := datL_areData (l := r) h
    simp only [asOf, XV.a, areData, isData, this, Bool.and_self]
  | .nm _ _ :: _, h => by simp [datL] at h
  | .tip _ _ _ _ :: _, h => by simp [datL] at h
  | .tup _ :: _, h => by simp [datL] at h
  | .agg _ :: _, h => by simp [datL] at h
  | .clo _ _ :: _, h => by simp [datL] at h
  | .os _ _ _ _ :: _, h => by simp [datL] at h
  | .el _ _ _ _ :: _, h => by simp [datL] at h
  | .tpt _ _ _ _ :: _, h => by simp [datL] at h
def cOut {R : Type} (P : Program) (fn : Func) (S : CSp) (f fl : Nat → Nat) (nw : List Nat) (st : XSt) (rd : List (Operand × XV)) (xs : List XV) (inO : List (Nat × XOb)) (K : Out → Option R) (y : S.out.T) : Option R :=
  match xres P (gen (S.s0 xs inO) S.out y) fn.results.toList with
  | some rs => cond (datL (xs.drop S.n)) (
    cond (cChk S f fl (nw ++ (gen (S.s0 xs inO) S.out y).live.map fl) st xs inO (gen (S.s0 xs inO) S.out y).objs (gen (S.s0 xs inO) S.out y).live (tupX rs))
      (cond (cond (isNilL (outW S.out y)) (cond (isNilL (nw ++ (gen (S.s0 xs inO) S.out y).live.map fl)) (isNilL S.labs) false) false)
        (K ⟨.look (S.names.map f), (tupX rs).mp f fl, rd, st.objs, st.live, [], []⟩)
        (K ⟨.all, (tupX rs).mp f fl, rd, putXs f fl (outW S.out y) st.objs, liveAfter fl st.X ⟨[], S.labs⟩ ⟨[], (gen (S.s0 xs inO) S.out y).live⟩, nw ++ (gen (S.s0 xs inO) S.out y).live.map fl, (outW S.out y).map fun p => f p.1⟩)) none) none
  | none => none
def forceP {R : Type} : List (Nat × Nat) → (List (Nat × Nat) → R) → R
  | [], K => K []
  | p :: r, K => forceP r fun r' => K ((p.1, p.2) :: r')
theorem forceP_eq {R : Type} : ∀ (l : List (Nat × Nat)) (K : List (Nat × Nat) → R), forceP l K = K l
  | [], K => rfl
  | p :: r, K => by
    simp only [forceP]
    rw [forceP_eq r]
def cCore {R : Type} (P : Program) (fn : Func) (S : CSp) (F : S.Fun (Option S.out.T)) (o : Oper) (st : XSt) (rd : List XV → List (Operand × XV)) (vs : List XV) (K : Out → Option R) : Option R :=
  forceP (cFind S o st vs).1 fun σ => forceP (cFind S o st vs).2 fun τ =>
    appAs (nf σ) S.args F vs [] fun F' xs =>
      appOs (nf σ) (nf τ) S.out.keepO st.objs S.objs F' [] fun F'' os =>
        appRs (nf σ) st.objs S.arrs F'' os fun F3 os' =>
          Option.bind F3 fun y => cOut P fn S (nf σ) (nf τ) ((cNew S o).map (·.2)) st (rd (mpL (nf σ) (nf τ) xs)) xs os' K y
def cRun {R : Type} (P : Program) (fn : Func) (S : CSp) (F : S.Fun (Option S.out.T)) (o : Oper) (st : XSt) (vs : List XV) (K : Out → Option R) : Option R :=
  cond (Nat.beq (callArgs o).length S.n) (match xevals st (gops S.gids) with
    | some us => cCore P fn S F o st (fun ms => (appL (callArgs o) (gops S.gids)).zip ms) (appL vs us) K
    | none => none) none
def calleeOp (o : Oper) : Operand :=
  match o.op with
  | .call c => match c.callee with
    | .value x => x
    | _ => .const undef
  | _ => .const undef
def cRunC {R : Type} (P : Program) (id : FuncId) (fn : Func) (S : CSp) (F : S.Fun (Option S.out.T)) (o : Oper) (st : XSt) (caps vs : List XV) (K : Out → Option R) : Option R :=
  cond (cond (nmOnly caps) (cond (isNilL S.gids) (Nat.beq S.n (vs.length + caps.length)) false) false) (cCore P fn S F o st (fun ms => (calleeOp o, .clo id caps) :: (callArgs o).zip ms) (vs ++ caps) K) none
theorem isNilL_eq {α : Type} {l : List α} (h : isNilL l = true) : l = [] := by cases l <;> simp [isNilL] at h; rfl
theorem cOut_ok {P : Program} {R : Type} {id : FuncId} {fn : Func} {S : CSp} {f fl : Nat → Nat} {nw : List Nat} {st : XSt} {rd : List (Operand × XV)} {xs : List XV} {inO : List (Nat × XOb)} {K : Out → Option R} {y : S.out.T} {r : R} {o : Oper}
    (hg : GoodC P id fn S y xs inO) (hin : ∀ p ∈ inO, InR f fl S.out.keepO st.objs p) (hsee : ∀ p ∈ imRd rd, Sees st.im p.1 p.2)
    (H : ∀ (rs : List XV) (F : List Nat) (Y : Store), datL (xs.drop S.n) = true → DoesH P id (asOf (xs.take S.n)) (S.gids.zip (asOf (xs.drop S.n))) ⟨imObjs inO, S.labs⟩ (tupX rs).a (gen (S.s0 xs inO) S.out y).X → nmsL S.names S.labs xs = true → inO.map (·.1) = S.names → (tupX rs).nms ((gen (S.s0 xs inO) S.out y).objs.map (·.1)) (gen (S.s0 xs inO) S.out y).live = true → LabCall Y ⟨imObjs inO, S.labs⟩ (gen (S.s0 xs inO) S.out y).X f fl F →
      OpT P o (imRd rd) Y ⟨putObjsL f fl (gen (S.s0 xs inO) S.out y).X.objs Y.objs, liveAfter fl Y ⟨imObjs inO, S.labs⟩ (gen (S.s0 xs inO) S.out y).X⟩ F ((tupX rs).mp f fl).a)
    (h : cOut P fn S f fl nw st rd xs inO K y = some r) : ∃ out, K out = some r ∧ OpOk P o st out := by
  unfold cOut at h
  split at h
  · rename_i rs hrs
    cases hdat : datL (xs.drop S.n) with
    | false => rw [hdat] at h; cases h
    | true =>
    rw [hdat, cond_true] at h
    generalize hchk : cChk S f fl (nw ++ (gen (S.s0 xs inO) S.out y).live.map fl) st xs inO (gen (S.s0 xs inO) S.out y).objs (gen (S.s0 xs inO) S.out y).live (tupX rs) = b at h
    cases b with
    | false => cases h
    | true =>
      have hc := cChk_spec hchk
      simp only [cond_true] at h
      obtain ⟨hnm, hdoes⟩ := hg
      have hd := hdoes rs hrs
      have core : ∀ X : Store, (∀ p ∈ inO, ∃ o, X.objs.lookup (f p.1) = some o ∧ ObLe o (p.2.mp f fl).o ∧ (inl p.1 S.out.keepO = true → o = (p.2.mp f fl).o)) →
          (∀ p ∈ (gen (S.s0 xs inO) S.out y).objs, p.1 ∈ S.names ∨ (f p.1 ∈ (nw ++ (gen (S.s0 xs inO) S.out y).live.map fl) ∧ X.objs.lookup (f p.1) = none)) →
          objsFree (nw ++ (gen (S.s0 xs inO) S.out y).live.map fl) ⟨putObjsL f fl (imObjs inO) X.objs, X.live⟩ = true → (∀ x ∈ S.labs.map fl, x ∈ X.live) → (∀ n ∈ (gen (S.s0 xs inO) S.out y).live, fl n ∈ X.live → fl n ∈ S.labs.map fl) →
          OpT P o (imRd rd) X ⟨putObjsL f fl (imObjs (outW S.out y)) X.objs, liveAfter fl X ⟨imObjs inO, S.labs⟩ (gen (S.s0 xs inO) S.out y).X⟩ (nw ++ (gen (S.s0 xs inO) S.out y).live.map fl) ((tupX rs).mp f fl).a := by
        intro X h1 h2 h3 h4 h5
        exact call_core hc hnm h1 h2 h3 h4 h5 (fun Y hY => H rs _ Y hdat hd hc.xsn hnm hc.resn hY)
      cases hlook : (cond (isNilL (outW S.out y)) (cond (isNilL (nw ++ (gen (S.s0 xs inO) S.out y).live.map fl)) (isNilL S.labs) false) false) with
      | true =>
        rw [hlook] at h
        simp only [cond_true] at h
        have hl : outW S.out y = [] ∧ nw ++ (gen (S.s0 xs inO) S.out y).live.map fl = [] ∧ S.labs = [] := by
          cases e1 : isNilL (outW S.out y) with
          | false => simp [e1] at hlook
          | true =>
            cases e2 : isNilL (nw ++ (gen (S.s0 xs inO) S.out y).live.map fl) with
            | false => simp [e1, e2] at hlook
            | true => simp only [e1, e2, cond_true] at hlook; exact ⟨isNilL_eq e1, isNilL_eq e2, isNilL_eq hlook⟩
        obtain ⟨w1, w2, w3⟩ := hl
        refine ⟨_, h, ⟨hsee, ⟨rfl, rfl, rfl, fun X hX => ?_⟩, fun _ _ _ h => h⟩⟩
        have hlv : (gen (S.s0 xs inO) S.out y).live = [] := by
          have := (List.append_eq_nil_iff.1 w2).2
          simpa using this
        have hlk : ∀ p ∈ inO, X.objs.lookup (f p.1) = st.X.objs.lookup (f p.1) := fun p hp => hX _ (List.mem_map.2 ⟨p.1, by rw [← hnm]; exact List.mem_map_of_mem (f := fun p : Nat × XOb => p.1) hp, rfl⟩)
        have c1 := core X (fun p hp => by
            obtain ⟨o, h1, h2, h3⟩ := hin p hp
            exact ⟨o.o, by rw [hlk p hp]; exact lk_imA h1, h2, h3⟩) (fun p hp => by
            rcases hc.new p hp with h | ⟨h, _⟩
            · exact .inl h
            · rw [w2] at h; cases h) (by rw [w2]; rfl) (by rw [w3]; simp) (by rw [hlv]; simp)
        rw [w2, w1] at c1
        have e : liveAfter fl X ⟨imObjs inO, S.labs⟩ (gen (S.s0 xs inO) S.out y).X = X.live := by
          unfold liveAfter
          show (gen (S.s0 xs inO) S.out y).live.map fl ++ _ = _
          rw [hlv, w3]
          simp
        rw [e] at c1
        exact c1
      | false =>
        rw [hlook] at h
        simp only [cond_false] at h
        refine ⟨_, h, ⟨hsee, ?_, fun j x hj hx => ?_⟩⟩
        · have c1 := core st.X (fun p hp => by
              obtain ⟨o, h1, h2, h3⟩ := hin p hp
              exact ⟨o.o, lk_imA h1, h2, h3⟩) (fun p hp => by
              rcases hc.new p hp with h | ⟨h, h'⟩
              · exact .inl h
              · refine .inr ⟨h, ?_⟩
                show (imObjs st.objs).lookup _ = none
                rw [im_objs, h']; rfl) (by
              have := objsFreeX_ok (live := st.live) hc.free
              rw [putXs_im] at this
              exact this) hc.l1 hc.l5
          have e1 : imObjs (putXs f fl (outW S.out y) st.objs) = putObjsL f fl (imObjs (outW S.out y)) st.X.objs := putXs_im _ _ _ _
          show OpT P o (imRd rd) st.X ⟨imObjs (putXs f fl (outW S.out y) st.objs), _⟩ _ _
          rw [e1]
          exact c1
        · rw [putXs_other] at hx
          · exact hx
          · intro p hp e
            exact hj (List.mem_map.2 ⟨p, hp, e⟩)
  · cases h
theorem zip_take {α β : Type} : ∀ (a : List α) (b c : List β), a.length = b.length → a.zip (b ++ c) = a.zip b
  | [], b, c, h => by simp
  | x :: a, [], c, h => by simp at h
  | x :: a, y :: b, c, h => by simp only [List.cons_append, List.zip_cons_cons]; rw [zip_take a b c (by simpa using h)]
theorem nmsL_take {ks ls : List Nat} : ∀ {l : List XV} (n : Nat), nmsL ks ls l = true → nmsL ks ls (l.take n) = true
  | [], n, _ => by simp [nmsL]
  | x :: r, 0, _ => rfl
  | x :: r, n + 1, h => by
    simp only [nmsL] at h
    cases hx : x.nms ks ls with
    | false => simp [hx] at h
    | true =>
      simp only [hx, cond_true] at h
      simp only [List.take_succ_cons, nmsL, hx, cond_true]
      exact nmsL_take n h
theorem cRun_ok {P : Program} {R : Type} {id : FuncId} {fn : Func} {S : CSp} {F : S.Fun (Option S.out.T)} (hc : CallI P id) (hs : SndC P id fn S F) {o : Oper} {st : XSt} {aops : Array Operand} {ts : Array TypeId} {vs : List XV} {K : Out → Option R} {r : R}
    (ho : o.op = .call { callee := .value (.func id), args := aops, argTypes := ts }) (hv : xevals st aops.toList = some vs) (h : cRun P fn S F o st vs K = some r) : ∃ out, K out = some r ∧ OpOk P o st out := by
  have e : callArgs o = aops.toList := by simp [callArgs, ho]
  unfold cRun at h
  rw [e] at h
  cases hb : Nat.beq aops.toList.length S.n with
  | false => rw [hb] at h; cases h
  | true =>
  have hn : aops.toList.length = S.n := Nat.eq_of_beq_eq_true hb
  rw [hb, cond_true] at h
  split at h
  · rename_i us hus
    rw [appL_eq, appL_eq, gops_map] at h
    rw [gops_map] at hus
    unfold cCore at h
    rw [forceP_eq, forceP_eq] at h
    generalize (cFind S o st (vs ++ us)).1 = σ at h
    generalize (cFind S o st (vs ++ us)).2 = τ at h
    obtain ⟨F', xs, q1, a1, h⟩ := appAs_ok (fl := nf τ) S.args F (vs ++ us) [] [] hs .nil h
    obtain ⟨F'', os, q2, a2, h⟩ := appOs_ok S.objs F' [] q1 (by simp) h
    obtain ⟨F3, os', q3, a3, h⟩ := appRs_ok (fl := nf τ) (ko := S.out.keepO) S.arrs F'' os q2 a2 h
    obtain ⟨y, hy, h⟩ := Option.bind_eq_some_iff.1 h
    rw [List.nil_append] at a1
    refine cOut_ok (q3 y hy) a3 (a1.sees (xevals_append hv hus)) ?_ h
    intro rs Fr Y hdat hd hx hnm hr hlab
    have hxl : xs.length = aops.toList.length + (S.gids.map Operand.global).length := by
      have h1 := a1.length
      have h2 := xevals_len (xevals_append hv hus)
      rw [@List.length_append _ aops.toList] at h2
      omega
    have htk : (xs.take S.n).length = aops.size := by
      rw [List.length_take, hxl]
      have : aops.toList.length = aops.size := by simp
      omega
    have := op_call_f_lab (X := Y) (gids := S.gids) (ys := asOf (xs.drop S.n)) (nf σ) (nf τ) Fr ho hc hd hlab (by rw [asOf_length, htk]) (by
        simp only [imObjs_names, hnm]
        refine nmsL_a ?_
        exact nmsL_take _ hx) (datL_areData hdat) (by
        have e : (gen (S.s0 xs os') S.out y).X.objs.map (·.1) = (gen (S.s0 xs os') S.out y).objs.map (·.1) := imObjs_names _
        rw [e]
        exact XV.nms_a hr)
    have hz : imRd ((aops.toList ++ S.gids.map Operand.global).zip (mpL (nf σ) (nf τ) xs)) = aops.toList.zip (mapLs (nf σ) (nf τ) (asOf (xs.take S.n))) ++ (S.gids.map Operand.global).zip (asOf (xs.drop S.n)) := by
      conv => lhs; rw [← List.take_append_drop S.n xs]
      rw [mpL_append, datL_mp hdat, List.zip_append (by rw [mpL_map, List.length_map, htk]; simp), imRd_append, imRd_zip, imRd_zip, mpL_a]
    rw [hz, ← XV.mp_a] at *
    exact this
  · cases h
theorem cRunC_ok {P : Program} {R : Type} {id : FuncId} {fn : Func} {S : CSp} {F : S.Fun (Option S.out.T)} (hc : CallI P id) (hs : SndC P id fn S F) {o : Oper} {st : XSt} {t : Tmp} {aops : Array Operand} {ts : Array TypeId} {caps vs : List XV} {K : Out → Option R} {r : R}
    (ho : o.op = .call { callee := .value (.tmp t), args := aops, argTypes := ts }) (hclo : xeval st (.tmp t) = some (.clo id caps)) (hv : xevals st aops.toList = some vs) (h : cRunC P id fn S F o st caps vs K = some r) : ∃ out, K out = some r ∧ OpOk P o st out := by
  have e : callArgs o = aops.toList := by simp [callArgs, ho]
  have e2 : calleeOp o = .tmp t := by simp [calleeOp, ho]
  unfold cRunC cCore at h
  cases hnmo : nmOnly caps with
  | false => simp [hnmo] at h
  | true =>
  cases hgn : isNilL S.gids with
  | false => simp [hnmo, hgn] at h
  | true =>
  have hgids := isNilL_eq hgn
  cases hbn : Nat.beq S.n (vs.length + caps.length) with
  | false => simp [hnmo, hgn, hbn] at h
  | true =>
  simp only [hnmo, hgn, hbn, cond_true] at h
  rw [e, e2, forceP_eq, forceP_eq] at h
  generalize (cFind S o st (vs ++ caps)).1 = σ at h
  generalize (cFind S o st (vs ++ caps)).2 = τ at h
  obtain ⟨F', xs, q1, a1, h⟩ := appAs_ok (fl := nf τ) S.args F (vs ++ caps) [] [] hs .nil h
  obtain ⟨F'', os, q2, a2, h⟩ := appOs_ok S.objs F' [] q1 (by simp) h
  obtain ⟨F3, os', q3, a3, h⟩ := appRs_ok (fl := nf τ) (ko := S.out.keepO) S.arrs F'' os q2 a2 h
  obtain ⟨y, hy, h⟩ := Option.bind_eq_some_iff.1 h
  rw [List.nil_append] at a1
  have a1' := a1
  obtain ⟨xa, xc, rfl, a4, a5⟩ := a1.split
  have hcaps := a5.caps hnmo
  have hlen : aops.toList.length = (mpL (nf σ) (nf τ) xa).length := by
    rw [mpL_map, List.length_map, ← a4.length, xevals_len hv]
  rw [mpL_append, zip_take _ _ _ hlen] at h
  have hSn : S.n = (xa ++ xc).length := by
    have h1 := a1.length
    have h2 := Nat.eq_of_beq_eq_true hbn
    simp only [List.length_append] at h1 ⊢
    omega
  refine cOut_ok (q3 y hy) a3 ?_ ?_ h
  · intro p hp
    simp only [imRd, List.map_cons, List.mem_cons] at hp
    rcases hp with rfl | hp
    · exact xeval_sees (x := .tmp t) hclo
    · exact a4.sees hv p hp
  · intro rs Fr Y hdat hd hx hnm hr hlab
    rw [hSn, List.take_length, List.drop_length, hgids] at hd
    rw [asOf_append] at hd
    have := op_call_clo_lab (X := Y) (nf σ) (nf τ) Fr ho hc hd.plain hlab (by
        have h1 := a4.length
        have h2 := xevals_len hv
        rw [asOf_length, ← h1, h2]; simp) (by
        simp only [imObjs_names, hnm]
        have := nmsL_a hx
        rw [asOf_append] at this
        exact this) (by
        have e : (gen (S.s0 (xa ++ xc) os') S.out y).X.objs.map (·.1) = (gen (S.s0 (xa ++ xc) os') S.out y).objs.map (·.1) := imObjs_names _
        rw [e]
        exact XV.nms_a hr)
    rw [← mpL_a, ← mpL_a, ← hcaps, ← imRd_zip, ← XV.mp_a] at this
    exact this
def mkCS {P : Program} (id : FuncId) (fn : Func) (S : CSp) (F : S.Fun (Option S.out.T)) (hc : CallI P id) (hs : SndC P id fn S F) : Ent P where
  id := id
  run := cRun P fn S F
  ok := by
    intro R o st aops ts vs K r ho hv h
    exact cRun_ok hc hs ho hv h
  crun := cRunC P id fn S F
  cok := by
    intro R o st t caps aops ts vs K r ho hclo hv h
    exact cRunC_ok hc hs ho hclo hv h
def mkC {P : Program} {Γ : List (Ent P)} {own : List Nat} {N : Nat} (id : FuncId) (fn : Func) (an : An) (S : CSp) (F : S.Fun (Option S.out.T)) (hm : P.follows .mixedOrders = true) (hf : P.funcs[id]? = some fn)
    (hc : CallI P id) (hn : Nat.ble S.args.length fn.ntmps = true) (hsm : smallL S.names = true) (hks : noKeepS S = true) (hE : runC P Γ own N fn an S = F) : Ent P :=
  mkCS id fn S F hc (hE ▸ runC_sound hm hf hn hsm hks)
end Go.Xl
set_option linter.unusedVariables false
set_option linter.unusedSimpArgs false
namespace Go.Xl
open Go.Ab
end Go.Xl
set_option linter.unusedVariables false
set_option maxRecDepth 100000
namespace Go.Proofs.Xg
open Go Go.Xl Go.Ab Go.Proofs
theorem mixed : Try.prog.follows .mixedOrders = true := by kernel_rfl
@[reducible] def tDot : Ty := (.pair (.int .u16) (.int .u64))
noncomputable def F_cmp_isNaN_uint16 (N : Nat) : Fun [(.int .u16)] (Option (ResT [.bool])) := fun (x : Int) => some (x != x)
theorem E_cmp_isNaN_uint16 (N : Nat) : runF Try.prog [] [] N Try.f120 .lf [(.int .u16)] [.bool] = F_cmp_isNaN_uint16 N := by kernel_rfl
noncomputable def e_cmp_isNaN_uint16 (N : Nat) : Ent Try.prog := mkFn 120 Try.f120 .lf [(.int .u16)] [.bool] (F_cmp_isNaN_uint16 N) mixed Try.func120 (.mk' Try.func120 rfl (by decide)) rfl (E_cmp_isNaN_uint16 N)
noncomputable def F_cmp_Compare_uint16 (N : Nat) : Fun [(.int .u16), (.int .u16)] (Option (ResT [(.int .i64)])) := fun (x x_1 : Int) => Option.bind (F_cmp_isNaN_uint16 N x) fun (y : Bool) => Option.bind
 (F_cmp_isNaN_uint16 N x_1) fun (y_1 : Bool) => bif y then bif y_1 then some 0 else some (-1) else bif y_1 then some 1 else bif decide (x < x_1) then some (-1) else bif decide (x_1 < x) then some 1 else some 0
theorem E_cmp_Compare_uint16 (N : Nat) : runF Try.prog [e_cmp_isNaN_uint16 N] [] N Try.f85 .lf [(.int .u16), (.int .u16)] [(.int .i64)] = F_cmp_Compare_uint16 N := by kernel_rfl
noncomputable def e_cmp_Compare_uint16 (N : Nat) : Ent Try.prog := mkFn 85 Try.f85 .lf [(.int .u16), (.int .u16)] [(.int .i64)] (F_cmp_Compare_uint16 N) mixed Try.func85 (.mk' Try.func85 rfl (by decide)) rfl (E_cmp_Compare_uint16 N)
noncomputable def F_cmp_isNaN_uint64 (N : Nat) : Fun [(.int .u64)] (Option (ResT [.bool])) := fun (x : Int) => some (x != x)
theorem E_cmp_isNaN_uint64 (N : Nat) : runF Try.prog [] [] N Try.f121 .lf [(.int .u64)] [.bool] = F_cmp_isNaN_uint64 N := by kernel_rfl
noncomputable def e_cmp_isNaN_uint64 (N : Nat) : Ent Try.prog := mkFn 121 Try.f121 .lf [(.int .u64)] [.bool] (F_cmp_isNaN_uint64 N) mixed Try.func121 (.mk' Try.func121 rfl (by decide)) rfl (E_cmp_isNaN_uint64 N)
noncomputable def F_cmp_Compare_uint64 (N : Nat) : Fun [(.int .u64), (.int .u64)] (Option (ResT [(.int .i64)])) := fun (x x_1 : Int) => Option.bind (F_cmp_isNaN_uint64 N x) fun (y : Bool) => Option.bind
 (F_cmp_isNaN_uint64 N x_1) fun (y_1 : Bool) => bif y then bif y_1 then some 0 else some (-1) else bif y_1 then some 1 else bif decide (x < x_1) then some (-1) else bif decide (x_1 < x) then some 1 else some 0
theorem E_cmp_Compare_uint64 (N : Nat) : runF Try.prog [e_cmp_isNaN_uint64 N] [] N Try.f86 .lf [(.int .u64), (.int .u64)] [(.int .i64)] = F_cmp_Compare_uint64 N := by kernel_rfl
noncomputable def e_cmp_Compare_uint64 (N : Nat) : Ent Try.prog := mkFn 86 Try.f86 .lf [(.int .u64), (.int .u64)] [(.int .i64)] (F_cmp_Compare_uint64 N) mixed Try.func86 (.mk' Try.func86 rfl (by decide)) rfl (E_cmp_Compare_uint64 N)
noncomputable def F_dot_Cmp (N : Nat) : Fun [tDot, tDot] (Option (ResT [(.int .i64)])) := fun (x x_1 : Int × Int) => Option.bind (F_cmp_Compare_uint16 N x.fst x_1.fst) fun (y : Int) => bif y != 0 then some y else
 Option.bind (F_cmp_Compare_uint64 N x.snd x_1.snd) fun (y : Int) => some y
theorem E_dot_Cmp (N : Nat) : runF Try.prog [e_cmp_Compare_uint16 N, e_cmp_Compare_uint64 N] [] N Try.f59 .lf [tDot, tDot] [(.int .i64)] = F_dot_Cmp N := by kernel_rfl
noncomputable def e_dot_Cmp (N : Nat) : Ent Try.prog := mkFn 59 Try.f59 .lf [tDot, tDot] [(.int .i64)] (F_dot_Cmp N) mixed Try.func59 (.mk' Try.func59 rfl (by decide)) rfl (E_dot_Cmp N)
noncomputable def F0_slices_Compact_sDot_Dot (N : Nat) : FunA [] (Option (ResT (rkTys tDot [.s]))) := some []
theorem E0_slices_Compact_sDot_Dot (N : Nat) : runO0 Try.prog [] [] N Try.f88 (.seq .lf (.seq .lf (.seq (.seq .lf (.blk (.loop ⟨[(3, .d (.int .i64))], [], [0], [], [], []⟩ (.seq .lf (.seq (.blk (.seq .lf (.cond (.seq .lf (.seq (.seq .lf (.blk (.loop ⟨[(3, .d (.int .i64)), (5, .d (.int .i64))], [], [0, 4], [], [], []⟩ .lf))) .lf)) .lf))) .lf))))) .lf))) tDot [] [.s] = F0_slices_Compact_sDot_Dot N := by kernel_rfl
noncomputable def F_slices_Compact_sDot_Dot (N : Nat) : List (tDot : Ty).T → Nat → FunA [] (Option (List (tDot : Ty).T × ResO [.s])) := fun (l : List (Int × Int)) (n : Nat) => bif decide ((↑n : Int) < 2) then some (l, n)
 else iter (fun (rec : (Int × Unit) × Unit × Unit × List (Int × Int) × Unit → Option (List (Int × Int) × Nat)) (z : (Int × Unit) × Unit × Unit × List (Int × Int) × Unit) => bif decide (z.fst.fst < (↑n : Int)) then bif
 decide (0 ≤ z.fst.fst) && decide (z.fst.fst < (↑n : Int)) then z.snd.snd.snd.fst[0 + z.fst.fst.toNat]?.bind fun (e : Int × Int) => bif decide (0 ≤ IntKind.i64.wrap (z.fst.fst - 1)) && decide (IntKind.i64.wrap (z.fst.fst
 - 1) < (↑n : Int)) then z.snd.snd.snd.fst[0 + (IntKind.i64.wrap (z.fst.fst - 1)).toNat]?.bind fun (e_1 : Int × Int) => bif e.fst == e_1.fst && e.snd == e_1.snd then bif cutOk z.fst.fst (↑n : Int) n then iter (fun (rec :
 (Int × Int × Unit) × Unit × Unit × List (Int × Int) × Unit → Option (List (Int × Int) × Nat)) (z_1 : (Int × Int × Unit) × Unit × Unit × List (Int × Int) × Unit) => bif decide (z_1.fst.snd.fst < (↑((↑n : Int).toNat -
 z.fst.fst.toNat) : Int)) then bif decide (0 ≤ z_1.fst.snd.fst) && decide (z_1.fst.snd.fst < (↑((↑n : Int).toNat - z.fst.fst.toNat) : Int)) then z_1.snd.snd.snd.fst[0 + z.fst.fst.toNat + z_1.fst.snd.fst.toNat]?.bind fun
 (e : Int × Int) => bif decide (0 ≤ IntKind.i64.wrap (z_1.fst.snd.fst - 1)) && decide (IntKind.i64.wrap (z_1.fst.snd.fst - 1) < (↑((↑n : Int).toNat - z.fst.fst.toNat) : Int)) then z_1.snd.snd.snd.fst[0 + z.fst.fst.toNat
 + (IntKind.i64.wrap (z_1.fst.snd.fst - 1)).toNat]?.bind fun (e_2 : Int × Int) => bif !(e.fst == e_2.fst && e.snd == e_2.snd) then bif decide (0 ≤ z_1.fst.snd.fst) && decide (z_1.fst.snd.fst < (↑((↑n : Int).toNat -
 z.fst.fst.toNat) : Int)) then z_1.snd.snd.snd.fst[0 + z.fst.fst.toNat + z_1.fst.snd.fst.toNat]?.bind fun (e : Int × Int) => bif decide (0 ≤ z_1.fst.fst) && decide (z_1.fst.fst < (↑n : Int)) then z_1.snd.snd.snd.fst[0 +
 z_1.fst.fst.toNat]?.bind fun (e_3 : Int × Int) => rec ((IntKind.i64.wrap (z_1.fst.fst + 1), IntKind.i64.wrap (z_1.fst.snd.fst + 1), ()), (), (), z_1.snd.snd.snd.fst.set (0 + z_1.fst.fst.toNat) e, ()) else none else none
 else rec ((z_1.fst.fst, IntKind.i64.wrap (z_1.fst.snd.fst + 1), ()), (), (), z_1.snd.snd.snd.fst, ()) else none else none else bif cutOk z_1.fst.fst (↑n : Int) n then bif cutOk 0 z_1.fst.fst n then some (List.take (0 +
 z_1.fst.fst.toNat) z_1.snd.snd.snd.fst, z_1.fst.fst.toNat - 0) else none else none) N ((z.fst.fst, 1, ()), (), (), z.snd.snd.snd.fst, ()) else none else rec ((IntKind.i64.wrap (z.fst.fst + 1), ()), (), (),
 z.snd.snd.snd.fst, ()) else none else none else some (z.snd.snd.snd.fst, n)) N ((1, ()), (), (), l, ())
theorem E_slices_Compact_sDot_Dot (N : Nat) : runO Try.prog [] [] N Try.f88 (.seq .lf (.seq .lf (.seq (.seq .lf (.blk (.loop ⟨[(3, .d (.int .i64))], [], [0], [], [], [(1, .arr tDot)]⟩ (.seq .lf (.seq (.blk (.seq .lf (.cond (.seq .lf (.seq (.seq .lf (.blk (.loop ⟨[(3, .d (.int .i64)), (5, .d (.int .i64))], [], [0, 4], [], [], [(1, .arr tDot)]⟩ .lf))) .lf)) .lf))) .lf))))) .lf))) tDot [] [.s] = F_slices_Compact_sDot_Dot N := by kernel_rfl
noncomputable def e_slices_Compact_sDot_Dot (N : Nat) : Ent Try.prog := mkO2 88 Try.f88 (.seq .lf (.seq .lf (.seq (.seq .lf (.blk (.loop ⟨[(3, .d (.int .i64))], [], [0], [], [], [(1, .arr tDot)]⟩ (.seq .lf (.seq (.blk (.seq .lf (.cond (.seq .lf (.seq (.seq .lf (.blk (.loop ⟨[(3, .d (.int .i64)), (5, .d (.int .i64))], [], [0, 4], [], [], [(1, .arr tDot)]⟩ .lf))) .lf)) .lf))) .lf))))) .lf))) (.seq .lf (.seq .lf (.seq (.seq .lf (.blk (.loop ⟨[(3, .d (.int .i64))], [], [0], [], [], []⟩ (.seq .lf (.seq (.blk (.seq .lf (.cond (.seq .lf (.seq (.seq .lf (.blk (.loop ⟨[(3, .d (.int .i64)), (5, .d (.int .i64))], [], [0, 4], [], [], []⟩ .lf))) .lf)) .lf))) .lf))))) .lf))) tDot [] [.s] (F_slices_Compact_sDot_Dot N) (F0_slices_Compact_sDot_Dot N) mixed Try.func88 (.mk' Try.func88 rfl (by decide)) rfl (E_slices_Compact_sDot_Dot N) (E0_slices_Compact_sDot_Dot N)
end Go.Proofs.Xg
set_option linter.unusedVariables false
set_option linter.unusedSimpArgs false
namespace Go.Xl
open Go.Ab Go.Sort Go.Proofs Go.Shelf Go.RowKit Go.Lib
theorem Ty.Plain.one {t : Ty} (h : t.Plain) (x : t.T) : ∀ v ∈ t.vals x, v.oneCell' = true := by
  intro v hv
  have h1 : D.sc v ∈ t.ds x := by rw [← h.vals x]; exact List.mem_map_of_mem (f := D.sc) hv
  have := t.ds_one x _ h1
  simpa [oneD] using this
theorem Ty.Plain.ra {t : Ty} (h : t.Plain) (ha : t.agg = true) (x : t.T) (g : Gh) (w : World) : RA g w (XV.d (t.xv x)).a (.agg (t.vals x).toArray) := by
  have e : (XV.d (t.xv x)).a = .d (.agg ((t.vals x).map .sc)) := by
    show AV.d (t.dv x) = _
    rw [t.dv_agg x ha, h.vals]
  rw [e]
  refine .d _ _ (.agg _ _ (by simp) ?_)
  intro i c v hc hv
  rw [List.getElem?_map, Option.map_eq_some_iff] at hc
  obtain ⟨u, hu, rfl⟩ := hc
  simp only [List.getElem?_toArray] at hv
  rw [hu] at hv
  cases hv
  exact .sc _
theorem sorts_structs {P : Program} {ρ : Ren} (L : SlLaysF0.n6 P ρ) {f c : FuncId} (hf : ρ.f 6 = f) {T : Ty} (hp : T.Plain) (hagg : T.agg = true) (aE : ∀ w, (isAgg (ρ.t 24)).run P w = .ok true w) (zE : ∀ w, (Go.sizeOf (ρ.t 24)).run P w = .ok T.size w)
    (hci : CallI P f) (cf : T.T → T.T → Int) (hO : SWO (ltOf cf)) (hT : ∀ x y, (ltOf cf) x y = false → (ltOf cf) y x = false → x = y) (hcc : CallI P c)
    (hcmp : ∀ x y, Does P c (asOf [.d (T.xv x), .d (T.xv y)]) X0 (.d (.sc (.int .i64 (cf x y)))) X0) : Sorts P f c T (fun d => d.mergeSort fun x y => !(ltOf cf) y x) where
  plain := hp
  ci := hci
  len d := by simp
  none p cap w := by
    have := AnyF.slices_SortFunc_none L p cap (.func (.func c) #[] #[]) w
    rw [hf] at this; exact this
  some := by
    letI := tyInh T
    intro l blk cap w hl hH hblk
    have hlays : CmpLays P c #[] T.vals T.size cf blk 0 l.toArray.size w := by
      intro m os dk hs x y
      have := (hcmp x y).grown (w := sortWorldK T.vals T.size w blk 0 m dk os) (vs := #[.agg (T.vals x).toArray, .agg (T.vals y).toArray]) rfl (by
        intro i z v hz hv
        match i with
        | 0 => simp [asOf] at hz hv; subst hz; subst hv; exact hp.ra hagg x _ _
        | 1 => simp [asOf] at hz hv; subst hz; subst hv; exact hp.ra hagg y _ _
        | n + 2 => simp [asOf] at hz)
      simpa using this
    have := AnyQ.slices_SortFunc_total L T.size aE zE T.vals T.vals_length hp.one cf hO c #[] blk 0 cap l.toArray w (run_callFunc hcc) hlays hH hblk (by simp; omega) hT
    rw [hf] at this
    simpa using this
end Go.Xl
namespace Go.Proofs
open Go.Shelf
def Try.sortDot_ren : Go.Shelf.Ren := ⟨fun | 6 => 87 | 15 => 82 | 14 => 122 | 28 => 116 | 29 => 117 | 20 => 146 | 21 => 147 | 22 => 148 | 23 => 149 | 24 => 150 | 25 => 151 | 26 => 152 | 27 => 153 | 46 => 173 | 47 => 141 | 48 => 142 | 49 => 174 | 50 => 175 | 57 => 184 | n => n, fun | 22 => 40 | 24 => 39 | 25 => 49 | 3 => 3 | 39 => 107 | 0 => 0 | 53 => 138 | 55 => 23 | 4 => 4 | 46 => 130 | 45 => 129 | 50 => 135 | 5 => 5 | 9 => 9 | 66 => 163 | 70 => 167 | 76 => 185 | 77 => 186 | n => n, fun | n => n⟩
theorem Try.sortDot : Go.Proofs.SlLaysF0.n6 Try.prog Try.sortDot_ren := {
  mixed := by kernel_rfl
  f6 := ⟨Try.f87.name, by decide, Try.func87.trans (congrArg some (by kernel_rfl))⟩
  f14 := ⟨Try.f122.name, by decide, Try.func122.trans (congrArg some (by kernel_rfl))⟩
  f15 := Try.func82.trans (congrArg some (by kernel_rfl))
  f20 := ⟨Try.f146.name, by decide, Try.func146.trans (congrArg some (by kernel_rfl))⟩
  f21 := ⟨Try.f147.name, by decide, Try.func147.trans (congrArg some (by kernel_rfl))⟩
  f22 := ⟨Try.f148.name, by decide, Try.func148.trans (congrArg some (by kernel_rfl))⟩
  f23 := ⟨Try.f149.name, by decide, Try.func149.trans (congrArg some (by kernel_rfl))⟩
  f24 := ⟨Try.f150.name, by decide, Try.func150.trans (congrArg some (by kernel_rfl))⟩
  f25 := ⟨Try.f151.name, by decide, Try.func151.trans (congrArg some (by kernel_rfl))⟩
  f26 := ⟨Try.f152.name, by decide, Try.func152.trans (congrArg some (by kernel_rfl))⟩
  f27 := ⟨Try.f153.name, by decide, Try.func153.trans (congrArg some (by kernel_rfl))⟩
  f28 := Try.func116.trans (congrArg some (by kernel_rfl))
  f29 := Try.func117.trans (congrArg some (by kernel_rfl))
  f46 := ⟨Try.f173.name, by decide, Try.func173.trans (congrArg some (by kernel_rfl))⟩
  f47 := Try.func141.trans (congrArg some (by kernel_rfl))
  f48 := Try.func142.trans (congrArg some (by kernel_rfl))
  f49 := ⟨Try.f174.name, by decide, Try.func174.trans (congrArg some (by kernel_rfl))⟩
  f50 := ⟨Try.f175.name, by decide, Try.func175.trans (congrArg some (by kernel_rfl))⟩
  f57 := ⟨Try.f184.name, by decide, Try.func184.trans (congrArg some (by kernel_rfl))⟩
  t0 := Try.underlying0
  a0 := Try.isAgg0
  z0 := Try.sizeOf0
  v0 := Try.zeroValue0
  t3 := Try.underlying3
  a3 := Try.isAgg3
  z3 := Try.sizeOf3
  v3 := Try.zeroValue3
  t4 := Try.underlying4
  a4 := Try.isAgg4
  z4 := Try.sizeOf4
  v4 := Try.zeroValue4
  t5 := Try.underlying5
  a5 := Try.isAgg5
  z5 := Try.sizeOf5
  v5 := Try.zeroValue5
  t9 := Try.underlying9
  a9 := Try.isAgg9
  z9 := Try.sizeOf9
  v9 := Try.zeroValue9
  t22 := Try.underlying40
  a22 := Try.isAgg40
  z22 := Try.sizeOf40
  v22 := Try.zeroValue40
  t25 := Try.underlying49
  a25 := Try.isAgg49
  z25 := Try.sizeOf49
  v25 := Try.zeroValue49
  t39 := Try.underlying107
  a39 := Try.isAgg107
  z39 := Try.sizeOf107
  v39 := Try.zeroValue107
  t45 := Try.underlying129
  a45 := Try.isAgg129
  z45 := Try.sizeOf129
  v45 := Try.zeroValue129
  t46 := Try.underlying130
  a46 := Try.isAgg130
  z46 := Try.sizeOf130
  v46 := Try.zeroValue130
  t50 := Try.underlying135
  a50 := Try.isAgg135
  z50 := Try.sizeOf135
  v50 := Try.zeroValue135
  t53 := Try.underlying138
  a53 := Try.isAgg138
  z53 := Try.sizeOf138
  v53 := Try.zeroValue138
  t55 := Try.underlying23
  a55 := Try.isAgg23
  z55 := Try.sizeOf23
  v55 := Try.zeroValue23
  t66 := Try.underlying163
  a66 := Try.isAgg163
  z66 := Try.sizeOf163
  v66 := Try.zeroValue163
  t70 := Try.underlying167
  a70 := Try.isAgg167
  z70 := Try.sizeOf167
  v70 := Try.zeroValue167
  t76 := Try.underlying185
  a76 := Try.isAgg185
  z76 := Try.sizeOf185
  v76 := Try.zeroValue185
  t77 := Try.underlying186
  a77 := Try.isAgg186
  z77 := Try.sizeOf186
  v77 := Try.zeroValue186 }
def Try.sortRun_ren : Go.Shelf.Ren := ⟨fun | 6 => 156 | 15 => 82 | 14 => 178 | 28 => 116 | 29 => 117 | 20 => 187 | 21 => 188 | 22 => 189 | 23 => 190 | 24 => 191 | 25 => 192 | 26 => 193 | 27 => 194 | 46 => 196 | 47 => 141 | 48 => 142 | 49 => 197 | 50 => 198 | 57 => 199 | n => n, fun | 22 => 93 | 24 => 148 | 25 => 176 | 3 => 3 | 39 => 107 | 0 => 0 | 53 => 138 | 55 => 23 | 4 => 4 | 46 => 130 | 45 => 129 | 50 => 135 | 5 => 5 | 9 => 9 | 66 => 163 | 70 => 167 | 76 => 185 | 77 => 186 | n => n, fun | n => n⟩
theorem Try.sortRun : Go.Proofs.SlLaysF0.n6 Try.prog Try.sortRun_ren := {
  mixed := by kernel_rfl
  f6 := ⟨Try.f156.name, by decide, Try.func156.trans (congrArg some (by kernel_rfl))⟩
  f14 := ⟨Try.f178.name, by decide, Try.func178.trans (congrArg some (by kernel_rfl))⟩
  f15 := Try.func82.trans (congrArg some (by kernel_rfl))
  f20 := ⟨Try.f187.name, by decide, Try.func187.trans (congrArg some (by kernel_rfl))⟩
  f21 := ⟨Try.f188.name, by decide, Try.func188.trans (congrArg some (by kernel_rfl))⟩
  f22 := ⟨Try.f189.name, by decide, Try.func189.trans (congrArg some (by kernel_rfl))⟩
  f23 := ⟨Try.f190.name, by decide, Try.func190.trans (congrArg some (by kernel_rfl))⟩
  f24 := ⟨Try.f191.name, by decide, Try.func191.trans (congrArg some (by kernel_rfl))⟩
  f25 := ⟨Try.f192.name, by decide, Try.func192.trans (congrArg some (by kernel_rfl))⟩
  f26 := ⟨Try.f193.name, by decide, Try.func193.trans (congrArg some (by kernel_rfl))⟩
  f27 := ⟨Try.f194.name, by decide, Try.func194.trans (congrArg some (by kernel_rfl))⟩
  f28 := Try.func116.trans (congrArg some (by kernel_rfl))
  f29 := Try.func117.trans (congrArg some (by kernel_rfl))
  f46 := ⟨Try.f196.name, by decide, Try.func196.trans (congrArg some (by kernel_rfl))⟩
  f47 := Try.func141.trans (congrArg some (by kernel_rfl))
  f48 := Try.func142.trans (congrArg some (by kernel_rfl))
  f49 := ⟨Try.f197.name, by decide, Try.func197.trans (congrArg some (by kernel_rfl))⟩
  f50 := ⟨Try.f198.name, by decide, Try.func198.trans (congrArg some (by kernel_rfl))⟩
  f57 := ⟨Try.f199.name, by decide, Try.func199.trans (congrArg some (by kernel_rfl))⟩
  t0 := Try.underlying0
  a0 := Try.isAgg0
  z0 := Try.sizeOf0
  v0 := Try.zeroValue0
  t3 := Try.underlying3
  a3 := Try.isAgg3
  z3 := Try.sizeOf3
  v3 := Try.zeroValue3
  t4 := Try.underlying4
  a4 := Try.isAgg4
  z4 := Try.sizeOf4
  v4 := Try.zeroValue4
  t5 := Try.underlying5
  a5 := Try.isAgg5
  z5 := Try.sizeOf5
  v5 := Try.zeroValue5
  t9 := Try.underlying9
  a9 := Try.isAgg9
  z9 := Try.sizeOf9
  v9 := Try.zeroValue9
  t22 := Try.underlying93
  a22 := Try.isAgg93
  z22 := Try.sizeOf93
  v22 := Try.zeroValue93
  t25 := Try.underlying176
  a25 := Try.isAgg176
  z25 := Try.sizeOf176
  v25 := Try.zeroValue176
  t39 := Try.underlying107
  a39 := Try.isAgg107
  z39 := Try.sizeOf107
  v39 := Try.zeroValue107
  t45 := Try.underlying129
  a45 := Try.isAgg129
  z45 := Try.sizeOf129
  v45 := Try.zeroValue129
  t46 := Try.underlying130
  a46 := Try.isAgg130
  z46 := Try.sizeOf130
  v46 := Try.zeroValue130
  t50 := Try.underlying135
  a50 := Try.isAgg135
  z50 := Try.sizeOf135
  v50 := Try.zeroValue135
  t53 := Try.underlying138
  a53 := Try.isAgg138
  z53 := Try.sizeOf138
  v53 := Try.zeroValue138
  t55 := Try.underlying23
  a55 := Try.isAgg23
  z55 := Try.sizeOf23
  v55 := Try.zeroValue23
  t66 := Try.underlying163
  a66 := Try.isAgg163
  z66 := Try.sizeOf163
  v66 := Try.zeroValue163
  t70 := Try.underlying167
  a70 := Try.isAgg167
  z70 := Try.sizeOf167
  v70 := Try.zeroValue167
  t76 := Try.underlying185
  a76 := Try.isAgg185
  z76 := Try.sizeOf185
  v76 := Try.zeroValue185
  t77 := Try.underlying186
  a77 := Try.isAgg186
  z77 := Try.sizeOf186
  v77 := Try.zeroValue186 }
end Go.Proofs
set_option linter.unusedVariables false
set_option linter.unusedSimpArgs false
namespace Go.Xl
theorem iter_eq {σ R : Type} {f : (σ → Option R) → σ → Option R} {G : σ → Option R} (I : Nat → σ → Prop)
    (step : ∀ (n : Nat) (x : σ) (rec : σ → Option R), I n x → (∀ (m : Nat) (y : σ), m < n → I m y → rec y = G y) → f rec x = G x) :
    ∀ (N n : Nat) (x : σ), I n x → n < N → iter f N x = G x
  | 0, n, x, _, h => absurd h (Nat.not_lt_zero _)
  | N + 1, n, x, hi, h => by
    simp only [iter]
    exact step n x _ hi fun m y hm hy => iter_eq I step N m y hy (by omega)
theorem iter_ok {σ R : Type} {f : (σ → Option R) → σ → Option R} {Q : R → Prop} (I : Nat → σ → Prop)
    (step : ∀ (n : Nat) (x : σ) (rec : σ → Option R), I n x → (∀ (m : Nat) (y : σ), m < n → I m y → ∃ r, rec y = some r ∧ Q r) → ∃ r, f rec x = some r ∧ Q r) :
    ∀ (N n : Nat) (x : σ), I n x → n < N → ∃ r, iter f N x = some r ∧ Q r
  | 0, n, x, _, h => absurd h (Nat.not_lt_zero _)
  | N + 1, n, x, hi, h => by
    simp only [iter]
    exact step n x _ hi fun m y hm hy => iter_ok I step N m y hy (by omega)
@[simp] theorem at?_nat {α : Type} (l : List α) (n : Nat) : at? l (n : Int) = l[n]? := rfl
theorem i64_nat {n : Nat} (h : n < 9223372036854775808) : IntKind.i64.wrap (n : Int) = (n : Int) := by
  exact IntWalk.i64_in _ (by omega)
theorem i64_succ {n : Nat} (h : n + 1 < 9223372036854775808) : IntKind.i64.wrap ((n : Int) + 1) = ((n + 1 : Nat) : Int) := by
  rw [IntWalk.i64_in _ (by omega)]; rfl
theorem i64_pred {n : Nat} (h : 0 < n) (h' : n < 9223372036854775808) : IntKind.i64.wrap ((n : Int) - 1) = ((n - 1 : Nat) : Int) := by
  rw [IntWalk.i64_in _ (by omega)]; omega
theorem scan_eq {R : Type} (len : Nat) (g : Nat → Option R) {f : ((Int × Unit) × Unit × Unit × Unit → Option R) → (Int × Unit) × Unit × Unit × Unit → Option R} (start : Nat)
    (hs : ∀ (rec : (Int × Unit) × Unit × Unit × Unit → Option R) (k : Nat), start ≤ k → k < len → rec ((((k + 1 : Nat) : Int), ()), (), (), ()) = g (k + 1) → f rec (((k : Int), ()), (), (), ()) = g k)
    (he : ∀ rec (k : Nat), len ≤ k → f rec (((k : Int), ()), (), (), ()) = g k) (N : Nat) (hN : len < N) : iter f N (((start : Int), ()), (), (), ()) = g start := by
  have := iter_eq (f := f) (G := fun z => g z.1.1.toNat) (fun n z => ∃ k : Nat, z = (((k : Int), ()), (), (), ()) ∧ start ≤ k ∧ n = len - k) (by
    rintro n z rec ⟨k, rfl, h1, h2⟩ ih
    by_cases hk : k < len
    · exact hs rec k h1 hk (ih (len - (k + 1)) _ (by omega) ⟨k + 1, rfl, by omega, rfl⟩)
    · exact he rec k (by omega)) N (len - start) (((start : Int), ()), (), (), ()) ⟨start, rfl, Nat.le_refl _, rfl⟩ (by omega)
  exact this
theorem some_of {R : Type} {x : Option R} {t : R} (h : ∃ r, x = some r ∧ r = t) : x = some t := by
  obtain ⟨r, h1, rfl⟩ := h
  exact h1
theorem fold_loop {A X R : Type} (l : List X) (g : A → X → A) (a0 : A) (fin : A → Option R) {f : ((A × Int × Unit) × Unit × Unit × Unit → Option R) → (A × Int × Unit) × Unit × Unit × Unit → Option R}
    (hs : ∀ (rec : (A × Int × Unit) × Unit × Unit × Unit → Option R) (k : Nat) (a : A) (hk : k < l.length), a = (l.take k).foldl g a0 → f rec ((a, (k : Int), ()), (), (), ()) = rec ((g a l[k], ((k + 1 : Nat) : Int), ()), (), (), ()))
    (he : ∀ (rec : (A × Int × Unit) × Unit × Unit × Unit → Option R), f rec ((l.foldl g a0, (l.length : Int), ()), (), (), ()) = fin (l.foldl g a0)) (N : Nat) (hN : l.length < N) : iter f N ((a0, 0, ()), (), (), ()) = fin (l.foldl g a0) := by
  have := iter_eq (f := f) (G := fun _ => fin (l.foldl g a0)) (fun n z => ∃ k : Nat, z = (((l.take k).foldl g a0, (k : Int), ()), (), (), ()) ∧ k ≤ l.length ∧ n = l.length - k) (by
    rintro n z rec ⟨k, rfl, h1, h2⟩ ih
    by_cases hk : k < l.length
    · rw [hs rec k _ hk rfl]
      refine ih (l.length - (k + 1)) _ (by omega) ⟨k + 1, ?_, by omega, rfl⟩
      have : l.take (k + 1) = l.take k ++ [l[k]] := by
        rw [List.take_add_one, List.getElem?_eq_getElem hk]; rfl
      rw [this, List.foldl_append]
      rfl
    · have : k = l.length := by omega
      subst this
      rw [List.take_length]
      exact he rec) N l.length ((a0, ((0 : Nat) : Int), ()), (), (), ()) ⟨0, by simp, by omega, rfl⟩ hN
  exact this
theorem foldl_filter {X : Type} (p : X → Bool) : ∀ (l a : List X), l.foldl (fun a x => cond (p x) (a ++ [x]) a) a = a ++ l.filter p
  | [], a => by simp
  | x :: r, a => by
    simp only [List.foldl_cons, List.filter_cons]
    rw [foldl_filter p r]
    cases p x <;> simp
theorem foldl_flatMap {X Y : Type} (h : X → List Y) : ∀ (l : List X) (a : List Y), l.foldl (fun a x => a ++ h x) a = a ++ l.flatMap h
  | [], a => by simp
  | x :: r, a => by
    simp only [List.foldl_cons, List.flatMap_cons]
    rw [foldl_flatMap h r]
    simp
theorem fit {n bytes : Nat} (h : n * bytes ≤ 140737488355328) (h2 : n ≤ 4611686018427387904) : fitsB n bytes = true := by
  simp only [fitsB, Bool.and_eq_true, decide_eq_true_eq]
  exact ⟨h, h2⟩
def SAsc {α : Type} (lt : α → α → Bool) (l : List α) : Prop := l.Pairwise fun a b => lt a b = true
theorem SAsc.ext {α : Type} {lt : α → α → Bool} (ha : ∀ x y, lt x y = true → lt y x = false) : ∀ {l m : List α}, SAsc lt l → SAsc lt m → (∀ x, x ∈ l ↔ x ∈ m) → l = m
  | [], [], _, _, _ => rfl
  | [], b :: m, _, _, h => by have := (h b).2 List.mem_cons_self; simp at this
  | a :: l, [], _, _, h => by have := (h a).1 List.mem_cons_self; simp at this
  | a :: l, b :: m, hl, hm, h => by
    have hl' := hl
    have hm' := hm
    simp only [SAsc, List.pairwise_cons] at hl' hm'
    have irr : ∀ x, lt x x = false := by
      intro x
      cases hx : lt x x with
      | false => rfl
      | true => have := ha x x hx; rw [hx] at this; cases this
    have hab : a = b := by
      rcases List.mem_cons.1 ((h a).1 List.mem_cons_self) with e | e
      · exact e
      · rcases List.mem_cons.1 ((h b).2 List.mem_cons_self) with e' | e'
        · exact e'.symm
        · have h1 := hm'.1 a e
          have h2 := hl'.1 b e'
          rw [ha _ _ h1] at h2; cases h2
    subst hab
    congr 1
    refine SAsc.ext ha hl'.2 hm'.2 fun x => ?_
    have hx := h x
    simp only [List.mem_cons] at hx
    constructor
    · intro hxl
      rcases hx.1 (.inr hxl) with e | e
      · subst e
        have := hl'.1 x hxl
        rw [irr] at this; cases this
      · exact e
    · intro hxm
      rcases hx.2 (.inr hxm) with e | e
      · subst e
        have := hm'.1 x hxm
        rw [irr] at this; cases this
      · exact e
end Go.Xl
set_option maxRecDepth 100000
set_option linter.unusedVariables false
namespace Go.Proofs.Xg
open Go Go.Xl Go.Ab Go.Proofs Go.Sort
theorem Clone_Dot (N : Nat) : SndA (NewS Try.prog 56 tDot) [.d (.sl tDot)] (cloneF tDot 16) [] :=
  clone_sound (own := [5, 7]) (N := N) (an := .lf) mixed Try.func56 rfl (fun y r => by kernel_rfl) (by kernel_rfl) (fun a cap => by kernel_rfl)
def e_slices_Clone_sDot_Dot (N : Nat) : Ent Try.prog := mkNS 56 tDot [.d (.sl tDot)] (cloneF tDot 16) (.mk' Try.func56 rfl (by decide)) (Clone_Dot N)
def cfDot (x y : Int × Int) : Int := if x.1 < y.1 then -1 else if y.1 < x.1 then 1 else if x.2 < y.2 then -1 else if y.2 < x.2 then 1 else 0
theorem Cmp_eq (N : Nat) (x y : Int × Int) : F_dot_Cmp N x y = some (cfDot x y) := by
  simp only [F_dot_Cmp, F_cmp_Compare_uint16, F_cmp_Compare_uint64, F_cmp_isNaN_uint16, F_cmp_isNaN_uint64, cfDot, cond_eq_ite, Option.bind_some]
  grind
theorem Cmp_does (x y : Int × Int) : Does Try.prog 59 (asOf [.d (tDot.xv x), .d (tDot.xv y)]) X0 (.d (.sc (.int .i64 (cfDot x y)))) X0 :=
  (runF_sound (Γ := [e_cmp_Compare_uint16 0, e_cmp_Compare_uint64 0]) (own := []) (N := 0) (an := .lf) (args := [tDot, tDot]) (res := [.int .i64]) mixed Try.func59 rfl) x y _ ((congrFun (congrFun (E_dot_Cmp 0) x) y).trans (Cmp_eq 0 x y))
theorem dot_lt (x y : Int × Int) : ltOf cfDot x y = decide (x.1 < y.1 ∨ x.1 = y.1 ∧ x.2 < y.2) := by
  unfold ltOf cfDot
  grind
theorem dot_swo : SWO (ltOf cfDot) where
  irrefl x := by rw [dot_lt]; simp
  trans x y z h1 h2 := by rw [dot_lt] at *; simp at *; omega
  ntrans x y z h1 h2 := by rw [dot_lt] at *; simp at *; omega
theorem dot_total (x y : Int × Int) (h1 : ltOf cfDot x y = false) (h2 : ltOf cfDot y x = false) : x = y := by
  rw [dot_lt] at *; simp at *
  obtain ⟨a, b⟩ := x; obtain ⟨c, d⟩ := y
  simp at *; omega
theorem dot_plain : tDot.Plain := ⟨fun x => rfl⟩
def F_SortFunc_Dot (d : List (Int × Int)) : List (Int × Int) := d.mergeSort fun x y => !(ltOf cfDot) y x
theorem Sorts_Dot : Sorts Try.prog 87 59 tDot F_SortFunc_Dot :=
  sorts_structs Try.sortDot (by kernel_rfl) dot_plain rfl Try.isAgg39 Try.sizeOf39 (.mk' Try.func87 rfl (by decide)) cfDot dot_swo dot_total (.mk' Try.func59 rfl (by decide)) Cmp_does
def e_slices_SortFunc_sDot_Dot (N : Nat) : Ent Try.prog := mkSort Sorts_Dot
end Go.Proofs.Xg
set_option linter.unusedVariables false
set_option maxRecDepth 100000
namespace Go.Proofs.Xg
open Go Go.Xl Go.Ab Go.Proofs
noncomputable def F_dot_Sort (N : Nat) : Fun [(.sl tDot)] (Option (ResT [(.sl tDot)])) := fun (x : List (Int × Int)) => (listCase x (some none) fun (y : Xg.tDot.T) (r : List Xg.tDot.T) => bif fitsB (y :: r).length 16
 then some (some (y :: r, (y :: r).length)) else none).bind fun (y : Option (List (Int × Int) × Nat)) => optCase y (Option.bind (F0_slices_Compact_sDot_Dot N) fun (y : List (Int × Int)) => some y) fun (z : List (Int ×
 Int) × Nat) => bif z.snd.ble z.fst.length then bif z.snd.ble 4611686018427387903 then Option.bind (F_slices_Compact_sDot_Dot N (F_SortFunc_Dot (List.take z.snd z.fst) ++ List.drop z.snd z.fst) z.snd) fun (y : List (Int
 × Int) × Nat) => bif (0 + y.snd).ble y.fst.length then some (List.take y.snd (List.drop 0 y.fst)) else none else none else none
theorem E_dot_Sort (N : Nat) : runF Try.prog [e_slices_Clone_sDot_Dot N, e_dot_Cmp N, e_slices_SortFunc_sDot_Dot N, e_slices_Compact_sDot_Dot N] [] N Try.f62 .lf [(.sl tDot)] [(.sl tDot)] = F_dot_Sort N := by kernel_rfl
noncomputable def e_dot_Sort (N : Nat) : Ent Try.prog := mkFn 62 Try.f62 .lf [(.sl tDot)] [(.sl tDot)] (F_dot_Sort N) mixed Try.func62 (.mk' Try.func62 rfl (by decide)) rfl (E_dot_Sort N)
noncomputable def F_slices_Equal_sDot_Dot (N : Nat) : Fun [(.sl tDot), (.sl tDot)] (Option (ResT [.bool])) := fun (x x_1 : List (Int × Int)) => bif (↑x.length : Int) != (↑x_1.length : Int) then some false else iter (fun
 (rec : (Int × Unit) × Unit × Unit × Unit → Option Bool) (z : (Int × Unit) × Unit × Unit × Unit) => bif decide (z.fst.fst < (↑x.length : Int)) then (at? x z.fst.fst).bind fun (e : Int × Int) => (at? x_1 z.fst.fst).bind
 fun (e_1 : Int × Int) => bif !(e.fst == e_1.fst && e.snd == e_1.snd) then some false else rec ((IntKind.i64.wrap (z.fst.fst + 1), ()), (), (), ()) else some true) N ((0, ()), (), (), ())
theorem E_slices_Equal_sDot_Dot (N : Nat) : runF Try.prog [] [] N Try.f89 (.seq .lf (.seq .lf (.seq (.seq .lf (.blk (.loop ⟨[(13, .d (.int .i64))], [], [0, 1, 12], [], [], []⟩ .lf))) .lf))) [(.sl tDot), (.sl tDot)] [.bool] = F_slices_Equal_sDot_Dot N := by kernel_rfl
noncomputable def e_slices_Equal_sDot_Dot (N : Nat) : Ent Try.prog := mkFn 89 Try.f89 (.seq .lf (.seq .lf (.seq (.seq .lf (.blk (.loop ⟨[(13, .d (.int .i64))], [], [0, 1, 12], [], [], []⟩ .lf))) .lf))) [(.sl tDot), (.sl tDot)] [.bool] (F_slices_Equal_sDot_Dot N) mixed Try.func89 (.mk' Try.func89 rfl (by decide)) rfl (E_slices_Equal_sDot_Dot N)
noncomputable def F_dot_Same (N : Nat) : Fun [(.sl tDot), (.sl tDot)] (Option (ResT [.bool])) := fun (x x_1 : List (Int × Int)) => Option.bind (F_slices_Equal_sDot_Dot N x x_1) fun (y : Bool) => some y
theorem E_dot_Same (N : Nat) : runF Try.prog [e_slices_Equal_sDot_Dot N] [] N Try.f63 .lf [(.sl tDot), (.sl tDot)] [.bool] = F_dot_Same N := by kernel_rfl
noncomputable def e_dot_Same (N : Nat) : Ent Try.prog := mkFn 63 Try.f63 .lf [(.sl tDot), (.sl tDot)] [.bool] (F_dot_Same N) mixed Try.func63 (.mk' Try.func63 rfl (by decide)) rfl (E_dot_Same N)
noncomputable def F_epitaphref07_Cmp (N : Nat) : Fun [tDot, tDot] (Option (ResT [(.int .i64)])) := fun (x x_1 : Int × Int) => bif x.fst == x_1.fst && x.snd == x_1.snd then some 0 else bif decide (x.fst < x_1.fst) then
 some (-1) else bif x.fst == x_1.fst then bif decide (x.snd < x_1.snd) then some (-1) else some 1 else some 1
theorem E_epitaphref07_Cmp (N : Nat) : runF Try.prog [] [] N Try.f25 .lf [tDot, tDot] [(.int .i64)] = F_epitaphref07_Cmp N := by kernel_rfl
noncomputable def e_epitaphref07_Cmp (N : Nat) : Ent Try.prog := mkFn 25 Try.f25 .lf [tDot, tDot] [(.int .i64)] (F_epitaphref07_Cmp N) mixed Try.func25 (.mk' Try.func25 rfl (by decide)) rfl (E_epitaphref07_Cmp N)
noncomputable def F_epitaphref07_Put (N : Nat) : Fun [(.sl tDot), tDot] (Option (ResT [(.sl tDot)])) := fun (x : List (Int × Int)) (x_1 : Int × Int) => iter (fun (rec : (List (Int × Int) × Int × Unit) × Unit × Unit ×
 Unit → Option (List (Int × Int))) (z : (List (Int × Int) × Int × Unit) × Unit × Unit × Unit) => bif decide (z.fst.snd.fst < (↑x.length : Int)) then (at? x z.fst.snd.fst).bind fun (e : Int × Int) => Option.bind
 (F_epitaphref07_Cmp N e x_1) fun (y : Int) => bif decide (y < 0) then (at? x z.fst.snd.fst).bind fun (e : Int × Int) => bif fitsB (z.fst.fst.length + [e].length) 16 then rec ((z.fst.fst ++ [e], IntKind.i64.wrap
 (z.fst.snd.fst + 1), ()), (), (), ()) else none else rec ((z.fst.fst, IntKind.i64.wrap (z.fst.snd.fst + 1), ()), (), (), ()) else bif fitsB (z.fst.fst.length + [x_1].length) 16 then iter (fun (rec : (List (Int × Int) ×
 Int × Unit) × Unit × Unit × Unit → Option (List (Int × Int))) (z : (List (Int × Int) × Int × Unit) × Unit × Unit × Unit) => bif decide (z.fst.snd.fst < (↑x.length : Int)) then (at? x z.fst.snd.fst).bind fun (e : Int ×
 Int) => Option.bind (F_epitaphref07_Cmp N e x_1) fun (y : Int) => bif decide (0 < y) then (at? x z.fst.snd.fst).bind fun (e : Int × Int) => bif fitsB (z.fst.fst.length + [e].length) 16 then rec ((z.fst.fst ++ [e],
 IntKind.i64.wrap (z.fst.snd.fst + 1), ()), (), (), ()) else none else rec ((z.fst.fst, IntKind.i64.wrap (z.fst.snd.fst + 1), ()), (), (), ()) else some z.fst.fst) N ((z.fst.fst ++ [x_1], 0, ()), (), (), ()) else none) N
 (([], 0, ()), (), (), ())
theorem E_epitaphref07_Put (N : Nat) : runF Try.prog [e_epitaphref07_Cmp N] [] N Try.f64 (.seq .lf (.seq .lf (.seq (.seq .lf (.blk (.loop ⟨[(5, .tip 200005 tDot none), (6, .d (.int .i64))], [], [0, 3], [1003], [], []⟩ .lf))) (.seq .lf (.seq (.seq .lf (.blk (.loop ⟨[(5, .tip 200005 tDot none), (7, .d (.int .i64))], [], [0, 3], [1003], [], []⟩ .lf))) .lf))))) [(.sl tDot), tDot] [(.sl tDot)] = F_epitaphref07_Put N := by kernel_rfl
noncomputable def e_epitaphref07_Put (N : Nat) : Ent Try.prog := mkFn 64 Try.f64 (.seq .lf (.seq .lf (.seq (.seq .lf (.blk (.loop ⟨[(5, .tip 200005 tDot none), (6, .d (.int .i64))], [], [0, 3], [1003], [], []⟩ .lf))) (.seq .lf (.seq (.seq .lf (.blk (.loop ⟨[(5, .tip 200005 tDot none), (7, .d (.int .i64))], [], [0, 3], [1003], [], []⟩ .lf))) .lf))))) [(.sl tDot), tDot] [(.sl tDot)] (F_epitaphref07_Put N) mixed Try.func64 (.mk' Try.func64 rfl (by decide)) rfl (E_epitaphref07_Put N)
noncomputable def F_epitaphref07_Same (N : Nat) : Fun [(.sl tDot), (.sl tDot)] (Option (ResT [.bool])) := fun (x x_1 : List (Int × Int)) => bif (↑x.length : Int) != (↑x_1.length : Int) then some false else iter (fun (rec
 : (Int × Unit) × Unit × Unit × Unit → Option Bool) (z : (Int × Unit) × Unit × Unit × Unit) => bif decide (z.fst.fst < (↑x.length : Int)) then (at? x z.fst.fst).bind fun (e : Int × Int) => (at? x_1 z.fst.fst).bind fun
 (e_1 : Int × Int) => bif !(e.fst == e_1.fst && e.snd == e_1.snd) then some false else rec ((IntKind.i64.wrap (z.fst.fst + 1), ()), (), (), ()) else some true) N ((0, ()), (), (), ())
theorem E_epitaphref07_Same (N : Nat) : runF Try.prog [] [] N Try.f27 (.seq .lf (.seq .lf (.seq (.seq .lf (.blk (.loop ⟨[(5, .d (.int .i64))], [], [0, 1], [], [], []⟩ .lf))) .lf))) [(.sl tDot), (.sl tDot)] [.bool] = F_epitaphref07_Same N := by kernel_rfl
noncomputable def e_epitaphref07_Same (N : Nat) : Ent Try.prog := mkFn 27 Try.f27 (.seq .lf (.seq .lf (.seq (.seq .lf (.blk (.loop ⟨[(5, .d (.int .i64))], [], [0, 1], [], [], []⟩ .lf))) .lf))) [(.sl tDot), (.sl tDot)] [.bool] (F_epitaphref07_Same N) mixed Try.func27 (.mk' Try.func27 rfl (by decide)) rfl (E_epitaphref07_Same N)
end Go.Proofs.Xg
set_option linter.unusedVariables false
namespace Go.Xl
open Go.Ab
end Go.Xl
set_option linter.unusedVariables false
namespace Go.Xl
open Go.Ab
def noneA {β : Type} : (ks : List AK) → FunA ks (Option β)
  | [] => none
  | .d _ :: r => fun _ => noneA r
  | .c _ :: r => noneA r
theorem noneA_snd {β : Type} {Q : β → List XV → Prop} : ∀ (ks : List AK) (acc : List XV), SndA Q ks (noneA ks) acc
  | [], acc => fun y h => by cases h
  | .d _ :: r, acc => fun x => noneA_snd r _
  | .c _ :: r, acc => noneA_snd (Q := Q) r _
abbrev FnO (t : Ty) (ks : List AK) (rs : List RK) : Type := List t.T → Nat → FunA ks (Option (List t.T × ResO rs))
def recO {t : Ty} {ks : List AK} {rs : List RK} (R : FnO t ks rs → FnO t ks rs) : Nat → FnO t ks rs
  | 0 => fun _ _ => noneA ks
  | n + 1 => R (recO R n)
def SndO (P : Program) (f : FuncId) (t : Ty) (ks : List AK) (rs : List RK) (F : FnO t ks rs) : Prop := ∀ l n, SoundO P f t rs l n ks (F l n) []
theorem recO_sound {P : Program} {f : FuncId} {t : Ty} {ks : List AK} {rs : List RK} {R : FnO t ks rs → FnO t ks rs} (h : ∀ G, SndO P f t ks rs G → SndO P f t ks rs (R G)) :
    ∀ n, SndO P f t ks rs (recO R n)
  | 0 => fun l n => noneA_snd ks []
  | n + 1 => h _ (recO_sound h n)
def mkEntO {P : Program} (id : FuncId) (t : Ty) (ks : List AK) (rs : List RK) (F : FnO t ks rs) (hc : CallI P id) (hs : SndO P id t ks rs F) : Ent P where
  id := id
  run := oRun (P := P) t ks rs F
  ok := by
    intro R o st aops ts vs K r ho hv h
    exact oRun_ok hc hs ho hv h
end Go.Xl
namespace Go.Xl
open Go.Ab
end Go.Xl
