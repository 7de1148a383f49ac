import Derived.Calls
import Derived.ProofKit
import Derived.Laws.Cells
import Derived.Laws.Entries
import Derived.Laws.Append
import Derived.Laws.StructEq
import Derived.Laws.Strings
import Derived.Laws.Slices
import Derived.Laws.Small
import Derived.Tactics
import Derived.Laws.Rows
import Derived.Laws.AppendOwn
import Derived.Laws.NewBlocks
import Derived.Orders
set_option linter.unusedVariables false
set_option linter.unusedSimpArgs false
namespace Go.Ab
inductive D where
 | sc (v:Value)
 | agg (cs:List D)
 | sl (sz:Nat) (es:List (List D))
 | ep (cs:List D)
 | any (q:Value→Prop)
abbrev D.int (k:IntKind) (n:Int):D:=.sc (.int k n)
abbrev D.bool (b:Bool):D:=.sc (.bool b)
abbrev D.str (s:ByteArray):D:=.sc (.string s)
def D.cells:D→List D
 | .agg cs=>cs
 | x=>[x]
inductive PK where
 | p (off:Nat)
 | s (off len sz:Nat)
 | m
 | z (b:Bool) (off:Nat)
def PK.val (w:World) (b:Nat):PK→Value→Prop
 | .p off,v=>v = .pointer (some ⟨b,off,none⟩)
 | .s off len sz,v=>∃cap o,len≤cap∧v = .slice (some ⟨b,o,none⟩) len cap∧(cap=0∨o=off)∧∃T c,w.shape? b=some (T,c)∧o+cap*sz≤c
 | .m,v=>v = .map (some b)
 | .z n off,v=>v=cond n (.pointer none) (.pointer (some ⟨b,off,none⟩))
inductive AV where
 | d (x:D)
 | nm (k:Nat) (p:PK)
 | tip (n:Nat) (sz:Nat) (es:List (List D)) (ty:Option TypeId:=none)
 | tpt (n:Nat) (e:TypeId) (cs:List D)
 | tup (l:List AV)
 | agg (l:List AV)
 | clo (f:Nat) (caps:List AV)
@[match_pattern] abbrev AV.ptr (k off:Nat):AV:=.nm k (.p off)
@[match_pattern] abbrev AV.osl (k off len sz:Nat):AV:=.nm k (.s off len sz)
@[match_pattern] abbrev AV.mp (k:Nat):AV:=.nm k .m
def AV.cells:AV→List AV
 | .d x=>x.cells.map .d
 | .agg cs=>cs
 | x=>[x]
inductive RD (γ:Nat→Nat) (w:World):D→Value→Prop
 | sc (v:Value):RD γ w (.sc v) v
 | agg (cs:List D) (vs:Array Value):cs.length=vs.size →
   (∀(i:Nat) c v,cs[i]? = some c→vs[i]? = some v→RD γ w c v)→RD γ w (.agg cs) (.agg vs)
 | nil (sz:Nat) (a:Option Addr) (cap:Nat):(a=none→cap=0)→RD γ w (.sl sz []) (.slice a 0 cap)
 | sl (sz:Nat) (es:List (List D)) (b off len cap:Nat):len=es.length→off+es.length*sz≤γ b→es.length≤cap →
   (∀(i:Nat) cs,es[i]? = some cs→cs.length=sz) →
   (∀(i:Nat) cs (j:Nat) c v,es[i]? = some cs→cs[j]? = some c→w.cell? ⟨b,off+i*sz+j,none⟩=some v→RD γ w c v) →
   RD γ w (.sl sz es) (.slice (some ⟨b,off,none⟩) len cap)
 | ep (cs:List D) (b off:Nat):off+cs.length≤γ b →
   (∀(j:Nat) c v,cs[j]? = some c→w.cell? ⟨b,off+j,none⟩=some v→RD γ w c v) →
   RD γ w (.ep cs) (.pointer (some ⟨b,off,none⟩))
 | any (q:Value→Prop) (v:Value):q v→v.oneCell' = true→RD γ w (.any q) v
structure LeD (γ:Nat→Nat) (w:World) (γ' : Nat→Nat) (w' : World):Prop where
 up:∀b,γ b≤γ' b
 cell:∀b i,i < γ b→w'.cell? ⟨b,i,none⟩=w.cell? ⟨b,i,none⟩
 shape:∀b s,w.shape? b=some s→w'.shape? b=some s
theorem LeD.refl (γ:Nat→Nat) (w:World):LeD γ w γ w:=⟨fun _=>Nat.le_refl _,fun _ _ _=>rfl,fun _ _ h=>h⟩
theorem LeD.trans {γ γ₁ γ₂:Nat→Nat} {w w₁ w₂:World} (h:LeD γ w γ₁ w₁) (h' : LeD γ₁ w₁ γ₂ w₂):LeD γ w γ₂ w₂ :=
 ⟨fun b=>Nat.le_trans (h.up b) (h'.up b),fun b i hi=>(h'.cell b i (Nat.lt_of_lt_of_le hi (h.up b))).trans (h.cell b i hi),fun b s hs=>h'.shape b s (h.shape b s hs)⟩
theorem Q48 {i n sz j:Nat} (hi:i < n) (hj:j < sz):i*sz+j < n*sz:=by
 have h1:(i+1)*sz≤n*sz:=Nat.mul_le_mul_right sz hi
 rw[Nat.succ_mul] at h1
 omega
theorem PK.val.mono {γ γ' : Nat→Nat} {w w' : World} {b:Nat} {p:PK} {v:Value} (h:p.val w b v) (hle:LeD γ w γ' w'):p.val w' b v:=by
 cases p with
 | p off=>exact h
 | m=>exact h
 | z n off=>exact h
 | s off len sz =>
  obtain⟨cap,o,h1,h2,h0,T,c,h3,h4⟩:=h
  exact⟨cap,o,h1,h2,h0,T,c,hle.shape _ _ h3,h4⟩
theorem RD.mono {γ γ' : Nat→Nat} {w w' : World} {x:D} {v:Value} (h:RD γ w x v) (hle:LeD γ w γ' w'):RD γ' w' x v:=by
 induction h with
 | sc v=>exact .sc v
 | agg cs vs hl _ ih=>exact .agg cs vs hl ih
 | nil sz a cap h0=>exact .nil sz a cap h0
 | sl sz es b off len cap hlen hγ hcap hsz _ ih =>
  refine .sl sz es b off len cap hlen (Nat.le_trans hγ (hle.up b)) hcap hsz ?_
  intro i cs j c v hi hj hv
  refine ih i cs j c v hi hj ?_
  have h1:i < es.length:=(List.getElem?_eq_some_iff.1 hi).1
  have h2:j < cs.length:=(List.getElem?_eq_some_iff.1 hj).1
  rw[hsz i cs hi] at h2
  have:=Q48 h1 h2
  rw[← hle.cell b _ (by omega)]
  exact hv
 | ep cs b off hγ _ ih =>
  refine .ep cs b off (Nat.le_trans hγ (hle.up b)) ?_
  intro j c v hj hv
  refine ih j c v hj ?_
  have h2:j < cs.length:=(List.getElem?_eq_some_iff.1 hj).1
  rw[← hle.cell b _ (by omega)]
  exact hv
 | any q v h1 h2=>exact .any q v h1 h2
structure Gh where
 γ:Nat→Nat
 β:Nat→Option (Option Nat)
 ρ:Nat→Nat
 /-- the blocks that a live label has beside: of a map whose slices are appended to, entry by entry -/
 η:Nat→Nat→Option Nat:=fun _ _=>none
def Room (w:World) (b lo hi:Nat):Prop:=∀i,lo≤i→i < hi→(w.cell? ⟨b,i,none⟩).isSome∧w.frozen? ⟨b,i,none⟩=false
def TipOk (g:Gh) (w:World) (n sz:Nat) (ty:Option TypeId):Value→Prop
 | .slice (some a) len cap=>∀ob,g.β n=some ob→a.spot=none∧ob=some a.block∧g.γ a.block=a.off+len*sz∧Room w a.block (a.off+len*sz) (a.off+cap*sz) ∧
   (∀e,ty=some e→a.off=0∧∃c,w.shape? a.block=some (e,c))
 | _=>True
def TipE (g:Gh) (w:World) (L i sz:Nat):Value→Prop
 | .slice (some a) len cap=>a.spot=none∧g.η L i=some a.block∧g.γ a.block=a.off+len*sz∧Room w a.block (a.off+len*sz) (a.off+cap*sz)
 | _=>True
def TptOk (g:Gh) (w:World) (n:Nat) (e:TypeId):Value→Prop
 | .pointer (some a)=>a.spot=none∧∀ob,g.β n=some ob→ob=some a.block∧a.off=0∧∃c,w.shape? a.block=some (e,c)
 | _=>True
inductive RA (g:Gh) (w:World):AV→Value→Prop
 | d (x:D) (v:Value):RD g.γ w x v→RA g w (.d x) v
 | nm (k:Nat) (p:PK) (v:Value):p.val w (g.ρ k) v→RA g w (.nm k p) v
 | tip (n sz:Nat) (es:List (List D)) (ty:Option TypeId) (v:Value):RD g.γ w (.sl sz es) v→TipOk g w n sz ty v→RA g w (.tip n sz es ty) v
 | tpt (n:Nat) (e:TypeId) (cs:List D) (v:Value):RD g.γ w (.ep cs) v→TptOk g w n e v→RA g w (.tpt n e cs) v
 | tup (l:List AV) (vs:Array Value):l.length=vs.size →
   (∀(i:Nat) x v,l[i]? = some x→vs[i]? = some v→RA g w x v)→RA g w (.tup l) (.tuple vs)
 | agg (l:List AV) (vs:Array Value):l.length=vs.size →
   (∀(i:Nat) x v,l[i]? = some x→vs[i]? = some v→RA g w x v)→RA g w (.agg l) (.agg vs)
 | clo (f:Nat) (l:List AV) (vs:Array Value):l.length=vs.size →
   (∀(i:Nat) x v,l[i]? = some x→vs[i]? = some v→RA g w x v)→RA g w (.clo f l) (.func (.func f) #[] vs)
theorem RA.ptr {g:Gh} {w:World} (k off:Nat):RA g w (.ptr k off) (.pointer (some ⟨g.ρ k,off,none⟩)):=.nm k _ _ rfl
theorem RA.ptr_inv {g:Gh} {w:World} {k off:Nat} {v:Value} (h:RA g w (.ptr k off) v):v = .pointer (some ⟨g.ρ k,off,none⟩):=by
 cases h with | nm _ _ _ h=>exact h
theorem RA.osl_inv {g:Gh} {w:World} {k off len sz:Nat} {v:Value} (h:RA g w (.osl k off len sz) v):∃cap o,len≤cap∧v = .slice (some ⟨g.ρ k,o,none⟩) len cap∧(cap=0∨o=off)∧∃T c,w.shape? (g.ρ k)=some (T,c)∧o+cap*sz≤c:=by
 cases h with | nm _ _ _ h=>exact h
theorem RA.mp_inv {g:Gh} {w:World} {k:Nat} {v:Value} (h:RA g w (.mp k) v):v = .map (some (g.ρ k)):=by
 cases h with | nm _ _ _ h=>exact h
inductive Free (F:List Nat):AV→Prop
 | d (x:D):Free F (.d x)
 | nm (k:Nat) (p:PK):k ∉ F→Free F (.nm k p)
 | tip (n sz:Nat) (es:List (List D)) (ty:Option TypeId):n ∉ F→Free F (.tip n sz es ty)
 | tpt (n:Nat) (e:TypeId) (cs:List D):n ∉ F→Free F (.tpt n e cs)
 | tup (l:List AV):(∀(i:Nat) x,l[i]? = some x→Free F x)→Free F (.tup l)
 | agg (l:List AV):(∀(i:Nat) x,l[i]? = some x→Free F x)→Free F (.agg l)
 | clo (f:Nat) (l:List AV):(∀(i:Nat) x,l[i]? = some x→Free F x)→Free F (.clo f l)
mutual
def Q15 (F:List Nat):AV→Bool
 | .d _=>true
 | .nm k _=>!F.contains k
 | .tip n _ _ _=>!F.contains n
 | .tpt n _ _=>!F.contains n
 | .tup l=>Q14 F l
 | .agg l=>Q14 F l
 | .clo _ l=>Q14 F l
def Q14 (F:List Nat):List AV→Bool
 | []=>true
 | x :: r=>Q15 F x && Q14 F r
end
theorem Q41 {F:List Nat} {l:List AV} (h:Q14 F l=true) {i:Nat} {x:AV} (hx:l[i]? = some x):Q15 F x=true:=by
 induction l generalizing i with
 | nil=>simp at hx
 | cons y r ih =>
  simp only[Q14,Bool.and_eq_true] at h
  cases i with
  | zero=>simp at hx; subst hx; exact h.1
  | succ i=>exact ih h.2 (by simpa using hx)
theorem Q3f {F:List Nat}:∀ {x:AV},Q15 F x=true→Free F x
 | .d x,_=>.d x
 | .nm k p,h=>.nm k p (by simpa[Q15] using h)
 | .tip n sz es ty,h=>.tip n sz es ty (by simpa[Q15] using h)
 | .tpt n e cs,h=>.tpt n e cs (by simpa[Q15] using h)
 | .tup l,h=>.tup l fun i x hx=>by
   have:SizeOf.sizeOf x < SizeOf.sizeOf l:=List.sizeOf_lt_of_mem (List.mem_of_getElem? hx)
   exact Q3f (Q41 (by simpa[Q15] using h) hx)
 | .agg l,h=>.agg l fun i x hx=>by
   have:SizeOf.sizeOf x < SizeOf.sizeOf l:=List.sizeOf_lt_of_mem (List.mem_of_getElem? hx)
   exact Q3f (Q41 (by simpa[Q15] using h) hx)
 | .clo f l,h=>.clo f l fun i x hx=>by
   have:SizeOf.sizeOf x < SizeOf.sizeOf l:=List.sizeOf_lt_of_mem (List.mem_of_getElem? hx)
   exact Q3f (Q41 (by simpa[Q15] using h) hx)
termination_by x=>x
theorem Free.nil (x:AV):Free [] x:=by
 apply Q3f
 suffices h:(∀y:AV,Q15 [] y=true) from h x
 intro y
 suffices H:∀n,∀z:AV,SizeOf.sizeOf z≤n→Q15 [] z=true from H _ y (Nat.le_refl _)
 intro n
 induction n with
 | zero=>intro z hz; cases z <;> simp at hz
 | succ n ih =>
  have hl:∀l:List AV,SizeOf.sizeOf l≤n+1→Q14 [] l=true:=by
   intro l
   induction l with
   | nil=>intro _; simp[Q14]
   | cons a r ihr =>
    intro hs
    simp at hs
    simp only[Q14,Bool.and_eq_true]
    exact⟨ih a (by omega),ihr (by omega)⟩
  intro z hz
  cases z <;> simp at hz <;> simp[Q15]
  ·exact hl _ (by omega)
  ·exact hl _ (by omega)
  ·exact hl _ (by omega)
structure Trans (F:List Nat) (g:Gh) (w:World) (g' : Gh) (w' : World):Prop where
 le:LeD g.γ w g'.γ w'
 names:∀k,k ∉ F→g'.ρ k=g.ρ k
 tips:∀n ob,n ∉ F→g'.β n=some ob→g.β n=some ob∧∀b,ob=some b→g'.γ b=g.γ b∧w'.heap[b]? = w.heap[b]?
 eta:∀L,L ∉ F→(g'.β L).isSome→g'.η L=g.η L∧∀i b,g.η L i=some b→g'.γ b=g.γ b∧w'.heap[b]? = w.heap[b]?
theorem Trans.refl (F:List Nat) (g:Gh) (w:World):Trans F g w g w:=⟨.refl _ _,fun _ _=>rfl,fun _ _ _ h=>⟨h,fun _ _=>⟨rfl,rfl⟩⟩,fun _ _ _=>⟨rfl,fun _ _ _=>⟨rfl,rfl⟩⟩⟩
theorem Trans.trans {F F' : List Nat} {g g₁ g₂:Gh} {w w₁ w₂:World} (h:Trans F g w g₁ w₁) (h' : Trans F' g₁ w₁ g₂ w₂):Trans (F++F') g w g₂ w₂ where
 le:=h.le.trans h'.le
 names k hk:=by
  rw[List.mem_append,not_or] at hk
  rw[h'.names k hk.2,h.names k hk.1]
 tips n ob hn he:=by
  rw[List.mem_append,not_or] at hn
  obtain⟨h1,h2⟩:=h'.tips n ob hn.2 he
  obtain⟨h3,h4⟩:=h.tips n ob hn.1 h1
  exact⟨h3,fun b hb=>⟨(h2 b hb).1.trans (h4 b hb).1,(h2 b hb).2.trans (h4 b hb).2⟩⟩
 eta L hL he:=by
  rw[List.mem_append,not_or] at hL
  obtain⟨h1,h2⟩:=h'.eta L hL.2 he
  obtain⟨ob,hob⟩:=Option.isSome_iff_exists.1 he
  have h3:=(h'.tips L ob hL.2 hob).1
  obtain⟨h4,h5⟩:=h.eta L hL.1 (by rw[h3]; rfl)
  refine⟨h1.trans h4,fun i b hb=>?_⟩
  obtain⟨a1,a2⟩:=h5 i b hb
  obtain⟨a3,a4⟩:=h2 i b (by rw[h4]; exact hb)
  exact⟨a3.trans a1,a4.trans a2⟩
theorem cell?_of_heap {w w' : World} {b:Nat} (h:w'.heap[b]? = w.heap[b]?) (i:Nat) (s:Option Nat):w'.cell? ⟨b,i,s⟩=w.cell? ⟨b,i,s⟩:=by
 simp only[World.cell?,h]
theorem frozen?_of_heap {w w' : World} {b:Nat} (h:w'.heap[b]? = w.heap[b]?) (i:Nat) (s:Option Nat):w'.frozen? ⟨b,i,s⟩=w.frozen? ⟨b,i,s⟩:=by
 simp only[World.frozen?,h]
theorem Room.keep {w w' : World} {b lo hi:Nat} (h:Room w b lo hi) (hw:w'.heap[b]? = w.heap[b]?):Room w' b lo hi:=by
 intro i h1 h2
 rw[cell?_of_heap hw,frozen?_of_heap hw]
 exact h i h1 h2
theorem shape?_of_heap {w w' : World} {b:Nat} (h:w'.heap[b]? = w.heap[b]?):w'.shape? b=w.shape? b:=by
 simp only[World.shape?,h]
theorem TipOk.keep {F:List Nat} {g g' : Gh} {w w' : World} {n sz:Nat} {ty:Option TypeId} {v:Value} (h:TipOk g w n sz ty v) (ht:Trans F g w g' w') (hn:n ∉ F):TipOk g' w' n sz ty v:=by
 unfold TipOk at h ⊢
 split at h
 ·rename_i a len cap
  intro ob hob
  obtain⟨h1,h2⟩:=ht.tips n ob hn hob
  obtain⟨hs,hc⟩:=h ob h1
  obtain⟨he,hγ,hr,hty⟩:=hc
  obtain⟨h3,h4⟩:=h2 _ he
  exact⟨hs,he,by rw[h3]; exact hγ,hr.keep h4,fun e hte=>⟨(hty e hte).1,by rw[shape?_of_heap h4]; exact(hty e hte).2⟩⟩
 ·trivial
theorem TipE.keep {F:List Nat} {g g' : Gh} {w w' : World} {L i sz:Nat} {v:Value} (h:TipE g w L i sz v) (ht:Trans F g w g' w') (hL:L ∉ F) (hl:(g'.β L).isSome):TipE g' w' L i sz v:=by
 unfold TipE at h ⊢
 split at h
 ·obtain⟨h1,h2⟩:=ht.eta L hL hl
  obtain⟨a1,a2,a3,a4⟩:=h
  obtain⟨b1,b2⟩:=h2 i _ a2
  exact⟨a1,by rw[h1]; exact a2,by rw[b1]; exact a3,a4.keep b2⟩
 ·trivial
theorem TptOk.keep {F:List Nat} {g g' : Gh} {w w' : World} {n:Nat} {e:TypeId} {v:Value} (h:TptOk g w n e v) (ht:Trans F g w g' w') (hn:n ∉ F):TptOk g' w' n e v:=by
 unfold TptOk at h ⊢
 split at h
 ·refine⟨h.1,fun ob hob=>?_⟩
  obtain⟨h1,h2⟩:=ht.tips n ob hn hob
  obtain⟨h3,h4,h5⟩:=h.2 ob h1
  exact⟨h3,h4,by rw[shape?_of_heap (h2 _ h3).2]; exact h5⟩
 ·trivial
theorem RA.mono {F:List Nat} {g g' : Gh} {w w' : World} {x:AV} {v:Value} (h:RA g w x v) (ht:Trans F g w g' w') (hf:Free F x):RA g' w' x v:=by
 induction h with
 | d x v h=>exact .d x v (h.mono ht.le)
 | nm k p v h =>
  cases hf with
  | nm _ _ hk=>exact .nm k p v (by rw[ht.names k hk]; exact h.mono ht.le)
 | tip n sz es ty v h h2 =>
  cases hf with
  | tip _ _ _ _ hk=>exact .tip n sz es ty v (h.mono ht.le) (h2.keep ht hk)
 | tpt n e cs v h h2 =>
  cases hf with
  | tpt _ _ _ hk=>exact .tpt n e cs v (h.mono ht.le) (h2.keep ht hk)
 | tup l vs hl _ ih =>
  cases hf with
  | tup _ hx=>exact .tup l vs hl fun i x v h1 h2=>ih i x v h1 h2 (hx i x h1)
 | agg l vs hl _ ih =>
  cases hf with
  | agg _ hx=>exact .agg l vs hl fun i x v h1 h2=>ih i x v h1 h2 (hx i x h1)
 | clo f l vs hl _ ih =>
  cases hf with
  | clo _ _ hx=>exact .clo f l vs hl fun i x v h1 h2=>ih i x v h1 h2 (hx i x h1)
end Go.Ab
namespace Go.Ab
inductive Ob where
 | cells (cs:List AV) (ty:Option TypeId:=none)
 | map (l:List (Nat×Value×D)) (clock:Nat)
 | sit (s:ByteArray) (pos:Nat)
 | mit (k since:Nat) (seen:Array Nat) (last:Nat)
 | mitn
 /-- a map whose slices are appended to: its label, the elements' cells; of each entry: when it came, its key, may its slice be appended to, what it is -/
 | mapt (L sz:Nat) (l:List (Nat×Value×Bool×List (List D))) (clock:Nat)
structure Store where
 objs:List (Nat×Ob)
 live:List Nat
structure Sig where
 N:Nat
 names:List Nat
 small:∀j ∈ names,j < 1000
structure Base where
 n0:Nat
 w0:World
 γ0:Nat→Nat
 allowed:Nat→Prop
 keep:Nat→Nat
inductive ObRel (g:Gh) (w:World) (b:Nat):Ob→Prop
 | cells (cs:List AV) (ty:Option TypeId) (arr:Array Value) (T:TypeId):w.heap[b]? = some (.cells arr T (0,0))→cs.length≤arr.size →
   (∀(i:Nat) x v,cs[i]? = some x→arr[i]? = some v→RA g w x v)→(∀t,ty=some t→t=T)→ObRel g w b (.cells cs ty)
 | map (l:List (Nat×Value×D)) (clock:Nat) (es:Array MapEntry):w.heap[b]? = some (.map es clock)→l.length=es.size →
   (∀(i:Nat) x e,l[i]? = some x→es[i]? = some e→e.born=x.1∧e.key=x.2.1∧RD g.γ w x.2.2 e.val) →
   (∀p ∈ l,p.1 < clock)→(l.map (·.1)).Nodup→ObRel g w b (.map l clock)
 | sit (s:ByteArray) (pos:Nat):w.heap[b]? = some (.stringIter s pos)→ObRel g w b (.sit s pos)
 | mit (k since:Nat) (seen:Array Nat) (last:Nat):w.heap[b]? = some (.mapIter (some (g.ρ k)) since seen last)→ObRel g w b (.mit k since seen last)
 | mitn:w.heap[b]? = some (.mapIter none 0 #[] 0)→ObRel g w b .mitn
 | mapt (L sz:Nat) (l:List (Nat×Value×Bool×List (List D))) (clock:Nat) (es:Array MapEntry):w.heap[b]? = some (.map es clock)→l.length=es.size →
   (∀(i:Nat) x e,l[i]? = some x→es[i]? = some e→e.born=x.1∧e.key=x.2.1∧RD g.γ w (.sl sz x.2.2.2) e.val∧(x.2.2.1=true→(g.β L).isSome→TipE g w L x.1 sz e.val)) →
   (∀p ∈ l,p.1 < clock)→(l.map (·.1)).Nodup→ObRel g w b (.mapt L sz l clock)
structure EtaOk (B:Base) (g:Gh) (w:World) (X:Store):Prop where
 inj:∀L L' i i' b,(g.β L).isSome→(g.β L').isSome→g.η L i=some b→g.η L' i' = some b→L=L'∧i=i'
 tip:∀L i b n,(g.β L).isSome→g.η L i=some b→g.β n≠some (some b)
 obj:∀L i b k o,(g.β L).isSome→g.η L i=some b→X.objs.lookup k=some o→b≠g.ρ k
 new:∀L i b,(g.β L).isSome→g.η L i=some b→B.n0≤b∨B.allowed b
 lt:∀L i b,(g.β L).isSome→g.η L i=some b→b < w.heap.size
theorem EtaOk.step {B:Base} {g g' : Gh} {w w' : World} {X X' : Store} (h:EtaOk B g w X) (hη:∀L,(g'.β L).isSome→((g.β L).isSome∧g'.η L=g.η L)∨∀i,g'.η L i=none) (hs:w.heap.size≤w'.heap.size)
  (htip:∀n b,g'.β n=some (some b)→(∃m,g.β m=some (some b))∨w.heap.size≤b∨∃k o,X.objs.lookup k=some o∧b=g.ρ k)
  (hobj:∀k o,X'.objs.lookup k=some o→(∃k' o',X.objs.lookup k' = some o'∧g'.ρ k=g.ρ k')∨w.heap.size≤g'.ρ k∨∃m,g.β m=some (some (g'.ρ k))):EtaOk B g' w' X':=by
 have old:∀L i b,(g'.β L).isSome→g'.η L i=some b→(g.β L).isSome∧g.η L i=some b:=by
  intro L i b hL hb
  rcases hη L hL with ⟨h1,h2⟩ | h1
  ·exact⟨h1,by rw[← h2]; exact hb⟩
  ·rw[h1 i] at hb; cases hb
 refine⟨?_,?_,?_,?_,?_⟩
 ·intro L L' i i' b hL hL' hb hb'
  obtain⟨a1,a2⟩:=old L i b hL hb
  obtain⟨a3,a4⟩:=old L' i' b hL' hb'
  exact h.inj L L' i i' b a1 a3 a2 a4
 ·intro L i b n hL hb hn
  obtain⟨a1,a2⟩:=old L i b hL hb
  rcases htip n b hn with ⟨m,hm⟩ | hle | ⟨k,o,hk,he⟩
  ·exact h.tip L i b m a1 a2 hm
  ·have:=h.lt L i b a1 a2; omega
  ·exact h.obj L i b k o a1 a2 hk he
 ·intro L i b k o hL hb hk he
  obtain⟨a1,a2⟩:=old L i b hL hb
  rcases hobj k o hk with ⟨k',o',hk',he'⟩ | hle | ⟨m,hm⟩
  ·exact h.obj L i b k' o' a1 a2 hk' (he.trans he')
  ·have:=h.lt L i b a1 a2; omega
  ·exact h.tip L i b m a1 a2 (by rw[he]; exact hm)
 ·intro L i b hL hb
  obtain⟨a1,a2⟩:=old L i b hL hb
  exact h.new L i b a1 a2
 ·intro L i b hL hb
  obtain⟨a1,a2⟩:=old L i b hL hb
  exact Nat.lt_of_lt_of_le (h.lt L i b a1 a2) hs
theorem EtaOk.stepN {B:Base} {g g' : Gh} {w w' : World} {X X' : Store} (h:EtaOk B g w X) (hη:∀L,(g'.β L).isSome→((g.β L).isSome∧g'.η L=g.η L)∨∀i,g'.η L i=none) (hs:w.heap.size≤w'.heap.size)
  (htip:∀n b,g'.β n=some (some b)→∀L i,(g.β L).isSome→g.η L i≠some b)
  (hobj:∀k o,X'.objs.lookup k=some o→∀L i,(g.β L).isSome→g.η L i≠some (g'.ρ k)):EtaOk B g' w' X':=by
 have old:∀L i b,(g'.β L).isSome→g'.η L i=some b→(g.β L).isSome∧g.η L i=some b:=by
  intro L i b hL hb
  rcases hη L hL with ⟨h1,h2⟩ | h1
  ·exact⟨h1,by rw[← h2]; exact hb⟩
  ·rw[h1 i] at hb; cases hb
 refine⟨?_,?_,?_,?_,?_⟩
 ·intro L L' i i' b hL hL' hb hb'
  obtain⟨a1,a2⟩:=old L i b hL hb
  obtain⟨a3,a4⟩:=old L' i' b hL' hb'
  exact h.inj L L' i i' b a1 a3 a2 a4
 ·intro L i b n hL hb hn
  obtain⟨a1,a2⟩:=old L i b hL hb
  exact htip n b hn L i a1 a2
 ·intro L i b k o hL hb hk he
  obtain⟨a1,a2⟩:=old L i b hL hb
  exact hobj k o hk L i a1 (he▸a2)
 ·intro L i b hL hb
  obtain⟨a1,a2⟩:=old L i b hL hb
  exact h.new L i b a1 a2
 ·intro L i b hL hb
  obtain⟨a1,a2⟩:=old L i b hL hb
  exact Nat.lt_of_lt_of_le (h.lt L i b a1 a2) hs
theorem EtaOk.tipN {B:Base} {g:Gh} {w:World} {X:Store} (h:EtaOk B g w X) {n b:Nat} (hn:g.β n=some (some b)):∀L i,(g.β L).isSome→g.η L i≠some b:=fun L i hL hb=>h.tip L i b n hL hb hn
theorem EtaOk.objN {B:Base} {g:Gh} {w:World} {X:Store} (h:EtaOk B g w X) {k:Nat} {o:Ob} (hk:X.objs.lookup k=some o):∀L i,(g.β L).isSome→g.η L i≠some (g.ρ k):=fun L i hL hb=>h.obj L i _ k o hL hb hk rfl
theorem EtaOk.ltN {B:Base} {g:Gh} {w:World} {X:Store} (h:EtaOk B g w X) {b:Nat} (hb:w.heap.size≤b):∀L i,(g.β L).isSome→g.η L i≠some b:=fun L i hL he=>by have:=h.lt L i b hL he; omega
theorem EtaOk.off {B:Base} {g:Gh} {w:World} {X:Store} (h:∀L,g.β L=none):EtaOk B g w X:=by
 refine⟨fun L L' i i' b hL=>?_,fun L i b n hL=>?_,fun L i b k o hL=>?_,fun L i b hL=>?_,fun L i b hL=>?_⟩ <;> (rw[h L] at hL; cases hL)
theorem EtaOk.bare {B:Base} {g:Gh} {w:World} {X:Store} (h:∀L i,g.η L i=none):EtaOk B g w X:=by
 refine⟨fun L L' i i' b _ _ hb=>?_,fun L i b n _ hb=>?_,fun L i b k o _ hb=>?_,fun L i b _ hb=>?_,fun L i b _ hb=>?_⟩ <;> (rw[h L i] at hb; cases hb)
theorem EtaOk.same {B:Base} {g:Gh} {w w' : World} {X X' : Store} (h:EtaOk B g w X) (hs:w.heap.size≤w'.heap.size) (hobj:∀k o,X'.objs.lookup k=some o→∃o',X.objs.lookup k=some o'):EtaOk B g w' X' :=
 h.step (fun L hL=>.inl ⟨hL,rfl⟩) hs (fun n b hb=>.inl ⟨n,hb⟩) fun k o hk=>let ⟨o',h'⟩:=hobj k o hk; .inl ⟨k,o',h',rfl⟩
structure HR (nm:List Nat) (B:Base) (g:Gh) (w:World) (X:Store):Prop where
 keep:∀k,k ∈ nm→g.ρ k=B.keep k∧(X.objs.lookup k).isSome
 sane:∀b i,i < g.γ b→(w.cell? ⟨b,i,none⟩).isSome
 base:B.n0≤w.heap.size
 io:w.os=B.w0.os∧w.output=B.w0.output∧w.tape=B.w0.tape∧B.w0.drawn≤w.drawn
 le:LeD B.γ0 B.w0 g.γ w
 frame:∀b,b < B.n0→¬B.allowed b→w.heap[b]? = B.w0.heap[b]?∧g.γ b=B.γ0 b
 objs:∀k o,X.objs.lookup k=some o→ObRel g w (g.ρ k) o
 objγ:∀k o,X.objs.lookup k=some o→g.γ (g.ρ k)=0
 objinj:∀k k' o o',X.objs.lookup k=some o→X.objs.lookup k' = some o'→g.ρ k=g.ρ k'→k=k'
 objnew:∀k o,X.objs.lookup k=some o→B.n0≤g.ρ k∨B.allowed (g.ρ k)
 live:∀n,n ∈ X.live↔(g.β n).isSome
 tipinj:∀n m b,g.β n=some (some b)→g.β m=some (some b)→n=m
 tipobj:∀n b k o,g.β n=some (some b)→X.objs.lookup k=some o→b≠g.ρ k
 tipnew:∀n b,g.β n=some (some b)→B.n0≤b∨B.allowed b
 tiplt:∀n b,g.β n=some (some b)→b < w.heap.size
 eta:EtaOk B g w X
def OpT (P:Program) (o:Oper) (rd:List (Operand×AV)) (X X' : Store) (F:List Nat) (res:AV):Prop :=
 ∀(nm:List Nat),(∀j ∈ nm,j < 1000)→∀(B:Base) (g:Gh) (w:World) (a:Act),HR nm B g w X→(∀p ∈ rd,RA g w p.2 (a.eval p.1)) →
  ∀(next:Act→World→Prop) (Q:Exit→Act→World→Prop),
   (∀g' w' v,HR nm B g' w' X'→Trans F g w g' w'→RA g' w' res v→next (a.put o.dst v) w')→o.wp P a w next Q
structure St where
 env:List (Nat×AV)
 X:Store
def GB:Nat:=1000000
def slotV (a:Act) (t:Nat):Option Value:=if t < GB then a.tmps[t]? else some (.pointer (some ⟨t - GB,0,none⟩))
theorem Q3r {a:Act} {t:Nat} (ht:t < GB):slotV a t=a.tmps[t]?:=if_pos ht
theorem Q8t {a:Act} (k:Nat):slotV a (GB+k)=some (.pointer (some ⟨k,0,none⟩)):=by
 unfold slotV
 rw[if_neg (by omega),Nat.add_sub_cancel_left]
theorem Qfx {a:Act} {d:Nat} {v:Value} {t:Nat} (h:t≠d):slotV (a.put (some d) v) t=slotV a t:=by
 simp[slotV,Act.put,Ne.symm h]
theorem Qd0 {a:Act} {d:Nat} {v:Value} (h:d < a.tmps.size) (hd:d < GB):slotV (a.put (some d) v) d=some v:=by
 simp[slotV,Act.put,h,hd]
structure SR (S:Sig) (B:Base) (g:Gh) (w:World) (st:St) (a:Act):Prop where
 defers:a.defers = []
 size:a.tmps.size=S.N
 hr:HR S.names B g w st.X
 env:∀t x,st.env.lookup t=some x→∃v,slotV a t=some v∧RA g w x v
inductive Has (env:List (Nat×AV)) (t:Nat):AV→Prop
 | eq (x:AV):env.lookup t=some x→Has env t x
 | tip (n sz:Nat) (es:List (List D)) (ty:Option TypeId):env.lookup t=some (.tip n sz es ty)→Has env t (.d (.sl sz es))
 | nil (sz:Nat):env.lookup t=some (.d (.sc (.slice none 0 0)))→Has env t (.d (.sl sz []))
 | le (x y:AV):env.lookup t=some x→(∀(g:Gh) (w:World) (v:Value),RA g w x v→RA g w y v)→Has env t y
theorem Has.get {S:Sig} {B:Base} {g:Gh} {w:World} {st:St} {a:Act} {t:Nat} {x:AV} (h:Has st.env t x) (hs:SR S B g w st a):∃v,slotV a t=some v∧RA g w x v:=by
 cases h with
 | eq _ h=>exact hs.env t _ h
 | tip n sz es ty h =>
  obtain⟨v,hv,hr⟩:=hs.env t _ h
  cases hr with
  | tip _ _ _ _ _ h _=>exact⟨v,hv,.d _ _ h⟩
 | nil sz h =>
  obtain⟨v,hv,hr⟩:=hs.env t _ h
  cases hr with
  | d _ _ h=>cases h; exact⟨_,hv,.d _ _ (.nil sz none 0 fun _=>rfl)⟩
 | le x _ h hle =>
  obtain⟨v,hv,hr⟩:=hs.env t _ h
  exact⟨v,hv,hle g w v hr⟩
inductive Sees (st:St):Operand→AV→Prop
 | tmp (t:Nat) (y:AV):t < GB→Has st.env t y→Sees st (.tmp t) y
 | glob (k:Nat) (y:AV):Has st.env (GB+k) y→Sees st (.global k) y
 | const (v:Value) (y:D):(∀γ w,RD γ w y v)→Sees st (.const v) (.d y)
 | func (f:Nat):Sees st (.func f) (.clo f [])
theorem Sees.ra {S:Sig} {B:Base} {g:Gh} {w:World} {st:St} {a:Act} {x:Operand} {v:AV} (h:Sees st x v) (hs:SR S B g w st a):RA g w v (a.eval x):=by
 cases h with
 | glob k _ h =>
  obtain⟨u,hv,hr⟩:=h.get hs
  rw[Q8t] at hv
  cases hv
  exact hr
 | tmp t _ ht h =>
  obtain⟨u,hv,hr⟩:=h.get hs
  rw[Q3r ht] at hv
  have:a.eval (.tmp t)=u:=by
   show a.tmps.getD t undef=u
   obtain⟨hlt,rfl⟩:=Array.getElem?_eq_some_iff.1 hv
   simp[Array.getD,hlt]
  rw[this]; exact hr
 | const _ _ h=>exact .d _ _ (h _ _)
 | func f=>exact .clo f [] #[] rfl (by simp)
def Qm (dst:Option Tmp) (x:AV) (env:List (Nat×AV)):List (Nat×AV) :=
 match dst with
 | some d=>(d,x) :: env
 | none=>env
def dstOk (N:Nat):Option Tmp→Bool
 | some d=>decide (d < N) && decide (d < GB)
 | none=>true
def Q1t (F:List Nat) (env:List (Nat×AV)):Bool:=F.isEmpty || env.all fun p=>Q15 F p.2
theorem Qn {α:Type} {l:List (Nat×α)} {k:Nat} {x:α} (h:l.lookup k=some x):(k,x) ∈ l:=by
 induction l with
 | nil=>simp at h
 | cons p r ih =>
  obtain⟨k',y⟩:=p
  rw[List.lookup_cons] at h
  split at h
  ·rename_i he
   simp at he h
   subst he; subst h
   exact List.mem_cons_self
  ·exact List.mem_cons_of_mem _ (ih h)
theorem Q7a {F:List Nat} {env:List (Nat×AV)} (h:Q1t F env=true) {t:Nat} {x:AV} (hx:env.lookup t=some x):Free F x:=by
 unfold Q1t at h
 rw[Bool.or_eq_true] at h
 rcases h with h | h
 ·have:F = []:=by simpa using h
  subst this; exact .nil x
 ·have:=List.all_eq_true.1 h _ (Qn hx)
  exact Q3f this
theorem SR.put {S:Sig} {B:Base} {F:List Nat} {g g' : Gh} {w w' : World} {st:St} {a:Act} (h:SR S B g w st a) (ht:Trans F g w g' w') (hF:Q1t F st.env=true)
  {X' : Store} (hX:HR S.names B g' w' X') {dst:Option Tmp} (hd:dstOk S.N dst=true) {x:AV} {v:Value} (hv:RA g' w' x v) :
  SR S B g' w' ⟨Qm dst x st.env,X'⟩ (a.put dst v):=by
 cases dst with
 | none =>
  refine⟨h.defers,h.size,hX,?_⟩
  intro t y hy
  obtain⟨u,hu,hr⟩:=h.env t y hy
  exact⟨u,hu,hr.mono ht (Q7a hF hy)⟩
 | some d =>
  have hdlt:d < S.N∧d < GB:=by simpa[dstOk] using hd
  refine⟨h.defers,by simp[Act.put,h.size],hX,?_⟩
  intro t y hy
  simp only[Qm,List.lookup_cons] at hy
  by_cases he:t=d
  ·subst he
   simp at hy
   subst hy
   exact⟨v,Qd0 (h.size▸hdlt.1) hdlt.2,hv⟩
  ·have hb:(t == d)=false:=by simpa using he
   rw[hb] at hy
   obtain⟨u,hu,hr⟩:=h.env t y hy
   exact⟨u,(Qfx he).trans hu,hr.mono ht (Q7a hF hy)⟩
inductive Guard (ops:Array Oper) (st:St):Option (Nat×Bool)→Bool→Prop
 | none:Guard ops st none true
 | some (j d:Nat) (o:Oper) (want b:Bool):ops[j]? = some o→o.dst=some d→st.env.lookup d=some (.d (.sc (.bool b)))→Guard ops st (some (j,want)) (b == want)
 | undef (j d:Nat) (o:Oper) (want:Bool):ops[j]? = some o→o.dst=some d→st.env.lookup d=some (.d (.sc Go.undef))→Guard ops st (some (j,want)) false
theorem Guard.wanted {S:Sig} {B:Base} {g:Gh} {w:World} {ops:Array Oper} {st:St} {a:Act} {o:Oper} {b:Bool} (h:Guard ops st o.guard b) (hs:SR S B g w st a) :
  Region.wanted o (yielded ops a.tmps)=b:=by
 unfold Region.wanted
 generalize o.guard=og at h
 cases h with
 | none=>rfl
 | some j d o want b ho hd hl =>
  obtain⟨v,hv,hr⟩:=hs.env d _ hl
  cases hr with
  | d _ _ hr =>
   cases hr
   unfold slotV at hv
   split at hv
   ·simp only[yielded,ho,Option.bind_some,hd,hv]
    cases b <;> cases want <;> rfl
   ·cases hv
 | undef j d o want ho hd hl =>
  obtain⟨v,hv,hr⟩:=hs.env d _ hl
  cases hr with
  | d _ _ hr =>
   cases hr
   unfold slotV at hv
   split at hv
   ·simp only[yielded,ho,Option.bind_some,hd,hv]
    rfl
   ·cases hv
inductive Chain (P:Program) (S:Sig) (ops:Array Oper):List Nat→St→St→Prop
 | nil (st:St):Chain P S ops [] st st
 | op {i:Nat} {rest:List Nat} {o:Oper} {st st' : St} {rd:List (Operand×AV)} {X' : Store} {F:List Nat} {res:AV} :
   ops[i]? = some o→Guard ops st o.guard true→(∀p ∈ rd,Sees st p.1 p.2)→OpT P o rd st.X X' F res→Q1t F st.env=true →
   dstOk S.N o.dst=true→Chain P S ops rest ⟨Qm o.dst res st.env,X'⟩ st'→Chain P S ops (i :: rest) st st'
 | skip {i:Nat} {rest:List Nat} {o:Oper} {st st' : St} :
   ops[i]? = some o→Guard ops st o.guard false→dstOk S.N o.dst=true →
   Chain P S ops rest ⟨Qm o.dst (.d (.sc undef)) st.env,st.X⟩ st'→Chain P S ops (i :: rest) st st'
def AWp (P:Program) (S:Sig) (c:Code) (Q:Exit→St→Prop) (st:St):Prop :=
 ∀B g w a,SR S B g w st a→c.wp P (fun e a' w'=>∃st' g',Q e st'∧SR S B g' w' st' a') a w
section rules
variable {P:Program} {S:Sig} {Q:Exit→St→Prop} {st:St}
theorem Qht (h:Q .normal st):AWp P S .skip Q st:=fun _ g _ _ hs=>wp_skip ⟨st,g,h,hs⟩
theorem Qek {l:Nat} (h:Q .normal st):AWp P S (.label l) Q st:=fun _ g _ _ hs=>wp_label ⟨st,g,h,hs⟩
theorem Qi5 {id:Nat} (h:Q (.exit id) st):AWp P S (.exit id) Q st:=fun _ g _ _ hs=>wp_exit ⟨st,g,h,hs⟩
theorem Qlg (h:Q .ret st):AWp P S .ret Q st:=fun _ g _ _ hs=>wp_ret ⟨st,g,h,hs⟩
def thenQ (next:St→Prop) (Q:Exit→St→Prop):Exit→St→Prop
 | .normal,st=>next st
 | e,st=>Q e st
theorem Q1i {c:Code} {Q' : Exit→St→Prop} (h:AWp P S c Q st) (hq:∀e st,Q e st→Q' e st):AWp P S c Q' st:=fun B g w a hs =>
 wp_mono (h B g w a hs) fun _ _ _ ⟨st',g',q,s⟩=>⟨st',g',hq _ _ q,s⟩
theorem Q7l {x y:Code} (h:AWp P S x (thenQ (AWp P S y Q) Q) st):AWp P S (.seq x y) Q st:=fun B g w a hs=>by
 refine wp_seq (wp_mono (h B g w a hs) ?_)
 rintro e a' w' ⟨st',g',q,s⟩
 cases e with
 | normal=>exact q B g' w' a' s
 | _=>exact⟨st',g',q,s⟩
theorem Qcc {c:Operand} {x y:Code} {b:Bool} (hc:Sees st c (.d (.sc (.bool b)))) (ht:b=true→AWp P S x Q st) (hf:b=false→AWp P S y Q st) :
  AWp P S (.cond c x y) Q st:=fun B g w a hs=>by
 have hr:=hc.ra hs
 have he:a.eval c = .bool b:=by
  generalize a.eval c=u at hr
  cases hr with
  | d _ _ h=>cases h; rfl
 exact wp_cond_split he (fun h=>ht h B g w a hs) (fun h=>hf h B g w a hs)
def Qft (id:Nat) (Q:Exit→St→Prop):Exit→St→Prop
 | .exit id',st=>if id' = id then Q .normal st else Q (.exit id') st
 | e,st=>Q e st
theorem Qad {id:Nat} {c:Code} (h:AWp P S c (Qft id Q) st):AWp P S (.block id c) Q st:=fun B g w a hs=>by
 refine wp_block (wp_mono (h B g w a hs) ?_)
 rintro e a' w' ⟨st',g',q,s⟩
 cases e with
 | exit id' =>
  simp only[Qft] at q
  simp only[Exit.inBlock]
  split at q
  ·rw[if_pos ‹_›]; exact⟨st',g',q,s⟩
  ·rw[if_neg ‹_›]; exact⟨st',g',q,s⟩
 | _=>exact⟨st',g',q,s⟩
theorem Qia {c:Code} (I:Nat→St→Prop) (n:Nat) (h0:I n st)
  (round:∀n st,I n st→AWp P S c (thenQ (fun st'=>∃m,m < n∧I m st') Q) st):AWp P S (.loop c) Q st:=fun B g w a hs=>by
 refine wp_loop (P:=P) (fun a w=>∃n g st,I n st∧SR S B g w st a) (fun a w=>Classical.epsilon fun n=>(∃g st,I n st∧SR S B g w st a)∧∀m,(∃g st,I m st∧SR S B g w st a)→n≤m) ⟨n,g,st,h0,hs⟩ ?_
 have least:∀(p:Nat→Prop),(∃n,p n)→∃n,p n∧∀m,p m→n≤m:=by
  intro p ⟨n,hn⟩
  induction n using Nat.strongRecOn with
  | _ n ih =>
   by_cases hm:∃m,m < n∧p m
   ·obtain⟨m,hlt,hp⟩:=hm
    exact ih m hlt hp
   ·refine⟨n,hn,fun m hp=>?_⟩
    rcases Nat.lt_or_ge m n with hlt | hge
    ·exact(hm ⟨m,hlt,hp⟩).elim
    ·exact hge
 intro a w hI
 have hI' : ∃n,(∃g st,I n st∧SR S B g w st a):=by
  obtain⟨n,g,st,h⟩:=hI; exact⟨n,g,st,h⟩
 have hmin:=Classical.epsilon_spec (least _ hI')
 generalize hN:(Classical.epsilon fun n=>(∃g st,I n st∧SR S B g w st a)∧∀m,(∃g st,I m st∧SR S B g w st a)→n≤m)=N at hmin
 obtain⟨⟨g₁,st₁,hi,hs₁⟩,_⟩:=hmin
 refine wp_mono (round N st₁ hi B g₁ w a hs₁) ?_
 rintro e a' w' ⟨st',g',q,s⟩
 cases e with
 | normal =>
  obtain⟨m,hlt,hm⟩:=q
  refine⟨⟨m,g',st',hm,s⟩,?_⟩
  have hI'' : ∃n,(∃g st,I n st∧SR S B g w' st a'):=⟨m,g',st',hm,s⟩
  have hmin':=Classical.epsilon_spec (least _ hI'')
  exact Nat.lt_of_le_of_lt (hmin'.2 m ⟨g',st',hm,s⟩) hlt
 | _=>exact⟨st',g',q,s⟩
structure Weak (nm:List Nat) (st st' : St):Prop where
 env:∀p ∈ st'.env,Has st.env p.1 p.2
 objs:∀p ∈ st'.X.objs,st.X.objs.lookup p.1=some p.2
 live:∀n ∈ st'.X.live,n ∈ st.X.live
 keep:∀k ∈ nm,(st'.X.objs.lookup k).isSome
theorem SR.weaken' {B:Base} {st' : St} {g:Gh} {w:World} {a:Act} (h:SR S B g w st a) (hw:Weak S.names st st'):∃g',Trans [] g w g' w∧SR S B g' w st' a:=by
 classical
 let g' : Gh:={ g with β:=fun n=>if n ∈ st'.X.live then g.β n else none }
 have ht:Trans [] g w g' w:=by
  refine⟨.refl _ _,fun _ _=>rfl,fun n ob _ he=>?_,fun _ _ _=>⟨rfl,fun _ _ _=>⟨rfl,rfl⟩⟩⟩
  simp only[g'] at he
  split at he
  ·exact⟨he,fun _ _=>⟨rfl,rfl⟩⟩
  ·cases he
 have hβ:∀n ob,g'.β n=some ob→g.β n=some ob:=fun n ob he=>(ht.tips n ob (by simp) he).1
 refine⟨g',ht,h.defers,h.size,?_,?_⟩
 ·have hr:=h.hr
  have hl:∀k o,st'.X.objs.lookup k=some o→st.X.objs.lookup k=some o:=fun k o hk=>hw.objs _ (Qn hk)
  refine⟨?_,hr.sane,hr.base,hr.io,hr.le,hr.frame,?_,?_,?_,?_,?_,?_,?_,?_,?_,hr.eta.step (fun L hL=>.inl ⟨?_,rfl⟩) (Nat.le_refl _) (fun n b hb=>.inl ⟨n,hβ n _ hb⟩) fun k o hk=>.inl ⟨k,o,hl k o hk,rfl⟩⟩
  rotate_right
  ·obtain⟨ob,hob⟩:=Option.isSome_iff_exists.1 hL
   rw[hβ L ob hob]; rfl
  ·intro k hk; exact⟨(hr.keep k hk).1,hw.keep k hk⟩
  ·intro k o hk
   have:=hr.objs k o (hl k o hk)
   cases this with
   | cells cs ty arr T h1 h2 h3 h4=>exact .cells cs ty arr T h1 h2 (fun i x v hx hv=>(h3 i x v hx hv).mono ht (.nil x)) h4
   | map l clock es h1 h2 h3 h4 h5=>exact .map l clock es h1 h2 h3 h4 h5
   | sit s pos h1=>exact .sit s pos h1
   | mit j since seen last h1=>exact .mit j since seen last h1
   | mitn h1=>exact .mitn h1
   | mapt L sz l clock es h1 h2 h3 h4 h5 =>
    have h3' : ∀(i:Nat) x e,l[i]? = some x→es[i]? = some e→e.born=x.1∧e.key=x.2.1∧RD g'.γ w (.sl sz x.2.2.2) e.val∧(x.2.2.1=true→(g'.β L).isSome→TipE g' w L x.1 sz e.val):=by
     intro i x e hx he
     obtain⟨a1,a2,a3,a4⟩:=h3 i x e hx he
     refine⟨a1,a2,a3,fun hf hL=>?_⟩
     obtain⟨ob,hob⟩:=Option.isSome_iff_exists.1 hL
     exact a4 hf (by rw[hβ L ob hob]; rfl)
    exact .mapt L sz l clock es h1 h2 h3' h4 h5
  ·intro k o hk; exact hr.objγ k o (hl k o hk)
  ·intro k k' o o' hk hk' he; exact hr.objinj k k' o o' (hl k o hk) (hl k' o' hk') he
  ·intro k o hk; exact hr.objnew k o (hl k o hk)
  ·intro n
   simp only[g']
   by_cases hn:n ∈ st'.X.live
   ·simp only[hn,if_true,true_iff]; exact(hr.live n).1 (hw.live n hn)
   ·simp[hn]
  ·intro n m b hn hm; exact hr.tipinj n m b (hβ n _ hn) (hβ m _ hm)
  ·intro n b k o hn hk; exact hr.tipobj n b k o (hβ n _ hn) (hl k o hk)
  ·intro n b hn; exact hr.tipnew n b (hβ n _ hn)
  ·intro n b hn; exact hr.tiplt n b (hβ n _ hn)
 ·intro t x hx
  obtain⟨v,hv,hr⟩:=(hw.env _ (Qn hx)).get h
  exact⟨v,hv,hr.mono ht (.nil x)⟩
end rules
end Go.Ab
namespace Go.Ab
def aggD:TypeDesc→Bool
 | .struct _=>true
 | .array _ _=>true
 | _=>false
structure TyI (P:Program) (t:TypeId) (agg:Bool) (sz:Nat):Prop where
 und:∃d,P.underlying t=some d∧aggD d=agg
 info:∃i,P.info? t=some i∧i.size=sz
theorem Qaa {P:Program} {t:TypeId} {agg:Bool} {sz:Nat} (h:TyI P t agg sz) (w:World):(isAgg t).run P w = .ok agg w:=by
 obtain⟨d,hd,ha⟩:=h.und
 unfold isAgg
 rw[Sem.run_bind,run_underlying hd]
 subst ha
 cases d <;> rfl
theorem run_sizeOf {P:Program} {t:TypeId} {i:TypeInfo} (h:P.info? t=some i) (w:World):(sizeOf t).run P w = .ok i.size w:=by
 simp[sizeOf,typeInfo,h]
theorem TyI.run_size {P:Program} {t:TypeId} {agg:Bool} {sz:Nat} (h:TyI P t agg sz) (w:World):(sizeOf t).run P w = .ok sz w:=by
 obtain⟨i,hi,rfl⟩:=h.info
 exact run_sizeOf hi w
theorem addr_add (b off i:Nat):(⟨b,off,none⟩:Addr).add i=⟨b,off+i,none⟩:=by
 unfold Addr.add; split
 ·rename_i h; subst h; rfl
 ·rfl
theorem Q34 {P:Program} {t:TypeId} {agg:Bool} {sz:Nat} (h:TyI P t agg sz) (w:World) (b off:Nat) (vs:Array Value) (hl:vs.size=sz)
  (hc:∀(i:Nat) v,vs[i]? = some v→w.cell? ⟨b,off+i,none⟩=some v) (h1:agg=false→sz=1) :
  (loadVar t ⟨b,off,none⟩).run P w = .ok (if agg then .agg vs else vs.getD 0 undef) w:=by
 unfold loadVar
 rw[Sem.run_bind,Qaa h,Result.andThen_ok]
 cases agg with
 | true =>
  have:=run_loadCells_list (P:=P) w ⟨b,off,none⟩ vs.toList (by
   intro j v hj
   rw[addr_add]
   exact hc j v (by simpa using hj))
  simp only[if_true,Sem.run_bind,h.run_size,Result.andThen_ok]
  rw[← hl,← Array.length_toList,this]
  simp
 | false =>
  have h1:=h1 rfl
  have h0:0 < vs.size:=by omega
  have hc0:=hc 0 vs[0] (by simp[h0])
  simp only[Bool.false_eq_true,if_false,run_load]
  rw[Nat.add_zero] at hc0
  rw[hc0]
  simp[Array.getD,h0]
def allD:List AV→Option (List D)
 | []=>some []
 | .d x :: r=>(allD r).map (x :: ·)
 | _ :: _=>none
def Q5s (cs:List AV):AV :=
 match allD cs with
 | some ds=>.d (.agg ds)
 | none=>.agg cs
theorem Qy1 {cs:List AV} {ds:List D} (h:allD cs=some ds):cs=ds.map .d:=by
 induction cs generalizing ds with
 | nil=>simp[allD] at h; subst h; rfl
 | cons x r ih =>
  cases x with
  | d x =>
   simp only[allD,Option.map_eq_some_iff] at h
   obtain⟨l,hl,rfl⟩:=h
   rw[ih hl]; rfl
  | _=>simp[allD] at h
theorem RA.join {g:Gh} {w:World} {cs:List AV} {vs:Array Value} (hl:cs.length=vs.size)
  (h:∀(i:Nat) x v,cs[i]? = some x→vs[i]? = some v→RA g w x v):RA g w (Q5s cs) (.agg vs):=by
 unfold Q5s
 split
 ·rename_i ds hd
  have:=Qy1 hd
  subst this
  refine .d _ _ (.agg ds vs (by simpa using hl) fun i c v hc hv=>?_)
  have:=h i (.d c) v (by simp[hc]) hv
  cases this with
  | d _ _ h=>exact h
 ·exact .agg cs vs hl h
inductive Loads (P:Program) (X:Store) (t:TypeId) (k off:Nat):AV→Prop
 | agg (sz:Nat) (cs:List AV) (ty:Option TypeId) (x:AV):TyI P t true sz→X.objs.lookup k=some (.cells cs ty)→off+sz≤cs.length→Q5s ((cs.drop off).take sz)=x→Loads P X t k off x
 | one (cs:List AV) (ty:Option TypeId) (x:AV):TyI P t false 1→X.objs.lookup k=some (.cells cs ty)→cs[off]? = some x→Loads P X t k off x
theorem cell?_cells {w:World} {b:Nat} {arr:Array Value} {T:TypeId} {fr:Nat×Nat} (h:w.heap[b]? = some (.cells arr T fr)) (i:Nat) :
  w.cell? ⟨b,i,none⟩=arr[i]?:=by simp[World.cell?,h]
theorem Loads.run {P:Program} {nm:List Nat} {B:Base} {g:Gh} {w:World} {X:Store} {t:TypeId} {k off:Nat} {x:AV} (h:Loads P X t k off x) (hr:HR nm B g w X) :
  ∃v,(loadVar t ⟨g.ρ k,off,none⟩).run P w = .ok v w∧RA g w x v:=by
 cases h with
 | agg sz cs ty x ht hk hlen hx =>
  subst hx
  cases hr.objs k _ hk with
  | cells _ _ arr T hb hl hc _ =>
   refine⟨.agg (arr.extract off (off+sz)),?_,?_⟩
   ·have:=Q34 ht w (g.ρ k) off (arr.extract off (off+sz)) (by simp; omega) (by
     intro i v hv
     rw[cell?_cells hb]
     rw[Array.getElem?_extract] at hv
     split at hv
     ·exact hv
     ·cases hv) (by simp)
    simpa using this
   ·refine RA.join (by simp; omega) ?_
    intro i x v hx hv
    rw[Array.getElem?_extract] at hv
    split at hv
    ·rw[List.getElem?_take] at hx
     split at hx
     ·rw[List.getElem?_drop] at hx
      exact hc _ x v hx hv
     ·cases hx
    ·cases hv
 | one cs ty x ht hk hx =>
  cases hr.objs k _ hk with
  | cells _ _ arr T hb hl hc _ =>
   have hlt:off < arr.size:=by have:=(List.getElem?_eq_some_iff.1 hx).1; omega
   refine⟨arr[off],?_,hc off x _ hx (by simp[hlt])⟩
   have:=Q34 ht w (g.ρ k) off #[arr[off]] rfl (by
    intro i v hv
    cases i with
    | zero=>simp at hv; subst hv; rw[Nat.add_zero,cell?_cells hb]; simp[hlt]
    | succ i=>simp at hv) (fun _=>rfl)
   simpa using this
inductive RV (P:Program) (st:St):ResultVar→AV→Prop
 | tmp (t:Nat) (x:AV):t < GB→Has st.env t x→RV P st (.tmp t) x
 | cell (a:Nat) (ty:TypeId) (k off:Nat) (x:AV):a < GB→Has st.env a (.ptr k off)→Loads P st.X ty k off x→RV P st (.cell a ty) x
inductive RVs (P:Program) (st:St):List ResultVar→List AV→Prop
 | nil:RVs P st [] []
 | cons (r:ResultVar) (x:AV) (rs:List ResultVar) (xs:List AV):RV P st r x→RVs P st rs xs→RVs P st (r :: rs) (x :: xs)
def Q9m:List AV→AV
 | [x]=>x
 | l=>.tup l
def Qej (tmps:Array Value) (r:ResultVar):Sem Value :=
 match r with
 | .tmp t=>pure (tmps.getD t undef)
 | .cell c t=>do loadVar t (← asAddr (tmps.getD c undef))
theorem Qtx (fn:Func) (tmps:Array Value):results fn tmps=(do
  let vs ← fn.results.mapM (Qej tmps)
  pure (if h:vs.size=1 then vs[0] else .tuple vs)):=by
 unfold results
 congr 1
theorem RV.run {P:Program} {S:Sig} {B:Base} {g:Gh} {w:World} {st:St} {a:Act} {r:ResultVar} {x:AV} (h:RV P st r x) (hs:SR S B g w st a) :
  ∃v,(Qej a.tmps r).run P w = .ok v w∧RA g w x v:=by
 cases h with
 | tmp t _ ht h =>
  have:=(Sees.tmp t _ ht h).ra hs
  exact⟨_,rfl,this⟩
 | cell c ty k off _ ht h hl =>
  have:=(Sees.tmp c _ ht h).ra hs
  have he:a.tmps.getD c undef = .pointer (some ⟨g.ρ k,off,none⟩):=by
   have h1:a.eval (.tmp c)=a.tmps.getD c undef:=rfl
   rw[h1] at this
   exact this.ptr_inv
  obtain⟨v,hv,hra⟩:=hl.run hs.hr
  refine⟨v,?_,hra⟩
  simp only[Qej,he,asAddr]
  simp[hv]
theorem RVs.run {P:Program} {S:Sig} {B:Base} {g:Gh} {w:World} {st:St} {a:Act} {rs:List ResultVar} {xs:List AV} (h:RVs P st rs xs) (hs:SR S B g w st a) :
  ∃vs:List Value,(rs.mapM (Qej a.tmps)).run P w = .ok vs w ∧
   xs.length=vs.length∧∀(i:Nat) x v,xs[i]? = some x→vs[i]? = some v→RA g w x v:=by
 induction h with
 | nil=>exact⟨[],rfl,rfl,by simp⟩
 | cons r x rs xs h _ ih =>
  obtain⟨v,hv,hx⟩:=h.run hs
  obtain⟨vs,hvs,hl,hxs⟩:=ih
  refine⟨v :: vs,?_,by simp[hl],?_⟩
  ·rw[List.mapM_cons,Sem.run_bind,hv,Result.andThen_ok,Sem.run_bind,hvs,Result.andThen_ok]
   rfl
  ·intro i y u hy hu
   cases i with
   | zero=>simp at hy hu; subst hy; subst hu; exact hx
   | succ i=>exact hxs i y u (by simpa using hy) (by simpa using hu)
theorem Q3v {P:Program} {S:Sig} {B:Base} {g:Gh} {w:World} {st:St} {a:Act} {fn:Func} {xs:List AV} (h:RVs P st fn.results.toList xs) (hs:SR S B g w st a) :
  ∃v,(results fn a.tmps).run P w = .ok v w∧RA g w (Q9m xs) v:=by
 obtain⟨vs,hvs,hl,hxs⟩:=h.run hs
 have hm:(fn.results.mapM (Qej a.tmps)).run P w = .ok vs.toArray w:=by
  rw[Array.mapM_eq_mapM_toList,Sem.run_map,hvs]
  rfl
 refine⟨if h:vs.toArray.size=1 then vs.toArray[0] else .tuple vs.toArray,?_,?_⟩
 ·rw[Qtx,Sem.run_bind,hm]
  rfl
 ·cases vs with
  | nil =>
   cases xs with
   | nil=>exact .tup [] #[] rfl (by simp)
   | cons _ _=>simp at hl
  | cons v0 vs =>
   cases xs with
   | nil=>simp at hl
   | cons x0 xs =>
    cases vs with
    | nil =>
     cases xs with
     | nil=>exact hxs 0 x0 v0 rfl rfl
     | cons _ _=>simp at hl
    | cons v1 vs =>
     cases xs with
     | nil=>simp at hl
     | cons x1 xs =>
      have : ¬((v0 :: v1 :: vs).toArray.size=1):=by simp
      rw[dif_neg this]
      exact .tup _ _ (by simpa using hl) (by intro i x v hx hv; exact hxs i x v hx (by simpa using hv))
def Base.of (g:Gh) (w:World) (X:Store):Base :=
 {n0:=w.heap.size,w0:=w,γ0:=g.γ,allowed:=fun b=>(∃k o,X.objs.lookup k=some o∧g.ρ k=b)∨∃n,g.β n=some (some b),keep:=g.ρ }
def Does (P:Program) (f:FuncId) (args:List AV) (X:Store) (res:AV) (X' : Store):Prop :=
 ∀(g:Gh) (w:World) (vs:Array Value),HR (X.objs.map (·.1)) (Base.of g w X) g w X→args.length=vs.size →
  (∀(i:Nat) x v,args[i]? = some x→vs[i]? = some v→RA g w x v) →
  Calls P f vs w fun e w'=>∃g' v,e = .returned v∧RA g' w' res v∧HR (X.objs.map (·.1)) (Base.of g w X) g' w' X'
def X0:Store:=⟨[],[]⟩
def envOf:Nat→List AV→List (Nat×AV)
 | _,[]=>[]
 | n,x :: r=>(n,x) :: envOf (n+1) r
theorem Q46 {l:List AV}:∀ {n t:Nat} {x:AV},(envOf n l).lookup t=some x→n≤t∧l[t - n]? = some x:=by
 induction l with
 | nil=>intro n t x h; simp[envOf] at h
 | cons y r ih =>
  intro n t x h
  simp only[envOf,List.lookup_cons] at h
  split at h
  ·rename_i he
   simp at he h
   subst he; subst h
   simp
  ·have ⟨h1,h2⟩:=ih h
   refine⟨by omega,?_⟩
   rw[show t - n=(t - (n+1))+1 by omega]
   simpa using h2
inductive RetQ (P:Program) (nm:List Nat) (fn:Func) (res:AV) (X' : Store):Exit→St→Prop
 | ret (st:St) (xs:List AV):RVs P st fn.results.toList xs→Q9m xs=res→Weak nm st ⟨[],X'⟩→RetQ P nm fn res X' .ret st
 | normal (st:St) (xs:List AV):RVs P st fn.results.toList xs→Q9m xs=res→Weak nm st ⟨[],X'⟩→RetQ P nm fn res X' .normal st
theorem Free.all (x:AV) (F:List Nat) (h:F = []):Free F x:=by subst h; exact .nil x
end Go.Ab
namespace Go.Ab
section
variable {P:Program} {o:Oper} {X:Store}
theorem rd0 {R:Operand×AV→Prop} {x:Operand×AV} {r:List (Operand×AV)} (h:∀p ∈ x :: r,R p):R x:=h _ List.mem_cons_self
theorem rd1 {R:Operand×AV→Prop} {x y:Operand×AV} {r:List (Operand×AV)} (h:∀p ∈ x :: y :: r,R p):R y:=h _ (List.mem_cons_of_mem _ List.mem_cons_self)
theorem rd2 {R:Operand×AV→Prop} {x y z:Operand×AV} {r:List (Operand×AV)} (h:∀p ∈ x :: y :: z :: r,R p):R z:=h _ (List.mem_cons_of_mem _ (List.mem_cons_of_mem _ List.mem_cons_self))
theorem OpT.quiet {rd:List (Operand×AV)} {res:AV}
  (h:∀(nm:List Nat) (B:Base) (g:Gh) (w:World) (a:Act),HR nm B g w X→(∀p ∈ rd,RA g w p.2 (a.eval p.1)) →
   ∃v,(execOp a.eval o).run P w = .ok (.value v) w∧RA g w res v):OpT P o rd X X [] res:=by
 intro nm hsm B g w a hr hrd next Q hn
 obtain⟨v,hv,hra⟩:=h nm B g w a hr hrd
 unfold Oper.wp
 rw[hv]
 exact hn g w v hr (.refl _ _ _) hra
theorem RA.sc_inv {g:Gh} {w:World} {u v:Value} (h:RA g w (.d (.sc u)) v):v=u:=by
 cases h with
 | d _ _ h=>cases h; rfl
theorem RA.ofSc (g:Gh) (w:World) (v:Value):RA g w (.d (.sc v)) v:=.d _ _ (.sc v)
theorem Qyo {x:Operand} {v:AV} (ho:o.op = .move x):OpT P o [(x,v)] X X [] v :=
 .quiet fun _ _ _ w a _ hrd=>⟨a.eval x,by simp[execOp,ho],rd0 hrd⟩
theorem Qx0 {x:Operand} {v:AV} (ho:o.op = .assign x):OpT P o [(x,v)] X X [] v :=
 .quiet fun _ _ _ w a _ hrd=>⟨a.eval x,by simp[execOp,ho],rd0 hrd⟩
theorem Qpv {c x y:Operand} {u:AV} (ho:o.op = .pick c x y):OpT P o [(c,.d (.sc (.bool true))),(x,u)] X X [] u :=
 .quiet fun _ _ g w a _ hrd=>by
  have h1:=(rd0 hrd).sc_inv
  have h2:=rd1 hrd
  exact⟨a.eval x,by simp[execOp,ho,h1,asBool],h2⟩
theorem Qnt {c x y:Operand} {v:AV} (ho:o.op = .pick c x y):OpT P o [(c,.d (.sc (.bool false))),(y,v)] X X [] v :=
 .quiet fun _ _ g w a _ hrd=>by
  have h1:=(rd0 hrd).sc_inv
  have h3:=rd1 hrd
  exact⟨a.eval y,by simp[execOp,ho,h1,asBool],h3⟩
def Qfj:BinOp→IntKind→Int→Int→Option Value
 | .add,k,a,b=>some (.int k (k.wrap (a+b)))
 | .sub,k,a,b=>some (.int k (k.wrap (a - b)))
 | .mul,k,a,b=>some (.int k (k.wrap (a*b)))
 | .eql,_,a,b=>some (.bool (a == b))
 | .neq,_,a,b=>some (.bool (a != b))
 | .lss,_,a,b=>some (.bool (decide (a < b)))
 | .leq,_,a,b=>some (.bool (decide (a≤b)))
 | .gtr,_,a,b=>some (.bool (decide (b < a)))
 | .geq,_,a,b=>some (.bool (decide (b≤a)))
 | .and,k,a,b=>some (.int k (bits .and k a b))
 | .or,k,a,b=>some (.int k (bits .or k a b))
 | .xor,k,a,b=>some (.int k (bits .xor k a b))
 | _,_,_,_=>none
theorem Qud {op:BinOp} {k:IntKind} {a b:Int} {v:Value} (h:Qfj op k a b=some v) (t:TypeId) (x y:Operand) (w:World) :
  (do eqGuard op t x y (.int k a) (.int k b); binOp op t (.int k a) (.int k b):Sem Value).run P w = .ok v w:=by
 have hg:eqGuard op t x y (.int k a) (.int k b)=pure ():=by cases op <;> rfl
 rw[hg]
 cases op <;> simp[Qfj] at h <;> subst h <;> simp[binOp,Op.intArith,Op.intCmp,intBits_and,intBits_or,intBits_xor]
theorem Qw6 {op:BinOp} {t t' : TypeId} {x y:Operand} {k:IntKind} {a b:Int} {v:Value} (ho:o.op = .binOp op t x y t') (h:Qfj op k a b=some v) :
  OpT P o [(x,.d (.sc (.int k a))),(y,.d (.sc (.int k b)))] X X [] (.d (.sc v)) :=
 .quiet fun _ _ g w ac _ hrd=>by
  have h1:=(rd0 hrd).sc_inv
  have h2:=(rd1 hrd).sc_inv
  simp only at h1 h2
  refine⟨v,?_,.ofSc _ _ _⟩
  have:=Qud (P:=P) h t x y w
  simp only[execOp,ho,h1,h2]
  rw[Sem.run_bind,this]
  rfl
theorem Qtm {t t' : TypeId} {x y:Operand} {a b:ByteArray} (ho:o.op = .binOp .add t x y t') (h:a.size+b.size≤4611686018427387904) :
  OpT P o [(x,.d (.sc (.string a))),(y,.d (.sc (.string b)))] X X [] (.d (.sc (.string (a++b)))) :=
 .quiet fun _ _ g w ac _ hrd=>by
  have h1:=(rd0 hrd).sc_inv
  have h2:=(rd1 hrd).sc_inv
  simp only at h1 h2
  refine⟨_,?_,.ofSc _ _ _⟩
  have hg:eqGuard .add t x y (.string a) (.string b)=pure ():=rfl
  have hb : ¬(((a.size+b.size:Nat):Int) > IntKind.i64.max):=by rw[IntKind.max_i64]; omega
  simp only[execOp,ho,h1,h2,hg]
  simp only[binOp,Op.stringOp]
  rw[if_neg hb]
  rfl
theorem Qrc {t t' : TypeId} {x y:Operand} {a b:Bool} (ho:o.op = .binOp .eql t x y t') (ht:P.underlying t=some .bool) :
  OpT P o [(x,.d (.sc (.bool a))),(y,.d (.sc (.bool b)))] X X [] (.d (.sc (.bool (a == b)))) :=
 .quiet fun _ _ g w ac _ hrd=>by
  have h1:=(rd0 hrd).sc_inv
  have h2:=(rd1 hrd).sc_inv
  simp only at h1 h2
  refine⟨_,?_,.ofSc _ _ _⟩
  have hg:eqGuard .eql t x y (.bool a) (.bool b)=pure ():=rfl
  simp only[execOp,ho,h1,h2,hg]
  simp[run_eql_bool w t a b ht]
theorem Qr0 {t t' : TypeId} {x y:Operand} {a b:Bool} (ho:o.op = .binOp .neq t x y t') (ht:P.underlying t=some .bool) :
  OpT P o [(x,.d (.sc (.bool a))),(y,.d (.sc (.bool b)))] X X [] (.d (.sc (.bool (!(a == b))))) :=
 .quiet fun _ _ g w ac _ hrd=>by
  have h1:=(rd0 hrd).sc_inv
  have h2:=(rd1 hrd).sc_inv
  simp only at h1 h2
  refine⟨_,?_,.ofSc _ _ _⟩
  have hg:eqGuard .neq t x y (.bool a) (.bool b)=pure ():=rfl
  simp only[execOp,ho,h1,h2,hg]
  simp[run_neq_bool w t a b ht]
theorem Q106 {t:TypeId} {x:Operand} {b:Bool} (ho:o.op = .unOp .not t x):OpT P o [(x,.d (.sc (.bool b)))] X X [] (.d (.sc (.bool (!b)))) :=
 .quiet fun _ _ g w ac _ hrd=>by
  have h1:=(rd0 hrd).sc_inv
  simp only at h1
  exact⟨.bool (!b),by simp[execOp,ho,h1,Op.unary],.ofSc _ _ _⟩
theorem Qgt {s d:TypeId} {x:Operand} {j k:IntKind} {n:Int} (ho:o.op = .convert s d x) (hs:(P.underlying s).isSome=true) (hd:P.underlying d=some (.int k)) :
  OpT P o [(x,.d (.sc (.int j n)))] X X [] (.d (.sc (.int k (k.wrap n)))) :=
 .quiet fun _ _ g w ac _ hrd=>by
  have h1:=(rd0 hrd).sc_inv
  simp only at h1
  refine⟨_,?_,.ofSc _ _ _⟩
  obtain⟨ds,hds⟩:=Option.isSome_iff_exists.1 hs
  simp only[execOp,ho,h1,convert]
  simp only[Sem.run_bind,run_underlying hds,run_underlying hd,Result.andThen_ok]
  cases ds <;> simp[Conv.intToInt]
theorem Qeg {ts:Array TypeId} {t:TypeId} {x:Operand} {sz:Nat} {es:List (List D)} {e:TypeId} (ho:o.op = .call { callee:=.builtin .len,args:=#[x],argTypes:=ts })
  (h0:ts[0]? = some t) (ht:P.underlying t=some (.slice e)):OpT P o [(x,.d (.sl sz es))] X X [] (.d (.sc (.int .i64 es.length))) :=
 .quiet fun _ _ g w ac _ hrd=>by
  have h1:=rd0 hrd
  simp only at h1
  refine⟨.int .i64 es.length,?_,.ofSc _ _ _⟩
  simp only[execOp,ho,resolve]
  generalize hu:ac.eval x=u at h1
  cases h1 with
  | d _ _ h1 =>
   cases h1 with
   | nil=>simp[hu,invoke,builtin,Builtin.len_,h0,run_underlying ht,goInt]
   | sl _ _ b off len cap hl=>subst hl; simp[hu,invoke,builtin,Builtin.len_,h0,run_underlying ht,goInt]
theorem Qub {ts:Array TypeId} {t:TypeId} {x:Operand} {s:ByteArray} (ho:o.op = .call { callee:=.builtin .len,args:=#[x],argTypes:=ts })
  (h0:ts[0]? = some t) (ht:P.underlying t=some .string):OpT P o [(x,.d (.sc (.string s)))] X X [] (.d (.sc (.int .i64 s.size))) :=
 .quiet fun _ _ g w ac _ hrd=>by
  have h1:=(rd0 hrd).sc_inv
  simp only at h1
  refine⟨.int .i64 s.size,?_,.ofSc _ _ _⟩
  simp only[execOp,ho,resolve]
  simp[h1,invoke,builtin,Builtin.len_,h0,run_underlying ht,goInt]
theorem Qzv {ts:Array TypeId} {x y:Operand} {k:IntKind} {a b:Int} (ho:o.op = .call { callee:=.builtin .min,args:=#[x,y],argTypes:=ts }) :
  OpT P o [(x,.d (.sc (.int k a))),(y,.d (.sc (.int k b)))] X X [] (.d (.sc (.int k (if b < a then b else a)))) :=
 .quiet fun _ _ g w ac _ hrd=>by
  have h1:=(rd0 hrd).sc_inv
  have h2:=(rd1 hrd).sc_inv
  simp only at h1 h2
  refine⟨_,?_,.ofSc _ _ _⟩
  simp only[execOp,ho,resolve]
  simp[h1,h2,invoke,builtin,Builtin.min_,Builtin.min2]
theorem Qzz {ts:Array TypeId} {x y:Operand} {k:IntKind} {a b:Int} (ho:o.op = .call { callee:=.builtin .max,args:=#[x,y],argTypes:=ts }) :
  OpT P o [(x,.d (.sc (.int k a))),(y,.d (.sc (.int k b)))] X X [] (.d (.sc (.int k (if b > a then b else a)))) :=
 .quiet fun _ _ g w ac _ hrd=>by
  have h1:=(rd0 hrd).sc_inv
  have h2:=(rd1 hrd).sc_inv
  simp only at h1 h2
  refine⟨_,?_,.ofSc _ _ _⟩
  simp only[execOp,ho,resolve]
  have:=run_max_int2 (P:=P) w ts o.type k k a b
  simp[h1,h2,invoke,builtin,this]
theorem Qta {x:Operand} {i:Nat} {l:List AV} {v:AV} (ho:o.op = .extract x i) (h:l[i]? = some v):OpT P o [(x,.tup l)] X X [] v :=
 .quiet fun _ _ g w ac _ hrd=>by
  have h1:=rd0 hrd
  simp only at h1
  simp only[execOp,ho]
  generalize ac.eval x=u at h1
  cases h1 with
  | tup _ vs hl hx =>
   have hlt:i < vs.size:=by have:=(List.getElem?_eq_some_iff.1 h).1; omega
   refine⟨vs[i],?_,hx i v _ h (by simp[hlt])⟩
   simp[Instr.extract,hlt]
theorem Qp5 {t:TypeId} {x y:Operand} {s:ByteArray} {k:IntKind} {i:Int} (ho:o.op = .index t x y) (ht:P.underlying t=some .string) (h0:0≤i) (h1:i < s.size) :
  OpT P o [(x,.d (.sc (.string s))),(y,.d (.sc (.int k i)))] X X [] (.d (.sc (.int .u8 ((s.data.toList.getD i.toNat 0).toNat:Int)))) :=
 .quiet fun _ _ g w ac _ hrd=>by
  have e1:=(rd0 hrd).sc_inv
  have e2:=(rd1 hrd).sc_inv
  simp only at e1 e2
  refine⟨_,?_,.ofSc _ _ _⟩
  have hlt:i.toNat < s.size:=by omega
  have hb:=ByteArray.getElem?_lt' s i.toNat hlt
  have he:s[i.toNat] = s.data.toList.getD i.toNat 0:=by
   have hlt' : i.toNat < s.data.size:=hlt
   rw[List.getD_eq_getElem?_getD,Array.getElem?_toList,Array.getElem?_eq_getElem hlt']
   rfl
  simp only[execOp,ho,e1,e2,Instr.index]
  simp[asIntOf,run_underlying ht,h0,hb,he]
theorem Qpb {t:TypeId} {x lo hi:Operand} {s:ByteArray} {k k' : IntKind} {l h:Int} (ho:o.op = .slice t x (some lo) (some hi) none) (ht:P.underlying t=some .string)
  (h0:0≤l) (h1:l≤h) (h2:h≤s.size) :
  OpT P o [(x,.d (.sc (.string s))),(lo,.d (.sc (.int k l))),(hi,.d (.sc (.int k' h)))] X X [] (.d (.sc (.string (s.extract l.toNat h.toNat)))) :=
 .quiet fun _ _ g w ac _ hrd=>by
  have e1:=(rd0 hrd).sc_inv
  have e2:=(rd1 hrd).sc_inv
  have e3:=(rd2 hrd).sc_inv
  simp only at e1 e2 e3
  refine⟨_,?_,.ofSc _ _ _⟩
  have g1:0≤h:=by omega
  simp only[execOp,ho,Option.map_some,Option.map_none,e1,e2,e3]
  simp[run_sliceAt_string w t _ _ _ _ ht,Instr.slice,run_underlying ht,Instr.sliceBounds,Instr.sliceBound,asIntOf,h0,h2,g1]
  intro hbad
  omega
theorem Qjb {t:TypeId} {x lo:Operand} {s:ByteArray} {k:IntKind} {l:Int} (ho:o.op = .slice t x (some lo) none none) (ht:P.underlying t=some .string)
  (h0:0≤l) (h1:l≤s.size) :
  OpT P o [(x,.d (.sc (.string s))),(lo,.d (.sc (.int k l)))] X X [] (.d (.sc (.string (s.extract l.toNat s.size)))) :=
 .quiet fun _ _ g w ac _ hrd=>by
  have e1:=(rd0 hrd).sc_inv
  have e2:=(rd1 hrd).sc_inv
  simp only at e1 e2
  refine⟨_,?_,.ofSc _ _ _⟩
  simp only[execOp,ho,Option.map_some,Option.map_none,e1,e2]
  simp[run_sliceAt_string w t _ _ _ _ ht,Instr.slice,run_underlying ht,Instr.sliceBounds,Instr.sliceBound,asIntOf,h0,h1]
theorem Qju {t:TypeId} {x hi:Operand} {s:ByteArray} {k:IntKind} {h:Int} (ho:o.op = .slice t x none (some hi) none) (ht:P.underlying t=some .string)
  (h0:0≤h) (h1:h≤s.size) :
  OpT P o [(x,.d (.sc (.string s))),(hi,.d (.sc (.int k h)))] X X [] (.d (.sc (.string (s.extract 0 h.toNat)))) :=
 .quiet fun _ _ g w ac _ hrd=>by
  have e1:=(rd0 hrd).sc_inv
  have e2:=(rd1 hrd).sc_inv
  simp only at e1 e2
  refine⟨_,?_,.ofSc _ _ _⟩
  simp only[execOp,ho,Option.map_some,Option.map_none,e1,e2]
  simp[run_sliceAt_string w t _ _ _ _ ht,Instr.slice,run_underlying ht,Instr.sliceBounds,Instr.sliceBound,asIntOf,h0,h1]
theorem Qqo {t e:TypeId} {x y:Operand} {sz:Nat} {es:List (List D)} {cs:List D} {k:IntKind} {i:Int} {info:TypeInfo} (ho:o.op = .indexAddr t x y)
  (ht:P.underlying t=some (.slice e)) (hi:P.info? e=some info) (hsz:info.size=sz) (h0:0≤i) (h1:es[i.toNat]? = some cs) :
  OpT P o [(x,.d (.sl sz es)),(y,.d (.sc (.int k i)))] X X [] (.d (.ep cs)) :=
 .quiet fun _ _ g w ac _ hrd=>by
  have e1:=rd0 hrd
  have e2:=(rd1 hrd).sc_inv
  simp only at e1 e2
  simp only[execOp,ho,e2]
  generalize ac.eval x=u at e1
  cases e1 with
  | d _ _ e1 =>
   have hlt:=(List.getElem?_eq_some_iff.1 h1).1
   cases e1 with
   | nil=>simp at hlt
   | sl _ _ b off len cap hl hγ hcap hs hc =>
    subst hl
    have hil:i < es.length:=by omega
    refine⟨.pointer (some ⟨b,off+i.toNat*sz,none⟩),?_,.d _ _ (.ep cs b _ ?_ ?_)⟩
    ·simp[Instr.indexAt,asIntOf,run_underlying ht,h0,hil,sizeOf,typeInfo,hi,hsz,addr_add]
    ·rw[hs _ _ h1]
     have:(i.toNat+1)*sz≤es.length*sz:=Nat.mul_le_mul_right sz hlt
     rw[Nat.succ_mul] at this
     omega
    ·intro j c v hj hv
     exact hc i.toNat cs j c v h1 hj (by rw[Nat.add_assoc] at hv ⊢; exact hv)
theorem Qgy {t:TypeId} {x:Operand} {sz:Nat} {cs:List D} (ho:o.op = .load t x) (ht:TyI P t true sz) (hl:sz≤cs.length) (hsane:True) :
  OpT P o [(x,.d (.ep cs))] X X [] (.d (.agg (cs.take sz))) :=
 .quiet fun _ _ g w ac hr hrd=>by
  have e1:=rd0 hrd
  simp only at e1
  simp only[execOp,ho]
  generalize ac.eval x=u at e1
  cases e1 with
  | d _ _ e1 =>
   cases e1 with
   | ep _ b off hγ hc =>
    have hex:∀i,i < sz→∃v,w.cell? ⟨b,off+i,none⟩=some v:=fun i hi=>Option.isSome_iff_exists.1 (hr.sane b (off+i) (by omega))
    let vs:Array Value:=(Array.range sz).map fun i=>(w.cell? ⟨b,off+i,none⟩).getD undef
    have hvs:∀(i:Nat) v,vs[i]? = some v→w.cell? ⟨b,off+i,none⟩=some v:=by
     intro i v hv
     have hi:i < sz:=by have:=(Array.getElem?_eq_some_iff.1 hv).1; simpa[vs] using this
     obtain⟨u,hu⟩:=hex i hi
     simp[vs,hi,hu] at hv
     rw[hu,hv]
    have hrun:=Q34 ht w b off vs (by simp[vs]) hvs (by simp)
    refine⟨.agg vs,?_,.d _ _ (.agg _ vs (by simp[vs]; omega) ?_)⟩
    ·simp only[Instr.loadAt,Instr.sureAddr]
     simp[hrun]
    ·intro i c v hi hv
     rw[List.getElem?_take] at hi
     split at hi
     ·exact hc i c v hi (hvs i v hv)
     ·cases hi
theorem Qgp {t:TypeId} {x:Operand} {c:D} {cs:List D} (ho:o.op = .load t x) (ht:TyI P t false 1) :
  OpT P o [(x,.d (.ep (c :: cs)))] X X [] (.d c) :=
 .quiet fun _ _ g w ac hr hrd=>by
  have e1:=rd0 hrd
  simp only at e1
  simp only[execOp,ho]
  generalize ac.eval x=u at e1
  cases e1 with
  | d _ _ e1 =>
   cases e1 with
   | ep _ b off hγ hc =>
    simp at hγ
    obtain⟨v,hv⟩:=Option.isSome_iff_exists.1 (hr.sane b off (by omega))
    have hrun:=Q34 ht w b off #[v] rfl (by
     intro i u hu
     cases i with
     | zero=>simp at hu; subst hu; exact hv
     | succ i=>simp at hu) (fun _=>rfl)
    refine⟨v,?_,.d _ _ (hc 0 c v rfl hv)⟩
    simp only[Instr.loadAt,Instr.sureAddr]
    simp[hrun]
theorem Q7w {t:TypeId} {x:Operand} {k off:Nat} {v:AV} (ho:o.op = .load t x) (hl:Loads P X t k off v):OpT P o [(x,.ptr k off)] X X [] v :=
 .quiet fun _ _ g w ac hr hrd=>by
  have e1:=rd0 hrd
  simp only at e1
  obtain⟨u,hu,hra⟩:=hl.run hr
  refine⟨u,?_,hra⟩
  simp only[execOp,ho]
  rw[e1.ptr_inv]
  simp only[Instr.loadAt,Instr.sureAddr]
  simp[hu]
theorem Qbn {f:Field} {i:TypeInfo} (hi:P.info? f.type=some i) (h0:i.size≠0) (b off:Nat) (w:World) :
  (fieldPlace ⟨b,off,none⟩ f).run P w = .ok ⟨b,off+f.offset,none⟩ w:=by
 simp[fieldPlace,run_sizeOf hi,h0,addr_add]
structure FieldI (P:Program) (s:TypeId) (n off sz:Nat) (agg:Bool):Prop where
 fld:∃fs f,P.underlying s=some (.struct fs)∧fs[n]? = some f∧f.offset=off∧TyI P f.type agg sz
 pos:sz≠0
theorem Q9i {s:TypeId} {x:Operand} {n fo sz:Nat} {agg:Bool} {k off:Nat} (ho:o.op = .fieldAddr s x n) (hf:FieldI P s n fo sz agg) :
  OpT P o [(x,.ptr k off)] X X [] (.ptr k (off+fo)) :=
 .quiet fun _ _ g w ac hr hrd=>by
  have e1:=rd0 hrd
  simp only at e1
  obtain⟨fs,f,hs,hn,rfl,ht⟩:=hf.fld
  obtain⟨i,hi,hsz⟩:=ht.info
  refine⟨.pointer (some ⟨g.ρ k,off+f.offset,none⟩),?_,.ptr k _⟩
  simp only[execOp,ho]
  rw[e1.ptr_inv]
  simp[Instr.fieldAt,run_underlying hs,hn,Instr.sureAddr,Qbn hi (by rw[hsz]; exact hf.pos)]
theorem Qjn {s:TypeId} {x:Operand} {n fo sz:Nat} {agg:Bool} {cs:List D} (ho:o.op = .fieldAddr s x n) (hf:FieldI P s n fo sz agg) (hl:fo≤cs.length) :
  OpT P o [(x,.d (.ep cs))] X X [] (.d (.ep (cs.drop fo))) :=
 .quiet fun _ _ g w ac hr hrd=>by
  have e1:=rd0 hrd
  simp only at e1
  obtain⟨fs,f,hs,hn,rfl,ht⟩:=hf.fld
  obtain⟨i,hi,hsz⟩:=ht.info
  simp only[execOp,ho]
  generalize ac.eval x=z at e1
  cases e1 with
  | d _ _ e1 =>
   cases e1 with
   | ep _ b off hγ hc =>
    refine⟨.pointer (some ⟨b,off+f.offset,none⟩),?_,.d _ _ (.ep _ b _ ?_ ?_)⟩
    ·simp[Instr.fieldAt,run_underlying hs,hn,Instr.sureAddr,Qbn hi (by rw[hsz]; exact hf.pos)]
    ·simp; omega
    ·intro j c v hj hv
     rw[List.getElem?_drop] at hj
     exact hc _ c v hj (by rw[← Nat.add_assoc]; exact hv)
theorem Qpk {s:TypeId} {x:Operand} {n fo:Nat} {cs:List D} {c:D} (ho:o.op = .field s x n) (hf:FieldI P s n fo 1 false) (hc:cs[fo]? = some c) :
  OpT P o [(x,.d (.agg cs))] X X [] (.d c) :=
 .quiet fun _ _ g w ac hr hrd=>by
  have e1:=rd0 hrd
  simp only at e1
  obtain⟨fs,f,hs,hn,rfl,ht⟩:=hf.fld
  simp only[execOp,ho]
  generalize ac.eval x=z at e1
  cases e1 with
  | d _ _ e1 =>
   cases e1 with
   | agg _ vs hl h =>
    have hlt:f.offset < vs.size:=by have:=(List.getElem?_eq_some_iff.1 hc).1; omega
    refine⟨vs[f.offset],?_,.d _ _ (h _ c _ hc (by simp[hlt]))⟩
    simp[Instr.field,run_underlying hs,hn,part,Qaa ht,asAgg,hlt]
theorem Qo0 {s:TypeId} {x:Operand} {n fo sz:Nat} {cs:List D} (ho:o.op = .field s x n) (hf:FieldI P s n fo sz true) (hl:fo+sz≤cs.length) :
  OpT P o [(x,.d (.agg cs))] X X [] (.d (.agg ((cs.drop fo).take sz))) :=
 .quiet fun _ _ g w ac hr hrd=>by
  have e1:=rd0 hrd
  simp only at e1
  obtain⟨fs,f,hs,hn,rfl,ht⟩:=hf.fld
  simp only[execOp,ho]
  generalize ac.eval x=z at e1
  cases e1 with
  | d _ _ e1 =>
   cases e1 with
   | agg _ vs hlen h =>
    refine⟨.agg (vs.extract f.offset (f.offset+sz)),?_,.d _ _ (.agg _ _ (by simp; omega) ?_)⟩
    ·simp[Instr.field,run_underlying hs,hn,part,Qaa ht,asAgg,ht.run_size]
    ·intro i c v hi hv
     rw[Array.getElem?_extract] at hv
     split at hv
     ·rw[List.getElem?_take] at hi
      split at hi
      ·rw[List.getElem?_drop] at hi
       exact h _ c v hi hv
      ·cases hi
     ·cases hv
theorem Qj7 {x:Operand} {k off:Nat} (ho:o.op = .nilCheck x):OpT P o [(x,.ptr k off)] X X [] (.ptr k off) :=
 .quiet fun _ _ g w ac hr hrd=>by
  have e1:=rd0 hrd
  simp only at e1
  simp only[execOp,ho]
  rw[e1.ptr_inv]
  exact⟨_,rfl,.ptr k off⟩
end
end Go.Ab
namespace Go.Ab
def upd {α:Type} (f:Nat→α) (k:Nat) (x:α):Nat→α:=fun j=>if j=k then x else f j
theorem upd_same {α:Type} (f:Nat→α) (k:Nat) (x:α):upd f k x k=x:=by simp[upd]
theorem Q6 {α:Type} (f:Nat→α) {k j:Nat} (x:α) (h:j≠k):upd f k x j=f j:=by simp[upd,h]
theorem Q1z (w:World) (o:Obj) {b:Nat} (h:b < w.heap.size):(w.alloc o).heap[b]? = w.heap[b]?:=heap_alloc_old w o b h
theorem γ_lt {nm:List Nat} {B:Base} {g:Gh} {w:World} {X:Store} (h:HR nm B g w X) {b:Nat} (hb:0 < g.γ b):b < w.heap.size:=by
 obtain⟨v,hv⟩:=Option.isSome_iff_exists.1 (h.sane b 0 hb)
 exact block_lt_of_cell hv
theorem γ_top {nm:List Nat} {B:Base} {g:Gh} {w:World} {X:Store} (h:HR nm B g w X) {b:Nat} (hb:w.heap.size≤b):g.γ b=0:=by
 rcases Nat.eq_zero_or_pos (g.γ b) with h0 | h0
 ·exact h0
 ·have:=γ_lt h h0; omega
theorem Q1o {g:Gh} {w:World} {b:Nat} {o:Ob} (h:ObRel g w b o):b < w.heap.size:=by
 cases h with
 | cells cs ty arr T hb=>exact(Array.getElem?_eq_some_iff.1 hb).1
 | map l clock es hb=>exact(Array.getElem?_eq_some_iff.1 hb).1
 | sit s pos hb=>exact(Array.getElem?_eq_some_iff.1 hb).1
 | mit j since seen last hb=>exact(Array.getElem?_eq_some_iff.1 hb).1
 | mitn hb=>exact(Array.getElem?_eq_some_iff.1 hb).1
 | mapt L sz l clock es hb=>exact(Array.getElem?_eq_some_iff.1 hb).1
def Q1j (F:List Nat):Ob→Bool
 | .cells cs _=>Q14 F cs
 | .map _ _=>true
 | .sit _ _=>true
 | .mit k _ _ _=>!F.contains k
 | .mitn=>true
 | .mapt L _ _ _=>!F.contains L
def Qa (F:List Nat) (X:Store):Bool:=F.isEmpty || X.objs.all fun p=>Q1j F p.2
theorem ObRel.keep {F:List Nat} {g g' : Gh} {w w' : World} {b:Nat} {o:Ob} (h:ObRel g w b o) (ht:Trans F g w g' w') (hw:w'.heap[b]? = w.heap[b]?) (hF:F = []∨Q1j F o=true):ObRel g' w' b o:=by
 cases h with
 | cells cs ty arr T hb hl hc h4 =>
  refine .cells cs ty arr T (hw.trans hb) hl (fun i x v hx hv=>(hc i x v hx hv).mono ht ?_) h4
  rcases hF with rfl | hF
  ·exact .nil x
  ·exact Q3f (Q41 hF hx)
 | map l clock es hb hl hc h4 h5 =>
  exact .map l clock es (hw.trans hb) hl (fun i x e hx he=>⟨(hc i x e hx he).1,(hc i x e hx he).2.1,(hc i x e hx he).2.2.mono ht.le⟩) h4 h5
 | sit s pos hb=>exact .sit s pos (hw.trans hb)
 | mit j since seen last hb =>
  refine .mit j since seen last (hw.trans (hb.trans ?_))
  rw[ht.names j]
  rcases hF with rfl | hF
  ·simp
  ·simpa[Q1j] using hF
 | mitn hb=>exact .mitn (hw.trans hb)
 | mapt L sz l clock es hb hl hc h4 h5 =>
  refine .mapt L sz l clock es (hw.trans hb) hl (fun i x e hx he=>⟨(hc i x e hx he).1,(hc i x e hx he).2.1,(hc i x e hx he).2.2.1.mono ht.le,fun hf hL=>?_⟩) h4 h5
  have hn:L ∉ F:=by
   rcases hF with rfl | hF
   ·simp
   ·simpa[Q1j] using hF
  obtain⟨ob,hob⟩:=Option.isSome_iff_exists.1 hL
  exact((hc i x e hx he).2.2.2 hf (by rw[(ht.tips L ob hn hob).1]; rfl)).keep ht hn hL
theorem Q2u {F:List Nat} {X:Store} (h:Qa F X=true) {k:Nat} {o:Ob} (hk:X.objs.lookup k=some o):F = []∨Q1j F o=true:=by
 unfold Qa at h
 rw[Bool.or_eq_true] at h
 rcases h with h | h
 ·exact .inl (by simpa using h)
 ·exact .inr (List.all_eq_true.1 h _ (Qn hk))
theorem HR.grow {nm:List Nat} {B:Base} {g:Gh} {w w' : World} {X:Store} (h:HR nm B g w X) (hs:w.heap.size≤w'.heap.size) (hold:∀b,b < w.heap.size→w'.heap[b]? = w.heap[b]?) (hio:w'.os=w.os∧w'.output=w.output∧w'.tape=w.tape∧w.drawn≤w'.drawn) :
  HR nm B g w' X∧Trans [] g w g w':=by
 have hcell:∀b i,i < g.γ b→w'.cell? ⟨b,i,none⟩=w.cell? ⟨b,i,none⟩:=fun b i hi=>cell?_of_heap (hold b (γ_lt h (by omega))) i none
 have hshape:∀b s,w.shape? b=some s→w'.shape? b=some s:=by
  intro b s hs'
  have hb:b < w.heap.size:=by
   rcases Nat.lt_or_ge b w.heap.size with h1 | h1
   ·exact h1
   ·simp[World.shape?,Array.getElem?_eq_none h1] at hs'
  rw[shape?_of_heap (hold b hb)]; exact hs'
 have ht:Trans [] g w g w':=⟨⟨fun _=>Nat.le_refl _,hcell,hshape⟩,fun _ _=>rfl,fun n ob _ he=>⟨he,fun b hb=>⟨rfl,hold b (h.tiplt n b (hb▸he))⟩⟩,fun L _ hL=>⟨rfl,fun i b hb=>⟨rfl,hold b (h.eta.lt L i b hL hb)⟩⟩⟩
 refine⟨⟨h.keep,?_,Nat.le_trans h.base hs,⟨hio.1.trans h.io.1,hio.2.1.trans h.io.2.1,hio.2.2.1.trans h.io.2.2.1,Nat.le_trans h.io.2.2.2 hio.2.2.2⟩,h.le.trans ht.le,?_,?_,h.objγ,h.objinj,h.objnew,h.live,h.tipinj,h.tipobj,h.tipnew,?_,h.eta.same hs fun k o hk=>⟨o,hk⟩⟩,ht⟩
 ·intro b i hi; rw[hcell b i hi]; exact h.sane b i hi
 ·intro b hb hna
  have:=h.frame b hb hna
  exact⟨(hold b (Nat.lt_of_lt_of_le hb h.base)).trans this.1,this.2⟩
 ·intro k o hk
  have:=h.objs k o hk
  exact this.keep ht (hold _ (Q1o this)) (.inl rfl)
 ·intro n b hn; exact Nat.lt_of_lt_of_le (h.tiplt n b hn) hs
theorem HR.drew {nm:List Nat} {B:Base} {g:Gh} {w:World} {X:Store} (h:HR nm B g w X):HR nm B g w.drew X∧Trans [] g w g w.drew :=
 h.grow (Nat.le_refl _) (fun _ _=>rfl) ⟨rfl,rfl,rfl,Nat.le_succ _⟩
theorem HR.newObj {nm:List Nat} {B:Base} {g:Gh} {w:World} {X:Store} (h:HR nm B g w X) {k:Nat} (hk:X.objs.lookup k=none) (hX:Qa [k] X=true)
  (ob:Obj) (o:Ob) (ho:∀g' w',Trans [k] g w g' w'→w'.heap[w.heap.size]? = some ob→ObRel g' w' w.heap.size o) :
  HR nm B { g with ρ:=upd g.ρ k w.heap.size } (w.alloc ob) ⟨(k,o) :: X.objs,X.live⟩∧Trans [k] g w { g with ρ:=upd g.ρ k w.heap.size } (w.alloc ob):=by
 have h1:=h.grow (w':=w.alloc ob) (by simp) (fun b hb=>Q1z w ob hb) ⟨rfl,rfl,rfl,Nat.le_refl _⟩
 have hcell:=h1.2.le
 have ht:Trans [k] g w { g with ρ:=upd g.ρ k w.heap.size } (w.alloc ob) :=
  ⟨hcell,fun j hj=>Q6 _ _ (by simpa using hj),fun n ob' _ he=>⟨he,fun b hb=>⟨rfl,Q1z w ob (h.tiplt n b (hb▸he))⟩⟩,fun L _ hL=>⟨rfl,fun i b hb=>⟨rfl,Q1z w ob (h.eta.lt L i b hL hb)⟩⟩⟩
 have hlk:∀j o',List.lookup j ((k,o) :: X.objs)=some o'→(j=k∧o' = o)∨(j≠k∧X.objs.lookup j=some o'):=by
  intro j o' hj
  rw[List.lookup_cons] at hj
  by_cases he:j=k
  ·subst he; simp at hj; exact .inl ⟨rfl,hj.symm⟩
  ·have:(j == k)=false:=by simpa using he
   rw[this] at hj
   exact .inr ⟨he,hj⟩
 have hlt:∀j o',X.objs.lookup j=some o'→g.ρ j < w.heap.size:=fun j o' hj=>Q1o (h.objs j o' hj)
 refine⟨⟨?_,h1.1.sane,h1.1.base,h1.1.io,h1.1.le,h1.1.frame,?_,?_,?_,?_,h.live,h.tipinj,?_,h.tipnew,h1.1.tiplt,h.eta.step (fun L hL=>.inl ⟨hL,rfl⟩) (by simp) (fun n b hb=>.inl ⟨n,hb⟩) fun j o' hj=>?_⟩,ht⟩
 rotate_right
 ·rcases hlk j o' hj with ⟨rfl,rfl⟩ | ⟨hne,hj⟩
  ·simp only[upd_same]; exact .inr (.inl (Nat.le_refl _))
  ·simp only[Q6 _ _ hne]; exact .inl ⟨j,o',hj,rfl⟩
 ·intro j hj
  obtain⟨h2,h3⟩:=h.keep j hj
  have hne:j≠k:=by rintro rfl; rw[hk] at h3; simp at h3
  refine⟨by simp only[Q6 _ _ hne]; exact h2,?_⟩
  simp only[List.lookup_cons]
  have:(j == k)=false:=by simpa using hne
  rw[this]; exact h3
 ·intro j o' hj
  rcases hlk j o' hj with ⟨rfl,rfl⟩ | ⟨hne,hj⟩
  ·simp only[upd_same]
   exact ho _ _ ht (heap_alloc_new w ob)
  ·simp only[Q6 _ _ hne]
   exact(h.objs j o' hj).keep ht (Q1z w ob (hlt j o' hj)) (Q2u hX hj)
 ·intro j o' hj
  rcases hlk j o' hj with ⟨rfl,rfl⟩ | ⟨hne,hj⟩
  ·simp only[upd_same]; exact γ_top h (Nat.le_refl _)
  ·simp only[Q6 _ _ hne]; exact h.objγ j o' hj
 ·intro j j' o1 o2 hj hj' he
  have c1:=hlk j o1 hj
  have c2:=hlk j' o2 hj'
  clear hj hj'
  rcases c1 with ⟨e1,_⟩ | ⟨hne,hj⟩ <;> rcases c2 with ⟨e2,_⟩ | ⟨hne',hj'⟩
  ·rw[e1,e2]
  ·rw[e1] at he
   simp only[upd_same,Q6 _ _ hne'] at he
   have:=hlt j' o2 hj'; omega
  ·rw[e2] at he
   simp only[upd_same,Q6 _ _ hne] at he
   have:=hlt j o1 hj; omega
  ·simp only[Q6 _ _ hne,Q6 _ _ hne'] at he
   exact h.objinj j j' o1 o2 hj hj' he
 ·intro j o' hj
  rcases hlk j o' hj with ⟨rfl,rfl⟩ | ⟨hne,hj⟩
  ·simp only[upd_same]; exact .inl h.base
  ·simp only[Q6 _ _ hne]; exact h.objnew j o' hj
 ·intro n b j o' hn hj
  rcases hlk j o' hj with ⟨rfl,rfl⟩ | ⟨hne,hj⟩
  ·simp only[upd_same]; have:=h.tiplt n b hn; omega
  ·simp only[Q6 _ _ hne]; exact h.tipobj n b j o' hn hj
theorem HR.newRow {nm:List Nat} {B:Base} {g:Gh} {w:World} {X:Store} (h:HR nm B g w X) (arr:Array Value) (T:TypeId) (n:Nat) (hn:n≤arr.size) :
  HR nm B { g with γ:=upd g.γ w.heap.size n } (w.alloc (.cells arr T)) X∧Trans [] g w { g with γ:=upd g.γ w.heap.size n } (w.alloc (.cells arr T)):=by
 have h1:=h.grow (w':=w.alloc (.cells arr T)) (by simp) (fun b hb=>Q1z w _ hb) ⟨rfl,rfl,rfl,Nat.le_refl _⟩
 have hup:∀b,g.γ b≤upd g.γ w.heap.size n b:=by
  intro b
  by_cases hb:b=w.heap.size
  ·subst hb; rw[upd_same,γ_top h (Nat.le_refl _)]; omega
  ·rw[Q6 _ _ hb]; exact Nat.le_refl _
 have hne:∀b,b < w.heap.size→upd g.γ w.heap.size n b=g.γ b:=fun b hb=>Q6 _ _ (by omega)
 have ht:Trans [] g w { g with γ:=upd g.γ w.heap.size n } (w.alloc (.cells arr T)) :=
  ⟨⟨hup,h1.2.le.cell,h1.2.le.shape⟩,fun _ _=>rfl,fun m ob _ he=>⟨he,fun b hb=>⟨hne b (h.tiplt m b (hb▸he)),Q1z w _ (h.tiplt m b (hb▸he))⟩⟩,fun L _ hL=>⟨rfl,fun i b hb=>⟨hne b (h.eta.lt L i b hL hb),Q1z w _ (h.eta.lt L i b hL hb)⟩⟩⟩
 refine⟨⟨h.keep,?_,h1.1.base,h1.1.io,⟨fun b=>Nat.le_trans (h1.1.le.up b) (hup b),h1.1.le.cell,h1.1.le.shape⟩,?_,?_,?_,h.objinj,h.objnew,h.live,h.tipinj,h.tipobj,h.tipnew,h1.1.tiplt,h.eta.step (fun L hL=>.inl ⟨hL,rfl⟩) (by simp) (fun n b hb=>.inl ⟨n,hb⟩) fun k o hk=>.inl ⟨k,o,hk,rfl⟩⟩,ht⟩
 ·intro b i hi
  by_cases hb:b=w.heap.size
  ·subst hb
   simp only[upd_same] at hi
   rw[cell?_cells (heap_alloc_new w (.cells arr T))]
   simp; omega
  ·simp only[Q6 _ _ hb] at hi
   exact h1.1.sane b i hi
 ·intro b hb hna
  have:=h1.1.frame b hb hna
  exact⟨this.1,by rw[← this.2]; exact hne b (Nat.lt_of_lt_of_le hb h.base)⟩
 ·intro k o hk
  have:=h.objs k o hk
  exact this.keep ht (Q1z w _ (Q1o this)) (.inl rfl)
 ·intro k o hk
  simp only[hne _ (Q1o (h.objs k o hk))]
  exact h.objγ k o hk
def okSc:AV→Bool
 | .d (.sc (.agg _))=>false
 | _=>true
theorem Q3q {v:Value} (h:∀cs,v≠.agg cs):v.cells = #[v]:=by
 cases v <;> first | rfl | exact absurd rfl (h _)
section
variable {P:Program} {o:Oper} {X:Store}
theorem Qy0 {t:TypeId} {i:TypeInfo} {z:Value} {cs:List AV} (k:Nat) (ho:o.op = .alloc t) (hi:P.info? t=some i) (hz:i.zero=some z)
  (hcs:∀g w,RA g w (.agg cs) (.agg z.cells)) (hk:X.objs.lookup k=none) (hX:Qa [k] X=true) :
  OpT P o [] X ⟨(k,.cells cs (some t)) :: X.objs,X.live⟩ [k] (.ptr k 0):=by
 intro nm hsm B g w a hr _ next Q hn
 obtain⟨h1,h2⟩:=hr.newObj hk hX (.cells z.cells t) (.cells cs (some t)) (by
  intro g' w' _ hw
  have:=hcs g' w'
  cases this with
  | agg _ _ hl hc=>exact .cells cs _ z.cells t hw (Nat.le_of_eq hl) hc (fun _ e=>(Option.some.inj e).symm))
 unfold Oper.wp
 have:(execOp a.eval o).run P w = .ok (.value (.pointer (some ⟨w.heap.size,0,none⟩))) (w.alloc (.cells z.cells t)):=by
  simp only[execOp,ho]
  simp[Instr.alloc,zeroValue,typeInfo,hi,hz,newVar,Go.newRow]
 rw[this]
 refine hn _ _ _ h1 h2 ?_
 have:=RA.ptr (g:={ g with ρ:=upd g.ρ k w.heap.size }) (w:=w.alloc (.cells z.cells t)) k 0
 simpa[upd_same] using this
theorem Q101 {t:TypeId} {x:Operand} {v:AV} (k:Nat) (ho:o.op = .box t x) (hk:X.objs.lookup k=none) (hX:Qa [k] X=true) (hv:Q14 [k] v.cells=true) (hs:okSc v=true) :
  OpT P o [(x,v)] X ⟨(k,.cells v.cells (some t)) :: X.objs,X.live⟩ [k] (.ptr k 0):=by
 intro nm hsm B g w a hr hrd next Q hn
 have e1:=rd0 hrd
 simp only at e1
 obtain⟨h1,h2⟩:=hr.newObj hk hX (.cells (a.eval x).cells t) (.cells v.cells (some t)) (by
  intro g' w' ht hw
  generalize a.eval x=u at e1 hw
  have hfin:∀(cs:List AV) (vs:Array Value),v.cells=cs→u.cells=vs→cs.length=vs.size→(∀(i:Nat) x v,cs[i]? = some x→vs[i]? = some v→RA g w x v) →
    ObRel g' w' w.heap.size (.cells v.cells (some t)):=by
   intro cs vs h1 h2 hl hc
   rw[h1] at hv ⊢
   rw[h2] at hw
   exact .cells cs _ vs t hw (Nat.le_of_eq hl) (fun i x y hx hy=>(hc i x y hx hy).mono ht (Q3f (Q41 hv hx))) (fun _ e=>(Option.some.inj e).symm)
  have hone:v.cells = [v]→u.cells = #[u]→ObRel g' w' w.heap.size (.cells v.cells (some t)):=by
   intro h1 h2
   refine hfin _ _ h1 h2 rfl ?_
   intro i x y hx hy
   cases i with
   | zero=>simp at hx hy; subst hx; subst hy; exact e1
   | succ i=>simp at hx
  cases e1 with
  | d y u h =>
   cases h with
   | agg cs vs hl hc =>
    refine hfin (cs.map .d) vs rfl rfl (by simpa using hl) ?_
    intro i x y hx hy
    rw[List.getElem?_map,Option.map_eq_some_iff] at hx
    obtain⟨c,hc',rfl⟩:=hx
    exact .d _ _ (hc i c y hc' hy)
   | sc u =>
    exact hone rfl (Q3q fun cs he=>by subst he; simp[okSc] at hs)
   | nil sz=>exact hone rfl rfl
   | sl sz es b off len cap=>exact hone rfl rfl
   | ep cs b off=>exact hone rfl rfl
   | any q u h1 h2=>exact hone rfl (Q3q fun cs he=>by subst he; cases h2)
  | nm k p u h=>exact hone rfl (by cases p <;> (first | obtain⟨cap,_,_,rfl,_⟩:=h | cases h) <;> first | rfl | (rename_i b _; cases b <;> rfl))
  | tip n sz es ty u h h' =>
   cases h with
   | nil=>exact hone rfl rfl
   | sl=>exact hone rfl rfl
  | tpt n e cs u h h'=>cases h with | ep=>exact hone rfl rfl
  | tup l vs hl hc=>exact hone rfl rfl
  | agg l vs hl hc=>exact hfin l vs rfl rfl hl hc
  | clo f l vs hl hc=>exact hone rfl rfl)
 unfold Oper.wp
 have:(execOp a.eval o).run P w = .ok (.value (.pointer (some ⟨w.heap.size,0,none⟩))) (w.alloc (.cells (a.eval x).cells t)):=by
  simp only[execOp,ho]
  simp[Instr.box,newVar,Go.newRow]
 rw[this]
 refine hn _ _ _ h1 h2 ?_
 have:=RA.ptr (g:={ g with ρ:=upd g.ρ k w.heap.size }) (w:=w.alloc (.cells (a.eval x).cells t)) k 0
 simpa[upd_same] using this
end
end Go.Ab
namespace Go.Ab
def setObj (k:Nat) (o:Ob):List (Nat×Ob)→List (Nat×Ob)
 | []=>[(k,o)]
 | (j,p) :: r=>if j=k then (k,o) :: r else (j,p) :: setObj k o r
theorem Qb (k:Nat) (o:Ob) (l:List (Nat×Ob)) (j:Nat):(setObj k o l).lookup j=if j=k then some o else l.lookup j:=by
 induction l with
 | nil =>
  simp only[setObj,List.lookup_cons,List.lookup_nil]
  by_cases h:j=k
  ·simp[h]
  ·have:(j == k)=false:=by simpa using h
   simp[h,this]
 | cons p r ih =>
  obtain⟨i,p⟩:=p
  simp only[setObj]
  by_cases hik:i=k
  ·subst hik
   simp only[if_true,List.lookup_cons]
   by_cases h:j=i
   ·simp[h]
   ·have:(j == i)=false:=by simpa using h
    simp[h,this]
  ·simp only[hik,if_false,List.lookup_cons]
   by_cases h:j=i
   ·subst h; simp[hik]
   ·have:(j == i)=false:=by simpa using h
    simp only[this]
    exact ih
theorem HR.write {nm:List Nat} {B:Base} {g:Gh} {w w' : World} {X:Store} (h:HR nm B g w X) {k:Nat} {o o' : Ob} (hk:X.objs.lookup k=some o)
  (hs:w'.heap.size=w.heap.size) (hio:w'.os=w.os∧w'.output=w.output∧w'.tape=w.tape∧w.drawn≤w'.drawn) (hother:∀b,b≠g.ρ k→w'.heap[b]? = w.heap[b]?) (hnew:∀(_:Trans [] g w g w'),ObRel g w' (g.ρ k) o') (hshb:∀s,w.shape? (g.ρ k)=some s→w'.shape? (g.ρ k)=some s) :
  HR nm B g w' ⟨setObj k o' X.objs,X.live⟩∧Trans [] g w g w':=by
 have h0:=h.objγ k o hk
 have hγ0:B.γ0 (g.ρ k)=0:=by have:=h.le.up (g.ρ k); omega
 have hcell:∀b i,i < g.γ b→w'.cell? ⟨b,i,none⟩=w.cell? ⟨b,i,none⟩:=by
  intro b i hi
  refine cell?_of_heap (hother b ?_) i none
  rintro rfl; omega
 have hshape:∀b s,w.shape? b=some s→w'.shape? b=some s:=by
  intro b s hs'
  by_cases he:b=g.ρ k
  ·subst he; exact hshb s hs'
  ·rw[shape?_of_heap (hother b he)]; exact hs'
 have ht:Trans [] g w g w':=⟨⟨fun _=>Nat.le_refl _,hcell,hshape⟩,fun _ _=>rfl,fun n ob _ he=>⟨he,fun b hb=>⟨rfl,hother b (h.tipobj n b k o (hb▸he) hk)⟩⟩,fun L _ hL=>⟨rfl,fun i b hb=>⟨rfl,hother b (h.eta.obj L i b k o hL hb hk)⟩⟩⟩
 have hlk:∀j p,(setObj k o' X.objs).lookup j=some p→(j=k∧p=o')∨(j≠k∧X.objs.lookup j=some p):=by
  intro j p hj
  rw[Qb] at hj
  split at hj
  ·rename_i he; simp at hj; exact .inl ⟨he,hj.symm⟩
  ·rename_i he; exact .inr ⟨he,hj⟩
 have hsome:∀j p,(setObj k o' X.objs).lookup j=some p→∃q,X.objs.lookup j=some q:=by
  intro j p hj
  rcases hlk j p hj with ⟨rfl,_⟩ | ⟨_,hj⟩
  ·exact⟨o,hk⟩
  ·exact⟨p,hj⟩
 refine⟨⟨?_,?_,by rw[hs]; exact h.base,⟨hio.1.trans h.io.1,hio.2.1.trans h.io.2.1,hio.2.2.1.trans h.io.2.2.1,Nat.le_trans h.io.2.2.2 hio.2.2.2⟩,⟨h.le.up,?_,fun b s hs=>hshape b s (h.le.shape b s hs)⟩,?_,?_,?_,?_,?_,h.live,h.tipinj,?_,h.tipnew,?_,h.eta.same (by rw[hs]; exact Nat.le_refl _) fun j p hj=>hsome j p hj⟩,ht⟩
 ·intro j hj
  obtain⟨h1,h2⟩:=h.keep j hj
  refine⟨h1,?_⟩
  simp only[Qb]
  split
  ·rfl
  ·exact h2
 ·intro b i hi; rw[hcell b i hi]; exact h.sane b i hi
 ·intro b i hi
  rw[hcell b i (Nat.lt_of_lt_of_le hi (h.le.up b))]
  exact h.le.cell b i hi
 ·intro b hb hna
  have h1:=h.frame b hb hna
  refine⟨(hother b ?_).trans h1.1,h1.2⟩
  rintro rfl
  rcases h.objnew k o hk with h2 | h2
  ·omega
  ·exact hna h2
 ·intro j p hj
  rcases hlk j p hj with ⟨rfl,rfl⟩ | ⟨hne,hj⟩
  ·exact hnew ht
  ·refine(h.objs j p hj).keep ht (hother _ ?_) (.inl rfl)
   intro he; exact hne (h.objinj j k p o hj hk he)
 ·intro j p hj; obtain⟨q,hq⟩:=hsome j p hj; exact h.objγ j q hq
 ·intro j j' p p' hj hj' he
  obtain⟨q,hq⟩:=hsome j p hj
  obtain⟨q',hq'⟩:=hsome j' p' hj'
  exact h.objinj j j' q q' hq hq' he
 ·intro j p hj; obtain⟨q,hq⟩:=hsome j p hj; exact h.objnew j q hq
 ·intro n b j p hn hj; obtain⟨q,hq⟩:=hsome j p hj; exact h.tipobj n b j q hn hq
 ·intro n b hn; rw[hs]; exact h.tiplt n b hn
def oneC:AV→Bool
 | .d (.sc u)=>u.oneCell'
 | .d (.agg _)=>false
 | .tup _=>false
 | .agg _=>false
 | _=>true
theorem Qxg {g:Gh} {w:World} {x:AV} {v:Value} (h:RA g w x v) (ho:oneC x=true):v.oneCell' = true:=by
 cases h with
 | d y v h =>
  cases h with
  | sc v=>exact ho
  | agg=>simp[oneC] at ho
  | nil=>rfl
  | sl=>rfl
  | ep=>rfl
  | any q v h1 h2=>exact h2
 | nm k p v h=>cases p <;> (first | obtain⟨cap,_,_,rfl,_⟩:=h | cases h) <;> first | rfl | (rename_i b _; cases b <;> rfl)
 | tip n sz es ty v h _=>cases h <;> rfl
 | tpt n e cs v h _=>cases h; rfl
 | tup=>simp[oneC] at ho
 | agg=>simp[oneC] at ho
 | clo=>rfl
theorem Qbg {P:Program} {b off:Nat} {T:TypeId}:∀(vs:List Value) (i:Nat) (w:World) (arr:Array Value),w.heap[b]? = some (.cells arr T (0,0)) →
  (∀v ∈ vs,v.oneCell' = true)→off+i+vs.length≤arr.size →
  ∃w' arr',(storeCells ⟨b,off,none⟩ vs i).run P w = .ok () w'∧w'.heap[b]? = some (.cells arr' T (0,0))∧arr'.size=arr.size ∧
   (∀j,arr'[j]? = if off+i≤j∧j < off+i+vs.length then vs[j - (off+i)]? else arr[j]?)∧w'.heap.size=w.heap.size∧(∀b',b'≠b→w'.heap[b']? = w.heap[b']?)∧(w'.os=w.os∧w'.output=w.output∧w'.tape=w.tape∧w.drawn≤w'.drawn)
 | [],i,w,arr,hb,_,_=>⟨w,arr,rfl,hb,rfl,fun j=>by rw[if_neg (by simp only[List.length_nil]; omega)],rfl,fun _ _=>rfl,rfl,rfl,rfl,Nat.le_refl _⟩
 | v :: vs,i,w,arr,hb,h1,hl=>by
  simp only[List.length_cons] at hl
  have hlt:off+i < arr.size:=by omega
  have hv:v.oneCell' = true:=h1 v List.mem_cons_self
  have hcell:w.cell? ⟨b,off+i,none⟩=some arr[off+i]:=by rw[cell?_cells hb]; simp[hlt]
  have hfr:w.frozen? ⟨b,off+i,none⟩=false:=frozen_of_row w b (off+i) arr T hb
  have hset:(w.setCell ⟨b,off+i,none⟩ v).heap[b]? = some (.cells (arr.setIfInBounds (off+i) v) T (0,0)):=heap_setCell_same w b (off+i) arr T v hb
  have hst:(store (⟨b,off+i,none⟩:Addr) v).run P w = .ok () (w.setCell ⟨b,off+i,none⟩ v):=by
   rw[run_store P w _ v _ hv,hcell,hfr]; rfl
  obtain⟨w',arr',hr,hb',hs',hp',hz',ho',hi'⟩:=Qbg (P:=P) (b:=b) (off:=off) (T:=T) vs (i+1) (w.setCell ⟨b,off+i,none⟩ v) _ hset
   (fun u hu=>h1 u (List.mem_cons_of_mem _ hu)) (by simp; omega)
  refine⟨w',arr',?_,hb',by rw[hs']; simp,?_,by rw[hz']; simp,fun b' hne=>by rw[ho' b' hne]; exact heap_setCell_other w _ b' v hne,hi'⟩
  ·simp only[storeCells]
   rw[addr_add,Sem.run_bind,hst,Result.andThen_ok]
   exact hr
  ·intro j
   rw[hp' j]
   by_cases h1:j=off+i
   ·subst h1
    rw[if_neg (by omega),if_pos (by simp only[List.length_cons]; omega)]
    simp[hlt]
   ·by_cases h2:off+(i+1)≤j∧j < off+(i+1)+vs.length
    ·rw[if_pos h2,if_pos (by simp only[List.length_cons]; omega)]
     rw[show j - (off+i)=(j - (off+(i+1)))+1 by omega]
     rfl
    ·rw[if_neg h2,if_neg (by simp only[List.length_cons]; omega)]
     simp[Ne.symm h1]
def splice (cs:List AV) (off:Nat) (vs:List AV):List AV:=cs.take off++vs++cs.drop (off+vs.length)
theorem Q65 {cs:List AV} {off:Nat} {vs:List AV} (h:off+vs.length≤cs.length):(splice cs off vs).length=cs.length:=by
 simp[splice]; omega
theorem Qcn {cs:List AV} {off:Nat} {vs:List AV} (h:off+vs.length≤cs.length) (i:Nat) :
  (splice cs off vs)[i]? = if off≤i∧i < off+vs.length then vs[i - off]? else cs[i]?:=by
 have hl:(cs.take off).length=off:=by simp; omega
 unfold splice
 by_cases h1:i < off
 ·rw[if_neg (by omega),List.append_assoc,List.getElem?_append_left (by omega),List.getElem?_take,if_pos h1]
 ·by_cases h2:i < off+vs.length
  ·rw[if_pos (by omega),List.append_assoc,List.getElem?_append_right (by omega),hl,List.getElem?_append_left (by omega)]
  ·rw[if_neg (by omega),List.getElem?_append_right (by simp; omega)]
   rw[List.getElem?_drop]
   congr 1
   simp
   omega
theorem RA.cells {g:Gh} {w:World} {x:AV} {v:Value} (h:RA g w x v) (hs:okSc x=true) :
  x.cells.length=v.cells.size∧∀(i:Nat) y u,x.cells[i]? = some y→v.cells[i]? = some u→RA g w y u:=by
 have hone:x.cells = [x]→v.cells = #[v]→x.cells.length=v.cells.size∧∀(i:Nat) y u,x.cells[i]? = some y→v.cells[i]? = some u→RA g w y u:=by
  intro h1 h2
  rw[h1,h2]
  refine⟨rfl,?_⟩
  intro i y u hy hu
  cases i with
  | zero=>simp at hy hu; subst hy; subst hu; exact h
  | succ i=>simp at hy
 cases h with
 | d y u h =>
  cases h with
  | agg cs vs hl hc =>
   refine⟨by simpa[AV.cells,D.cells,Value.cells] using hl,?_⟩
   intro i x y hx hy
   simp only[AV.cells,D.cells,List.getElem?_map,Option.map_eq_some_iff] at hx
   obtain⟨c,hc',rfl⟩:=hx
   exact .d _ _ (hc i c y hc' hy)
  | sc u=>exact hone rfl (Q3q fun cs he=>by subst he; simp[okSc] at hs)
  | nil sz=>exact hone rfl rfl
  | sl sz es b off len cap=>exact hone rfl rfl
  | ep cs b off=>exact hone rfl rfl
  | any q u h1 h2=>exact hone rfl (Q3q fun cs he=>by subst he; cases h2)
 | nm k p u h=>exact hone rfl (by cases p <;> (first | obtain⟨cap,_,_,rfl,_⟩:=h | cases h) <;> first | rfl | (rename_i b _; cases b <;> rfl))
 | tip n sz es ty u h h' =>
  cases h with
  | nil=>exact hone rfl rfl
  | sl=>exact hone rfl rfl
 | tpt n e cs u h h'=>cases h with | ep=>exact hone rfl rfl
 | tup l vs hl hc=>exact hone rfl rfl
 | agg l vs hl hc=>exact⟨hl,hc⟩
 | clo f l vs hl hc=>exact hone rfl rfl
section
variable {P:Program} {o:Oper} {X:Store}
theorem Qq5 {t:TypeId} {x y:Operand} {k off sz:Nat} {v:AV} {cs:List AV} {ty:Option TypeId} {agg:Bool} (ho:o.op = .store t x y) (ht:TyI P t agg sz) (hk:X.objs.lookup k=some (.cells cs ty))
  (hv:v.cells.length=sz) (h1:v.cells.all oneC=true) (hs:okSc v=true) (hl:off+sz≤cs.length) :
  OpT P o [(x,.ptr k off),(y,v)] X ⟨setObj k (.cells (splice cs off v.cells) ty) X.objs,X.live⟩ [] (.d (.sc undef)):=by
 intro nm hsm B g w a hr hrd next Q hn
 have e1:=rd0 hrd
 have e2:=rd1 hrd
 simp only at e1 e2
 obtain⟨c1,c2⟩:=e2.cells hs
 cases hr.objs k _ hk with
 | cells _ _ arr T hb hlen hc hty =>
  have hone:∀u ∈ (a.eval y).cells.toList,u.oneCell' = true:=by
   intro u hu
   obtain⟨i,hi⟩:=List.mem_iff_getElem?.1 hu
   have hlt:i < v.cells.length:=by
    have:=(List.getElem?_eq_some_iff.1 hi).1
    simp at this; omega
   exact Qxg (c2 i v.cells[i] u (by simp[hlt]) (by simpa using hi)) (List.all_eq_true.1 h1 _ (List.getElem_mem hlt))
  obtain⟨w',arr',hrun,hb',hs',hp',hz',ho',hi'⟩:=Qbg (P:=P) (off:=off) (a.eval y).cells.toList 0 w arr hb hone (by simp; omega)
  obtain⟨r1,r2⟩:=hr.write hk (o':=.cells (splice cs off v.cells) ty) hz' hi' ho' (by
   intro ht'
   refine .cells _ ty arr' T hb' (by rw[Q65 (by omega),hs']; exact hlen) ?_ hty
   intro i z u hz hu
   rw[Qcn (by omega)] at hz
   rw[hp' i] at hu
   simp only[Nat.add_zero,Array.length_toList] at hu
   by_cases hin:off≤i∧i < off+v.cells.length
   ·rw[if_pos hin] at hz
    rw[if_pos (by omega)] at hu
    exact(c2 _ z u hz (by simpa using hu)).mono ht' (.nil _)
   ·rw[if_neg hin] at hz
    rw[if_neg (by omega)] at hu
    exact(hc i z u hz hu).mono ht' (.nil _)) (by
   intro s hs0
   simp only[World.shape?,hb] at hs0
   simp only[World.shape?,hb',hs']
   exact hs0)
  unfold Oper.wp
  have hx:a.eval x = .pointer (some ⟨g.ρ k,off,none⟩):=by
   exact e1.ptr_inv
  have:(execOp a.eval o).run P w = .ok .skip w':=by
   simp only[execOp,ho,hx,Instr.storeAt,Instr.sureAddr]
   have hsz : ¬((a.eval y).cells.size≠sz):=by omega
   simp[storeVar,ht.run_size,hsz,hrun]
  rw[this]
  exact hn g w' undef r1 r2 (.ofSc _ _ _)
end
end Go.Ab
namespace Go.Ab
structure StructI (P:Program) (t:TypeId) (pl:List (Nat×Nat)):Prop where
 is:∃fs,P.underlying t=some (.struct fs)∧fs.toList.map (fun f=>(f.offset,(P.info? f.type).map (·.size)))=pl.map fun p=>(p.1,some p.2)
inductive ZCells:List AV→List Value→Prop
 | nil:ZCells [] []
 | sc (v:Value) {r:List AV} {rs:List Value}:ZCells r rs→ZCells (.d (.sc v) :: r) (v :: rs)
 | sl (sz:Nat) {r:List AV} {rs:List Value}:ZCells r rs→ZCells (.d (.sl sz []) :: r) (.slice none 0 0 :: rs)
theorem ZCells.ra {l:List AV} {vs:List Value} (h:ZCells l vs) (g:Gh) (w:World):l.length=vs.length∧∀(i:Nat) x v,l[i]? = some x→vs[i]? = some v→RA g w x v:=by
 induction h with
 | nil=>exact⟨rfl,by simp⟩
 | sc v _ ih =>
  refine⟨by simp[ih.1],?_⟩
  intro i x u hx hu
  cases i with
  | zero=>simp at hx hu; subst hx; subst hu; exact .ofSc _ _ _
  | succ i=>exact ih.2 i x u (by simpa using hx) (by simpa using hu)
 | sl sz _ ih =>
  refine⟨by simp[ih.1],?_⟩
  intro i x u hx hu
  cases i with
  | zero=>simp at hx hu; subst hx; subst hu; exact .d _ _ (.nil sz none 0 fun _=>rfl)
  | succ i=>exact ih.2 i x u (by simpa using hx) (by simpa using hu)
structure ZeroI (P:Program) (t:TypeId) (cs:List AV):Prop where
 is:∃i z,P.info? t=some i∧i.zero=some z∧ZCells cs z.cells.toList
theorem ZeroI.ra {P:Program} {t:TypeId} {cs:List AV} {z:Value} (h:ZCells cs z.cells.toList) (g:Gh) (w:World):RA g w (.agg cs) (.agg z.cells):=by
 obtain⟨h1,h2⟩:=h.ra g w
 exact .agg _ _ (by simpa using h1) (fun i x v hx hv=>h2 i x v hx (by simpa using hv))
def fillA (place:Nat→Option (Nat×Nat)):List AV→List (Nat×AV)→Option (List AV)
 | cs,[]=>some cs
 | cs,(i,x) :: r =>
  match place i with
  | none=>none
  | some (off,sz)=>if x.cells.length=sz∧off+x.cells.length≤cs.length then fillA place (splice cs off x.cells) r else none
theorem foldl_set (vs:List Value) (off:Nat):∀(n:Nat) (cs:Array Value) (j:Nat),off+n+vs.length≤cs.size →
  ((vs.zipIdx n).foldl (fun cs p=>cs.setIfInBounds (off+p.2) p.1) cs)[j]? = if off+n≤j∧j < off+n+vs.length then vs[j - (off+n)]? else cs[j]?:=by
 induction vs with
 | nil=>intro n cs j _; rw[if_neg (by simp only[List.length_nil]; omega)]; rfl
 | cons v vs ih =>
  intro n cs j hl
  simp only[List.length_cons] at hl ⊢
  rw[List.zipIdx_cons,List.foldl_cons,ih (n+1) _ j (by simp; omega)]
  by_cases h1:j=off+n
  ·subst h1
   rw[if_neg (by omega),if_pos (by omega)]
   have:off+n < cs.size:=by omega
   simp[this]
  ·by_cases h2:off+(n+1)≤j∧j < off+(n+1)+vs.length
   ·rw[if_pos h2,if_pos (by omega),show j - (off+n)=(j - (off+(n+1)))+1 by omega]
    rfl
   ·rw[if_neg h2,if_neg (by omega)]
    simp[Ne.symm h1]
theorem Q77 (vs:List (Value×Nat)) (off:Nat):∀(cs:Array Value),(vs.foldl (fun cs p=>cs.setIfInBounds (off+p.2) p.1) cs).size=cs.size:=by
 induction vs with
 | nil=>intro cs; rfl
 | cons v vs ih=>intro cs; rw[List.foldl_cons,ih]; simp
theorem Qcl {g:Gh} {w:World} {place:Nat→Option (Nat×Nat)}:∀(parts:List (Nat×AV)) (vs:List (Nat×Value)) (cs:List AV) (arr:Array Value) (out:List AV),
  parts.length=vs.length→(∀(i:Nat) p q,parts[i]? = some p→vs[i]? = some q→p.1=q.1∧RA g w p.2 q.2)→(parts.all fun p=>okSc p.2)=true →
  cs.length=arr.size→(∀(i:Nat) x v,cs[i]? = some x→arr[i]? = some v→RA g w x v)→fillA place cs parts=some out →
  ∃arr',Instr.fill place arr vs=some arr'∧out.length=arr'.size∧∀(i:Nat) x v,out[i]? = some x→arr'[i]? = some v→RA g w x v
 | [],vs,cs,arr,out,hl,_,_,hs,hc,hf=>by
  cases vs with
  | nil=>simp[fillA] at hf; subst hf; exact⟨arr,rfl,hs,hc⟩
  | cons _ _=>simp at hl
 | (i,x) :: parts,vs,cs,arr,out,hl,hp,hok,hs,hc,hf=>by
  cases vs with
  | nil=>simp at hl
  | cons q vs =>
   obtain⟨i',u⟩:=q
   obtain⟨he,hx⟩:=hp 0 (i,x) (i',u) rfl rfl
   simp only at he hx
   subst he
   simp only[List.all_cons,Bool.and_eq_true] at hok
   obtain⟨c1,c2⟩:=hx.cells hok.1
   simp only[fillA] at hf
   simp only[Instr.fill]
   cases hpl:place i with
   | none=>rw[hpl] at hf; cases hf
   | some q =>
    obtain⟨off,sz⟩:=q
    rw[hpl] at hf
    simp only at hf ⊢
    split at hf
    ·rename_i hcond
     have hcond' : ¬(u.cells.size≠sz || off+u.cells.size > arr.size)=true:=by
      simp; omega
     rw[if_neg hcond']
     have hrw:(Array.foldl (fun cs (x:Value×Nat)=>match x with | (c,j)=>cs.setIfInBounds (off+j) c) arr u.cells.zipIdx)=(u.cells.toList.zipIdx 0).foldl (fun cs p=>cs.setIfInBounds (off+p.2) p.1) arr:=by
      rw[← Array.foldl_toList,Array.toList_zipIdx]
     rw[hrw]
     refine Qcl parts vs _ _ out (by simpa using hl) (fun j p q hp' hq=>hp (j+1) p q (by simpa using hp') (by simpa using hq)) hok.2 ?_ ?_ hf
     ·rw[Q65 (by omega),Q77,hs]
     ·intro j y v hy hv
      rw[Qcn (by omega)] at hy
      rw[foldl_set _ _ _ _ _ (by simp; omega)] at hv
      simp only[Nat.add_zero,Array.length_toList] at hv
      by_cases hin:off≤j∧j < off+x.cells.length
      ·rw[if_pos hin] at hy
       rw[if_pos (by omega)] at hv
       exact c2 _ y v hy (by simpa using hv)
      ·rw[if_neg hin] at hy
       rw[if_neg (by omega)] at hv
       exact hc j y v hy hv
    ·cases hf
theorem Qgs {P:Program} {w:World}:∀(fs:List Field) (pl:List (Nat×Nat)),fs.map (fun f=>(f.offset,(P.info? f.type).map (·.size)))=pl.map (fun p=>(p.1,some p.2)) →
  (fs.mapM fun f=>(do pure (f.offset,← sizeOf f.type):Sem (Nat×Nat))).run P w = .ok pl w
 | [],pl,h=>by
  cases pl with
  | nil=>rfl
  | cons _ _=>simp at h
 | f :: fs,pl,h=>by
  cases pl with
  | nil=>simp at h
  | cons q pl =>
   simp only[List.map_cons,List.cons.injEq,Prod.mk.injEq] at h
   obtain⟨⟨h1,h2⟩,h3⟩:=h
   obtain⟨i,hi,h4⟩:=Option.map_eq_some_iff.1 h2
   rw[List.mapM_cons,Sem.run_bind,Sem.run_bind,run_sizeOf hi,Result.andThen_ok]
   simp only[Sem.run_pure,Result.andThen_ok,Sem.run_bind]
   rw[Qgs fs pl h3]
   simp only[Result.andThen_ok,Sem.run_pure]
   rw[h1,h4]
section
variable {P:Program} {o:Oper} {X:Store}
theorem Qxe {t:TypeId} {parts:Array (Nat×Operand)} {pl:List (Nat×Nat)} {zs out:List AV} {xs:List AV} (ho:o.op = .build t parts) (ht:StructI P t pl) (hz:ZeroI P t zs)
  (hx:xs.length=parts.size) (hok:xs.all okSc=true) (hf:fillA (fun i=>pl[i]?) zs ((parts.toList.map (·.1)).zip xs)=some out) :
  OpT P o ((parts.toList.map (·.2)).zip xs) X X [] (Q5s out) :=
 .quiet fun _ _ g w ac hr hrd=>by
  obtain⟨fs,hfs,hpl⟩:=ht.is
  obtain⟨i,z,hi,hzz,hzc⟩:=hz.is
  obtain⟨z1,z2⟩:=hzc.ra g w
  obtain⟨arr',hfill,hl,hc⟩:=Qcl (g:=g) (w:=w) (place:=fun i=>pl[i]?) ((parts.toList.map (·.1)).zip xs) (parts.toList.map fun p=>(p.1,ac.eval p.2)) zs z.cells out (by simp[hx]) (by
   intro j p q hp hq
   rw[List.getElem?_map,Option.map_eq_some_iff] at hq
   obtain⟨pt,hpt,rfl⟩:=hq
   rw[List.getElem?_zip_eq_some] at hp
   obtain⟨hp1,hp2⟩:=hp
   rw[List.getElem?_map,hpt] at hp1
   simp at hp1
   refine⟨hp1.symm,?_⟩
   have:=hrd (pt.2,p.2) (List.mem_of_getElem? (i:=j) (by
    rw[List.getElem?_zip_eq_some]
    exact⟨by rw[List.getElem?_map,hpt]; rfl,hp2⟩))
   exact this) (by
   rw[List.all_eq_true] at hok ⊢
   intro p hp
   exact hok _ (List.of_mem_zip hp).2) (by simpa using z1) (fun i x v hx hv=>z2 i x v hx (by simpa using hv)) hf
  refine⟨.agg arr',?_,RA.join hl hc⟩
  simp only[execOp,ho,Instr.build]
  have hm:(Array.mapM (fun f=>(do pure (f.offset,← sizeOf f.type):Sem (Nat×Nat))) fs).run P w = .ok pl.toArray w:=by
   rw[Array.mapM_eq_mapM_toList,Sem.run_map,Qgs _ _ hpl]; rfl
  have hfill' : Instr.fill (fun x=>pl[x]?) z.cells (List.map (fun x=>(x.1,ac.eval x.2)) parts.toList)=some arr':=hfill
  simp[zeroValue,typeInfo,hi,hzz,run_underlying hfs]
  simp at hm
  rw[hm]
  simp[hfill']
end
end Go.Ab
namespace Go.Ab
theorem HR.dropTip {nm:List Nat} {B:Base} {g:Gh} {w:World} {X:Store} (h:HR nm B g w X) (n:Nat) :
  HR nm B { g with β:=upd g.β n none } w ⟨X.objs,X.live.filter (· != n)⟩∧Trans [] g w { g with β:=upd g.β n none } w:=by
 have hβ:∀m ob,upd g.β n none m=some ob→g.β m=some ob:=by
  intro m ob hm
  by_cases he:m=n
  ·subst he; rw[upd_same] at hm; cases hm
  ·rwa [Q6 _ _ he] at hm
 have ht:Trans [] g w { g with β:=upd g.β n none } w:=⟨.refl _ _,fun _ _=>rfl,fun m ob _ he=>⟨hβ m ob he,fun _ _=>⟨rfl,rfl⟩⟩,fun _ _ _=>⟨rfl,fun _ _ _=>⟨rfl,rfl⟩⟩⟩
 refine⟨⟨h.keep,h.sane,h.base,h.io,h.le,h.frame,?_,h.objγ,h.objinj,h.objnew,?_,?_,?_,?_,?_,h.eta.stepN (fun L hL=>.inl ⟨?_,rfl⟩) (Nat.le_refl _) (fun m b hm=>h.eta.tipN (hβ m _ hm)) fun k o hk=>h.eta.objN hk⟩,ht⟩
 rotate_right
 ·obtain⟨ob,hob⟩:=Option.isSome_iff_exists.1 hL
  rw[hβ L ob hob]; rfl
 ·intro k o hk; exact(h.objs k o hk).keep ht rfl (.inl rfl)
 ·intro m
  simp only[List.mem_filter,bne_iff_ne,ne_eq]
  by_cases he:m=n
  ·subst he; simp[upd_same]
  ·rw[Q6 _ _ he]
   exact⟨fun hm=>(h.live m).1 hm.1,fun hm=>⟨(h.live m).2 hm,he⟩⟩
 ·intro m m' b hm hm'; exact h.tipinj m m' b (hβ m _ hm) (hβ m' _ hm')
 ·intro m b k o hm hk; exact h.tipobj m b k o (hβ m _ hm) hk
 ·intro m b hm; exact h.tipnew m b (hβ m _ hm)
 ·intro m b hm; exact h.tiplt m b (hβ m _ hm)
theorem EtaOk.dropN {B:Base} {g:Gh} {w:World} {X:Store} (h:EtaOk B g w X) {n m b:Nat} (hob:g.β m=some (some b)):∀L i,(upd g.β n none L).isSome→g.η L i≠some b:=by
 intro L i hL hb
 refine h.tip L i b m ?_ hb hob
 by_cases he:L=n
 ·subst he; rw[upd_same] at hL; cases hL
 ·rwa [Q6 _ _ he] at hL
theorem HR.addTip {nm:List Nat} {B:Base} {g:Gh} {w:World} {X:Store} (h:HR nm B g w X) {m:Nat} (hm:m ∉ X.live) (ob:Option Nat) (hX:Qa [m] X=true)
  (hb:∀b,ob=some b→b < w.heap.size∧(B.n0≤b∨B.allowed b)∧(∀k o,X.objs.lookup k=some o→b≠g.ρ k)∧(∀n,g.β n≠some (some b))∧∀L i,(g.β L).isSome→g.η L i≠some b) :
  HR nm B { g with β:=upd g.β m (some ob),η:=upd g.η m fun _=>none } w ⟨X.objs,m :: X.live⟩∧Trans [m] g w { g with β:=upd g.β m (some ob),η:=upd g.η m fun _=>none } w:=by
 have ht:Trans [m] g w { g with β:=upd g.β m (some ob),η:=upd g.η m fun _=>none } w:=by
  refine⟨.refl _ _,fun _ _=>rfl,fun n ob' hn he=>?_,fun L hL _=>⟨Q6 _ _ (by simpa using hL),fun _ _ _=>⟨rfl,rfl⟩⟩⟩
  have hne:n≠m:=by simpa using hn
  simp only[Q6 _ _ hne] at he
  exact⟨he,fun _ _=>⟨rfl,rfl⟩⟩
 have hβ:∀n b,upd g.β m (some ob) n=some (some b)→(n=m∧ob=some b)∨(n≠m∧g.β n=some (some b)):=by
  intro n b hn
  by_cases he:n=m
  ·subst he; rw[upd_same] at hn; exact .inl ⟨rfl,by simpa using hn⟩
  ·rw[Q6 _ _ he] at hn; exact .inr ⟨he,hn⟩
 refine⟨⟨h.keep,h.sane,h.base,h.io,h.le,h.frame,?_,h.objγ,h.objinj,h.objnew,?_,?_,?_,?_,?_,h.eta.stepN (fun L hL=>?_) (Nat.le_refl _) (fun n b hn=>?_) fun k o hk=>h.eta.objN hk⟩,ht⟩
 rotate_right 2
 ·by_cases he:L=m
  ·subst he; exact .inr fun i=>by simp only[upd_same]
  ·exact .inl ⟨by simpa only [Q6 _ _ he] using hL,Q6 _ _ he⟩
 ·rcases hβ n b hn with ⟨rfl,e⟩ | ⟨hne,hn⟩
  ·exact(hb b e).2.2.2.2
  ·exact h.eta.tipN hn
 ·intro k o hk; exact(h.objs k o hk).keep ht rfl (Q2u hX hk)
 ·intro n
  simp only[List.mem_cons]
  by_cases he:n=m
  ·subst he; simp[upd_same]
  ·simp only[he,false_or,Q6 _ _ he]; exact h.live n
 ·intro n n' b hn hn'
  have c1:=hβ n b hn
  have c2:=hβ n' b hn'
  clear hn hn'
  rcases c1 with ⟨e1,e⟩ | ⟨hne,hn⟩ <;> rcases c2 with ⟨e2,e'⟩ | ⟨hne',hn'⟩
  ·rw[e1,e2]
  ·exact((hb b e).2.2.2.1 n' hn').elim
  ·exact((hb b e').2.2.2.1 n hn).elim
  ·exact h.tipinj n n' b hn hn'
 ·intro n b k o hn hk
  rcases hβ n b hn with ⟨rfl,e⟩ | ⟨hne,hn⟩
  ·exact(hb b e).2.2.1 k o hk
  ·exact h.tipobj n b k o hn hk
 ·intro n b hn
  rcases hβ n b hn with ⟨rfl,e⟩ | ⟨hne,hn⟩
  ·exact(hb b e).2.1
  ·exact h.tipnew n b hn
 ·intro n b hn
  rcases hβ n b hn with ⟨rfl,e⟩ | ⟨hne,hn⟩
  ·exact(hb b e).1
  ·exact h.tiplt n b hn
theorem HR.raise {nm:List Nat} {B:Base} {g:Gh} {w w' : World} {X:Store} (h:HR nm B g w X) {b n:Nat} (hlt:b < w.heap.size) (hnew:B.n0≤b∨B.allowed b)
  (hobj:∀k o,X.objs.lookup k=some o→b≠g.ρ k) (htip:∀m,g.β m≠some (some b)) (heta:∀L i,(g.β L).isSome→g.η L i≠some b) (hs:w'.heap.size=w.heap.size) (hio:w'.os=w.os∧w'.output=w.output∧w'.tape=w.tape∧w.drawn≤w'.drawn) (hother:∀b',b'≠b→w'.heap[b']? = w.heap[b']?)
  (hold:∀i,i < g.γ b→w'.cell? ⟨b,i,none⟩=w.cell? ⟨b,i,none⟩) (hn:g.γ b≤n) (hsane:∀i,i < n→(w'.cell? ⟨b,i,none⟩).isSome) (hshb:∀s,w.shape? b=some s→w'.shape? b=some s) :
  HR nm B { g with γ:=upd g.γ b n } w' X∧Trans [] g w { g with γ:=upd g.γ b n } w':=by
 have hup:∀b',g.γ b'≤upd g.γ b n b':=by
  intro b'
  by_cases he:b' = b
  ·subst he; rw[upd_same]; exact hn
  ·rw[Q6 _ _ he]; exact Nat.le_refl _
 have hcell:∀b' i,i < g.γ b'→w'.cell? ⟨b',i,none⟩=w.cell? ⟨b',i,none⟩:=by
  intro b' i hi
  by_cases he:b' = b
  ·subst he; exact hold i hi
  ·exact cell?_of_heap (hother b' he) i none
 have hshape:∀b' s,w.shape? b' = some s→w'.shape? b' = some s:=by
  intro b' s hs'
  by_cases he:b' = b
  ·subst he; exact hshb s hs'
  ·rw[shape?_of_heap (hother b' he)]; exact hs'
 have hneb:∀m b',g.β m=some (some b')→b'≠b:=fun m b' hm he=>htip m (he▸hm)
 have ht:Trans [] g w { g with γ:=upd g.γ b n } w':=⟨⟨hup,hcell,hshape⟩,fun _ _=>rfl,fun m ob _ he=>⟨he,fun b' hb'=>by
  have:=hneb m b' (hb'▸he)
  exact⟨Q6 _ _ this,hother b' this⟩⟩,fun L _ hL=>⟨rfl,fun i b' hb'=>by
  have:b'≠b:=fun he=>heta L i hL (he▸hb')
  exact⟨Q6 _ _ this,hother b' this⟩⟩⟩
 refine⟨⟨h.keep,?_,by rw[hs]; exact h.base,⟨hio.1.trans h.io.1,hio.2.1.trans h.io.2.1,hio.2.2.1.trans h.io.2.2.1,Nat.le_trans h.io.2.2.2 hio.2.2.2⟩,⟨fun b'=>Nat.le_trans (h.le.up b') (hup b'),fun b' i hi=>(hcell b' i (Nat.lt_of_lt_of_le hi (h.le.up b'))).trans (h.le.cell b' i hi),fun b' s hs'=>hshape b' s (h.le.shape b' s hs')⟩,?_,?_,?_,
  h.objinj,h.objnew,h.live,h.tipinj,h.tipobj,h.tipnew,fun m b' hm=>by rw[hs]; exact h.tiplt m b' hm,h.eta.stepN (fun L hL=>.inl ⟨hL,rfl⟩) (by rw[hs]; exact Nat.le_refl _) (fun n b hn=>h.eta.tipN hn) fun k o hk=>h.eta.objN hk⟩,ht⟩
 ·intro b' i hi
  by_cases he:b' = b
  ·subst he; simp only[upd_same] at hi; exact hsane i hi
  ·simp only[Q6 _ _ he] at hi; rw[hcell b' i hi]; exact h.sane b' i hi
 ·intro b' hb' hna
  have hne:b'≠b:=by
   rintro rfl
   rcases hnew with h1 | h1
   ·omega
   ·exact hna h1
  have:=h.frame b' hb' hna
  exact⟨(hother b' hne).trans this.1,by simp only[Q6 _ _ hne]; exact this.2⟩
 ·intro k o hk
  exact(h.objs k o hk).keep ht (hother _ (hobj k o hk).symm) (.inl rfl)
 ·intro k o hk
  simp only[Q6 _ _ (hobj k o hk).symm]
  exact h.objγ k o hk
theorem RD.slCells {P:Program} {γ:Nat→Nat} {w:World} {sz:Nat} {es:List (List D)} {v:Value} (h:RD γ w (.sl sz es) v) (hs:∀b i,i < γ b→(w.cell? ⟨b,i,none⟩).isSome) :
  ∃base cap,v = .slice base es.length cap∧es.length≤cap∧(base=none→cap=0)∧(∀(i:Nat) (cs:List D),es[i]? = some cs→cs.length=sz) ∧
   ∃cells:List Value,cells.length=es.length*sz∧(∀w' : World,(∀b i,i < γ b→w'.cell? ⟨b,i,none⟩=w.cell? ⟨b,i,none⟩)→(Builtin.firstCells sz es.length v).run P w' = .ok cells.toArray w') ∧
    ∀(i j:Nat) (cs:List D) c u,es[i]? = some cs→cs[j]? = some c→cells[i*sz+j]? = some u→RD γ w c u:=by
 cases h with
 | nil _ a cap h0=>exact⟨a,cap,rfl,Nat.zero_le _,h0,by simp,[],by simp,fun w' _=>by cases a <;> simp[Builtin.firstCells,loadCells,loadCellsFrom],by simp⟩
 | sl _ _ b off len cap hl hγ hcap hsz hc =>
  subst hl
  have hex:∀i,i < es.length*sz→∃u,w.cell? ⟨b,off+i,none⟩=some u:=fun i hi=>Option.isSome_iff_exists.1 (hs b (off+i) (by omega))
  have hget:∀i,i < es.length*sz→w.cell? ⟨b,off+i,none⟩=some ((w.cell? ⟨b,off+i,none⟩).getD undef):=fun i hi=>by
   obtain⟨u,hu⟩:=hex i hi; rw[hu]; rfl
  refine⟨some ⟨b,off,none⟩,cap,rfl,hcap,by simp,hsz,(List.range (es.length*sz)).map (fun i=>(w.cell? ⟨b,off+i,none⟩).getD undef),by simp,?_,?_⟩
  ·intro w' hw'
   refine run_firstCells_some w' sz es.length _ _ _ _ (by simp) ?_
   intro j u hu
   rw[List.getElem?_map,Option.map_eq_some_iff] at hu
   obtain⟨i,hi,rfl⟩:=hu
   have hlt:j < es.length*sz:=by have:=(List.getElem?_eq_some_iff.1 hi).1; simpa using this
   have:i=j:=by rw[List.getElem?_range hlt] at hi; simpa using hi.symm
   subst this
   rw[addr_add,hw' b _ (by omega)]
   exact hget i hlt
  ·intro i j cs c u hi hj hu
   have h1:i < es.length:=(List.getElem?_eq_some_iff.1 hi).1
   have h2:j < cs.length:=(List.getElem?_eq_some_iff.1 hj).1
   rw[hsz i cs hi] at h2
   have hlt:=Q48 h1 h2
   rw[List.getElem?_map,List.getElem?_range hlt] at hu
   simp only[Option.map_some,Option.some.injEq] at hu
   refine hc i cs j c u hi hj ?_
   rw[Nat.add_assoc,hget _ hlt,hu]
theorem RD.ofCells {γ:Nat→Nat} {w:World} {sz:Nat} {es:List (List D)} {b off cap:Nat} (hγ:off+es.length*sz≤γ b) (hcap:es.length≤cap)
  (hsz:∀(i:Nat) (cs:List D),es[i]? = some cs→cs.length=sz)
  (hc:∀(i j:Nat) (cs:List D) c u,es[i]? = some cs→cs[j]? = some c→w.cell? ⟨b,off+(i*sz+j),none⟩=some u→RD γ w c u) :
  RD γ w (.sl sz es) (.slice (some ⟨b,off,none⟩) es.length cap) :=
 .sl sz es b off es.length cap rfl hγ hcap hsz fun i cs j c v hi hj hv=>hc i j cs c v hi hj (by rw[← Nat.add_assoc]; exact hv)
theorem RD.ofCells' {γ:Nat→Nat} {w:World} {sz:Nat} {es:List (List D)} {b off len cap:Nat} (hl:len=es.length) (hγ:off+len*sz≤γ b) (hcap:len≤cap)
  (hsz:∀(i:Nat) (cs:List D),es[i]? = some cs→cs.length=sz)
  (hc:∀(i j:Nat) (cs:List D) c u,es[i]? = some cs→cs[j]? = some c→w.cell? ⟨b,off+(i*sz+j),none⟩=some u→RD γ w c u) :
  RD γ w (.sl sz es) (.slice (some ⟨b,off,none⟩) len cap):=by
 subst hl; exact .ofCells hγ hcap hsz hc
theorem Q3n {P:Program} {b off:Nat} {T:TypeId} {fr:Nat×Nat}:∀(vs:List Value) (i:Nat) (w:World) (arr:Array Value),w.heap[b]? = some (.cells arr T fr) →
  (∀v ∈ vs,v.oneCell' = true)→off+i+vs.length≤arr.size→(∀j,off+i≤j→j < off+i+vs.length→w.frozen? ⟨b,j,none⟩=false) →
  ∃w' arr',(storeCells ⟨b,off,none⟩ vs i).run P w = .ok () w'∧w'.heap[b]? = some (.cells arr' T fr)∧arr'.size=arr.size ∧
   (∀j,arr'[j]? = if off+i≤j∧j < off+i+vs.length then vs[j - (off+i)]? else arr[j]?)∧w'.heap.size=w.heap.size∧(∀b',b'≠b→w'.heap[b']? = w.heap[b']?)∧(w'.os=w.os∧w'.output=w.output∧w'.tape=w.tape∧w.drawn≤w'.drawn)
 | [],i,w,arr,hb,_,_,_=>⟨w,arr,rfl,hb,rfl,fun j=>by rw[if_neg (by simp only[List.length_nil]; omega)],rfl,fun _ _=>rfl,rfl,rfl,rfl,Nat.le_refl _⟩
 | v :: vs,i,w,arr,hb,h1,hl,hf=>by
  simp only[List.length_cons] at hl hf
  have hlt:off+i < arr.size:=by omega
  have hv:v.oneCell' = true:=h1 v List.mem_cons_self
  have hcell:w.cell? ⟨b,off+i,none⟩=some arr[off+i]:=by rw[cell?_cells hb]; simp[hlt]
  have hfr:w.frozen? ⟨b,off+i,none⟩=false:=hf (off+i) (Nat.le_refl _) (by omega)
  have hblt:b < w.heap.size:=(Array.getElem?_eq_some_iff.1 hb).1
  have hset:(w.setCell ⟨b,off+i,none⟩ v).heap[b]? = some (.cells (arr.setIfInBounds (off+i) v) T fr):=by
   simp only[World.setCell,Array.getElem?_modify,hb,if_true,Option.map_some]
   rfl
  have hst:(store (⟨b,off+i,none⟩:Addr) v).run P w = .ok () (w.setCell ⟨b,off+i,none⟩ v):=by
   rw[run_store P w _ v _ hv,hcell,hfr]; rfl
  obtain⟨w',arr',hr,hb',hs',hp',hz',ho',hi'⟩:=Q3n (P:=P) (b:=b) (off:=off) (T:=T) vs (i+1) (w.setCell ⟨b,off+i,none⟩ v) _ hset
   (fun u hu=>h1 u (List.mem_cons_of_mem _ hu)) (by simp; omega) (fun j h2 h3=>by rw[World.frozen?_setCell]; exact hf j (by omega) (by omega))
  refine⟨w',arr',?_,hb',by rw[hs']; simp,?_,by rw[hz']; simp,fun b' hne=>by rw[ho' b' hne]; exact heap_setCell_other w _ b' v hne,hi'⟩
  ·simp only[storeCells]
   rw[addr_add,Sem.run_bind,hst,Result.andThen_ok]
   exact hr
  ·intro j
   rw[hp' j]
   by_cases h1:j=off+i
   ·subst h1
    rw[if_neg (by omega),if_pos (by simp only[List.length_cons]; omega)]
    simp[hlt]
   ·by_cases h2:off+(i+1)≤j∧j < off+(i+1)+vs.length
    ·rw[if_pos h2,if_pos (by simp only[List.length_cons]; omega)]
     rw[show j - (off+i)=(j - (off+(i+1)))+1 by omega]
     rfl
    ·rw[if_neg h2,if_neg (by simp only[List.length_cons]; omega)]
     simp[Ne.symm h1]
def oneD:D→Bool
 | .sc u=>u.oneCell'
 | .agg _=>false
 | _=>true
theorem Qcw {γ:Nat→Nat} {w:World} {x:D} {v:Value} (h:RD γ w x v) (ho:oneD x=true):v.oneCell' = true:=by
 cases h with
 | sc v=>exact ho
 | agg=>simp[oneD] at ho
 | nil=>rfl
 | sl=>rfl
 | ep=>rfl
 | any q v h1 h2=>exact h2
theorem getElem?_append_cells {sz:Nat} {es fs:List (List D)} (he:∀(i:Nat) cs,es[i]? = some cs→cs.length=sz) (hf:∀(i:Nat) cs,fs[i]? = some cs→cs.length=sz) (i:Nat) (cs:List D)
  (h:(es++fs)[i]? = some cs):cs.length=sz:=by
 rw[List.getElem?_append] at h
 split at h
 ·exact he i cs h
 ·exact hf _ cs h
theorem run_append_fits' {P:Program} {w w' : World} {ts:Array TypeId} {ty t e u e' : TypeId} {i:TypeInfo} (h0:ts[0]? = some t) (h1:ts[1]? = some u) (hu:P.underlying u=some (.slice e'))
  (ht:P.underlying t=some (.slice e)) (hi:P.info? e=some i)
  {base xb:Option Addr} {len cap n xc:Nat} {news:List Value} (hx:(Builtin.firstCells i.size n (.slice xb n xc)).run P w = .ok news.toArray w) (hneed:len+n≤cap)
  (hst:(base=none∧w' = w)∨∃a,base=some a∧(storeCells (a.add (len*i.size)) news).run P w = .ok () w') :
  (Builtin.append_ ts ty #[.slice base len cap,.slice xb n xc]).run P w = .ok (.slice base (len+n) cap) w':=by
 rcases hst with ⟨rfl,rfl⟩ | ⟨a,rfl,hst⟩
 ·simp[Builtin.append_,h0,h1,run_underlying ht,run_underlying hu,sizeOf,typeInfo,hi,Builtin.lenOf,hneed,hx]
 ·simp[Builtin.append_,h0,h1,run_underlying ht,run_underlying hu,sizeOf,typeInfo,hi,Builtin.lenOf,hneed,hx,hst]
theorem Q5u {P:Program} {w:World} {ts:Array TypeId} {ty t e u e' : TypeId} {i:TypeInfo} {z:Value} (h0:ts[0]? = some t) (h1:ts[1]? = some u) (hu:P.underlying u=some (.slice e'))
  (ht:P.underlying t=some (.slice e)) (hi:P.info? e=some i) (hz:i.zero=some z)
  {base xb:Option Addr} {len cap n xc:Nat} {news olds:List Value} (hx:(Builtin.firstCells i.size n (.slice xb n xc)).run P w.drew = .ok news.toArray w.drew)
  (ho:(Builtin.firstCells i.size len (.slice base len cap)).run P w.drew = .ok olds.toArray w.drew) (hneed : ¬len+n≤cap)
  (h63:((len+n:Nat):Int)≤9223372036854775807) (h48:(len+n)*i.bytes≤140737488355328) :
  (Builtin.append_ ts ty #[.slice base len cap,.slice xb n xc]).run P w =
   .ok (.slice (some ⟨w.heap.size,0,none⟩) (len+n) (grownCap w (len+n) cap e))
    (w.drew.alloc (.cells (olds.toArray++news.toArray++Builtin.zeroCells z.cells (grownCap w (len+n) cap e - (len+n))) e)):=by
 have h63' : ¬(9223372036854775807 < ((len:Int)+(n:Int))):=by omega
 have hfit:=growslice_fits (need:=len+n) (old:=cap) (by omega) h48
 have h48' : ¬(281474976710656 < Builtin.nextslicecap (len+n) cap*i.bytes):=by omega
 simp[Builtin.append_,h0,h1,run_underlying ht,run_underlying hu,sizeOf,typeInfo,zeroValue,hi,hz,Builtin.lenOf,hneed,h63',h48',Question.forced,hx,ho,Go.newRow,grownCap]
 congr 2
 apply Array.ext'
 simp[List.append_assoc]
theorem Qaq {sz:Nat} {fs:List (List D)} (hsz:∀(i:Nat) cs,fs[i]? = some cs→cs.length=sz) {k:Nat} (hk:k < fs.length*sz) :
  ∃(i j:Nat) (cs:List D) (c:D),k=i*sz+j∧fs[i]? = some cs∧cs[j]? = some c:=by
 have hpos:0 < sz:=by
  rcases Nat.eq_zero_or_pos sz with h | h
  ·subst h; simp at hk
  ·exact h
 have h1:k / sz < fs.length:=by rw[Nat.div_lt_iff_lt_mul hpos]; exact hk
 have h2:k % sz < sz:=Nat.mod_lt _ hpos
 have h3:(fs[k / sz]).length=sz:=hsz (k / sz) _ (by simp[h1])
 exact⟨k / sz,k % sz,fs[k / sz],(fs[k / sz])[k % sz]'(by omega),by rw[Nat.mul_comm]; exact(Nat.div_add_mod k sz).symm,by simp[h1],by simp[h3,h2]⟩
section
variable {P:Program} {o:Oper} {X:Store}
def SrcOk (P:Program) (g:Gh) (w:World) (sz:Nat) (fs:List (List D)) (vx:Value):Prop :=
 ∃xb xc,vx = .slice xb fs.length xc∧(∀(i:Nat) (cs:List D),fs[i]? = some cs→cs.length=sz)∧∃news:List Value,news.length=fs.length*sz ∧
  (Builtin.firstCells sz fs.length vx).run P w = .ok news.toArray w∧(Builtin.firstCells sz fs.length vx).run P w.drew = .ok news.toArray w.drew ∧
   ∀(i j:Nat) (cs:List D) c u,fs[i]? = some cs→cs[j]? = some c→news[i*sz+j]? = some u→RD g.γ w c u
theorem Qd7 {ty:Option TypeId} {ts:Array TypeId} {s x:Operand} {n sz:Nat} {es fs:List (List D)} {t u e e' : TypeId} {i:TypeInfo} {z:Value} (m:Nat)
  (ho:o.op = .call { callee:=.builtin .append,args:=#[s,x],argTypes:=ts }) (h0:ts[0]? = some t) (h1:ts[1]? = some u) (hu:P.underlying u=some (.slice e'))
  (ht:P.underlying t=some (.slice e)) (hi:P.info? e=some i) (hz:i.zero=some z) (hzs:z.cells.size=sz) (hsz:i.size=sz) (hn:n ∈ X.live) (hm:m ∉ X.live.filter (· != n)) (hX:Qa [m] X=true)
  (hone:∀cs ∈ fs,∀c ∈ cs,oneD c=true) (hbig:(es.length+fs.length)*i.bytes≤140737488355328) (hlen:es.length+fs.length≤4611686018427387904)
  (hty:∀e',ty=some e'→e' = e) (ax:AV) (hax:∀ {nm:List Nat} {B:Base} {g:Gh} {w:World} {v:Value},HR nm B g w X→RA g w ax v→SrcOk P g w sz fs v) :
  OpT P o [(s,.tip n sz es ty),(x,ax)] X ⟨X.objs,m :: X.live.filter (· != n)⟩ [m] (.tip m sz (es++fs) ty):=by
 subst hsz
 intro nm hsm B g w a hr hrd next Q hnext
 have e1:=rd0 hrd
 have e2:=rd1 hrd
 simp only at e1 e2
 unfold Oper.wp
 have hrun:∀r,(Builtin.append_ ts o.type #[a.eval s,a.eval x]).run P w=r→(execOp a.eval o).run P w=r.andThen fun v w'=>.ok (.value v) w':=by
  intro r hr'
  simp only[execOp,ho,resolve]
  simp[invoke,builtin,hr']
 generalize a.eval s=vs at e1 hrun
 generalize a.eval x=vx at e2 hrun
 cases e1 with
 | tip _ _ _ _ _ e1 htip =>
 obtain⟨base,cap,rfl,hcap,hbn,hszE,olds,hol,horun,hoc⟩:=e1.slCells (P:=P) hr.sane
 obtain⟨xb,xc,rfl,hszF,news,hnl,hnrun0,hnrun1,hnc⟩:=hax hr e2
 have hszEF:=getElem?_append_cells hszE hszF
 have hob:∃ob,g.β n=some ob:=Option.isSome_iff_exists.1 ((hr.live n).1 hn)
 obtain⟨ob,hob⟩:=hob
 obtain⟨hr1,ht1⟩:=hr.dropTip n
 have hone' : ∀v ∈ news,v.oneCell' = true:=by
  intro v hv
  obtain⟨k,hk⟩:=List.mem_iff_getElem?.1 hv
  have hklt:k < fs.length*i.size:=by have:=(List.getElem?_eq_some_iff.1 hk).1; omega
  obtain⟨p,q,cs,c,rfl,hp,hq⟩:=Qaq hszF hklt
  exact Qcw (hnc p q cs c v hp hq hk) (hone cs (List.mem_of_getElem? hp) c (List.mem_of_getElem? hq))
 by_cases hneed:es.length+fs.length≤cap
 ·-- the result lies where s lay
  have same:fs = []→(Builtin.append_ ts o.type #[.slice base es.length cap,.slice xb fs.length xc]).run P w = .ok (.slice base es.length cap) w →
    base=none →
    Oper.upon P o a next Q ((execOp a.eval o).run P w):=by
   intro hf hrn hfull
   obtain⟨hr2,ht2⟩:=hr1.addTip (m:=m) hm none hX (by simp)
   rw[hrun _ hrn]
   subst hf
   simp only[List.append_nil] at *
   refine hnext _ w _ hr2 (ht1.trans ht2) (.tip m i.size es ty _ (e1.mono (ht1.trans ht2).le) ?_)
   subst hfull; trivial
  cases hb:base with
  | none =>
   have h0' : cap=0:=hbn hb
   have hf:fs = []:=by cases fs with
    | nil=>rfl
    | cons _ _=>simp at hneed; omega
   have hrn:=run_append_fits' (P:=P) (w:=w) (w':=w) (ty:=o.type) h0 h1 hu ht hi (base:=base) hnrun0 hneed (.inl ⟨hb,rfl⟩)
   subst hb
   refine same hf ?_ rfl
   rw[hrn]; subst hf; rfl
  | some b0 =>
   subst hb
   obtain⟨b,off,sp⟩:=b0
   obtain⟨hsp,htp⟩:=htip ob hob
   simp only at hsp; subst hsp
   by_cases hfe:fs = []
   ·subst hfe
    have hn0:news = []:=by simpa using hnl
    subst hn0
    have hrn:=run_append_fits' (P:=P) (w:=w) (w':=w) (ty:=o.type) h0 h1 hu ht hi (base:=some ⟨b,off,none⟩) hnrun0 hneed (.inr ⟨_,rfl,rfl⟩)
    obtain⟨hob',hγ,hroom,htyp⟩:=htp
    ·-- nothing is written; the label keeps its block
     subst hob'
     obtain⟨hr2,ht2⟩:=hr1.addTip (m:=m) hm (some b) hX (by
      intro b' hb'; cases hb'
      refine⟨hr.tiplt n b hob,hr.tipnew n b hob,fun k p hk=>hr.tipobj n b k p hob hk,fun n' hn'=>?_,hr.eta.dropN hob⟩
      by_cases he:n' = n
      ·subst he; simp[upd_same] at hn'
      ·simp only[Q6 _ _ he] at hn'; exact he (hr.tipinj n' n b hn' hob))
     rw[hrun _ hrn]
     simp only[List.append_nil] at hnext
     refine hnext _ w _ hr2 (ht1.trans ht2) (.tip m i.size es ty _ (e1.mono (ht1.trans ht2).le) ?_)
     ·intro ob' hob'
      simp only[upd_same,Option.some.injEq] at hob'
      exact⟨rfl,hob'.symm,hγ,hroom,htyp⟩
   ·have hpos:0 < fs.length:=List.length_pos_iff.2 hfe
    obtain⟨hob',hγ,hroom,htyp⟩:=htp
    subst hob'
    simp only at hγ hroom
    have hblt:=hr.tiplt n b hob
    have hmul:(es.length+fs.length)*i.size=es.length*i.size+fs.length*i.size:=Nat.add_mul _ _ _
    have hmulc:(es.length+fs.length)*i.size≤cap*i.size:=Nat.mul_le_mul_right _ hneed
    -- the block
    have hblk:fs.length*i.size=0∨∃arr T fr,w.heap[b]? = some (.cells arr T fr)∧off+cap*i.size≤arr.size:=by
     rcases Nat.eq_zero_or_pos (fs.length*i.size) with h | h
     ·exact .inl h
     ·right
      have hlast:=hroom (off+cap*i.size - 1) (by omega) (by omega)
      obtain⟨v,hv⟩:=Option.isSome_iff_exists.1 hlast.1
      unfold World.cell? at hv
      simp only at hv
      split at hv
      ·rename_i arr T fr hh
       refine⟨arr,T,fr,hh,?_⟩
       simp at hv
       have:=(Array.getElem?_eq_some_iff.1 hv).1
       omega
      ·cases hv
    rcases hblk with hzero | ⟨arr,T,fr,hblk,hsize⟩
    ·-- elements without cells
     have hn0:news = []:=List.length_eq_zero_iff.1 (by omega)
     subst hn0
     have hrn:=run_append_fits' (P:=P) (w:=w) (w':=w) (ty:=o.type) h0 h1 hu ht hi (base:=some ⟨b,off,none⟩) hnrun0 hneed (.inr ⟨_,rfl,rfl⟩)
     obtain⟨hr2,ht2⟩:=hr1.addTip (m:=m) hm (some b) hX (by
      intro b' hb'; cases hb'
      refine⟨hr.tiplt n b hob,hr.tipnew n b hob,fun k p hk=>hr.tipobj n b k p hob hk,fun n' hn'=>?_,hr.eta.dropN hob⟩
      by_cases he:n' = n
      ·subst he; simp[upd_same] at hn'
      ·simp only[Q6 _ _ he] at hn'; exact he (hr.tipinj n' n b hn' hob))
     rw[hrun _ hrn]
     refine hnext _ w _ hr2 (ht1.trans ht2) (.tip m i.size _ ty _ ?_ ?_)
     ·refine .ofCells' List.length_append.symm (by simp only; omega) hneed hszEF ?_
      intro p q cs c v hp hq hv
      have h2:q < cs.length:=(List.getElem?_eq_some_iff.1 hq).1
      rw[hszEF p cs hp] at h2
      have:i.size=0:=by
       rcases Nat.mul_eq_zero.1 hzero with h | h
       ·omega
       ·exact h
      omega
     ·intro ob' hob'
      simp only[upd_same,Option.some.injEq] at hob'
      refine⟨rfl,hob'.symm,?_,?_,htyp⟩
      ·simp only; omega
      ·intro p h3 h4; exact hroom p (by simp only at h3; omega) h4
    ·obtain⟨w',arr',hst,hb',hs',hp',hz',hoth,hi'⟩:=Q3n (P:=P) (off:=off+es.length*i.size) news 0 w arr hblk hone' (by omega) (by
      intro j h3 h4; exact(hroom j (by omega) (by omega)).2)
     have hrn:=run_append_fits' (P:=P) (w:=w) (w':=w') (ty:=o.type) h0 h1 hu ht hi (base:=some ⟨b,off,none⟩) hnrun0 hneed (.inr ⟨_,rfl,by rw[addr_add]; exact hst⟩)
     simp only[Nat.add_zero] at hp'
     have holdc:∀k,k < off+es.length*i.size→w'.cell? ⟨b,k,none⟩=w.cell? ⟨b,k,none⟩:=by
      intro k hk
      rw[cell?_cells hb',cell?_cells hblk,hp' k,if_neg (by omega)]
     have hsane' : ∀k,k < off+(es.length+fs.length)*i.size→(w'.cell? ⟨b,k,none⟩).isSome:=by
      intro k hk
      rw[cell?_cells hb']
      have:k < arr'.size:=by omega
      simp[this]
     obtain⟨hr2,ht2⟩:=hr1.raise (w':=w') (b:=b) (n:=off+(es.length+fs.length)*i.size) hblt (hr.tipnew n b hob) (fun k p hk=>hr.tipobj n b k p hob hk) (by
      intro n' hn'
      by_cases he:n' = n
      ·subst he; simp[upd_same] at hn'
      ·simp only[Q6 _ _ he] at hn'; exact he (hr.tipinj n' n b hn' hob)) (hr.eta.dropN hob) hz' hi' hoth (by intro k hk; exact holdc k (by simp only at hk; omega)) (by simp only; omega) hsane' (by
      intro s hs0
      simp only[World.shape?,hblk] at hs0
      simp only[World.shape?,hb',hs']
      exact hs0)
     obtain⟨hr3,ht3⟩:=hr2.addTip (m:=m) hm (some b) hX (by
      intro b' hb'; cases hb'
      refine⟨by rw[hz']; exact hblt,hr.tipnew n b hob,fun k p hk=>hr.tipobj n b k p hob hk,fun n' hn'=>?_,hr.eta.dropN hob⟩
      by_cases he:n' = n
      ·subst he; simp[upd_same] at hn'
      ·simp only[Q6 _ _ he] at hn'; exact he (hr.tipinj n' n b hn' hob))
     have hT:=(ht1.trans ht2).trans ht3
     rw[hrun _ hrn]
     refine hnext _ w' _ hr3 hT (.tip m i.size _ ty _ ?_ ?_)
     ·refine .ofCells' List.length_append.symm (by simp only[upd_same]; omega) hneed hszEF ?_
      intro p q cs c v hp hq hv
      have h2:q < cs.length:=(List.getElem?_eq_some_iff.1 hq).1
      rw[hszEF p cs hp] at h2
      rw[List.getElem?_append] at hp
      split at hp
      ·rename_i hplt
       have hlt:=Q48 hplt h2
       rw[holdc _ (by omega)] at hv
       have hold:=horun w fun _ _ _=>rfl
       cases e1 with
       | nil=>simp at hp
       | sl _ _ _ _ _ _ _ _ _ _ hc =>
        exact(hc p cs q c v hp hq (by rw[Nat.add_assoc]; exact hv)).mono hT.le
      ·rename_i hpge
       have hplt:p - es.length < fs.length:=by have:=(List.getElem?_eq_some_iff.1 hp).1; omega
       have hlt:=Q48 hplt h2
       have hpq:p*i.size+q=es.length*i.size+((p - es.length)*i.size+q):=by
        have:p=es.length+(p - es.length):=by omega
        conv=>lhs; rw[this,Nat.add_mul]
        omega
       rw[cell?_cells hb',hp',if_pos (by omega)] at hv
       refine(hnc (p - es.length) q cs c v hp hq ?_).mono hT.le
       rw[← hv]; congr 1; omega
     ·intro ob' hob'
      simp only[upd_same,Option.some.injEq] at hob'
      refine⟨rfl,hob'.symm,by simp only[upd_same],?_,?_⟩
      rotate_left
      ·intro e1 he1
       obtain⟨h1,c,h2⟩:=htyp e1 he1
       refine⟨h1,arr'.size,?_⟩
       simp only[World.shape?,hblk] at h2
       simp only[World.shape?,hb']
       simp only[Option.some.injEq,Prod.mk.injEq] at h2
       rw[h2.1]
      intro p h3 h4
      simp only at h3 h4
      have h5:=hroom p (by omega) h4
      refine⟨?_,?_⟩
      ·rw[cell?_cells hb']
       have:p < arr'.size:=by omega
       simp[this]
      ·have:=h5.2
       simp only[World.frozen?,hblk] at this
       simp only[World.frozen?,hb']
       exact this
 ·-- a new row
  obtain⟨hrd',htd⟩:=hr1.drew
  have hdc:∀b k,k < g.γ b→(w.drew).cell? ⟨b,k,none⟩=w.cell? ⟨b,k,none⟩:=fun _ _ _=>rfl
  have hrn:=Q5u (P:=P) (w:=w) (ty:=o.type) h0 h1 hu ht hi hz hnrun1 (horun w.drew hdc) hneed (by omega) hbig
  have hge:=grownCap_ge w (es.length+fs.length) cap e
  generalize grownCap w (es.length+fs.length) cap e=nc at hrn hge
  have hmul:(es.length+fs.length)*i.size=es.length*i.size+fs.length*i.size:=Nat.add_mul _ _ _
  have harr:(olds.toArray++news.toArray++Builtin.zeroCells z.cells (nc - (es.length+fs.length))).size=nc*i.size:=by
   simp only[Array.size_append,List.size_toArray,size_zeroCells,hol,hnl,hzs]
   rw[← hmul,← Nat.add_mul]
   congr 1; omega
  have hncm:(es.length+fs.length)*i.size≤nc*i.size:=Nat.mul_le_mul_right _ hge
  generalize harrE:olds.toArray++news.toArray++Builtin.zeroCells z.cells (nc - (es.length+fs.length))=arr at hrn harr
  obtain⟨hr2,ht2⟩:=hrd'.newRow arr e ((es.length+fs.length)*i.size) (by omega)
  obtain⟨hr3,ht3⟩:=hr2.addTip (m:=m) hm (some w.drew.heap.size) hX (by
   intro b' hb'; cases hb'
   refine⟨by simp,.inl hrd'.base,fun k p hk=>?_,fun n' hn'=>?_,hrd'.eta.ltN (Nat.le_refl _)⟩
   ·have:=Q1o (hrd'.objs k p hk); simp only at this ⊢; omega
   ·have:=hrd'.tiplt n' _ hn'; omega)
  have hT:=((ht1.trans htd).trans ht2).trans ht3
  rw[hrun _ hrn]
  have hnewc:∀k,(w.drew.alloc (.cells arr e)).cell? ⟨w.drew.heap.size,k,none⟩=arr[k]?:=fun k=>cell?_cells (heap_alloc_new w.drew (.cells arr e)) k
  refine hnext _ _ _ hr3 hT (.tip m i.size _ ty _ ?_ ?_)
  ·have hww:w.heap.size=w.drew.heap.size:=rfl
   rw[hww]
   refine .ofCells' List.length_append.symm (by simp only[upd_same]; omega) hge hszEF ?_
   intro p q cs c v hp hq hv
   have h2:q < cs.length:=(List.getElem?_eq_some_iff.1 hq).1
   rw[hszEF p cs hp] at h2
   rw[Nat.zero_add,hnewc,← harrE] at hv
   rw[List.getElem?_append] at hp
   split at hp
   ·rename_i hplt
    have hlt:=Q48 hplt h2
    rw[Array.append_assoc,Array.getElem?_append_left (by simp; omega)] at hv
    exact(hoc p q cs c v hp hq (by simpa using hv)).mono hT.le
   ·rename_i hpge
    have hplt:p - es.length < fs.length:=by have:=(List.getElem?_eq_some_iff.1 hp).1; omega
    have hlt:=Q48 hplt h2
    have hpq:p*i.size+q=es.length*i.size+((p - es.length)*i.size+q):=by
     have:p=es.length+(p - es.length):=by omega
     conv=>lhs; rw[this,Nat.add_mul]
     omega
    rw[Array.getElem?_append_left (by simp; omega),Array.getElem?_append_right (by simp; omega)] at hv
    refine(hnc (p - es.length) q cs c v hp hq ?_).mono hT.le
    rw[← hv]
    simp only[List.size_toArray,List.getElem?_toArray]
    congr 1; omega
  ·intro ob' hob'
   simp only[upd_same,Option.some.injEq] at hob'
   subst hob'
   have hww:w.heap.size=w.drew.heap.size:=rfl
   refine⟨rfl,by rw[hww],by rw[hww]; simp only[upd_same,Nat.zero_add],?_,?_⟩
   rotate_left
   ·intro e1 he1
    rw[hty e1 he1]
    refine⟨rfl,arr.size,?_⟩
    have:=heap_alloc_new w.drew (.cells arr e)
    simp only[World.shape?]
    rw[hww,this]
   intro p h3 h4
   simp only[Nat.zero_add] at h3 h4
   rw[hww]
   refine⟨by rw[hnewc]; simp; omega,?_⟩
   exact frozen_of_row _ _ _ arr e (heap_alloc_new w.drew (.cells arr e))
theorem Qwr {ty:Option TypeId} {ts:Array TypeId} {s x:Operand} {n sz:Nat} {es fs:List (List D)} {t u e e' : TypeId} {i:TypeInfo} {z:Value} (m:Nat)
  (ho:o.op = .call { callee:=.builtin .append,args:=#[s,x],argTypes:=ts }) (h0:ts[0]? = some t) (h1:ts[1]? = some u) (hu:P.underlying u=some (.slice e'))
  (ht:P.underlying t=some (.slice e)) (hi:P.info? e=some i) (hz:i.zero=some z) (hzs:z.cells.size=sz) (hsz:i.size=sz) (hn:n ∈ X.live) (hm:m ∉ X.live.filter (· != n)) (hX:Qa [m] X=true)
  (hone:∀cs ∈ fs,∀c ∈ cs,oneD c=true) (hbig:(es.length+fs.length)*i.bytes≤140737488355328) (hlen:es.length+fs.length≤4611686018427387904)
  (hty:∀e',ty=some e'→e' = e) :
  OpT P o [(s,.tip n sz es ty),(x,.d (.sl sz fs))] X ⟨X.objs,m :: X.live.filter (· != n)⟩ [m] (.tip m sz (es++fs) ty) :=
 Qd7 m ho h0 h1 hu ht hi hz hzs hsz hn hm hX hone hbig hlen hty _ fun hr e=>by
  cases e with
  | d _ _ e =>
   obtain⟨xb,xc,rfl,_,_,h1,news,h2,h3,h4⟩:=e.slCells (P:=P) hr.sane
   exact⟨xb,xc,rfl,h1,news,h2,h3 _ fun _ _ _=>rfl,h3 _ fun _ _ _=>rfl,h4⟩
end
end Go.Ab
namespace Go.Ab
structure CallI (P:Program) (f:FuncId):Prop where
 is : ∃ fn, P.funcs[f]? = some fn ∧ fn.body.isSome = true ∧ (fn.name == "runtime.NumGoroutine") = false
theorem Q1y {P:Program} {f:FuncId} (h:CallI P f) (args:Array Value) (w:World):(callFunc f args).run P w = .ok (.enter f args) w:=by
 obtain⟨fn,hf,hb,hn⟩:=h.is
 have hn' : ¬ (fn.name = "runtime.NumGoroutine") := by simpa using hn
 have hb' : ¬(fn.body=none):=by intro he; rw[he] at hb; cases hb
 simp[callFunc,hf,hn',hb']
section
variable {P:Program} {o:Oper} {X:Store}
theorem Q69 {g:Gh} {w:World} {a:Act} {args:Array Operand} {xs:List AV} (hrd:∀p ∈ args.toList.zip xs,RA g w p.2 (a.eval p.1)) :
  ∀(i:Nat) x v,xs[i]? = some x→(args.map a.eval)[i]? = some v→RA g w x v:=by
 intro i x v hx hv
 rw[Array.getElem?_map,Option.map_eq_some_iff] at hv
 obtain⟨op,hop,rfl⟩:=hv
 exact hrd (op,x) (List.mem_of_getElem? (i:=i) (by rw[List.getElem?_zip_eq_some]; exact⟨by simpa using hop,hx⟩))
theorem HR.pureCall {nm:List Nat} {B:Base} {g gc:Gh} {w w' : World} (h:HR nm B g w X) (h0:HR [] (Base.of { g with β:=fun _=>none } w X0) gc w' X0) :
  HR nm B { gc with β:=g.β,ρ:=g.ρ,η:=g.η } w' X∧Trans [] g w { gc with β:=g.β,ρ:=g.ρ,η:=g.η } w':=by
 have hna:∀b,¬(Base.of { g with β:=fun _=>none } w X0).allowed b:=by
  intro b hb
  rcases hb with ⟨k,o,hk,_⟩ | ⟨n,hn⟩
  ·simp[X0] at hk
  ·cases hn
 have hf:∀b,b < w.heap.size→w'.heap[b]? = w.heap[b]?∧gc.γ b=g.γ b:=fun b hb=>h0.frame b hb (hna b)
 have hs:w.heap.size≤w'.heap.size:=h0.base
 have hle:LeD g.γ w gc.γ w':=h0.le
 have ht:Trans [] g w { gc with β:=g.β,ρ:=g.ρ,η:=g.η } w':=⟨hle,fun _ _=>rfl,fun n ob _ he=>⟨he,fun b hb=>⟨(hf b (h.tiplt n b (hb▸he))).2,(hf b (h.tiplt n b (hb▸he))).1⟩⟩,fun L _ hL=>⟨rfl,fun i b hb=>⟨(hf b (h.eta.lt L i b hL hb)).2,(hf b (h.eta.lt L i b hL hb)).1⟩⟩⟩
 refine⟨⟨h.keep,h0.sane,Nat.le_trans h.base hs,⟨h0.io.1.trans h.io.1,h0.io.2.1.trans h.io.2.1,h0.io.2.2.1.trans h.io.2.2.1,Nat.le_trans h.io.2.2.2 h0.io.2.2.2⟩,h.le.trans hle,?_,?_,?_,h.objinj,h.objnew,h.live,h.tipinj,h.tipobj,h.tipnew,?_,h.eta.step (fun L hL=>.inl ⟨hL,rfl⟩) hs (fun n b hb=>.inl ⟨n,hb⟩) fun k o hk=>.inl ⟨k,o,hk,rfl⟩⟩,ht⟩
 ·intro b hb hnb
  have h1:=h.frame b hb hnb
  have h2:=hf b (Nat.lt_of_lt_of_le hb h.base)
  exact⟨h2.1.trans h1.1,h2.2.trans h1.2⟩
 ·intro k o hk
  have:=h.objs k o hk
  exact this.keep ht (hf _ (Q1o this)).1 (.inl rfl)
 ·intro k o hk
  have:=h.objs k o hk
  simp only[(hf _ (Q1o this)).2]
  exact h.objγ k o hk
 ·intro n b hn; exact Nat.lt_of_lt_of_le (h.tiplt n b hn) hs
mutual
def Q2i:AV→Bool
 | .d _=>true
 | .nm _ _=>false
 | .tip _ _ _ _=>false
 | .tpt _ _ _=>false
 | .tup l=>Qc l
 | .agg l=>Qc l
 | .clo _ l=>Qc l
def Qc:List AV→Bool
 | []=>true
 | x :: r=>Q2i x && Qc r
end
theorem Q3z {l:List AV} (h:Qc l=true) {i:Nat} {x:AV} (hx:l[i]? = some x):Q2i x=true:=by
 induction l generalizing i with
 | nil=>simp at hx
 | cons y r ih =>
  simp only[Qc,Bool.and_eq_true] at h
  cases i with
  | zero=>simp at hx; subst hx; exact h.1
  | succ i=>exact ih h.2 (by simpa using hx)
theorem RA.data {g g' : Gh} {w w' : World} {x:AV} {v:Value} (h:RA g w x v) (hd:Q2i x=true) (hle:LeD g.γ w g'.γ w'):RA g' w' x v:=by
 induction h with
 | d x v h=>exact .d x v (h.mono hle)
 | nm=>simp[Q2i] at hd
 | tip=>simp[Q2i] at hd
 | tpt=>simp[Q2i] at hd
 | tup l vs hl _ ih=>exact .tup l vs hl fun i x v h1 h2=>ih i x v h1 h2 (Q3z (by simpa[Q2i] using hd) h1)
 | agg l vs hl _ ih=>exact .agg l vs hl fun i x v h1 h2=>ih i x v h1 h2 (Q3z (by simpa[Q2i] using hd) h1)
 | clo f l vs hl _ ih=>exact .clo f l vs hl fun i x v h1 h2=>ih i x v h1 h2 (Q3z (by simpa[Q2i] using hd) h1)
theorem Does.use {f:FuncId} {xs:List AV} {res:AV} (hs:Does P f xs X0 res X0) (hd:Qc xs=true) (hdr:Q2i res=true) {nm:List Nat} {B:Base} {g:Gh} {w:World}
  (hr:HR nm B g w X) {vs:Array Value} (hl:xs.length=vs.size) (hvs:∀(i:Nat) x v,xs[i]? = some x→vs[i]? = some v→RA g w x v) :
  Calls P f vs w fun e w'=>∃v g',e = .returned v∧HR nm B g' w' X∧Trans [] g w g' w'∧RA g' w' res v:=by
 have h0:HR (X0.objs.map (·.1)) (Base.of { g with β:=fun _=>none } w X0) { g with β:=fun _=>none } w X0 :=
  ⟨by simp[X0],hr.sane,Nat.le_refl _,⟨rfl,rfl,rfl,Nat.le_refl _⟩,.refl _ _,fun b _ _=>⟨rfl,rfl⟩,by simp[X0],by simp[X0],by simp[X0],by simp[X0],by simp[X0],by simp,by simp,by simp,by simp,.off fun _=>rfl⟩
 have:=hs { g with β:=fun _=>none } w vs h0 hl fun i x v hx hv=>(hvs i x v hx hv).data (Q3z hd hx) (.refl _ _)
 refine this.mono ?_
 rintro e w' ⟨gc,v,rfl,hra,h1⟩
 obtain⟨h2,h3⟩:=hr.pureCall (gc:=gc) h1
 exact⟨v,_,rfl,h2,h3,hra.data hdr (.refl _ _)⟩
theorem Qt1 {f:FuncId} {args:Array Operand} {ts:Array TypeId} {xs:List AV} {res:AV} (ho:o.op = .call { callee:=.value (.func f),args:=args,argTypes:=ts }) (hf:CallI P f)
  (hs:Does P f xs X0 res X0) (hl:xs.length=args.size) (hd:Qc xs=true) (hdr:Q2i res=true):OpT P o (args.toList.zip xs) X X [] res:=by
 intro nm hsm B g w a hr hrd next Q hn
 unfold Oper.wp
 have:(execOp a.eval o).run P w = .ok (.enter f (args.map a.eval)) w:=by
  simp only[execOp,ho,resolve]
  simp[Act.eval,Deferred.ofValue,invoke,Q1y hf]
 rw[this]
 refine(hs.use hd hdr hr (by simpa using hl) (Q69 hrd)).mono ?_
 rintro e w' ⟨v,g',rfl,h1,h2,h3⟩
 exact hn g' w' v h1 h2 h3
theorem Qco {g:Gh} {w:World} {sz:Nat}:∀(parts:List (Nat×Value)) (es:List (List D)) (k:Nat) (arr:Array Value),
  parts.length=es.length→(∀(i:Nat) p,parts[i]? = some p→p.1=k+i)→(∀(i:Nat) p cs,parts[i]? = some p→es[i]? = some cs→cs.length=sz∧p.2.cells.size=sz ∧
   ∀(j:Nat) c u,cs[j]? = some c→p.2.cells[j]? = some u→RD g.γ w c u)→(k+parts.length)*sz≤arr.size →
  ∃arr',Instr.fill (fun i=>some (i*sz,sz)) arr parts=some arr'∧arr'.size=arr.size∧(∀j,j < k*sz→arr'[j]? = arr[j]?) ∧
   (∀(i j:Nat) cs c u,es[i]? = some cs→cs[j]? = some c→arr'[(k+i)*sz+j]? = some u→RD g.γ w c u)
 | [],es,k,arr,hl,_,_,_=>by
  cases es with
  | nil=>exact⟨arr,rfl,rfl,fun _ _=>rfl,by simp⟩
  | cons _ _=>simp at hl
 | (i0,v) :: parts,es,k,arr,hl,hi,hp,hsz=>by
  cases es with
  | nil=>simp at hl
  | cons cs es =>
   have e0:i0=k:=by simpa using hi 0 (i0,v) rfl
   subst e0
   obtain⟨h1,h2,h3⟩:=hp 0 (i0,v) cs rfl rfl
   simp only at h2 h3
   simp only[List.length_cons] at hsz hl
   have hmul:(i0+(parts.length+1))*sz=i0*sz+(parts.length+1)*sz:=Nat.add_mul _ _ _
   have hmul2:(parts.length+1)*sz=parts.length*sz+sz:=Nat.succ_mul _ _
   have hmul3:(i0+1)*sz=i0*sz+sz:=Nat.succ_mul _ _
   simp only[Instr.fill]
   rw[if_neg (by simp; omega)]
   have hrw:(Array.foldl (fun cs (x:Value×Nat)=>match x with | (c,j)=>cs.setIfInBounds (i0*sz+j) c) arr v.cells.zipIdx)=(v.cells.toList.zipIdx 0).foldl (fun cs p=>cs.setIfInBounds (i0*sz+p.2) p.1) arr:=by
    rw[← Array.foldl_toList,Array.toList_zipIdx]
   rw[hrw]
   obtain⟨arr',hf,hs',hk',hr'⟩:=Qco (g:=g) (w:=w) (sz:=sz) parts es (i0+1) ((v.cells.toList.zipIdx 0).foldl (fun cs p=>cs.setIfInBounds (i0*sz+p.2) p.1) arr) (by omega)
    (fun i p hp'=>by have:=hi (i+1) p (by simpa using hp'); omega) (fun i p cs' hp' hc'=>hp (i+1) p cs' (by simpa using hp') (by simpa using hc'))
    (by rw[Q77]; rw[Nat.add_mul,hmul3]; omega)
   refine⟨arr',hf,by rw[hs',Q77],?_,?_⟩
   ·intro j hj
    rw[hk' j (by omega),foldl_set _ _ _ _ _ (by simp; omega),if_neg (by omega)]
   ·intro i j cs' c u hc hj hu
    cases i with
    | zero =>
     simp at hc; subst hc
     have hjlt:j < sz:=by have:=(List.getElem?_eq_some_iff.1 hj).1; omega
     rw[Nat.add_zero,hk' _ (by omega),foldl_set _ _ _ _ _ (by simp; omega)] at hu
     rw[if_pos (by simp; omega)] at hu
     refine h3 j c u hj ?_
     have:i0*sz+j - (i0*sz+0)=j:=by omega
     rw[this] at hu
     simpa using hu
    | succ i =>
     refine hr' i j cs' c u (by simpa using hc) hj ?_
     rw[← hu]
     have:i0+1+i=i0+(i+1):=by omega
     rw[this]
theorem Qn5 {t e:TypeId} {n sz:Nat} {parts:Array (Nat×Operand)} {xs:List D} {i:TypeInfo} {z:Value} (ho:o.op = .buildSlice t n parts) (ht:P.underlying t=some (.slice e))
  (hi:P.info? e=some i) (hz:i.zero=some z) (hsz:i.size=sz) (hx:xs.length=n) (hidx:parts.toList.map (·.1)=List.range n) (hok:(xs.all fun x=>okSc (.d x) && x.cells.length == sz)=true)
  (hbig:n*sz≤16777216):OpT P o ((parts.toList.map (·.2)).zip (xs.map .d)) X X [] (.d (.sl sz (xs.map D.cells))):=by
 subst hsz
 intro nm hsm B g w a hr hrd next Q hn
 have hpl:parts.toList.length=n:=by rw[← List.length_map (f:=(·.1)),hidx,List.length_range]
 unfold Oper.wp
 have hpart:∀(j:Nat) p x,parts.toList[j]? = some p→xs[j]? = some x→RA g w (.d x) (a.eval p.2):=by
  intro j p x hp hx'
  exact hrd (p.2,.d x) (List.mem_of_getElem? (i:=j) (by
   rw[List.getElem?_zip_eq_some]
   exact⟨by rw[List.getElem?_map,hp]; rfl,by rw[List.getElem?_map,hx']; rfl⟩))
 have hfacts:∀(j:Nat) x,xs[j]? = some x→okSc (.d x)=true∧x.cells.length=i.size:=by
  intro j x hx'
  have:=List.all_eq_true.1 hok x (List.mem_of_getElem? hx')
  simpa using this
 generalize harr0:((Array.range (n*i.size)).map fun x=>(if n*i.size=0 then #[] else z.cells)[x % (if n*i.size=0 then #[] else z.cells).size]!)=arr0
 have harr0s:arr0.size=n*i.size:=by subst harr0; simp
 obtain⟨arr',hfill,hs',_,hc'⟩:=Qco (g:=g) (w:=w) (sz:=i.size) (parts.toList.map fun p=>(p.1,a.eval p.2)) (xs.map D.cells) 0 arr0 (by simp[hpl,hx]) (by
  intro j p hp
  rw[List.getElem?_map,Option.map_eq_some_iff] at hp
  obtain⟨q,hq,rfl⟩:=hp
  have hj:j < n:=by have:=(List.getElem?_eq_some_iff.1 hq).1; omega
  have:(parts.toList.map (·.1))[j]? = some q.1:=by rw[List.getElem?_map,hq]; rfl
  rw[hidx,List.getElem?_range hj] at this
  simp at this; simp[this]) (by
  intro j p cs hp hcs
  rw[List.getElem?_map,Option.map_eq_some_iff] at hp hcs
  obtain⟨q,hq,rfl⟩:=hp
  obtain⟨x,hx',rfl⟩:=hcs
  obtain⟨f1,f2⟩:=hfacts j x hx'
  obtain⟨c1,c2⟩:=(hpart j q x hq hx').cells f1
  have hcl:(AV.d x).cells.length=x.cells.length:=by simp[AV.cells]
  refine⟨f2,by simp only; omega,?_⟩
  intro k c u hk hu
  have:=c2 k (.d c) u (by simp[AV.cells,hk]) hu
  cases this with
  | d _ _ h=>exact h) (by simp[hpl,harr0s])
 have hrun:(execOp a.eval o).run P w = .ok (.value (.slice (some ⟨w.heap.size,0,none⟩) n n)) (w.alloc (.cells arr' e)):=by
  simp only[execOp,ho,Instr.buildSlice]
  have h24 : ¬(n*i.size > 2 ^ 24):=by omega
  by_cases h0:n*i.size=0
  ·have e0:arr0 = #[]:=Array.eq_empty_of_size_eq_zero (by omega)
   subst e0
   have hfill' : Instr.fill (fun j=>some (j*i.size,i.size)) #[] (parts.toList.map fun p=>(p.1,a.eval p.2))=some arr':=hfill
   have h24' : ¬(0 > 2 ^ 24):=by omega
   simp only[Sem.run_bind,run_underlying ht,Result.andThen_ok,run_sizeOf hi,h0,if_true]
   simp[Array.range_zero',hfill',Go.newRow]
  ·simp only[h0,if_false] at harr0
   have hfill' : Instr.fill (fun j=>some (j*i.size,i.size)) arr0 (parts.toList.map fun p=>(p.1,a.eval p.2))=some arr':=hfill
   simp only[Sem.run_bind,run_underlying ht,Result.andThen_ok,run_sizeOf hi,h24,if_false,h0]
   simp[zeroValue,typeInfo,hi,hz,harr0,hfill',Go.newRow]
 rw[hrun]
 obtain⟨h1,h2⟩:=hr.newRow arr' e (n*i.size) (by omega)
 refine hn _ _ _ h1 h2 (.d _ _ ?_)
 have hnewc:∀k,(w.alloc (.cells arr' e)).cell? ⟨w.heap.size,k,none⟩=arr'[k]?:=fun k=>cell?_cells (heap_alloc_new w (.cells arr' e)) k
 refine .ofCells' (by simp[hx]) (by simp only[upd_same]; omega) (Nat.le_refl _) ?_ ?_
 ·intro j cs hcs
  rw[List.getElem?_map,Option.map_eq_some_iff] at hcs
  obtain⟨x,hx',rfl⟩:=hcs
  exact(hfacts j x hx').2
 ·intro p q cs c u hp hq hu
  rw[Nat.zero_add,hnewc] at hu
  exact(hc' p q cs c u hp hq (by rw[Nat.zero_add]; exact hu)).mono h2.le
end
end Go.Ab
namespace Go.Ab
mutual
def mapAV (f:Nat→Nat):AV→AV
 | .d x=>.d x
 | .nm k p=>.nm (f k) p
 | .tip n sz es ty=>.tip n sz es ty
 | .tpt n e cs=>.tpt n e cs
 | .tup l=>.tup (Q2v f l)
 | .agg l=>.agg (Q2v f l)
 | .clo g l=>.clo g (Q2v f l)
def Q2v (f:Nat→Nat):List AV→List AV
 | []=>[]
 | x :: r=>mapAV f x :: Q2v f r
end
mutual
def Q1d (ks:List Nat):AV→Bool
 | .d _=>true
 | .nm k _=>ks.contains k
 | .tip _ _ _ _=>false
 | .tpt _ _ _=>false
 | .tup l=>Q1n ks l
 | .agg l=>Q1n ks l
 | .clo _ l=>Q1n ks l
def Q1n (ks:List Nat):List AV→Bool
 | []=>true
 | x :: r=>Q1d ks x && Q1n ks r
end
theorem Q27 {ks:List Nat} {l:List AV} (h:Q1n ks l=true) {i:Nat} {x:AV} (hx:l[i]? = some x):Q1d ks x=true:=by
 induction l generalizing i with
 | nil=>simp at hx
 | cons y r ih =>
  simp only[Q1n,Bool.and_eq_true] at h
  cases i with
  | zero=>simp at hx; subst hx; exact h.1
  | succ i=>exact ih h.2 (by simpa using hx)
theorem Q3t (f:Nat→Nat) (l:List AV):Q2v f l=l.map (mapAV f):=by
 induction l with
 | nil=>rfl
 | cons x r ih=>simp[Q2v,ih]
theorem RA.unmap {g gc:Gh} {w:World} {ks:List Nat} {f:Nat→Nat} (hγ:gc.γ=g.γ) (hρ:∀k ∈ ks,gc.ρ k=g.ρ (f k)):∀(x:AV) (v:Value),Q1d ks x=true→RA g w (mapAV f x) v→RA gc w x v
 | .d x,v,_,h=>by
  simp only[mapAV] at h
  cases h with
  | d _ _ h=>exact .d _ _ (hγ▸h)
 | .nm k p,v,hn,h=>by
  simp only[mapAV] at h
  have hk:k ∈ ks:=by simpa[Q1d] using hn
  cases h with
  | nm _ _ _ h=>exact .nm k p v (by rw[hρ k hk]; exact h)
 | .tip n sz es ty,v,hn,h=>by simp[Q1d] at hn
 | .tpt n e cs,v,hn,h=>by simp[Q1d] at hn
 | .tup l,v,hn,h=>by
  simp only[mapAV,Q3t] at h
  cases h with
  | tup _ vs hl hx =>
   refine .tup l vs (by simpa using hl) fun i x v h1 h2=>?_
   have:SizeOf.sizeOf x < SizeOf.sizeOf l:=List.sizeOf_lt_of_mem (List.mem_of_getElem? h1)
   exact RA.unmap hγ hρ x v (Q27 (by simpa[Q1d] using hn) h1) (hx i _ v (by rw[List.getElem?_map,h1]; rfl) h2)
 | .agg l,v,hn,h=>by
  simp only[mapAV,Q3t] at h
  cases h with
  | agg _ vs hl hx =>
   refine .agg l vs (by simpa using hl) fun i x v h1 h2=>?_
   have:SizeOf.sizeOf x < SizeOf.sizeOf l:=List.sizeOf_lt_of_mem (List.mem_of_getElem? h1)
   exact RA.unmap hγ hρ x v (Q27 (by simpa[Q1d] using hn) h1) (hx i _ v (by rw[List.getElem?_map,h1]; rfl) h2)
 | .clo c l,v,hn,h=>by
  simp only[mapAV,Q3t] at h
  cases h with
  | clo _ _ vs hl hx =>
   refine .clo c l vs (by simpa using hl) fun i x v h1 h2=>?_
   have:SizeOf.sizeOf x < SizeOf.sizeOf l:=List.sizeOf_lt_of_mem (List.mem_of_getElem? h1)
   exact RA.unmap hγ hρ x v (Q27 (by simpa[Q1d] using hn) h1) (hx i _ v (by rw[List.getElem?_map,h1]; rfl) h2)
termination_by x=>x
theorem RA.remap {g gc:Gh} {w:World} {ks:List Nat} {f:Nat→Nat} (hγ:gc.γ=g.γ) (hρ:∀k ∈ ks,g.ρ (f k)=gc.ρ k) {x:AV} {v:Value} (h:RA gc w x v) (hn:Q1d ks x=true):RA g w (mapAV f x) v:=by
 induction h with
 | d x v h=>simp only[mapAV]; exact .d _ _ (hγ▸h)
 | nm k p v h =>
  have hk:k ∈ ks:=by simpa[Q1d] using hn
  simp only[mapAV]; exact .nm _ _ _ (by rw[hρ k hk]; exact h)
 | tip=>simp[Q1d] at hn
 | tpt=>simp[Q1d] at hn
 | tup l vs hl _ ih =>
  simp only[mapAV,Q3t]
  refine .tup _ vs (by simpa using hl) fun i x v h1 h2=>?_
  rw[List.getElem?_map,Option.map_eq_some_iff] at h1
  obtain⟨y,hy,rfl⟩:=h1
  exact ih i y v hy h2 (Q27 (by simpa[Q1d] using hn) hy)
 | agg l vs hl _ ih =>
  simp only[mapAV,Q3t]
  refine .agg _ vs (by simpa using hl) fun i x v h1 h2=>?_
  rw[List.getElem?_map,Option.map_eq_some_iff] at h1
  obtain⟨y,hy,rfl⟩:=h1
  exact ih i y v hy h2 (Q27 (by simpa[Q1d] using hn) hy)
 | clo c l vs hl _ ih =>
  simp only[mapAV,Q3t]
  refine .clo c _ vs (by simpa using hl) fun i x v h1 h2=>?_
  rw[List.getElem?_map,Option.map_eq_some_iff] at h1
  obtain⟨y,hy,rfl⟩:=h1
  exact ih i y v hy h2 (Q27 (by simpa[Q1d] using hn) hy)
def mapOb (f:Nat→Nat):Ob→Ob
 | .cells cs ty=>.cells (Q2v f cs) ty
 | .map l c=>.map l c
 | .sit s pos=>.sit s pos
 | .mit k since seen last=>.mit (f k) since seen last
 | .mitn=>.mitn
 | .mapt L sz l c=>.mapt L sz l c
def Q3o (ks:List Nat):Ob→Bool
 | .cells cs _=>Q1n ks cs
 | .map _ _=>true
 | .sit _ _=>true
 | .mit k _ _ _=>ks.contains k
 | .mitn=>true
 | .mapt _ _ _ _=>false
theorem ObRel.unmap {g gc:Gh} {w:World} {ks:List Nat} {f:Nat→Nat} (hγ:gc.γ=g.γ) (hρ:∀k ∈ ks,gc.ρ k=g.ρ (f k)) {b:Nat} {o:Ob} (hn:Q3o ks o=true) (h:ObRel g w b (mapOb f o)):ObRel gc w b o:=by
 cases o with
 | cells cs ty =>
  simp only[mapOb,Q3t] at h
  cases h with
  | cells _ _ arr T hb hl hc h4 =>
   refine .cells cs ty arr T hb (by simpa using hl) (fun i x v hx hv=>?_) h4
   exact RA.unmap hγ hρ x v (Q27 (by simpa[Q3o] using hn) hx) (hc i _ v (by rw[List.getElem?_map,hx]; rfl) hv)
 | map l c =>
  simp only[mapOb] at h
  cases h with
  | map _ _ es hb hl hc h4 h5=>exact .map l c es hb hl (fun i x e hx he=>⟨(hc i x e hx he).1,(hc i x e hx he).2.1,hγ▸(hc i x e hx he).2.2⟩) h4 h5
 | sit s pos=>simp only[mapOb] at h; cases h with | sit _ _ hb=>exact .sit s pos hb
 | mit k since seen last =>
  simp only[mapOb] at h
  cases h with
  | mit _ _ _ _ hb=>exact .mit k since seen last (by rw[hρ k (List.contains_iff_mem.1 hn)]; exact hb)
 | mitn=>simp only[mapOb] at h; cases h with | mitn hb=>exact .mitn hb
 | mapt L sz l c=>simp[Q3o] at hn
theorem ObRel.remap {g gc:Gh} {w:World} {ks:List Nat} {f:Nat→Nat} (hγ:gc.γ=g.γ) (hρ:∀k ∈ ks,g.ρ (f k)=gc.ρ k) {b:Nat} {o:Ob} (hn:Q3o ks o=true) (h:ObRel gc w b o):ObRel g w b (mapOb f o):=by
 cases h with
 | cells cs ty arr T hb hl hc h4 =>
  simp only[mapOb,Q3t]
  refine .cells _ ty arr T hb (by simpa using hl) (fun i x v hx hv=>?_) h4
  rw[List.getElem?_map,Option.map_eq_some_iff] at hx
  obtain⟨y,hy,rfl⟩:=hx
  exact(hc i y v hy hv).remap hγ hρ (Q27 (by simpa[Q3o] using hn) hy)
 | map l c es hb hl hc h4 h5 =>
  exact .map l c es hb hl (fun i x e hx he=>⟨(hc i x e hx he).1,(hc i x e hx he).2.1,hγ▸(hc i x e hx he).2.2⟩) h4 h5
 | sit s pos hb=>exact .sit s pos hb
 | mit k since seen last hb=>exact .mit (f k) since seen last (by rw[hρ k (List.contains_iff_mem.1 hn)]; exact hb)
 | mitn hb=>exact .mitn hb
 | mapt L sz l c es hb hl hc h4 h5=>simp[Q3o] at hn
def nf (σ:List (Nat×Nat)) (k:Nat):Nat:=(σ.lookup k).getD 0
def Q50 (f:Nat→Nat):List (Nat×Ob)→List (Nat×Ob)→List (Nat×Ob)
 | [],acc=>acc
 | p :: r,acc=>Q50 f r (setObj (f p.1) (mapOb f p.2) acc)
theorem Q62 {f:Nat→Nat}:∀(l acc:List (Nat×Ob)) (j:Nat),(∀p ∈ l,f p.1≠j)→(Q50 f l acc).lookup j=acc.lookup j
 | [],_,_,_=>rfl
 | p :: r,acc,j,h=>by
  simp only[Q50]
  rw[Q62 r _ j (fun q hq=>h q (List.mem_cons_of_mem _ hq)),Qb,if_neg (Ne.symm (h p List.mem_cons_self))]
theorem Qaz {f:Nat→Nat}:∀(l acc:List (Nat×Ob)) (p:Nat×Ob),(l.map fun p=>f p.1).Nodup→p ∈ l→(Q50 f l acc).lookup (f p.1)=some (mapOb f p.2)
 | [],_,_,_,h=>by simp at h
 | q :: r,acc,p,hnd,h=>by
  simp only[List.map_cons,List.nodup_cons] at hnd
  simp only[Q50]
  rcases List.mem_cons.1 h with rfl | h
  ·rw[Q62 r _ _ (fun q hq he=>hnd.1 (by rw[← he]; exact List.mem_map_of_mem (f:=fun p:Nat×Ob=>f p.1) hq)),Qb,if_pos rfl]
  ·exact Qaz r _ p hnd.2 h
theorem Qj {α:Type}:∀ {l:List (Nat×α)} {k:Nat} {x:α},(l.map (·.1)).Nodup→(k,x) ∈ l→l.lookup k=some x
 | [],_,_,_,h=>by simp at h
 | (j,y) :: r,k,x,hnd,h=>by
  simp only[List.map_cons,List.nodup_cons] at hnd
  rw[List.lookup_cons]
  rcases List.mem_cons.1 h with h' | h'
  ·cases h'; simp
  ·have hne:k≠j:=by rintro rfl; exact hnd.1 (List.mem_map_of_mem (f:=(·.1)) h')
   have:(k == j)=false:=by simpa using hne
   rw[this]
   exact Qj hnd.2 h'
structure ObjCall (X Xc Xc' : Store) (f:Nat→Nat) (F:List Nat):Prop where
 live:Xc.live = []∧Xc'.live = []
 inobj:∀p ∈ Xc.objs,X.objs.lookup (f p.1)=some (mapOb f p.2)
 innames:(Xc.objs.all fun p=>Q3o (Xc.objs.map (·.1)) p.2)=true
 outnames:(Xc'.objs.all fun p=>Q3o (Xc'.objs.map (·.1)) p.2)=true
 nodup:(Xc'.objs.map fun p=>f p.1).Nodup
 nodup1:(Xc.objs.map (·.1)).Nodup
 new:∀p ∈ Xc'.objs,p.1 ∈ Xc.objs.map (·.1)∨(f p.1 ∈ F∧X.objs.lookup (f p.1)=none)
 sub:∀p ∈ Xc.objs,p.1 ∈ Xc'.objs.map (·.1)
 free:Qa F X=true
theorem Q2z {α β:Type} {f:α→β}:∀ {l:List α},(l.map f).Nodup→∀ {x y:α},x ∈ l→y ∈ l→f x=f y→x=y
 | [],_,_,_,h,_,_=>by simp at h
 | a :: r,hnd,x,y,hx,hy,he=>by
  simp only[List.map_cons,List.nodup_cons] at hnd
  rcases List.mem_cons.1 hx with hx' | hx' <;> rcases List.mem_cons.1 hy with hy' | hy'
  ·rw[hx',hy']
  ·rw[hx'] at he
   exact(hnd.1 (he▸List.mem_map_of_mem (f:=f) hy')).elim
  ·rw[hy'] at he
   exact(hnd.1 (he▸List.mem_map_of_mem (f:=f) hx')).elim
  ·exact Q2z hnd.2 hx' hy' he
theorem Q8p {α β γ:Type} {f:α→β} {h:β→γ}:∀ {l:List α},(l.map fun x=>h (f x)).Nodup→(l.map f).Nodup
 | [],_=>by simp
 | a :: r,hnd=>by
  simp only[List.map_cons,List.nodup_cons] at hnd ⊢
  refine⟨fun hm=>hnd.1 ?_,Q8p hnd.2⟩
  obtain⟨x,hx,he⟩:=List.mem_map.1 hm
  rw[← he]
  exact List.mem_map_of_mem (f:=fun x=>h (f x)) hx
section
variable {P:Program} {X:Store}
theorem Does.useObj {fn:FuncId} {xs:List AV} {res:AV} {Xc Xc' : Store} (hs:Does P fn xs Xc res Xc') {f:Nat→Nat} {F:List Nat} (hc:ObjCall X Xc Xc' f F)
  (hd:Q1n (Xc.objs.map (·.1)) xs=true) (hdr:Q1d (Xc'.objs.map (·.1)) res=true) {nm:List Nat} {B:Base} {g:Gh} {w:World}
  (hr:HR nm B g w X) {vs:Array Value} (hl:xs.length=vs.size) (hvs:∀(i:Nat) x v,(Q2v f xs)[i]? = some x→vs[i]? = some v→RA g w x v) :
  Calls P fn vs w fun e w'=>∃v g',e = .returned v∧HR nm B g' w' ⟨Q50 f Xc'.objs X.objs,X.live⟩∧Trans F g w g' w'∧RA g' w' (mapAV f res) v:=by
 let gc:Gh:={ γ:=g.γ,β:=fun _=>none,ρ:=fun k=>g.ρ (f k) }
 have hlk:∀k o,Xc.objs.lookup k=some o→X.objs.lookup (f k)=some (mapOb f o):=fun k o hk=>hc.inobj _ (Qn hk)
 have hinj:∀p ∈ Xc'.objs,∀q ∈ Xc'.objs,f p.1=f q.1→p=q:=fun p hp q hq he=>Q2z hc.nodup hp hq he
 have hnd' : (Xc'.objs.map (·.1)).Nodup:=Q8p (h:=f) hc.nodup
 have hsub:∀k o,Xc.objs.lookup k=some o→∃p ∈ Xc'.objs,p.1=k:=by
  intro k o hk
  obtain⟨p,hp,he⟩:=List.mem_map.1 (hc.sub _ (Qn hk))
  exact⟨p,hp,he⟩
 have h0:HR (Xc.objs.map (·.1)) (Base.of gc w Xc) gc w Xc:=by
  refine⟨?_,hr.sane,Nat.le_refl _,⟨rfl,rfl,rfl,Nat.le_refl _⟩,.refl _ _,fun b _ _=>⟨rfl,rfl⟩,?_,?_,?_,?_,?_,by simp[gc],by simp[gc],by simp[gc],by simp[gc],.off fun _=>rfl⟩
  ·intro k hk
   refine⟨rfl,?_⟩
   obtain⟨p,hp,rfl⟩:=List.mem_map.1 hk
   rw[Qj hc.nodup1 (x:=p.2) hp]; rfl
  ·intro k o hk
   exact ObRel.unmap (g:=g) (gc:=gc) (f:=f) (ks:=Xc.objs.map (·.1)) rfl (fun _ _=>rfl) (List.all_eq_true.1 hc.innames _ (Qn hk)) (hr.objs _ _ (hlk k o hk))
  ·intro k o hk; exact hr.objγ _ _ (hlk k o hk)
  ·intro k k' o o' hk hk' he
   have h1:=hr.objinj _ _ _ _ (hlk k o hk) (hlk k' o' hk') he
   obtain⟨p,hp,e1⟩:=hsub k o hk
   obtain⟨q,hq,e2⟩:=hsub k' o' hk'
   have:=hinj p hp q hq (by rw[e1,e2]; exact h1)
   rw[← e1,← e2,this]
  ·intro k o hk; exact .inr (.inl ⟨k,o,hk,rfl⟩)
  ·intro n; rw[hc.live.1]; simp[gc]
 have:=hs gc w vs h0 hl fun i x v hx hv=>RA.unmap (g:=g) (gc:=gc) (ks:=Xc.objs.map (·.1)) rfl (fun _ _=>rfl) x v (Q27 hd hx) (hvs i _ v (by rw[Q3t,List.getElem?_map,hx]; rfl) hv)
 refine this.mono ?_
 rintro e w' ⟨g1,v,rfl,hra,h1⟩
 -- the caller's ghost behind the call
 let ρ' : Nat→Nat:=fun j=>match Xc'.objs.find? (fun p=>f p.1 == j) with
  | some p=>g1.ρ p.1
  | none=>g.ρ j
 have hρin:∀p ∈ Xc'.objs,ρ' (f p.1)=g1.ρ p.1:=by
  intro p hp
  have hs' : (Xc'.objs.find? (fun q=>f q.1 == f p.1)).isSome=true:=by
   rw[List.find?_isSome]; exact⟨p,hp,by simp⟩
  obtain⟨q,hq⟩:=Option.isSome_iff_exists.1 hs'
  have hq1:=List.find?_some hq
  have hq2:=List.mem_of_find?_eq_some hq
  simp only[beq_iff_eq] at hq1
  have:=hinj q hq2 p hp hq1
  simp only[ρ',hq,this]
 have hρout:∀j,(∀p ∈ Xc'.objs,f p.1≠j)→ρ' j=g.ρ j:=by
  intro j hj
  have:Xc'.objs.find? (fun p=>f p.1 == j)=none:=by
   rw[List.find?_eq_none]; intro p hp; simpa using hj p hp
  simp only[ρ',this]
 have hcases:∀j,(∃p ∈ Xc'.objs,f p.1=j)∨(∀p ∈ Xc'.objs,f p.1≠j):=by
  intro j
  by_cases h:∃p ∈ Xc'.objs,f p.1=j
  ·exact .inl h
  ·exact .inr fun p hp he=>h ⟨p,hp,he⟩
 have hold:∀k,k ∈ Xc.objs.map (·.1)→g1.ρ k=g.ρ (f k):=fun k hk=>(h1.keep k hk).1
 have hna:∀b,(¬ ∃k o,Xc.objs.lookup k=some o∧g.ρ (f k)=b)→¬(Base.of gc w Xc).allowed b:=by
  rintro b hb (⟨k,o,hk,he⟩ | ⟨n,hn⟩)
  ·exact hb ⟨k,o,hk,he⟩
  ·cases hn
 have hframe:∀b,b < w.heap.size→(¬ ∃k o,Xc.objs.lookup k=some o∧g.ρ (f k)=b)→w'.heap[b]? = w.heap[b]?∧g1.γ b=g.γ b:=fun b hb hn=>h1.frame b hb (hna b hn)
 have hsz:w.heap.size≤w'.heap.size:=h1.base
 have hle:LeD g.γ w g1.γ w':=h1.le
 have htipfr:∀n b,g.β n=some (some b)→w'.heap[b]? = w.heap[b]?∧g1.γ b=g.γ b:=by
  intro n b hn
  refine hframe b (hr.tiplt n b hn) ?_
  rintro ⟨k,o,hk,he⟩
  exact hr.tipobj n b _ _ hn (hlk k o hk) he.symm
 have hetafr:∀L i b,(g.β L).isSome→g.η L i=some b→w'.heap[b]? = w.heap[b]?∧g1.γ b=g.γ b:=by
  intro L i b hL hb
  refine hframe b (hr.eta.lt L i b hL hb) ?_
  rintro ⟨k,o,hk,he⟩
  exact hr.eta.obj L i b _ _ hL hb (hlk k o hk) he.symm
 have hobjfr:∀j o,X.objs.lookup j=some o→(∀p ∈ Xc'.objs,f p.1≠j)→w'.heap[g.ρ j]? = w.heap[g.ρ j]?∧g1.γ (g.ρ j)=g.γ (g.ρ j):=by
  intro j o hj hne
  refine hframe _ (Q1o (hr.objs j o hj)) ?_
  rintro ⟨k,o',hk,he⟩
  have:=hr.objinj _ _ _ _ (hlk k o' hk) hj he
  obtain⟨p,hp,e1⟩:=hsub k o' hk
  exact hne p hp (by rw[e1]; exact this)
 have hnewblk:∀p ∈ Xc'.objs,p.1 ∉ Xc.objs.map (·.1)→w.heap.size≤g1.ρ p.1:=by
  intro p hp hnot
  have hlp:Xc'.objs.lookup p.1=some p.2:=Qj hnd' hp
  rcases h1.objnew _ _ hlp with h | h | ⟨n,hn⟩
  ·exact h
  ·obtain⟨k,o,hk,he⟩:=h
   exfalso
   obtain⟨q,hq,e1⟩:=hsub k o hk
   have hlq:Xc'.objs.lookup q.1=some q.2:=Qj hnd' hq
   have hkm:k ∈ Xc.objs.map (·.1):=List.mem_map_of_mem (f:=(·.1)) (Qn hk)
   have:g1.ρ q.1=g1.ρ p.1:=by rw[e1,hold k hkm]; exact he
   have:=h1.objinj _ _ _ _ hlq hlp this
   exact hnot (this▸e1▸hkm)
  ·cases hn
 have ht:Trans F g w { γ:=g1.γ,β:=g.β,ρ:=ρ',η:=g.η } w':=by
  refine⟨hle,?_,fun n ob _ he=>⟨he,fun b hb=>⟨(htipfr n b (hb▸he)).2,(htipfr n b (hb▸he)).1⟩⟩,fun L _ hL=>⟨rfl,fun i b hb=>⟨(hetafr L i b hL hb).2,(hetafr L i b hL hb).1⟩⟩⟩
  intro j hj
  simp only
  rcases hcases j with ⟨p,hp,rfl⟩ | hne
  ·rw[hρin p hp]
   rcases hc.new p hp with h | ⟨h,_⟩
   ·exact hold _ h
   ·exact(hj h).elim
  ·exact hρout j hne
 have hX' : ∀j o,(Q50 f Xc'.objs X.objs).lookup j=some o→(∃p ∈ Xc'.objs,f p.1=j∧o=mapOb f p.2)∨((∀p ∈ Xc'.objs,f p.1≠j)∧X.objs.lookup j=some o):=by
  intro j o hj
  rcases hcases j with ⟨p,hp,rfl⟩ | hne
  ·rw[Qaz _ _ p hc.nodup hp] at hj
   exact .inl ⟨p,hp,rfl,by simpa using hj.symm⟩
  ·rw[Q62 _ _ _ hne] at hj
   exact .inr ⟨hne,hj⟩
 have hρmap:∀k ∈ Xc'.objs.map (·.1),ρ' (f k)=g1.ρ k:=by
  intro k hk
  obtain⟨p,hp,rfl⟩:=List.mem_map.1 hk
  exact hρin p hp
 refine⟨v,{ γ:=g1.γ,β:=g.β,ρ:=ρ',η:=g.η },rfl,⟨?_,h1.sane,Nat.le_trans hr.base hsz,⟨h1.io.1.trans hr.io.1,h1.io.2.1.trans hr.io.2.1,h1.io.2.2.1.trans hr.io.2.2.1,Nat.le_trans hr.io.2.2.2 h1.io.2.2.2⟩,hr.le.trans hle,?_,?_,?_,?_,?_,hr.live,hr.tipinj,?_,hr.tipnew,?_,hr.eta.step (fun L hL=>.inl ⟨hL,rfl⟩) hsz (fun n b hb=>.inl ⟨n,hb⟩) fun j o hj=>?_⟩,ht,?_⟩
 ·intro k hk
  obtain⟨h2,h3⟩:=hr.keep k hk
  rcases hcases k with ⟨p,hp,rfl⟩ | hne
  ·refine⟨?_,by simp only; rw[Qaz _ _ p hc.nodup hp]; rfl⟩
   simp only; rw[hρin p hp]
   rcases hc.new p hp with h | ⟨_,h⟩
   ·rw[hold _ h]; exact h2
   ·rw[h] at h3; cases h3
  ·exact⟨by simp only; rw[hρout k hne]; exact h2,by simp only; rw[Q62 _ _ _ hne]; exact h3⟩
 ·intro b hb hnb
  have h2:=hr.frame b hb hnb
  have h3:=hframe b (Nat.lt_of_lt_of_le hb hr.base) (by
   rintro ⟨k,o,hk,he⟩
   rcases hr.objnew _ _ (hlk k o hk) with h | h
   ·rw[he] at h; omega
   ·rw[he] at h; exact hnb h)
  exact⟨h3.1.trans h2.1,h3.2.trans h2.2⟩
 ·intro j o hj
  rcases hX' j o hj with ⟨p,hp,rfl,rfl⟩ | ⟨hne,hj'⟩
  ·simp only; rw[hρin p hp]
   exact ObRel.remap (g:={ γ:=g1.γ,β:=g.β,ρ:=ρ',η:=g.η }) (gc:=g1) rfl hρmap (List.all_eq_true.1 hc.outnames _ hp) (h1.objs _ _ (Qj hnd' hp))
  ·simp only; rw[hρout j hne]
   exact(hr.objs j o hj').keep ht (hobjfr j o hj' hne).1 (Q2u hc.free hj')
 ·intro j o hj
  rcases hX' j o hj with ⟨p,hp,rfl,rfl⟩ | ⟨hne,hj'⟩
  ·simp only; rw[hρin p hp]; exact h1.objγ _ _ (Qj hnd' hp)
  ·simp only; rw[hρout j hne,(hobjfr j o hj' hne).2]; exact hr.objγ j o hj'
 ·intro j j' o o' hj hj' he
  simp only at he
  have mix:∀p ∈ Xc'.objs,∀j o,X.objs.lookup j=some o→(∀p ∈ Xc'.objs,f p.1≠j)→g1.ρ p.1≠g.ρ j:=by
   intro p hp j o hj hne he
   by_cases hin:p.1 ∈ Xc.objs.map (·.1)
   ·rw[hold _ hin] at he
    obtain⟨q,hq,e1⟩:=List.mem_map.1 hin
    have h4:=hc.inobj q hq
    rw[e1] at h4
    exact hne p hp (hr.objinj _ _ _ _ h4 hj he)
   ·have h5:=hnewblk p hp hin
    have h6:=Q1o (hr.objs j o hj)
    omega
  rcases hX' j o hj with ⟨p,hp,e1,_⟩ | ⟨hne,hj1⟩ <;> rcases hX' j' o' hj' with ⟨q,hq,e2,_⟩ | ⟨hne',hj1'⟩
  ·rw[← e1,← e2] at he ⊢
   rw[hρin p hp,hρin q hq] at he
   rw[h1.objinj _ _ _ _ (Qj hnd' hp) (Qj hnd' hq) he]
  ·rw[← e1,hρin p hp,hρout j' hne'] at he
   exact(mix p hp j' o' hj1' hne' he).elim
  ·rw[← e2,hρin q hq,hρout j hne] at he
   exact(mix q hq j o hj1 hne he.symm).elim
  ·rw[hρout j hne,hρout j' hne'] at he
   exact hr.objinj j j' o o' hj1 hj1' he
 ·intro j o hj
  rcases hX' j o hj with ⟨p,hp,rfl,rfl⟩ | ⟨hne,hj'⟩
  ·simp only; rw[hρin p hp]
   by_cases hin:p.1 ∈ Xc.objs.map (·.1)
   ·rw[hold _ hin]
    obtain⟨q,hq,e1⟩:=List.mem_map.1 hin
    have h4:=hc.inobj q hq
    rw[e1] at h4
    exact hr.objnew _ _ h4
   ·exact .inl (Nat.le_trans hr.base (hnewblk p hp hin))
  ·simp only; rw[hρout j hne]; exact hr.objnew j o hj'
 ·intro n b j o hn hj
  rcases hX' j o hj with ⟨p,hp,rfl,rfl⟩ | ⟨hne,hj'⟩
  ·simp only; rw[hρin p hp]
   by_cases hin:p.1 ∈ Xc.objs.map (·.1)
   ·rw[hold _ hin]
    obtain⟨q,hq,e1⟩:=List.mem_map.1 hin
    have h4:=hc.inobj q hq
    rw[e1] at h4
    exact hr.tipobj n b _ _ hn h4
   ·have:=hnewblk p hp hin
    have:=hr.tiplt n b hn
    omega
  ·simp only; rw[hρout j hne]; exact hr.tipobj n b j o hn hj'
 ·intro n b hn; exact Nat.lt_of_lt_of_le (hr.tiplt n b hn) hsz
 ·rcases hX' j o hj with ⟨p,hp,rfl,rfl⟩ | ⟨hne,hj'⟩
  ·simp only; rw[hρin p hp]
   by_cases hin:p.1 ∈ Xc.objs.map (·.1)
   ·rw[hold _ hin]
    obtain⟨q,hq,e1⟩:=List.mem_map.1 hin
    have h4:=hc.inobj q hq
    rw[e1] at h4
    exact .inl ⟨_,_,h4,rfl⟩
   ·exact .inr (.inl (hnewblk p hp hin))
  ·simp only; rw[hρout j hne]; exact .inl ⟨j,o,hj',rfl⟩
 ·exact RA.remap (g:={ γ:=g1.γ,β:=g.β,ρ:=ρ',η:=g.η }) (gc:=g1) rfl hρmap hra hdr
theorem Qrg {o:Oper} {fn:FuncId} {args:Array Operand} {ts:Array TypeId} {xs:List AV} {res:AV} {Xc Xc' : Store} (σ:List (Nat×Nat)) (F:List Nat)
  (ho:o.op = .call { callee:=.value (.func fn),args:=args,argTypes:=ts }) (hf:CallI P fn) (hs:Does P fn xs Xc res Xc') (hc:ObjCall X Xc Xc' (nf σ) F)
  (hl:xs.length=args.size) (hd:Q1n (Xc.objs.map (·.1)) xs=true) (hdr:Q1d (Xc'.objs.map (·.1)) res=true) :
  OpT P o (args.toList.zip (Q2v (nf σ) xs)) X ⟨Q50 (nf σ) Xc'.objs X.objs,X.live⟩ F (mapAV (nf σ) res):=by
 intro nm hsm B g w a hr hrd next Q hn
 unfold Oper.wp
 have:(execOp a.eval o).run P w = .ok (.enter fn (args.map a.eval)) w:=by
  simp only[execOp,ho,resolve]
  simp[Act.eval,Deferred.ofValue,invoke,Q1y hf]
 rw[this]
 refine(hs.useObj hc hd hdr hr (by simpa using hl) (Q69 hrd)).mono ?_
 rintro e w' ⟨v,g',rfl,h1,h2,h3⟩
 exact hn g' w' v h1 h2 h3
end
end Go.Ab
namespace Go.Ab
inductive Eff where
 | none
 | look (ks:List Nat)
 | put (k:Nat) (c:Ob)
 | all (X:Store)
 | lab (L:List Nat)
 | putl (k:Nat) (c:Ob) (L:List Nat)
 | new (os:List (Nat×Ob)) (L:List Nat)
def Eff.apply:Eff→Store→Store
 | .put k c,X=>⟨setObj k c X.objs,X.live⟩
 | .all X',_=>X'
 | .lab L,X=>⟨X.objs,L⟩
 | .putl k c L,X=>⟨setObj k c X.objs,L⟩
 | .new os L,X=>⟨os++X.objs,L⟩
 | _,X=>X
def Eff.writes (k:Nat):Eff→Bool
 | .put j _=>j == k
 | .putl j _ _=>j == k
 | .new os _=>(os.lookup k).isSome
 | .all _=>true
 | _=>false
def Eff.clash:Eff→Eff→Bool
 | .none,_ | _,.none=>false
 | .look _,.look _=>false
 | .look js,.put k _ | .put k _,.look js=>js.contains k
 | .look js,.putl k _ _ | .putl k _ _,.look js=>js.contains k
 | .look _,.lab _ | .lab _,.look _=>false
 | .look js,.new os _ | .new os _,.look js=>js.any fun k=>(os.lookup k).isSome
 | .put j _,.put k _=>j == k
 | _,_=>true
structure It where
 o:Oper
 run:Bool
 rd:List (Operand×AV)
 eff:Eff
 F:List Nat
 res:AV
inductive DChain (P:Program) (S:Sig) (ops:Array Oper):Nat→St→List It→St→Prop
 | nil (i:Nat) (st:St):DChain P S ops i st [] st
 | op {i:Nat} {o:Oper} {st st' : St} {rd:List (Operand×AV)} {res:AV} {its:List It} :
   ops[i]? = some o→Guard ops st o.guard true→(∀p ∈ rd,Sees st p.1 p.2)→(∀X,OpT P o rd X X [] res)→dstOk S.N o.dst=true →
   DChain P S ops (i+1) ⟨Qm o.dst res st.env,st.X⟩ its st'→DChain P S ops i st (⟨o,true,rd,.none,[],res⟩ :: its) st'
 | look {i:Nat} {o:Oper} {st st' : St} {rd:List (Operand×AV)} {res:AV} {its:List It} {ks:List Nat} :
   ops[i]? = some o→Guard ops st o.guard true→(∀p ∈ rd,Sees st p.1 p.2)→(∀X:Store,(∀k ∈ ks,X.objs.lookup k=st.X.objs.lookup k)→OpT P o rd X X [] res)→dstOk S.N o.dst=true →
   DChain P S ops (i+1) ⟨Qm o.dst res st.env,st.X⟩ its st'→DChain P S ops i st (⟨o,true,rd,.look ks,[],res⟩ :: its) st'
 | put {i:Nat} {o:Oper} {st st' : St} {rd:List (Operand×AV)} {res:AV} {its:List It} {k:Nat} {c:Ob} :
   ops[i]? = some o→Guard ops st o.guard true→(∀p ∈ rd,Sees st p.1 p.2) →
   (∀X,X.objs.lookup k=st.X.objs.lookup k→OpT P o rd X ⟨setObj k c X.objs,X.live⟩ [] res)→dstOk S.N o.dst=true →
   DChain P S ops (i+1) ⟨Qm o.dst res st.env,⟨setObj k c st.X.objs,st.X.live⟩⟩ its st'→DChain P S ops i st (⟨o,true,rd,.put k c,[],res⟩ :: its) st'
 | eff {i:Nat} {o:Oper} {st st' : St} {rd:List (Operand×AV)} {res:AV} {its:List It} {X' : Store} {F:List Nat} :
   ops[i]? = some o→Guard ops st o.guard true→(∀p ∈ rd,Sees st p.1 p.2)→OpT P o rd st.X X' F res→dstOk S.N o.dst=true →
   DChain P S ops (i+1) ⟨Qm o.dst res st.env,X'⟩ its st'→DChain P S ops i st (⟨o,true,rd,.all X',F,res⟩ :: its) st'
 | lab {i:Nat} {o:Oper} {st st' : St} {rd:List (Operand×AV)} {res:AV} {its:List It} {L:List Nat} {F:List Nat} :
   ops[i]? = some o→Guard ops st o.guard true→(∀p ∈ rd,Sees st p.1 p.2)→OpT P o rd st.X ⟨st.X.objs,L⟩ F res→dstOk S.N o.dst=true →
   DChain P S ops (i+1) ⟨Qm o.dst res st.env,⟨st.X.objs,L⟩⟩ its st'→DChain P S ops i st (⟨o,true,rd,.lab L,F,res⟩ :: its) st'
 | putl {i:Nat} {o:Oper} {st st' : St} {rd:List (Operand×AV)} {res:AV} {its:List It} {k:Nat} {c:Ob} {L:List Nat} {F:List Nat} :
   ops[i]? = some o→Guard ops st o.guard true→(∀p ∈ rd,Sees st p.1 p.2)→OpT P o rd st.X ⟨setObj k c st.X.objs,L⟩ F res→dstOk S.N o.dst=true →
   DChain P S ops (i+1) ⟨Qm o.dst res st.env,⟨setObj k c st.X.objs,L⟩⟩ its st'→DChain P S ops i st (⟨o,true,rd,.putl k c L,F,res⟩ :: its) st'
 | new {i:Nat} {o:Oper} {st st' : St} {rd:List (Operand×AV)} {res:AV} {its:List It} {os:List (Nat×Ob)} {L:List Nat} {F:List Nat} :
   ops[i]? = some o→Guard ops st o.guard true→(∀p ∈ rd,Sees st p.1 p.2)→OpT P o rd st.X ⟨os++st.X.objs,L⟩ F res→dstOk S.N o.dst=true →
   DChain P S ops (i+1) ⟨Qm o.dst res st.env,⟨os++st.X.objs,L⟩⟩ its st'→DChain P S ops i st (⟨o,true,rd,.new os L,F,res⟩ :: its) st'
 | skip {i:Nat} {o:Oper} {st st' : St} {its:List It} :
   ops[i]? = some o→Guard ops st o.guard false→dstOk S.N o.dst=true →
   DChain P S ops (i+1) ⟨Qm o.dst (.d (.sc undef)) st.env,st.X⟩ its st'→DChain P S ops i st (⟨o,false,[],.none,[],.d (.sc undef)⟩ :: its) st'
def E (base:Nat→Option AV) (its:List It) (D:Nat→Bool):Nat→Nat→Option AV
 | 0,t=>base t
 | m+1,t=>match its[m]? with
  | some it=>if D m && (it.o.dst == some t) then some it.res else E base its D m t
  | none=>E base its D m t
def XE (X0:Store) (its:List It) (D:Nat→Bool):Nat→Store
 | 0=>X0
 | m+1=>match its[m]? with
  | some it=>if D m then it.eff.apply (XE X0 its D m) else XE X0 its D m
  | none=>XE X0 its D m
structure ItOk (P:Program) (S:Sig) (ops:Array Oper) (i:Nat) (it:It) (st:St):Prop where
 at_:ops[i]? = some it.o
 dst:dstOk S.N it.o.dst=true
 guard:Guard ops st it.o.guard it.run
 sees:∀p ∈ it.rd,Sees st p.1 p.2
 opt:it.run=true→match it.eff with
  | .none=>it.F = []∧∀X,OpT P it.o it.rd X X [] it.res
  | .look ks=>it.F = []∧∀X:Store,(∀k ∈ ks,X.objs.lookup k=st.X.objs.lookup k)→OpT P it.o it.rd X X [] it.res
  | .put k c=>it.F = []∧∀X,X.objs.lookup k=st.X.objs.lookup k→OpT P it.o it.rd X ⟨setObj k c X.objs,X.live⟩ [] it.res
  | .all X'=>OpT P it.o it.rd st.X X' it.F it.res
  | .lab L=>OpT P it.o it.rd st.X ⟨st.X.objs,L⟩ it.F it.res
  | .putl k c L=>OpT P it.o it.rd st.X ⟨setObj k c st.X.objs,L⟩ it.F it.res
  | .new os L=>OpT P it.o it.rd st.X ⟨os++st.X.objs,L⟩ it.F it.res
 skipped:it.run=false→it.eff = .none∧it.F = []∧it.res = .d (.sc undef)
theorem Qkq (base:Nat→Option AV) (it:It) (its:List It) (D:Nat→Bool):∀(m t:Nat),
  E (fun t=>if D 0 && (it.o.dst == some t) then some it.res else base t) its (fun k=>D (k+1)) m t=E base (it :: its) D (m+1) t
 | 0,t=>by simp[E]
 | m+1,t=>by
  have ih:=Qkq base it its D m t
  conv=>lhs; unfold E
  rw[ih]
  conv=>rhs; unfold E
  simp
theorem Qhk (X0:Store) (it:It) (its:List It) (D:Nat→Bool):∀(m:Nat),
  XE (if D 0 then it.eff.apply X0 else X0) its (fun k=>D (k+1)) m=XE X0 (it :: its) D (m+1)
 | 0=>by simp[XE]
 | m+1=>by
  have ih:=Qhk X0 it its D m
  conv=>lhs; unfold XE
  rw[ih]
  conv=>rhs; unfold XE
  simp
theorem Qdg (dst:Option Tmp) (x:AV) (env:List (Nat×AV)) (t:Nat):(Qm dst x env).lookup t=if dst == some t then some x else env.lookup t:=by
 cases dst with
 | none=>rfl
 | some d =>
  simp only[Qm,List.lookup_cons]
  by_cases h:t=d
  ·subst h; simp
  ·have h1:(t == d)=false:=by simpa using h
   have h2:(some d == some t)=false:=by simpa using Ne.symm h
   rw[h1,h2]; rfl
theorem DChain.items {P:Program} {S:Sig} {ops:Array Oper} {i:Nat} {st st' : St} {its:List It} (h:DChain P S ops i st its st') :
  (∀m it,its[m]? = some it→∃stm,ItOk P S ops (i+m) it stm∧(∀t,stm.env.lookup t=E (fun t=>st.env.lookup t) its (fun _=>true) m t)∧stm.X=XE st.X its (fun _=>true) m) ∧
  (∀t,st'.env.lookup t=E (fun t=>st.env.lookup t) its (fun _=>true) its.length t)∧st'.X=XE st.X its (fun _=>true) its.length:=by
 have key:∀ {i:Nat} {st st' : St} {it:It} {its:List It} {X1:Store},ItOk P S ops i it st→(X1=it.eff.apply st.X) →
   ((∀m it',its[m]? = some it'→∃stm,ItOk P S ops (i+1+m) it' stm∧(∀t,stm.env.lookup t=E (fun t=>(Qm it.o.dst it.res st.env).lookup t) its (fun _=>true) m t)∧stm.X=XE X1 its (fun _=>true) m) ∧
    (∀t,st'.env.lookup t=E (fun t=>(Qm it.o.dst it.res st.env).lookup t) its (fun _=>true) its.length t)∧st'.X=XE X1 its (fun _=>true) its.length) →
   (∀m it',(it :: its)[m]? = some it'→∃stm,ItOk P S ops (i+m) it' stm∧(∀t,stm.env.lookup t=E (fun t=>st.env.lookup t) (it :: its) (fun _=>true) m t)∧stm.X=XE st.X (it :: its) (fun _=>true) m) ∧
    (∀t,st'.env.lookup t=E (fun t=>st.env.lookup t) (it :: its) (fun _=>true) (it :: its).length t)∧st'.X=XE st.X (it :: its) (fun _=>true) (it :: its).length:=by
  intro i st st' it its X1 hok hX ⟨h1,h2,h3⟩
  have hb:(fun t=>(Qm it.o.dst it.res st.env).lookup t)=fun t=>if (fun _:Nat=>true) 0 && (it.o.dst == some t) then some it.res else st.env.lookup t:=by
   funext t; rw[Qdg]; simp
  have hx:X1=(if (fun _:Nat=>true) 0 then it.eff.apply st.X else st.X):=by rw[hX]; simp
  refine⟨?_,?_,?_⟩
  ·intro m it' hm
   cases m with
   | zero=>simp at hm; subst hm; exact⟨st,hok,fun _=>rfl,rfl⟩
   | succ m =>
    obtain⟨stm,k1,k2,k3⟩:=h1 m it' (by simpa using hm)
    refine⟨stm,by rw[show i+(m+1)=i+1+m by omega]; exact k1,fun t=>?_,?_⟩
    ·rw[k2 t,hb]; exact Qkq (fun t=>st.env.lookup t) it its (fun _=>true) m t
    ·rw[k3,hx]; exact Qhk st.X it its (fun _=>true) m
  ·intro t; rw[h2 t,hb]; exact Qkq (fun t=>st.env.lookup t) it its (fun _=>true) its.length t
  ·rw[h3,hx]; exact Qhk st.X it its (fun _=>true) its.length
 induction h with
 | nil i st=>exact⟨by simp,fun _=>rfl,rfl⟩
 | op h1 h2 h3 h4 h5 _ ih=>exact key (it:=⟨_,true,_,.none,[],_⟩) ⟨h1,h5,h2,h3,fun _=>⟨rfl,h4⟩,by simp⟩ rfl ih
 | look h1 h2 h3 h4 h5 _ ih=>exact key (it:=⟨_,true,_,.look _,[],_⟩) ⟨h1,h5,h2,h3,fun _=>⟨rfl,h4⟩,by simp⟩ rfl ih
 | put h1 h2 h3 h4 h5 _ ih=>exact key (it:=⟨_,true,_,.put _ _,[],_⟩) ⟨h1,h5,h2,h3,fun _=>⟨rfl,h4⟩,by simp⟩ rfl ih
 | eff h1 h2 h3 h4 h5 _ ih=>exact key (it:=⟨_,true,_,.all _,_,_⟩) ⟨h1,h5,h2,h3,fun _=>h4,by simp⟩ rfl ih
 | lab h1 h2 h3 h4 h5 _ ih=>exact key (it:=⟨_,true,_,.lab _,_,_⟩) ⟨h1,h5,h2,h3,fun _=>h4,by simp⟩ rfl ih
 | new h1 h2 h3 h4 h5 _ ih=>exact key (it:=⟨_,true,_,.new _ _,_,_⟩) ⟨h1,h5,h2,h3,fun _=>h4,by simp⟩ rfl ih
 | putl h1 h2 h3 h4 h5 _ ih=>exact key (it:=⟨_,true,_,.putl _ _ _,_,_⟩) ⟨h1,h5,h2,h3,fun _=>h4,by simp⟩ rfl ih
 | skip h1 h2 h5 _ ih=>exact key (it:=⟨_,false,[],.none,[],_⟩) ⟨h1,h5,h2,by simp,by simp,fun _=>⟨rfl,rfl,rfl⟩⟩ rfl ih
def befs (ops:List Oper):List Nat :=
 ops.foldl (fun acc o=>acc++[o.after.toList.foldl (fun s e=>if Region.binds .any e then s ||| 2 ^ e.on ||| acc.getD e.on 0 else s) 0]) []
theorem Qm5 (acc:List Nat) (j:Nat):∀(l:List Edge) (s:Nat),(l.foldl (fun s e=>if Region.binds .any e then s ||| 2 ^ e.on ||| acc.getD e.on 0 else s) s).testBit j=true →
  s.testBit j=true∨∃e ∈ l,Region.binds .any e=true∧(e.on=j∨(acc.getD e.on 0).testBit j=true)
 | [],s,h=>.inl h
 | e :: l,s,h=>by
  rw[List.foldl_cons] at h
  rcases Qm5 acc j l _ h with h | ⟨e',he',h⟩
  ·split at h
   ·rename_i hb
    rw[Nat.testBit_or,Nat.testBit_or,Bool.or_eq_true,Bool.or_eq_true] at h
    rcases h with (h | h) | h
    ·exact .inl h
    ·refine .inr ⟨e,List.mem_cons_self,hb,.inl ?_⟩
     rw[Nat.testBit_two_pow] at h; simpa using h
    ·exact .inr ⟨e,List.mem_cons_self,hb,.inr h⟩
   ·exact .inl h
  ·exact .inr ⟨e',List.mem_cons_of_mem _ he',h⟩
theorem Qvo (ops:List Oper):∀(i j:Nat),((befs ops).getD i 0).testBit j=true→∃o,ops[i]? = some o∧∃e ∈ o.after.toList,Region.binds .any e=true ∧
  (e.on=j∨(e.on < i∧((befs ops).getD e.on 0).testBit j=true)):=by
 suffices H:∀(l:List Oper) (pre:List Oper) (acc:List Nat),acc.length=pre.length →
   (∀i j,(acc.getD i 0).testBit j=true→∃o,pre[i]? = some o∧∃e ∈ o.after.toList,Region.binds .any e=true∧(e.on=j∨(e.on < i∧(acc.getD e.on 0).testBit j=true))) →
   ∀i j,((l.foldl (fun acc o=>acc++[o.after.toList.foldl (fun s e=>if Region.binds .any e then s ||| 2 ^ e.on ||| acc.getD e.on 0 else s) 0]) acc).getD i 0).testBit j=true →
    ∃o,(pre++l)[i]? = some o∧∃e ∈ o.after.toList,Region.binds .any e=true∧(e.on=j∨(e.on < i ∧
     ((l.foldl (fun acc o=>acc++[o.after.toList.foldl (fun s e=>if Region.binds .any e then s ||| 2 ^ e.on ||| acc.getD e.on 0 else s) 0]) acc).getD e.on 0).testBit j=true)) by
  intro i j h
  exact H ops [] [] rfl (by simp) i j h
 intro l
 induction l with
 | nil=>intro pre acc _ h i j hb; simpa using h i j hb
 | cons o l ih =>
  intro pre acc hl h i j hb
  rw[List.foldl_cons] at hb ⊢
  have:=ih (pre++[o]) (acc++[o.after.toList.foldl (fun s e=>if Region.binds .any e then s ||| 2 ^ e.on ||| acc.getD e.on 0 else s) 0]) (by simp[hl]) ?_ i j hb
  ·simpa using this
  ·intro i j hb
   have getl:∀k,k < acc.length→(acc++[o.after.toList.foldl (fun s e=>if Region.binds .any e then s ||| 2 ^ e.on ||| acc.getD e.on 0 else s) 0]).getD k 0=acc.getD k 0:=by
    intro k hk
    simp only[List.getD_eq_getElem?_getD,List.getElem?_append_left hk]
   by_cases hi:i < acc.length
   ·rw[getl i hi] at hb
    obtain⟨o',ho',e,he,hbd,hd⟩:=h i j hb
    refine⟨o',by rw[List.getElem?_append_left (by omega)]; exact ho',e,he,hbd,?_⟩
    rcases hd with hd | ⟨hd1,hd2⟩
    ·exact .inl hd
    ·exact .inr ⟨hd1,by rw[getl _ (by omega)]; exact hd2⟩
   ·by_cases hie:i=acc.length
    ·subst hie
     have hlast:(acc++[o.after.toList.foldl (fun s e=>if Region.binds .any e then s ||| 2 ^ e.on ||| acc.getD e.on 0 else s) 0]).getD acc.length 0 =
       o.after.toList.foldl (fun s e=>if Region.binds .any e then s ||| 2 ^ e.on ||| acc.getD e.on 0 else s) 0:=by
      simp[List.getD_eq_getElem?_getD]
     rw[hlast] at hb
     rcases Qm5 acc j _ 0 hb with h0 | ⟨e,he,hbd,hd⟩
     ·simp at h0
     ·refine⟨o,by rw[hl,List.getElem?_append_right (Nat.le_refl _)]; simp,e,he,hbd,?_⟩
      rcases hd with hd | hd
      ·exact .inl hd
      ·have hlt:e.on < acc.length:=by
        rcases Nat.lt_or_ge e.on acc.length with h' | h'
        ·exact h'
        ·rw[List.getD_eq_getElem?_getD,List.getElem?_eq_none h'] at hd; simp at hd
       exact .inr ⟨hlt,by rw[getl _ hlt]; exact hd⟩
    ·rw[List.getD_eq_getElem?_getD,List.getElem?_eq_none (by simp; omega)] at hb
     simp at hb
theorem Qh5 {ops:List Oper} {D:Nat→Bool} (hD:∀i o,ops[i]? = some o→D i=true→∀e ∈ o.after.toList,Region.binds .any e=true→D e.on=true) :
  ∀(i:Nat),(∀o,ops[i]? = some o→∀e ∈ o.after.toList,Region.binds .any e=true→D e.on=true)→∀j,((befs ops).getD i 0).testBit j=true→D j=true:=by
 intro i
 induction i using Nat.strongRecOn with
 | _ i ih =>
  intro hi j hj
  obtain⟨o,ho,e,he,hb,hd⟩:=Qvo ops i j hj
  have hDe:=hi o ho e he hb
  rcases hd with rfl | ⟨hlt,hd⟩
  ·exact hDe
  ·exact ih e.on hlt (fun o' ho' e' he' hb'=>hD e.on o' ho' hDe e' he' hb') j hd
def looks (ops:Array Oper) (it:It):List Nat :=
 it.rd.filterMap (fun p=>match p.1 with | .tmp t=>some t | .global k=>some (GB+k) | _=>none) ++
 (match it.o.guard with
  | some (j,_)=>((ops[j]?).bind (·.dst)).toList
  | none=>[])
def ahead (bs:List Nat) (j i:Nat):Bool:=(bs.getD i 0).testBit j
def Qjr (ops:Array Oper) (env0:List (Nat×AV)) (its:List It):Bool :=
 let bs:=befs ops.toList
 let n:=its.length
 ops.size == n &&
 (List.range n).all fun i=>match its[i]? with
  | none=>false
  | some it =>
   Q1t it.F env0 && (it.o.after.toList.all fun e=>!Region.binds .any e || decide (e.on < i)) &&
   (List.range n).all fun k=>i == k || match its[k]? with
    | none=>false
    | some jt =>
     (match jt.o.dst with
      | none=>true
      | some d=>(!(looks ops it).contains d && !(it.o.dst == some d)) || (if k < i then ahead bs k i else ahead bs i k)) &&
     (!(it.eff.clash jt.eff) || (if k < i then ahead bs k i else ahead bs i k)) &&
     (it.F.isEmpty || ahead bs i k || Q15 it.F jt.res)
structure DOk (ops:Array Oper) (env0:List (Nat×AV)) (its:List It):Prop where
 size:ops.size=its.length
 env:∀(i:Nat) it,its[i]? = some it→Q1t it.F env0=true
 acyc:∀(i:Nat) it,its[i]? = some it→∀e ∈ it.o.after.toList,Region.binds .any e=true→e.on < i
 ord:∀(i k:Nat) it jt d,its[i]? = some it→its[k]? = some jt→i≠k→jt.o.dst=some d→(d ∈ looks ops it∨it.o.dst=some d) →
  (k < i→ahead (befs ops.toList) k i=true)∧(i < k→ahead (befs ops.toList) i k=true)
 ordX:∀(i k:Nat) it jt,its[i]? = some it→its[k]? = some jt→i≠k→it.eff.clash jt.eff=true →
  (k < i→ahead (befs ops.toList) k i=true)∧(i < k→ahead (befs ops.toList) i k=true)
 free:∀(i k:Nat) it jt,its[i]? = some it→its[k]? = some jt→i≠k→it.F = []∨ahead (befs ops.toList) i k=true∨Q15 it.F jt.res=true
theorem Qrk {ops:Array Oper} {env0:List (Nat×AV)} {its:List It} (h:Qjr ops env0 its=true):DOk ops env0 its:=by
 unfold Qjr at h
 simp only[Bool.and_eq_true,beq_iff_eq,List.all_eq_true,List.mem_range] at h
 obtain⟨hs,h⟩:=h
 have one:∀(i:Nat) it,its[i]? = some it→i < its.length:=fun i it hi=>(List.getElem?_eq_some_iff.1 hi).1
 have ifs:∀ {p q:Bool} {i k:Nat},i≠k→(if k < i then p else q)=true→(k < i→p=true)∧(i < k→q=true):=by
  intro p q i k hne hh
  by_cases hk:k < i
  ·rw[if_pos hk] at hh; exact⟨fun _=>hh,fun h=>by omega⟩
  ·rw[if_neg hk] at hh; exact⟨fun h=>(hk h).elim,fun _=>hh⟩
 have two:∀(i k:Nat) it jt,its[i]? = some it→its[k]? = some jt→i≠k →
   ((match jt.o.dst with
    | none=>true
    | some d=>(!(looks ops it).contains d && !(it.o.dst == some d)) || (if k < i then ahead (befs ops.toList) k i else ahead (befs ops.toList) i k))=true ∧
   (!(it.eff.clash jt.eff) || (if k < i then ahead (befs ops.toList) k i else ahead (befs ops.toList) i k))=true) ∧
   (it.F.isEmpty || ahead (befs ops.toList) i k || Q15 it.F jt.res)=true:=by
  intro i k it jt hi hk hne
  have h1:=h i (one i it hi)
  rw[hi] at h1
  simp only[Bool.and_eq_true,List.all_eq_true,List.mem_range] at h1
  have h2:=h1.2 k (one k jt hk)
  rw[hk] at h2
  rw[Bool.or_eq_true] at h2
  rcases h2 with h2 | h2
  ·exact(hne (by simpa using h2)).elim
  ·simpa only [Bool.and_eq_true] using h2
 refine⟨hs,?_,?_,?_,?_,?_⟩
 ·intro i it hi
  have h1:=h i (one i it hi)
  rw[hi] at h1
  simp only[Bool.and_eq_true] at h1
  exact h1.1.1
 ·intro i it hi e he hb
  have h1:=h i (one i it hi)
  rw[hi] at h1
  simp only[Bool.and_eq_true,List.all_eq_true] at h1
  have h2:=h1.1.2 e he
  rw[hb] at h2
  simpa using h2
 ·intro i k it jt d hi hk hne hd hl
  have h1:=(two i k it jt hi hk hne).1.1
  rw[hd] at h1
  simp only[Bool.or_eq_true] at h1
  rcases h1 with h1 | h1
  ·exfalso
   simp only[Bool.and_eq_true,Bool.not_eq_true',beq_eq_false_iff_ne,ne_eq] at h1
   rcases hl with hl | hl
   ·have:(looks ops it).contains d=true:=by simpa using hl
    rw[this] at h1; cases h1.1
   ·exact h1.2 hl
  ·exact ifs hne h1
 ·intro i k it jt hi hk hne h3
  have h1:=(two i k it jt hi hk hne).1.2
  simp only[Bool.or_eq_true] at h1
  rcases h1 with h1 | h1
  ·exfalso
   rw[h3] at h1
   cases h1
  ·exact ifs hne h1
 ·intro i k it jt hi hk hne
  have h1:=(two i k it jt hi hk hne).2
  simp only[Bool.or_eq_true] at h1
  rcases h1 with (h1 | h1) | h1
  ·exact .inl (by simpa using h1)
  ·exact .inr (.inl h1)
  ·exact .inr (.inr h1)
theorem Qjq {base:Nat→Option AV} {its:List It} {D:Nat→Bool} {t:Nat} {i:Nat}:∀(m:Nat),i≤m→(∀k it,its[k]? = some it→i≤k→it.o.dst=some t→D k=false) →
  E base its D m t=E base its D i t
 | 0, h, _ => by have : i = 0 := by omega
                 subst this; rfl
 | m+1,h,hd=>by
  rcases Nat.lt_or_ge m i with hlt | hge
  ·have:i=m+1:=by omega
   subst this; rfl
  ·have ih:=Qjq (base:=base) (its:=its) (D:=D) (t:=t) m hge hd
   rw[← ih]
   conv=>lhs; unfold E
   cases hit:its[m]? with
   | none=>rfl
   | some it =>
    simp only
    by_cases hdst:it.o.dst=some t
    ·rw[hd m it hit hge hdst]; simp
    ·have:(it.o.dst == some t)=false:=by simpa using hdst
     rw[this]; simp
theorem Qg2 {base:Nat→Option AV} {its:List It} {D D' : Nat→Bool} {t:Nat}:∀(m:Nat),(∀k it,its[k]? = some it→k < m→it.o.dst=some t→D k=D' k)→E base its D m t=E base its D' m t
 | 0,_=>rfl
 | m+1,hd=>by
  have ih:=Qg2 (base:=base) m fun k it hk hl hdst=>hd k it hk (by omega) hdst
  conv=>lhs; unfold E
  conv=>rhs; unfold E
  cases hit:its[m]? with
  | none=>exact ih
  | some it =>
   simp only
   by_cases hdst:it.o.dst=some t
   ·rw[hd m it hit (Nat.lt_succ_self m) hdst,ih]
   ·have:(it.o.dst == some t)=false:=by simpa using hdst
    rw[this]; simpa using ih
theorem Eff.apply_lookup {e:Eff} {X:Store} {k:Nat} (h:e.writes k=false):(e.apply X).objs.lookup k=X.objs.lookup k:=by
 cases e with
 | none=>rfl
 | look=>rfl
 | lab=>rfl
 | put j c =>
  simp only[Eff.apply,Qb]
  rw[if_neg]
  rintro rfl
  simp[Eff.writes] at h
 | putl j c L =>
  simp only[Eff.apply,Qb]
  rw[if_neg]
  rintro rfl
  simp[Eff.writes] at h
 | all=>simp[Eff.writes] at h
 | new os L =>
  simp only[Eff.writes,Option.isSome_eq_false_iff,Option.isNone_iff_eq_none] at h
  simp only[Eff.apply,List.lookup_append,h,Option.none_or]
def Eff.isAll:Eff→Bool
 | .all _=>true
 | .lab _=>true
 | .putl _ _ _=>true
 | .new _ _=>true
 | _=>false
theorem Eff.apply_live {e:Eff} {X:Store} (h:e.isAll=false):(e.apply X).live=X.live:=by
 cases e <;> first | rfl | simp[Eff.isAll] at h
theorem Q7i {X0:Store} {its:List It} {D:Nat→Bool} {i j:Nat}:∀(m:Nat),i≤m→(∀k it,its[k]? = some it→i≤k→it.eff.writes j=true→D k=false) →
  (XE X0 its D m).objs.lookup j=(XE X0 its D i).objs.lookup j
 | 0, h, _ => by have : i = 0 := by omega
                 subst this; rfl
 | m+1,h,hd=>by
  rcases Nat.lt_or_ge m i with hlt | hge
  ·have:i=m+1:=by omega
   subst this; rfl
  ·have ih:=Q7i (X0:=X0) (its:=its) (D:=D) m hge hd
   rw[← ih]
   conv=>lhs; unfold XE
   cases hit:its[m]? with
   | none=>rfl
   | some it =>
    simp only
    cases hw:it.eff.writes j with
    | false=>split <;> simp[Eff.apply_lookup hw]
    | true=>rw[hd m it hit hge hw]; simp
theorem Qc9 {X0:Store} {its:List It} {D D' : Nat→Bool} {j:Nat}:∀(m:Nat),(∀k it,its[k]? = some it→k < m→it.eff.writes j=true→D k=D' k) →
  (XE X0 its D m).objs.lookup j=(XE X0 its D' m).objs.lookup j
 | 0,_=>rfl
 | m+1,hd=>by
  have ih:=Qc9 (X0:=X0) m fun k it hk hl hw=>hd k it hk (by omega) hw
  conv=>lhs; unfold XE
  conv=>rhs; unfold XE
  cases hit:its[m]? with
  | none=>exact ih
  | some it =>
   simp only
   cases hw:it.eff.writes j with
   | false=>split <;> split <;> simp[Eff.apply_lookup hw,ih]
   | true =>
    rw[hd m it hit (Nat.lt_succ_self m) hw]
    split
    ·cases he:it.eff with
     | none=>exact ih
     | look=>exact ih
     | put k c=>simp only[Eff.apply,Qb,ih]
     | all X'=>rfl
     | lab L=>exact ih
     | putl k c L=>simp only[Eff.apply,Qb,ih]
     | new os L=>simp only[Eff.apply,List.lookup_append,ih]
    ·exact ih
theorem Q1x {X0:Store} {its:List It} {D:Nat→Bool} {i:Nat}:∀(m:Nat),i≤m→(∀k it,its[k]? = some it→i≤k→it.eff.isAll=true→D k=false) →
  (XE X0 its D m).live=(XE X0 its D i).live
 | 0, h, _ => by have : i = 0 := by omega
                 subst this; rfl
 | m+1,h,hd=>by
  rcases Nat.lt_or_ge m i with hlt | hge
  ·have:i=m+1:=by omega
   subst this; rfl
  ·have ih:=Q1x (X0:=X0) (its:=its) (D:=D) m hge hd
   rw[← ih]
   conv=>lhs; unfold XE
   cases hit:its[m]? with
   | none=>rfl
   | some it =>
    simp only
    cases hw:it.eff.isAll with
    | false=>split <;> simp[Eff.apply_live hw]
    | true=>rw[hd m it hit hge hw]; simp
theorem Q30 {X0:Store} {its:List It} {D D' : Nat→Bool}:∀(m:Nat),(∀k it,its[k]? = some it→k < m→it.eff.isAll=true→D k=D' k) →
  (XE X0 its D m).live=(XE X0 its D' m).live
 | 0,_=>rfl
 | m+1,hd=>by
  have ih:=Q30 (X0:=X0) m fun k it hk hl hw=>hd k it hk (by omega) hw
  conv=>lhs; unfold XE
  conv=>rhs; unfold XE
  cases hit:its[m]? with
  | none=>exact ih
  | some it =>
   simp only
   cases hw:it.eff.isAll with
   | false=>split <;> split <;> simp[Eff.apply_live hw,ih]
   | true =>
    rw[hd m it hit (Nat.lt_succ_self m) hw]
    cases he:it.eff with
    | all X'=>split <;> simp[Eff.apply,ih]
    | lab L=>split <;> simp[Eff.apply,ih]
    | putl k c L=>split <;> simp[Eff.apply,ih]
    | new os L=>split <;> simp[Eff.apply,ih]
    | _=>rw[he] at hw; simp[Eff.isAll] at hw
theorem Q9o (e:Eff) (j:Nat) (h:(∃js,j ∈ js∧e = .look js)∨∃c,e = .put j c) (e' : Eff) (hw:e'.writes j=true):e.clash e' = true:=by
 rcases h with ⟨js,hj,rfl⟩ | ⟨c,rfl⟩ <;> cases e' <;> first | (simp_all [Eff.clash,Eff.writes]; done) | (simp only[Eff.clash,List.any_eq_true]; exact⟨j,hj,hw⟩)
theorem Qp0 {e:Eff} {j:Nat} (h:e.writes j=true):e≠.none:=by rintro rfl; cases h
theorem Qw1 {e:Eff} (h:e.isAll=true):e≠.none:=by rintro rfl; cases h
theorem Qmo (X:Store) (e:Eff) (h:e≠.none):(Eff.all X).clash e=true:=by
 cases e <;> first | rfl | exact absurd rfl h
structure Alike (X Y:Store):Prop where
 objs:∀k,X.objs.lookup k=Y.objs.lookup k
 live:X.live=Y.live
theorem HR.alike {nm:List Nat} {B:Base} {g:Gh} {w:World} {X Y:Store} (h:HR nm B g w X) (e:Alike X Y):HR nm B g w Y:=by
 refine⟨?_,h.sane,h.base,h.io,h.le,h.frame,?_,?_,?_,?_,?_,h.tipinj,?_,h.tipnew,h.tiplt,h.eta.same (Nat.le_refl _) fun k o hk=>⟨o,by rw[e.objs]; exact hk⟩⟩
 ·intro k hk; rw[← e.objs]; exact h.keep k hk
 ·intro k o hk; rw[← e.objs] at hk; exact h.objs k o hk
 ·intro k o hk; rw[← e.objs] at hk; exact h.objγ k o hk
 ·intro k k' o o' hk hk'; rw[← e.objs] at hk hk'; exact h.objinj k k' o o' hk hk'
 ·intro k o hk; rw[← e.objs] at hk; exact h.objnew k o hk
 ·intro n; rw[← e.live]; exact h.live n
 ·intro n b k o hn hk; rw[← e.objs] at hk; exact h.tipobj n b k o hn hk
theorem Alike.symm {X Y:Store} (h:Alike X Y):Alike Y X:=⟨fun k=>(h.objs k).symm,h.live.symm⟩
theorem Alike.trans {X Y Z:Store} (h:Alike X Y) (h' : Alike Y Z):Alike X Z:=⟨fun k=>(h.objs k).trans (h'.objs k),h.live.trans h'.live⟩
theorem Qhd {base:Nat→Option AV} {its:List It} {D:Nat→Bool} {t:Nat} {x:AV}:∀(m:Nat),E base its D m t=some x→base t=some x∨∃k it,its[k]? = some it∧D k=true∧it.res=x
 | 0,h=>.inl h
 | m+1,h=>by
  unfold E at h
  cases hit:its[m]? with
  | none=>rw[hit] at h; exact Qhd m h
  | some it =>
   rw[hit] at h
   simp only at h
   split at h
   ·rename_i hc
    simp only[Bool.and_eq_true] at hc
    exact .inr ⟨m,it,hit,hc.1,by simpa using h⟩
   ·exact Qhd m h
def sub (L:List Nat) (env:List (Nat×AV)):List (Nat×AV):=L.filterMap fun t=>(env.lookup t).map fun x=>(t,x)
theorem Qu7 {L:List Nat} {env:List (Nat×AV)} {t:Nat} {x:AV} (h:(sub L env).lookup t=some x):t ∈ L∧env.lookup t=some x:=by
 have:=Qn h
 unfold sub at this
 rw[List.mem_filterMap] at this
 obtain⟨t',ht',he⟩:=this
 obtain⟨y,hy,hp⟩:=Option.map_eq_some_iff.1 he
 cases hp
 exact⟨ht',hy⟩
theorem Q7n {env:List (Nat×AV)} {t:Nat} {x:AV}:∀ {L:List Nat},t ∈ L→env.lookup t=some x→(sub L env).lookup t=some x
 | [],h,_=>by simp at h
 | s :: L,h,hx=>by
  unfold sub
  rw[List.filterMap_cons]
  by_cases hst:t=s
  ·subst hst; simp[hx]
  ·have hL:t ∈ L:=by
    rcases List.mem_cons.1 h with h | h
    ·exact(hst h).elim
    ·exact h
   have ih:=Q7n hL hx
   unfold sub at ih
   cases hs:env.lookup s with
   | none=>simpa using ih
   | some y =>
    simp only[Option.map_some,List.lookup_cons]
    have:(t == s)=false:=by simpa using hst
    rw[this]; exact ih
theorem Has.sub {env:List (Nat×AV)} {t:Nat} {x:AV} {L:List Nat} (h:Has env t x) (ht:t ∈ L):Has (sub L env) t x:=by
 cases h with
 | eq _ h=>exact .eq _ (Q7n ht h)
 | tip n sz es ty h=>exact .tip n sz es ty (Q7n ht h)
 | nil sz h=>exact .nil sz (Q7n ht h)
 | le _ _ h hle=>exact .le _ _ (Q7n ht h) hle
structure DR (S:Sig) (B:Base) (st0:St) (its:List It) (D:Nat→Bool) (g:Gh) (w:World) (a:Act):Prop where
 defers:a.defers = []
 size:a.tmps.size=S.N
 hr:HR S.names B g w (XE st0.X its D its.length)
 env:∀t x,E (fun t=>st0.env.lookup t) its D its.length t=some x→∃v,slotV a t=some v∧RA g w x v
theorem Qte {D D' : Nat→Bool} {n i:Nat} (hi:i < n) (h0:D i=false) (h1:D' i=true) (hsame:∀j,j≠i→D' j=D j) :
  ((List.range n).filter fun j=>!D' j).length < ((List.range n).filter fun j=>!D j).length:=by
 have hsub:∀l:List Nat,((l.filter fun j=>!D' j).length≤(l.filter fun j=>!D j).length)∧(i ∈ l→(l.filter fun j=>!D' j).length < (l.filter fun j=>!D j).length):=by
  intro l
  induction l with
  | nil=>simp
  | cons x l ih =>
   rw[List.filter_cons,List.filter_cons]
   by_cases hx:x=i
   ·subst hx
    simp only[h0,h1,Bool.not_true,Bool.not_false,if_true,Bool.false_eq_true,if_false,List.length_cons]
    exact⟨by have:=ih.1; omega,fun _=>by have:=ih.1; omega⟩
   ·rw[hsame x hx]
    have hmem:i ∈ x :: l→i ∈ l:=fun h=>by
     rcases List.mem_cons.1 h with h | h
     ·exact(hx h.symm).elim
     ·exact h
    split
    ·simp only[List.length_cons]
     exact⟨by have:=ih.1; omega,fun h=>by have:=ih.2 (hmem h); omega⟩
    ·exact⟨ih.1,fun h=>ih.2 (hmem h)⟩
 exact(hsub (List.range n)).2 (List.mem_range.2 hi)
theorem Qkx {P:Program} {S:Sig} {B:Base} {ops:Array Oper} {st0 st' : St} {its:List It} (hd:DChain P S ops 0 st0 its st') (ho:DOk ops st0.env its)
  {Q:Exit→Act→World→Prop} (hq:∀g' w' a',SR S B g' w' st' a'→Q .normal a' w') :
  ∀(fuel:Nat) (listed:Array Bool) (g:Gh) (w:World) (a:Act),listed.size=ops.size →
   (∀i o,ops[i]? = some o→listed.getD i false=true→∀e ∈ o.after.toList,Region.binds .any e=true→listed.getD e.on false=true) →
   DR S B st0 its (fun i=>listed.getD i false) g w a→((List.range ops.size).filter fun j=>!listed.getD j false).length≤fuel →
   wpAny P .any ops Q fuel listed a w:=by
 obtain⟨items,fin1,fin2⟩:=hd.items
 have itsome:∀(i:Nat),i < ops.size→∃it,its[i]? = some it:=fun i hi=>⟨its[i]'(by rw[← ho.size]; exact hi),by simp[← ho.size,hi]⟩
 have opsAt:∀(i:Nat) (it:It),its[i]? = some it→ops[i]? = some it.o:=by
  intro i it hi
  obtain⟨stm,h1,_⟩:=items i it hi
  have:=h1.at_
  rwa [Nat.zero_add] at this
 -- nobody is ready: all is done
 have done:∀(listed:Array Bool) (g:Gh) (w:World) (a:Act),listed.size=ops.size→DR S B st0 its (fun i=>listed.getD i false) g w a →
   (∀i,i < ops.size→listed.getD i false=true)→Q .normal a w:=by
  intro listed g w a _ hdr hall
  refine hq g w a ⟨hdr.defers,hdr.size,?_,?_⟩
  ·rw[fin2]
   refine hdr.hr.alike ⟨fun j=>?_,?_⟩
   ·exact Qc9 (X0:=st0.X) (its:=its) (D:=fun i=>listed.getD i false) (D':=fun _=>true) its.length fun k it hk hl _=>by
     (try simp only); exact hall k (by rw[ho.size]; exact hl)
   ·exact Q30 (X0:=st0.X) (its:=its) (D:=fun i=>listed.getD i false) (D':=fun _=>true) its.length fun k it hk hl _=>by
     (try simp only); exact hall k (by rw[ho.size]; exact hl)
  ·intro t x hx
   rw[fin1 t] at hx
   have:=Qg2 (base:=fun t=>st0.env.lookup t) (its:=its) (D:=fun i=>listed.getD i false) (D':=fun _=>true) (t:=t) its.length fun k it hk hl _=>by
    (try simp only); exact hall k (by rw[ho.size]; exact hl)
   exact hdr.env t x (by rw[this]; exact hx)
 have getD2:∀(listed:Array Bool) (i:Nat) (d d' : Bool),i < listed.size→listed.getD i d=listed.getD i d':=by
  intro listed i d d' hi; simp[Array.getD,hi]
 have readyNil:∀(listed:Array Bool),listed.size=ops.size→Region.ready .any ops listed = []→∀i,i < ops.size→listed.getD i false=true:=by
  intro listed hs hr i
  induction i using Nat.strongRecOn with
  | _ i ih =>
   intro hi
   cases hl:listed.getD i false with
   | true=>rfl
   | false =>
    exfalso
    obtain⟨it,hit⟩:=itsome i hi
    have hmem:i ∈ Region.ready .any ops listed:=by
     rw[mem_ready]
     refine⟨by rw[getD2 listed i true false (by omega)]; exact hl,it.o,opsAt i it hit,fun e he hb=>?_⟩
     have hlt:=ho.acyc i it hit e (by simpa using he) hb
     exact ih e.on hlt (by omega)
    rw[hr] at hmem; simp at hmem
 intro fuel
 induction fuel with
 | zero =>
  intro listed g w a hs hcl hdr hc
  have hall:∀i,i < ops.size→listed.getD i false=true:=by
   intro i hi
   have h0:(List.range ops.size).filter (fun j=>!listed.getD j false) = []:=List.length_eq_zero_iff.1 (by omega)
   cases hl:listed.getD i false with
   | true=>rfl
   | false =>
    have:i ∈ (List.range ops.size).filter (fun j=>!listed.getD j false):=by
     rw[List.mem_filter]; exact⟨List.mem_range.2 hi,by simp[hl]⟩
    rw[h0] at this; simp at this
  refine⟨?_,done listed g w a hs hdr hall⟩
  cases hr:Region.ready .any ops listed with
  | nil=>rfl
  | cons i r =>
   have hm:i ∈ Region.ready .any ops listed:=by rw[hr]; exact List.mem_cons_self
   rw[mem_ready] at hm
   obtain⟨h1,o,h2,_⟩:=hm
   have hi:i < ops.size:=(Array.getElem?_eq_some_iff.1 h2).1
   rw[getD2 listed i true false (by omega),hall i hi] at h1
   cases h1
 | succ fuel ih =>
  intro listed g w a hs hcl hdr hc
  refine⟨fun hr=>done listed g w a hs hdr (readyNil listed hs hr),?_⟩
  intro i hmem
  rw[mem_ready] at hmem
  obtain⟨hun,o,hio,hedges⟩:=hmem
  have hi:i < ops.size:=(Array.getElem?_eq_some_iff.1 hio).1
  have hDi:listed.getD i false=false:=by rw[getD2 listed i false true (by omega)]; exact hun
  obtain⟨it,hit⟩:=itsome i hi
  have hoe:o=it.o:=by
   have:=opsAt i it hit
   rw[hio] at this; simpa using this
  subst hoe
  obtain⟨stm,hok,henv,hXm⟩:=items i it hit
  have hilt:i < its.length:=by rw[← ho.size]; exact hi
  -- who stands ahead of i is done; who stands behind it is not
  have hcl' : ∀i o,ops.toList[i]? = some o→listed.getD i false=true→∀e ∈ o.after.toList,Region.binds .any e=true→listed.getD e.on false=true :=
   fun i o h=>hcl i o (by simpa using h)
  have hbefore:∀k,ahead (befs ops.toList) k i=true→listed.getD k false=true:=by
   intro k hk
   refine Qh5 (D:=fun i=>listed.getD i false) hcl' i ?_ k hk
   intro o' ho' e he hb
   have:o' = it.o:=by
    have h1:=opsAt i it hit
    rw[← Array.getElem?_toList,ho'] at h1; simpa using h1
   subst this
   exact hedges e (by simpa using he) hb
  have hbehind:∀k,ahead (befs ops.toList) i k=true→listed.getD k false=false:=by
   intro k hk
   cases hl:listed.getD k false with
   | false=>rfl
   | true =>
    have:=Qh5 (D:=fun i=>listed.getD i false) hcl' k (fun o' ho' e he hb=>hcl' k o' ho' hl e he hb) i hk
    (try simp only at this)
    rw[hDi] at this; cases this
  -- what i looks at is asq it is at its place in the text
  have hlook:∀t,t ∈ looks ops it→E (fun t=>st0.env.lookup t) its (fun i=>listed.getD i false) its.length t=stm.env.lookup t:=by
   intro t ht
   rw[henv t,Qjq (i:=i) its.length (by omega) ?_]
   ·refine Qg2 i fun k jt hk hl hdst=>?_
    (try simp only)
    exact hbefore k ((ho.ord i k it jt t hit hk (by omega) hdst (.inl ht)).1 hl)
   ·intro k jt hk hge hdst
    (try simp only)
    rcases Nat.lt_or_ge i k with hlt | hle
    ·exact hbehind k ((ho.ord i k it jt t hit hk (by omega) hdst (.inl ht)).2 hlt)
    ·have:k=i:=by omega
     subst this; exact hDi
  -- the state that i sees
  have hsr:∀X,X=XE st0.X its (fun i=>listed.getD i false) its.length→SR S B g w ⟨sub (looks ops it) stm.env,X⟩ a:=by
   intro X hX
   subst hX
   refine⟨hdr.defers,hdr.size,hdr.hr,?_⟩
   intro t x hx
   obtain⟨h1,h2⟩:=Qu7 hx
   exact hdr.env t x (by rw[hlook t h1]; exact h2)
  have hguard:Guard ops (⟨sub (looks ops it) stm.env,XE st0.X its (fun i=>listed.getD i false) its.length⟩:St) it.o.guard it.run:=by
   have h1:=hok.guard
   have h2:∀(j:Nat) (d:Nat) (o:Oper) (want:Bool),it.o.guard=some (j,want)→ops[j]? = some o→o.dst=some d→d ∈ looks ops it:=by
    intro j d o want hg hj hdst
    unfold looks
    rw[hg]
    simp[hj,hdst]
   generalize it.o.guard=og at h1 h2
   generalize it.run=rn at h1
   cases h1 with
   | none=>exact .none
   | some j d o want b h3 h4 h5=>exact .some j d o want b h3 h4 (Q7n (h2 j d o want rfl h3 h4) h5)
   | undef j d o want h3 h4 h5=>exact .undef j d o want h3 h4 (Q7n (h2 j d o want rfl h3 h4) h5)
  have hsees:∀p ∈ it.rd,Sees (⟨sub (looks ops it) stm.env,XE st0.X its (fun i=>listed.getD i false) its.length⟩:St) p.1 p.2:=by
   intro p hp
   have h1:=hok.sees p hp
   have h2:∀t,p.1 = .tmp t→t ∈ looks ops it:=by
    intro t ht
    unfold looks
    rw[List.mem_append,List.mem_filterMap]
    exact .inl ⟨p,hp,by rw[ht]⟩
   have h3:∀k,p.1 = .global k→GB+k ∈ looks ops it:=by
    intro k ht
    unfold looks
    rw[List.mem_append,List.mem_filterMap]
    exact .inl ⟨p,hp,by rw[ht]⟩
   obtain⟨p1,p2⟩:=p
   simp only at h1 h2 h3 ⊢
   cases h1 with
   | tmp t _ ht h=>exact .tmp t _ ht (h.sub (h2 t rfl))
   | glob k _ h=>exact .glob k _ (h.sub (h3 k rfl))
   | const v y h=>exact .const v y h
   | func f=>exact .func f
  have hwant:=hguard.wanted (o:=it.o) (hsr _ rfl)
  -- behind i
  have hset:∀j,(listed.setIfInBounds i true).getD j false=if j=i then true else listed.getD j false:=by
   intro j
   by_cases hj:j=i
   ·subst hj
    have:j < listed.size:=by omega
    simp[this]
   ·rw[if_neg hj,getD_set_ne false (Ne.symm hj)]
  have hD' : (fun j=>(listed.setIfInBounds i true).getD j false)=fun j=>if j=i then true else listed.getD j false:=funext hset
  have next:∀(g' : Gh) (w' : World) (v:Value),HR S.names B g' w' (XE st0.X its (fun j=>if j=i then true else listed.getD j false) its.length)→Trans it.F g w g' w'→RA g' w' it.res v →
    wpAny P .any ops Q fuel (listed.setIfInBounds i true) (a.put it.o.dst v) w':=by
   intro g' w' v hX ht hv
   refine ih (listed.setIfInBounds i true) g' w' (a.put it.o.dst v) (by simp[hs]) ?_ ?_ ?_
   ·intro j o' hj hl e he hb
    rw[hset] at hl ⊢
    by_cases hji:j=i
    ·subst hji
     have:o' = it.o:=by rw[hio] at hj; simpa using hj.symm
     subst this
     have:=hedges e (by simpa using he) hb
     split
     ·rfl
     ·exact this
    ·rw[if_neg hji] at hl
     have:=hcl j o' hj hl e he hb
     split
     ·rfl
     ·exact this
   ·rw[hD']
    refine⟨?_,?_,hX,?_⟩
    ·cases hdst:it.o.dst <;> simp[Act.put,hdr.defers]
    ·cases hdst:it.o.dst <;> simp[Act.put,hdr.size]
    ·intro t x hx
     by_cases hdst:it.o.dst=some t
     ·-- its own slot
      have hE:E (fun t=>st0.env.lookup t) its (fun j=>if j=i then true else listed.getD j false) its.length t=some it.res:=by
       rw[Qjq (i:=i+1) its.length (by omega) ?_]
       ·unfold E
        rw[hit]
        simp[hdst]
       ·intro k jt hk hge hkd
        (try simp only)
        rw[if_neg (by omega)]
        exact hbehind k ((ho.ord i k it jt t hit hk (by omega) hkd (.inr hdst)).2 (by omega))
      rw[hE] at hx
      simp only[Option.some.injEq] at hx
      subst hx
      have hlt:t < a.tmps.size∧t < GB:=by
       have:=hok.dst
       rw[hdst] at this
       rw[hdr.size]; simpa[dstOk] using this
      refine⟨v,?_,hv⟩
      rw[hdst]; exact Qd0 hlt.1 hlt.2
     ·have hE:E (fun t=>st0.env.lookup t) its (fun j=>if j=i then true else listed.getD j false) its.length t=E (fun t=>st0.env.lookup t) its (fun i=>listed.getD i false) its.length t:=by
       refine Qg2 its.length fun k jt hk hl hkd=>?_
       (try simp only)
       by_cases hki:k=i
       ·subst hki
        rw[hit] at hk; simp only[Option.some.injEq] at hk; subst hk
        exact(hdst hkd).elim
       ·rw[if_neg hki]
      rw[hE] at hx
      obtain⟨u,hu,hra⟩:=hdr.env t x hx
      have hfree:Free it.F x:=by
       rcases Qhd its.length hx with h | ⟨k,jt,hk,hDk,rfl⟩
       ·exact Q7a (ho.env i it hit) h
       ·have hki:i≠k:=by rintro rfl; (try simp only at hDk); rw[hDi] at hDk; cases hDk
        rcases ho.free i k it jt hit hk hki with h | h | h
        ·exact .all _ _ h
        ·have:=hbehind k h; (try simp only at hDk); rw[this] at hDk; cases hDk
        ·exact Q3f h
      refine⟨u,?_,hra.mono ht hfree⟩
      cases hdd:it.o.dst with
      | none=>simpa[Act.put] using hu
      | some d =>
       have:t≠d:=by rintro rfl; exact hdst hdd
       exact(Qfx this).trans hu
   ·have:=Qte (D:=fun j=>listed.getD j false) (D':=fun j=>(listed.setIfInBounds i true).getD j false) (n:=ops.size) (i:=i) hi hDi (by (try simp only); rw[hset,if_pos rfl]) (by
     intro j hj; (try simp only); rw[hset,if_neg hj])
    (try simp only at this)
    omega
  -- the objects behind i, where it does not touch all of them
  have sameAt:∀j,it.eff.writes j=false→(XE st0.X its (fun j=>if j=i then true else listed.getD j false) its.length).objs.lookup j=(XE st0.X its (fun i=>listed.getD i false) its.length).objs.lookup j:=by
   intro j hw
   refine Qc9 its.length fun k jt hk hl hkw=>?_
   (try simp only)
   by_cases hki:k=i
   ·subst hki
    rw[hit] at hk; simp only[Option.some.injEq] at hk; subst hk
    rw[hw] at hkw; cases hkw
   ·rw[if_neg hki]
  have sameLive:it.eff.isAll=false→(XE st0.X its (fun j=>if j=i then true else listed.getD j false) its.length).live=(XE st0.X its (fun i=>listed.getD i false) its.length).live:=by
   intro hw
   refine Q30 its.length fun k jt hk hl hkw=>?_
   (try simp only)
   by_cases hki:k=i
   ·subst hki
    rw[hit] at hk; simp only[Option.some.injEq] at hk; subst hk
    rw[hw] at hkw; cases hkw
   ·rw[if_neg hki]
  -- an object that i looks at is asq it is at i's place in the text
  have objAt:∀j,(∀e',e'.writes j=true→it.eff.clash e' = true)→(XE st0.X its (fun i=>listed.getD i false) its.length).objs.lookup j=stm.X.objs.lookup j:=by
   intro j hcl'
   rw[hXm,Q7i (i:=i) its.length (by omega) ?_]
   ·refine Qc9 i fun k jt hk hl hkw=>?_
    (try simp only)
    exact hbefore k ((ho.ordX i k it jt hit hk (by omega) (hcl' _ hkw)).1 hl)
   ·intro k jt hk hge hkw
    (try simp only)
    rcases Nat.lt_or_ge i k with hlt | hle
    ·exact hbehind k ((ho.ordX i k it jt hit hk (by omega) (hcl' _ hkw)).2 hlt)
    ·have:k=i:=by omega
     subst this; exact hDi
  unfold wpOp
  rw[hio]
  simp only
  rw[hwant]
  cases hrun:it.run with
  | false =>
   obtain⟨h1,h2,h3⟩:=hok.skipped hrun
   simp only[Bool.false_eq_true,if_false]
   refine next g w undef (hdr.hr.alike ⟨fun j=>(sameAt j (by rw[h1]; rfl)).symm,(sameLive (by rw[h1]; rfl)).symm⟩) (by rw[h2]; exact .refl _ _ _) (by rw[h3]; exact .ofSc _ _ _)
  | true =>
   simp only[if_true]
   refine .inl ?_
   have hopt:=hok.opt hrun
   cases he:it.eff with
   | none =>
    rw[he] at hopt
    obtain⟨h2,hT⟩:=hopt
    refine hT (XE st0.X its (fun i=>listed.getD i false) its.length) S.names S.small B g w a hdr.hr (fun p hp=>(hsees p hp).ra (hsr _ rfl)) _ Q ?_
    intro g' w' v hX ht hv
    exact next g' w' v (hX.alike ⟨fun j=>(sameAt j (by rw[he]; rfl)).symm,(sameLive (by rw[he]; rfl)).symm⟩) (by rw[h2]; exact ht) hv
   | look ks =>
    rw[he] at hopt
    obtain⟨h2,hT⟩:=hopt
    refine hT (XE st0.X its (fun i=>listed.getD i false) its.length) (fun k hk=>objAt k (fun e' hw=>by rw[he]; exact Q9o _ k (.inl ⟨ks,hk,rfl⟩) e' hw)) S.names S.small B g w a hdr.hr (fun p hp=>(hsees p hp).ra (hsr _ rfl)) _ Q ?_
    intro g' w' v hX ht hv
    exact next g' w' v (hX.alike ⟨fun j=>(sameAt j (by rw[he]; rfl)).symm,(sameLive (by rw[he]; rfl)).symm⟩) (by rw[h2]; exact ht) hv
   | put k c =>
    rw[he] at hopt
    obtain⟨h2,hT⟩:=hopt
    refine hT (XE st0.X its (fun i=>listed.getD i false) its.length) (objAt k (fun e' hw=>by rw[he]; exact Q9o _ k (.inr ⟨c,rfl⟩) e' hw)) S.names S.small B g w a hdr.hr (fun p hp=>(hsees p hp).ra (hsr _ rfl)) _ Q ?_
    intro g' w' v hX ht hv
    refine next g' w' v (hX.alike ⟨fun j=>?_,(sameLive (by rw[he]; rfl)).symm⟩) (by rw[h2]; exact ht) hv
    simp only[Qb]
    by_cases hjk:j=k
    ·subst hjk
     rw[if_pos rfl,Q7i (i:=i+1) its.length (by omega) ?_]
     ·unfold XE
      rw[hit]
      simp[he,Eff.apply,Qb]
     ·intro m jt hm hge hw
      (try simp only)
      rw[if_neg (by omega)]
      exact hbehind m ((ho.ordX i m it jt hit hm (by omega) (by rw[he]; exact Q9o _ j (.inr ⟨c,rfl⟩) _ hw)).2 (by omega))
    ·rw[if_neg hjk]
     refine(sameAt j ?_).symm
     rw[he]
     simp only[Eff.writes,beq_eq_false_iff_ne,ne_eq]
     exact Ne.symm hjk
   | all X' =>
    rw[he] at hopt
    have hclash:∀(e' : Eff) (j:Nat),e'.writes j=true→it.eff.clash e' = true:=by
     intro e' j hw; rw[he]; exact Qmo _ _ (Qp0 hw)
    have hclashA:∀e' : Eff,e'.isAll=true→it.eff.clash e' = true:=by
     intro e' hw; rw[he]; exact Qmo _ _ (Qw1 hw)
    have hXD:Alike (XE st0.X its (fun i=>listed.getD i false) its.length) stm.X:=by
     refine⟨fun j=>objAt j (fun e' hw=>hclash e' j hw),?_⟩
     rw[hXm,Q1x (i:=i) its.length (by omega) ?_]
     ·refine Q30 i fun k jt hk hl hkw=>?_
      (try simp only)
      exact hbefore k ((ho.ordX i k it jt hit hk (by omega) (hclashA _ hkw)).1 hl)
     ·intro k jt hk hge hkw
      (try simp only)
      rcases Nat.lt_or_ge i k with hlt | hle
      ·exact hbehind k ((ho.ordX i k it jt hit hk (by omega) (hclashA _ hkw)).2 hlt)
      ·have:k=i:=by omega
       subst this; exact hDi
    refine hopt S.names S.small B g w a (hdr.hr.alike hXD) (fun p hp=>(hsees p hp).ra (hsr _ rfl)) _ Q ?_
    intro g' w' v hX ht hv
    refine next g' w' v (hX.alike ⟨fun j=>?_,?_⟩) ht hv
    ·rw[Q7i (i:=i+1) its.length (by omega) ?_]
     ·unfold XE
      rw[hit]
      simp[he,Eff.apply]
     ·intro m jt hm hge hw
      (try simp only)
      rw[if_neg (by omega)]
      exact hbehind m ((ho.ordX i m it jt hit hm (by omega) (hclash _ j hw)).2 (by omega))
    ·rw[Q1x (i:=i+1) its.length (by omega) ?_]
     ·unfold XE
      rw[hit]
      simp[he,Eff.apply]
     ·intro m jt hm hge hw
      (try simp only)
      rw[if_neg (by omega)]
      exact hbehind m ((ho.ordX i m it jt hit hm (by omega) (hclashA _ hw)).2 (by omega))
   | lab L =>
    rw[he] at hopt
    have hclash:∀(e' : Eff) (j:Nat),e'.writes j=true→it.eff.clash e' = true:=by
     intro e' j hw; rw[he]; cases e' <;> first | rfl | (simp[Eff.writes] at hw)
    have hclashA:∀e' : Eff,e'.isAll=true→it.eff.clash e' = true:=by
     intro e' hw; rw[he]; cases e' <;> first | rfl | (simp[Eff.isAll] at hw)
    have hXD:Alike (XE st0.X its (fun i=>listed.getD i false) its.length) stm.X:=by
     refine⟨fun j=>objAt j (fun e' hw=>hclash e' j hw),?_⟩
     rw[hXm,Q1x (i:=i) its.length (by omega) ?_]
     ·refine Q30 i fun k jt hk hl hkw=>?_
      (try simp only)
      exact hbefore k ((ho.ordX i k it jt hit hk (by omega) (hclashA _ hkw)).1 hl)
     ·intro k jt hk hge hkw
      (try simp only)
      rcases Nat.lt_or_ge i k with hlt | hle
      ·exact hbehind k ((ho.ordX i k it jt hit hk (by omega) (hclashA _ hkw)).2 hlt)
      ·have:k=i:=by omega
       subst this; exact hDi
    refine hopt S.names S.small B g w a (hdr.hr.alike hXD) (fun p hp=>(hsees p hp).ra (hsr _ rfl)) _ Q ?_
    intro g' w' v hX ht hv
    refine next g' w' v (hX.alike ⟨fun j=>?_,?_⟩) ht hv
    ·rw[sameAt j (by rw[he]; rfl),objAt j (fun e' hw=>hclash e' j hw)]
    ·rw[Q1x (i:=i+1) its.length (by omega) ?_]
     ·unfold XE
      rw[hit]
      simp[he,Eff.apply]
     ·intro m jt hm hge hw
      (try simp only)
      rw[if_neg (by omega)]
      exact hbehind m ((ho.ordX i m it jt hit hm (by omega) (hclashA _ hw)).2 (by omega))
   | putl k0 c0 L =>
    rw[he] at hopt
    have hclash:∀(e' : Eff) (j:Nat),e'.writes j=true→it.eff.clash e' = true:=by
     intro e' j hw; rw[he]; cases e' <;> first | rfl | (simp[Eff.writes] at hw)
    have hclashA:∀e' : Eff,e'.isAll=true→it.eff.clash e' = true:=by
     intro e' hw; rw[he]; cases e' <;> first | rfl | (simp[Eff.isAll] at hw)
    have hXD:Alike (XE st0.X its (fun i=>listed.getD i false) its.length) stm.X:=by
     refine⟨fun j=>objAt j (fun e' hw=>hclash e' j hw),?_⟩
     rw[hXm,Q1x (i:=i) its.length (by omega) ?_]
     ·refine Q30 i fun k jt hk hl hkw=>?_
      (try simp only)
      exact hbefore k ((ho.ordX i k it jt hit hk (by omega) (hclashA _ hkw)).1 hl)
     ·intro k jt hk hge hkw
      (try simp only)
      rcases Nat.lt_or_ge i k with hlt | hle
      ·exact hbehind k ((ho.ordX i k it jt hit hk (by omega) (hclashA _ hkw)).2 hlt)
      ·have:k=i:=by omega
       subst this; exact hDi
    refine hopt S.names S.small B g w a (hdr.hr.alike hXD) (fun p hp=>(hsees p hp).ra (hsr _ rfl)) _ Q ?_
    intro g' w' v hX ht hv
    refine next g' w' v (hX.alike ⟨fun j=>?_,?_⟩) ht hv
    ·simp only[Qb]
     by_cases hjk:j=k0
     ·subst hjk
      rw[if_pos rfl,Q7i (i:=i+1) its.length (by omega) ?_]
      ·unfold XE
       rw[hit]
       simp[he,Eff.apply,Qb]
      ·intro m jt hm hge hw
       (try simp only)
       rw[if_neg (by omega)]
       exact hbehind m ((ho.ordX i m it jt hit hm (by omega) (hclash _ j hw)).2 (by omega))
     ·rw[if_neg hjk,sameAt j (by rw[he]; simp only[Eff.writes,beq_eq_false_iff_ne,ne_eq]; exact Ne.symm hjk),objAt j (fun e' hw=>hclash e' j hw)]
    ·rw[Q1x (i:=i+1) its.length (by omega) ?_]
     ·unfold XE
      rw[hit]
      simp[he,Eff.apply]
     ·intro m jt hm hge hw
      (try simp only)
      rw[if_neg (by omega)]
      exact hbehind m ((ho.ordX i m it jt hit hm (by omega) (hclashA _ hw)).2 (by omega))
   | new os L =>
    rw[he] at hopt
    have hclash:∀(e' : Eff) (j:Nat),e'.writes j=true→it.eff.clash e' = true:=by
     intro e' j hw; rw[he]; cases e' <;> first | rfl | (simp[Eff.writes] at hw)
    have hclashA:∀e' : Eff,e'.isAll=true→it.eff.clash e' = true:=by
     intro e' hw; rw[he]; cases e' <;> first | rfl | (simp[Eff.isAll] at hw)
    have hXD:Alike (XE st0.X its (fun i=>listed.getD i false) its.length) stm.X:=by
     refine⟨fun j=>objAt j (fun e' hw=>hclash e' j hw),?_⟩
     rw[hXm,Q1x (i:=i) its.length (by omega) ?_]
     ·refine Q30 i fun k jt hk hl hkw=>?_
      (try simp only)
      exact hbefore k ((ho.ordX i k it jt hit hk (by omega) (hclashA _ hkw)).1 hl)
     ·intro k jt hk hge hkw
      (try simp only)
      rcases Nat.lt_or_ge i k with hlt | hle
      ·exact hbehind k ((ho.ordX i k it jt hit hk (by omega) (hclashA _ hkw)).2 hlt)
      ·have:k=i:=by omega
       subst this; exact hDi
    refine hopt S.names S.small B g w a (hdr.hr.alike hXD) (fun p hp=>(hsees p hp).ra (hsr _ rfl)) _ Q ?_
    intro g' w' v hX ht hv
    refine next g' w' v (hX.alike ⟨fun j=>?_,?_⟩) ht hv
    ·simp only[List.lookup_append]
     cases hos:os.lookup j with
     | some y =>
      have hwj:(Eff.new os L).writes j=true:=by simp[Eff.writes,hos]
      rw[Q7i (i:=i+1) its.length (by omega) ?_]
      ·unfold XE
       rw[hit]
       simp[he,Eff.apply,List.lookup_append,hos]
      ·intro m jt hm hge hw
       (try simp only)
       rw[if_neg (by omega)]
       exact hbehind m ((ho.ordX i m it jt hit hm (by omega) (hclash _ j hw)).2 (by omega))
     | none =>
      rw[Option.none_or,sameAt j (by rw[he]; simp[Eff.writes,hos]),objAt j (fun e' hw=>hclash e' j hw)]
    ·rw[Q1x (i:=i+1) its.length (by omega) ?_]
     ·unfold XE
      rw[hit]
      simp[he,Eff.apply]
     ·intro m jt hm hge hw
      (try simp only)
      rw[if_neg (by omega)]
      exact hbehind m ((ho.ordX i m it jt hit hm (by omega) (hclashA _ hw)).2 (by omega))
theorem Qk5 {P:Program} {S:Sig} {Q:Exit→St→Prop} {st st' : St} {id:Nat} {ops:Array Oper} {its:List It} (hm:P.follows .mixedOrders=true)
  (hd:DChain P S ops 0 st its st') (ho:DOk ops st.env its) (hq:Q .normal st'):AWp P S (.region id ops true) Q st:=by
 intro B g w a hs
 refine wp_region_any hm ?_
 obtain⟨hr,ht⟩:=hs.hr.drew
 have hz:∀j,(Array.replicate ops.size false).getD j false=false:=by
  intro j
  simp only[Array.getD]
  split <;> simp
 have hE0:∀m t,E (fun t=>st.env.lookup t) its (fun i=>(Array.replicate ops.size false).getD i false) m t=st.env.lookup t:=by
  intro m t
  rw[Qjq (i:=0) m (Nat.zero_le _) (fun k it _ _ _=>hz k)]
  rfl
 have hX0:∀m,Alike st.X (XE st.X its (fun i=>(Array.replicate ops.size false).getD i false) m):=by
  intro m
  refine⟨fun j=>?_,?_⟩
  ·rw[Q7i (i:=0) m (Nat.zero_le _) (fun k it _ _ _=>hz k)]; rfl
  ·rw[Q1x (i:=0) m (Nat.zero_le _) (fun k it _ _ _=>hz k)]; rfl
 refine Qkx hd ho (B:=B) (fun g' w' a' hs'=>⟨st',g',hq,hs'⟩) ops.size _ g _ a (by simp) ?_ ⟨hs.defers,hs.size,hr.alike (hX0 _),?_⟩ ?_
 ·intro i o _ hl; rw[hz] at hl; cases hl
 ·intro t x hx
  rw[hE0] at hx
  obtain⟨v,hv,hra⟩:=hs.env t x hx
  exact⟨v,hv,hra.mono ht (.nil x)⟩
 ·exact Nat.le_trans (List.length_filter_le _ _) (by simp)
end Go.Ab
namespace Go.Ab
inductive SeesAll (st:St):List (Operand×AV)→Prop
 | nil:SeesAll st []
 | cons {x:Operand} {v:AV} {r:List (Operand×AV)}:Sees st x v→SeesAll st r→SeesAll st ((x,v) :: r)
theorem SeesAll.all {st:St} {l:List (Operand×AV)} (h:SeesAll st l):∀p ∈ l,Sees st p.1 p.2:=by
 induction h with
 | nil=>simp
 | cons h _ ih =>
  intro p hp
  rcases List.mem_cons.1 hp with rfl | hp
  ·exact h
  ·exact ih p hp
theorem Sees.t {st:St} {t:Nat} {x:AV} (h:st.env.lookup t=some x) (ht:t < GB:=by decide):Sees st (.tmp t) x:=.tmp t x ht (.eq x h)
theorem Sees.c {st:St} {v:Value}:Sees st (.const v) (.d (.sc v)):=.const v _ fun _ _=>.sc v
def Rw (P:Program) (S:Sig) (ops:Array Oper) (l:List Nat) (st:St) (K:St→Prop):Prop :=
 ∀(B:Base) (g:Gh) (w:World) (a:Act) (Q:Exit→Act→World→Prop),SR S B g w st a→(∀g' w' a' st',K st'→SR S B g' w' st' a'→Q .normal a' w')→wpOps P ops Q l a w
section
variable {P:Program} {S:Sig} {ops:Array Oper} {i:Nat} {rest:List Nat} {st:St} {K:St→Prop} {o:Oper} {rd:List (Operand×AV)} {X' : Store} {F:List Nat} {res:AV}
theorem Rw.done (h:K st):Rw P S ops [] st K:=fun _ g w a _ hs hq=>hq g w a st h hs
theorem Rw.opg (ho:ops[i]? = some o) (hg:Guard ops st o.guard true) (ht:OpT P o rd st.X X' F res) (hs:SeesAll st rd) (hF:Q1t F st.env=true) (hd:dstOk S.N o.dst=true)
  (h:Rw P S ops rest ⟨Qm o.dst res st.env,X'⟩ K):Rw P S ops (i :: rest) st K:=by
 intro B g w a Q hsr hq
 unfold wpOps
 simp only[ho,hg.wanted hsr,if_true]
 refine .inl (ht S.names S.small B g w a hsr.hr (fun p hp=>(hs.all p hp).ra hsr) _ Q ?_)
 intro g' w' v hX htr hv
 exact h B g' w' _ Q (hsr.put htr hF hX hd hv) hq
theorem Rw.op (ho:ops[i]? = some o) (hg:o.guard=none) (ht:OpT P o rd st.X X' F res) (hs:SeesAll st rd) (hF:Q1t F st.env=true) (hd:dstOk S.N o.dst=true)
  (h:Rw P S ops rest ⟨Qm o.dst res st.env,X'⟩ K):Rw P S ops (i :: rest) st K:=Rw.opg ho (by rw[hg]; exact .none) ht hs hF hd h
theorem Rw.skip (ho:ops[i]? = some o) (hg:Guard ops st o.guard false) (hd:dstOk S.N o.dst=true) (h:Rw P S ops rest ⟨Qm o.dst (.d (.sc undef)) st.env,st.X⟩ K):Rw P S ops (i :: rest) st K:=by
 intro B g w a Q hsr hq
 unfold wpOps
 simp only[ho,hg.wanted hsr,Bool.false_eq_true,if_false]
 exact h B g w _ Q (hsr.put (.refl [] g w) rfl hsr.hr hd (.d _ _ (.sc _))) hq
theorem SR.known {B:Base} {g:Gh} {w:World} {a:Act} {d:Nat} {x:AV} (h:SR S B g w st a) (hl:st.env.lookup d=some x):SR S B g w ⟨(d,x) :: st.env,st.X⟩ a:=by
 refine⟨h.defers,h.size,h.hr,?_⟩
 intro t y hy
 rw[List.lookup_cons] at hy
 split at hy
 ·rename_i he
  have:t=d:=by simpa using he
  subst this
  simp only[Option.some.injEq] at hy
  subst hy
  exact h.env t x hl
 ·exact h.env t y hy
theorem Rw.cases {l:List Nat} {d:Nat} {b:Bool} (hl:st.env.lookup d=some (.d (.sc (.bool b)))) (ht:b=true→Rw P S ops l ⟨(d,.d (.sc (.bool true))) :: st.env,st.X⟩ K)
  (hf:b=false→Rw P S ops l ⟨(d,.d (.sc (.bool false))) :: st.env,st.X⟩ K):Rw P S ops l st K:=by
 intro B g w a Q hsr hq
 cases b with
 | true=>exact ht rfl B g w a Q (hsr.known hl) hq
 | false=>exact hf rfl B g w a Q (hsr.known hl) hq
theorem Qp3 {Q:Exit→St→Prop} {id n:Nat} (hn:ops.size=n) (h:Rw P S ops (List.range n) st (Q .normal)):AWp P S (.region id ops false) Q st:=by
 subst hn
 intro B g w a hs
 exact wp_region (h B g w a _ hs fun g' w' a' st' hk hs'=>⟨st',g',hk,hs'⟩)
structure Same (st st' : St):Prop where
 env:∀t,st.env.lookup t=st'.env.lookup t
 X:st.X=st'.X
theorem Same.refl (st:St):Same st st:=⟨fun _=>rfl,rfl⟩
theorem Same.put {st st' : St} (h:Same st st') (dst:Option Tmp) (x:AV) (X:Store):Same ⟨Qm dst x st.env,X⟩ ⟨Qm dst x st'.env,X⟩ :=
 ⟨fun t=>by simp only[Qdg,h.env t],rfl⟩
theorem Has.same {e e' : List (Nat×AV)} (h:∀t,e.lookup t=e'.lookup t) {t:Nat} {x:AV} (hh:Has e t x):Has e' t x:=by
 cases hh with
 | eq _ h1=>exact .eq _ ((h t).symm.trans h1)
 | tip n sz es ty h1=>exact .tip n sz es ty ((h t).symm.trans h1)
 | nil sz h1=>exact .nil sz ((h t).symm.trans h1)
 | le _ _ h1 hle=>exact .le _ _ ((h t).symm.trans h1) hle
theorem Sees.same {st st' : St} (h:Same st st') {x:Operand} {v:AV} (hh:Sees st x v):Sees st' x v:=by
 cases hh with
 | tmp t _ ht h1=>exact .tmp t _ ht (h1.same h.env)
 | glob k _ h1=>exact .glob k _ (h1.same h.env)
 | const v y h1=>exact .const v y h1
 | func f=>exact .func f
theorem Guard.same {st st' : St} (h:Same st st') {og:Option (Nat×Bool)} {b:Bool} (hh:Guard ops st og b):Guard ops st' og b:=by
 cases hh with
 | none=>exact .none
 | some j d o want b h1 h2 h3=>exact .some j d o want b h1 h2 ((h.env d).symm.trans h3)
 | undef j d o want h1 h2 h3=>exact .undef j d o want h1 h2 ((h.env d).symm.trans h3)
theorem DChain.same {i:Nat} {st st1:St} {its:List It} (hc:DChain P S ops i st its st1):∀ {st' : St},Same st st'→∃st1',DChain P S ops i st' its st1'∧Same st1 st1':=by
 induction hc with
 | nil i st=>intro st' h; exact⟨st',.nil i st',h⟩
 | op h1 h2 h3 h4 h5 _ ih =>
  intro st' h
  obtain⟨s1,c1,e1⟩:=ih (h.put _ _ _)
  exact⟨s1,.op h1 (h2.same h) (fun p hp=>(h3 p hp).same h) h4 h5 (h.X▸c1),e1⟩
 | look h1 h2 h3 h4 h5 _ ih =>
  intro st' h
  obtain⟨s1,c1,e1⟩:=ih (h.put _ _ _)
  exact⟨s1,.look h1 (h2.same h) (fun p hp=>(h3 p hp).same h) (h.X▸h4) h5 (h.X▸c1),e1⟩
 | put h1 h2 h3 h4 h5 _ ih =>
  intro st' h
  obtain⟨s1,c1,e1⟩:=ih (h.put _ _ _)
  exact⟨s1,.put h1 (h2.same h) (fun p hp=>(h3 p hp).same h) (h.X▸h4) h5 (h.X▸c1),e1⟩
 | eff h1 h2 h3 h4 h5 _ ih =>
  intro st' h
  obtain⟨s1,c1,e1⟩:=ih (h.put _ _ _)
  exact⟨s1,.eff h1 (h2.same h) (fun p hp=>(h3 p hp).same h) (h.X▸h4) h5 c1,e1⟩
 | lab h1 h2 h3 h4 h5 _ ih =>
  intro st' h
  obtain⟨s1,c1,e1⟩:=ih (h.put _ _ _)
  exact⟨s1,.lab h1 (h2.same h) (fun p hp=>(h3 p hp).same h) (h.X▸h4) h5 (h.X▸c1),e1⟩
 | putl h1 h2 h3 h4 h5 _ ih =>
  intro st' h
  obtain⟨s1,c1,e1⟩:=ih (h.put _ _ _)
  exact⟨s1,.putl h1 (h2.same h) (fun p hp=>(h3 p hp).same h) (h.X▸h4) h5 (h.X▸c1),e1⟩
 | new h1 h2 h3 h4 h5 _ ih =>
  intro st' h
  obtain⟨s1,c1,e1⟩:=ih (h.put _ _ _)
  exact⟨s1,.new h1 (h2.same h) (fun p hp=>(h3 p hp).same h) (h.X▸h4) h5 (h.X▸c1),e1⟩
 | skip h1 h2 h5 _ ih =>
  intro st' h
  obtain⟨s1,c1,e1⟩:=ih (h.put _ _ _)
  exact⟨s1,.skip h1 (h2.same h) h5 (h.X▸c1),e1⟩
def Linked (ops:Array Oper) (its:List It):Prop:=∀(m:Nat) it,its[m]? = some it→ops[m]? = some it.o
theorem DChain.link {i:Nat} {st' : St} {its:List It} (h:DChain P S ops i st its st'):∀(m:Nat) it,its[m]? = some it→ops[i+m]? = some it.o:=by
 have key:∀ {i:Nat} {it:It} {its:List It},ops[i]? = some it.o→(∀(m:Nat) jt,its[m]? = some jt→ops[i+1+m]? = some jt.o)→∀(m:Nat) jt,(it :: its)[m]? = some jt→ops[i+m]? = some jt.o:=by
  intro i it its h1 h2 m jt hm
  cases m with
  | zero=>simp only[List.getElem?_cons_zero,Option.some.injEq] at hm; subst hm; exact h1
  | succ m=>rw[show i+(m+1)=i+1+m by omega]; exact h2 m jt (by simpa using hm)
 induction h with
 | nil=>simp
 | op h1 _ _ _ _ _ ih=>exact key h1 ih
 | look h1 _ _ _ _ _ ih=>exact key h1 ih
 | put h1 _ _ _ _ _ ih=>exact key h1 ih
 | eff h1 _ _ _ _ _ ih=>exact key h1 ih
 | lab h1 _ _ _ _ _ ih=>exact key h1 ih
 | putl h1 _ _ _ _ _ ih=>exact key h1 ih
 | new h1 _ _ _ _ _ ih=>exact key h1 ih
 | skip h1 _ _ _ ih=>exact key h1 ih
def Dw (P:Program) (S:Sig) (ops:Array Oper) (i n:Nat) (st:St) (done:List It) (env0:List (Nat×AV)) (K:St→Prop):Prop :=
 ∃its st' st'',DChain P S ops i st its st'∧its.length=n∧(Linked ops (done++its)→DOk ops env0 (done++its))∧Same st' st''∧K st''
variable {n:Nat} {done:List It} {env0:List (Nat×AV)}
theorem Dw.fin (ho:Linked ops done→DOk ops env0 done) (hk:K st):Dw P S ops i 0 st done env0 K:=⟨[],st,st,.nil i st,rfl,by simpa using ho,.refl st,hk⟩
theorem Dw.cases {d:Nat} {b:Bool} (hl:st.env.lookup d=some (.d (.sc (.bool b)))) (ht:b=true→Dw P S ops i n ⟨(d,.d (.sc (.bool true))) :: st.env,st.X⟩ done env0 K)
  (hf:b=false→Dw P S ops i n ⟨(d,.d (.sc (.bool false))) :: st.env,st.X⟩ done env0 K):Dw P S ops i n st done env0 K:=by
 have key:∀x,st.env.lookup d=some x→Dw P S ops i n ⟨(d,x) :: st.env,st.X⟩ done env0 K→Dw P S ops i n st done env0 K:=by
  rintro x hx ⟨its,st',st'',hc,hl,hok,hs,hk⟩
  have e:Same ⟨(d,x) :: st.env,st.X⟩ st:=by
   refine⟨fun t=>?_,rfl⟩
   rw[List.lookup_cons]
   split
   ·rename_i he
    have:t=d:=by simpa using he
    subst this; exact hx.symm
   ·rfl
  obtain⟨s1,c1,e1⟩:=hc.same e
  exact⟨its,s1,st'',c1,hl,hok,⟨fun t=>(e1.env t).symm.trans (hs.env t),e1.X.symm.trans hs.X⟩,hk⟩
 cases b with
 | true=>exact key _ hl (ht rfl)
 | false=>exact key _ hl (hf rfl)
theorem Qmu {og:Option (Nat×Bool)} (h:og = .none):Guard ops st og true:=by subst h; exact .none
theorem Dw.op (ho:ops[i]? = some o) (hg:Guard ops st o.guard true) (ht:∀X,OpT P o rd X X [] res) (hs:SeesAll st rd) (hd:dstOk S.N o.dst=true)
  (h:Dw P S ops (i+1) n ⟨Qm o.dst res st.env,st.X⟩ (done++[⟨o,true,rd,.none,[],res⟩]) env0 K):Dw P S ops i (n+1) st done env0 K:=by
 obtain⟨its,st',st'',hc,hl,hok,hk⟩:=h
 exact⟨_ :: its,st',st'',.op ho hg hs.all ht hd hc,by simp[hl],by simpa using hok,hk⟩
theorem Dw.look {ks:List Nat} (ho:ops[i]? = some o) (hg:Guard ops st o.guard true) (ht:∀X:Store,(∀k ∈ ks,X.objs.lookup k=st.X.objs.lookup k)→OpT P o rd X X [] res) (hs:SeesAll st rd) (hd:dstOk S.N o.dst=true)
  (h:Dw P S ops (i+1) n ⟨Qm o.dst res st.env,st.X⟩ (done++[⟨o,true,rd,.look ks,[],res⟩]) env0 K):Dw P S ops i (n+1) st done env0 K:=by
 obtain⟨its,st',st'',hc,hl,hok,hk⟩:=h
 exact⟨_ :: its,st',st'',.look ho hg hs.all ht hd hc,by simp[hl],by simpa using hok,hk⟩
theorem Dw.put {k:Nat} {c:Ob} (ho:ops[i]? = some o) (hg:Guard ops st o.guard true) (ht:∀X,X.objs.lookup k=st.X.objs.lookup k→OpT P o rd X ⟨setObj k c X.objs,X.live⟩ [] res)
  (hs:SeesAll st rd) (hd:dstOk S.N o.dst=true)
  (h:Dw P S ops (i+1) n ⟨Qm o.dst res st.env,⟨setObj k c st.X.objs,st.X.live⟩⟩ (done++[⟨o,true,rd,.put k c,[],res⟩]) env0 K):Dw P S ops i (n+1) st done env0 K:=by
 obtain⟨its,st',st'',hc,hl,hok,hk⟩:=h
 exact⟨_ :: its,st',st'',.put ho hg hs.all ht hd hc,by simp[hl],by simpa using hok,hk⟩
theorem Dw.eff (ho:ops[i]? = some o) (hg:Guard ops st o.guard true) (ht:OpT P o rd st.X X' F res) (hs:SeesAll st rd) (hd:dstOk S.N o.dst=true)
  (h:Dw P S ops (i+1) n ⟨Qm o.dst res st.env,X'⟩ (done++[⟨o,true,rd,.all X',F,res⟩]) env0 K):Dw P S ops i (n+1) st done env0 K:=by
 obtain⟨its,st',st'',hc,hl,hok,hk⟩:=h
 exact⟨_ :: its,st',st'',.eff ho hg hs.all ht hd hc,by simp[hl],by simpa using hok,hk⟩
theorem Dw.lab {L:List Nat} (ho:ops[i]? = some o) (hg:Guard ops st o.guard true) (ht:OpT P o rd st.X ⟨st.X.objs,L⟩ F res) (hs:SeesAll st rd) (hd:dstOk S.N o.dst=true)
  (h:Dw P S ops (i+1) n ⟨Qm o.dst res st.env,⟨st.X.objs,L⟩⟩ (done++[⟨o,true,rd,.lab L,F,res⟩]) env0 K):Dw P S ops i (n+1) st done env0 K:=by
 obtain⟨its,st',st'',hc,hl,hok,hk⟩:=h
 exact⟨_ :: its,st',st'',.lab ho hg hs.all ht hd hc,by simp[hl],by simpa using hok,hk⟩
theorem Dw.new {os:List (Nat×Ob)} {L:List Nat} (ho:ops[i]? = some o) (hg:Guard ops st o.guard true) (ht:OpT P o rd st.X ⟨os++st.X.objs,L⟩ F res) (hs:SeesAll st rd) (hd:dstOk S.N o.dst=true)
  (h:Dw P S ops (i+1) n ⟨Qm o.dst res st.env,⟨os++st.X.objs,L⟩⟩ (done++[⟨o,true,rd,.new os L,F,res⟩]) env0 K):Dw P S ops i (n+1) st done env0 K:=by
 obtain⟨its,st',st'',hc,hl,hok,hk⟩:=h
 exact⟨_ :: its,st',st'',.new ho hg hs.all ht hd hc,by simp[hl],by simpa using hok,hk⟩
theorem Dw.putl {k:Nat} {c:Ob} {L:List Nat} (ho:ops[i]? = some o) (hg:Guard ops st o.guard true) (ht:OpT P o rd st.X ⟨setObj k c st.X.objs,L⟩ F res) (hs:SeesAll st rd) (hd:dstOk S.N o.dst=true)
  (h:Dw P S ops (i+1) n ⟨Qm o.dst res st.env,⟨setObj k c st.X.objs,L⟩⟩ (done++[⟨o,true,rd,.putl k c L,F,res⟩]) env0 K):Dw P S ops i (n+1) st done env0 K:=by
 obtain⟨its,st',st'',hc,hl,hok,hk⟩:=h
 exact⟨_ :: its,st',st'',.putl ho hg hs.all ht hd hc,by simp[hl],by simpa using hok,hk⟩
theorem Dw.skip (ho:ops[i]? = some o) (hg:Guard ops st o.guard false) (hd:dstOk S.N o.dst=true)
  (h:Dw P S ops (i+1) n ⟨Qm o.dst (.d (.sc undef)) st.env,st.X⟩ (done++[⟨o,false,[],.none,[],.d (.sc undef)⟩]) env0 K):Dw P S ops i (n+1) st done env0 K:=by
 obtain⟨its,st',st'',hc,hl,hok,hk⟩:=h
 exact⟨_ :: its,st',st'',.skip ho hg hd hc,by simp[hl],by simpa using hok,hk⟩
theorem Qql {Q:Exit→St→Prop} {id:Nat} (n:Nat) (hm:P.follows .mixedOrders=true) (h:Dw P S ops 0 n st [] st.env (Q .normal)):AWp P S (.region id ops true) Q st:=by
 obtain⟨its,st',st'',hc,hl,hok,hs,hk⟩:=h
 have hM:AWp P S (.region id ops true) (fun e s=>e = .normal∧s=st') st:=Qk5 hm hc (hok (by have:=hc.link; simpa[Linked] using this)) ⟨rfl,rfl⟩
 intro B g w a hsr
 refine wp_mono (hM B g w a hsr) ?_
 rintro e a' w' ⟨s,g',⟨rfl,rfl⟩,hs'⟩
 exact⟨st'',g',hk,hs'.defers,hs'.size,hs.X▸hs'.hr,fun t x hx=>hs'.env t x ((hs.env t).trans hx)⟩
theorem Qam {j d:Nat} {oj:Oper} {want:Bool} {og:Option (Nat×Bool)} (hg:og=some (j,want)) (hj:ops[j]? = some oj) (hjd:oj.dst=some d) (hl:st.env.lookup d=some (.d (.sc (.bool want)))) :
  Guard ops st og true:=by
 subst hg
 have:=Guard.some (st:=st) j d oj want want hj hjd hl
 simpa using this
theorem Qh7 {j d:Nat} {oj:Oper} {want:Bool} {og:Option (Nat×Bool)} (hg:og=some (j,want)) (hj:ops[j]? = some oj) (hjd:oj.dst=some d) (hl:st.env.lookup d=some (.d (.sc undef))) :
  Guard ops st og false:=by
 subst hg
 exact Guard.undef j d oj want hj hjd hl
theorem Qap {j d:Nat} {oj:Oper} {want b:Bool} {og:Option (Nat×Bool)} (hg:og=some (j,want)) (hj:ops[j]? = some oj) (hjd:oj.dst=some d) (hl:st.env.lookup d=some (.d (.sc (.bool b))))
  (hb:(b == want)=false):Guard ops st og false:=by
 subst hg
 have:=Guard.some (st:=st) j d oj want b hj hjd hl
 rwa [hb] at this
end
inductive HasAll (env:List (Nat×AV)):List (Nat×AV)→Prop
 | nil:HasAll env []
 | cons {t:Nat} {x:AV} {r:List (Nat×AV)}:Has env t x→HasAll env r→HasAll env ((t,x) :: r)
theorem HasAll.all {env l:List (Nat×AV)} (h:HasAll env l):∀p ∈ l,Has env p.1 p.2:=by
 induction h with
 | nil=>simp
 | cons h _ ih =>
  intro p hp
  rcases List.mem_cons.1 hp with rfl | hp
  ·exact h
  ·exact ih p hp
theorem Has.e {env:List (Nat×AV)} {t:Nat} {x:AV} (h:env.lookup t=some x):Has env t x:=.eq x h
theorem Has.as {env:List (Nat×AV)} {t:Nat} {x y:AV} (h:env.lookup t=some y) (he:y=x):Has env t x:=by subst he; exact .eq _ h
inductive ObjsAll (l:List (Nat×Ob)):List (Nat×Ob)→Prop
 | nil:ObjsAll l []
 | cons {k:Nat} {o:Ob} {r:List (Nat×Ob)}:l.lookup k=some o→ObjsAll l r→ObjsAll l ((k,o) :: r)
theorem ObjsAll.as {l:List (Nat×Ob)} {k:Nat} {o o' : Ob} {r:List (Nat×Ob)} (h:l.lookup k=some o') (he:o' = o) (hr:ObjsAll l r):ObjsAll l ((k,o) :: r):=by subst he; exact .cons h hr
theorem ObjsAll.all {l r:List (Nat×Ob)} (h:ObjsAll l r):∀p ∈ r,l.lookup p.1=some p.2:=by
 induction h with
 | nil=>simp
 | cons h _ ih =>
  intro p hp
  rcases List.mem_cons.1 hp with rfl | hp
  ·exact h
  ·exact ih p hp
inductive InObjs (X:Store) (f:Nat→Nat):List (Nat×Ob)→Prop
 | nil:InObjs X f []
 | cons {k:Nat} {o:Ob} {r:List (Nat×Ob)}:X.objs.lookup (f k)=some (mapOb f o)→InObjs X f r→InObjs X f ((k,o) :: r)
theorem InObjs.all {X:Store} {f:Nat→Nat} {l:List (Nat×Ob)} (h:InObjs X f l):∀p ∈ l,X.objs.lookup (f p.1)=some (mapOb f p.2):=by
 induction h with
 | nil=>simp
 | cons h _ ih =>
  intro p hp
  rcases List.mem_cons.1 hp with rfl | hp
  ·exact h
  ·exact ih p hp
theorem TyI.mk' {P:Program} {t sz:Nat} {agg:Bool} (h:(P.underlying t).map aggD=some agg) (hi:(P.info? t).map (·.size)=some sz):TyI P t agg sz:=by
 obtain⟨d,hd,ha⟩:=Option.map_eq_some_iff.1 h
 obtain⟨i,hi,hs⟩:=Option.map_eq_some_iff.1 hi
 exact⟨⟨d,hd,ha⟩,⟨i,hi,hs⟩⟩
def fieldAt (P:Program) (s n:Nat):Option (Nat×Nat) :=
 match P.underlying s with
 | some (.struct fs)=>(fs[n]?).map fun f=>(f.offset,f.type)
 | _=>none
theorem FieldI.mk' {P:Program} {s n off t sz:Nat} {agg:Bool} (h:fieldAt P s n=some (off,t)) (ht:TyI P t agg sz) (hp:sz≠0):FieldI P s n off sz agg:=by
 unfold fieldAt at h
 split at h
 ·rename_i fs hfs
  obtain⟨f,hf,he⟩:=Option.map_eq_some_iff.1 h
  cases he
  exact⟨⟨fs,f,hfs,hf,rfl,ht⟩,hp⟩
 ·cases h
def placesOf (P:Program) (t:Nat):Option (List (Nat×Option Nat)) :=
 match P.underlying t with
 | some (.struct fs)=>some (fs.toList.map fun f=>(f.offset,(P.info? f.type).map (·.size)))
 | _=>none
theorem StructI.mk' {P:Program} {t:Nat} {pl:List (Nat×Nat)} (h:placesOf P t=some (pl.map fun p=>(p.1,some p.2))):StructI P t pl:=by
 unfold placesOf at h
 split at h
 ·rename_i fs hfs
  exact⟨⟨fs,hfs,by simpa using h⟩⟩
 ·cases h
theorem ZeroI.mk' {P:Program} {t:Nat} {cs:List AV} {z:Value} (h:(P.info? t).bind (·.zero)=some z) (hz:ZCells cs z.cells.toList):ZeroI P t cs:=by
 obtain⟨i,hi,hz'⟩:=Option.bind_eq_some_iff.1 h
 exact⟨⟨i,z,hi,hz',hz⟩⟩
theorem CallI.mk' {P : Program} {f : Nat} {fn : Func} (h : P.funcs[f]? = some fn) (hb : fn.body.isSome = true) (hn : (fn.name == "runtime.NumGoroutine") = false) : CallI P f := ⟨⟨fn, h, hb, hn⟩⟩
structure SliceI (P:Program) (t e sz bytes:Nat):Prop where
 und:P.underlying t=some (.slice e)
 elem:∃i z,P.info? e=some i∧i.size=sz∧i.bytes=bytes∧i.zero=some z∧z.cells.size=sz
theorem SliceI.mk' {P:Program} {t e sz bytes:Nat} (h:P.underlying t=some (.slice e)) (hi:(P.info? e).map (fun i=>(i.size,i.bytes,i.zero.map (·.cells.size)))=some (sz,bytes,some sz)):SliceI P t e sz bytes:=by
 obtain⟨i,hi,he⟩:=Option.map_eq_some_iff.1 hi
 simp only[Prod.mk.injEq,Option.map_eq_some_iff] at he
 obtain⟨h1,h2,z,h3,h4⟩:=he
 exact⟨h,i,z,hi,h1,h2,h3,h4⟩
section
variable {P:Program} {o:Oper} {X:Store}
theorem Qsp {t:TypeId} {cs:List AV} (k:Nat) (ho:o.op = .alloc t) (hz:ZeroI P t cs) (hk:X.objs.lookup k=none) (hX:Qa [k] X=true) :
  OpT P o [] X ⟨(k,.cells cs (some t)) :: X.objs,X.live⟩ [k] (.ptr k 0):=by
 obtain⟨i,z,hi,hz',hzc⟩:=hz.is
 exact Qy0 k ho hi hz' (fun g w=>ZeroI.ra (P:=P) (t:=t) hzc g w) hk hX
theorem Qrt {t e sz bytes:Nat} {x y:Operand} {es:List (List D)} {cs:List D} {k:IntKind} {i:Int} (ho:o.op = .indexAddr t x y) (ht:SliceI P t e sz bytes) (h0:0≤i) (h1:es[i.toNat]? = some cs) :
  OpT P o [(x,.d (.sl sz es)),(y,.d (.sc (.int k i)))] X X [] (.d (.ep cs)):=by
 obtain⟨hu,i',z,hi,hs,hb,hz,hzs⟩:=ht
 exact Qqo ho hu hi hs h0 h1
theorem Qrb {ts:Array TypeId} {t e sz bytes sz' : Nat} {x:Operand} {es:List (List D)} (ho:o.op = .call { callee:=.builtin .len,args:=#[x],argTypes:=ts })
  (h0:ts[0]? = some t) (ht:SliceI P t e sz bytes):OpT P o [(x,.d (.sl sz' es))] X X [] (.d (.sc (.int .i64 es.length))):=Qeg ho h0 ht.und
theorem Qi6 {ty:Option TypeId} {ts:Array TypeId} {s x:Operand} {n sz:Nat} {es fs:List (List D)} {t u e e' bytes bytes' sz' : Nat} (m:Nat)
  (ho:o.op = .call { callee:=.builtin .append,args:=#[s,x],argTypes:=ts }) (h0:ts[0]? = some t) (h1:ts[1]? = some u) (hu:SliceI P u e' sz' bytes')
  (ht:SliceI P t e sz bytes) (hn:n ∈ X.live) (hm:m ∉ X.live.filter (· != n)) (hX:Qa [m] X=true)
  (hone:∀cs ∈ fs,∀c ∈ cs,oneD c=true) (hbig:(es.length+fs.length)*bytes≤140737488355328) (hlen:es.length+fs.length≤4611686018427387904)
  (hty:(ty == none || ty == some e)=true:=by rfl) :
  OpT P o [(s,.tip n sz es ty),(x,.d (.sl sz fs))] X ⟨X.objs,m :: X.live.filter (· != n)⟩ [m] (.tip m sz (es++fs) ty):=by
 obtain⟨hu',i',z,hi,hs,rfl,hz,hzs⟩:=ht
 exact Qwr m ho h0 h1 hu.und hu' hi hz hzs hs hn hm hX hone hbig hlen (by
  intro e1 h1; subst h1; simpa using hty)
theorem Qq1 {t e sz bytes n:Nat} {parts:Array (Nat×Operand)} {xs:List D} (ho:o.op = .buildSlice t n parts) (ht:SliceI P t e sz bytes)
  (hx:xs.length=n) (hidx:parts.toList.map (·.1)=List.range n) (hok:(xs.all fun x=>okSc (.d x) && x.cells.length == sz)=true)
  (hbig:n*sz≤16777216):OpT P o ((parts.toList.map (·.2)).zip (xs.map .d)) X X [] (.d (.sl sz (xs.map D.cells))):=by
 obtain⟨hu',i',z,hi,hs,hb,hz,hzs⟩:=ht
 exact Qn5 ho hu' hi hz hs hx hidx hok hbig
end
section
variable {P:Program} {S:Sig} {Q:Exit→St→Prop} {st:St} {N:St→Prop}
variable {o:Oper} {X:Store}
end
section
variable {P:Program} {o:Oper} {X:Store}
theorem Qav {t e:TypeId} (ht:P.underlying t=some (.pointer e)) (a:Option Addr) (w:World):(Op.equal t (.pointer a) (.pointer none)).run P w = .ok a.isNone w:=by
 have h:∀d:Nat,(Op.equalIn (d+1) t (.pointer a) (.pointer none)).run P w = .ok a.isNone w:=by
  intro d
  cases a <;> simp[Op.equalIn,run_underlying ht]
 exact h 9999
end
theorem InObjs.look {X Y:Store} {f:Nat→Nat} {l:List (Nat×Ob)} {ks:List Nat} (h:InObjs Y f l) (hX:∀k ∈ ks,X.objs.lookup k=Y.objs.lookup k) (hk:(l.all fun p=>ks.contains (f p.1))=true):InObjs X f l:=by
 induction h with
 | nil=>exact .nil
 | cons h1 _ ih =>
  simp only[List.all_cons,Bool.and_eq_true] at hk
  exact .cons ((hX _ (by simpa using hk.1)).trans h1) (ih hk.2)
section
variable {P:Program} {o:Oper} {X:Store}
theorem Qvk {t t' : TypeId} {x y:Operand} {k:IntKind} {a b c:Int} (ho:o.op = .binOp .rem t x y t') (hb:b≠0) (hc:a.tmod b=c) :
  OpT P o [(x,.d (.sc (.int k a))),(y,.d (.sc (.int k b)))] X X [] (.d (.sc (.int k c))) :=
 .quiet fun _ _ g w ac _ hrd=>by
  have h1:=(rd0 hrd).sc_inv
  have h2:=(rd1 hrd).sc_inv
  simp only at h1 h2
  refine⟨_,?_,.ofSc _ _ _⟩
  have hg:eqGuard .rem t x y (.int k a) (.int k b)=pure ():=rfl
  simp only[execOp,ho,h1,h2,hg]
  simp[binOp,Op.intDiv,hb,hc]
theorem Qw9 {t t' : TypeId} {x y:Operand} {k:IntKind} {a b c:Int} (ho:o.op = .binOp .quo t x y t') (hb:b≠0) (hc:k.wrap (a.tdiv b)=c) :
  OpT P o [(x,.d (.sc (.int k a))),(y,.d (.sc (.int k b)))] X X [] (.d (.sc (.int k c))) :=
 .quiet fun _ _ g w ac _ hrd=>by
  have h1:=(rd0 hrd).sc_inv
  have h2:=(rd1 hrd).sc_inv
  simp only at h1 h2
  refine⟨_,?_,.ofSc _ _ _⟩
  have hg:eqGuard .quo t x y (.int k a) (.int k b)=pure ():=rfl
  simp only[execOp,ho,h1,h2,hg]
  simp[binOp,Op.intDiv,hb,hc]
end
end Go.Ab
