import Derived.Test.YtpcmeokokojkiaaGreatDoorZa
import Derived.Lib.Builder
import Derived.Lib.UnsafeStr
import Derived.Laws.BytesString
set_option linter.unusedVariables false
set_option linter.unusedSimpArgs false
set_option linter.unnecessarySimpa false
namespace Go.Ab
inductive Rl (σ:Nat→Nat):AV→AV→Prop
 | d (x:D):Rl σ (.d x) (.d x)
 | nm (k:Nat) (p:PK):Rl σ (.nm k p) (.nm k p)
 | tip (n sz:Nat) (es:List (List D)) (ty:Option TypeId):Rl σ (.tip (σ n) sz es ty) (.tip n sz es ty)
 | drop (n sz:Nat) (es:List (List D)) (ty:Option TypeId):Rl σ (.tip n sz es ty) (.d (.sl sz es))
 | other (x:AV):Q2i x=true→Rl σ x x
 | nil (sz:Nat):Rl σ (.d (.sc (.slice none 0 0))) (.d (.sl sz []))
 | agg (l l' : List AV):l.length=l'.length→(∀(i:Nat) x x',l[i]? = some x→l'[i]? = some x'→Rl σ x x')→Rl σ (.agg l) (.agg l')
 | tup (l l' : List AV):l.length=l'.length→(∀(i:Nat) x x',l[i]? = some x→l'[i]? = some x'→Rl σ x x')→Rl σ (.tup l) (.tup l')
 | clo (f:Nat) (l l' : List AV):l.length=l'.length→(∀(i:Nat) x x',l[i]? = some x→l'[i]? = some x'→Rl σ x x')→Rl σ (.clo f l) (.clo f l')
theorem Rl.ra {σ:Nat→Nat} {g g' : Gh} {w:World} {x x' : AV} {v:Value} (h:Rl σ x x') (hγ:g'.γ=g.γ) (hρ:g'.ρ=g.ρ) (hβ:∀n ob,g'.β n=some ob→g.β (σ n)=some ob) (hr:RA g w x v):RA g' w x' v:=by
 induction h generalizing v with
 | d x=>cases hr with | d _ _ h=>exact .d _ _ (hγ▸h)
 | nm k p=>cases hr with | nm _ _ _ h=>exact .nm k p v (by rw[hρ]; exact h)
 | tip n sz es ty =>
  cases hr with
  | tip _ _ _ _ _ h1 h2 =>
   refine .tip n sz es ty v (hγ▸h1) ?_
   unfold TipOk at h2 ⊢
   split at h2
   ·intro ob hob
    have:=h2 ob (hβ n ob hob)
    rw[hγ]; exact this
   ·trivial
 | drop n sz es ty=>cases hr with | tip _ _ _ _ _ h1 _=>exact .d _ _ (hγ▸h1)
 | other x hd=>exact hr.data hd (hγ▸.refl _ _)
 | nil sz=>cases hr with | d _ _ h=>cases h; exact .d _ _ (.nil sz none 0 fun _=>rfl)
 | agg l l' hl _ ih =>
  cases hr with
  | agg _ vs hl' hc =>
   refine .agg l' vs (hl▸hl') fun i c u hb hu=>?_
   have hlt:i < l.length:=by have:=(List.getElem?_eq_some_iff.1 hb).1; omega
   have hx:l[i]? = some l[i]:=by simp[hlt]
   exact ih i _ c hx hb (hc i _ u hx hu)
 | tup l l' hl _ ih =>
  cases hr with
  | tup _ vs hl' hc =>
   refine .tup l' vs (hl▸hl') fun i c u hb hu=>?_
   have hlt:i < l.length:=by have:=(List.getElem?_eq_some_iff.1 hb).1; omega
   have hx:l[i]? = some l[i]:=by simp[hlt]
   exact ih i _ c hx hb (hc i _ u hx hu)
 | clo f l l' hl _ ih =>
  cases hr with
  | clo _ _ vs hl' hc =>
   refine .clo f l' vs (hl▸hl') fun i c u hb hu=>?_
   have hlt:i < l.length:=by have:=(List.getElem?_eq_some_iff.1 hb).1; omega
   have hx:l[i]? = some l[i]:=by simp[hlt]
   exact ih i _ c hx hb (hc i _ u hx hu)
inductive RlOb (σ:Nat→Nat):Ob→Ob→Prop
 | cells (cs cs' : List AV) (ty:Option TypeId):cs.length=cs'.length→(∀(i:Nat) x x',cs[i]? = some x→cs'[i]? = some x'→Rl σ x x')→RlOb σ (.cells cs ty) (.cells cs' ty)
 | map (l:List (Nat×Value×D)) (c:Nat):RlOb σ (.map l c) (.map l c)
 | sit (s:ByteArray) (pos:Nat):RlOb σ (.sit s pos) (.sit s pos)
 | mit (k since:Nat) (seen:Array Nat) (last:Nat):RlOb σ (.mit k since seen last) (.mit k since seen last)
 | mitn:RlOb σ .mitn .mitn
theorem RlOb.ra {σ:Nat→Nat} {g g' : Gh} {w:World} {b:Nat} {o o' : Ob} (h:RlOb σ o o') (hγ:g'.γ=g.γ) (hρ:g'.ρ=g.ρ) (hβ:∀n ob,g'.β n=some ob→g.β (σ n)=some ob) (hr:ObRel g w b o):ObRel g' w b o':=by
 cases h with
 | cells cs cs' ty hl hc =>
  cases hr with
  | cells _ _ arr T hb hl' h h4 =>
   refine .cells cs' ty arr T hb (by omega) (fun i x v hx hv=>?_) h4
   have hlt:i < cs.length:=by have:=(List.getElem?_eq_some_iff.1 hx).1; omega
   have hcs:cs[i]? = some cs[i]:=by simp[hlt]
   exact(hc i _ _ hcs hx).ra hγ hρ hβ (h i _ v hcs hv)
 | map l c =>
  cases hr with
  | map _ _ es hb hl' h h4 h5=>exact .map l c es hb hl' (fun i x e hx he=>⟨(h i x e hx he).1,(h i x e hx he).2.1,hγ▸(h i x e hx he).2.2⟩) h4 h5
 | sit s pos=>cases hr with | sit _ _ hb=>exact .sit s pos hb
 | mit k since seen last=>cases hr with | mit _ _ _ _ hb=>exact .mit k since seen last (by rw[hρ]; exact hb)
 | mitn=>cases hr with | mitn hb=>exact .mitn hb
structure Relb (nm:List Nat) (σ:Nat→Nat) (st st' : St):Prop where
 env:∀p ∈ st'.env,∃x,st.env.lookup p.1=some x∧Rl σ x p.2
 objs:∀p ∈ st'.X.objs,∃o,st.X.objs.lookup p.1=some o∧RlOb σ o p.2
 live:∀n ∈ st'.X.live,σ n ∈ st.X.live
 inj:∀n ∈ st'.X.live,∀m ∈ st'.X.live,σ n=σ m→n=m
 keep:∀k ∈ nm,(st'.X.objs.lookup k).isSome
theorem SR.relbX {S:Sig} {B:Base} {st st' : St} {σ:Nat→Nat} {g:Gh} {w:World} {a:Act} (h:SR S B g w st a) (hw:Relb S.names σ st st'):∃g',SR S B g' w st' a∧g'.γ=g.γ∧g'.ρ=g.ρ∧∀n ob,g'.β n=some ob→g.β (σ n)=some ob:=by
 classical
 let g' : Gh:={ g with β:=fun n=>if n ∈ st'.X.live then g.β (σ n) else none,η:=fun _ _=>none }
 have hβ:∀n ob,g'.β n=some ob→n ∈ st'.X.live∧g.β (σ n)=some ob:=by
  intro n ob he
  simp only[g'] at he
  split at he
  ·exact⟨‹_›,he⟩
  ·cases he
 have hβ' : ∀n ob,g'.β n=some ob→g.β (σ n)=some ob:=fun n ob he=>(hβ n ob he).2
 have hl:∀k o',st'.X.objs.lookup k=some o'→∃o,st.X.objs.lookup k=some o∧RlOb σ o o':=fun k o' hk=>hw.objs _ (Qn hk)
 refine⟨g',⟨h.defers,h.size,?_,?_⟩,rfl,rfl,hβ'⟩
 ·have hr:=h.hr
  refine⟨fun k hk=>⟨(hr.keep k hk).1,hw.keep k hk⟩,hr.sane,hr.base,hr.io,hr.le,hr.frame,?_,?_,?_,?_,?_,?_,?_,?_,?_,.bare fun _ _=>rfl⟩
  ·intro k o' hk
   obtain⟨o,ho,hro⟩:=hl k o' hk
   exact hro.ra (g:=g) (g':=g') rfl rfl hβ' (hr.objs k o ho)
  ·intro k o' hk; obtain⟨o,ho,_⟩:=hl k o' hk; exact hr.objγ k o ho
  ·intro k k' o o' hk hk' he
   obtain⟨p,hp,_⟩:=hl k o hk
   obtain⟨q,hq,_⟩:=hl k' o' hk'
   exact hr.objinj k k' p q hp hq he
  ·intro k o' hk; obtain⟨o,ho,_⟩:=hl k o' hk; exact hr.objnew k o ho
  ·intro n
   simp only[g']
   by_cases hn:n ∈ st'.X.live
   ·simp only[hn,if_true,true_iff]; exact(hr.live _).1 (hw.live n hn)
   ·simp[hn]
  ·intro n m b hn hm
   obtain⟨h1,h2⟩:=hβ n _ hn
   obtain⟨h3,h4⟩:=hβ m _ hm
   exact hw.inj n h1 m h3 (hr.tipinj _ _ b h2 h4)
  ·intro n b k o hn hk
   obtain⟨p,hp,_⟩:=hl k o hk
   exact hr.tipobj _ b k p (hβ n _ hn).2 hp
  ·intro n b hn; exact hr.tipnew _ b (hβ n _ hn).2
  ·intro n b hn; exact hr.tiplt _ b (hβ n _ hn).2
 ·intro t x hx
  obtain⟨y,hy,hyx⟩:=hw.env _ (Qn hx)
  obtain⟨v,hv,hr⟩:=h.env t y hy
  exact⟨v,hv,hyx.ra (g:=g) (g':=g') rfl rfl hβ' hr⟩
inductive RlAll (σ:Nat→Nat) (env:List (Nat×AV)):List (Nat×AV)→Prop
 | nil:RlAll σ env []
 | cons {t:Nat} {x x' y:AV} {r:List (Nat×AV)}:env.lookup t=some x→x=y→Rl σ y x'→RlAll σ env r→RlAll σ env ((t,x') :: r)
theorem RlAll.all {σ:Nat→Nat} {env l:List (Nat×AV)} (h:RlAll σ env l):∀p ∈ l,∃x,env.lookup p.1=some x∧Rl σ x p.2:=by
 induction h with
 | nil=>simp
 | cons h he h2 _ ih =>
  intro p hp
  rcases List.mem_cons.1 hp with rfl | hp
  ·exact⟨_,h,he▸h2⟩
  ·exact ih p hp
inductive RlCells (σ:Nat→Nat):List AV→List AV→Prop
 | nil:RlCells σ [] []
 | cons {x x' : AV} {r r' : List AV}:Rl σ x x'→RlCells σ r r'→RlCells σ (x :: r) (x' :: r')
theorem RlCells.ob {σ:Nat→Nat} {l l' : List AV} {ty:Option TypeId} (h:RlCells σ l l'):RlOb σ (.cells l ty) (.cells l' ty):=by
 have:l.length=l'.length∧∀(i:Nat) x x',l[i]? = some x→l'[i]? = some x'→Rl σ x x':=by
  induction h with
  | nil=>exact⟨rfl,by simp⟩
  | cons h _ ih =>
   refine⟨by simp[ih.1],?_⟩
   intro i x x' hx hx'
   cases i with
   | zero=>simp at hx hx'; subst hx; subst hx'; exact h
   | succ i=>exact ih.2 i x x' (by simpa using hx) (by simpa using hx')
 exact .cells l l' ty this.1 this.2
inductive RlObjs (σ:Nat→Nat) (l:List (Nat×Ob)):List (Nat×Ob)→Prop
 | nil:RlObjs σ l []
 | cons {k:Nat} {o o' p:Ob} {r:List (Nat×Ob)}:l.lookup k=some o→o=p→RlOb σ p o'→RlObjs σ l r→RlObjs σ l ((k,o') :: r)
theorem RlObjs.all {σ:Nat→Nat} {l r:List (Nat×Ob)} (h:RlObjs σ l r):∀p ∈ r,∃o,l.lookup p.1=some o∧RlOb σ o p.2:=by
 induction h with
 | nil=>simp
 | cons h he h2 _ ih =>
  intro p hp
  rcases List.mem_cons.1 hp with rfl | hp
  ·exact⟨_,h,he▸h2⟩
  ·exact ih p hp
mutual
def mapL (f fl:Nat→Nat):AV→AV
 | .d x=>.d x
 | .nm k p=>.nm (f k) p
 | .tip n sz es ty=>.tip (fl n) sz es ty
 | .tpt n e cs=>.tpt (fl n) e cs
 | .tup l=>.tup (mapLs f fl l)
 | .agg l=>.agg (mapLs f fl l)
 | .clo g l=>.clo g (mapLs f fl l)
def mapLs (f fl:Nat→Nat):List AV→List AV
 | []=>[]
 | x :: r=>mapL f fl x :: mapLs f fl r
end
mutual
def Q1c (ks ls:List Nat):AV→Bool
 | .d _=>true
 | .nm k _=>ks.contains k
 | .tip n _ _ _=>ls.contains n
 | .tpt n _ _=>ls.contains n
 | .tup l=>Q2h ks ls l
 | .agg l=>Q2h ks ls l
 | .clo _ l=>Q2h ks ls l
def Q2h (ks ls:List Nat):List AV→Bool
 | []=>true
 | x :: r=>Q1c ks ls x && Q2h ks ls r
end
theorem Q2q {ks ls:List Nat} {l:List AV} (h:Q2h ks ls l=true) {i:Nat} {x:AV} (hx:l[i]? = some x):Q1c ks ls x=true:=by
 induction l generalizing i with
 | nil=>simp at hx
 | cons y r ih =>
  simp only[Q2h,Bool.and_eq_true] at h
  cases i with
  | zero=>simp at hx; subst hx; exact h.1
  | succ i=>exact ih h.2 (by simpa using hx)
theorem Q1e (f fl:Nat→Nat) (l:List AV):mapLs f fl l=l.map (mapL f fl):=by
 induction l with
 | nil=>rfl
 | cons x r ih=>simp[mapLs,ih]
theorem RA.unmapL {g gc:Gh} {w:World} {ks ls:List Nat} {f fl:Nat→Nat} (hγ:gc.γ=g.γ) (hρ:∀k ∈ ks,gc.ρ k=g.ρ (f k)) (hβ:∀n ∈ ls,gc.β n=g.β (fl n)):∀(x:AV) (v:Value),Q1c ks ls x=true→RA g w (mapL f fl x) v→RA gc w x v
 | .d x,v,_,h=>by
  simp only[mapL] at h
  cases h with
  | d _ _ h=>exact .d _ _ (hγ▸h)
 | .nm k p,v,hn,h=>by
  simp only[mapL] at h
  have hk:k ∈ ks:=by simpa[Q1c] using hn
  cases h with
  | nm _ _ _ h=>exact .nm k p v (by rw[hρ k hk]; exact h)
 | .tpt n e cs,v,hn,h=>by
  simp only[mapL] at h
  have hk:n ∈ ls:=by simpa[Q1c] using hn
  cases h with
  | tpt _ _ _ _ h1 h2 =>
   refine .tpt n e cs v (hγ▸h1) ?_
   unfold TptOk at h2 ⊢
   split at h2
   ·exact⟨h2.1,fun ob hob=>h2.2 ob (by rw[← hβ n hk]; exact hob)⟩
   ·trivial
 | .tip n sz es ty,v,hn,h=>by
  simp only[mapL] at h
  have hk:n ∈ ls:=by simpa[Q1c] using hn
  cases h with
  | tip _ _ _ _ _ h1 h2 =>
   refine .tip n sz es ty v (hγ▸h1) ?_
   unfold TipOk at h2 ⊢
   split at h2
   ·intro ob hob
    rw[hβ n hk] at hob
    rw[hγ]; exact h2 ob hob
   ·trivial
 | .tup l,v,hn,h=>by
  simp only[mapL,Q1e] at h
  cases h with
  | tup _ vs hl hx =>
   refine .tup l vs (by simpa using hl) fun i x v h1 h2=>?_
   have:SizeOf.sizeOf x < SizeOf.sizeOf l:=List.sizeOf_lt_of_mem (List.mem_of_getElem? h1)
   exact RA.unmapL hγ hρ hβ x v (Q2q (by simpa[Q1c] using hn) h1) (hx i _ v (by rw[List.getElem?_map,h1]; rfl) h2)
 | .agg l,v,hn,h=>by
  simp only[mapL,Q1e] at h
  cases h with
  | agg _ vs hl hx =>
   refine .agg l vs (by simpa using hl) fun i x v h1 h2=>?_
   have:SizeOf.sizeOf x < SizeOf.sizeOf l:=List.sizeOf_lt_of_mem (List.mem_of_getElem? h1)
   exact RA.unmapL hγ hρ hβ x v (Q2q (by simpa[Q1c] using hn) h1) (hx i _ v (by rw[List.getElem?_map,h1]; rfl) h2)
 | .clo c l,v,hn,h=>by
  simp only[mapL,Q1e] at h
  cases h with
  | clo _ _ vs hl hx =>
   refine .clo c l vs (by simpa using hl) fun i x v h1 h2=>?_
   have:SizeOf.sizeOf x < SizeOf.sizeOf l:=List.sizeOf_lt_of_mem (List.mem_of_getElem? h1)
   exact RA.unmapL hγ hρ hβ x v (Q2q (by simpa[Q1c] using hn) h1) (hx i _ v (by rw[List.getElem?_map,h1]; rfl) h2)
termination_by x=>x
theorem RA.remapL {g gc:Gh} {w:World} {ks ls:List Nat} {f fl:Nat→Nat} (hγ:gc.γ=g.γ) (hρ:∀k ∈ ks,g.ρ (f k)=gc.ρ k) (hβ:∀n ∈ ls,g.β (fl n)=gc.β n) {x:AV} {v:Value} (h:RA gc w x v) (hn:Q1c ks ls x=true):RA g w (mapL f fl x) v:=by
 induction h with
 | d x v h=>simp only[mapL]; exact .d _ _ (hγ▸h)
 | nm k p v h =>
  have hk:k ∈ ks:=by simpa[Q1c] using hn
  simp only[mapL]; exact .nm _ _ _ (by rw[hρ k hk]; exact h)
 | tpt n e cs v h1 h2 =>
  have hk:n ∈ ls:=by simpa[Q1c] using hn
  simp only[mapL]
  refine .tpt _ e cs v (hγ▸h1) ?_
  unfold TptOk at h2 ⊢
  split at h2
  ·exact⟨h2.1,fun ob hob=>h2.2 ob (by rw[hβ n hk] at hob; exact hob)⟩
  ·trivial
 | tip n sz es ty v h1 h2 =>
  have hk:n ∈ ls:=by simpa[Q1c] using hn
  simp only[mapL]
  refine .tip _ sz es ty v (hγ▸h1) ?_
  unfold TipOk at h2 ⊢
  split at h2
  ·intro ob hob
   rw[hβ n hk] at hob
   rw[← hγ]; exact h2 ob hob
  ·trivial
 | tup l vs hl _ ih =>
  simp only[mapL,Q1e]
  refine .tup _ vs (by simpa using hl) fun i x v h1 h2=>?_
  rw[List.getElem?_map,Option.map_eq_some_iff] at h1
  obtain⟨y,hy,rfl⟩:=h1
  exact ih i y v hy h2 (Q2q (by simpa[Q1c] using hn) hy)
 | agg l vs hl _ ih =>
  simp only[mapL,Q1e]
  refine .agg _ vs (by simpa using hl) fun i x v h1 h2=>?_
  rw[List.getElem?_map,Option.map_eq_some_iff] at h1
  obtain⟨y,hy,rfl⟩:=h1
  exact ih i y v hy h2 (Q2q (by simpa[Q1c] using hn) hy)
 | clo c l vs hl _ ih =>
  simp only[mapL,Q1e]
  refine .clo c _ vs (by simpa using hl) fun i x v h1 h2=>?_
  rw[List.getElem?_map,Option.map_eq_some_iff] at h1
  obtain⟨y,hy,rfl⟩:=h1
  exact ih i y v hy h2 (Q2q (by simpa[Q1c] using hn) hy)
def Q29 (f fl:Nat→Nat):Ob→Ob
 | .cells cs ty=>.cells (mapLs f fl cs) ty
 | .map l c=>.map l c
 | .sit s pos=>.sit s pos
 | .mit k since seen last=>.mit (f k) since seen last
 | .mitn=>.mitn
 | .mapt L sz l c=>.mapt L sz l c
def Q2m (ks ls:List Nat):Ob→Bool
 | .cells cs _=>Q2h ks ls cs
 | .map _ _=>true
 | .sit _ _=>true
 | .mit k _ _ _=>ks.contains k
 | .mitn=>true
 | .mapt _ _ _ _=>false
theorem ObRel.unmapL {g gc:Gh} {w:World} {ks ls:List Nat} {f fl:Nat→Nat} (hγ:gc.γ=g.γ) (hρ:∀k ∈ ks,gc.ρ k=g.ρ (f k)) (hβ:∀n ∈ ls,gc.β n=g.β (fl n)) {b:Nat} {o:Ob} (hn:Q2m ks ls o=true) (h:ObRel g w b (Q29 f fl o)):ObRel gc w b o:=by
 cases o with
 | cells cs ty =>
  simp only[Q29,Q1e] at h
  cases h with
  | cells _ _ arr T hb hl hc h4 =>
   refine .cells cs ty arr T hb (by simpa using hl) (fun i x v hx hv=>?_) h4
   exact RA.unmapL hγ hρ hβ x v (Q2q (by simpa[Q2m] using hn) hx) (hc i _ v (by rw[List.getElem?_map,hx]; rfl) hv)
 | map l c =>
  simp only[Q29] at h
  cases h with
  | map _ _ es hb hl hc h4 h5=>exact .map l c es hb hl (fun i x e hx he=>⟨(hc i x e hx he).1,(hc i x e hx he).2.1,hγ▸(hc i x e hx he).2.2⟩) h4 h5
 | sit s pos=>simp only[Q29] at h; cases h with | sit _ _ hb=>exact .sit s pos hb
 | mit k since seen last =>
  simp only[Q29] at h
  cases h with
  | mit _ _ _ _ hb=>exact .mit k since seen last (by rw[hρ k (List.contains_iff_mem.1 hn)]; exact hb)
 | mitn=>simp only[Q29] at h; cases h with | mitn hb=>exact .mitn hb
 | mapt L sz l c=>simp[Q2m] at hn
theorem ObRel.remapL {g gc:Gh} {w:World} {ks ls:List Nat} {f fl:Nat→Nat} (hγ:gc.γ=g.γ) (hρ:∀k ∈ ks,g.ρ (f k)=gc.ρ k) (hβ:∀n ∈ ls,g.β (fl n)=gc.β n) {b:Nat} {o:Ob} (hn:Q2m ks ls o=true) (h:ObRel gc w b o):ObRel g w b (Q29 f fl o):=by
 cases h with
 | cells cs ty arr T hb hl hc h4 =>
  simp only[Q29,Q1e]
  refine .cells _ ty arr T hb (by simpa using hl) (fun i x v hx hv=>?_) h4
  rw[List.getElem?_map,Option.map_eq_some_iff] at hx
  obtain⟨y,hy,rfl⟩:=hx
  exact(hc i y v hy hv).remapL hγ hρ hβ (Q2q (by simpa[Q2m] using hn) hy)
 | map l c es hb hl hc h4 h5 =>
  exact .map l c es hb hl (fun i x e hx he=>⟨(hc i x e hx he).1,(hc i x e hx he).2.1,hγ▸(hc i x e hx he).2.2⟩) h4 h5
 | sit s pos hb=>exact .sit s pos hb
 | mit k since seen last hb=>exact .mit (f k) since seen last (by rw[hρ k (List.contains_iff_mem.1 hn)]; exact hb)
 | mitn hb=>exact .mitn hb
 | mapt L sz l c es hb hl hc h4 h5=>simp[Q2m] at hn
def Qf (f fl:Nat→Nat):List (Nat×Ob)→List (Nat×Ob)→List (Nat×Ob)
 | [],acc=>acc
 | p :: r,acc=>Qf f fl r (setObj (f p.1) (Q29 f fl p.2) acc)
theorem Q44 {f fl:Nat→Nat}:∀(l acc:List (Nat×Ob)) (j:Nat),(∀p ∈ l,f p.1≠j)→(Qf f fl l acc).lookup j=acc.lookup j
 | [],_,_,_=>rfl
 | p :: r,acc,j,h=>by
  simp only[Qf]
  rw[Q44 r _ j (fun q hq=>h q (List.mem_cons_of_mem _ hq)),Qb,if_neg (Ne.symm (h p List.mem_cons_self))]
theorem Q72 {f fl:Nat→Nat}:∀(l acc:List (Nat×Ob)) (p:Nat×Ob),(l.map fun p=>f p.1).Nodup→p ∈ l→(Qf f fl l acc).lookup (f p.1)=some (Q29 f fl p.2)
 | [],_,_,_,h=>by simp at h
 | q :: r,acc,p,hnd,h=>by
  simp only[List.map_cons,List.nodup_cons] at hnd
  simp only[Qf]
  rcases List.mem_cons.1 h with rfl | h
  ·rw[Q44 r _ _ (fun q hq he=>hnd.1 (by rw[← he]; exact List.mem_map_of_mem (f:=fun p:Nat×Ob=>f p.1) hq)),Qb,if_pos rfl]
  ·exact Q72 r _ p hnd.2 h
structure LabCall (X Xc Xc' : Store) (f fl:Nat→Nat) (F:List Nat):Prop where
 inobj:∀p ∈ Xc.objs,X.objs.lookup (f p.1)=some (Q29 f fl p.2)
 innames:(Xc.objs.all fun p=>Q2m (Xc.objs.map (·.1)) Xc.live p.2)=true
 outnames:(Xc'.objs.all fun p=>Q2m (Xc'.objs.map (·.1)) Xc'.live p.2)=true
 nodup:(Xc'.objs.map fun p=>f p.1).Nodup
 nodup1:(Xc.objs.map (·.1)).Nodup
 new:∀p ∈ Xc'.objs,p.1 ∈ Xc.objs.map (·.1)∨(f p.1 ∈ F∧X.objs.lookup (f p.1)=none)
 sub:∀p ∈ Xc.objs,p.1 ∈ Xc'.objs.map (·.1)
 free:∀j o,X.objs.lookup j=some o→(∀p ∈ Xc'.objs,f p.1≠j)→F = []∨Q1j F o=true
 inlive:∀n ∈ Xc.live,fl n ∈ X.live
 inlnd:(Xc.live.map fl).Nodup
 outlnd:(Xc'.live.map fl).Nodup
 outF:∀n ∈ Xc'.live,fl n ∈ F
 outnew:∀n ∈ Xc'.live,fl n ∈ X.live→fl n ∈ Xc.live.map fl
def Qy (fl:Nat→Nat) (X Xc Xc' : Store):List Nat:=Xc'.live.map fl++X.live.filter fun m=>!(Xc.live.map fl).contains m
theorem Qnp {fl:Nat→Nat} {X Xc Xc' : Store} {m:Nat}:m ∈ Qy fl X Xc Xc'↔(∃n ∈ Xc'.live,fl n=m)∨(m ∈ X.live∧∀n ∈ Xc.live,fl n≠m):=by
 unfold Qy
 rw[List.mem_append,List.mem_map,List.mem_filter]
 refine or_congr Iff.rfl (and_congr Iff.rfl ?_)
 simp only[Bool.not_eq_true']
 constructor
 ·intro h n hn he
  have:(Xc.live.map fl).contains m=true:=by
   rw[List.contains_iff_mem]; exact List.mem_map.2 ⟨n,hn,he⟩
  rw[this] at h; cases h
 ·intro h
  cases hc:(Xc.live.map fl).contains m with
  | false=>rfl
  | true =>
   rw[List.contains_iff_mem] at hc
   obtain⟨n,hn,he⟩:=List.mem_map.1 hc
   exact(h n hn he).elim
section
variable {P:Program} {X:Store}
def GH (g:Gh) (w:World) (gs:List (Nat×AV)):Prop:=∀p ∈ gs,RA g w p.2 (.pointer (some ⟨p.1,0,none⟩))
def DoesH (P:Program) (f:FuncId) (args:List AV) (gs:List (Nat×AV)) (X:Store) (res:AV) (X' : Store):Prop :=
 ∀(g:Gh) (w:World) (vs:Array Value),HR (X.objs.map (·.1)) (Base.of g w X) g w X→GH g w gs→args.length=vs.size →
  (∀(i:Nat) x v,args[i]? = some x→vs[i]? = some v→RA g w x v) →
  Calls P f vs w fun e w'=>∃g' v,e = .returned v∧RA g' w' res v∧HR (X.objs.map (·.1)) (Base.of g w X) g' w' X'
theorem Does.toH {f:FuncId} {args:List AV} {X:Store} {res:AV} {X' : Store} (h:Does P f args X res X'):DoesH P f args [] X res X' :=
 fun g w vs hr _ hl ha=>h g w vs hr hl ha
theorem DoesH.plain {f:FuncId} {args:List AV} {X:Store} {res:AV} {X' : Store} (h:DoesH P f args [] X res X'):Does P f args X res X' :=
 fun g w vs hr hl ha=>h g w vs hr (by simp[GH]) hl ha
theorem DoesH.useLab {fn:FuncId} {xs:List AV} {gs:List (Nat×AV)} {res:AV} {Xc Xc' : Store} (hs:DoesH P fn xs gs Xc res Xc') (hgd:Qc (gs.map (·.2))=true) {f fl:Nat→Nat} {F:List Nat} (hc:LabCall X Xc Xc' f fl F)
  (hd:Q2h (Xc.objs.map (·.1)) Xc.live xs=true) (hdr:Q1c (Xc'.objs.map (·.1)) Xc'.live res=true) {nm:List Nat} {B:Base} {g:Gh} {w:World}
  (hr:HR nm B g w X) (hgs:GH g w gs) {vs:Array Value} (hl:xs.length=vs.size) (hvs:∀(i:Nat) x v,(mapLs f fl xs)[i]? = some x→vs[i]? = some v→RA g w x v) :
  Calls P fn vs w fun e w'=>∃v g',e = .returned v∧HR nm B g' w' ⟨Qf f fl Xc'.objs X.objs,Qy fl X Xc Xc'⟩∧Trans F g w g' w'∧RA g' w' (mapL f fl res) v:=by
 classical
 let gc:Gh:={ γ:=g.γ,β:=fun n=>if n ∈ Xc.live then g.β (fl n) else none,ρ:=fun k=>g.ρ (f k) }
 have hgcβ:∀n ∈ Xc.live,gc.β n=g.β (fl n):=fun n hn=>by simp only[gc,hn,if_true]
 have hgcβ' : ∀n ob,gc.β n=some ob→n ∈ Xc.live∧g.β (fl n)=some ob:=by
  intro n ob he
  simp only[gc] at he
  split at he
  ·exact⟨‹_›,he⟩
  ·cases he
 have hlk:∀k o,Xc.objs.lookup k=some o→X.objs.lookup (f k)=some (Q29 f fl o):=fun k o hk=>hc.inobj _ (Qn hk)
 have hinj:∀p ∈ Xc'.objs,∀q ∈ Xc'.objs,f p.1=f q.1→p=q:=fun p hp q hq he=>Q2z hc.nodup hp hq he
 have hnd' : (Xc'.objs.map (·.1)).Nodup:=Q8p (h:=f) hc.nodup
 have hsub:∀k o,Xc.objs.lookup k=some o→∃p ∈ Xc'.objs,p.1=k:=by
  intro k o hk
  obtain⟨p,hp,he⟩:=List.mem_map.1 (hc.sub _ (Qn hk))
  exact⟨p,hp,he⟩
 have h0:HR (Xc.objs.map (·.1)) (Base.of gc w Xc) gc w Xc:=by
  refine⟨?_,hr.sane,Nat.le_refl _,⟨rfl,rfl,rfl,Nat.le_refl _⟩,.refl _ _,fun b _ _=>⟨rfl,rfl⟩,?_,?_,?_,?_,?_,?_,?_,?_,?_,.bare fun _ _=>rfl⟩
  ·intro k hk
   refine⟨rfl,?_⟩
   obtain⟨p,hp,rfl⟩:=List.mem_map.1 hk
   rw[Qj hc.nodup1 (x:=p.2) hp]; rfl
  ·intro k o hk
   exact ObRel.unmapL (g:=g) (gc:=gc) (f:=f) (fl:=fl) (ks:=Xc.objs.map (·.1)) (ls:=Xc.live) rfl (fun _ _=>rfl) hgcβ (List.all_eq_true.1 hc.innames _ (Qn hk)) (hr.objs _ _ (hlk k o hk))
  ·intro k o hk; exact hr.objγ _ _ (hlk k o hk)
  ·intro k k' o o' hk hk' he
   have h1:=hr.objinj _ _ _ _ (hlk k o hk) (hlk k' o' hk') he
   obtain⟨p,hp,e1⟩:=hsub k o hk
   obtain⟨q,hq,e2⟩:=hsub k' o' hk'
   have:=hinj p hp q hq (by rw[e1,e2]; exact h1)
   rw[← e1,← e2,this]
  ·intro k o hk; exact .inr (.inl ⟨k,o,hk,rfl⟩)
  ·intro n
   by_cases hn:n ∈ Xc.live
   ·simp only[hn,true_iff,hgcβ n hn]; exact(hr.live _).1 (hc.inlive n hn)
   ·simp only[hn,false_iff,gc,if_false]; simp
  ·intro n m b hn hm
   obtain⟨h1,h2⟩:=hgcβ' n _ hn
   obtain⟨h3,h4⟩:=hgcβ' m _ hm
   exact Q2z hc.inlnd h1 h3 (hr.tipinj _ _ b h2 h4)
  ·intro n b k o hn hk; exact hr.tipobj _ b _ _ (hgcβ' n _ hn).2 (hlk k o hk)
  ·intro n b hn; exact .inr (.inr ⟨n,hn⟩)
  ·intro n b hn; exact hr.tiplt _ b (hgcβ' n _ hn).2
 have hgs' : GH gc w gs:=by
  intro p hp
  obtain⟨i,hi⟩:=List.getElem?_of_mem hp
  exact(hgs p hp).data (Q3z hgd (i:=i) (by rw[List.getElem?_map,hi]; rfl)) (.refl _ _)
 have:=hs gc w vs h0 hgs' hl fun i x v hx hv=>RA.unmapL (g:=g) (gc:=gc) (ks:=Xc.objs.map (·.1)) (ls:=Xc.live) (f:=f) (fl:=fl) rfl (fun _ _=>rfl) hgcβ x v (Q2q hd hx) (hvs i _ v (by rw[Q1e,List.getElem?_map,hx]; rfl) hv)
 refine this.mono ?_
 rintro e w' ⟨g1,v,rfl,hra,h1⟩
 let ρ' : Nat→Nat:=fun j=>match Xc'.objs.find? (fun p=>f p.1 == j) with
  | some p=>g1.ρ p.1
  | none=>g.ρ j
 let β' : Nat→Option (Option Nat):=fun m=>match Xc'.live.find? (fun n=>fl n == m) with
  | some n=>g1.β n
  | none=>if m ∈ Xc.live.map fl then none else g.β m
 let η' : Nat→Nat→Option Nat:=fun m=>if m ∈ Xc'.live.map fl then fun _=>none else g.η m
 have hηin:∀n ∈ Xc'.live,∀i,η' (fl n) i=none:=by
  intro n hn i
  simp only[η',List.mem_map.2 ⟨n,hn,rfl⟩,if_true]
 have hηout:∀m,(∀n ∈ Xc'.live,fl n≠m)→η' m=g.η m:=by
  intro m hm
  have:m ∉ Xc'.live.map fl:=fun h=>by obtain⟨n,hn,he⟩:=List.mem_map.1 h; exact hm n hn he
  simp only[η',this,if_false]
 have hρin:∀p ∈ Xc'.objs,ρ' (f p.1)=g1.ρ p.1:=by
  intro p hp
  have hs' : (Xc'.objs.find? (fun q=>f q.1 == f p.1)).isSome=true:=by
   rw[List.find?_isSome]; exact⟨p,hp,by simp⟩
  obtain⟨q,hq⟩:=Option.isSome_iff_exists.1 hs'
  have hq1:=List.find?_some hq
  have hq2:=List.mem_of_find?_eq_some hq
  simp only[beq_iff_eq] at hq1
  have:=hinj q hq2 p hp hq1
  simp only[ρ',hq,this]
 have hρout:∀j,(∀p ∈ Xc'.objs,f p.1≠j)→ρ' j=g.ρ j:=by
  intro j hj
  have:Xc'.objs.find? (fun p=>f p.1 == j)=none:=by
   rw[List.find?_eq_none]; intro p hp; simpa using hj p hp
  simp only[ρ',this]
 have hβin:∀n ∈ Xc'.live,β' (fl n)=g1.β n:=by
  intro n hn
  have hs' : (Xc'.live.find? (fun q=>fl q == fl n)).isSome=true:=by
   rw[List.find?_isSome]; exact⟨n,hn,by simp⟩
  obtain⟨q,hq⟩:=Option.isSome_iff_exists.1 hs'
  have hq1:=List.find?_some hq
  have hq2:=List.mem_of_find?_eq_some hq
  simp only[beq_iff_eq] at hq1
  have:=Q2z hc.outlnd hq2 hn hq1
  simp only[β',hq,this]
 have hβout:∀m,(∀n ∈ Xc'.live,fl n≠m)→β' m=if m ∈ Xc.live.map fl then none else g.β m:=by
  intro m hm
  have:Xc'.live.find? (fun n=>fl n == m)=none:=by
   rw[List.find?_eq_none]; intro n hn; simpa using hm n hn
  simp only[β',this]
 have hβcases:∀m ob,β' m=some ob→(∃n ∈ Xc'.live,fl n=m∧g1.β n=some ob)∨((∀n ∈ Xc'.live,fl n≠m)∧(∀n ∈ Xc.live,fl n≠m)∧g.β m=some ob):=by
  intro m ob he
  by_cases h:∃n ∈ Xc'.live,fl n=m
  ·obtain⟨n,hn,rfl⟩:=h
   rw[hβin n hn] at he
   exact .inl ⟨n,hn,rfl,he⟩
  ·have h' : ∀n ∈ Xc'.live,fl n≠m:=fun n hn he=>h ⟨n,hn,he⟩
   rw[hβout m h'] at he
   split at he
   ·cases he
   ·rename_i hnm
    exact .inr ⟨h',fun n hn e=>hnm (List.mem_map.2 ⟨n,hn,e⟩),he⟩
 have hcases:∀j,(∃p ∈ Xc'.objs,f p.1=j)∨(∀p ∈ Xc'.objs,f p.1≠j):=by
  intro j
  by_cases h:∃p ∈ Xc'.objs,f p.1=j
  ·exact .inl h
  ·exact .inr fun p hp he=>h ⟨p,hp,he⟩
 have hold:∀k,k ∈ Xc.objs.map (·.1)→g1.ρ k=g.ρ (f k):=fun k hk=>(h1.keep k hk).1
 have hframe:∀b,b < w.heap.size→(¬ ∃k o,Xc.objs.lookup k=some o∧g.ρ (f k)=b)→(¬ ∃n ∈ Xc.live,g.β (fl n)=some (some b))→w'.heap[b]? = w.heap[b]?∧g1.γ b=g.γ b:=by
  intro b hb hn hn2
  refine h1.frame b hb ?_
  rintro (⟨k,o,hk,he⟩ | ⟨n,hn'⟩)
  ·exact hn ⟨k,o,hk,he⟩
  ·exact hn2 ⟨n,hgcβ' n _ hn'⟩
 have hsz:w.heap.size≤w'.heap.size:=h1.base
 have hle:LeD g.γ w g1.γ w':=h1.le
 -- what the callee may have had a hand in: its objects, its labels' blocks, new blocks
 have horig:∀b,(w.heap.size≤b∨(Base.of gc w Xc).allowed b)→w.heap.size≤b∨(∃k o,Xc.objs.lookup k=some o∧g.ρ (f k)=b)∨(∃n ∈ Xc.live,g.β (fl n)=some (some b)):=by
  rintro b (h | ⟨k,o,hk,he⟩ | ⟨n,hn⟩)
  ·exact .inl h
  ·exact .inr (.inl ⟨k,o,hk,he⟩)
  ·exact .inr (.inr ⟨n,hgcβ' n _ hn⟩)
 have htipfr:∀m b,g.β m=some (some b)→(∀n ∈ Xc.live,fl n≠m)→w'.heap[b]? = w.heap[b]?∧g1.γ b=g.γ b:=by
  intro m b hm hnm
  refine hframe b (hr.tiplt m b hm) ?_ ?_
  ·rintro ⟨k,o,hk,he⟩
   exact hr.tipobj m b _ _ hm (hlk k o hk) he.symm
  ·rintro ⟨n,hn,he⟩
   exact hnm n hn (hr.tipinj _ _ b he hm)
 have hetafr:∀L i b,(g.β L).isSome→g.η L i=some b→w'.heap[b]? = w.heap[b]?∧g1.γ b=g.γ b:=by
  intro L i b hL hb
  refine hframe b (hr.eta.lt L i b hL hb) ?_ ?_
  ·rintro ⟨k,o,hk,he⟩
   exact hr.eta.obj L i b _ _ hL hb (hlk k o hk) he.symm
  ·rintro ⟨n,_,he⟩
   exact hr.eta.tip L i b _ hL hb he
 have hobjfr:∀j o,X.objs.lookup j=some o→(∀p ∈ Xc'.objs,f p.1≠j)→w'.heap[g.ρ j]? = w.heap[g.ρ j]?∧g1.γ (g.ρ j)=g.γ (g.ρ j):=by
  intro j o hj hne
  refine hframe _ (Q1o (hr.objs j o hj)) ?_ ?_
  ·rintro ⟨k,o',hk,he⟩
   have:=hr.objinj _ _ _ _ (hlk k o' hk) hj he
   obtain⟨p,hp,e1⟩:=hsub k o' hk
   exact hne p hp (by rw[e1]; exact this)
  ·rintro ⟨n,_,he⟩
   exact hr.tipobj _ _ j o he hj rfl
 have hsubne:∀j,(∀p ∈ Xc'.objs,f p.1≠j)→∀k o,Xc.objs.lookup k=some o→f k≠j:=by
  intro j hne k o hk he
  obtain⟨p,hp,e1⟩:=hsub k o hk
  exact hne p hp (by rw[e1]; exact he)
 have ht:Trans F g w { γ:=g1.γ,β:=β',ρ:=ρ',η:=η' } w':=by
  refine⟨hle,?_,?_,?_⟩
  rotate_right
  ·intro L hL he
   obtain⟨ob,hob⟩:=Option.isSome_iff_exists.1 he
   rcases hβcases L ob hob with ⟨n,hn,rfl,_⟩ | ⟨h2,h3,h4⟩
   ·exact(hL (hc.outF n hn)).elim
   ·exact⟨hηout L h2,fun i b hb=>⟨(hetafr L i b (by rw[h4]; rfl) hb).2,(hetafr L i b (by rw[h4]; rfl) hb).1⟩⟩
  ·intro j hj
   simp only
   rcases hcases j with ⟨p,hp,rfl⟩ | hne
   ·rw[hρin p hp]
    rcases hc.new p hp with h | ⟨h,_⟩
    ·exact hold _ h
    ·exact(hj h).elim
   ·exact hρout j hne
  ·intro m ob hm he
   rcases hβcases m ob he with ⟨n,hn,rfl,_⟩ | ⟨_,h3,h4⟩
   ·exact(hm (hc.outF n hn)).elim
   ·exact⟨h4,fun b hb=>⟨(htipfr m b (hb▸h4) h3).2,(htipfr m b (hb▸h4) h3).1⟩⟩
 have hX' : ∀j o,(Qf f fl Xc'.objs X.objs).lookup j=some o→(∃p ∈ Xc'.objs,f p.1=j∧o=Q29 f fl p.2)∨((∀p ∈ Xc'.objs,f p.1≠j)∧X.objs.lookup j=some o):=by
  intro j o hj
  rcases hcases j with ⟨p,hp,rfl⟩ | hne
  ·rw[Q72 _ _ p hc.nodup hp] at hj
   exact .inl ⟨p,hp,rfl,by simpa using hj.symm⟩
  ·rw[Q44 _ _ _ hne] at hj
   exact .inr ⟨hne,hj⟩
 have hρmap:∀k ∈ Xc'.objs.map (·.1),ρ' (f k)=g1.ρ k:=by
  intro k hk
  obtain⟨p,hp,rfl⟩:=List.mem_map.1 hk
  exact hρin p hp
 have hob1:∀p ∈ Xc'.objs,w.heap.size≤g1.ρ p.1∨(∃k o,Xc.objs.lookup k=some o∧g.ρ (f k)=g1.ρ p.1)∨(∃n ∈ Xc.live,g.β (fl n)=some (some (g1.ρ p.1))) :=
  fun p hp=>horig _ (h1.objnew _ _ (Qj hnd' hp))
 refine⟨v,{ γ:=g1.γ,β:=β',ρ:=ρ',η:=η' },rfl,⟨?_,h1.sane,Nat.le_trans hr.base hsz,⟨h1.io.1.trans hr.io.1,h1.io.2.1.trans hr.io.2.1,h1.io.2.2.1.trans hr.io.2.2.1,Nat.le_trans hr.io.2.2.2 h1.io.2.2.2⟩,hr.le.trans hle,?_,?_,?_,?_,?_,?_,?_,?_,?_,?_,hr.eta.stepN (fun L hL=>?_) hsz (fun m b hm L i hL hb=>?_) (fun j o hj L i hL hb=>?_)⟩,ht,?_⟩
 ·intro k hk
  obtain⟨h2,h3⟩:=hr.keep k hk
  rcases hcases k with ⟨p,hp,rfl⟩ | hne
  ·refine⟨?_,by simp only; rw[Q72 _ _ p hc.nodup hp]; rfl⟩
   simp only; rw[hρin p hp]
   rcases hc.new p hp with h | ⟨_,h⟩
   ·rw[hold _ h]; exact h2
   ·rw[h] at h3; cases h3
  ·exact⟨by simp only; rw[hρout k hne]; exact h2,by simp only; rw[Q44 _ _ _ hne]; exact h3⟩
 ·intro b hb hnb
  have h2:=hr.frame b hb hnb
  have h3:=hframe b (Nat.lt_of_lt_of_le hb hr.base) (by
   rintro ⟨k,o,hk,he⟩
   rcases hr.objnew _ _ (hlk k o hk) with h | h
   ·rw[he] at h; omega
   ·rw[he] at h; exact hnb h) (by
   rintro ⟨n,_,he⟩
   rcases hr.tipnew _ b he with h | h
   ·omega
   ·exact hnb h)
  exact⟨h3.1.trans h2.1,h3.2.trans h2.2⟩
 ·intro j o hj
  rcases hX' j o hj with ⟨p,hp,rfl,rfl⟩ | ⟨hne,hj'⟩
  ·simp only; rw[hρin p hp]
   exact ObRel.remapL (g:={ γ:=g1.γ,β:=β',ρ:=ρ',η:=η' }) (gc:=g1) (ls:=Xc'.live) rfl hρmap hβin (List.all_eq_true.1 hc.outnames _ hp) (h1.objs _ _ (Qj hnd' hp))
  ·simp only; rw[hρout j hne]
   exact(hr.objs j o hj').keep ht (hobjfr j o hj' hne).1 (hc.free j o hj' hne)
 ·intro j o hj
  rcases hX' j o hj with ⟨p,hp,rfl,rfl⟩ | ⟨hne,hj'⟩
  ·simp only; rw[hρin p hp]; exact h1.objγ _ _ (Qj hnd' hp)
  ·simp only; rw[hρout j hne,(hobjfr j o hj' hne).2]; exact hr.objγ j o hj'
 ·intro j j' o o' hj hj' he
  simp only at he
  have mix:∀p ∈ Xc'.objs,∀j o,X.objs.lookup j=some o→(∀p ∈ Xc'.objs,f p.1≠j)→g1.ρ p.1≠g.ρ j:=by
   intro p hp j o hj hne he
   rcases hob1 p hp with h | ⟨k,o',hk,h⟩ | ⟨n,_,h⟩
   ·have:=Q1o (hr.objs j o hj); omega
   ·exact hsubne j hne k o' hk (hr.objinj _ _ _ _ (hlk k o' hk) hj (h.trans he))
   ·exact hr.tipobj _ _ j o h hj he
  rcases hX' j o hj with ⟨p,hp,e1,_⟩ | ⟨hne,hj1⟩ <;> rcases hX' j' o' hj' with ⟨q,hq,e2,_⟩ | ⟨hne',hj1'⟩
  ·rw[← e1,← e2] at he ⊢
   rw[hρin p hp,hρin q hq] at he
   rw[h1.objinj _ _ _ _ (Qj hnd' hp) (Qj hnd' hq) he]
  ·rw[← e1,hρin p hp,hρout j' hne'] at he
   exact(mix p hp j' o' hj1' hne' he).elim
  ·rw[← e2,hρin q hq,hρout j hne] at he
   exact(mix q hq j o hj1 hne he.symm).elim
  ·rw[hρout j hne,hρout j' hne'] at he
   exact hr.objinj j j' o o' hj1 hj1' he
 ·intro j o hj
  rcases hX' j o hj with ⟨p,hp,rfl,rfl⟩ | ⟨hne,hj'⟩
  ·simp only; rw[hρin p hp]
   rcases hob1 p hp with h | ⟨k,o',hk,h⟩ | ⟨n,_,h⟩
   ·exact .inl (Nat.le_trans hr.base h)
   ·rw[← h]; exact hr.objnew _ _ (hlk k o' hk)
   ·exact hr.tipnew _ _ h
  ·simp only; rw[hρout j hne]; exact hr.objnew j o hj'
 ·intro m
  rw[Qnp]
  simp only
  constructor
  ·rintro (⟨n,hn,rfl⟩ | ⟨hm,hnm⟩)
   ·rw[hβin n hn]; exact(h1.live n).1 hn
   ·by_cases h:∃n ∈ Xc'.live,fl n=m
    ·obtain⟨n,hn,rfl⟩:=h
     rw[hβin n hn]; exact(h1.live n).1 hn
    ·rw[hβout m (fun n hn he=>h ⟨n,hn,he⟩),if_neg (fun hmem=>by obtain⟨n,hn,he⟩:=List.mem_map.1 hmem; exact hnm n hn he)]
     exact(hr.live m).1 hm
  ·intro hsome
   obtain⟨ob,hob⟩:=Option.isSome_iff_exists.1 hsome
   rcases hβcases m ob hob with ⟨n,hn,he,_⟩ | ⟨_,h3,h4⟩
   ·exact .inl ⟨n,hn,he⟩
   ·exact .inr ⟨(hr.live m).2 (by rw[h4]; rfl),h3⟩
 ·intro m m' b hm hm'
  have cross:∀n ∈ Xc'.live,g1.β n=some (some b)→∀m,(∀n ∈ Xc.live,fl n≠m)→g.β m=some (some b)→False:=by
   intro n _ h2 m h3 h4
   rcases horig b (h1.tipnew n b h2) with h | ⟨k,o,hk,h⟩ | ⟨n',hn',h⟩
   ·have:=hr.tiplt m b h4; omega
   ·exact hr.tipobj m b _ _ h4 (hlk k o hk) h.symm
   ·exact h3 n' hn' (hr.tipinj _ _ b h h4)
  rcases hβcases m _ hm with ⟨n,hn,e1,h2⟩ | ⟨_,h3,h4⟩ <;> rcases hβcases m' _ hm' with ⟨n',hn',e2,h2'⟩ | ⟨_,h3',h4'⟩
  ·rw[← e1,← e2,h1.tipinj n n' b h2 h2']
  ·exact(cross n hn h2 m' h3' h4').elim
  ·exact(cross n' hn' h2' m h3 h4).elim
  ·exact hr.tipinj m m' b h4 h4'
 ·intro m b j o hm hj
  rcases hβcases m _ hm with ⟨n,hn,_,h2⟩ | ⟨_,h3,h4⟩
  ·rcases hX' j o hj with ⟨p,hp,rfl,rfl⟩ | ⟨hne,hj'⟩
   ·simp only; rw[hρin p hp]; exact h1.tipobj n b _ _ h2 (Qj hnd' hp)
   ·simp only; rw[hρout j hne]
    rcases horig b (h1.tipnew n b h2) with h | ⟨k,o',hk,h⟩ | ⟨n',_,h⟩
    ·have:=Q1o (hr.objs j o hj'); omega
    ·intro he
     exact hsubne j hne k o' hk (hr.objinj _ _ _ _ (hlk k o' hk) hj' (h.trans he))
    ·exact hr.tipobj _ b j o h hj'
  ·rcases hX' j o hj with ⟨p,hp,rfl,rfl⟩ | ⟨hne,hj'⟩
   ·simp only; rw[hρin p hp]
    rcases hob1 p hp with h | ⟨k,o',hk,h⟩ | ⟨n',hn',h⟩
    ·have:=hr.tiplt m b h4; omega
    ·rw[← h]; exact hr.tipobj m b _ _ h4 (hlk k o' hk)
    ·intro he
     rw[← he] at h
     exact h3 n' hn' (hr.tipinj _ _ b h h4)
   ·simp only; rw[hρout j hne]; exact hr.tipobj m b j o h4 hj'
 ·intro m b hm
  rcases hβcases m _ hm with ⟨n,hn,_,h2⟩ | ⟨_,h3,h4⟩
  ·rcases horig b (h1.tipnew n b h2) with h | ⟨k,o',hk,h⟩ | ⟨n',_,h⟩
   ·exact .inl (Nat.le_trans hr.base h)
   ·rw[← h]; exact hr.objnew _ _ (hlk k o' hk)
   ·exact hr.tipnew _ b h
  ·exact hr.tipnew m b h4
 ·intro m b hm
  rcases hβcases m _ hm with ⟨n,hn,_,h2⟩ | ⟨_,h3,h4⟩
  ·exact h1.tiplt n b h2
  ·exact Nat.lt_of_lt_of_le (hr.tiplt m b h4) hsz
 ·obtain⟨ob,hob⟩:=Option.isSome_iff_exists.1 hL
  rcases hβcases L ob hob with ⟨n,hn,rfl,_⟩ | ⟨h2,h3,h4⟩
  ·exact .inr (hηin n hn)
  ·exact .inl ⟨by rw[h4]; rfl,hηout L h2⟩
 ·rcases hβcases m _ hm with ⟨n,hn,_,h2⟩ | ⟨_,h3,h4⟩
  ·rcases horig b (h1.tipnew n b h2) with h | ⟨k,o',hk,h⟩ | ⟨n',_,h⟩
   ·exact hr.eta.ltN h L i hL hb
   ·exact hr.eta.obj L i b _ _ hL hb (hlk k o' hk) h.symm
   ·exact hr.eta.tip L i b _ hL hb h
  ·exact hr.eta.tip L i b m hL hb h4
 ·rcases hX' j o hj with ⟨p,hp,rfl,rfl⟩ | ⟨hne,hj'⟩
  ·simp only at hb; rw[hρin p hp] at hb
   rcases hob1 p hp with h | ⟨k,o',hk,h⟩ | ⟨n',_,h⟩
   ·exact hr.eta.ltN h L i hL hb
   ·exact hr.eta.obj L i _ _ _ hL hb (hlk k o' hk) h.symm
   ·exact hr.eta.tip L i _ _ hL hb h
  ·simp only at hb; rw[hρout j hne] at hb
   exact hr.eta.objN hj' L i hL hb
 ·exact RA.remapL (g:={ γ:=g1.γ,β:=β',ρ:=ρ',η:=η' }) (gc:=g1) (ls:=Xc'.live) rfl hρmap hβin hra hdr
theorem Does.useLab {fn:FuncId} {xs:List AV} {res:AV} {Xc Xc' : Store} (hs:Does P fn xs Xc res Xc') {f fl:Nat→Nat} {F:List Nat} (hc:LabCall X Xc Xc' f fl F)
  (hd:Q2h (Xc.objs.map (·.1)) Xc.live xs=true) (hdr:Q1c (Xc'.objs.map (·.1)) Xc'.live res=true) {nm:List Nat} {B:Base} {g:Gh} {w:World}
  (hr:HR nm B g w X) {vs:Array Value} (hl:xs.length=vs.size) (hvs:∀(i:Nat) x v,(mapLs f fl xs)[i]? = some x→vs[i]? = some v→RA g w x v) :
  Calls P fn vs w fun e w'=>∃v g',e = .returned v∧HR nm B g' w' ⟨Qf f fl Xc'.objs X.objs,Qy fl X Xc Xc'⟩∧Trans F g w g' w'∧RA g' w' (mapL f fl res) v :=
 hs.toH.useLab rfl hc hd hdr hr (by simp[GH]) hl hvs
end
end Go.Ab
namespace Go.Ab
open Go.Lib
inductive InObjsL (X:Store) (f fl:Nat→Nat):List (Nat×Ob)→Prop
 | nil:InObjsL X f fl []
 | cons {k:Nat} {o:Ob} {r:List (Nat×Ob)}:X.objs.lookup (f k)=some (Q29 f fl o)→InObjsL X f fl r→InObjsL X f fl ((k,o) :: r)
theorem InObjsL.all {X:Store} {f fl:Nat→Nat} {l:List (Nat×Ob)} (h:InObjsL X f fl l):∀p ∈ l,X.objs.lookup (f p.1)=some (Q29 f fl p.2):=by
 induction h with
 | nil=>simp
 | cons h _ ih =>
  intro p hp
  rcases List.mem_cons.1 hp with rfl | hp
  ·exact h
  ·exact ih p hp
theorem notIn {m:Nat} {l:List Nat} (h:l.contains m=false):m ∉ l:=fun hm=>by
 have:=List.contains_iff_mem.2 hm
 rw[h] at this; cases this
section
variable {P:Program} {o:Oper} {X:Store}
theorem Trans.sub {F F' : List Nat} {g g' : Gh} {w w' : World} (h:Trans F g w g' w') (hs:∀k,k ∈ F→k ∈ F'):Trans F' g w g' w' :=
 ⟨h.le,fun k hk=>h.names k fun hh=>hk (hs k hh),fun n ob hn he=>h.tips n ob (fun hh=>hn (hs n hh)) he,fun L hL he=>h.eta L (fun hh=>hL (hs L hh)) he⟩
theorem Qao {m:Nat} {l:List Nat} (h:m ∉ l):(m :: l).filter (· != m)=l:=by
 simp only[List.filter_cons,bne_self_eq_false,Bool.false_eq_true,if_false]
 exact List.filter_eq_self.2 fun x hx=>by
  have:x≠m:=fun e=>h (by rw[← e]; exact hx)
  simpa using this
theorem Qpy {ts:Array TypeId} {s x:Operand} {sz:Nat} {fs:List (List D)} {t u e e' bytes bytes' sz' : Nat} {ty:Option TypeId} (m:Nat)
  (ho:o.op = .call { callee:=.builtin .append,args:=#[s,x],argTypes:=ts }) (h0:ts[0]? = some t) (h1:ts[1]? = some u) (hu:SliceI P u e' sz' bytes')
  (ht:SliceI P t e sz bytes) (hm:m ∉ X.live) (hX:Qa [m] X=true)
  (hone:∀cs ∈ fs,∀c ∈ cs,oneD c=true) (hbig:fs.length*bytes≤140737488355328) (hlen:fs.length≤4611686018427387904)
  (hty:(ty == none || ty == some e)=true:=by rfl) :
  OpT P o [(s,.d (.sc (.slice none 0 0))),(x,.d (.sl sz fs))] X ⟨X.objs,m :: X.live⟩ [m] (.tip m sz fs ty):=by
 intro nm hsm B g w a hr hrd next Q hn
 have e1:=(rd0 hrd).sc_inv
 have e2:=rd1 hrd
 simp only at e1 e2
 obtain⟨h2,h3⟩:=hr.addTip hm none hX (by simp)
 have hap:=Qi6 (P:=P) (o:=o) (X:=⟨X.objs,m :: X.live⟩) (n:=m) (sz:=sz) (es:=[]) (fs:=fs) (ty:=ty) m ho h0 h1 hu ht List.mem_cons_self
  (by simp only[Qao hm]; exact hm) hX hone (by simpa using hbig) (by simpa using hlen) hty
 refine hap nm hsm B _ w a h2 ?_ next Q ?_
 ·intro p hp
  simp only[List.mem_cons,List.not_mem_nil,or_false] at hp
  rcases hp with rfl | rfl
  ·simp only[e1]
   exact .tip m sz [] ty _ (.nil sz none 0 fun _=>rfl) trivial
  ·exact e2.mono h3 (.d _)
 ·intro g' w' v hr' ht' hra
  simp only[Qao hm] at hr'
  exact hn g' w' v hr' ((h3.trans ht').sub (by simp)) (by simpa using hra)
theorem Qtz {ts:Array TypeId} {t:TypeId} {x:Operand} {e sz bytes:Nat} (ho:o.op = .call { callee:=.builtin .len,args:=#[x],argTypes:=ts })
  (h0:ts[0]? = some t) (ht:SliceI P t e sz bytes):OpT P o [(x,.d (.sc (.slice none 0 0)))] X X [] (.d (.sc (.int .i64 0))):=by
 intro nm hsm B g w a hr hrd
 have e1:=(rd0 hrd).sc_inv
 simp only at e1
 refine Qrb (es:=[]) (sz':=sz) ho h0 ht nm hsm B g w a hr ?_
 intro p hp
 simp only[List.mem_cons,List.not_mem_nil,or_false] at hp
 subst hp
 simp only[e1]
 exact .d _ _ (.nil sz none 0 fun _=>rfl)
theorem Qsk {nm:List Nat} {B:Base} {g:Gh} {w:World} {X:Store} (hr:HR nm B g w X) {k:Nat} {cs:List AV} {T:TypeId} (hk:X.objs.lookup k=some (.cells cs (some T))) :
  ∃c,w.shape? (g.ρ k)=some (T,c)∧cs.length≤c:=by
 cases hr.objs k _ hk with
 | cells _ _ arr T' hb hl hc h4 =>
  have:=h4 T rfl
  subst this
  exact⟨arr.size,by simp[World.shape?,hb],hl⟩
theorem Qov {s d t:TypeId} {i:TypeInfo} {x:Operand} {k off:Nat} {cs:List AV} {T:TypeId} (ho:o.op = .convert s d x) (hk:X.objs.lookup k=some (.cells cs (some T))) (hoff:off < cs.length)
  (hs:P.underlying s=some (.pointer t)) (hd:P.underlying d=some .unsafePointer) (hi:P.info? t=some i) (hsz:i.size≠0):OpT P o [(x,.ptr k off)] X X [] (.ptr k off) :=
 .quiet fun _ _ g w ac hr hrd=>by
  have h1:=(rd0 hrd).ptr_inv
  simp only at h1
  obtain⟨c,hc,hlc⟩:=Qsk hr hk
  refine⟨_,?_,.ptr k off⟩
  simp only[execOp,ho,h1]
  have:=run_to_unsafe (P:=P) w (src:=s) (dst:=d) (a:=⟨g.ρ k,off,none⟩) hs hd hi hsz hc (by simp only; omega)
  simp[this]
theorem Qks {s d:TypeId} {i:TypeInfo} {x:Operand} {k:Nat} {cs:List AV} {T:TypeId} (ho:o.op = .convert s d x) (hk:X.objs.lookup k=some (.cells cs (some T)))
  (hs:P.underlying s=some .unsafePointer) (hd:P.underlying d=some (.pointer T)) (hi:P.info? T=some i) (hsz:P.cellsOf T=cs.length) (hpos:cs.length≠0):OpT P o [(x,.ptr k 0)] X X [] (.ptr k 0) :=
 .quiet fun _ _ g w ac hr hrd=>by
  have h1:=(rd0 hrd).ptr_inv
  simp only at h1
  obtain⟨c,hc,hlc⟩:=Qsk hr hk
  refine⟨_,?_,.ptr k 0⟩
  simp only[execOp,ho,h1]
  have hlies:liesAt P P.depth T (c / P.cellsOf T) 0 T 1=true:=by
   have hd' : P.depth=(2*(P.types.size+Made.depth)+1)+1:=rfl
   have hq:1≤c / cs.length:=(Nat.le_div_iff_mul_le (by omega)).2 (by omega)
   rw[hd']
   simp only[liesAt,Bool.or_eq_true]
   left
   rw[hd']
   simp[rowAt,sameLayout,hsz,hpos]
   exact .inl hq
  have:=run_from_unsafe (P:=P) w (src:=s) (dst:=d) (a:=⟨g.ρ k,0,none⟩) hs hd hi hc hlies
  simp[this]
theorem Qnm {s d t:TypeId} {x:Operand} {k off:Nat} {cs:List AV} {T:TypeId} (ho:o.op = .convert s d x) (hk:X.objs.lookup k=some (.cells cs (some T))) (hoff:off+1≤cs.length)
  (hs:P.underlying s=some (.pointer t)) (hd:P.underlying d=some .unsafePointer) (hi:∃i,P.info? t=some i∧i.size≠0):OpT P o [(x,.ptr k off)] X X [] (.ptr k off):=by
 obtain⟨i,hi,hz⟩:=hi
 exact Qov ho hk hoff hs hd hi hz
theorem Qjk {s d:TypeId} {x:Operand} {k:Nat} {cs:List AV} {T:TypeId} (ho:o.op = .convert s d x) (hk:X.objs.lookup k=some (.cells cs (some T)))
  (hs:P.underlying s=some .unsafePointer) (hd:P.underlying d=some (.pointer T)) (hi:∃i,P.info? T=some i∧i.size≠0) (hsz:P.cellsOf T=cs.length) (hpos:cs.length≠0):OpT P o [(x,.ptr k 0)] X X [] (.ptr k 0):=by
 obtain⟨i,hi,_⟩:=hi
 exact Qks ho hk hs hd hi hsz hpos
def Qq (l:List UInt8):List (List D):=l.map fun b=>[.sc (.int .u8 b.toNat)]
def Q8e (l:List UInt8):List D:=l.map fun b=>.sc (.int .u8 b.toNat)
theorem Q16 (l:List UInt8):(Qq l).length=l.length:=by simp[Qq]
theorem Q38 {l:List UInt8} {i:Nat} {cs:List D} (h:(Qq l)[i]? = some cs):∃b,l[i]? = some b∧cs = [.sc (.int .u8 b.toNat)]:=by
 simp only[Qq,List.getElem?_map,Option.map_eq_some_iff] at h
 obtain⟨b,hb,rfl⟩:=h
 exact⟨b,hb,rfl⟩
theorem Qc3:∀(l:List UInt8) (s:ByteArray),(l.map fun b=>(b.toNat:Int)).foldl (fun r (n:Int)=>r.push (UInt8.ofNat n.toNat)) s=⟨s.data++l.toArray⟩
 | [],s=>by apply ByteArray.ext; simp
 | b :: r,s=>by
  simp only[List.map_cons,List.foldl_cons]
  rw[Qc3 r]
  apply ByteArray.ext
  simp[ByteArray.push]
theorem Qlf {s d e:TypeId} {x:Operand} {l:List UInt8} (ho:o.op = .convert s d x) (hs:P.underlying s=some (.slice e)) (he:P.underlying e=some (.int .u8)) (hd:P.underlying d=some .string) :
  OpT P o [(x,.d (.sl 1 (Qq l)))] X X [] (.d (.sc (.string ⟨l.toArray⟩))) :=
 .quiet fun _ _ g w ac hr hrd=>by
  have h1:=rd0 hrd
  simp only at h1
  refine⟨_,?_,.ofSc _ _ _⟩
  simp only[execOp,ho]
  generalize ac.eval x=v at h1
  cases h1 with
  | d _ _ h1 =>
   obtain⟨base,cap,rfl,_,hb,_,cells,hcl,hrun,hc⟩:=h1.slCells (P:=P) hr.sane
   have hcells:cells=(l.map fun b=>(b.toNat:Int)).map (Value.int .u8):=by
    refine List.ext_getElem? fun i=>?_
    by_cases hi:i < l.length
    ·have h2:i < cells.length:=by rw[hcl,Q16]; omega
     have h3:=hc i 0 [.sc (.int .u8 l[i].toNat)] (.sc (.int .u8 l[i].toNat)) cells[i] (by simp[Qq,hi]) rfl (by simp[h2])
     have h4:cells[i] = Value.int .u8 l[i].toNat:=RA.sc_inv (g:=g) (w:=w) (.d _ _ h3)
     simp[h2,h4,hi]
    ·have h2 : ¬i < cells.length:=by rw[hcl,Q16]; omega
     simp[Nat.le_of_not_lt hi,Nat.le_of_not_lt h2]
   have hcv:=run_convert_bytes_string w s d e base (Qq l).length cap hs he hd
   rw[Sem.run_bind,hcv]
   cases base with
   | none =>
    have hl0:l = []:=by
     have:cap=0:=hb rfl
     rename_i hle _ _ _
     have:=Q16 l
     exact List.length_eq_zero_iff.1 (by omega)
    subst hl0
    rfl
   | some a =>
    have hl:=hrun w fun _ _ _=>rfl
    have hfc:(Builtin.firstCells 1 (Qq l).length (.slice (some a) (Qq l).length cap))=loadCells a ((Qq l).length*1):=rfl
    rw[hfc,Nat.mul_one] at hl
    rw[run_bytesToString w a _ cap (l.map fun b=>(b.toNat:Int)) (by rw[hl,hcells]),Qc3]
    simp
theorem Qoe {ts:Array TypeId} {x:Operand} {n e:Nat} {l:List UInt8} (ho:o.op = .call { callee:=.builtin .unsafeSliceData,args:=#[x],argTypes:=ts }) (hl:l≠[]) :
  OpT P o [(x,.tip n 1 (Qq l) (some e))] X X [] (.tpt n e (Q8e l)) :=
 .quiet fun _ _ g w ac hr hrd=>by
  have h1:=rd0 hrd
  simp only at h1
  simp only[execOp,ho,resolve]
  generalize hv:ac.eval x=v at h1
  have hlen:0 < l.length:=List.length_pos_iff.2 hl
  cases h1 with
  | tip _ _ _ _ _ h1 h2 =>
   have hes:Qq l≠[]:=by simpa[Qq] using hl
   generalize hE:Qq l=E at h1 hes
   cases h1 with
   | nil=>exact absurd rfl hes
   | sl _ _ b off len cap hlen' hγ hcap hsz hc =>
    have hcap0:cap≠0:=by have:=Q16 l; rw[hE] at this; omega
    refine⟨.pointer (some ⟨b,off,none⟩),?_,?_⟩
    ·simp[hv,invoke,builtin,run_unsafeSliceData_row w _ _ _ _ _ hcap0]
    ·refine .tpt n e _ _ (.ep _ b off (by have:=Q16 l; rw[hE] at this; simp[Q8e]; omega) ?_) ?_
     ·intro j c v hj hv'
      simp only[Q8e,List.getElem?_map,Option.map_eq_some_iff] at hj
      obtain⟨u,hu,rfl⟩:=hj
      have hEj:E[j]? = some [.sc (.int .u8 u.toNat)]:=by rw[← hE]; simp[Qq,hu]
      exact hc j _ 0 _ v hEj rfl (by simpa using hv')
     ·refine⟨rfl,fun ob hob=>?_⟩
      obtain⟨_,h3,_,_,h4⟩:=h2 ob hob
      obtain⟨h5,h6⟩:=h4 e rfl
      exact⟨h3,h5,h6⟩
theorem Qie {ts:Array TypeId} {x:Operand} (ho:o.op = .call { callee:=.builtin .unsafeSliceData,args:=#[x],argTypes:=ts }) :
  OpT P o [(x,.d (.sc (.slice none 0 0)))] X X [] (.d (.sc (.pointer none))) :=
 .quiet fun _ _ g w ac hr hrd=>by
  have h1:=(rd0 hrd).sc_inv
  simp only at h1
  refine⟨.pointer none,?_,.ofSc _ _ _⟩
  simp[execOp,ho,resolve,h1,invoke,builtin,run_unsafeSliceData_nil]
theorem Qnr {x y:Operand} {pt it:TypeId} (ho:o.op = .call { callee:=.builtin .unsafeString,args:=#[x,y],argTypes:=#[pt,it] }) :
  OpT P o [(x,.d (.sc (.pointer none))),(y,.d (.sc (.int .i64 0)))] X X [] (.d (.sc (.string .empty))) :=
 .quiet fun _ _ g w ac hr hrd=>by
  have h1:=(rd0 hrd).sc_inv
  have h2:=(rd1 hrd).sc_inv
  simp only at h1 h2
  refine⟨.string .empty,?_,.ofSc _ _ _⟩
  simp[execOp,ho,resolve,h1,h2,invoke,builtin,run_unsafeString_none]
theorem Qw5 {x y:Operand} {pt it e n:Nat} {l:List UInt8} (ho:o.op = .call { callee:=.builtin .unsafeString,args:=#[x,y],argTypes:=#[pt,it] }) (hn:n ∈ X.live) (hl:l≠[])
  (hp:P.underlying pt=some (.pointer e)) (hc:P.cellsOf e=1) (hlen:l.length≤9223372036854775807) :
  OpT P o [(x,.tpt n e (Q8e l)),(y,.d (.sc (.int .i64 l.length)))] X ⟨X.objs,X.live.filter (· != n)⟩ [] (.d (.sc (.string ⟨l.toArray⟩))):=by
 intro nm hsm B g w a hr hrd next Q hnext
 have h1:=rd0 hrd
 have h2:=(rd1 hrd).sc_inv
 simp only at h1 h2
 obtain⟨ob,hob⟩:=Option.isSome_iff_exists.1 ((hr.live n).1 hn)
 generalize hv:a.eval x=v at h1
 cases h1 with
 | tpt _ _ _ _ h1 h3 =>
 cases h1 with
 | ep _ b off hγ hcs =>
 obtain⟨_,h4⟩:=h3
 obtain⟨rfl,h5,c,h6⟩:=h4 ob hob
 simp only at h5 h6
 subst h5
 have hcell:∀j u,l[j]? = some u→w.cell? ((⟨b,0,none⟩:Addr).add j)=some (.int .u8 u.toNat):=by
  intro j u hu
  rw[addr_add]
  have hjl:j < l.length:=(List.getElem?_eq_some_iff.1 hu).1
  have hs:(w.cell? ⟨b,0+j,none⟩).isSome:=hr.sane b (0+j) (by simp[Q8e] at hγ; omega)
  obtain⟨v,hv⟩:=Option.isSome_iff_exists.1 hs
  have:=hcs j (.sc (.int .u8 u.toNat)) v (by simp[Q8e,hu]) hv
  cases this
  exact hv
 have hsize:l.length≤c:=by
  rcases Nat.eq_zero_or_pos l.length with h | h
  ·omega
  ·have hs:=hr.sane b (l.length - 1) (by simp[Q8e] at hγ; omega)
   obtain⟨v,hv⟩:=Option.isSome_iff_exists.1 hs
   unfold World.shape? at h6
   unfold World.cell? at hv
   simp only at hv
   split at hv
   ·rename_i arr T fr hh
    simp only[hh,Option.some.injEq,Prod.mk.injEq] at h6
    simp at hv
    have:=(Array.getElem?_eq_some_iff.1 hv).1
    omega
   ·cases hv
 have hrun:=run_unsafeString_row (P:=P) w pt it o.type e hp hc b c h6 l hl hsize hlen hcell
 obtain⟨hr1,ht1⟩:=hr.dropTip n
 have hfz:∀b',b'≠b→(w.freeze ⟨b,0,none⟩ l.length).heap[b']? = w.heap[b']?:=by
  intro b' hb'
  unfold World.freeze
  split
  ·rfl
  ·simp only[Array.getElem?_modify]
   rw[if_neg (by simpa using hb'.symm)]
 have hfc:∀i,(w.freeze ⟨b,0,none⟩ l.length).cell? ⟨b,i,none⟩=w.cell? ⟨b,i,none⟩:=by
  intro i
  unfold World.freeze
  split
  ·rfl
  ·simp only[World.cell?,Array.getElem?_modify,if_true]
   cases w.heap[b]? with
   | none=>rfl
   | some o=>cases o <;> rfl
 obtain⟨hr2,ht2⟩:=hr1.raise (w':=w.freeze ⟨b,0,none⟩ l.length) (b:=b) (n:=g.γ b) (hr.tiplt n b hob) (hr.tipnew n b hob) (fun k p hk=>hr.tipobj n b k p hob hk) (by
   intro n' hn'
   by_cases he:n' = n
   ·subst he; simp[upd_same] at hn'
   ·simp only[Q6 _ _ he] at hn'; exact he (hr.tipinj n' n b hn' hob))
  (hr.eta.dropN hob) (by unfold World.freeze; split <;> simp) (by unfold World.freeze; split <;> exact⟨rfl,rfl,rfl,Nat.le_refl _⟩) hfz (fun i _=>hfc i) (Nat.le_refl _) (fun i hi=>by rw[hfc]; exact hr.sane b i hi) (by
   intro s hs0
   unfold World.freeze
   split
   ·exact hs0
   ·simp only[World.shape?,Array.getElem?_modify,if_true] at hs0 ⊢
    cases hh:w.heap[b]? with
    | none=>rw[hh] at hs0; exact hs0
    | some o=>rw[hh] at hs0; cases o <;> exact hs0)
 unfold Oper.wp
 have:(execOp a.eval o).run P w = .ok (.value (.string ⟨l.toArray⟩)) (w.freeze ⟨b,0,none⟩ l.length):=by
  simp[execOp,ho,resolve,hv,h2,invoke,builtin,hrun]
 rw[this]
 exact hnext _ _ _ hr2 (ht1.trans ht2) (.ofSc _ _ _)
end
end Go.Ab
namespace Go.Ab
abbrev D.bs (l:List UInt8):D:=.sc (.string ⟨l.toArray⟩)
theorem Q6e (l:List UInt8):(⟨l.toArray⟩:ByteArray).size=l.length:=by simp[ByteArray.size]
theorem Qcp (l:List UInt8) (a b:Nat):(⟨l.toArray⟩:ByteArray).extract a b=⟨((l.drop a).take (b - a)).toArray⟩:=by
 apply ByteArray.ext
 simp[ByteArray.data_extract,List.extract_toArray]
theorem Qx2 (a b:List UInt8):(⟨a.toArray⟩:ByteArray)++⟨b.toArray⟩=⟨(a++b).toArray⟩:=by
 apply ByteArray.ext
 simp
section
variable {P:Program} {o:Oper} {X:Store}
theorem Qyj {ts:Array TypeId} {t:TypeId} {x:Operand} {l:List UInt8} (ho:o.op = .call { callee:=.builtin .len,args:=#[x],argTypes:=ts })
  (h0:ts[0]? = some t) (ht:P.underlying t=some .string):OpT P o [(x,.d (.bs l))] X X [] (.d (.int .i64 l.length)):=by
 have:=Qub (P:=P) (X:=X) (s:=⟨l.toArray⟩) ho h0 ht
 rw[Q6e] at this
 exact this
theorem Qus {t:TypeId} {x y:Operand} {l:List UInt8} {k:IntKind} {i:Int} (ho:o.op = .index t x y) (ht:P.underlying t=some .string) (h0:0≤i) (h1:i < l.length) :
  OpT P o [(x,.d (.bs l)),(y,.d (.int k i))] X X [] (.d (.int .u8 ((l.getD i.toNat 0).toNat:Int))) :=
 Qp5 (s:=⟨l.toArray⟩) ho ht h0 (by rw[Q6e]; exact h1)
theorem Qtd {t:TypeId} {x lo hi:Operand} {s:List UInt8} {k k' : IntKind} {l h:Int} (ho:o.op = .slice t x (some lo) (some hi) none) (ht:P.underlying t=some .string)
  (h0:0≤l) (h1:l≤h) (h2:h≤s.length) :
  OpT P o [(x,.d (.bs s)),(lo,.d (.int k l)),(hi,.d (.int k' h))] X X [] (.d (.bs ((s.drop l.toNat).take (h.toNat - l.toNat)))):=by
 have:=Qpb (P:=P) (X:=X) (s:=⟨s.toArray⟩) (k:=k) (k':=k') ho ht h0 h1 (by rw[Q6e]; exact h2)
 rw[Qcp] at this
 exact this
theorem Qnl {t:TypeId} {x lo:Operand} {s:List UInt8} {k:IntKind} {l:Int} (ho:o.op = .slice t x (some lo) none none) (ht:P.underlying t=some .string)
  (h0:0≤l) (h1:l≤s.length) :
  OpT P o [(x,.d (.bs s)),(lo,.d (.int k l))] X X [] (.d (.bs (s.drop l.toNat))):=by
 have:=Qjb (P:=P) (X:=X) (s:=⟨s.toArray⟩) (k:=k) ho ht h0 (by rw[Q6e]; exact h1)
 rw[Qcp,Q6e,List.take_of_length_le (by simp)] at this
 exact this
theorem Qnj {t:TypeId} {x hi:Operand} {s:List UInt8} {k:IntKind} {h:Int} (ho:o.op = .slice t x none (some hi) none) (ht:P.underlying t=some .string)
  (h0:0≤h) (h1:h≤s.length) :
  OpT P o [(x,.d (.bs s)),(hi,.d (.int k h))] X X [] (.d (.bs (s.take h.toNat))):=by
 have:=Qju (P:=P) (X:=X) (s:=⟨s.toArray⟩) (k:=k) ho ht h0 (by rw[Q6e]; exact h1)
 rw[Qcp] at this
 simpa using this
theorem Qxq {t t' : TypeId} {x y:Operand} {a b:List UInt8} (ho:o.op = .binOp .add t x y t') (h:a.length+b.length≤4611686018427387904) :
  OpT P o [(x,.d (.bs a)),(y,.d (.bs b))] X X [] (.d (.bs (a++b))):=by
 have:=Qtm (P:=P) (X:=X) (a:=⟨a.toArray⟩) (b:=⟨b.toArray⟩) ho (by rw[Q6e,Q6e]; exact h)
 rw[Qx2] at this
 exact this
theorem Qjz {b c:UInt8}:((b.toNat:Nat):Int)=((c.toNat:Nat):Int)↔b=c:=by
 constructor
 ·intro h; exact UInt8.toNat_inj.1 (by omega)
 ·intro h; rw[h]
end
end Go.Ab
namespace Go.Ab
section
variable {P:Program} {o:Oper} {X:Store}
theorem Qk8 {ts:Array TypeId} {t:TypeId} {x:Operand} {k off len sz:Nat} {e:TypeId} (ho:o.op = .call { callee:=.builtin .len,args:=#[x],argTypes:=ts })
  (h0:ts[0]? = some t) (ht:P.underlying t=some (.slice e)):OpT P o [(x,.osl k off len sz)] X X [] (.d (.sc (.int .i64 len))) :=
 .quiet fun _ _ g w ac _ hrd=>by
  have h1:=rd0 hrd
  simp only at h1
  obtain⟨cap,q,_,hv,_⟩:=h1.osl_inv
  refine⟨_,?_,.ofSc _ _ _⟩
  simp only[execOp,ho,resolve]
  simp[hv,invoke,builtin,h0,run_underlying ht,Builtin.len_,goInt]
theorem Q9t {t e:TypeId} {x y:Operand} {k off len sz bytes:Nat} {j:IntKind} {i:Int} (ho:o.op = .indexAddr t x y)
  (ht:SliceI P t e sz bytes) (h0:0≤i) (h1:i < len) :
  OpT P o [(x,.osl k off len sz),(y,.d (.sc (.int j i)))] X X [] (.ptr k (off+i.toNat*sz)) :=
 .quiet fun _ _ g w ac _ hrd=>by
  have e1:=rd0 hrd
  have e2:=(rd1 hrd).sc_inv
  simp only at e1 e2
  obtain⟨cap,q,hcap,hv,hq,_⟩:=e1.osl_inv
  have hqo:q=off:=by
   rcases hq with h | h
   ·omega
   ·exact h
  subst hqo
  obtain⟨hu,info,z,hi,hsz,hb,hz,hzs⟩:=ht
  refine⟨.pointer (some ⟨g.ρ k,q+i.toNat*sz,none⟩),?_,.ptr _ _⟩
  have hsize:(sizeOf e).run P w = .ok sz w:=by rw[run_sizeOf hi,hsz]
  simp only[execOp,ho,hv,e2]
  have hlt:i < (len:Int):=h1
  simp[Instr.indexAt,asIntOf,run_underlying hu,h0,hlt,hsize,addr_add]
theorem Qen {t e:TypeId} {x:Operand} {lo hi:Option Operand} {k off len sz:Nat} {l h:Int} {rd:List (Operand×AV)} {i:TypeInfo} (ho:o.op = .slice t x lo hi none) (ht:P.underlying t=some (.slice e))
  (hi' : P.info? e=some i) (hsz:i.size=sz) (h0:0≤l) (h1:l≤h) (h2:h≤(len:Int))
  (hlo:match lo with | some y=>∃j,(y,AV.d (.int j l)) ∈ rd | none=>l=0) (hhi:match hi with | some y=>∃j,(y,AV.d (.int j h)) ∈ rd | none=>h=(len:Int)) :
  OpT P o ((x,.osl k off len sz) :: rd) X X [] (.osl k (off+l.toNat*sz) (h.toNat - l.toNat) sz) :=
 .quiet fun _ _ g w ac _ hrd=>by
  have h3:=hrd (x,.osl k off len sz) List.mem_cons_self
  simp only at h3
  obtain⟨cap,q,hcap,hx,hq,T,c,hsh,hc⟩:=h3.osl_inv
  have key:RA g w (.osl k (off+l.toNat*sz) (h.toNat - l.toNat) sz) (.slice (if cap=l.toNat then some ⟨g.ρ k,q,none⟩ else (some ⟨g.ρ k,q,none⟩:Option Addr).map (·.add (l.toNat*sz))) (h.toNat - l.toNat) (cap - l.toNat)):=by
   refine .nm _ _ _ ?_
   by_cases hz:cap=l.toNat
   ·rw[if_pos hz]
    refine⟨cap - l.toNat,q,by omega,rfl,.inl (by omega),T,c,hsh,?_⟩
    rw[hz,Nat.sub_self,Nat.zero_mul]; omega
   ·rw[if_neg hz]
    have hqo:q=off:=by
     rcases hq with h | h
     ·omega
     ·exact h
    subst hqo
    refine⟨cap - l.toNat,q+l.toNat*sz,by omega,by simp[addr_add],.inr rfl,T,c,hsh,?_⟩
    have:l.toNat*sz+(cap - l.toNat)*sz=cap*sz:=by rw[← Nat.add_mul]; congr 1; omega
    omega
  refine⟨_,?_,key⟩
  have hsa:∀lo hi,(Instr.sliceAt t (.slice (some ⟨g.ρ k,q,none⟩) len cap) lo hi none).run P w=(Instr.slice t (.slice (some ⟨g.ρ k,q,none⟩) len cap) lo hi none).run P w:=by
   intro lo hi
   simp[Instr.sliceAt,run_underlying ht]
  simp only[execOp,ho,hx]
  have eh:∀y,hi=some y→∃j,ac.eval y = .int j h:=by
   intro y hy
   subst hy
   obtain⟨j,hj⟩:=hhi
   exact⟨j,(hrd _ (List.mem_cons_of_mem _ hj)).sc_inv⟩
  have el:∀y,lo=some y→∃j,ac.eval y = .int j l:=by
   intro y hy
   subst hy
   obtain⟨j,hj⟩:=hlo
   exact⟨j,(hrd _ (List.mem_cons_of_mem _ hj)).sc_inv⟩
  have bh:∀(y:Nat) (c:BoundsCode) (k:IntKind),h≤(y:Int)→(Instr.sliceBound (.int k h) y c).run P w = .ok h.toNat w:=by
   intro y c k hy
   simp[Instr.sliceBound,asIntOf,show 0≤h by omega,hy]
  have bl:∀(y:Nat) (c:BoundsCode) (k:IntKind),l≤(y:Int)→(Instr.sliceBound (.int k l) y c).run P w = .ok l.toNat w:=by
   intro y c k hy
   simp[Instr.sliceBound,asIntOf,h0,hy]
  have hsize:(sizeOf e).run P w = .ok sz w:=by rw[run_sizeOf hi',hsz]
  cases hi with
  | none =>
   simp only at hhi
   subst hhi
   have e5:((len:Nat):Int).toNat=len:=by omega
   cases lo with
   | none =>
    simp only at hlo
    subst hlo
    simp[hsa,Instr.slice,Instr.sliceBounds,run_underlying ht,hsize]
   | some y =>
    obtain⟨j,hj⟩:=el y rfl
    have b1:=bl len .sliceB j (by omega)
    simp[hsa,Instr.slice,Instr.sliceBounds,run_underlying ht,hsize,hj,b1]
  | some y' =>
   obtain⟨j',hj'⟩:=eh y' rfl
   have b2:=bh cap .sliceAcap j' (by omega)
   cases lo with
   | none =>
    simp only at hlo
    subst hlo
    simp[hsa,Instr.slice,Instr.sliceBounds,run_underlying ht,hsize,hj',b2]
   | some y =>
    obtain⟨j,hj⟩:=el y rfl
    have b1:=bl h.toNat .sliceB j (by omega)
    simp[hsa,Instr.slice,Instr.sliceBounds,run_underlying ht,hsize,hj,hj',b1,b2]
end
end Go.Ab
namespace Go.Ab
theorem Q1h {sz:Nat}:∀(fs:List (List D)),(∀(i:Nat) cs,fs[i]? = some cs→cs.length=sz)→fs.flatten.length=fs.length*sz
 | [],_=>by simp
 | c :: r,h=>by
  have h0:=h 0 c rfl
  have:=Q1h r fun i cs hi=>h (i+1) cs (by simpa using hi)
  simp only[List.flatten_cons,List.length_append,List.length_cons,this,h0,Nat.succ_mul]
  omega
theorem flat_get {sz:Nat}:∀(fs:List (List D)),(∀(i:Nat) cs,fs[i]? = some cs→cs.length=sz)→∀(k:Nat) c,fs.flatten[k]? = some c→∃p q cs,k=p*sz+q∧fs[p]? = some cs∧cs[q]? = some c
 | [],_,k,c,hk=>by simp at hk
 | a :: r,h,k,c,hk=>by
  have h0:=h 0 a rfl
  simp only[List.flatten_cons,List.getElem?_append] at hk
  split at hk
  ·exact⟨0,k,a,by omega,rfl,hk⟩
  ·rename_i hge
   obtain⟨p,q,cs,h1,h2,h3⟩:=flat_get r (fun i cs hi=>h (i+1) cs (by simpa using hi)) _ c hk
   refine⟨p+1,q,cs,?_,by simpa using h2,h3⟩
   rw[Nat.succ_mul]; omega
def dropObj (k:Nat) (X:Store):Store:=⟨X.objs.filter (fun p=>p.1 != k),X.live⟩
theorem Q1g {l:List (Nat×Ob)} {k j:Nat}:(l.filter (fun p=>p.1 != k)).lookup j=if j=k then none else l.lookup j:=by
 induction l with
 | nil=>simp
 | cons p r ih =>
  obtain⟨i,o⟩:=p
  simp only[List.filter_cons]
  by_cases hik:i=k
  ·subst hik
   simp only[bne_self_eq_false,Bool.false_eq_true,if_false,ih]
   by_cases hj:j=i
   ·simp[hj]
   ·have:(j == i)=false:=by simpa using hj
    simp[hj,List.lookup_cons,this]
  ·have h1:(i != k)=true:=by simpa using hik
   simp only[h1,if_true,List.lookup_cons,ih]
   by_cases hj:j=i
   ·subst hj; simp[hik]
   ·have:(j == i)=false:=by simpa using hj
    simp[this]
theorem HR.dropObj {nm:List Nat} {B:Base} {g:Gh} {w:World} {X:Store} (h:HR nm B g w X) {k:Nat} (hk:k ∉ nm):HR nm B g w (Ab.dropObj k X):=by
 have hl:∀j o,(Ab.dropObj k X).objs.lookup j=some o→j≠k∧X.objs.lookup j=some o:=by
  intro j o hj
  simp only[Ab.dropObj,Q1g] at hj
  split at hj
  ·cases hj
  ·exact⟨‹_›,hj⟩
 refine⟨?_,h.sane,h.base,h.io,h.le,h.frame,?_,?_,?_,?_,h.live,h.tipinj,?_,h.tipnew,h.tiplt,h.eta.same (Nat.le_refl _) fun j o hj=>⟨o,(hl j o hj).2⟩⟩
 ·intro j hj
  refine⟨(h.keep j hj).1,?_⟩
  have hne:j≠k:=fun e=>hk (e▸hj)
  simp only[Ab.dropObj,Q1g,if_neg hne]
  exact(h.keep j hj).2
 ·intro j o hj; exact h.objs j o (hl j o hj).2
 ·intro j o hj; exact h.objγ j o (hl j o hj).2
 ·intro j j' o o' hj hj' he; exact h.objinj j j' o o' (hl j o hj).2 (hl j' o' hj').2 he
 ·intro j o hj; exact h.objnew j o (hl j o hj).2
 ·intro n b j o hn hj; exact h.tipobj n b j o hn (hl j o hj).2
theorem HR.renameObj {nm:List Nat} {B:Base} {g:Gh} {w:World} {X:Store} (h:HR nm B g w X) {k m:Nat} {o:Ob} (hk:k ∉ nm) (hmn:m ∉ nm) (hX:Qa [m] X=true) (ho:X.objs.lookup k=some o) (hm:m≠k) :
  HR nm B { g with ρ:=upd g.ρ m (g.ρ k) } w ⟨(m,o) :: (Ab.dropObj m (Ab.dropObj k X)).objs,X.live⟩∧Trans [m] g w { g with ρ:=upd g.ρ m (g.ρ k) } w:=by
 have ht:Trans [m] g w { g with ρ:=upd g.ρ m (g.ρ k) } w:=⟨.refl _ _,fun j hj=>Q6 _ _ (by simpa using hj),fun n ob hn he=>⟨he,fun _ _=>⟨rfl,rfl⟩⟩,fun _ _ _=>⟨rfl,fun _ _ _=>⟨rfl,rfl⟩⟩⟩
 have hl:∀j p,List.lookup j ((m,o) :: (Ab.dropObj m (Ab.dropObj k X)).objs)=some p→(j=m∧p=o)∨(j≠m∧j≠k∧X.objs.lookup j=some p):=by
  intro j p hj
  rw[List.lookup_cons] at hj
  by_cases he:j=m
  ·subst he; simp at hj; exact .inl ⟨rfl,hj.symm⟩
  ·have:(j == m)=false:=by simpa using he
   rw[this] at hj
   simp only[Ab.dropObj,Q1g,if_neg he] at hj
   split at hj
   ·cases hj
   ·exact .inr ⟨he,‹_›,hj⟩
 have hρm:({ g with ρ:=upd g.ρ m (g.ρ k) }:Gh).ρ m=g.ρ k:=upd_same _ _ _
 have hρo:∀j,j≠m→({ g with ρ:=upd g.ρ m (g.ρ k) }:Gh).ρ j=g.ρ j:=fun j hj=>Q6 _ _ hj
 refine⟨⟨?_,h.sane,h.base,h.io,h.le,h.frame,?_,?_,?_,?_,h.live,h.tipinj,?_,h.tipnew,h.tiplt,h.eta.step (fun L hL=>.inl ⟨hL,rfl⟩) (Nat.le_refl _) (fun n b hb=>.inl ⟨n,hb⟩) fun j p hj=>?_⟩,ht⟩
 rotate_right
 ·rcases hl j p hj with ⟨rfl,rfl⟩ | ⟨h1,h2,h3⟩
  ·exact .inl ⟨k,_,ho,hρm⟩
  ·exact .inl ⟨j,p,h3,hρo j h1⟩
 ·intro j hj
  have h1:j≠k:=fun e=>hk (e▸hj)
  have h2:j≠m:=fun e=>hmn (e▸hj)
  refine⟨by rw[hρo j h2]; exact(h.keep j hj).1,?_⟩
  rw[List.lookup_cons]
  have:(j == m)=false:=by simpa using h2
  rw[this]
  simp only[Ab.dropObj,Q1g,if_neg h1,if_neg h2]
  exact(h.keep j hj).2
 ·intro j p hj
  rcases hl j p hj with ⟨rfl,rfl⟩ | ⟨h1,h2,h3⟩
  ·rw[hρm]
   exact(h.objs k _ ho).keep ht rfl (Q2u hX ho)
  ·rw[hρo j h1]
   exact(h.objs j p h3).keep ht rfl (Q2u hX h3)
 ·intro j p hj
  rcases hl j p hj with ⟨rfl,rfl⟩ | ⟨h1,h2,h3⟩
  ·rw[hρm]; exact h.objγ k _ ho
  ·rw[hρo j h1]; exact h.objγ j p h3
 ·intro j j' p p' hj hj' he
  rcases hl j p hj with ⟨rfl,rfl⟩ | ⟨h1,h2,h3⟩ <;> rcases hl j' p' hj' with ⟨rfl,rfl⟩ | ⟨h1',h2',h3'⟩
  ·rfl
  ·rw[hρm,hρo j' h1'] at he
   exact absurd (h.objinj k j' _ _ ho h3' he).symm h2'
  ·rw[hρm,hρo j h1] at he
   exact absurd (h.objinj j k _ _ h3 ho he) h2
  ·rw[hρo j h1,hρo j' h1'] at he
   exact h.objinj j j' _ _ h3 h3' he
 ·intro j p hj
  rcases hl j p hj with ⟨rfl,rfl⟩ | ⟨h1,h2,h3⟩
  ·rw[hρm]; exact h.objnew k _ ho
  ·rw[hρo j h1]; exact h.objnew j p h3
 ·intro n b j p hn hj
  rcases hl j p hj with ⟨rfl,rfl⟩ | ⟨h1,h2,h3⟩
  ·rw[hρm]; exact h.tipobj n b k _ hn ho
  ·rw[hρo j h1]; exact h.tipobj n b j p hn h3
section
variable {P:Program} {o:Oper} {X:Store}
theorem Qn7 {ts:Array TypeId} {s x:Operand} {k len sz:Nat} {cs:List AV} {cty:Option TypeId} {fs:List (List D)} {t u e e' bytes bytes' sz' : Nat} (m:Nat)
  (ho:o.op = .call { callee:=.builtin .append,args:=#[s,x],argTypes:=ts }) (h0:ts[0]? = some t) (h1:ts[1]? = some u) (hu:SliceI P u e' sz' bytes')
  (ht:SliceI P t e sz bytes) (hk:X.objs.lookup k=some (.cells cs none)) (hcs:cs.length=len*sz) (h1k:1000≤k) (h1m:1000≤m) (hmk:m≠k) (hX:Qa [m] X=true) (hone0:cs.all oneC=true)
  (hone:∀c ∈ fs,∀d ∈ c,oneD d=true) (hbig:(len+fs.length)*bytes≤140737488355328) (hlen:len+fs.length≤4611686018427387904) :
  OpT P o [(s,.osl k 0 len sz),(x,.d (.sl sz fs))] X ⟨(m,.cells (cs++fs.flatten.map .d) none) :: (dropObj m (dropObj k X)).objs,X.live⟩ [m] (.osl m 0 (len+fs.length) sz):=by
 obtain⟨htt,i,z,hi,hsz,hbt,hz,hzs⟩:=ht
 intro nm hsm B g w a hr hrd next Q hnext
 have hkn:k ∉ nm:=fun hh=>by have:=hsm k hh; omega
 have hmn:m ∉ nm:=fun hh=>by have:=hsm m hh; omega
 have e1:=rd0 hrd
 have e2:=rd1 hrd
 simp only at e1 e2
 unfold Oper.wp
 have hrun:∀r,(Builtin.append_ ts o.type #[a.eval s,a.eval x]).run P w=r→(execOp a.eval o).run P w=r.andThen fun v w'=>.ok (.value v) w':=by
  intro r hr'
  simp only[execOp,ho,resolve]
  simp[invoke,builtin,hr']
 obtain⟨cap,q,hcap,hv,hq,T,c,hsh,hc⟩:=e1.osl_inv
 rw[hv] at hrun
 generalize a.eval x=vx at e2 hrun
 cases e2 with
 | d _ _ e2 =>
 obtain⟨xb,xc,rfl,hxcap,_,hszF,news,hnl,hnrun,hnc⟩:=e2.slCells (P:=P) hr.sane
 have hone' : ∀v ∈ news,v.oneCell' = true:=by
  intro v hv
  obtain⟨j,hj⟩:=List.mem_iff_getElem?.1 hv
  have hjlt:j < fs.length*sz:=by have:=(List.getElem?_eq_some_iff.1 hj).1; omega
  obtain⟨p,q,ds,d,rfl,hp,hq⟩:=Qaq hszF hjlt
  exact Qcw (hnc p q ds d v hp hq hj) (hone ds (List.mem_of_getElem? hp) d (List.mem_of_getElem? hq))
 have hflat:=Q1h fs hszF
 -- the new cells
 have hnew:∀(j:Nat) (y:AV) v,((fs.flatten.map AV.d))[j]? = some y→news[j]? = some v→RA g w y v:=by
  intro j y v hy hv
  rw[List.getElem?_map,Option.map_eq_some_iff] at hy
  obtain⟨d,hd,rfl⟩:=hy
  obtain⟨p,q,ds,rfl,hp,hq⟩:=flat_get fs hszF j d hd
  exact .d _ _ (hnc p q ds d v hp hq hv)
 cases hr.objs k _ hk with
 | cells _ _ arr T' hblk hl hcc hty =>
 have hshape:w.shape? (g.ρ k)=some (T',arr.size):=by simp[World.shape?,hblk]
 rw[hshape] at hsh
 simp only[Option.some.injEq,Prod.mk.injEq] at hsh
 obtain⟨rfl,rfl⟩:=hsh
 have hmul:(len+fs.length)*sz=len*sz+fs.length*sz:=Nat.add_mul _ _ _
 by_cases hneed:len+fs.length≤cap
 ·-- in place
  have hle:(len+fs.length)*sz≤cap*sz:=Nat.mul_le_mul_right sz hneed
  by_cases hz0:fs.length=0∧q≠0
  ·-- a slice without room at another place: nothing is written
   obtain⟨hf0,hq0⟩:=hz0
   have hf:fs = []:=List.length_eq_zero_iff.1 hf0
   subst hf
   have hn0:news = []:=by simpa using hnl
   subst hn0
   have hrn:=run_append_fits' (P:=P) (w:=w) (w':=w) (ty:=o.type) h0 h1 hu.und htt hi (base:=some ⟨g.ρ k,q,none⟩) (by rw[hsz]; exact hnrun w fun _ _ _=>rfl) hneed (.inr ⟨_,rfl,rfl⟩)
   obtain⟨hr2,ht2⟩:=hr.renameObj hkn hmn hX hk hmk
   rw[hrun _ hrn]
   simp only[List.flatten_nil,List.map_nil,List.append_nil,List.length_nil,Nat.add_zero] at *
   refine hnext _ w _ hr2 ht2 (.nm _ _ _ ?_)
   simp only[upd_same]
   exact⟨cap,q,hcap,rfl,hq,T',arr.size,hshape,hc⟩
  ·have hqz:q=0:=by
    rcases hq with h | h
    ·have:fs.length=0:=by omega
     by_cases hq:q=0
     ·exact hq
     ·exact absurd ⟨this,hq⟩ hz0
    ·exact h
   subst hqz
   obtain⟨w',arr',hst,hb',hs',hp',hz',hoth,hi'⟩:=Q3n (P:=P) (off:=0+len*i.size) news 0 w arr hblk hone' (by rw[hsz]; omega) (by
    intro j h3 h4; simp[World.frozen?,hblk])
   have hrn:=run_append_fits' (P:=P) (w:=w) (w':=w') (ty:=o.type) h0 h1 hu.und htt hi (base:=some ⟨g.ρ k,0,none⟩) (by rw[hsz]; exact hnrun w fun _ _ _=>rfl) hneed (.inr ⟨_,rfl,by rw[addr_add]; exact hst⟩)
   simp only[Nat.add_zero,Nat.zero_add,hsz] at hp'
   obtain⟨hr1,ht1⟩:=hr.write hk (o':=.cells (cs++fs.flatten.map .d) none) hz' hi' hoth (by
    intro ht'
    refine .cells _ none arr' T' hb' (by simp only[List.length_append,List.length_map,hflat,hs']; omega) ?_ (by simp)
    intro j y v hy hv
    rw[hp' j] at hv
    rw[List.getElem?_append] at hy
    split at hy
    ·rename_i hlt
     rw[if_neg (by omega)] at hv
     exact(hcc j y v hy hv).mono ht' (.nil _)
    ·rename_i hge
     have hjl:j - cs.length < fs.flatten.length:=by
      have:=(List.getElem?_eq_some_iff.1 hy).1; rw[List.length_map] at this; exact this
     rw[if_pos (by omega),← hcs] at hv
     exact(hnew _ y v hy hv).mono ht' (.nil _)) (by
    intro s hs0
    rw[hshape] at hs0
    simp only[World.shape?,hb',hs']
    exact hs0)
   have hX1:Qa [m] ⟨Ab.setObj k (.cells (cs++fs.flatten.map .d) none) X.objs,X.live⟩=true:=by
    unfold Qa at hX ⊢
    simp only[List.isEmpty_cons,Bool.false_or] at hX ⊢
    rw[List.all_eq_true] at hX ⊢
    intro p hp
    have:∀(l:List (Nat×Ob)),(∀p ∈ l,Q1j [m] p.2=true)→∀p ∈ Ab.setObj k (.cells (cs++fs.flatten.map .d) none) l,Q1j [m] p.2=true:=by
     have hnewf:Q1j [m] (.cells (cs++fs.flatten.map .d) none)=true:=by
      have h2:Q1j [m] (.cells cs none)=true:=hX _ (Qn hk)
      simp only[Q1j] at h2 ⊢
      have app:∀(l r:List AV),Q14 [m] l=true→Q14 [m] r=true→Q14 [m] (l++r)=true:=by
       intro l r
       induction l with
       | nil=>intro _ h; exact h
       | cons y l ih=>intro h h'; simp only[Q14,Bool.and_eq_true,List.cons_append] at h ⊢; exact⟨h.1,ih h.2 h'⟩
      refine app _ _ h2 ?_
      generalize fs.flatten=fl
      induction fl with
      | nil=>rfl
      | cons y r ih=>simp only[List.map_cons,Q14,Q15,Bool.true_and]; exact ih
     intro l
     induction l with
     | nil =>
      intro _ p hp
      simp only[Ab.setObj,List.mem_singleton] at hp
      subst hp; exact hnewf
     | cons a r ih =>
      intro hall p hp
      obtain⟨j,oj⟩:=a
      simp only[Ab.setObj] at hp
      split at hp
      ·rcases List.mem_cons.1 hp with rfl | hp
       ·exact hnewf
       ·exact hall p (List.mem_cons_of_mem _ hp)
      ·rcases List.mem_cons.1 hp with rfl | hp
       ·exact hall _ List.mem_cons_self
       ·exact ih (fun p hp=>hall p (List.mem_cons_of_mem _ hp)) p hp
    exact this X.objs hX p hp
   obtain⟨hr2,ht2⟩:=hr1.renameObj (k:=k) (m:=m) hkn hmn hX1 (by rw[Qb,if_pos rfl]) hmk
   rw[hrun _ hrn]
   refine hnext _ w' _ (hr2.alike ⟨fun j=>?_,rfl⟩) (ht1.trans ht2) (.nm _ _ _ ?_)
   ·simp only[List.lookup_cons,Ab.dropObj,Q1g,Qb]
    by_cases hj:j=k
    ·subst hj; simp
    ·simp[hj]
   ·simp only[upd_same]
    exact⟨cap,0,hneed,rfl,.inr rfl,T',arr.size,ht1.le.shape _ _ hshape,by omega⟩
 ·-- a new block
  obtain⟨hrd',htd⟩:=hr.drew
  have hsrc:len=0∨q=0:=by
   rcases hq with h | h
   ·left; omega
   ·exact .inr h
  have hl0:((arr.toList.drop q).take (len*sz)).length=len*sz:=by
   rcases hsrc with h | h
   ·subst h; simp
   ·subst h
    simp only[List.drop_zero,List.length_take,Array.length_toList]
    omega
  have holdr:(Builtin.firstCells i.size len (.slice (some ⟨g.ρ k,q,none⟩) len cap)).run P w.drew = .ok ((arr.toList.drop q).take (len*sz)).toArray w.drew:=by
   refine run_firstCells_some w.drew i.size len _ _ _ _ (by rw[hsz,hl0]) ?_
   intro j v hj
   rw[List.getElem?_take] at hj
   split at hj
   ·rw[List.getElem?_drop] at hj
    rw[addr_add]
    show w.cell? _=_
    rw[cell?_cells hblk]
    simpa using hj
   ·cases hj
  have hrn:=Q5u (P:=P) (w:=w) (ty:=o.type) h0 h1 hu.und htt hi hz (by rw[hsz]; exact hnrun w.drew fun _ _ _=>rfl) holdr hneed (by omega) (by rw[hbt]; exact hbig)
  have hge:=grownCap_ge w (len+fs.length) cap e
  generalize grownCap w (len+fs.length) cap e=nc at hrn hge
  generalize harrE:((arr.toList.drop q).take (len*sz)).toArray++news.toArray++Builtin.zeroCells z.cells (nc - (len+fs.length))=arr2 at hrn
  have harr:arr2.size=nc*sz:=by
   rw[← harrE]
   simp only[Array.size_append,List.size_toArray,size_zeroCells,hl0,hnl,hzs]
   rw[← hmul,← Nat.add_mul]
   congr 1; omega
  have hncm:(len+fs.length)*sz≤nc*sz:=Nat.mul_le_mul_right _ hge
  have hr1:=hrd'.dropObj (k:=m) hmn
  have hr1':=hr1.dropObj (k:=k) hkn
  obtain⟨hr2,ht2⟩:=hr1'.newObj (k:=m) (by
   simp only[Ab.dropObj,Q1g]
   split
   ·rfl
   ·rfl) (by
   unfold Qa at hX ⊢
   simp only[List.isEmpty_cons,Bool.false_or] at hX ⊢
   rw[List.all_eq_true] at hX ⊢
   intro p hp
   simp only[Ab.dropObj,List.mem_filter] at hp
   exact hX p hp.1.1) (.cells arr2 e) (.cells (cs++fs.flatten.map .d) none) (by
   intro g' w' ht' hw'
   refine .cells _ none arr2 e hw' (by simp only[List.length_append,List.length_map,hflat]; omega) ?_ (by simp)
   intro j y v hy hv
   rw[← harrE] at hv
   have hfree:Free [m] y:=by
    rw[List.getElem?_append] at hy
    split at hy
    ·have h2:Q1j [m] (.cells cs none)=true:=by
      rcases Q2u hX hk with h | h
      ·cases h
      ·exact h
     exact Q3f (Q41 h2 hy)
    ·rw[List.getElem?_map,Option.map_eq_some_iff] at hy
     obtain⟨d,_,rfl⟩:=hy
     exact .d _
   rw[List.getElem?_append] at hy
   split at hy
   ·rename_i hlt
    rw[Array.append_assoc,Array.getElem?_append_left (by simp only[List.size_toArray,hl0]; omega)] at hv
    rcases hsrc with h | h
    ·subst h; simp only[Nat.zero_mul] at hcs; omega
    ·subst h
     simp only[List.drop_zero,List.getElem?_toArray,List.getElem?_take] at hv
     rw[if_pos (by omega)] at hv
     exact((hcc j y v hy (by simpa using hv)).mono htd (.nil _)).mono ht' hfree
   ·rename_i hge'
    have hjl:j - cs.length < fs.flatten.length:=by
     have:=(List.getElem?_eq_some_iff.1 hy).1; rw[List.length_map] at this; exact this
    rw[Array.getElem?_append_left (by simp only[Array.size_append,List.size_toArray,hl0,hnl]; omega),Array.getElem?_append_right (by simp only[List.size_toArray,hl0]; omega)] at hv
    simp only[List.size_toArray,hl0,List.getElem?_toArray] at hv
    rw[← hcs] at hv
    exact((hnew _ y v hy hv).mono htd (.nil _)).mono ht' hfree)
  rw[hrun _ hrn]
  refine hnext _ _ _ (hr2.alike ⟨fun j=>?_,rfl⟩) (htd.trans ht2) (.nm _ _ _ ?_)
  ·simp only[List.lookup_cons,Ab.dropObj,Q1g]
   by_cases hj:j=k
   ·subst hj; simp
   ·simp[hj]
  ·simp only[upd_same]
   have hww:w.heap.size=w.drew.heap.size:=rfl
   rw[hww]
   refine⟨nc,0,hge,rfl,.inr rfl,e,arr2.size,?_,by omega⟩
   have:=heap_alloc_new w.drew (.cells arr2 e)
   simp only[World.shape?]
   rw[this]
end
end Go.Ab
namespace Go.Ab
theorem Q96 {sz:Nat}:∀(fs:List (List D)),(∀(i:Nat) cs,fs[i]? = some cs→cs.length=sz)→∀(p q:Nat) cs c,fs[p]? = some cs→cs[q]? = some c→fs.flatten[p*sz+q]? = some c
 | [],_,p,q,cs,c,hp,_=>by simp at hp
 | a :: r,h,p,q,cs,c,hp,hq=>by
  have h0:=h 0 a rfl
  simp only[List.flatten_cons,List.getElem?_append]
  cases p with
  | zero =>
   simp at hp
   subst hp
   have:q < a.length:=(List.getElem?_eq_some_iff.1 hq).1
   rw[if_pos (by omega)]
   simpa using hq
  | succ p =>
   have ih:=Q96 r (fun i cs hi=>h (i+1) cs (by simpa using hi)) p q cs c (by simpa using hp) hq
   rw[Nat.succ_mul,if_neg (by omega)]
   rw[show p*sz+sz+q - a.length=p*sz+q by omega]
   exact ih
theorem HR.freeze {nm:List Nat} {B:Base} {g:Gh} {w:World} {X:Store} (h:HR nm B g w X) {k sz:Nat} {es:List (List D)} {ty:Option TypeId} (hk:k ∉ nm) (ho:X.objs.lookup k=some (.cells (es.flatten.map .d) ty))
  (hsz:∀(i:Nat) cs,es[i]? = some cs→cs.length=sz) :
  HR nm B { g with γ:=upd g.γ (g.ρ k) (es.length*sz) } w (Ab.dropObj k X)∧Trans [] g w { g with γ:=upd g.γ (g.ρ k) (es.length*sz) } w ∧
   ∀a len v,a+len≤es.length→RA g w (.osl k (a*sz) len sz) v→RA { g with γ:=upd g.γ (g.ρ k) (es.length*sz) } w (.d (.sl sz ((es.drop a).take len))) v:=by
 have h0:=h.objγ k _ ho
 have hup:∀b,g.γ b≤upd g.γ (g.ρ k) (es.length*sz) b:=by
  intro b
  by_cases he:b=g.ρ k
  ·subst he; rw[upd_same,h0]; omega
  ·rw[Q6 _ _ he]; exact Nat.le_refl _
 have hne:∀n b,g.β n=some (some b)→b≠g.ρ k:=fun n b hn=>h.tipobj n b k _ hn ho
 have ht:Trans [] g w { g with γ:=upd g.γ (g.ρ k) (es.length*sz) } w:=⟨⟨hup,fun _ _ _=>rfl,fun _ _ h=>h⟩,fun _ _=>rfl,fun n ob _ he=>⟨he,fun b hb=>⟨Q6 _ _ (hne n b (hb▸he)),rfl⟩⟩,fun L _ hL=>⟨rfl,fun i b hb=>⟨Q6 _ _ (h.eta.obj L i b k _ hL hb ho),rfl⟩⟩⟩
 have hfl:=Q1h es hsz
 have hd:=h.dropObj hk
 have hl:∀j o,(Ab.dropObj k X).objs.lookup j=some o→j≠k∧X.objs.lookup j=some o:=by
  intro j o hj
  simp only[Ab.dropObj,Q1g] at hj
  split at hj
  ·cases hj
  ·exact⟨‹_›,hj⟩
 cases h.objs k _ ho with
 | cells _ _ arr T hb hle hc hty =>
 rw[List.length_map,hfl] at hle
 refine⟨⟨hd.keep,?_,h.base,h.io,⟨fun b=>Nat.le_trans (h.le.up b) (hup b),h.le.cell,h.le.shape⟩,?_,?_,?_,hd.objinj,hd.objnew,h.live,h.tipinj,hd.tipobj,h.tipnew,h.tiplt,hd.eta.step (fun L hL=>.inl ⟨hL,rfl⟩) (Nat.le_refl _) (fun n b hb=>.inl ⟨n,hb⟩) fun k o hk=>.inl ⟨k,o,hk,rfl⟩⟩,ht,?_⟩
 ·intro b i hi
  by_cases he:b=g.ρ k
  ·subst he
   simp only[upd_same] at hi
   rw[cell?_cells hb]
   have:i < arr.size:=by omega
   simp[this]
  ·simp only[Q6 _ _ he] at hi
   exact h.sane b i hi
 ·intro b hbn hna
  have hne' : b≠g.ρ k:=by
   rintro rfl
   rcases h.objnew k _ ho with h1 | h1
   ·omega
   ·exact hna h1
  have:=h.frame b hbn hna
  exact⟨this.1,by simp only[Q6 _ _ hne']; exact this.2⟩
 ·intro j o hj
  exact(h.objs j o (hl j o hj).2).keep ht rfl (.inl rfl)
 ·intro j o hj
  obtain⟨h1,h2⟩:=hl j o hj
  have hne' : g.ρ j≠g.ρ k:=fun he=>h1 (h.objinj j k _ _ h2 ho he)
  simp only[Q6 _ _ hne']
  exact h.objγ j o h2
 ·intro a len v hal hra
  obtain⟨cap,q,hcap,rfl,hq,T',c,hsh,hcc⟩:=hra.osl_inv
  refine .d _ _ ?_
  by_cases hlen:len=0
  ·subst hlen
   simp only[List.take_zero]
   exact .nil sz _ cap (by simp)
  ·have hqa:q=a*sz:=by
    rcases hq with h | h
    ·omega
    ·exact h
   subst hqa
   have hlt:((es.drop a).take len).length=len:=by simp; omega
   refine .ofCells' hlt.symm ?_ hcap ?_ ?_
   ·simp only[upd_same]
    have:=Nat.mul_le_mul_right sz hal
    rw[Nat.add_mul] at this
    exact this
   ·intro i cs hi
    rw[List.getElem?_take] at hi
    split at hi
    ·rw[List.getElem?_drop] at hi; exact hsz _ cs hi
    ·cases hi
   ·intro p q cs c u hp hq hu
    rw[List.getElem?_take] at hp
    split at hp
    ·rw[List.getElem?_drop] at hp
     have h1:=Q96 es hsz (a+p) q cs c hp hq
     rw[cell?_cells hb] at hu
     have e:(a+p)*sz+q=a*sz+(p*sz+q):=by rw[Nat.add_mul]; omega
     rw[e] at h1
     have:=hc (a*sz+(p*sz+q)) (.d c) u (by rw[List.getElem?_map,h1]; rfl) hu
     cases this with
     | d _ _ h2=>exact h2.mono ht.le
    ·cases hp
end Go.Ab
namespace Go.Ab
structure ArrI (P:Program) (t e n sz:Nat):Prop where
 und:P.underlying t=some (.array n e)
 is:∃i,P.info? e=some i∧i.size=sz
section
variable {P:Program} {o:Oper} {X:Store}
theorem Qhf {t e n sz:Nat} {x y:Operand} {es:List (List D)} {cs:List D} {k:IntKind} {i:Int} (ho:o.op = .indexAddr t x y)
  (ht:ArrI P t e n sz) (hsz:∀(i:Nat) cs,es[i]? = some cs→cs.length=sz) (hn:es.length≤n) (h0:0≤i) (h1:es[i.toNat]? = some cs) :
  OpT P o [(x,.d (.ep es.flatten)),(y,.d (.sc (.int k i)))] X X [] (.d (.ep cs)) :=
 .quiet fun _ _ g w ac _ hrd=>by
  have e1:=rd0 hrd
  have e2:=(rd1 hrd).sc_inv
  simp only at e1 e2
  obtain⟨hu,info,hi,hs⟩:=ht
  simp only[execOp,ho,e2]
  generalize ac.eval x=u at e1
  cases e1 with
  | d _ _ e1 =>
   have hlt:=(List.getElem?_eq_some_iff.1 h1).1
   cases e1 with
   | ep _ b off hγ hc =>
    have hil:i < n:=by omega
    refine⟨.pointer (some ⟨b,off+i.toNat*sz,none⟩),?_,.d _ _ (.ep cs b _ ?_ ?_)⟩
    ·simp[Instr.indexAt,Instr.sureAddr,asIntOf,run_underlying hu,h0,hil,sizeOf,typeInfo,hi,hs,addr_add]
    ·rw[hsz _ _ h1]
     rw[Q1h es hsz] at hγ
     have:(i.toNat+1)*sz≤es.length*sz:=Nat.mul_le_mul_right sz hlt
     rw[Nat.succ_mul] at this
     omega
    ·intro j c v hj hv
     exact hc (i.toNat*sz+j) c v (Q96 es hsz _ _ _ _ h1 hj) (by rw[← Nat.add_assoc]; exact hv)
theorem Qgl {t e n sz:Nat} {x y:Operand} {j:Nat} {k:IntKind} {i:Int} (ho:o.op = .indexAddr t x y)
  (ht:ArrI P t e n sz) (h0:0≤i) (h1:i < n) :
  OpT P o [(x,.ptr j 0),(y,.d (.sc (.int k i)))] X X [] (.ptr j (i.toNat*sz)) :=
 .quiet fun _ _ g w ac _ hrd=>by
  have e1:=(rd0 hrd).ptr_inv
  have e2:=(rd1 hrd).sc_inv
  simp only at e1 e2
  obtain⟨hu,info,hi,hs⟩:=ht
  refine⟨.pointer (some ⟨g.ρ j,i.toNat*sz,none⟩),?_,.ptr _ _⟩
  simp only[execOp,ho,e1,e2]
  simp[Instr.indexAt,Instr.sureAddr,asIntOf,run_underlying hu,h0,h1,sizeOf,typeInfo,hi,hs,addr_add]
end
end Go.Ab
namespace Go.Xl
open Go.Ab
inductive Ty where
 | int (k:IntKind)
 | u8
 | bool
 | str
 | sl (t:Ty)
 | unit
 | pair (a b:Ty)
 | st1 (a:Ty)
 | tab (a:Ty)
 | err
 | ic (t:TypeId) (k:IntKind)
 | ptr
@[reducible] def Ty.T:Ty→Type
 | .int _=>Int
 | .u8=>UInt8
 | .bool=>Bool
 | .str=>List UInt8
 | .sl t=>List t.T
 | .unit=>Unit
 | .pair a b=>a.T×b.T
 | .st1 a=>a.T
 | .tab a=>List a.T
 | .err=>Bool
 | .ic _ _=>Option Int
 | .ptr=>Unit
def kindB:IntKind→IntKind→Bool
 | .i8,.i8 | .i16,.i16 | .i32,.i32 | .i64,.i64 | .u8,.u8 | .u16,.u16 | .u32,.u32 | .u64,.u64=>true
 | _,_=>false
theorem Q13 {a b:IntKind} (h:kindB a b=true):a=b:=by
 cases a <;> cases b <;> first | rfl | (simp[kindB] at h)
def Ty.eqb:Ty→Ty→Bool
 | .int k,.int k'=>kindB k k'
 | .u8,.u8=>true
 | .bool,.bool=>true
 | .str,.str=>true
 | .sl a,.sl b=>a.eqb b
 | .unit,.unit=>true
 | .pair a b,.pair c d=>cond (a.eqb c) (b.eqb d) false
 | .st1 a,.st1 b=>a.eqb b
 | .tab a,.tab b=>a.eqb b
 | .err,.err=>true
 | .ic t k,.ic t' k'=>cond (Nat.beq t t') (kindB k k') false
 | .ptr,.ptr=>true
 | _,_=>false
theorem Ty.eqb_eq:∀ {a b:Ty},a.eqb b=true→a=b:=by
 intro a
 induction a with
 | int k=>intro b h; cases b <;> simp[Ty.eqb] at h; rw[Q13 h]
 | u8=>intro b h; cases b <;> simp[Ty.eqb] at h; rfl
 | bool=>intro b h; cases b <;> simp[Ty.eqb] at h; rfl
 | str=>intro b h; cases b <;> simp[Ty.eqb] at h; rfl
 | sl t ih=>intro b h; cases b <;> simp[Ty.eqb] at h; rw[ih h]
 | unit=>intro b h; cases b <;> simp[Ty.eqb] at h; rfl
 | pair x y ihx ihy=>intro b h; cases b <;> simp[Ty.eqb] at h; rw[ihx h.1,ihy h.2]
 | st1 t ih=>intro b h; cases b <;> simp[Ty.eqb] at h; rw[ih h]
 | tab t ih=>intro b h; cases b <;> simp[Ty.eqb] at h; rw[ih h]
 | err=>intro b h; cases b <;> simp[Ty.eqb] at h; rfl
 | ptr=>intro b h; cases b <;> simp[Ty.eqb] at h; rfl
 | ic t k =>
  intro b h
  cases b with
  | ic t' k' =>
   simp only[Ty.eqb] at h
   cases hb:Nat.beq t t' with
   | false=>simp[hb] at h
   | true=>simp only[hb,cond_true] at h; rw[Nat.eq_of_beq_eq_true hb,Q13 h]
  | _=>simp[Ty.eqb] at h
def Ty.size:Ty→Nat
 | .unit=>0
 | .pair a b=>a.size+b.size
 | .st1 a=>a.size
 | _=>1
inductive XD where
 | i (k:IntKind) (n:Int)
 | u8 (b:UInt8)
 | b (b:Bool)
 | s (l:List UInt8)
 | v (v:Value)
 | agg (cs:List XD)
 | sl (t:Ty) (l:List t.T)
 | ep (cs:List XD)
 | pa (t:Ty) (l:List t.T)
 | er (b:Bool)
 | pp
 | ic (t:TypeId) (k:IntKind) (x:Option Int)
 | ag (t:Ty) (l:List t.T)
def Ty.enc:(t:Ty)→t.T→List XD
 | .int k,n=>[.i k n]
 | .u8,x=>[.u8 x]
 | .bool,x=>[.b x]
 | .str,x=>[.s x]
 | .sl t,l=>[.sl t l]
 | .unit,_=>[]
 | .pair a b,x=>a.enc x.1++b.enc x.2
 | .st1 a,x=>a.enc x
 | .tab t,l=>[.pa t l]
 | .err,b=>[.er b]
 | .ic t k,x=>[.ic t k x]
 | .ptr,_=>[.pp]
def Ty.xv:(t:Ty)→t.T→XD
 | .int k,n=>.i k n
 | .u8,x=>.u8 x
 | .bool,x=>.b x
 | .str,x=>.s x
 | .sl t,l=>.sl t l
 | .unit,_=>.agg []
 | .pair a b,x=>.agg (a.enc x.1++b.enc x.2)
 | .st1 a,x=>.agg (a.enc x)
 | .tab t,l=>.pa t l
 | .err,b=>.er b
 | .ic t k,x=>.ic t k x
 | .ptr,_=>.pp
def Qjm (v:Value):Prop:=∃a,v = .pointer a
def isIface (v:Value):Prop:=∃t u,v = .iface t u
def erD (b:Bool):D:=cond b (.any isIface) (.sc .nilIface)
theorem Qyq (b:Bool):oneD (erD b)=true:=by cases b <;> rfl
def icV (t:TypeId) (k:IntKind):Option Int→Value
 | none=>.nilIface
 | some n=>.iface t (.int k n)
theorem Qz7 (t:TypeId) (k:IntKind) (x:Option Int):(icV t k x).oneCell' = true:=by cases x <;> rfl
def Ty.ds:(t:Ty)→t.T→List D
 | .int k,n=>[.int k n]
 | .u8,x=>[.sc (.int .u8 (x.toNat:Int))]
 | .bool,x=>[.bool x]
 | .str,x=>[.bs x]
 | .sl t,l=>[.sl t.size (l.map t.ds)]
 | .unit,_=>[]
 | .pair a b,x=>a.ds x.1++b.ds x.2
 | .st1 a,x=>a.ds x
 | .tab t,l=>[.ep ((l.map t.ds).flatten)]
 | .err,b=>[erD b]
 | .ic t k,x=>[.sc (icV t k x)]
 | .ptr,_=>[.any Qjm]
def XD.isAgg:XD→Bool
 | .agg _=>true
 | .ag _ _=>true
 | _=>false
mutual
def XD.d:XD→D
 | .i k n=>.int k n
 | .u8 x=>.sc (.int .u8 (x.toNat:Int))
 | .b x=>.bool x
 | .s l=>.bs l
 | .v u=>.sc u
 | .agg cs=>.agg (dsOf cs)
 | .sl t l=>.sl t.size (l.map t.ds)
 | .ep cs=>.ep (dsOf cs)
 | .pa t l=>.ep ((l.map t.ds).flatten)
 | .er b=>erD b
 | .ic t k x=>.sc (icV t k x)
 | .pp=>.any Qjm
 | .ag t l=>.agg ((l.map t.ds).flatten)
def dsOf:List XD→List D
 | []=>[]
 | x :: r=>x.d :: dsOf r
end
theorem Q2n (l:List XD):dsOf l=l.map XD.d:=by
 induction l with
 | nil=>rfl
 | cons x r ih=>simp[dsOf,ih]
theorem Q80 (a b:List XD):dsOf (a++b)=dsOf a++dsOf b:=by simp[Q2n]
theorem Q25 (l:List XD):(dsOf l).length=l.length:=by simp[Q2n]
theorem Ty.enc_ds:∀(t:Ty) (x:t.T),dsOf (t.enc x)=t.ds x
 | .int k,n=>rfl
 | .u8,x=>rfl
 | .bool,x=>rfl
 | .str,x=>rfl
 | .sl t,l=>rfl
 | .unit,_=>rfl
 | .pair a b,x=>by simp only[Ty.enc,Ty.ds,Q80,Ty.enc_ds a,Ty.enc_ds b]
 | .st1 a,x=>by simp only[Ty.enc,Ty.ds,Ty.enc_ds a]
 | .tab t,l=>rfl
 | .err,b=>rfl
 | .ic t k,x=>rfl
 | .ptr,_=>rfl
theorem Ty.ds_length:∀(t:Ty) (x:t.T),(t.ds x).length=t.size
 | .int k,n=>rfl
 | .u8,x=>rfl
 | .bool,x=>rfl
 | .str,x=>rfl
 | .sl t,l=>rfl
 | .unit,_=>rfl
 | .pair a b,x=>by simp only[Ty.ds,Ty.size,List.length_append,Ty.ds_length a,Ty.ds_length b]
 | .st1 a,x=>by simp only[Ty.ds,Ty.size,Ty.ds_length a]
 | .tab t,l=>rfl
 | .err,b=>rfl
 | .ic t k,x=>rfl
 | .ptr,_=>rfl
theorem Ty.enc_length (t:Ty) (x:t.T):(t.enc x).length=t.size:=by
 rw[← Q25,Ty.enc_ds,Ty.ds_length]
theorem Ty.ds_one:∀(t:Ty) (x:t.T),∀c ∈ t.ds x,oneD c=true
 | .int k,n=>by simp[Ty.ds,oneD,Value.oneCell']
 | .u8,x=>by simp[Ty.ds,oneD,Value.oneCell']
 | .bool,x=>by simp[Ty.ds,oneD,Value.oneCell']
 | .str,x=>by simp[Ty.ds,oneD,Value.oneCell']
 | .sl t,l=>by simp[Ty.ds,oneD]
 | .unit,_=>by simp[Ty.ds]
 | .pair a b,x=>by
  intro c hc
  simp only[Ty.ds,List.mem_append] at hc
  rcases hc with h | h
  ·exact Ty.ds_one a _ c h
  ·exact Ty.ds_one b _ c h
 | .st1 a,x=>by simp only[Ty.ds]; exact Ty.ds_one a x
 | .tab t,l=>by simp[Ty.ds,oneD]
 | .err,b=>by simp only[Ty.ds,List.mem_singleton]; rintro c rfl; exact Qyq b
 | .ic t k,x=>by simp only[Ty.ds,List.mem_singleton]; rintro c rfl; exact Qz7 t k x
 | .ptr,_=>by simp only[Ty.ds,List.mem_singleton]; rintro c rfl; rfl
def DLe (x y:D):Prop:=∀(γ:Nat→Nat) (w:World) (v:Value),RD γ w x v→RD γ w y v
theorem DLe.refl (x:D):DLe x x:=fun _ _ _ h=>h
inductive DsLe:List D→List D→Prop
 | nil:DsLe [] []
 | cons {x y:D} {r s:List D}:DLe x y→DsLe r s→DsLe (x :: r) (y :: s)
theorem DsLe.refl:∀(l:List D),DsLe l l
 | []=>.nil
 | x :: r=>.cons (.refl x) (DsLe.refl r)
theorem DsLe.append {a b c d:List D} (h:DsLe a b) (h' : DsLe c d):DsLe (a++c) (b++d):=by
 induction h with
 | nil=>exact h'
 | cons h1 _ ih=>exact .cons h1 ih
theorem DsLe.length {a b:List D} (h:DsLe a b):a.length=b.length:=by
 induction h with
 | nil=>rfl
 | cons _ _ ih=>simp[ih]
theorem DsLe.get {a b:List D} (h:DsLe a b):∀ {i:Nat} {y:D},b[i]? = some y→∃x,a[i]? = some x∧DLe x y:=by
 induction h with
 | nil=>intro i y hy; simp at hy
 | cons h1 _ ih =>
  intro i y hy
  cases i with
  | zero=>simp at hy; subst hy; exact⟨_,rfl,h1⟩
  | succ i=>simp at hy; simpa using ih hy
theorem DsLe.agg {a b:List D} (h:DsLe a b):DLe (.agg a) (.agg b):=by
 intro γ w v hr
 cases hr with
 | agg _ vs hl hc =>
  refine .agg b vs (h.length▸hl) fun i c u hb hu=>?_
  obtain⟨x,hx,hle⟩:=h.get hb
  exact hle _ _ _ (hc i x u hx hu)
theorem DLe.nilp (sz:Nat) (a:Addr) (cap:Nat):DLe (.sc (.slice (some a) 0 cap)) (.sl sz []):=by
 intro γ w v h
 cases h
 exact .nil sz (some a) cap (by simp)
theorem DLe.nil (sz:Nat):DLe (.sc (.slice none 0 0)) (.sl sz []):=by
 intro γ w v hr
 cases hr
 exact .nil sz none 0 fun _=>rfl
def decI (k:IntKind):List XD→Option (Int×List XD)
 | .i k' n :: r=>cond (kindB k' k) (some (n,r)) none
 | .u8 x :: r=>cond (kindB .u8 k) (some (((x.toNat:Nat):Int),r)) none
 | _=>none
def decU8:List XD→Option (UInt8×List XD)
 | .u8 x :: r=>some (x,r)
 | _=>none
def decB:List XD→Option (Bool×List XD)
 | .b x :: r=>some (x,r)
 | _=>none
def decS:List XD→Option (List UInt8×List XD)
 | .s x :: r=>some (x,r)
 | _=>none
def decL (t:Ty):List XD→Option (List t.T×List XD)
 | .sl t' l :: r=>if h:t'.eqb t=true then some (Ty.eqb_eq h▸l,r) else none
 | .v (.slice none 0 0) :: r=>some ([],r)
 | .v (.slice (some _) 0 _) :: r=>some ([],r)
 | _=>none
def decT (t:Ty):List XD→Option (List t.T×List XD)
 | .pa t' l :: r=>if h:t'.eqb t=true then some (Ty.eqb_eq h▸l,r) else none
 | _=>none
def decE:List XD→Option (Bool×List XD)
 | .er b :: r=>some (b,r)
 | .ic t k x :: r=>some (x.isSome,r)
 | .v .nilIface :: r=>some (false,r)
 | _=>none
def decIc (t:TypeId) (k:IntKind):List XD→Option (Option Int×List XD)
 | .ic t' k' x :: r=>cond (Nat.beq t' t) (cond (kindB k' k) (some (x,r)) none) none
 | .v .nilIface :: r=>some (none,r)
 | _=>none
def decP:List XD→Option (Unit×List XD)
 | .pp :: r=>some ((),r)
 | .v (.pointer _) :: r=>some ((),r)
 | _=>none
def Ty.dec:(t:Ty)→List XD→Option (t.T×List XD)
 | .int k=>decI k
 | .u8=>decU8
 | .bool=>decB
 | .str=>decS
 | .sl t=>decL t
 | .unit=>fun r=>some ((),r)
 | .pair a b=>fun cs=>match a.dec cs with
  | some p=>match b.dec p.2 with
   | some q=>some ((p.1,q.1),q.2)
   | none=>none
  | none=>none
 | .st1 a=>a.dec
 | .tab t=>decT t
 | .err=>decE
 | .ic t k=>decIc t k
 | .ptr=>decP
theorem Qwl {k:IntKind} {cs r:List XD} {x:Int} (h:decI k cs=some (x,r)):∃ds,dsOf cs=ds++dsOf r∧DsLe ds [.int k x]:=by
 unfold decI at h
 split at h
 ·rename_i k' n r'
  cases hk:kindB k' k <;> simp[hk] at h
  have:=Q13 hk
  subst this
  obtain⟨rfl,rfl⟩:=h
  exact⟨[_],by simp[dsOf,XD.d],.refl _⟩
 ·rename_i x' r'
  cases hk:kindB .u8 k <;> simp[hk] at h
  have:=Q13 hk
  subst this
  obtain⟨rfl,rfl⟩:=h
  exact⟨[_],by simp[dsOf,XD.d],.refl _⟩
 ·cases h
theorem Qug {cs r:List XD} {x:UInt8} (h:decU8 cs=some (x,r)):∃ds,dsOf cs=ds++dsOf r∧DsLe ds (Ty.u8.ds x):=by
 unfold decU8 at h
 split at h
 ·cases h; exact⟨[_],by simp[dsOf,XD.d],.refl _⟩
 ·cases h
theorem Qwj {cs r:List XD} {x:Bool} (h:decB cs=some (x,r)):∃ds,dsOf cs=ds++dsOf r∧DsLe ds (Ty.bool.ds x):=by
 unfold decB at h
 split at h
 ·cases h; exact⟨[_],by simp[dsOf,XD.d],.refl _⟩
 ·cases h
theorem Qv0 {cs r:List XD} {x:List UInt8} (h:decS cs=some (x,r)):∃ds,dsOf cs=ds++dsOf r∧DsLe ds (Ty.str.ds x):=by
 unfold decS at h
 split at h
 ·cases h; exact⟨[_],by simp[dsOf,XD.d],.refl _⟩
 ·cases h
theorem Qva {t:Ty} {cs r:List XD} {x:List t.T} (h:decL t cs=some (x,r)):∃ds,dsOf cs=ds++dsOf r∧DsLe ds (Ty.ds (.sl t) x):=by
 unfold decL at h
 split at h
 ·rename_i t' l r'
  split at h
  ·rename_i ht
   simp only[Option.some.injEq,Prod.mk.injEq] at h
   obtain⟨rfl,rfl⟩:=h
   have e:=Ty.eqb_eq ht
   subst e
   exact⟨[_],by simp[dsOf,XD.d],.refl _⟩
  ·cases h
 ·cases h
  exact⟨[_],by simp[dsOf,XD.d],.cons (.nil _) .nil⟩
 ·cases h
  exact⟨[_],rfl,.cons (.nilp _ _ _) .nil⟩
 ·cases h
theorem Qv9 {t:Ty} {cs r:List XD} {x:List t.T} (h:decT t cs=some (x,r)):∃ds,dsOf cs=ds++dsOf r∧DsLe ds (Ty.ds (.tab t) x):=by
 unfold decT at h
 split at h
 ·rename_i t' l r'
  split at h
  ·rename_i ht
   simp only[Option.some.injEq,Prod.mk.injEq] at h
   obtain⟨rfl,rfl⟩:=h
   have e:=Ty.eqb_eq ht
   subst e
   exact⟨[_],by simp[dsOf,XD.d],.refl _⟩
  ·cases h
 ·cases h
theorem Qvp {cs r:List XD} {x:Bool} (h:decE cs=some (x,r)):∃ds,dsOf cs=ds++dsOf r∧DsLe ds (Ty.err.ds x):=by
 unfold decE at h
 split at h
 ·cases h; exact⟨[_],rfl,.refl _⟩
 ·rename_i t k x r
  cases h
  refine⟨[_],rfl,.cons ?_ .nil⟩
  intro γ w v hr
  cases hr
  cases x with
  | none=>exact .sc _
  | some n=>exact .any _ _ ⟨t,_,rfl⟩ rfl
 ·cases h; exact⟨[_],rfl,.refl _⟩
 ·cases h
theorem Quv {t:TypeId} {k:IntKind} {cs r:List XD} {x:Option Int} (h:decIc t k cs=some (x,r)):∃ds,dsOf cs=ds++dsOf r∧DsLe ds ((Ty.ic t k).ds x):=by
 unfold decIc at h
 split at h
 ·rename_i t' k' y r'
  cases hb:Nat.beq t' t with
  | false=>simp[hb] at h
  | true =>
   cases hk:kindB k' k with
   | false=>simp[hb,hk] at h
   | true =>
    simp only[hb,hk,cond_true,Option.some.injEq,Prod.mk.injEq] at h
    obtain⟨rfl,rfl⟩:=h
    rw[Nat.eq_of_beq_eq_true hb,Q13 hk]
    exact⟨[_],rfl,.refl _⟩
 ·cases h; exact⟨[_],rfl,.refl _⟩
 ·cases h
theorem Qvi {cs r:List XD} {x:Unit} (h:decP cs=some (x,r)):∃ds,dsOf cs=ds++dsOf r∧DsLe ds (Ty.ptr.ds x):=by
 unfold decP at h
 split at h
 ·cases h; exact⟨[_],rfl,.refl _⟩
 ·rename_i a r'
  cases h
  refine⟨[_],rfl,.cons ?_ .nil⟩
  intro γ w v hr
  cases hr
  exact .any _ _ ⟨a,rfl⟩ rfl
 ·cases h
theorem Ty.dec_spec:∀(t:Ty) {cs:List XD} {x:t.T} {r:List XD},t.dec cs=some (x,r)→∃ds,dsOf cs=ds++dsOf r∧DsLe ds (t.ds x):=by
 intro t
 induction t with
 | int k=>intro cs x r h; exact Qwl h
 | u8=>intro cs x r h; exact Qug h
 | bool=>intro cs x r h; exact Qwj h
 | str=>intro cs x r h; exact Qv0 h
 | sl t ih=>intro cs x r h; exact Qva h
 | unit =>
  intro cs x r h
  simp[Ty.dec] at h
  exact⟨[],by simp[h],.nil⟩
 | pair a b iha ihb =>
  intro cs x r h
  unfold Ty.dec at h
  split at h
  ·rename_i p hp
   split at h
   ·rename_i q hq
    cases h
    obtain⟨d1,h1,l1⟩:=iha (x:=p.1) (r:=p.2) hp
    obtain⟨d2,h2,l2⟩:=ihb (x:=q.1) (r:=q.2) hq
    exact⟨d1++d2,by rw[h1,h2]; simp,by simpa[Ty.ds] using l1.append l2⟩
   ·cases h
  ·cases h
 | st1 a iha =>
  intro cs x r h
  exact iha h
 | tab t ih=>intro cs x r h; exact Qv9 h
 | err=>intro cs x r h; exact Qvp h
 | ic t k=>intro cs x r h; exact Quv h
 | ptr=>intro cs x r h; exact Qvi h
def XD.cells:XD→List XD
 | .agg cs=>cs
 | .ag t l=>(l.map t.enc).flatten
 | x=>[x]
theorem Qp7 (t:Ty):∀(l:List t.T),dsOf ((l.map t.enc).flatten)=(l.map t.ds).flatten
 | []=>rfl
 | x :: r=>by rw[List.map_cons,List.flatten_cons,Q80,Qp7 t r,t.enc_ds]; rfl
theorem XD.agg_d {x:XD} (h:x.isAgg=true):x.d = .agg (dsOf x.cells):=by
 cases x with
 | agg cs=>rfl
 | ag t l=>simp only[XD.d,XD.cells,Qp7]
 | _=>simp[XD.isAgg] at h
def Ty.agg:Ty→Bool
 | .unit=>true
 | .pair _ _=>true
 | .st1 _=>true
 | _=>false
def Ty.decv (t:Ty) (x:XD):Option t.T :=
 cond (cond t.agg x.isAgg (cond x.isAgg false true)) (match t.dec x.cells with
  | some (y,[])=>some y
  | _=>none) none
def Ty.dv (t:Ty) (x:t.T):D:=(t.xv x).d
theorem Ty.dv_agg (t:Ty) (x:t.T) (h:t.agg=true):t.dv x = .agg (t.ds x):=by
 cases t <;> simp[Ty.agg] at h <;> simp[Ty.dv,Ty.xv,XD.d,dsOf,Ty.ds,Q80,Ty.enc_ds]
theorem Ty.dv_one (t:Ty) (x:t.T) (h:t.agg=false):t.ds x = [t.dv x]:=by
 cases t <;> simp[Ty.agg] at h <;> rfl
theorem Ty.decv_spec (t:Ty) {x:XD} {y:t.T} (h:t.decv x=some y):DLe x.d (t.dv y):=by
 unfold Ty.decv at h
 cases ht:t.agg with
 | true =>
  simp only[ht,cond_true] at h
  cases hx:x.isAgg with
  | false=>simp[hx] at h
  | true =>
   simp only[hx,cond_true] at h
   split at h
   ·rename_i y' hd
    cases h
    obtain⟨ds,h1,h2⟩:=t.dec_spec hd
    rw[t.dv_agg _ ht,XD.agg_d hx]
    simp only[dsOf,List.append_nil] at h1
    rw[h1]
    exact h2.agg
   ·cases h
 | false =>
  simp only[ht,cond_false] at h
  cases hx:x.isAgg with
  | true=>simp[hx] at h
  | false =>
   simp only[hx,cond_false,cond_true] at h
   have hc:x.cells = [x]:=by cases x <;> first | rfl | (simp[XD.isAgg] at hx)
   rw[hc] at h
   split at h
   ·rename_i y' hd
    cases h
    obtain⟨ds,h1,h2⟩:=t.dec_spec hd
    rw[t.dv_one _ ht] at h2
    simp only[dsOf,List.append_nil] at h1
    subst h1
    cases h2 with
    | cons h3 _=>exact h3
   ·cases h
end Go.Xl
namespace Go.Xl
open Go.Ab
inductive XV where
 | d (x:XD)
 | nm (k:Nat) (p:PK)
 | tip (n:Nat) (t:Ty) (l:List t.T) (ty:Option TypeId)
 | tup (l:List XV)
 | agg (l:List XV)
 | clo (f:Nat) (caps:List XV)
 | os (k:Nat) (t:Ty) (a len:Nat)
 | el (k:Nat) (t:Ty) (i fo:Nat)
 | tpt (n e:Nat) (x:UInt8) (l:List UInt8)
mutual
noncomputable def XV.a:XV→AV
 | .d x=>.d x.d
 | .nm k p=>.nm k p
 | .tip n t l ty=>.tip n t.size (l.map t.ds) ty
 | .tup l=>.tup (asOf l)
 | .agg l=>.agg (asOf l)
 | .clo f l=>.clo f (asOf l)
 | .os k t a len=>.nm k (.s (a*t.size) len t.size)
 | .el k t i fo=>.nm k (.p (i*t.size+fo))
 | .tpt n e x l=>.tpt n e (Q8e (x :: l))
noncomputable def asOf:List XV→List AV
 | []=>[]
 | x :: r=>x.a :: asOf r
end
theorem Q4m (l:List XV):asOf l=l.map XV.a:=by
 induction l with
 | nil=>rfl
 | cons x r ih=>simp[asOf,ih]
theorem Q8 (l:List XV):(asOf l).length=l.length:=by simp[Q4m]
theorem Q4n (l:List XV) (i:Nat):(asOf l)[i]? = (l[i]?).map XV.a:=by simp[Q4m]
theorem Q1b (a b:List XV):asOf (a++b)=asOf a++asOf b:=by simp[Q4m]
noncomputable def dval:D→Value
 | .sc v=>v
 | .agg cs=>.agg (dvals cs).toArray
 | _=>undef
where dvals:List D→List Value
 | []=>[]
 | x :: r=>dval x :: dvals r
inductive XOb where
 | cells (cs:List XV) (ty:Option TypeId)
 | arr (t:Ty) (l:List t.T)
 | sit (s:List UInt8) (pos:Nat)
 | map (kt vt:Ty) (es:List (Nat×kt.T×vt.T)) (clock:Nat)
 | mit (m since:Nat) (seen:List Nat) (last:Nat)
 | mitn
 | bts (e:TypeId) (l:List UInt8)
 | mapt (L:Nat) (kt vt:Ty) (es:List (Nat×kt.T×Bool×List vt.T)) (clock:Nat)
noncomputable def XOb.o:XOb→Ob
 | .cells cs ty=>.cells (asOf cs) ty
 | .arr t l=>.cells ((l.map t.ds).flatten.map .d) none
 | .sit s pos=>.sit ⟨s.toArray⟩ pos
 | .map kt vt es clock=>.map (es.map fun e=>(e.1,dval (kt.dv e.2.1),vt.dv e.2.2)) clock
 | .mit m since seen last=>.mit m since seen.toArray last
 | .mitn=>.mitn
 | .bts e l=>.cells ((Qq l).flatten.map .d) (some e)
 | .mapt L kt vt es clock=>.mapt L vt.size (es.map fun e=>(e.1,dval (kt.dv e.2.1),e.2.2.1,e.2.2.2.map vt.ds)) clock
theorem Q64 (F:List Nat):∀(l:List D),Q14 F (l.map .d)=true
 | []=>rfl
 | x :: r=>by simp only[List.map_cons,Q14,Q15,Q64 F r,Bool.and_self]
theorem Qa3 (F:List Nat) (t:Ty) (u:List t.T):Q1j F (XOb.arr t u).o=true:=Q64 F _
noncomputable def inl (k:Nat) (l:List Nat):Bool :=
 List.rec (motive:=fun _=>Bool) false (fun j _ ih=>Bool.rec (motive:=fun _=>Bool) ih true (Nat.beq j k)) l
theorem Qyu (k:Nat):inl k [] = false:=rfl
theorem Qy5 (k j:Nat) (r:List Nat):inl k (j :: r)=cond (Nat.beq j k) true (inl k r):=by
 unfold inl
 cases h:Nat.beq j k <;> simp[h]
theorem Qg (k:Nat) (l:List Nat):inl k l=true↔k ∈ l:=by
 induction l with
 | nil=>simp[Qyu]
 | cons j r ih =>
  simp only[Qy5,List.mem_cons]
  cases h:Nat.beq j k with
  | true=>simp[Nat.eq_of_beq_eq_true h]
  | false =>
   have:j≠k:=Nat.ne_of_beq_eq_false h
   simp[ih,Ne.symm this]
noncomputable def Q3a (F:List Nat):List (Nat×XOb)→Bool
 | []=>true
 | p :: r=>cond (match p.2 with
  | .cells cs _=>Q14 F (asOf cs)
  | .mit m _ _ _=>cond (inl m F) false true
  | .mapt m _ _ _ _=>cond (inl m F) false true
  | _=>true) (Q3a F r) false
structure XSt where
 env:List (Nat×XV)
 objs:List (Nat×XOb)
 live:List Nat
 wl:List Nat
 ol:List Nat
noncomputable def imEnv (l:List (Nat×XV)):List (Nat×AV):=l.map fun p=>(p.1,p.2.a)
noncomputable def Q0 (l:List (Nat×XOb)):List (Nat×Ob):=l.map fun p=>(p.1,p.2.o)
noncomputable def XSt.X (st:XSt):Store:=⟨Q0 st.objs,st.live⟩
noncomputable def XSt.im (st:XSt):St:=⟨imEnv st.env,st.X⟩
theorem Q49 {F:List Nat} {live:List Nat}:∀ {l:List (Nat×XOb)},Q3a F l=true→Qa F ⟨Q0 l,live⟩=true:=by
 intro l h
 unfold Qa
 rw[Bool.or_eq_true]
 right
 show((Q0 l).all fun p=>Q1j F p.2)=true
 induction l with
 | nil=>rfl
 | cons p r ih =>
  simp only[Q3a] at h
  have hs:Q1j F p.2.o=true∧Q3a F r=true:=by
   cases ho:p.2 with
   | cells cs ty =>
    rw[ho] at h
    simp only at h
    cases hx:Q14 F (asOf cs) with
    | false=>simp[hx] at h
    | true=>simp only[hx,cond_true] at h; exact⟨hx,h⟩
   | arr t l =>
    rw[ho] at h
    simp only[cond_true] at h
    exact⟨Qa3 F t l,h⟩
   | sit s pos=>rw[ho] at h; exact⟨rfl,h⟩
   | map kt vt es c=>rw[ho] at h; exact⟨rfl,h⟩
   | mitn=>rw[ho] at h; exact⟨rfl,h⟩
   | bts e l=>rw[ho] at h; exact⟨Q64 F _,h⟩
   | mapt m kt vt es c =>
    rw[ho] at h
    simp only at h
    cases hm:inl m F with
    | true=>simp[hm] at h
    | false =>
     simp only[hm,cond_false,cond_true] at h
     refine⟨?_,h⟩
     show(!F.contains m)=true
     cases hc:F.contains m with
     | false=>rfl
     | true=>rw[(Qg m F).2 (List.contains_iff_mem.1 hc)] at hm; cases hm
   | mit m since seen last =>
    rw[ho] at h
    simp only at h
    cases hm:inl m F with
    | true=>simp[hm] at h
    | false =>
     simp only[hm,cond_false,cond_true] at h
     refine⟨?_,h⟩
     show(!F.contains m)=true
     cases hc:F.contains m with
     | false=>rfl
     | true=>rw[(Qg m F).2 (List.contains_iff_mem.1 hc)] at hm; cases hm
  have:=ih hs.2
  simp only[Q0,List.map_cons,List.all_cons,hs.1,Bool.true_and] at this ⊢
  exact this
noncomputable def Q3l (F:List Nat) (st:XSt):Bool:=Q3a F st.objs
theorem Q58 {F:List Nat} {st:XSt} (h:Q3l F st=true):Qa F st.X=true:=Q49 h
theorem nbF {a b:Nat} (h:a≠b):Nat.beq a b=false:=by
 cases hh:Nat.beq a b with
 | false=>rfl
 | true=>exact absurd (Nat.eq_of_beq_eq_true hh) h
theorem nbS (a b:Nat):Nat.beq a b=(b == a):=by
 by_cases h:a=b
 ·subst h; simp
 ·rw[nbF h]; symm; simpa using Ne.symm h
noncomputable def lk {α:Type} (k:Nat) (l:List (Nat×α)):Option α :=
 List.rec (motive:=fun _=>Option α) none (fun p _ ih=>Bool.rec (motive:=fun _=>Option α) ih (some p.2) (Nat.beq p.1 k)) l
theorem Q2b {α:Type} (k:Nat):lk k ([] : List (Nat×α))=none:=rfl
theorem Q12 {α:Type} (k:Nat) (p:Nat×α) (r:List (Nat×α)):lk k (p :: r)=cond (Nat.beq p.1 k) (some p.2) (lk k r):=by
 unfold lk
 cases h:Nat.beq p.1 k <;> simp[h]
theorem lk_eq {α:Type} (k:Nat) (l:List (Nat×α)):lk k l=l.lookup k:=by
 induction l with
 | nil=>rfl
 | cons p r ih =>
  obtain⟨j,x⟩:=p
  rw[List.lookup_cons]
  simp only[Q12,ih]
  rw[nbS]
  cases k == j <;> rfl
theorem Q4p (l:List (Nat×XV)) (k:Nat):(imEnv l).lookup k=(lk k l).map XV.a:=by
 induction l with
 | nil=>rfl
 | cons p r ih =>
  obtain⟨j,x⟩:=p
  simp only[imEnv,List.map_cons,List.lookup_cons] at ih ⊢
  rw[lk_eq] at ih ⊢
  rw[List.lookup_cons]
  cases k == j with
  | true=>rfl
  | false=>simpa[imEnv] using ih
theorem Qt (l:List (Nat×XOb)) (k:Nat):(Q0 l).lookup k=(lk k l).map XOb.o:=by
 induction l with
 | nil=>rfl
 | cons p r ih =>
  obtain⟨j,x⟩:=p
  simp only[Q0,List.map_cons,List.lookup_cons] at ih ⊢
  rw[lk_eq] at ih ⊢
  rw[List.lookup_cons]
  cases k == j with
  | true=>rfl
  | false=>simpa[Q0] using ih
noncomputable def xset (k:Nat) (o:XOb) (l:List (Nat×XOb)):List (Nat×XOb) :=
 List.rec (motive:=fun _=>List (Nat×XOb)) [(k,o)] (fun p r ih=>Bool.rec (motive:=fun _=>List (Nat×XOb)) (p :: ih) ((k,o) :: r) (Nat.beq p.1 k)) l
theorem Qy7 (k:Nat) (o:XOb):xset k o [] = [(k,o)]:=rfl
theorem Qmj (k:Nat) (o:XOb) (p:Nat×XOb) (r:List (Nat×XOb)):xset k o (p :: r)=cond (Nat.beq p.1 k) ((k,o) :: r) (p :: xset k o r):=by
 unfold xset
 cases h:Nat.beq p.1 k <;> simp[h]
theorem Q3d (k:Nat) (o:XOb) (l:List (Nat×XOb)):Q0 (xset k o l)=Ab.setObj k o.o (Q0 l):=by
 induction l with
 | nil=>rfl
 | cons p r ih =>
  obtain⟨j,x⟩:=p
  simp only[Qmj,Q0,List.map_cons,Ab.setObj]
  cases h:Nat.beq j k with
  | true=>simp[Nat.eq_of_beq_eq_true h]
  | false =>
   have:j≠k:=Nat.ne_of_beq_eq_false h
   simp[this]
   exact ih
theorem Q2k (k:Nat) (o:XOb) (l:List (Nat×XOb)) (j:Nat) (h:j≠k):lk j (xset k o l)=lk j l:=by
 induction l with
 | nil =>
  have:Nat.beq k j=false:=nbF (Ne.symm h)
  simp[Qy7,Q12,Q2b,this]
 | cons p r ih =>
  obtain⟨i,x⟩:=p
  simp only[Qmj]
  cases hi:Nat.beq i k with
  | true =>
   have e:=Nat.eq_of_beq_eq_true hi
   subst e
   have:Nat.beq i j=false:=nbF (Ne.symm h)
   simp[Q12,this]
  | false=>simp[Q12,ih]
noncomputable def putX (dst:Option Tmp) (x:XV) (env:List (Nat×XV)):List (Nat×XV) :=
 match dst with
 | some d=>(d,x) :: env
 | none=>env
theorem Qqe (dst:Option Tmp) (x:XV) (env:List (Nat×XV)):imEnv (putX dst x env)=Qm dst x.a (imEnv env):=by
 cases dst <;> rfl
noncomputable def logW (dst:Option Tmp) (wl:List Nat):List Nat :=
 match dst with
 | some d=>d :: wl
 | none=>wl
noncomputable def Q2r:Value→XD
 | .int .u8 n=>cond (decide (0≤n∧n < 256)) (.u8 (UInt8.ofNat n.toNat)) (.v (.int .u8 n))
 | .int k n=>.i k n
 | .bool b=>.b b
 | .string s=>.s s.data.toList
 | v=>.v v
theorem Q5g (v:Value):(Q2r v).d = .sc v:=by
 unfold Q2r
 split
 ·rename_i n
  by_cases h:0≤n∧n < 256
  ·simp only[h,decide_true,cond_true,XD.d,and_self]
   congr 2
   have:(UInt8.ofNat n.toNat).toNat=n.toNat:=by
    rw[UInt8.toNat_ofNat']
    omega
   rw[this]; omega
  ·simp only[h,decide_false,cond_false,XD.d]
 ·rfl
 ·rfl
 ·rename_i s
  simp only[XD.d,D.bs]
 ·rfl
noncomputable def xeval (st:XSt):Operand→Option XV
 | .tmp t=>cond (Nat.blt t GB) (lk t st.env) none
 | .const v=>some (.d (Q2r v))
 | .func f=>some (.clo f [])
 | .global k=>lk (GB+k) st.env
theorem Qz {st:XSt} {t:Nat} {v:XV} (h:xeval st (.tmp t)=some v):t < GB∧lk t st.env=some v:=by
 simp only[xeval] at h
 cases hb:Nat.blt t GB with
 | false=>simp[hb] at h
 | true=>exact⟨by simpa[Nat.blt_eq] using hb,by simpa[hb] using h⟩
theorem Q4r {st:XSt} {t:Nat} {v:XV} {y:AV} (h:lk t st.env=some v) (hle:∀(g:Gh) (w:World) (u:Value),RA g w v.a u→RA g w y u):Has st.im.env t y :=
 .le _ _ (by show(imEnv st.env).lookup t=some v.a; rw[Q4p,h]; rfl) hle
theorem Qs3 {st:XSt} {t:Nat} {v:XV} (h:lk t st.env=some v):Has st.im.env t v.a :=
 .eq _ (by show(imEnv st.env).lookup t=some v.a; rw[Q4p,h]; rfl)
theorem Q5 {st:XSt} {x:Operand} {v:XV} (h:xeval st x=some v):Sees st.im x v.a:=by
 cases x with
 | tmp t=>exact .tmp t _ (Qz h).1 (Qs3 (Qz h).2)
 | const u =>
  simp only[xeval,Option.some.injEq] at h
  subst h
  simp only[XV.a,Q5g]
  exact .const _ _ fun _ _=>.sc _
 | func f =>
  simp only[xeval,Option.some.injEq] at h
  subst h
  exact .func f
 | global k=>exact .glob k _ (Qs3 h)
noncomputable def ALe (x y:AV):Prop:=∀(g:Gh) (w:World) (v:Value),RA g w x v→RA g w y v
theorem ALe.refl (x:AV):ALe x x:=fun _ _ _ h=>h
theorem ALe.d {x y:D} (h:DLe x y):ALe (.d x) (.d y):=by
 intro g w v hr
 cases hr with
 | d _ _ hr=>exact .d _ _ (h _ _ _ hr)
theorem ALe.tip (n sz:Nat) (es:List (List D)) (ty:Option TypeId):ALe (.tip n sz es ty) (.d (.sl sz es)):=by
 intro g w v hr
 cases hr with
 | tip _ _ _ _ _ h _=>exact .d _ _ h
theorem Qll {st:XSt} {x:Operand} {a:XD} {y:D} (h:xeval st x=some (.d a)) (hle:DLe a.d y):Sees st.im x (.d y):=by
 cases x with
 | tmp t=>exact .tmp t _ (Qz h).1 (Q4r (Qz h).2 (ALe.d hle))
 | const u =>
  simp only[xeval,Option.some.injEq,XV.d.injEq] at h
  subst h
  rw[Q5g] at hle
  exact .const _ _ fun γ w=>hle γ w u (.sc u)
 | func f=>simp[xeval] at h
 | global k=>exact .glob k _ (Q4r h (ALe.d hle))
theorem Qwf {st:XSt} {x:Operand} {n:Nat} {t:Ty} {l:List t.T} {ty:Option TypeId} (h:xeval st x=some (.tip n t l ty)):Sees st.im x (.d (.sl t.size (l.map t.ds))):=by
 cases x with
 | tmp t=>exact .tmp t _ (Qz h).1 (Q4r (Qz h).2 (ALe.tip _ _ _ _))
 | const u=>simp[xeval] at h
 | func f=>simp[xeval] at h
 | global k=>exact .glob k _ (Q4r h (ALe.tip _ _ _ _))
noncomputable def XV.asD:XV→Option XD
 | .d x=>some x
 | .tip n t l ty=>some (.sl t l)
 | _=>none
noncomputable def xd (st:XSt) (x:Operand):Option XD :=
 match xeval st x with
 | some v=>v.asD
 | none=>none
theorem Qby {st:XSt} {x:Operand} {a:XD} {y:D} (h:xd st x=some a) (hle:DLe a.d y):Sees st.im x (.d y):=by
 unfold xd at h
 split at h
 ·rename_i v hv
  cases v with
  | d u=>simp only[XV.asD,Option.some.injEq] at h; subst h; exact Qll hv hle
  | tip n t l ty =>
   simp only[XV.asD,Option.some.injEq] at h
   subst h
   have:=Qwf hv
   cases x with
   | tmp i=>exact .tmp i _ (Qz hv).1 (Q4r (Qz hv).2 fun g w v hr=>ALe.d hle g w v (ALe.tip _ _ _ _ g w v hr))
   | const u=>simp[xeval] at hv
   | func f=>simp[xeval] at hv
   | global k=>exact .glob k _ (Q4r hv fun g w v hr=>ALe.d hle g w v (ALe.tip _ _ _ _ g w v hr))
  | _=>simp[XV.asD] at h
 ·cases h
theorem xd_at {st:XSt} {x:Operand} {a:XD} (h:xd st x=some a):Sees st.im x (.d a.d):=Qby h (.refl _)
end Go.Xl
namespace Go.Xl
open Go.Ab
inductive XEff where
 | none
 | look (ks:List Nat)
 | put (k:Nat) (c:XOb)
 | all
 | lab
 | putl (k:Nat) (c:XOb)
 | new (os:List (Nat×XOb))
structure Out where
 eff:XEff
 res:XV
 rd:List (Operand×XV)
 objs:List (Nat×XOb)
 live:List Nat
 F:List Nat
 ol:List Nat
noncomputable def imRd (l:List (Operand×XV)):List (Operand×AV):=l.map fun p=>(p.1,p.2.a)
noncomputable def Out.X (out:Out):Store:=⟨Q0 out.objs,out.live⟩
structure OpOk (P:Program) (o:Oper) (st:XSt) (out:Out):Prop where
 sees:∀p ∈ imRd out.rd,Sees st.im p.1 p.2
 op:match out.eff with
  | .none=>out.objs=st.objs∧out.live=st.live∧out.F = []∧∀X,OpT P o (imRd out.rd) X X [] out.res.a
  | .look ks=>out.objs=st.objs∧out.live=st.live∧out.F = []∧∀X:Store,(∀k ∈ ks,X.objs.lookup k=st.X.objs.lookup k)→OpT P o (imRd out.rd) X X [] out.res.a
  | .put k c=>out.objs=xset k c st.objs∧out.live=st.live∧out.F = []∧∀X:Store,X.objs.lookup k=st.X.objs.lookup k→OpT P o (imRd out.rd) X ⟨Ab.setObj k c.o X.objs,X.live⟩ [] out.res.a
  | .all=>OpT P o (imRd out.rd) st.X out.X out.F out.res.a
  | .lab=>out.objs=st.objs∧OpT P o (imRd out.rd) st.X out.X out.F out.res.a
  | .putl k c=>out.objs=xset k c st.objs∧OpT P o (imRd out.rd) st.X out.X out.F out.res.a
  | .new os=>out.objs=os++st.objs∧OpT P o (imRd out.rd) st.X out.X out.F out.res.a
 ol:∀k x,k ∉ out.ol→lk k out.objs=some x→lk k st.objs=some x
noncomputable def Q9 (st:XSt) (res:XV) (rd:List (Operand×XV)):Out:=⟨.none,res,rd,st.objs,st.live,[],[]⟩
theorem Q4 {P:Program} {o:Oper} {st:XSt} {res:XV} {rd:List (Operand×XV)} (hs:∀p ∈ imRd rd,Sees st.im p.1 p.2) (h:∀X,OpT P o (imRd rd) X X [] res.a):OpOk P o st (Q9 st res rd) :=
 ⟨hs,⟨rfl,rfl,rfl,h⟩,fun _ _ _ h=>h⟩
theorem sees1 {st:XSt} {x:Operand} {a:XD} (h:xd st x=some a):∀p ∈ imRd [(x,.d a)],Sees st.im p.1 p.2:=by
 intro p hp
 simp only[imRd,List.map_cons,List.map_nil,List.mem_singleton] at hp
 subst hp
 exact xd_at h
theorem sees2 {st:XSt} {x y:Operand} {a b:XD} (h:xd st x=some a) (h' : xd st y=some b):∀p ∈ imRd [(x,.d a),(y,.d b)],Sees st.im p.1 p.2:=by
 intro p hp
 simp only[imRd,List.map_cons,List.map_nil,List.mem_cons,List.not_mem_nil,or_false] at hp
 rcases hp with rfl | rfl
 ·exact xd_at h
 ·exact xd_at h'
noncomputable def at? {α:Type} (l:List α):Int→Option α
 | .ofNat n=>l[n]?
 | .negSucc _=>none
theorem at?_some {α:Type} {l:List α} {n:Int} {x:α} (h:at? l n=some x):0≤n∧l[n.toNat]? = some x:=by
 cases n with
 | ofNat m=>exact⟨Int.natCast_nonneg m,h⟩
 | negSucc m=>cases h
noncomputable def toU8 (n:Int):UInt8:=UInt8.ofNat (n % 256).toNat
theorem Qai (n:Int):((toU8 n).toNat:Int)=IntKind.u8.wrap n:=by
 unfold toU8 IntKind.wrap
 rw[UInt8.toNat_ofNat']
 simp[IntKind.bits,IntKind.signed]
 omega
noncomputable def binI (op:BinOp) (k:IntKind) (a b:Int):Option XD :=
 match op with
 | .add=>some (.i k (k.wrap (a+b)))
 | .sub=>some (.i k (k.wrap (a - b)))
 | .mul=>some (.i k (k.wrap (a*b)))
 | .eql=>some (.b (a == b))
 | .neq=>some (.b (a != b))
 | .lss=>some (.b (decide (a < b)))
 | .leq=>some (.b (decide (a≤b)))
 | .gtr=>some (.b (decide (b < a)))
 | .geq=>some (.b (decide (b≤a)))
 | .and=>some (.i k (bits .and k a b))
 | .or=>some (.i k (bits .or k a b))
 | .xor=>some (.i k (bits .xor k a b))
 | _=>none
theorem Qxc {op:BinOp} {k:IntKind} {a b:Int} {x:XD} (h:binI op k a b=some x):∃v,x.d = .sc v∧Qfj op k a b=some v:=by
 cases op <;> simp[binI] at h <;> subst h <;> exact⟨_,rfl,rfl⟩
noncomputable def binU8 (op:BinOp) (a b:UInt8):Option XD :=
 match op with
 | .add=>some (.u8 (a+b))
 | .sub=>some (.u8 (a - b))
 | .mul=>some (.u8 (a*b))
 | .eql=>some (.b (a == b))
 | .neq=>some (.b (a != b))
 | .lss=>some (.b (decide (a < b)))
 | .leq=>some (.b (decide (a≤b)))
 | .gtr=>some (.b (decide (b < a)))
 | .geq=>some (.b (decide (b≤a)))
 | .and=>some (.u8 (toU8 (bits .and .u8 (a.toNat:Int) (b.toNat:Int))))
 | .or=>some (.u8 (toU8 (bits .or .u8 (a.toNat:Int) (b.toNat:Int))))
 | .xor=>some (.u8 (toU8 (bits .xor .u8 (a.toNat:Int) (b.toNat:Int))))
 | _=>none
theorem Q83 (k:IntKind) (n:Int):k.wrap (k.wrap n)=k.wrap n:=by
 unfold IntKind.wrap
 cases k <;> simp[IntKind.bits,IntKind.signed] <;> (try split) <;> (try split) <;> omega
section
variable {P:Program} {R:Type}
noncomputable def Qv (P:Program) (t:TypeId):Option (TypeId×Nat×Nat) :=
 match P.underlying t with
 | some (.slice e) =>
  match P.info? e with
  | some i=>cond (match i.zero with | some z=>Nat.beq z.cells.size i.size | none=>false) (some (e,i.size,i.bytes)) none
  | none=>none
 | _=>none
theorem Qd {t e sz bytes:Nat} (h:Qv P t=some (e,sz,bytes)):SliceI P t e sz bytes:=by
 unfold Qv at h
 split at h
 ·rename_i e' ht
  split at h
  ·rename_i i hi
   cases hz:i.zero with
   | none=>simp[hz] at h
   | some z =>
    simp only[hz] at h
    cases hb:Nat.beq z.cells.size i.size with
    | false=>simp[hb] at h
    | true =>
     simp only[hb,cond_true,Option.some.injEq,Prod.mk.injEq] at h
     obtain⟨rfl,rfl,rfl⟩:=h
     exact⟨ht,i,z,hi,rfl,rfl,hz,Nat.eq_of_beq_eq_true hb⟩
  ·cases h
 ·cases h
noncomputable def tyI (P:Program) (t:TypeId):Option (Bool×Nat) :=
 match P.underlying t,P.info? t with
 | some d,some i=>some (aggD d,i.size)
 | _,_=>none
theorem tyI_I {t:TypeId} {agg:Bool} {sz:Nat} (h:tyI P t=some (agg,sz)):TyI P t agg sz:=by
 unfold tyI at h
 split at h
 ·rename_i d i hd hi
  cases h
  exact⟨⟨d,hd,rfl⟩,⟨i,hi,rfl⟩⟩
 ·cases h
noncomputable def Qil (P:Program) (s n:Nat):Option (Nat×Nat×Bool) :=
 match P.underlying s with
 | some (.struct fs) =>
  match fs[n]? with
  | some f =>
   match tyI P f.type with
   | some (agg,sz)=>cond (Nat.beq sz 0) none (some (f.offset,sz,agg))
   | none=>none
  | none=>none
 | _=>none
theorem Q9q {s n off sz:Nat} {agg:Bool} (h:Qil P s n=some (off,sz,agg)):FieldI P s n off sz agg:=by
 unfold Qil at h
 split at h
 ·rename_i fs hfs
  split at h
  ·rename_i f hf
   split at h
   ·rename_i ag sz' ht
    cases hz:Nat.beq sz' 0 with
    | true=>simp[hz] at h
    | false =>
     simp only[hz,cond_false,Option.some.injEq,Prod.mk.injEq] at h
     obtain⟨rfl,rfl,rfl⟩:=h
     exact⟨⟨fs,f,hfs,hf,rfl,tyI_I ht⟩,Nat.ne_of_beq_eq_false hz⟩
   ·cases h
  ·cases h
 ·cases h
-- move, assign
noncomputable def xMove (st:XSt) (x:Operand) (K:Out→Option R):Option R :=
 match xeval st x with
 | some v=>K (Q9 st v [(x,v)])
 | none=>none
theorem Qi {st:XSt} {x:Operand} {v:XV} (h:xeval st x=some v):∀p ∈ imRd [(x,v)],Sees st.im p.1 p.2:=by
 intro p hp
 simp only[imRd,List.map_cons,List.map_nil,List.mem_singleton] at hp
 subst hp
 exact Q5 h
theorem Qi8 {o:Oper} {st:XSt} {x:Operand} {K:Out→Option R} {r:R} (ho:o.op = .move x∨o.op = .assign x) (h:xMove st x K=some r):∃out,K out=some r∧OpOk P o st out:=by
 unfold xMove at h
 split at h
 ·rename_i v hv
  refine⟨_,h,Q4 (Qi hv) fun X=>?_⟩
  rcases ho with ho | ho
  ·exact Qyo ho
  ·exact Qx0 ho
 ·cases h
-- pick
noncomputable def xPick (st:XSt) (c x y:Operand) (K:Out→Option R):Option R :=
 match xeval st c with
 | some (.d (.b b)) =>
  cond b (match xeval st x with | some v=>K (Q9 st v [(c,.d (.b true)),(x,v)]) | none=>none)
   (match xeval st y with | some v=>K (Q9 st v [(c,.d (.b false)),(y,v)]) | none=>none)
 | _=>none
theorem Qyd {o:Oper} {st:XSt} {c x y:Operand} {K:Out→Option R} {r:R} (ho:o.op = .pick c x y) (h:xPick st c x y K=some r):∃out,K out=some r∧OpOk P o st out:=by
 unfold xPick at h
 split at h
 ·rename_i b hb
  cases b with
  | true =>
   simp only[cond_true] at h
   split at h
   ·rename_i v hv
    refine⟨_,h,Q4 ?_ fun X=>Qpv ho⟩
    intro p hp
    simp only[imRd,List.map_cons,List.map_nil,List.mem_cons,List.not_mem_nil,or_false] at hp
    rcases hp with rfl | rfl
    ·exact Q5 hb
    ·exact Q5 hv
   ·cases h
  | false =>
   simp only[cond_false] at h
   split at h
   ·rename_i v hv
    refine⟨_,h,Q4 ?_ fun X=>Qnt ho⟩
    intro p hp
    simp only[imRd,List.map_cons,List.map_nil,List.mem_cons,List.not_mem_nil,or_false] at hp
    rcases hp with rfl | rfl
    ·exact Q5 hb
    ·exact Q5 hv
   ·cases h
 ·cases h
end
end Go.Xl
namespace Go.Xl
open Go.Ab
section
variable {P:Program} {o:Oper} {X:Store}
theorem Qzr {t t' : TypeId} {x y:Operand} {k j:IntKind} {a b:Int} (ho:o.op = .binOp .shl t x y t') (hb:0≤b) :
  OpT P o [(x,.d (.int k a)),(y,.d (.int j b))] X X [] (.d (.int k (k.wrap (a*2 ^ (min b.toNat k.bits))))) :=
 .quiet fun _ _ g w ac _ hrd=>by
  have h1:=(rd0 hrd).sc_inv
  have h2:=(rd1 hrd).sc_inv
  simp only at h1 h2
  refine⟨_,?_,.ofSc _ _ _⟩
  have hg:eqGuard .shl t x y (.int k a) (.int j b)=pure ():=rfl
  simp only[execOp,ho,h1,h2,hg]
  simp[binOp,Op.shift,show ¬b < 0 by omega]
theorem Qzs {t t' : TypeId} {x y:Operand} {k j:IntKind} {a b:Int} (ho:o.op = .binOp .shr t x y t') (hb:0≤b) :
  OpT P o [(x,.d (.int k a)),(y,.d (.int j b))] X X [] (.d (.int k (a.fdiv (2 ^ (min b.toNat k.bits))))) :=
 .quiet fun _ _ g w ac _ hrd=>by
  have h1:=(rd0 hrd).sc_inv
  have h2:=(rd1 hrd).sc_inv
  simp only at h1 h2
  refine⟨_,?_,.ofSc _ _ _⟩
  have hg:eqGuard .shr t x y (.int k a) (.int j b)=pure ():=rfl
  simp only[execOp,ho,h1,h2,hg]
  simp[binOp,Op.shift,show ¬b < 0 by omega]
theorem Qw0 {t t' : TypeId} {x y:Operand} {k:IntKind} {a b:Int} (ho:o.op = .binOp .andNot t x y t') :
  OpT P o [(x,.d (.int k a)),(y,.d (.int k b))] X X [] (.d (.int k (bits .andNot k a b))) :=
 .quiet fun _ _ g w ac _ hrd=>by
  have h1:=(rd0 hrd).sc_inv
  have h2:=(rd1 hrd).sc_inv
  simp only at h1 h2
  refine⟨_,?_,.ofSc _ _ _⟩
  have hg:eqGuard .andNot t x y (.int k a) (.int k b)=pure ():=rfl
  simp only[execOp,ho,h1,h2,hg]
  simp[binOp,Op.intBits,bits]
noncomputable def cmpS (op:BinOp) (a b:List UInt8):Option Bool :=
 match op with
 | .eql=>some (a == b)
 | .neq=>some (a != b)
 | .lss=>some (Op.bytesLess a b)
 | .leq=>some (Op.bytesLess a b || a == b)
 | .gtr=>some (!(Op.bytesLess a b || a == b))
 | .geq=>some (!(Op.bytesLess a b))
 | _=>none
theorem Qz3 {op:BinOp} {t t' : TypeId} {x y:Operand} {a b:List UInt8} {c:Bool} (ho:o.op = .binOp op t x y t') (hc:cmpS op a b=some c) :
  OpT P o [(x,.d (.bs a)),(y,.d (.bs b))] X X [] (.d (.bool c)) :=
 .quiet fun _ _ g w ac _ hrd=>by
  have h1:=(rd0 hrd).sc_inv
  have h2:=(rd1 hrd).sc_inv
  simp only at h1 h2
  refine⟨_,?_,.ofSc _ _ _⟩
  have e1:(⟨a.toArray⟩:ByteArray).toList=a:=by simp[ByteArray.toList_eq]
  have e2:(⟨b.toArray⟩:ByteArray).toList=b:=by simp[ByteArray.toList_eq]
  cases op <;> simp only[cmpS,Option.some.injEq,reduceCtorEq] at hc <;> subst hc <;>
   simp[execOp,ho,h1,h2,eqGuard,binOp,Op.stringOp,e1,e2,bne]
noncomputable def eqS (P:Program):Nat→TypeId→List XD→List XD→Option Bool
 | 0,_,_,_=>none
 | d+1,t,xs,ys =>
  match P.underlying t with
  | some (.int _) =>
   match xs,ys with
   | [.i k a],[.i k' b]=>cond (kindB k k') (some (a == b)) none
   | [.u8 a],[.u8 b]=>some (a == b)
   | [.u8 a],[.i .u8 b]=>some (((a.toNat:Nat):Int) == b)
   | [.i .u8 a],[.u8 b]=>some (a == ((b.toNat:Nat):Int))
   | _,_=>none
  | some .bool =>
   match xs,ys with
   | [.b a],[.b b]=>some (a == b)
   | _,_=>none
  | some .string =>
   match xs,ys with
   | [.s a],[.s b]=>some (a == b)
   | _,_=>none
  | some (.struct fs)=>cond (P.stoodInHeld t) none (eqFs P (eqS P d) xs ys fs.toList)
  | _=>none
where
 eqFs (P:Program) (rec:TypeId→List XD→List XD→Option Bool) (xs ys:List XD):List Field→Option Bool
 | []=>some true
 | f :: fs =>
  match tyI P f.type with
  | some (_,sz) =>
   cond (decide (f.name = "_")) none (match rec f.type ((xs.drop f.offset).take sz) ((ys.drop f.offset).take sz) with
    | some a=>match fs with
     | []=>some a
     | _=>match eqFs P rec xs ys fs with
      | some b=>some (a && b)
      | none=>none
    | none=>none)
  | none=>none
noncomputable def VR (γ:Nat→Nat) (w:World) (xs:List XD) (vs:Array Value):Prop :=
 xs.length=vs.size∧∀(i:Nat) x v,xs[i]? = some x→vs[i]? = some v→RD γ w x.d v
noncomputable def ofCells (agg:Bool) (vs:Array Value):Value:=if agg then .agg vs else vs.getD 0 undef
theorem VR.sub {γ:Nat→Nat} {w:World} {xs:List XD} {vs:Array Value} (h:VR γ w xs vs) (off sz:Nat):VR γ w ((xs.drop off).take sz) (vs.extract off (off+sz)):=by
 refine⟨by simp[h.1]; omega,?_⟩
 intro i x v hx hv
 rw[List.getElem?_take] at hx
 split at hx
 ·rw[List.getElem?_drop] at hx
  rw[Array.getElem?_extract] at hv
  split at hv
  ·exact h.2 _ x v hx hv
  ·cases hv
 ·cases hx
theorem Q6a {t:TypeId} {agg:Bool} {sz:Nat} (ht:TyI P t agg sz) (vs:Array Value) (off:Nat) (w:World) (h1:agg=false→off < vs.size∧0 < sz) :
  (part t vs off).run P w = .ok (ofCells agg (vs.extract off (off+sz))) w:=by
 unfold part
 rw[Sem.run_bind,Qaa ht,Result.andThen_ok]
 cases agg with
 | true=>simp[ht.run_size,ofCells]
 | false =>
  obtain⟨h0,h2⟩:=h1 rfl
  have:0 < min (off+sz) vs.size - off:=by omega
  simp[h0,ofCells,Array.getD,this]
theorem Qld {γ:Nat→Nat} {w:World}:∀(d:Nat) (t:TypeId) (xs ys:List XD) (b:Bool) (vs us:Array Value) (e:Nat) (dd:TypeDesc),eqS P d t xs ys=some b→P.underlying t=some dd→VR γ w xs vs→VR γ w ys us →
  (Op.equalIn (d+e) t (ofCells (aggD dd) vs) (ofCells (aggD dd) us)).run P w = .ok b w
 | 0,t,xs,ys,b,vs,us,e,dd,h,hd,hx,hy=>by simp[eqS] at h
 | d+1,t,xs,ys,b,vs,us,e,dd,h,hd,hx,hy=>by
  have one:∀ {xs:List XD} {vs:Array Value} {x:XD},VR γ w xs vs→xs = [x]→∃v,vs = #[v]∧RD γ w x.d v:=by
   intro xs vs x h he
   subst he
   obtain⟨h1,h2⟩:=h
   have:vs.size=1:=by simpa using h1.symm
   refine⟨vs[0],?_,h2 0 x _ rfl (by simp[this])⟩
   apply Array.ext
   ·simp[this]
   ·intro i h1 h2
    have:i=0:=by simp at h2; omega
    subst this; rfl
  have scInv:∀ {v u:Value},RD γ w (.sc u) v→v=u:=by intro v u h; cases h; rfl
  unfold eqS at h
  rw[show d+1+e=(d+e)+1 by omega]
  rw[hd] at h
  cases dd with
  | int k0 =>
   simp only[aggD,ofCells]
   simp only at h
   split at h
   ·rename_i k a k' b'
    cases hk:kindB k k' <;> simp[hk] at h
    have:=Q13 hk; subst this; subst h
    obtain⟨v,rfl,hv⟩:=one hx rfl
    obtain⟨u,rfl,hu⟩:=one hy rfl
    have:=scInv hv; subst this; have:=scInv hu; subst this
    simpa using run_equalIn_int w (d+e) t k k0 a b' hd
   ·rename_i a b'
    simp at h; subst h
    obtain⟨v,rfl,hv⟩:=one hx rfl
    obtain⟨u,rfl,hu⟩:=one hy rfl
    have:=scInv hv; subst this; have:=scInv hu; subst this
    have e1:=run_equalIn_int (P:=P) w (d+e) t .u8 k0 (a.toNat:Int) (b'.toNat:Int) hd
    have e2:(((a.toNat:Nat):Int) == ((b'.toNat:Nat):Int))=(a == b'):=by
     rw[Bool.eq_iff_iff]; simp only[beq_iff_eq]; exact Qjz
    rw[e2] at e1
    simpa using e1
   ·rename_i a b'
    simp at h; subst h
    obtain⟨v,rfl,hv⟩:=one hx rfl
    obtain⟨u,rfl,hu⟩:=one hy rfl
    have:=scInv hv; subst this; have:=scInv hu; subst this
    simpa using run_equalIn_int (P:=P) w (d+e) t .u8 k0 (a.toNat:Int) b' hd
   ·rename_i a b'
    simp at h; subst h
    obtain⟨v,rfl,hv⟩:=one hx rfl
    obtain⟨u,rfl,hu⟩:=one hy rfl
    have:=scInv hv; subst this; have:=scInv hu; subst this
    simpa using run_equalIn_int (P:=P) w (d+e) t .u8 k0 a (b'.toNat:Int) hd
   ·cases h
  | bool =>
   simp only[aggD,ofCells]
   simp only at h
   split at h
   ·rename_i a b'
    simp at h; subst h
    obtain⟨v,rfl,hv⟩:=one hx rfl
    obtain⟨u,rfl,hu⟩:=one hy rfl
    have:=scInv hv; subst this; have:=scInv hu; subst this
    simpa using run_equalIn_bool' (P:=P) w (d+e) t a b' hd
   ·cases h
  | string =>
   simp only[aggD,ofCells]
   simp only at h
   split at h
   ·rename_i a b'
    simp at h; subst h
    obtain⟨v,rfl,hv⟩:=one hx rfl
    obtain⟨u,rfl,hu⟩:=one hy rfl
    have:=scInv hv; subst this; have:=scInv hu; subst this
    have:=run_equalIn_string (P:=P) w (d+e) t ⟨a.toArray⟩ ⟨b'.toArray⟩ hd
    simp only[ByteArray.toList_eq] at this
    simpa using this
   ·cases h
  | struct fs =>
   simp only[aggD,ofCells]
   simp only at h
   cases hs:P.stoodInHeld t with
   | true=>simp[hs] at h
   | false =>
    simp only[hs,cond_false] at h
    have hf:P.fieldsOf t=fs:=by simp[Program.fieldsOf,hd]
    have:=run_equalIn_agg (P:=P) w (d+e) t vs us (by rw[hf]; exact hd) hs
    rw[hf] at this
    simp only[if_true]
    rw[this]
    clear this hf hd hs
    generalize fs.toList=fl at h
    induction fl generalizing b with
    | nil=>simp[eqS.eqFs] at h; subst h; rfl
    | cons f fl ih =>
     unfold eqS.eqFs at h
     split at h
     ·rename_i ag sz htyp
      have hT:=tyI_I htyp
      by_cases hn : f.name = "_"
      ·simp[hn] at h
      ·simp only[hn,decide_false,cond_false] at h
       split at h
       ·rename_i a ha
        obtain⟨⟨d1,hd1,hag⟩,_⟩:=id hT
        have key:=Qld d f.type _ _ a _ _ e d1 ha hd1 (hx.sub f.offset sz) (hy.sub f.offset sz)
        rw[hag] at key
        have hin:∀ {zs:List XD} {ws:Array Value},VR γ w zs ws→(∃q,(zs.drop f.offset).take sz=q∧q≠[])→f.offset < ws.size∧0 < sz:=by
         intro zs ws hz ⟨q,hq,hne⟩
         have:0 < ((zs.drop f.offset).take sz).length:=by rw[hq]; exact List.length_pos_iff.2 hne
         simp at this
         rw[← hz.1]; omega
        have hne:ag=false→((xs.drop f.offset).take sz≠[])∧((ys.drop f.offset).take sz≠[]):=by
         intro hg
         subst hg
         refine⟨fun h0=>?_,fun h0=>?_⟩
         ·rw[h0] at ha
          cases d with
          | zero=>simp[eqS] at ha
          | succ d =>
           unfold eqS at ha
           rw[hd1] at ha
           cases d1 <;> simp[aggD] at hag <;> simp at ha
         ·rw[h0] at ha
          cases d with
          | zero=>simp[eqS] at ha
          | succ d =>
           unfold eqS at ha
           rw[hd1] at ha
           cases d1 <;> simp[aggD] at hag <;> simp at ha
           all_goals (split at ha <;> simp_all)
        have p1:=Q6a hT vs f.offset w (fun hg=>hin hx ⟨_,rfl,(hne hg).1⟩)
        have p2:=Q6a hT us f.offset w (fun hg=>hin hy ⟨_,rfl,(hne hg).2⟩)
        simp only[Op.eqFields,ne_eq,hn,not_false_eq_true,if_true,Sem.run_bind,p1,p2,Result.andThen_ok,key]
        split at h
        ·cases h
         cases b <;> simp[Op.eqFields]
        ·rename_i hfl
         split at h
         ·rename_i b2 hb2
          cases h
          have:=ih b2 hb2
          cases a with
          | true=>simpa using this
          | false=>simp
         ·cases h
       ·cases h
     ·cases h
  | _=>simp at h
theorem Qw7 {op:BinOp} {t t' : TypeId} {x y:Operand} {xs ys:List XD} {b:Bool} (hop:op = .eql∨op = .neq) (ho:o.op = .binOp op t x y t') (hb:eqS P 9 t xs ys=some b)
  (ht:(P.underlying t).map aggD=some true) (hm:P.eqGuardType P.depth t=false) :
  OpT P o [(x,.d (.agg (dsOf xs))),(y,.d (.agg (dsOf ys)))] X X [] (.d (.bool (if op = .eql then b else !b))) :=
 .quiet fun _ _ g w ac _ hrd=>by
  have h1:=rd0 hrd
  have h2:=rd1 hrd
  simp only at h1 h2
  have ag:∀ {zs:List XD} {v:Value},RA g w (.d (.agg (dsOf zs))) v→∃vs,v = .agg vs∧VR g.γ w zs vs:=by
   intro zs v h
   cases h with
   | d _ _ h =>
    cases h with
    | agg _ vs hl hc =>
     refine⟨vs,rfl,by simpa[Q25] using hl,fun i x u hx hu=>hc i x.d u ?_ hu⟩
     rw[Q2n,List.getElem?_map,hx]; rfl
  obtain⟨vs,hv,hvr⟩:=ag h1
  obtain⟨us,hu,hur⟩:=ag h2
  obtain⟨dd,hd,hag⟩:=Option.map_eq_some_iff.1 ht
  have key:=Qld (P:=P) (w:=w) 9 t xs ys b vs us 9991 dd hb hd hvr hur
  rw[hag] at key
  simp only[ofCells,if_true] at key
  refine⟨_,?_,.ofSc _ _ _⟩
  rcases hop with rfl | rfl
  ·simp only[execOp,ho,hv,hu]
   simp[run_eqGuard_agg (P:=P) w .eql t x y vs us hm,run_eql_struct,key]
  ·simp only[execOp,ho,hv,hu]
   simp[run_eqGuard_agg (P:=P) w .neq t x y vs us hm,run_neq_struct,key]
end
end Go.Xl
namespace Go.Xl
open Go.Ab
section
variable {P:Program} {R:Type}
noncomputable def intX (k:IntKind) (n:Int):XD :=
 match k with
 | .u8=>.u8 (toU8 n)
 | k=>.i k n
theorem Qlz (k:IntKind) (n:Int) (h:k = .u8→IntKind.u8.wrap n=n):(intX k n).d = .int k n:=by
 unfold intX
 split
 ·simp only[XD.d]
  rw[Qai,h rfl]
 ·rfl
noncomputable def Qom (op:BinOp) (k:IntKind) (a b:Int) (K:XD→Option R):Option R :=
 match op with
 | .quo=>cond (b == 0) none (K (.i k (k.wrap (a.tdiv b))))
 | .rem=>cond (b == 0) none (K (.i k (a.tmod b)))
 | .andNot=>K (.i k (bits .andNot k a b))
 | op=>match binI op k a b with
  | some x=>K x
  | none=>none
noncomputable def Qkt (op:BinOp) (a b:UInt8) (K:XD→Option R):Option R :=
 match op with
 | .quo=>cond (b == 0) none (K (.u8 (a / b)))
 | .rem=>cond (b == 0) none (K (.u8 (a % b)))
 | op=>match binU8 op a b with
  | some x=>K x
  | none=>none
noncomputable def Qbd (op:BinOp) (k:IntKind) (a b:Int) (K:XD→Option R):Option R :=
 match op with
 | .shl=>cond (decide (0≤b)) (K (intX k (k.wrap (a*2 ^ (min b.toNat k.bits))))) none
 | .shr=>cond (decide (0≤b)) (match k with
  | .u8=>none
  | k=>K (.i k (a.fdiv (2 ^ (min b.toNat k.bits))))) none
 | _=>none
noncomputable def Q6d:BinOp→Bool
 | .shl | .shr=>true
 | _=>false
noncomputable def binS (op:BinOp) (a b:List UInt8) (K:XD→Option R):Option R :=
 match op with
 | .add=>cond (decide (a.length+b.length≤4611686018427387904)) (K (.s (a++b))) none
 | op=>match cmpS op a b with
  | some c=>K (.b c)
  | none=>none
noncomputable def Qvq (P:Program) (op:BinOp) (t:TypeId) (xs ys:List XD) (K:XD→Option R):Option R :=
 match eqS P 9 t xs ys,P.underlying t with
 | some b,some (.struct _)=>cond (P.eqGuardType P.depth t) none (match op with
  | .eql=>K (.b b)
  | .neq=>K (.b (!b))
  | _=>none)
 | _,_=>none
noncomputable def binB (P:Program) (op:BinOp) (t:TypeId) (a b:Bool) (K:XD→Option R):Option R :=
 match P.underlying t with
 | some .bool=>match op with
  | .eql=>K (.b (a == b))
  | .neq=>K (.b (!(a == b)))
  | _=>none
 | _=>none
noncomputable def binX (P:Program) (op:BinOp) (t:TypeId) (x y:XD) (K:XD→Option R):Option R :=
 match x,y with
 | .i k a,.i k' b=>cond (Q6d op) (Qbd op k a b K) (cond (kindB k k') (Qom op k a b K) none)
 | .i k a,.u8 b=>cond (Q6d op) (Qbd op k a (b.toNat:Int) K) none
 | .u8 a,.i k b=>cond (Q6d op) (Qbd op .u8 (a.toNat:Int) b K) none
 | .u8 a,.u8 b=>cond (Q6d op) (Qbd op .u8 (a.toNat:Int) (b.toNat:Int) K) (Qkt op a b K)
 | .s a,.s b=>binS op a b K
 | .b a,.b b=>binB P op t a b K
 | .agg xs,.agg ys=>Qvq P op t xs ys K
 | _,_=>none
theorem Qa9 {o:Oper} {op:BinOp} {t t' : TypeId} {x y:Operand} {k j:IntKind} {a b:Int} {K:XD→Option R} {r:R} (ho:o.op = .binOp op t x y t') (h:Qbd op k a b K=some r) :
  ∃z,K z=some r∧∀X,OpT P o [(x,.d (.int k a)),(y,.d (.int j b))] X X [] (.d z.d):=by
 unfold Qbd at h
 split at h
 ·by_cases hb:0≤b
  ·simp only[hb,decide_true,cond_true] at h
   refine⟨_,h,fun X=>?_⟩
   rw[Qlz k _ (fun hk=>by subst hk; exact Q83 _ _)]
   exact Qzr ho hb
  ·simp[hb] at h
 ·by_cases hb:0≤b
  ·simp only[hb,decide_true,cond_true] at h
   split at h
   ·cases h
   ·exact⟨_,h,fun X=>Qzs ho hb⟩
  ·simp[hb] at h
 ·cases h
theorem Qv1 {o:Oper} {op:BinOp} {t t' : TypeId} {x y:Operand} {k:IntKind} {a b:Int} {K:XD→Option R} {r:R} (ho:o.op = .binOp op t x y t') (h:Qom op k a b K=some r) :
  ∃z,K z=some r∧∀X,OpT P o [(x,.d (.int k a)),(y,.d (.int k b))] X X [] (.d z.d):=by
 unfold Qom at h
 split at h
 ·by_cases hb:b=0
  ·simp[hb] at h
  ·have:(b == 0)=false:=by simpa using hb
   simp only[this,cond_false] at h
   exact⟨_,h,fun X=>Qw9 ho hb rfl⟩
 ·by_cases hb:b=0
  ·simp[hb] at h
  ·have:(b == 0)=false:=by simpa using hb
   simp only[this,cond_false] at h
   exact⟨_,h,fun X=>Qvk ho hb rfl⟩
 ·exact⟨_,h,fun X=>Qw0 ho⟩
 ·split at h
  ·rename_i z hz
   obtain⟨v,hv,hr⟩:=Qxc hz
   refine⟨z,h,fun X=>?_⟩
   rw[hv]
   exact Qw6 ho hr
  ·cases h
theorem Qyw (b:UInt8):IntKind.u8.wrap (b.toNat:Int)=(b.toNat:Int):=by
 have:=b.toNat_lt
 unfold IntKind.wrap
 simp[IntKind.bits,IntKind.signed]
 omega
theorem Qxu {o:Oper} {op:BinOp} {t t' : TypeId} {x y:Operand} {a b:UInt8} {K:XD→Option R} {r:R} (ho:o.op = .binOp op t x y t') (h:Qkt op a b K=some r) :
  ∃z,K z=some r∧∀X,OpT P o [(x,.d (.int .u8 (a.toNat:Int))),(y,.d (.int .u8 (b.toNat:Int)))] X X [] (.d z.d):=by
 have ha:=a.toNat_lt
 have hb:=b.toNat_lt
 unfold Qkt at h
 split at h
 ·by_cases hb:b=0
  ·simp[hb] at h
  ·have hb' : (b == 0)=false:=by simpa using hb
   simp only[hb',cond_false] at h
   refine⟨_,h,fun X=>?_⟩
   have h0:((b.toNat:Nat):Int)≠0:=by
    intro h0
    apply hb
    apply UInt8.toNat_inj.1
    simpa using h0
   refine Qw9 ho h0 ?_
   rw[show(((a / b:UInt8).toNat:Nat):Int)=((a.toNat:Nat):Int).tdiv ((b.toNat:Nat):Int) by rw[UInt8.toNat_div]; rfl]
   have:(((a / b:UInt8).toNat:Nat):Int)=((a.toNat:Nat):Int).tdiv ((b.toNat:Nat):Int):=by rw[UInt8.toNat_div]; rfl
   rw[← this]; exact Qyw _
 ·by_cases hb:b=0
  ·simp[hb] at h
  ·have hb' : (b == 0)=false:=by simpa using hb
   simp only[hb',cond_false] at h
   refine⟨_,h,fun X=>?_⟩
   have h0:((b.toNat:Nat):Int)≠0:=by
    intro h0
    apply hb
    apply UInt8.toNat_inj.1
    simpa using h0
   exact Qvk ho h0 (by rw[UInt8.toNat_mod]; rfl)
 ·split at h
  ·rename_i z hz
   refine⟨z,h,fun X=>?_⟩
   have mk:∀ {v:Value},Qfj op .u8 (a.toNat:Int) (b.toNat:Int)=some v→z.d = .sc v→OpT P o [(x,.d (.int .u8 (a.toNat:Int))),(y,.d (.int .u8 (b.toNat:Int)))] X X [] (.d z.d):=by
    intro v h1 h2
    rw[h2]; exact Qw6 ho h1
   unfold binU8 at hz
   split at hz <;> simp only[Option.some.injEq,reduceCtorEq] at hz <;> subst hz
   ·refine mk rfl ?_
    simp only[XD.d]; congr 2
   ·refine mk rfl ?_
    simp only[XD.d]; congr 2
    rw[UInt8.toNat_sub]; unfold IntKind.wrap; simp[IntKind.bits,IntKind.signed]; omega
   ·refine mk rfl ?_
    simp only[XD.d]; congr 2
   ·refine mk rfl ?_
    simp only[XD.d,D.bool]; congr 2
    rw[Bool.eq_iff_iff]; simp only[beq_iff_eq]; exact Qjz.symm
   ·refine mk rfl ?_
    simp only[XD.d,D.bool]; congr 2
    rw[Bool.eq_iff_iff]; simp only[bne_iff_ne,ne_eq]; exact not_congr Qjz.symm
   ·refine mk rfl ?_
    simp only[XD.d,D.bool]; congr 2
    rw[Bool.eq_iff_iff]; simp[UInt8.lt_iff_toNat_lt]
   ·refine mk rfl ?_
    simp only[XD.d,D.bool]; congr 2
    rw[Bool.eq_iff_iff]; simp[UInt8.le_iff_toNat_le]
   ·refine mk rfl ?_
    simp only[XD.d,D.bool]; congr 2
    rw[Bool.eq_iff_iff]; simp[UInt8.lt_iff_toNat_lt]
   ·refine mk rfl ?_
    simp only[XD.d,D.bool]; congr 2
    rw[Bool.eq_iff_iff]; simp[UInt8.le_iff_toNat_le]
   ·refine mk rfl ?_
    simp only[XD.d]; congr 2
    rw[Qai]; unfold bits; exact Q83 _ _
   ·refine mk rfl ?_
    simp only[XD.d]; congr 2
    rw[Qai]; unfold bits; exact Q83 _ _
   ·refine mk rfl ?_
    simp only[XD.d]; congr 2
    rw[Qai]; unfold bits; exact Q83 _ _
  ·cases h
theorem Qzi {o:Oper} {op:BinOp} {t t' : TypeId} {x y:Operand} {a b:XD} {K:XD→Option R} {r:R} (ho:o.op = .binOp op t x y t') (h:binX P op t a b K=some r) :
  ∃z,K z=some r∧∀X,OpT P o [(x,.d a.d),(y,.d b.d)] X X [] (.d z.d):=by
 unfold binX at h
 split at h
 ·rename_i k a k' b
  cases hs:Q6d op with
  | true=>simp only[hs,cond_true] at h; exact Qa9 ho h
  | false =>
   simp only[hs,cond_false] at h
   cases hk:kindB k k' with
   | false=>simp[hk] at h
   | true =>
    have:=Q13 hk
    subst this
    simp only[hk,cond_true] at h
    exact Qv1 ho h
 ·cases hs:Q6d op with
  | true=>simp only[hs,cond_true] at h; exact Qa9 ho h
  | false=>simp[hs] at h
 ·cases hs:Q6d op with
  | true=>simp only[hs,cond_true] at h; exact Qa9 ho h
  | false=>simp[hs] at h
 ·cases hs:Q6d op with
  | true=>simp only[hs,cond_true] at h; exact Qa9 ho h
  | false=>simp only[hs,cond_false] at h; exact Qxu ho h
 ·rename_i a b
  unfold binS at h
  split at h
  ·by_cases hl:a.length+b.length≤4611686018427387904
   ·simp only[hl,decide_true,cond_true] at h
    exact⟨_,h,fun X=>Qxq ho hl⟩
   ·simp[hl] at h
  ·split at h
   ·rename_i c hc
    exact⟨_,h,fun X=>Qz3 ho hc⟩
   ·cases h
 ·unfold binB at h
  split at h
  ·rename_i ht
   split at h
   ·exact⟨_,h,fun X=>Qrc ho ht⟩
   ·exact⟨_,h,fun X=>Qr0 ho ht⟩
   ·cases h
  ·cases h
 ·unfold Qvq at h
  split at h
  ·rename_i b fs hb ht
   cases hm:P.eqGuardType P.depth t with
   | true=>simp[hm] at h
   | false =>
    simp only[hm,cond_false] at h
    have hag:(P.underlying t).map aggD=some true:=by rw[ht]; rfl
    split at h
    ·refine⟨_,h,fun X=>?_⟩
     exact Qw7 (X:=X) (.inl rfl) ho hb hag hm
    ·refine⟨_,h,fun X=>?_⟩
     exact Qw7 (X:=X) (.inr rfl) ho hb hag hm
    ·cases h
  ·cases h
 ·cases h
end
end Go.Xl
namespace Go.Xl
open Go.Ab
section
variable {P:Program} {R:Type}
-- binary and unary operations
noncomputable def xBin (P:Program) (st:XSt) (op:BinOp) (t:TypeId) (x y:Operand) (K:Out→Option R):Option R :=
 match xd st x,xd st y with
 | some a,some b=>binX P op t a b fun z=>K (Q9 st (.d z) [(x,.d a),(y,.d b)])
 | _,_=>none
theorem Qz9 {o:Oper} {st:XSt} {op:BinOp} {t t' : TypeId} {x y:Operand} {K:Out→Option R} {r:R} (ho:o.op = .binOp op t x y t') (h:xBin P st op t x y K=some r):∃out,K out=some r∧OpOk P o st out:=by
 unfold xBin at h
 split at h
 ·rename_i a b ha hb
  obtain⟨z,hz,hop⟩:=Qzi ho h
  exact⟨_,hz,Q4 (sees2 ha hb) hop⟩
 ·cases h
noncomputable def xUn (st:XSt) (op:UnOp) (x:Operand) (K:Out→Option R):Option R :=
 match op,xd st x with
 | .not,some (.b b)=>K (Q9 st (.d (.b (!b))) [(x,.d (.b b))])
 | .neg,some (.i k n)=>K (Q9 st (.d (.i k (k.wrap (0 - n)))) [(x,.d (.i k n))])
 | _,_=>none
theorem Q10e {o:Oper} {t:TypeId} {x:Operand} {k:IntKind} {n:Int} {X:Store} (ho:o.op = .unOp .neg t x):OpT P o [(x,.d (.int k n))] X X [] (.d (.int k (k.wrap (0 - n)))) :=
 .quiet fun _ _ g w ac _ hrd=>by
  have h1:=(rd0 hrd).sc_inv
  simp only at h1
  refine⟨_,?_,.ofSc _ _ _⟩
  simp[execOp,ho,h1,Op.unary,Op.intArith]
theorem Q109 {o:Oper} {st:XSt} {op:UnOp} {t:TypeId} {x:Operand} {K:Out→Option R} {r:R} (ho:o.op = .unOp op t x) (h:xUn st op x K=some r):∃out,K out=some r∧OpOk P o st out:=by
 unfold xUn at h
 split at h
 ·rename_i b hb
  exact⟨_,h,Q4 (sees1 hb) fun X=>Q106 ho⟩
 ·rename_i k n hb
  exact⟨_,h,Q4 (sees1 hb) fun X=>Q10e ho⟩
 ·cases h
noncomputable def xConv (P:Program) (st:XSt) (s d:TypeId) (x:Operand) (K:Out→Option R):Option R :=
 match xd st x,P.underlying s,P.underlying d with
 | some (.i j n),some _,some (.int k)=>K (Q9 st (.d (intX k (k.wrap n))) [(x,.d (.i j n))])
 | some (.u8 b),some _,some (.int k) =>
  K (Q9 st (.d (match k with
   | .u8=>.u8 b
   | .i8=>.i .i8 (IntKind.i8.wrap (b.toNat:Int))
   | k=>.i k (b.toNat:Int))) [(x,.d (.u8 b))])
 | some (.sl .u8 l),some (.slice e),some .string =>
  match P.underlying e with
  | some (.int .u8)=>K (Q9 st (.d (.s l)) [(x,.d (.sl .u8 l))])
  | _=>none
 | some (.s l),some .string,some .string=>K (Q9 st (.d (.s l)) [(x,.d (.s l))])
 | _,_,_=>none
theorem u8_in (b:UInt8) (k:IntKind) (h:k≠.i8):k.wrap (b.toNat:Int)=(b.toNat:Int):=by
 have:=b.toNat_lt
 unfold IntKind.wrap
 cases k <;> simp[IntKind.bits,IntKind.signed] at h ⊢ <;> (try split) <;> omega
theorem Qqz {o:Oper} {s d:TypeId} {x:Operand} {l:List UInt8} {X:Store} (ho:o.op = .convert s d x) (hs:P.underlying s=some .string) (hd:P.underlying d=some .string):OpT P o [(x,.d (.bs l))] X X [] (.d (.bs l)) :=
 .quiet fun _ _ g w ac _ hrd=>by
  have h1:=(rd0 hrd).sc_inv
  simp only at h1
  refine⟨_,?_,.ofSc _ _ _⟩
  simp[execOp,ho,h1,convert,run_underlying hs,run_underlying hd]
theorem Qy6 {o:Oper} {st:XSt} {s d:TypeId} {x:Operand} {K:Out→Option R} {r:R} (ho:o.op = .convert s d x) (h:xConv P st s d x K=some r):∃out,K out=some r∧OpOk P o st out:=by
 unfold xConv at h
 split at h
 ·rename_i j n sd k hx hs hd
  refine⟨_,h,Q4 (sees1 hx) fun X=>?_⟩
  simp only[XV.a]
  rw[Qlz k _ (fun hk=>by subst hk; exact Q83 _ _)]
  exact Qgt ho (by rw[hs]; rfl) hd
 ·rename_i b sd k hx hs hd
  refine⟨_,h,Q4 (sees1 hx) fun X=>?_⟩
  have:=Qgt (P:=P) (X:=X) (j:=.u8) (k:=k) (n:=(b.toNat:Int)) ho (by rw[hs]; rfl) hd
  simp only[XV.a]
  split
  ·rw[u8_in b _ (by decide)] at this; exact this
  ·exact this
  ·rw[u8_in b _ (by assumption)] at this
   exact this
 ·rename_i l e hx hs hd
  split at h
  ·rename_i he
   refine⟨_,h,Q4 (sees1 hx) fun X=>?_⟩
   have:=Qlf (P:=P) (X:=X) (l:=l) ho hs he hd
   exact this
  ·cases h
 ·rename_i l hx hs hd
  exact⟨_,h,Q4 (sees1 hx) fun X=>Qqz ho hs hd⟩
 ·cases h
-- extract
noncomputable def Qib (st:XSt) (x:Operand) (i:Nat) (K:Out→Option R):Option R :=
 match xeval st x with
 | some (.tup l) =>
  match l[i]? with
  | some v=>K (Q9 st v [(x,.tup l)])
  | none=>none
 | _=>none
theorem Qrd {o:Oper} {st:XSt} {x:Operand} {i:Nat} {K:Out→Option R} {r:R} (ho:o.op = .extract x i) (h:Qib st x i K=some r):∃out,K out=some r∧OpOk P o st out:=by
 unfold Qib at h
 split at h
 ·rename_i l hl
  split at h
  ·rename_i v hv
   exact⟨_,h,Q4 (Qi hl) fun X=>Qta ho (by rw[Q4n,hv]; rfl)⟩
  ·cases h
 ·cases h
-- nilCheck
noncomputable def xNil (st:XSt) (x:Operand) (K:Out→Option R):Option R :=
 match xeval st x with
 | some (.nm k (.p off))=>K (Q9 st (.nm k (.p off)) [(x,.nm k (.p off))])
 | some (.d (.ep cs))=>K (Q9 st (.d (.ep cs)) [(x,.d (.ep cs))])
 | _=>none
theorem Qlj {o:Oper} {x:Operand} {cs:List D} {X:Store} (ho:o.op = .nilCheck x):OpT P o [(x,.d (.ep cs))] X X [] (.d (.ep cs)) :=
 .quiet fun _ _ g w ac _ hrd=>by
  have h1:=rd0 hrd
  simp only at h1
  cases h1 with
  | d _ _ h =>
   generalize hv:ac.eval x=v at h
   have h':=h
   cases h with
   | ep _ b off h1 h2 =>
    refine⟨_,?_,.d _ _ h'⟩
    simp[execOp,ho,hv]
theorem Qys {o:Oper} {st:XSt} {x:Operand} {K:Out→Option R} {r:R} (ho:o.op = .nilCheck x) (h:xNil st x K=some r):∃out,K out=some r∧OpOk P o st out:=by
 unfold xNil at h
 split at h
 ·rename_i k off hx
  exact⟨_,h,Q4 (Qi hx) fun X=>Qj7 ho⟩
 ·rename_i cs hx
  exact⟨_,h,Q4 (Qi hx) fun X=>Qlj ho⟩
 ·cases h
end
end Go.Xl
namespace Go.Xl
open Go.Ab
section
variable {P:Program} {R:Type}
noncomputable def allX:List XV→Option (List XD)
 | []=>some []
 | .d x :: r=>match allX r with
  | some l=>some (x :: l)
  | none=>none
 | _ :: _=>none
noncomputable def xjoin (cs:List XV):XV :=
 match allX cs with
 | some ds=>.d (.agg ds)
 | none=>.agg cs
theorem Qvn:∀(cs:List XV),allD (asOf cs)=(allX cs).map dsOf
 | []=>rfl
 | x :: r=>by
  cases x with
  | d x =>
   simp only[asOf,XV.a,allD,allX,Qvn r]
   cases allX r <;> rfl
  | _=>simp[asOf,XV.a,allD,allX]
theorem Qlv:∀ {cs:List XV} {ds:List XD},allX cs=some ds→cs=ds.map .d
 | [],ds,h=>by simp[allX] at h; subst h; rfl
 | x :: r,ds,h=>by
  cases x with
  | d x =>
   simp only[allX] at h
   split at h
   ·rename_i l hl
    cases h
    rw[Qlv hl]; rfl
   ·cases h
  | _=>simp[allX] at h
theorem Qg8 (cs:List XV):(xjoin cs).a=Q5s (asOf cs):=by
 unfold xjoin Q5s
 rw[Qvn]
 cases allX cs <;> rfl
noncomputable def XV.cells:XV→List XV
 | .d x=>x.cells.map .d
 | .agg cs=>cs
 | x=>[x]
theorem Qyy (x:XD):x.d.cells=dsOf x.cells:=by
 cases hx:x.isAgg with
 | true=>rw[XD.agg_d hx]; rfl
 | false=>cases x <;> first | rfl | (simp[XD.isAgg] at hx; done) | (rename_i b; cases b <;> rfl)
theorem Qmr (l:List XD):asOf (l.map .d)=(dsOf l).map .d:=by simp[Q4m,Q2n,XV.a]
theorem Q93 (x:XV):x.a.cells=asOf x.cells:=by
 cases x with
 | d x=>simp only[XV.a,AV.cells,XV.cells,Qyy,Qmr]
 | _=>rfl
-- load
noncomputable def xLoad (P:Program) (st:XSt) (t:TypeId) (x:Operand) (K:Out→Option R):Option R :=
 match xeval st x,tyI P t with
 | some (.el k t i fo),some (agg,sz) =>
  match lk k st.objs with
  | some (.arr u l) =>
   if h:u.eqb t=true then
    cond agg (cond (Nat.ble (fo+sz) t.size) (Option.bind ((Ty.eqb_eq h▸l:List t.T)[i]?) fun e=>K ⟨.look [k],.d (.agg (((t.enc e).drop fo).take sz)),[(x,.el k t i fo)],st.objs,st.live,[],[]⟩) none)
     (cond (Nat.beq sz 1) (Option.bind ((Ty.eqb_eq h▸l:List t.T)[i]?) fun e=>match (t.enc e)[fo]? with
      | some v=>K ⟨.look [k],.d v,[(x,.el k t i fo)],st.objs,st.live,[],[]⟩
      | none=>none) none)
   else none
  | _=>none
 | some (.nm k (.p off)),some (agg,sz) =>
  match lk k st.objs with
  | some (.cells cs ty) =>
   cond agg (cond (Nat.ble (off+sz) cs.length) (K ⟨.look [k],xjoin ((cs.drop off).take sz),[(x,.nm k (.p off))],st.objs,st.live,[],[]⟩) none)
    (cond (Nat.beq sz 1) (match cs[off]? with
     | some v=>K ⟨.look [k],v,[(x,.nm k (.p off))],st.objs,st.live,[],[]⟩
     | none=>none) none)
  | _=>none
 | some (.d (.pa ty l)),some (agg,sz) =>
  cond agg (cond (Nat.beq (l.length*ty.size) sz) (K (Q9 st (.d (.ag ty l)) [(x,.d (.pa ty l))])) none) none
 | some (.d (.ep cs)),some (agg,sz) =>
  cond agg (cond (Nat.ble sz cs.length) (K (Q9 st (.d (.agg (cs.take sz))) [(x,.d (.ep cs))])) none)
   (cond (Nat.beq sz 1) (match cs with
    | c :: r=>K (Q9 st (.d c) [(x,.d (.ep (c :: r)))])
    | []=>none) none)
 | _,_=>none
theorem lk_im {st:XSt} {k:Nat} {cs:List XV} {ty:Option TypeId} (h:lk k st.objs=some (.cells cs ty)):st.X.objs.lookup k=some (.cells (asOf cs) ty):=by
 show(Q0 st.objs).lookup k=_
 rw[Qt,h]; rfl
theorem Qae (l:List XD) (n:Nat):dsOf (l.take n)=(dsOf l).take n:=by simp[Q2n,List.map_take]
theorem Q8i (l:List XV) (n:Nat):asOf (l.take n)=(asOf l).take n:=by simp[Q4m,List.map_take]
theorem Q84 (l:List XV) (n:Nat):asOf (l.drop n)=(asOf l).drop n:=by simp[Q4m,List.map_drop]
theorem Qab (l:List XD) (n:Nat):dsOf (l.drop n)=(dsOf l).drop n:=by simp[Q2n,List.map_drop]
theorem Qbz (t:Ty) (l:List t.T):∀(i:Nat) cs,(l.map t.ds)[i]? = some cs→cs.length=t.size:=by
 intro i cs h
 rw[List.getElem?_map,Option.map_eq_some_iff] at h
 obtain⟨x,_,rfl⟩:=h
 exact t.ds_length x
theorem Qvv (l:List D):allD (l.map .d)=some l:=by
 induction l with
 | nil=>rfl
 | cons x r ih=>simp[allD,ih]
theorem Qwm (l:List D):Q5s (l.map .d) = .d (.agg l):=by
 unfold Q5s; rw[Qvv]
theorem el_le {fs:List (List D)} {sz:Nat} (hs:∀(i:Nat) cs,fs[i]? = some cs→cs.length=sz) {p:Nat} {c:List D} (hp:fs[p]? = some c) {fo n:Nat} (h:fo+n≤c.length) :
  p*sz+fo+n≤(fs.flatten.map AV.d).length:=by
 rw[List.length_map,Q1h fs hs]
 have h1:p < fs.length:=(List.getElem?_eq_some_iff.1 hp).1
 have h2:=hs p c hp
 have h3:(p+1)*sz≤fs.length*sz:=Nat.mul_le_mul_right sz h1
 rw[Nat.succ_mul] at h3
 omega
theorem Qzn {fs:List (List D)} {sz:Nat} (hs:∀(i:Nat) cs,fs[i]? = some cs→cs.length=sz) {p:Nat} {c:List D} (hp:fs[p]? = some c) {fo n:Nat} (h:fo+n≤c.length) :
  ((fs.flatten.map AV.d).drop (p*sz+fo)).take n=((c.drop fo).take n).map .d:=by
 rw[← List.map_drop,← List.map_take]
 congr 1
 apply List.ext_getElem?
 intro i
 simp only[List.getElem?_take,List.getElem?_drop]
 split
 ·rename_i hi
  have hlt:fo+i < c.length:=by omega
  rw[show p*sz+fo+i=p*sz+(fo+i) by omega,Q96 fs hs p (fo+i) c c[fo+i] hp (by simp[hlt])]
  simp[hlt]
 ·rfl
theorem Qpq {o:Oper} {st:XSt} {t:TypeId} {x:Operand} {K:Out→Option R} {r:R} (ho:o.op = .load t x) (h:xLoad P st t x K=some r):∃out,K out=some r∧OpOk P o st out:=by
 unfold xLoad at h
 split at h
 ·rename_i k u i fo agg sz hx ht
  have hT:=tyI_I ht
  split at h
  ·rename_i u' l hk
   split at h
   ·rename_i he
    have e0:=Ty.eqb_eq he
    subst e0
    have hk' : st.X.objs.lookup k=some (.cells ((l.map u'.ds).flatten.map .d) none):=by
     show(Q0 st.objs).lookup k=_
     rw[Qt,hk]; rfl
    have hsz:=Qbz u' l
    cases agg with
    | true =>
     simp only[cond_true] at h
     cases hb:Nat.ble (fo+sz) u'.size with
     | false=>simp[hb] at h
     | true =>
      simp only[hb,cond_true] at h
      have hle:=Nat.le_of_ble_eq_true hb
      obtain⟨e,he1,h⟩:=Option.bind_eq_some_iff.1 h
      have hp:(l.map u'.ds)[i]? = some (u'.ds e):=by rw[List.getElem?_map,he1]; rfl
      refine⟨_,h,⟨Qi hx,⟨rfl,rfl,rfl,fun X hX=>?_⟩,fun _ _ _ h=>h⟩⟩
      refine Q7w ho (.agg sz _ none _ hT ((hX k List.mem_cons_self).trans hk') (el_le hsz hp (by rw[Ty.ds_length]; exact hle)) ?_)
      rw[Qzn hsz hp (by rw[Ty.ds_length]; exact hle),Qwm]
      simp only[XV.a,XD.d,Qae,Qab,Ty.enc_ds]
    | false =>
     simp only[cond_false] at h
     cases hb:Nat.beq sz 1 with
     | false=>simp[hb] at h
     | true =>
      have:=Nat.eq_of_beq_eq_true hb
      subst this
      simp only[hb,cond_true] at h
      obtain⟨e,he1,h⟩:=Option.bind_eq_some_iff.1 h
      have hp:(l.map u'.ds)[i]? = some (u'.ds e):=by rw[List.getElem?_map,he1]; rfl
      split at h
      ·rename_i v hv
       refine⟨_,h,⟨Qi hx,⟨rfl,rfl,rfl,fun X hX=>?_⟩,fun _ _ _ h=>h⟩⟩
       refine Q7w ho (.one _ none _ hT ((hX k List.mem_cons_self).trans hk') ?_)
       rw[List.getElem?_map,Q96 _ hsz i fo (u'.ds e) v.d hp (by rw[← Ty.enc_ds,Q2n,List.getElem?_map,hv]; rfl)]
       rfl
      ·cases h
   ·cases h
  ·cases h
 ·rename_i k off agg sz hx ht
  have hT:=tyI_I ht
  split at h
  ·rename_i cs ty hk
   have hk':=lk_im hk
   cases agg with
   | true =>
    simp only[cond_true] at h
    cases hb:Nat.ble (off+sz) cs.length with
    | false=>simp[hb] at h
    | true =>
     simp only[hb,cond_true] at h
     refine⟨_,h,⟨Qi hx,⟨rfl,rfl,rfl,fun X hX=>?_⟩,fun _ _ _ h=>h⟩⟩
     refine Q7w ho (.agg sz (asOf cs) ty _ hT ((hX k List.mem_cons_self).trans hk') (by rw[Q8]; exact Nat.le_of_ble_eq_true hb) ?_)
     rw[Qg8,Q8i,Q84]
   | false =>
    simp only[cond_false] at h
    cases hb:Nat.beq sz 1 with
    | false=>simp[hb] at h
    | true =>
     have:=Nat.eq_of_beq_eq_true hb
     subst this
     simp only[hb,cond_true] at h
     split at h
     ·rename_i v hv
      refine⟨_,h,⟨Qi hx,⟨rfl,rfl,rfl,fun X hX=>?_⟩,fun _ _ _ h=>h⟩⟩
      exact Q7w ho (.one (asOf cs) ty _ hT ((hX k List.mem_cons_self).trans hk') (by rw[Q4n,hv]; rfl))
     ·cases h
  ·cases h
 ·rename_i ty l agg sz hx ht
  have hT:=tyI_I ht
  cases agg with
  | false=>simp at h
  | true =>
   simp only[cond_true] at h
   cases hb:Nat.beq (l.length*ty.size) sz with
   | false=>simp[hb] at h
   | true =>
    simp only[hb,cond_true] at h
    have e:=Nat.eq_of_beq_eq_true hb
    refine⟨_,h,Q4 (Qi hx) fun X=>?_⟩
    have hlen:((l.map ty.ds).flatten).length=l.length*ty.size:=by
     rw[List.length_flatten,List.map_map]
     have:(List.length ∘ ty.ds)=fun _=>ty.size:=by funext y; exact ty.ds_length y
     rw[this]
     simp[List.map_const']
    have:=Qgy (P:=P) (X:=X) (cs:=(l.map ty.ds).flatten) ho hT (by omega) trivial
    rw[List.take_of_length_le (by omega)] at this
    exact this
 ·rename_i cs agg sz hx ht
  have hT:=tyI_I ht
  cases agg with
  | true =>
   simp only[cond_true] at h
   cases hb:Nat.ble sz cs.length with
   | false=>simp[hb] at h
   | true =>
    simp only[hb,cond_true] at h
    refine⟨_,h,Q4 (Qi hx) fun X=>?_⟩
    have:=Qgy (P:=P) (X:=X) (cs:=dsOf cs) ho hT (by rw[Q25]; exact Nat.le_of_ble_eq_true hb) trivial
    rw[← Qae] at this
    exact this
  | false =>
   simp only[cond_false] at h
   cases hb:Nat.beq sz 1 with
   | false=>simp[hb] at h
   | true =>
    have:=Nat.eq_of_beq_eq_true hb
    subst this
    simp only[hb,cond_true] at h
    split at h
    ·exact⟨_,h,Q4 (Qi hx) fun X=>Qgp ho hT⟩
    ·cases h
 ·cases h
-- store
noncomputable def xone:XV→Bool
 | .d (.v u)=>u.oneCell'
 | .d (.agg _)=>false
 | .d (.ag _ _)=>false
 | .tup _=>false
 | .agg _=>false
 | _=>true
theorem Q102 {x:XV} (h:xone x=true):oneC x.a=true:=by
 cases x with
 | d x=>cases x <;> first | rfl | (simp[xone] at h; done) | exact h | (rename_i b; cases b <;> rfl)
 | _=>first | rfl | (simp[xone] at h)
noncomputable def xones:List XV→Bool
 | []=>true
 | x :: r=>cond (xone x) (xones r) false
theorem Qg3:∀ {l:List XV},xones l=true→(asOf l).all oneC=true
 | [],_=>rfl
 | x :: r,h=>by
  simp only[xones] at h
  cases hx:xone x with
  | false=>simp[hx] at h
  | true =>
   simp only[hx,cond_true] at h
   simp only[asOf,List.all_cons,Q102 hx,Qg3 h,Bool.and_self]
noncomputable def Q4w:XV→Bool
 | .d (.v (.agg _))=>false
 | _=>true
theorem Qan {x:XV} (h:Q4w x=true):okSc x.a=true:=by
 cases x with
 | d x =>
  cases x with
  | v u=>cases u <;> first | rfl | (simp[Q4w] at h)
  | er b=>cases b <;> rfl
  | ic t k z=>cases z <;> rfl
  | _=>rfl
 | _=>rfl
noncomputable def Qbf (cs:List XV) (off:Nat) (vs:List XV):List XV:=cs.take off++vs++cs.drop (off+vs.length)
theorem Qlr (cs:List XV) (off:Nat) (vs:List XV):asOf (Qbf cs off vs)=splice (asOf cs) off (asOf vs):=by
 simp[Qbf,splice,Q1b,Q8i,Q84,Q8]
theorem flat_set {sz:Nat}:∀(fs:List (List D)),(∀(i:Nat) cs,fs[i]? = some cs→cs.length=sz)→∀(p:Nat) (c:List D) (fo:Nat) (vs:List D),fs[p]? = some c→fo+vs.length≤sz →
  fs.flatten.take (p*sz+fo)++vs++fs.flatten.drop (p*sz+fo+vs.length)=(fs.set p (c.take fo++vs++c.drop (fo+vs.length))).flatten
 | [],_,p,c,fo,vs,hp,_=>by simp at hp
 | a :: r,hs,p,c,fo,vs,hp,hle=>by
  have ha:=hs 0 a rfl
  cases p with
  | zero =>
   simp only[List.getElem?_cons_zero,Option.some.injEq] at hp
   subst hp
   simp only[List.flatten_cons,Nat.zero_mul,Nat.zero_add,List.set_cons_zero]
   rw[List.take_append_of_le_length (by omega),List.drop_append_of_le_length (by omega)]
   simp[List.append_assoc]
  | succ p =>
   have ih:=flat_set r (fun i cs hi=>hs (i+1) cs (by simpa using hi)) p c fo vs (by simpa using hp) hle
   simp only[List.flatten_cons,List.set_cons_succ]
   rw[← ih,Nat.succ_mul]
   have e1:p*sz+sz+fo=a.length+(p*sz+fo):=by omega
   have e2:p*sz+sz+fo+vs.length=a.length+(p*sz+fo+vs.length):=by omega
   rw[e1,List.take_length_add_append,show a.length+(p*sz+fo)+vs.length=a.length+(p*sz+fo+vs.length) by omega,List.drop_length_add_append]
   simp[List.append_assoc]
theorem HR.obLe {nm:List Nat} {B:Base} {g:Gh} {w:World} {objs:List (Nat×Ob)} {live:List Nat} {k:Nat} {o1 o2:Ob} (h:HR nm B g w ⟨Ab.setObj k o1 objs,live⟩) (hle:∀b,ObRel g w b o1→ObRel g w b o2) :
  HR nm B g w ⟨Ab.setObj k o2 objs,live⟩:=by
 have hl:∀j o,(Ab.setObj k o2 objs).lookup j=some o→∃p,(Ab.setObj k o1 objs).lookup j=some p∧∀b,ObRel g w b p→ObRel g w b o:=by
  intro j o hj
  rw[Qb] at hj ⊢
  split at hj
  ·cases hj; rw[if_pos ‹_›]; exact⟨o1,rfl,hle⟩
  ·rw[if_neg ‹_›]; exact⟨o,hj,fun _ h=>h⟩
 refine⟨?_,h.sane,h.base,h.io,h.le,h.frame,?_,?_,?_,?_,h.live,h.tipinj,?_,h.tipnew,h.tiplt,h.eta.same (Nat.le_refl _) fun j o hj=>let ⟨p,hp,_⟩:=hl j o hj; ⟨p,hp⟩⟩
 ·intro j hj
  refine⟨(h.keep j hj).1,?_⟩
  have:=(h.keep j hj).2
  simp only[Qb] at this ⊢
  split
  ·rfl
  ·rw[if_neg ‹_›] at this; exact this
 ·intro j o hj; obtain⟨p,hp,hq⟩:=hl j o hj; exact hq _ (h.objs j p hp)
 ·intro j o hj; obtain⟨p,hp,_⟩:=hl j o hj; exact h.objγ j p hp
 ·intro j j' o o' hj hj' he; obtain⟨p,hp,_⟩:=hl j o hj; obtain⟨q,hq,_⟩:=hl j' o' hj'; exact h.objinj j j' p q hp hq he
 ·intro j o hj; obtain⟨p,hp,_⟩:=hl j o hj; exact h.objnew j p hp
 ·intro n b j o hn hj; obtain⟨p,hp,_⟩:=hl j o hj; exact h.tipobj n b j p hn hp
theorem OpT.obLe {o:Oper} {rd:List (Operand×AV)} {X:Store} {k:Nat} {o1 o2:Ob} {res:AV} (h:OpT P o rd X ⟨Ab.setObj k o1 X.objs,X.live⟩ [] res) (hle:∀g w b,ObRel g w b o1→ObRel g w b o2) :
  OpT P o rd X ⟨Ab.setObj k o2 X.objs,X.live⟩ [] res:=by
 intro nm hsm B g w a hr hrd next Q hn
 exact h nm hsm B g w a hr hrd next Q fun g' w' v h1 h2 h3=>hn g' w' v (HR.obLe h1 (hle g' w')) h2 h3
theorem ObRel.cellsLe {g:Gh} {w:World} {b:Nat} {l l' : List D} {ty:Option TypeId} (h:ObRel g w b (.cells (l.map .d) ty)) (hle:DsLe l l'):ObRel g w b (.cells (l'.map .d) ty):=by
 cases h with
 | cells _ _ arr T h1 h2 h3 h4 =>
  refine .cells _ ty arr T h1 (by simpa[hle.length] using h2) ?_ h4
  intro i x v hx hv
  rw[List.getElem?_map,Option.map_eq_some_iff] at hx
  obtain⟨y,hy,rfl⟩:=hx
  obtain⟨z,hz,hzy⟩:=hle.get hy
  exact ALe.d hzy g w v (h3 i (.d z) v (by rw[List.getElem?_map,hz]; rfl) hv)
theorem DsLe.flat_set:∀(fs:List (List D)) (p:Nat) (c c' : List D),DsLe c c'→DsLe (fs.set p c).flatten (fs.set p c').flatten
 | [],p,c,c',_=>by simpa using DsLe.nil
 | a :: r,0,c,c',h=>by simpa using h.append (.refl _)
 | a :: r,p+1,c,c',h=>by simpa using(DsLe.refl a).append (DsLe.flat_set r p c c' h)
noncomputable def Qkj (cs:List XD) (off:Nat) (vs:List XD):List XD:=cs.take off++vs++cs.drop (off+vs.length)
noncomputable def Qpg (P:Program) (st:XSt) (t:TypeId) (x y:Operand) (K:Out→Option R):Option R :=
 match xeval st x,xeval st y,tyI P t with
 | some (.el k u i fo),some v,some (agg,sz) =>
  match lk k st.objs,allX v.cells with
  | some (.arr u' l),some vs =>
   if h:u'.eqb u=true then
    cond (Nat.beq v.cells.length sz) (cond (xones v.cells) (cond (Q4w v) (cond (Nat.ble (fo+sz) u.size)
     (Option.bind ((Ty.eqb_eq h▸l:List u.T)[i]?) fun e=>match u.dec (Qkj (u.enc e) fo vs) with
      | some (e',[])=>K ⟨.put k (.arr u ((Ty.eqb_eq h▸l:List u.T).set i e')),.d (.v undef),[(x,.el k u i fo),(y,v)],xset k (.arr u ((Ty.eqb_eq h▸l:List u.T).set i e')) st.objs,st.live,[],[k]⟩
      | _=>none) none) none) none) none
   else none
  | _,_=>none
 | some (.nm k (.p off)),some v,some (agg,sz) =>
  match lk k st.objs with
  | some (.cells cs ty) =>
   cond (Nat.beq v.cells.length sz) (cond (xones v.cells) (cond (Q4w v) (cond (Nat.ble (off+sz) cs.length)
    (K ⟨.put k (.cells (Qbf cs off v.cells) ty),.d (.v undef),[(x,.nm k (.p off)),(y,v)],xset k (.cells (Qbf cs off v.cells) ty) st.objs,st.live,[],[k]⟩) none) none) none) none
  | _=>none
 | _,_,_=>none
theorem Qwv {st:XSt} {x y:Operand} {a b:XV} (h:xeval st x=some a) (h' : xeval st y=some b):∀p ∈ imRd [(x,a),(y,b)],Sees st.im p.1 p.2:=by
 intro p hp
 simp only[imRd,List.map_cons,List.map_nil,List.mem_cons,List.not_mem_nil,or_false] at hp
 rcases hp with rfl | rfl
 ·exact Q5 h
 ·exact Q5 h'
theorem Qwz {o:Oper} {st:XSt} {t:TypeId} {x y:Operand} {K:Out→Option R} {r:R} (ho:o.op = .store t x y) (h:Qpg P st t x y K=some r):∃out,K out=some r∧OpOk P o st out:=by
 unfold Qpg at h
 split at h
 ·rename_i k u i fo v agg sz hx hy ht
  have hT:=tyI_I ht
  split at h
  ·rename_i u' l vs hk hvs
   split at h
   ·rename_i he
    have e0:=Ty.eqb_eq he
    subst e0
    cases h1:Nat.beq v.cells.length sz with
    | false=>simp[h1] at h
    | true =>
    cases h2:xones v.cells with
    | false=>simp[h1,h2] at h
    | true =>
    cases h3:Q4w v with
    | false=>simp[h1,h2,h3] at h
    | true =>
    cases h4:Nat.ble (fo+sz) u'.size with
    | false=>simp[h1,h2,h3,h4] at h
    | true =>
     simp only[h1,h2,h3,h4,cond_true] at h
     have e1:=Nat.eq_of_beq_eq_true h1
     have hle:=Nat.le_of_ble_eq_true h4
     obtain⟨e,he1,h⟩:=Option.bind_eq_some_iff.1 h
     split at h
     ·rename_i e' hdec
      have hk' : st.X.objs.lookup k=some (.cells ((l.map u'.ds).flatten.map .d) none):=by
       show(Q0 st.objs).lookup k=_
       rw[Qt,hk]; rfl
      have hsz:=Qbz u' l
      have hp:(l.map u'.ds)[i]? = some (u'.ds e):=by rw[List.getElem?_map,he1]; rfl
      have hm:=Qlv hvs
      have hvl:vs.length=sz:=by rw[← e1,hm]; simp
      have hca:v.a.cells=(dsOf vs).map .d:=by rw[Q93,hm,Qmr]
      obtain⟨zs,hz,hzle⟩:=u'.dec_spec hdec
      simp only[dsOf,List.append_nil] at hz
      subst hz
      refine⟨_,h,⟨Qwv hx hy,⟨rfl,rfl,rfl,fun X hX=>?_⟩,fun j z hj hz=>?_⟩⟩
      ·have:=Qq5 (P:=P) (X:=X) (x:=x) (y:=y) (v:=v.a) (k:=k) (off:=i*u'.size+fo) (cs:=(l.map u'.ds).flatten.map .d) (ty:=none) ho hT (hX.trans hk')
        (by rw[hca]; simp[Q25,hvl]) (by rw[Q93]; exact Qg3 h2) (Qan h3) (el_le hsz hp (by rw[Ty.ds_length]; exact hle))
       refine OpT.obLe this ?_
       intro g w b hob
       have e2:splice ((l.map u'.ds).flatten.map AV.d) (i*u'.size+fo) v.a.cells=((l.map u'.ds).set i (dsOf (Qkj (u'.enc e) fo vs))).flatten.map AV.d:=by
        rw[hca,splice,← List.map_take,List.length_map,← List.map_drop,← List.map_append,← List.map_append,flat_set _ hsz i (u'.ds e) fo (dsOf vs) hp (by rw[Q25]; omega)]
        simp only[Qkj,Q80,Qae,Qab,Ty.enc_ds,Q25]
       rw[e2] at hob
       have:=ObRel.cellsLe hob (DsLe.flat_set (l.map u'.ds) i _ _ hzle)
       show ObRel g w b (.cells (((l.set i e').map u'.ds).flatten.map .d) none)
       rw[List.map_set]
       exact this
      ·rw[Q2k _ _ _ _ (by simpa using hj)] at hz
       exact hz
     ·cases h
   ·cases h
  ·cases h
 ·rename_i k off v agg sz hx hy ht
  have hT:=tyI_I ht
  split at h
  ·rename_i cs ty hk
   cases h1:Nat.beq v.cells.length sz with
   | false=>simp[h1] at h
   | true =>
    cases h2:xones v.cells with
    | false=>simp[h1,h2] at h
    | true =>
     cases h3:Q4w v with
     | false=>simp[h1,h2,h3] at h
     | true =>
      cases h4:Nat.ble (off+sz) cs.length with
      | false=>simp[h1,h2,h3,h4] at h
      | true =>
       simp only[h1,h2,h3,h4,cond_true] at h
       have e1:=Nat.eq_of_beq_eq_true h1
       refine⟨_,h,⟨Qwv hx hy,⟨rfl,rfl,rfl,fun X hX=>?_⟩,fun j z hj hz=>?_⟩⟩
       ·have hc:=Q93 v
        have:=Qq5 (P:=P) (X:=X) (x:=x) (y:=y) (v:=v.a) (cs:=asOf cs) (ty:=ty) ho hT (hX.trans (lk_im hk)) (by rw[hc,Q8]; exact e1) (by rw[hc]; exact Qg3 h2)
         (Qan h3) (by rw[Q8]; exact Nat.le_of_ble_eq_true h4)
        rw[hc,← Qlr] at this
        exact this
       ·rw[Q2k _ _ _ _ (by simpa using hj)] at hz
        exact hz
  ·cases h
 ·cases h
end
end Go.Xl
namespace Go.Xl
open Go.Ab
section
variable {P:Program} {R:Type}
noncomputable def newName (o:Oper):Option Nat :=
 match o.dst with
 | some d=>some (1000+d)
 | none=>none
noncomputable def fresh (k:Nat) (st:XSt):Bool :=
 match lk k st.objs with
 | some _=>false
 | none=>Q3l [k] st
theorem Q32 {k:Nat} {st:XSt} (h:fresh k st=true):lk k st.objs=none∧Qa [k] st.X=true:=by
 unfold fresh at h
 split at h
 ·cases h
 ·exact⟨‹_›,Q58 h⟩
theorem Q31 {k:Nat} {st:XSt} (h:lk k st.objs=none):st.X.objs.lookup k=none:=by
 show(Q0 st.objs).lookup k=_
 rw[Qt,h]; rfl
noncomputable def zeroOf (P:Program) (t:TypeId):Option (List XV) :=
 match P.info? t with
 | some i=>match i.zero with
  | some z=>some (z.cells.toList.map fun v=>.d (Q2r v))
  | none=>none
 | none=>none
theorem Qj5:∀(l:List Value),ZCells (asOf (l.map fun v=>XV.d (Q2r v))) l
 | []=>.nil
 | v :: r=>by
  simp only[List.map_cons,asOf,XV.a,Q5g]
  exact .sc v (Qj5 r)
theorem Qhs {t:TypeId} {cs:List XV} (h:zeroOf P t=some cs):ZeroI P t (asOf cs):=by
 unfold zeroOf at h
 split at h
 ·rename_i i hi
  split at h
  ·rename_i z hz
   cases h
   exact⟨⟨i,z,hi,hz,Qj5 _⟩⟩
  ·cases h
 ·cases h
-- alloc
noncomputable def Qof (P:Program) (st:XSt) (o:Oper) (t:TypeId) (K:Out→Option R):Option R :=
 match newName o,zeroOf P t with
 | some k,some cs=>cond (fresh k st) (K ⟨.new [(k,.cells cs (some t))],.nm k (.p 0),[],(k,.cells cs (some t)) :: st.objs,st.live,[k],[k]⟩) none
 | _,_=>none
theorem Qo {α:Type} {k j:Nat} {x:α} {l:List (Nat×α)} (h:j≠k):lk j ((k,x) :: l)=lk j l:=by
 simp[Q12,Q2b,nbF (Ne.symm h)]
theorem Qxb {o:Oper} {st:XSt} {t:TypeId} {K:Out→Option R} {r:R} (ho:o.op = .alloc t) (h:Qof P st o t K=some r):∃out,K out=some r∧OpOk P o st out:=by
 unfold Qof at h
 split at h
 ·rename_i k cs hk hz
  cases hf:fresh k st with
  | false=>simp[hf] at h
  | true =>
   simp only[hf,cond_true] at h
   obtain⟨h1,h2⟩:=Q32 hf
   refine⟨_,h,⟨by simp[imRd],?_,fun j z hj hz=>?_⟩⟩
   ·exact⟨rfl,Qsp k ho (Qhs hz) (Q31 h1) h2⟩
   ·rw[Qo (by simpa using hj)] at hz; exact hz
 ·cases h
-- box
noncomputable def xBox (st:XSt) (o:Oper) (t:TypeId) (x:Operand) (K:Out→Option R):Option R :=
 match newName o,xeval st x with
 | some k,some v=>cond (fresh k st) (cond (Q14 [k] (asOf v.cells)) (cond (Q4w v)
   (K ⟨.new [(k,.cells v.cells (some t))],.nm k (.p 0),[(x,v)],(k,.cells v.cells (some t)) :: st.objs,st.live,[k],[k]⟩) none) none) none
 | _,_=>none
theorem Qzk {o:Oper} {st:XSt} {t:TypeId} {x:Operand} {K:Out→Option R} {r:R} (ho:o.op = .box t x) (h:xBox st o t x K=some r):∃out,K out=some r∧OpOk P o st out:=by
 unfold xBox at h
 split at h
 ·rename_i k v hk hv
  cases hf:fresh k st with
  | false=>simp[hf] at h
  | true =>
   cases ha:Q14 [k] (asOf v.cells) with
   | false=>simp[hf,ha] at h
   | true =>
    cases hn:Q4w v with
    | false=>simp[hf,ha,hn] at h
    | true =>
     simp only[hf,ha,hn,cond_true] at h
     obtain⟨h1,h2⟩:=Q32 hf
     refine⟨_,h,⟨Qi hv,?_,fun j z hj hz=>?_⟩⟩
     ·have:=Q101 (P:=P) (X:=st.X) (x:=x) (v:=v.a) k ho (Q31 h1) h2 (by rw[Q93]; exact ha) (Qan hn)
      rw[Q93] at this
      exact⟨rfl,this⟩
     ·rw[Qo (by simpa using hj)] at hz; exact hz
 ·cases h
-- a list of operands
noncomputable def Qh (st:XSt):List Operand→Option (List XV)
 | []=>some []
 | x :: r=>match xeval st x,Qh st r with
  | some v,some l=>some (v :: l)
  | _,_=>none
theorem Q1k {st:XSt}:∀ {l:List Operand} {vs:List XV},Qh st l=some vs→vs.length=l.length
 | [],vs,h=>by simp[Qh] at h; subst h; rfl
 | x :: r,vs,h=>by
  unfold Qh at h
  split at h
  ·rename_i v l hv hl
   cases h
   simp[Q1k hl]
  ·cases h
theorem Q40 {st:XSt}:∀ {l:List Operand} {vs:List XV},Qh st l=some vs→∀p ∈ imRd (l.zip vs),Sees st.im p.1 p.2
 | [],vs,h=>by simp[imRd]
 | x :: r,vs,h=>by
  unfold Qh at h
  split at h
  ·rename_i v l hv hl
   cases h
   intro p hp
   simp only[imRd,List.zip_cons_cons,List.map_cons,List.mem_cons] at hp
   rcases hp with rfl | hp
   ·exact Q5 hv
   ·exact Q40 hl p hp
  ·cases h
theorem Q20 (l:List Operand) (vs:List XV):imRd (l.zip vs)=l.zip (asOf vs):=by
 induction l generalizing vs with
 | nil=>rfl
 | cons x r ih =>
  cases vs with
  | nil=>rfl
  | cons v vs=>simp only[imRd,List.zip_cons_cons,List.map_cons,asOf] at ih ⊢; rw[ih]
-- build
noncomputable def Q97 (P:Program) (t:TypeId):Option (List (Nat×Nat)) :=
 match P.underlying t with
 | some (.struct fs)=>structF P fs.toList
 | _=>none
where
 structF (P:Program):List Field→Option (List (Nat×Nat))
 | []=>some []
 | f :: r=>match P.info? f.type,structF P r with
  | some i,some l=>some ((f.offset,i.size) :: l)
  | _,_=>none
theorem Qf4:∀ {fs:List Field} {pl:List (Nat×Nat)},Q97.structF P fs=some pl→fs.map (fun f=>(f.offset,(P.info? f.type).map (·.size)))=pl.map fun p=>(p.1,some p.2)
 | [],pl,h=>by simp[Q97.structF] at h; subst h; rfl
 | f :: r,pl,h=>by
  unfold Q97.structF at h
  split at h
  ·rename_i i l hi hl
   cases h
   simp[Qf4 hl,hi]
  ·cases h
theorem Qvr {t:TypeId} {pl:List (Nat×Nat)} (h:Q97 P t=some pl):StructI P t pl:=by
 unfold Q97 at h
 split at h
 ·rename_i fs hfs
  exact⟨⟨fs,hfs,Qf4 h⟩⟩
 ·cases h
noncomputable def xfill (pl:List (Nat×Nat)):List XV→List (Nat×XV)→Option (List XV)
 | cs,[]=>some cs
 | cs,p :: r =>
  match pl[p.1]? with
  | none=>none
  | some (off,sz)=>cond (Nat.beq p.2.cells.length sz) (cond (Nat.ble (off+sz) cs.length) (xfill pl (Qbf cs off p.2.cells) r) none) none
theorem Qg7 {pl:List (Nat×Nat)}:∀ {parts:List (Nat×XV)} {cs out:List XV},xfill pl cs parts=some out →
  fillA (fun i=>pl[i]?) (asOf cs) (parts.map fun p=>(p.1,p.2.a))=some (asOf out)
 | [],cs,out,h=>by simp[xfill] at h; subst h; rfl
 | p :: r,cs,out,h=>by
  unfold xfill at h
  split at h
  ·cases h
  ·rename_i off sz hp
   cases h1:Nat.beq p.2.cells.length sz with
   | false=>simp[h1] at h
   | true =>
    cases h2:Nat.ble (off+sz) cs.length with
    | false=>simp[h1,h2] at h
    | true =>
     simp only[h1,h2,cond_true] at h
     have e1:=Nat.eq_of_beq_eq_true h1
     have e2:=Nat.le_of_ble_eq_true h2
     simp only[List.map_cons,fillA,hp,Q93,Q8]
     rw[if_pos ⟨e1,by rw[e1]; exact e2⟩,← Qlr]
     exact Qg7 h
noncomputable def Q4e:List XV→Bool
 | []=>true
 | x :: r=>cond (Q4w x) (Q4e r) false
theorem Q7r:∀ {l:List XV},Q4e l=true→(asOf l).all okSc=true
 | [],_=>rfl
 | x :: r,h=>by
  simp only[Q4e] at h
  cases hx:Q4w x with
  | false=>simp[hx] at h
  | true =>
   simp only[hx,cond_true] at h
   simp only[asOf,List.all_cons,Qan hx,Q7r h,Bool.and_self]
noncomputable def Qq4 (P:Program) (st:XSt) (t:TypeId) (parts:Array (Nat×Operand)) (K:Out→Option R):Option R :=
 match Q97 P t,zeroOf P t,Qh st (parts.toList.map (·.2)) with
 | some pl,some zs,some vs =>
  cond (Q4e vs) (match xfill pl zs ((parts.toList.map (·.1)).zip vs) with
   | some out=>K (Q9 st (xjoin out) ((parts.toList.map (·.2)).zip vs))
   | none=>none) none
 | _,_,_=>none
theorem zip_a (l:List Nat) (vs:List XV):(l.zip vs).map (fun p=>(p.1,p.2.a))=l.zip (asOf vs):=by
 induction l generalizing vs with
 | nil=>rfl
 | cons x r ih=>cases vs with
  | nil=>rfl
  | cons v vs=>simp[asOf,ih]
theorem Qwd {o:Oper} {st:XSt} {t:TypeId} {parts:Array (Nat×Operand)} {K:Out→Option R} {r:R} (ho:o.op = .build t parts) (h:Qq4 P st t parts K=some r):∃out,K out=some r∧OpOk P o st out:=by
 unfold Qq4 at h
 split at h
 ·rename_i pl zs vs hpl hz hvs
  cases hn:Q4e vs with
  | false=>simp[hn] at h
  | true =>
   simp only[hn,cond_true] at h
   split at h
   ·rename_i out hout
    refine⟨_,h,Q4 (Q40 hvs) fun X=>?_⟩
    have hl:=Q1k hvs
    have hf:=Qg7 hout
    rw[zip_a] at hf
    have:=Qxe (P:=P) (X:=X) (xs:=asOf vs) ho (Qvr hpl) (Qhs hz) (by rw[Q8,hl]; simp) (Q7r hn) hf
    rw[Q20,Qg8]
    exact this
   ·cases h
 ·cases h
noncomputable def tyOf (P:Program):Nat→TypeId→Option Ty
 | 0,_=>none
 | d+1,t =>
  match P.underlying t with
  | some (.int .u8)=>some .u8
  | some (.int k)=>some (.int k)
  | some .bool=>some .bool
  | some .string=>some .str
  | some (.slice e)=>match tyOf P d e with
   | some a=>some (.sl a)
   | none=>none
  | some (.struct fs)=>match tyFs P (tyOf P d) fs.toList with
   | some []=>some .unit
   | some [a]=>some (.st1 a)
   | some (a :: b :: r)=>some (.pair a (pairs b r))
   | none=>none
  | some (.array n e)=>match tyOf P d e with
   | some a=>match n with
    | 0=>some .unit
    | 1=>some (.st1 a)
    | n+2=>some (reps a (n+1))
   | none=>none
  | _=>none
where
 tyFs (P:Program) (rec:TypeId→Option Ty):List Field→Option (List Ty)
 | []=>some []
 | f :: r=>match rec f.type,tyFs P rec r with
  | some a,some l=>some (a :: l)
  | _,_=>none
 pairs:Ty→List Ty→Ty
 | a,[]=>a
 | a,b :: r=>.pair a (pairs b r)
 reps (a:Ty):Nat→Ty
 | 0=>a
 | n+1=>.pair a (reps a n)
-- buildSlice
noncomputable def Q9k (t:Ty):List XV→Option (List t.T)
 | []=>some []
 | .d x :: r=>match t.decv x,Q9k t r with
  | some y,some l=>some (y :: l)
  | _,_=>none
 | .tip n u l ty :: r=>match t.decv (.sl u l),Q9k t r with
  | some y,some l=>some (y :: l)
  | _,_=>none
 | _ :: _=>none
noncomputable def Q7d:Nat→List Nat→Bool
 | _,[]=>true
 | k,j :: r=>cond (Nat.beq j k) (Q7d (k+1) r) false
theorem Qcf:∀ {k:Nat} {l:List Nat},Q7d k l=true→l=List.range' k l.length
 | _,[],_=>rfl
 | k,j :: r,h=>by
  simp only[Q7d] at h
  cases hj:Nat.beq j k with
  | false=>simp[hj] at h
  | true =>
   simp only[hj,cond_true] at h
   have:=Nat.eq_of_beq_eq_true hj
   subst this
   simp only[List.length_cons,List.range'_succ]
   rw[← Qcf h]
noncomputable def Qck (t:Ty) (st:XSt):List Operand→List t.T→Prop
 | [],[]=>True
 | x :: r,y :: l=>Sees st.im x (.d (t.dv y))∧Qck t st r l
 | _,_=>False
theorem Q7v {t:Ty} {st:XSt}:∀ {ops:List Operand} {vs:List XV} {l:List t.T},Qh st ops=some vs→Q9k t vs=some l→Qck t st ops l
 | [],vs,l,h,h'=>by
  simp[Qh] at h; subst h
  simp[Q9k] at h'; subst h'
  trivial
 | x :: r,vs,l,h,h'=>by
  unfold Qh at h
  split at h
  ·rename_i v vs' hv hvs
   cases h
   unfold Q9k at h'
   split at h'
   ·rename_i heq; cases heq
   ·rename_i heq
    cases heq
    split at h'
    ·rename_i y l' hy hl
     cases h'
     exact⟨Qll hv (t.decv_spec hy),Q7v hvs hl⟩
    ·cases h'
   ·rename_i heq
    cases heq
    split at h'
    ·rename_i y l' hy hl
     cases h'
     refine⟨Qby (a:=.sl _ _) (by simp[xd,hv,XV.asD]) (t.decv_spec hy),Q7v hvs hl⟩
    ·cases h'
   ·cases h'
  ·cases h
theorem Q9s {t:Ty} {st:XSt}:∀ {ops:List Operand} {l:List t.T},Qck t st ops l→ops.length=l.length
 | [],[],_=>rfl
 | x :: r,y :: l,h=>by simp[Q9s h.2]
 | [],_ :: _,h=>h.elim
 | _ :: _,[],h=>h.elim
theorem Q8k {t:Ty} {st:XSt}:∀ {ops:List Operand} {l:List t.T},Qck t st ops l→∀p ∈ ops.zip (l.map fun y=>AV.d (t.dv y)),Sees st.im p.1 p.2
 | [],[],_=>by simp
 | x :: r,y :: l,h=>by
  intro p hp
  simp only[List.map_cons,List.zip_cons_cons,List.mem_cons] at hp
  rcases hp with rfl | hp
  ·exact h.1
  ·exact Q8k h.2 p hp
 | [],_ :: _,h=>h.elim
 | _ :: _,[],h=>h.elim
theorem Qcq (t:Ty) (x:t.T):(t.dv x).cells=t.ds x:=by
 cases h:t.agg with
 | true=>rw[t.dv_agg x h]; rfl
 | false =>
  rw[t.dv_one x h]
  cases t <;> simp[Ty.agg] at h <;> first | rfl | (change Bool at x; cases x <;> rfl) | (rename_i a b; change Option Int at x; cases x <;> rfl)
theorem Qs4 (t:Ty) (x:t.T):okSc (.d (t.dv x))=true:=by
 cases t <;> first | rfl | (change Bool at x; cases x <;> rfl) | (rename_i a b; change Option Int at x; cases x <;> rfl)
noncomputable def zipXv (t:Ty):List Operand→List t.T→List (Operand×XV)
 | x :: r,y :: l=>(x,.d (t.xv y)) :: zipXv t r l
 | _,_=>[]
theorem Qb5 (t:Ty):∀(ops:List Operand) (l:List t.T),imRd (zipXv t ops l)=ops.zip (l.map fun y=>AV.d (t.dv y))
 | [],l=>by simp[zipXv,imRd]
 | x :: r,[]=>by simp[zipXv,imRd]
 | x :: r,y :: l=>by
  have:=Qb5 t r l
  simp only[imRd] at this
  simp only[zipXv,imRd,List.map_cons,List.zip_cons_cons,this]
  rfl
noncomputable def Qau (P:Program) (st:XSt) (t:TypeId) (n:Nat) (parts:Array (Nat×Operand)) (K:Out→Option R):Option R :=
 match Qv P t with
 | some (e,sz,bytes) =>
  match tyOf P 9 e,Qh st (parts.toList.map (·.2)) with
  | some ty,some vs =>
   match Q9k ty vs with
   | some l=>cond (Nat.beq ty.size sz) (cond (Nat.beq vs.length n) (cond (Q7d 0 (parts.toList.map (·.1))) (cond (Nat.ble (n*sz) 16777216)
     (K (Q9 st (.d (.sl ty l)) (zipXv ty (parts.toList.map (·.2)) l))) none) none) none) none
   | none=>none
  | _,_=>none
 | none=>none
theorem Qkl {o:Oper} {st:XSt} {t:TypeId} {n:Nat} {parts:Array (Nat×Operand)} {K:Out→Option R} {r:R} (ho:o.op = .buildSlice t n parts) (h:Qau P st t n parts K=some r):∃out,K out=some r∧OpOk P o st out:=by
 unfold Qau at h
 split at h
 ·rename_i e sz bytes hsl
  split at h
  ·rename_i ty vs hty hvs
   split at h
   ·rename_i l hl
    cases h1:Nat.beq ty.size sz with
    | false=>simp[h1] at h
    | true =>
    cases h2:Nat.beq vs.length n with
    | false=>simp[h1,h2] at h
    | true =>
    cases h3:Q7d 0 (parts.toList.map (·.1)) with
    | false=>simp[h1,h2,h3] at h
    | true =>
    cases h4:Nat.ble (n*sz) 16777216 with
    | false=>simp[h1,h2,h3,h4] at h
    | true =>
     simp only[h1,h2,h3,h4,cond_true] at h
     have e1:=Nat.eq_of_beq_eq_true h1
     have e2:=Nat.eq_of_beq_eq_true h2
     have hto:=Q7v hvs hl
     have hlen:=Q9s hto
     have hvl:=Q1k hvs
     refine⟨_,h,Q4 (by rw[Qb5]; exact Q8k hto) fun X=>?_⟩
     have:=Qq1 (P:=P) (X:=X) (xs:=l.map ty.dv) ho (Qd hsl) (by simp; omega) (by
      rw[Qcf h3,List.range_eq_range']; congr 1
      simp at hvl hlen ⊢; omega) (by
      rw[List.all_eq_true]
      intro x hx
      obtain⟨y,_,rfl⟩:=List.mem_map.1 hx
      simp only[Qs4,Qcq,Ty.ds_length,e1,Bool.true_and,beq_self_eq_true]) (Nat.le_of_ble_eq_true h4)
     rw[Qb5]
     simp only[List.map_map] at this
     have e3:(List.map (D.cells ∘ ty.dv) l)=l.map ty.ds:=by
      apply List.map_congr_left; intro y _; exact Qcq ty y
     rw[e3] at this
     show OpT P o _ X X [] (.d (.sl ty.size (l.map ty.ds)))
     rw[e1]
     exact this
   ·cases h
  ·cases h
 ·cases h
end
end Go.Xl
namespace Go.Xl
open Go.Ab
section
variable {P:Program} {R:Type}
-- fieldAddr
noncomputable def Qce (P:Program) (st:XSt) (s:TypeId) (x:Operand) (n:Nat) (K:Out→Option R):Option R :=
 match xeval st x,Qil P s n with
 | some (.nm k (.p off)),some (fo,_,_)=>K (Q9 st (.nm k (.p (off+fo))) [(x,.nm k (.p off))])
 | some (.el k t i o),some (fo,_,_)=>K (Q9 st (.el k t i (o+fo)) [(x,.el k t i o)])
 | some (.d (.ep cs)),some (fo,_,_)=>cond (Nat.ble fo cs.length) (K (Q9 st (.d (.ep (cs.drop fo))) [(x,.d (.ep cs))])) none
 | _,_=>none
theorem Qnd {o:Oper} {st:XSt} {s:TypeId} {x:Operand} {n:Nat} {K:Out→Option R} {r:R} (ho:o.op = .fieldAddr s x n) (h:Qce P st s x n K=some r):∃out,K out=some r∧OpOk P o st out:=by
 unfold Qce at h
 split at h
 ·rename_i k off fo sz ag hx hf
  exact⟨_,h,Q4 (Qi hx) fun X=>Q9i ho (Q9q hf)⟩
 ·rename_i k t i o' fo sz ag hx hf
  refine⟨_,h,Q4 (Qi hx) fun X=>?_⟩
  have:=Q9i (P:=P) (X:=X) (k:=k) (off:=i*t.size+o') ho (Q9q hf)
  rw[Nat.add_assoc] at this
  exact this
 ·rename_i cs fo sz ag hx hf
  cases hb:Nat.ble fo cs.length with
  | false=>simp[hb] at h
  | true =>
   simp only[hb,cond_true] at h
   refine⟨_,h,Q4 (Qi hx) fun X=>?_⟩
   have:=Qjn (P:=P) (X:=X) (cs:=dsOf cs) ho (Q9q hf) (by rw[Q25]; exact Nat.le_of_ble_eq_true hb)
   rw[← Qab] at this
   exact this
 ·cases h
-- field
noncomputable def Qo4 (P:Program) (st:XSt) (s:TypeId) (x:Operand) (n:Nat) (K:Out→Option R):Option R :=
 match xeval st x,Qil P s n with
 | some (.d (.agg cs)),some (fo,sz,true)=>cond (Nat.ble (fo+sz) cs.length) (K (Q9 st (.d (.agg ((cs.drop fo).take sz))) [(x,.d (.agg cs))])) none
 | some (.d (.agg cs)),some (fo,1,false)=>match cs[fo]? with
  | some c=>K (Q9 st (.d c) [(x,.d (.agg cs))])
  | none=>none
 | _,_=>none
theorem Qwt {o:Oper} {st:XSt} {s:TypeId} {x:Operand} {n:Nat} {K:Out→Option R} {r:R} (ho:o.op = .field s x n) (h:Qo4 P st s x n K=some r):∃out,K out=some r∧OpOk P o st out:=by
 unfold Qo4 at h
 split at h
 ·rename_i cs fo sz hx hf
  cases hb:Nat.ble (fo+sz) cs.length with
  | false=>simp[hb] at h
  | true =>
   simp only[hb,cond_true] at h
   refine⟨_,h,Q4 (Qi hx) fun X=>?_⟩
   have:=Qo0 (P:=P) (X:=X) (cs:=dsOf cs) ho (Q9q hf) (by rw[Q25]; exact Nat.le_of_ble_eq_true hb)
   rw[← Qab,← Qae] at this
   exact this
 ·rename_i cs fo hx hf
  split at h
  ·rename_i c hc
   exact⟨_,h,Q4 (Qi hx) fun X=>Qpk (cs:=dsOf cs) ho (Q9q hf) (by rw[Q2n,List.getElem?_map,hc]; rfl)⟩
  ·cases h
 ·cases h
noncomputable def xnum (st:XSt) (x:Operand):Option Int :=
 match xd st x with
 | some (.i _ n)=>some n
 | some (.u8 b)=>some (b.toNat:Int)
 | _=>none
theorem Q3m {st:XSt} {x:Operand} {n:Int} (h:xnum st x=some n):∃a k,xd st x=some a∧a.d = .int k n:=by
 unfold xnum at h
 split at h
 ·rename_i k m ha
  cases h
  exact⟨_,k,ha,rfl⟩
 ·rename_i b ha
  cases h
  exact⟨_,.u8,ha,rfl⟩
 ·cases h
noncomputable def inB (n:Int) (len:Nat):Bool:=decide (0≤n) && decide (n < (len:Int))
theorem Ql7 {n:Int} {len:Nat} (h:inB n len=true):0≤n∧n < (len:Int):=by
 simpa[inB] using h
-- indexAddr
noncomputable def Q8x (P:Program) (st:XSt) (t:TypeId) (x y:Operand) (K:Out→Option R):Option R :=
 match xd st x,xd st y,xnum st y,Qv P t with
 | some (.sl ty l),some b,some n,some (_,sz,_)=>cond (Nat.beq ty.size sz) (Option.bind (at? l n) fun e=>K (Q9 st (.d (.ep (ty.enc e))) [(x,.d (.sl ty l)),(y,.d b)])) none
 | _,_,_,_=>none
theorem Qfz {st:XSt} {x y:Operand} {v:XV} {b:XD} (hx:xeval st x=some v) (hy:xd st y=some b):∀p ∈ imRd [(x,v),(y,.d b)],Sees st.im p.1 p.2:=by
 intro p hp
 simp only[imRd,List.map_cons,List.map_nil,List.mem_cons,List.not_mem_nil,or_false] at hp
 rcases hp with rfl | rfl
 ·exact Q5 hx
 ·exact xd_at hy
noncomputable def Qi7 (P:Program) (st:XSt) (t:TypeId) (x y:Operand) (k:Nat) (ty:Ty) (a len:Nat) (K:Out→Option R):Option R :=
 match xd st y,xnum st y,Qv P t with
 | some b,some n,some (_,sz,_)=>cond (Nat.beq ty.size sz) (cond (inB n len) (K (Q9 st (.el k ty (a+n.toNat) 0) [(x,.os k ty a len),(y,.d b)])) none) none
 | _,_,_=>none
theorem Qqs {o:Oper} {st:XSt} {t:TypeId} {x y:Operand} {k:Nat} {ty:Ty} {a len:Nat} {K:Out→Option R} {r:R} (ho:o.op = .indexAddr t x y) (hx:xeval st x=some (.os k ty a len)) (h:Qi7 P st t x y k ty a len K=some r):∃out,K out=some r∧OpOk P o st out:=by
 unfold Qi7 at h
 split at h
 ·rename_i b n e0 sz by0 hy hn hsl
  cases hb:Nat.beq ty.size sz with
  | false=>simp[hb] at h
  | true =>
  cases hc:inB n len with
  | false=>simp[hb,hc] at h
  | true =>
   simp only[hb,hc,cond_true] at h
   have e1:=Nat.eq_of_beq_eq_true hb
   subst e1
   obtain⟨h0,h1⟩:=Ql7 hc
   obtain⟨z,j,ha,had⟩:=Q3m hn
   rw[hy] at ha
   cases ha
   refine⟨_,h,Q4 (Qfz hx hy) fun X=>?_⟩
   have:=Q9t (P:=P) (X:=X) (x:=x) (y:=y) (j:=j) (i:=n) (k:=k) (off:=a*ty.size) (len:=len) ho (Qd hsl) h0 h1
   show OpT P o [(x,.nm k (.s (a*ty.size) len ty.size)),(y,.d b.d)] X X [] (.nm k (.p ((a+n.toNat)*ty.size+0)))
   rw[had]
   rw[Nat.add_zero,Nat.add_mul]
   exact this
 ·cases h
theorem Qdh {o:Oper} {st:XSt} {t:TypeId} {x y:Operand} {K:Out→Option R} {r:R} (ho:o.op = .indexAddr t x y) (h:Q8x P st t x y K=some r):∃out,K out=some r∧OpOk P o st out:=by
 unfold Q8x at h
 split at h
 ·rename_i ty l b n e0 sz by0 hx hy hn hsl
  cases hb:Nat.beq ty.size sz with
  | false=>simp[hb] at h
  | true =>
   simp only[hb,cond_true] at h
   have e1:=Nat.eq_of_beq_eq_true hb
   obtain⟨e,he,hK⟩:=Option.bind_eq_some_iff.1 h
   obtain⟨h0,h1⟩:=at?_some he
   obtain⟨a,k,ha,had⟩:=Q3m hn
   rw[hy] at ha
   cases ha
   refine⟨_,hK,Q4 (sees2 hx hy) fun X=>?_⟩
   have:=Qrt (P:=P) (X:=X) (x:=x) (y:=y) (k:=k) (i:=n) (es:=l.map ty.ds) (cs:=ty.ds e) ho (Qd hsl) h0 (by rw[List.getElem?_map,h1]; rfl)
   show OpT P o [(x,.d (.sl ty.size (l.map ty.ds))),(y,.d b.d)] X X [] (.d (.ep (dsOf (ty.enc e))))
   rw[had,Ty.enc_ds,e1]
   exact this
 ·cases h
noncomputable def Q8h (P:Program) (t:TypeId):Option (TypeId×Nat×Nat) :=
 match P.underlying t with
 | some (.array n e)=>match P.info? e with
  | some i=>some (e,n,i.size)
  | none=>none
 | _=>none
theorem Q7q {t e n sz:Nat} (h:Q8h P t=some (e,n,sz)):ArrI P t e n sz:=by
 unfold Q8h at h
 split at h
 ·rename_i n' e' ht
  split at h
  ·rename_i i hi
   cases h
   exact⟨ht,i,hi,rfl⟩
  ·cases h
 ·cases h
noncomputable def Qdr (P:Program) (st:XSt) (t:TypeId) (x y:Operand) (ty:Ty) (l:List ty.T) (K:Out→Option R):Option R :=
 match xd st y,xnum st y,Q8h P t with
 | some b,some n,some (_,m,sz)=>cond (Nat.beq ty.size sz) (cond (Nat.ble l.length m) (Option.bind (at? l n) fun e=>K (Q9 st (.d (.ep (ty.enc e))) [(x,.d (.pa ty l)),(y,.d b)])) none) none
 | _,_,_=>none
theorem Qpn {o:Oper} {st:XSt} {t:TypeId} {x y:Operand} {ty:Ty} {l:List ty.T} {K:Out→Option R} {r:R} (ho:o.op = .indexAddr t x y) (hx:xeval st x=some (.d (.pa ty l))) (h:Qdr P st t x y ty l K=some r):∃out,K out=some r∧OpOk P o st out:=by
 unfold Qdr at h
 split at h
 ·rename_i b n e0 m sz hy hn har
  cases hb:Nat.beq ty.size sz with
  | false=>simp[hb] at h
  | true =>
  cases hc:Nat.ble l.length m with
  | false=>simp[hb,hc] at h
  | true =>
   simp only[hb,hc,cond_true] at h
   have e1:=Nat.eq_of_beq_eq_true hb
   subst e1
   obtain⟨e,he,hK⟩:=Option.bind_eq_some_iff.1 h
   obtain⟨h0,h1⟩:=at?_some he
   obtain⟨a,k,ha,had⟩:=Q3m hn
   rw[hy] at ha
   cases ha
   refine⟨_,hK,Q4 (Qfz hx hy) fun X=>?_⟩
   have:=Qhf (P:=P) (X:=X) (x:=x) (y:=y) (k:=k) (i:=n) (es:=l.map ty.ds) (cs:=ty.ds e) ho (Q7q har) (by
    intro i cs hc
    rw[List.getElem?_map,Option.map_eq_some_iff] at hc
    obtain⟨z,_,rfl⟩:=hc
    exact ty.ds_length z) (by simpa using Nat.le_of_ble_eq_true hc) h0 (by rw[List.getElem?_map,h1]; rfl)
   show OpT P o [(x,.d (.ep (l.map ty.ds).flatten)),(y,.d b.d)] X X [] (.d (.ep (dsOf (ty.enc e))))
   rw[had,Ty.enc_ds]
   exact this
 ·cases h
noncomputable def Qfk (P:Program) (st:XSt) (t:TypeId) (x y:Operand) (k:Nat) (ty:Ty) (K:Out→Option R):Option R :=
 match xd st y,xnum st y,Q8h P t with
 | some b,some n,some (_,m,sz)=>cond (Nat.beq ty.size sz) (cond (inB n m) (K (Q9 st (.el k ty n.toNat 0) [(x,.nm k (.p 0)),(y,.d b)])) none) none
 | _,_,_=>none
theorem Qo3 {o:Oper} {st:XSt} {t:TypeId} {x y:Operand} {k:Nat} {ty:Ty} {K:Out→Option R} {r:R} (ho:o.op = .indexAddr t x y) (hx:xeval st x=some (.nm k (.p 0))) (h:Qfk P st t x y k ty K=some r):∃out,K out=some r∧OpOk P o st out:=by
 unfold Qfk at h
 split at h
 ·rename_i b n e0 m sz hy hn har
  cases hb:Nat.beq ty.size sz with
  | false=>simp[hb] at h
  | true =>
  cases hc:inB n m with
  | false=>simp[hb,hc] at h
  | true =>
   simp only[hb,hc,cond_true] at h
   have e1:=Nat.eq_of_beq_eq_true hb
   subst e1
   obtain⟨h0,h1⟩:=Ql7 hc
   obtain⟨z,j,ha,had⟩:=Q3m hn
   rw[hy] at ha
   cases ha
   refine⟨_,h,Q4 (Qfz hx hy) fun X=>?_⟩
   have:=Qgl (P:=P) (X:=X) (x:=x) (y:=y) (k:=j) (i:=n) (j:=k) ho (Q7q har) h0 h1
   show OpT P o [(x,.nm k (.p 0)),(y,.d b.d)] X X [] (.nm k (.p (n.toNat*ty.size+0)))
   rw[had]
   rw[Nat.add_zero]
   exact this
 ·cases h
noncomputable def Qe3 (P:Program) (st:XSt) (t:TypeId) (x y:Operand) (K:Out→Option R):Option R :=
 match xeval st x with
 | some (.os k ty a len)=>Qi7 P st t x y k ty a len K
 | some (.d (.pa ty l))=>Qdr P st t x y ty l K
 | some (.nm k (.p 0))=>match lk k st.objs with
  | some (.arr ty _)=>Qfk P st t x y k ty K
  | _=>Q8x P st t x y K
 | _=>Q8x P st t x y K
theorem Qqj {o:Oper} {st:XSt} {t:TypeId} {x y:Operand} {K:Out→Option R} {r:R} (ho:o.op = .indexAddr t x y) (h:Qe3 P st t x y K=some r):∃out,K out=some r∧OpOk P o st out:=by
 unfold Qe3 at h
 split at h
 ·rename_i k ty a len hx; exact Qqs ho hx h
 ·rename_i ty l hx; exact Qpn ho hx h
 ·rename_i k hx
  split at h
  ·exact Qo3 ho hx h
  ·exact Qdh ho h
 ·exact Qdh ho h
theorem Qrs {o:Oper} {X:Store} {t e:TypeId} {n:Nat} {x y:Operand} {k:IntKind} {i:Int} {ds:List D} {c:D} (ho:o.op = .index t x y) (ht:P.underlying t=some (.array n e)) (he:TyI P e false 1) (h0:0≤i) (hn:i.toNat < n) (hc:ds[i.toNat]? = some c) :
  OpT P o [(x,.d (.agg ds)),(y,.d (.int k i))] X X [] (.d c) :=
 .quiet fun _ _ g w ac hr hrd=>by
  have h1:=rd0 hrd
  have h2:=(rd1 hrd).sc_inv
  simp only at h1 h2
  generalize hv:ac.eval x=v at h1
  cases h1 with
  | d _ _ h1 =>
   cases h1 with
   | agg _ vs hl hcs =>
    obtain⟨u,hu⟩:∃u,vs[i.toNat]? = some u:=⟨_,Array.getElem?_eq_getElem (by have:=(List.getElem?_eq_some_iff.1 hc).1; omega)⟩
    refine⟨u,?_,.d _ _ (hcs _ _ _ hc hu)⟩
    obtain⟨⟨d,hd,hd2⟩,ii,hi,hsz⟩:=he
    have hi' : i < (n:Int):=by omega
    have hp:(part e vs i.toNat).run P w = .ok u w:=by
     have:=Q6a (P:=P) (t:=e) (agg:=false) (sz:=1) ⟨⟨d,hd,hd2⟩,ii,hi,hsz⟩ vs i.toNat w (fun _=>⟨by have:=(Array.getElem?_eq_some_iff.1 hu).1; exact this,by omega⟩)
     rw[this]
     obtain⟨hlt,rfl⟩:=Array.getElem?_eq_some_iff.1 hu
     congr 1
     show(vs.extract i.toNat (i.toNat+1)).getD 0 undef=_
     have h5:0 < (vs.extract i.toNat (i.toNat+1)).size:=by simp; omega
     rw[Array.getD,dif_pos h5]
     simp
    simp only[execOp,ho,hv,h2]
    simp only[Instr.index,asIntOf]
    simp[run_underlying ht,h0,hi',sizeOf,typeInfo,hi,hsz,hp]
-- index of a text
noncomputable def Qob (P:Program) (st:XSt) (t:TypeId) (x y:Operand) (K:Out→Option R):Option R :=
 match xd st x,xd st y,xnum st y,P.underlying t with
 | some (.s l),some b,some n,some .string=>Option.bind (at? l n) fun c=>K (Q9 st (.d (.u8 c)) [(x,.d (.s l)),(y,.d b)])
 | _,_,_,_=>none
theorem Qv4 {o:Oper} {st:XSt} {t:TypeId} {x y:Operand} {K:Out→Option R} {r:R} (ho:o.op = .index t x y) (h:Qob P st t x y K=some r):∃out,K out=some r∧OpOk P o st out:=by
 unfold Qob at h
 split at h
 ·rename_i l b n hx hy hn ht
  obtain⟨c,hc,hK⟩:=Option.bind_eq_some_iff.1 h
  obtain⟨h0,h1⟩:=at?_some hc
  obtain⟨a,k,ha,had⟩:=Q3m hn
  rw[hy] at ha
  cases ha
  refine⟨_,hK,Q4 (sees2 hx hy) fun X=>?_⟩
  have hlt:n.toNat < l.length:=(List.getElem?_eq_some_iff.1 h1).1
  have:=Qus (P:=P) (X:=X) (x:=x) (y:=y) (k:=k) (i:=n) (l:=l) ho ht h0 (by omega)
  show OpT P o [(x,.d (.bs l)),(y,.d b.d)] X X [] (.d (.sc (.int .u8 (c.toNat:Int))))
  rw[had]
  rw[List.getD_eq_getElem?_getD,h1] at this
  exact this
 ·cases h
-- index of a text, or an array
noncomputable def Qkh (P:Program) (st:XSt) (t:TypeId) (x y:Operand) (K:Out→Option R):Option R :=
 match xeval st x with
 | some (.d (.ag ty l))=>match xd st y,xnum st y,P.underlying t with
  | some b,some n,some (.array m e)=>match tyI P e with
   | some (agg,sz)=>cond agg none (cond (Nat.beq sz 1) (cond ty.agg none (cond (Nat.beq l.length m) (Option.bind (at? l n) fun z=>K (Q9 st (.d (ty.xv z)) [(x,.d (.ag ty l)),(y,.d b)])) none)) none)
   | none=>none
  | _,_,_=>none
 | _=>Qob P st t x y K
theorem Qoy (ty:Ty) (h:ty.agg=false):∀(l:List ty.T),(l.map ty.ds).flatten=l.map ty.dv
 | []=>rfl
 | x :: r=>by rw[List.map_cons,List.flatten_cons,Qoy ty h r,ty.dv_one x h]; rfl
theorem Quj {o:Oper} {st:XSt} {t:TypeId} {x y:Operand} {K:Out→Option R} {r:R} (ho:o.op = .index t x y) (h:Qkh P st t x y K=some r):∃out,K out=some r∧OpOk P o st out:=by
 unfold Qkh at h
 split at h
 ·rename_i ty l hx
  split at h
  ·rename_i b n m e hy hn ht
   split at h
   ·rename_i agg sz he
    cases agg with
    | true=>simp at h
    | false =>
    cases h1:Nat.beq sz 1 with
    | false=>simp[h1] at h
    | true =>
    cases h2:ty.agg with
    | true=>simp[h1,h2] at h
    | false =>
    cases h3:Nat.beq l.length m with
    | false=>simp[h1,h2,h3] at h
    | true =>
     simp only[h1,h2,h3,cond_true,cond_false] at h
     obtain⟨z,hz,hK⟩:=Option.bind_eq_some_iff.1 h
     obtain⟨h0,h4⟩:=at?_some hz
     obtain⟨a,k,ha,had⟩:=Q3m hn
     rw[hy] at ha
     cases ha
     have e1:=Nat.eq_of_beq_eq_true h1
     have e3:=Nat.eq_of_beq_eq_true h3
     subst e1
     have hxd:xd st x=some (.ag ty l):=by unfold xd; rw[hx]; rfl
     refine⟨_,hK,Q4 (sees2 hxd hy) fun X=>?_⟩
     have hlt:n.toNat < l.length:=(List.getElem?_eq_some_iff.1 h4).1
     have:=Qrs (P:=P) (X:=X) (x:=x) (y:=y) (k:=k) (i:=n) (ds:=l.map ty.dv) (c:=ty.dv z) ho ht (tyI_I he) h0 (by omega) (by rw[List.getElem?_map,h4]; rfl)
     rw[← Qoy ty h2,← had] at this
     exact this
   ·cases h
  ·cases h
 ·exact Qv4 ho h
noncomputable def cutOk (lo hi:Int) (len:Nat):Bool:=decide (0≤lo) && decide (lo≤hi) && decide (hi≤(len:Int))
theorem Q8a {lo hi:Int} {len:Nat} (h:cutOk lo hi len=true):0≤lo∧lo≤hi∧hi≤(len:Int):=by
 simp only[cutOk,Bool.and_eq_true,decide_eq_true_eq] at h
 exact⟨h.1.1,h.1.2,h.2⟩
noncomputable def cutL {α:Type} (lo hi:Int) (l:List α):List α:=(l.drop lo.toNat).take (hi.toNat - lo.toNat)
theorem Qrl {o:Oper} {X:Store} {t e:TypeId} {sz:Nat} {x:Operand} {lo hi:Option Operand} {es:List (List D)} {l h:Int} {rd:List (Operand×AV)} {i:TypeInfo} (ho:o.op = .slice t x lo hi none) (ht:P.underlying t=some (.slice e))
  (hi' : P.info? e=some i) (hsz:i.size=sz) (h0:0≤l) (h1:l≤h) (h2:h≤es.length)
  (hlo:match lo with | some y=>∃k,(y,AV.d (.int k l)) ∈ rd | none=>l=0) (hhi:match hi with | some y=>∃k,(y,AV.d (.int k h)) ∈ rd | none=>h=es.length) :
  OpT P o ((x,.d (.sl sz es)) :: rd) X X [] (.d (.sl sz (cutL l h es))) :=
 .quiet fun _ _ g w ac _ hrd=>by
  have h3:=hrd (x,.d (.sl sz es)) List.mem_cons_self
  simp only at h3
  generalize hx:ac.eval x=v at h3
  have key:∃a len cap,v = .slice a len cap∧len=es.length∧len≤cap∧RD g.γ w (.sl sz (cutL l h es)) (.slice (if cap=l.toNat then a else a.map (·.add (l.toNat*sz))) (h.toNat - l.toNat) (cap - l.toNat)):=by
   cases h3 with
   | d _ _ h3 =>
    cases h3 with
    | nil _ a cap hn =>
     have hl:l=0:=by simp at h2; omega
     have hh:h=0:=by simp at h2; omega
     subst hl; subst hh
     refine⟨a,0,cap,rfl,rfl,Nat.zero_le _,?_⟩
     have:cutL 0 0 ([] : List (List D)) = []:=rfl
     rw[this]
     simp only[Int.toNat_zero,Nat.sub_zero,Nat.zero_mul]
     cases a with
     | none=>simp only[Option.map_none,ite_self]; rw[hn rfl]; exact .nil sz none 0 fun _=>rfl
     | some a=>simp only[Option.map_some]; split <;> exact .nil sz _ cap (by simp)
    | sl _ _ b off len cap hlen hγ hcap hszs hc =>
     refine⟨_,len,cap,rfl,hlen,by omega,?_⟩
     have hln:(cutL l h es).length=h.toNat - l.toNat:=by simp[cutL]; omega
     by_cases hz:h.toNat - l.toNat=0
     ·have:cutL l h es = []:=List.length_eq_zero_iff.1 (hln.trans hz)
      rw[this,hz]
      split
      ·exact .nil sz _ _ (by simp)
      ·exact .nil sz _ _ (by simp)
     ·have hne : ¬cap=l.toNat:=by omega
      rw[if_neg hne]
      simp only[Option.map_some,addr_add]
      refine .sl sz _ b (off+l.toNat*sz) _ _ (by rw[hln]) ?_ (by rw[hln]; omega) ?_ ?_
      ·have:l.toNat+(cutL l h es).length≤es.length:=by rw[hln]; omega
       have h6:=Nat.mul_le_mul_right sz this
       rw[Nat.add_mul] at h6
       omega
      ·intro i cs hcs
       simp only[cutL,List.getElem?_take,List.getElem?_drop] at hcs
       split at hcs
       ·exact hszs _ cs hcs
       ·cases hcs
      ·intro i cs j c u hcs hj hu
       simp only[cutL,List.getElem?_take,List.getElem?_drop] at hcs
       split at hcs
       ·refine hc (l.toNat+i) cs j c u hcs hj ?_
        rw[show off+(l.toNat+i)*sz+j=off+l.toNat*sz+i*sz+j by rw[Nat.add_mul]; omega]
        exact hu
       ·cases hcs
  obtain⟨a,len,cap,rfl,hlen,hcap,hrd'⟩:=key
  refine⟨_,?_,.d _ _ hrd'⟩
  have hsa:∀lo hi,(Instr.sliceAt t (.slice a len cap) lo hi none).run P w=(Instr.slice t (.slice a len cap) lo hi none).run P w:=by
   intro lo hi
   simp[Instr.sliceAt,run_underlying ht]
  simp only[execOp,ho,hx]
  have eh:∀y,hi=some y→∃k,ac.eval y = .int k h:=by
   intro y hy
   subst hy
   obtain⟨k,hk⟩:=hhi
   exact⟨k,(hrd _ (List.mem_cons_of_mem _ hk)).sc_inv⟩
  have el:∀y,lo=some y→∃k,ac.eval y = .int k l:=by
   intro y hy
   subst hy
   obtain⟨k,hk⟩:=hlo
   exact⟨k,(hrd _ (List.mem_cons_of_mem _ hk)).sc_inv⟩
  have bh:∀(y:Nat) (c:BoundsCode) (k:IntKind),h≤(y:Int)→(Instr.sliceBound (.int k h) y c).run P w = .ok h.toNat w:=by
   intro y c k hy
   simp[Instr.sliceBound,asIntOf,show 0≤h by omega,hy]
  have bl:∀(y:Nat) (c:BoundsCode) (k:IntKind),l≤(y:Int)→(Instr.sliceBound (.int k l) y c).run P w = .ok l.toNat w:=by
   intro y c k hy
   simp[Instr.sliceBound,asIntOf,h0,hy]
  have hsize:(sizeOf e).run P w = .ok sz w:=by rw[Ab.run_sizeOf hi',hsz]
  cases hi with
  | none =>
   simp only at hhi
   subst hhi
   have e5:((es.length:Nat):Int).toNat=len:=by omega
   cases lo with
   | none =>
    simp only at hlo
    subst hlo
    simp[hsa,Instr.slice,Instr.sliceBounds,run_underlying ht,hsize,← hlen]
   | some y =>
    obtain⟨k,hk⟩:=el y rfl
    have b1:=bl len .sliceB k (by omega)
    simp[hsa,Instr.slice,Instr.sliceBounds,run_underlying ht,hsize,hk,b1,← hlen]
  | some y' =>
   obtain⟨k',hk'⟩:=eh y' rfl
   have b2:=bh cap .sliceAcap k' (by omega)
   cases lo with
   | none =>
    simp only at hlo
    subst hlo
    simp[hsa,Instr.slice,Instr.sliceBounds,run_underlying ht,hsize,hk',b2]
   | some y =>
    obtain⟨k,hk⟩:=el y rfl
    have b1:=bl h.toNat .sliceB k (by omega)
    simp[hsa,Instr.slice,Instr.sliceBounds,run_underlying ht,hsize,hk,hk',b1,b2]
end
end Go.Xl
namespace Go.Xl
open Go.Ab
section
variable {P:Program} {R:Type}
noncomputable def Q28 (st:XSt) (d:Int):Option Operand→Option (Int×List (Operand×XV))
 | none=>some (d,[])
 | some y=>match xd st y,xnum st y with
  | some b,some n=>some (n,[(y,.d b)])
  | _,_=>none
theorem Q1a {st:XSt} {d n:Int} {y:Option Operand} {rd:List (Operand×XV)} (h:Q28 st d y=some (n,rd)):(∀p ∈ imRd rd,Sees st.im p.1 p.2) ∧
  (match y with | some y=>∃k,(y,AV.d (.int k n)) ∈ imRd rd | none=>n=d)∧(match y with | some y=>∃k,imRd rd = [(y,AV.d (.int k n))] | none=>rd = []):=by
 cases y with
 | none=>cases h; exact⟨by simp[imRd],rfl,rfl⟩
 | some y =>
  unfold Q28 at h
  simp only at h
  split at h
  ·rename_i b m hb hm
   cases h
   obtain⟨a,k,ha,had⟩:=Q3m hm
   rw[hb] at ha
   cases ha
   exact⟨sees1 hb,⟨k,by simp[imRd,XV.a,had]⟩,⟨k,by simp[imRd,XV.a,had]⟩⟩
  ·cases h
noncomputable def cutX {α:Type} (lo hi:Option Operand) (l h:Int) (xs:List α):List α :=
 match lo,hi with
 | none,none=>xs
 | some _,none=>xs.drop l.toNat
 | none,some _=>xs.take h.toNat
 | some _,some _=>cutL l h xs
theorem Qyv {α:Type} {lo hi:Option Operand} {l h:Int} {xs:List α} (hlo:lo=none→l=0) (hhi:hi=none→h=xs.length) (h0:0≤l) (h2:h≤xs.length):cutX lo hi l h xs=cutL l h xs:=by
 cases lo with
 | none =>
  have:=hlo rfl
  subst this
  cases hi with
  | none=>have:=hhi rfl; subst this; simp[cutX,cutL]
  | some y=>simp[cutX,cutL]
 | some x =>
  cases hi with
  | none=>have:=hhi rfl; subst this; simp only[cutX,cutL,Int.toNat_natCast]; rw[List.take_of_length_le]; simp
  | some y=>rfl
noncomputable def Qpj (P:Program) (st:XSt) (t:TypeId) (x:Operand) (lo hi mx:Option Operand) (K:Out→Option R):Option R :=
 match mx,xd st x with
 | none,some (.s s) =>
  match P.underlying t,Q28 st 0 lo,Q28 st s.length hi with
  | some .string,some (l,r1),some (h,r2)=>cond (cutOk l h s.length) (K (Q9 st (.d (.s (cutX lo hi l h s))) ((x,.d (.s s)) :: (r1++r2)))) none
  | _,_,_=>none
 | none,some (.sl ty s) =>
  match Qv P t,Q28 st 0 lo,Q28 st s.length hi with
  | some (_,sz,_),some (l,r1),some (h,r2)=>cond (Nat.beq ty.size sz) (cond (cutOk l h s.length) (K (Q9 st (.d (.sl ty (cutX lo hi l h s))) ((x,.d (.sl ty s)) :: (r1++r2)))) none) none
  | _,_,_=>none
 | _,_=>none
theorem Qw (a b:List (Operand×XV)):imRd (a++b)=imRd a++imRd b:=by simp[imRd]
theorem Qoh {st:XSt} {x:Operand} {a:XD} {r1 r2:List (Operand×XV)} (hx:xd st x=some a) (h1:∀p ∈ imRd r1,Sees st.im p.1 p.2) (h2:∀p ∈ imRd r2,Sees st.im p.1 p.2) :
  ∀p ∈ imRd ((x,.d a) :: (r1++r2)),Sees st.im p.1 p.2:=by
 intro p hp
 simp only[imRd,List.map_cons,List.map_append,List.mem_cons,List.mem_append] at hp
 rcases hp with rfl | hp | hp
 ·exact xd_at hx
 ·exact h1 p hp
 ·exact h2 p hp
theorem Qiq {o:Oper} {X:Store} {t:TypeId} {x:Operand} {s:List UInt8} (ho:o.op = .slice t x none none none) (ht:P.underlying t=some .string) :
  OpT P o [(x,.d (.bs s))] X X [] (.d (.bs s)) :=
 .quiet fun _ _ g w ac _ hrd=>by
  have e1:=(rd0 hrd).sc_inv
  simp only at e1
  refine⟨_,?_,.ofSc _ _ _⟩
  simp only[execOp,ho,Option.map_none,e1]
  simp[run_sliceAt_string w t _ _ _ _ ht,Instr.slice,run_underlying ht,Instr.sliceBounds]
theorem Qwi {o:Oper} {st:XSt} {t:TypeId} {x:Operand} {lo hi mx:Option Operand} {K:Out→Option R} {r:R} (ho:o.op = .slice t x lo hi mx) (h:Qpj P st t x lo hi mx K=some r):∃out,K out=some r∧OpOk P o st out:=by
 unfold Qpj at h
 split at h
 ·rename_i s hx
  split at h
  ·rename_i l r1 hh r2 ht hlo hhi
   cases hc:cutOk l hh s.length with
   | false=>simp[hc] at h
   | true =>
    simp only[hc,cond_true] at h
    obtain⟨c0,c1,c2⟩:=Q8a hc
    obtain⟨s1,m1,f1⟩:=Q1a hlo
    obtain⟨s2,m2,f2⟩:=Q1a hhi
    refine⟨_,h,Q4 (Qoh hx s1 s2) fun X=>?_⟩
    cases lo with
    | none =>
     simp only at m1 f1
     subst m1; subst f1
     cases hi with
     | none =>
      simp only at m2 f2
      subst m2; subst f2
      exact Qiq ho ht
     | some y =>
      obtain⟨k,hk⟩:=f2
      have:=Qnj (P:=P) (X:=X) (k:=k) ho ht c1 c2
      simp only[List.nil_append]
      show OpT P o ((x,.d (.bs s)) :: imRd r2) X X [] _
      rw[hk]
      exact this
    | some y0 =>
     obtain⟨k0,hk0⟩:=f1
     cases hi with
     | none =>
      simp only at m2 f2
      subst m2; subst f2
      have:=Qnl (P:=P) (X:=X) (k:=k0) ho ht c0 c1
      simp only[List.append_nil]
      show OpT P o ((x,.d (.bs s)) :: imRd r1) X X [] _
      rw[hk0]
      exact this
     | some y =>
      obtain⟨k,hk⟩:=f2
      have:=Qtd (P:=P) (X:=X) (k:=k0) (k':=k) ho ht c0 c1 c2
      show OpT P o ((x,.d (.bs s)) :: imRd (r1++r2)) X X [] _
      rw[Qw,hk0,hk]
      exact this
  ·cases h
 ·rename_i ty s hx
  split at h
  ·rename_i e sz by0 l r1 hh r2 ht hlo hhi
   cases hb:Nat.beq ty.size sz with
   | false=>simp[hb] at h
   | true =>
   cases hc:cutOk l hh s.length with
   | false=>simp[hb,hc] at h
   | true =>
    simp only[hb,hc,cond_true] at h
    have e1:=Nat.eq_of_beq_eq_true hb
    obtain⟨c0,c1,c2⟩:=Q8a hc
    obtain⟨s1,m1,f1⟩:=Q1a hlo
    obtain⟨s2,m2,f2⟩:=Q1a hhi
    obtain⟨hu,i,z,hi',hs',hb',hz',hzs'⟩:=Qd ht
    refine⟨_,h,Q4 (Qoh hx s1 s2) fun X=>?_⟩
    have:=Qrl (P:=P) (X:=X) (es:=s.map ty.ds) (rd:=imRd (r1++r2)) (l:=l) (h:=hh) ho hu hi' hs' c0 c1 (by simpa using c2) (by
     cases lo with
     | none=>exact m1
     | some y=>obtain⟨k,hk⟩:=m1; exact⟨k,by rw[Qw]; exact List.mem_append_left _ hk⟩) (by
     cases hi with
     | none=>simpa using m2
     | some y=>obtain⟨k,hk⟩:=m2; exact⟨k,by rw[Qw]; exact List.mem_append_right _ hk⟩)
    show OpT P o ((x,.d (.sl ty.size (s.map ty.ds))) :: imRd (r1++r2)) X X [] (.d (.sl ty.size ((cutX lo hi l hh s).map ty.ds)))
    rw[Qyv (by intro hl; subst hl; exact m1) (by intro hl; subst hl; exact m2) c0 c2]
    rw[e1]
    have e2:(cutL l hh s).map ty.ds=cutL l hh (s.map ty.ds):=by simp[cutL,List.map_take,List.map_drop]
    rw[e2]
    exact this
  ·cases h
 ·cases h
-- len
noncomputable def xLen (P:Program) (st:XSt) (ts:Array TypeId) (x:Operand) (K:Out→Option R):Option R :=
 match ts[0]? with
 | some t =>
  match xd st x,P.underlying t with
  | some (.s l),some .string=>K (Q9 st (.d (.i .i64 (l.length:Int))) [(x,.d (.s l))])
  | some (.sl ty l),some (.slice _)=>K (Q9 st (.d (.i .i64 (l.length:Int))) [(x,.d (.sl ty l))])
  | some (.v (.slice none 0 0)),some (.slice _)=>match Qv P t with
   | some _=>K (Q9 st (.d (.i .i64 0)) [(x,.d (.v (.slice none 0 0)))])
   | none=>none
  | _,_=>none
 | none=>none
theorem Qyn {o:Oper} {st:XSt} {ts:Array TypeId} {x:Operand} {K:Out→Option R} {r:R} (ho:o.op = .call { callee:=.builtin .len,args:=#[x],argTypes:=ts }) (h:xLen P st ts x K=some r):∃out,K out=some r∧OpOk P o st out:=by
 unfold xLen at h
 split at h
 ·rename_i t ht0
  split at h
  ·rename_i l hx ht
   exact⟨_,h,Q4 (sees1 hx) fun X=>Qyj ho ht0 ht⟩
  ·rename_i ty l e hx ht
   refine⟨_,h,Q4 (sees1 hx) fun X=>?_⟩
   have:=Qeg (P:=P) (X:=X) (x:=x) (sz:=ty.size) (es:=l.map ty.ds) ho ht0 ht
   rw[List.length_map] at this
   exact this
  ·rename_i e hx ht
   split at h
   ·rename_i q hq
    obtain⟨q1,q2,q3⟩:=q
    exact⟨_,h,Q4 (sees1 hx) fun X=>Qtz ho ht0 (Qd hq)⟩
   ·cases h
  ·cases h
 ·cases h
-- min, max
noncomputable def Q9b (st:XSt) (isMin:Bool) (x y:Operand) (K:Out→Option R):Option R :=
 match xd st x,xd st y with
 | some (.i k a),some (.i k' b)=>cond (kindB k k') (K (Q9 st (.d (.i k (cond isMin (if b < a then b else a) (if b > a then b else a)))) [(x,.d (.i k a)),(y,.d (.i k' b))])) none
 | _,_=>none
theorem Qze {o:Oper} {st:XSt} {ts:Array TypeId} {x y:Operand} {K:Out→Option R} {r:R} (ho:o.op = .call { callee:=.builtin .min,args:=#[x,y],argTypes:=ts }) (h:Q9b st true x y K=some r):∃out,K out=some r∧OpOk P o st out:=by
 unfold Q9b at h
 split at h
 ·rename_i k a k' b hx hy
  cases hk:kindB k k' with
  | false=>simp[hk] at h
  | true =>
   simp only[hk,cond_true] at h
   have:=Q13 hk
   subst this
   exact⟨_,h,Q4 (sees2 hx hy) fun X=>Qzv ho⟩
 ·cases h
theorem Qyx {o:Oper} {st:XSt} {ts:Array TypeId} {x y:Operand} {K:Out→Option R} {r:R} (ho:o.op = .call { callee:=.builtin .max,args:=#[x,y],argTypes:=ts }) (h:Q9b st false x y K=some r):∃out,K out=some r∧OpOk P o st out:=by
 unfold Q9b at h
 split at h
 ·rename_i k a k' b hx hy
  cases hk:kindB k k' with
  | false=>simp[hk] at h
  | true =>
   simp only[hk,cond_true,cond_false] at h
   have:=Q13 hk
   subst this
   exact⟨_,h,Q4 (sees2 hx hy) fun X=>Qzz ho⟩
 ·cases h
noncomputable def Q6y (o:Oper):Option Nat :=
 match o.dst with
 | some d=>some (100000+d)
 | none=>none
noncomputable def fitsB (n bytes:Nat):Bool:=decide (n*bytes≤140737488355328) && decide (n≤4611686018427387904)
theorem Q4f {n bytes:Nat} (h:fitsB n bytes=true):n*bytes≤140737488355328∧n≤4611686018427387904:=by
 simpa[fitsB] using h
noncomputable def without (n:Nat) (l:List Nat):List Nat:=l.filter (· != n)
noncomputable def Q26 (m:Nat) (live:List Nat) (st:XSt):Bool:=cond (inl m live) false (Q3l [m] st)
theorem Q39 {m:Nat} {live:List Nat} {st:XSt} (h:Q26 m live st=true):m ∉ live∧Qa [m] st.X=true:=by
 unfold Q26 at h
 cases hm:inl m live with
 | true=>simp[hm] at h
 | false =>
  simp only[hm,cond_false] at h
  refine⟨fun hh=>?_,Q58 h⟩
  rw[(Qg m live).2 hh] at hm
  cases hm
noncomputable def tyOpt (ty:Option TypeId) (e:TypeId):Bool :=
 match ty with
 | none=>true
 | some t=>Nat.beq t e
theorem Qhu {ty:Option TypeId} {e:TypeId} (h:tyOpt ty e=true):(ty == none || ty == some e)=true:=by
 cases ty with
 | none=>rfl
 | some t=>simp only[tyOpt] at h; rw[Nat.eq_of_beq_eq_true h]; simp
-- append
noncomputable def Ql3 (P:Program) (st:XSt) (o:Oper) (ts:Array TypeId) (s x:Operand) (K:Out→Option R):Option R :=
 match ts[0]?,ts[1]?,Q6y o with
 | some t,some u,some m =>
  match Qv P t,Qv P u,xeval st s,xd st x with
  | some (e,sz,bytes),some _,some (.tip n ty l oty),some (.sl ty' l') =>
   if h:ty'.eqb ty=true then
    cond (Nat.beq ty.size sz) (cond (inl n st.live) (cond (Q26 m (without n st.live) st) (cond (tyOpt oty e)
     (cond (fitsB (l.length+l'.length) bytes) (K ⟨.lab,.tip m ty (l++(Ty.eqb_eq h▸l' : List ty.T)) oty,[(s,.tip n ty l oty),(x,.d (.sl ty' l'))],st.objs,m :: without n st.live,[m],[]⟩) none) none) none) none) none
   else none
  | some (e,sz,bytes),some _,some (.d (.v (.slice none 0 0))),some (.sl ty l) =>
   cond (Nat.beq ty.size sz) (cond (Q26 m st.live st)
     (cond (fitsB l.length bytes) (K ⟨.lab,.tip m ty l (some e),[(s,.d (.v (.slice none 0 0))),(x,.d (.sl ty l))],st.objs,m :: st.live,[m],[]⟩) none) none) none
  | _,_,_,_=>none
 | _,_,_=>none
theorem Que {o:Oper} {st:XSt} {ts:Array TypeId} {s x:Operand} {K:Out→Option R} {r:R} (ho:o.op = .call { callee:=.builtin .append,args:=#[s,x],argTypes:=ts }) (h:Ql3 P st o ts s x K=some r):∃out,K out=some r∧OpOk P o st out:=by
 unfold Ql3 at h
 split at h
 ·rename_i t u m ht hu hm
  split at h
  ·rename_i e sz bytes q n ty l oty ty' l' hsl hsu hs hx
   split at h
   ·rename_i he
    have e0:=Ty.eqb_eq he
    subst e0
    cases h1:Nat.beq ty'.size sz with
    | false=>simp[h1] at h
    | true =>
    cases h2:inl n st.live with
    | false=>simp[h1,h2] at h
    | true =>
    cases h3:Q26 m (without n st.live) st with
    | false=>simp[h1,h2,h3] at h
    | true =>
    cases h4:tyOpt oty e with
    | false=>simp[h1,h2,h3,h4] at h
    | true =>
    cases h5:fitsB (l.length+l'.length) bytes with
    | false=>simp[h1,h2,h3,h4,h5] at h
    | true =>
     simp only[h1,h2,h3,h4,h5,cond_true] at h
     have e1:=Nat.eq_of_beq_eq_true h1
     subst e1
     obtain⟨f1,f2⟩:=Q39 h3
     obtain⟨b1,b2⟩:=Q4f h5
     obtain⟨q1,q2,q3⟩:=q
     refine⟨_,h,⟨?_,?_,fun _ _ _ h=>h⟩⟩
     ·intro p hp
      simp only[imRd,List.map_cons,List.map_nil,List.mem_cons,List.not_mem_nil,or_false] at hp
      rcases hp with rfl | rfl
      ·exact Q5 hs
      ·exact xd_at hx
     ·have:=Qi6 (P:=P) (X:=st.X) (s:=s) (x:=x) (n:=n) (es:=l.map ty'.ds) (fs:=l'.map ty'.ds) (ty:=oty) m ho ht hu (Qd hsu) (Qd hsl) ((Qg _ _).1 h2) f1 f2
       (by intro cs hcs c hc; obtain⟨y,_,rfl⟩:=List.mem_map.1 hcs; exact ty'.ds_one y c hc) (by simpa using b1) (by simpa using b2) (Qhu h4)
      rw[← List.map_append] at this
      exact⟨rfl,this⟩
   ·cases h
  ·rename_i e sz bytes q ty l hsl hsu hs hx
   cases h1:Nat.beq ty.size sz with
   | false=>simp[h1] at h
   | true =>
   cases h3:Q26 m st.live st with
   | false=>simp[h1,h3] at h
   | true =>
   cases h5:fitsB l.length bytes with
   | false=>simp[h1,h3,h5] at h
   | true =>
    simp only[h1,h3,h5,cond_true] at h
    have e1:=Nat.eq_of_beq_eq_true h1
    subst e1
    obtain⟨f1,f2⟩:=Q39 h3
    obtain⟨b1,b2⟩:=Q4f h5
    obtain⟨q1,q2,q3⟩:=q
    refine⟨_,h,⟨?_,?_,fun _ _ _ h=>h⟩⟩
    ·intro p hp
     simp only[imRd,List.map_cons,List.map_nil,List.mem_cons,List.not_mem_nil,or_false] at hp
     rcases hp with rfl | rfl
     ·exact Q5 hs
     ·exact xd_at hx
    ·have := Qpy (P := P) (X := st.X) (s := s) (x := x) (fs := l.map ty.ds) (ty := some e) m ho ht hu (Qd hsu) (Qd hsl) f1 f2
       (by intro cs hcs c hc; obtain⟨y,_,rfl⟩:=List.mem_map.1 hcs; exact ty.ds_one y c hc) (by simpa using b1) (by simpa using b2) (by simp)
     exact⟨rfl,this⟩
  ·cases h
 ·cases h
end
end Go.Xl
namespace Go.Ab
section
variable {P:Program} {o:Oper} {X:Store}
theorem Qgn {ts:Array TypeId} {s x:Operand} {sz:Nat} {fs:List (List D)} {t u e e' bytes bytes' sz' : Nat} (m:Nat)
  (ho:o.op = .call { callee:=.builtin .append,args:=#[s,x],argTypes:=ts }) (h0:ts[0]? = some t) (h1:ts[1]? = some u) (hu:SliceI P u e' sz' bytes')
  (ht:SliceI P t e sz bytes) (h1m:1000≤m) (hX:Qa [m] X=true) (hne:fs≠[])
  (hone:∀c ∈ fs,∀d ∈ c,oneD d=true) (hbig:fs.length*bytes≤140737488355328) (hlen:fs.length≤4611686018427387904) :
  OpT P o [(s,.d (.sc (.slice none 0 0))),(x,.d (.sl sz fs))] X ⟨(m,.cells (fs.flatten.map .d) none) :: (dropObj m X).objs,X.live⟩ [m] (.osl m 0 fs.length sz):=by
 obtain⟨htt,i,z,hi,hsz,hbt,hz,hzs⟩:=ht
 intro nm hsm B g w a hr hrd next Q hnext
 have hmn:m ∉ nm:=fun hh=>by have:=hsm m hh; omega
 have e1:=(rd0 hrd).sc_inv
 have e2:=rd1 hrd
 simp only at e1 e2
 unfold Oper.wp
 have hrun:∀r,(Builtin.append_ ts o.type #[a.eval s,a.eval x]).run P w=r→(execOp a.eval o).run P w=r.andThen fun v w'=>.ok (.value v) w':=by
  intro r hr'
  simp only[execOp,ho,resolve]
  simp[invoke,builtin,hr']
 rw[e1] at hrun
 generalize a.eval x=vx at e2 hrun
 cases e2 with
 | d _ _ e2 =>
 obtain⟨xb,xc,rfl,hxcap,_,hszF,news,hnl,hnrun,hnc⟩:=e2.slCells (P:=P) hr.sane
 have hflat:=Q1h fs hszF
 have hnew:∀(j:Nat) (y:AV) v,((fs.flatten.map AV.d))[j]? = some y→news[j]? = some v→RA g w y v:=by
  intro j y v hy hv
  rw[List.getElem?_map,Option.map_eq_some_iff] at hy
  obtain⟨d,hd,rfl⟩:=hy
  obtain⟨p,q,ds,rfl,hp,hq⟩:=flat_get fs hszF j d hd
  exact .d _ _ (hnc p q ds d v hp hq hv)
 have hneed : ¬0+fs.length≤0:=by
  have:=List.length_pos_iff.2 hne; omega
 obtain⟨hrd',htd⟩:=hr.drew
 have hrn:=Q5u (P:=P) (w:=w) (ty:=o.type) (base:=none) (len:=0) (cap:=0) (olds:=[]) h0 h1 hu.und htt hi hz (by rw[hsz]; exact hnrun w.drew fun _ _ _=>rfl) (by simp[Builtin.firstCells,loadCells,loadCellsFrom]) hneed (by omega) (by rw[hbt]; simpa using hbig)
 have hge:=grownCap_ge w (0+fs.length) 0 e
 generalize grownCap w (0+fs.length) 0 e=nc at hrn hge
 generalize harrE:([] : List Value).toArray++news.toArray++Builtin.zeroCells z.cells (nc - (0+fs.length))=arr2 at hrn
 have harr:arr2.size=nc*sz:=by
  rw[← harrE]
  simp only[Array.size_append,List.size_toArray,size_zeroCells,List.length_nil,hnl,hzs]
  rw[Nat.zero_add,← Nat.add_mul]
  congr 1; omega
 have hncm:fs.length*sz≤nc*sz:=Nat.mul_le_mul_right _ (by omega)
 have hr1:=hrd'.dropObj (k:=m) hmn
 obtain⟨hr2,ht2⟩:=hr1.newObj (k:=m) (by simp only[Ab.dropObj,Q1g,if_true]) (by
  unfold Qa at hX ⊢
  simp only[List.isEmpty_cons,Bool.false_or] at hX ⊢
  rw[List.all_eq_true] at hX ⊢
  intro p hp
  simp only[Ab.dropObj,List.mem_filter] at hp
  exact hX p hp.1) (.cells arr2 e) (.cells (fs.flatten.map .d) none) (by
  intro g' w' ht' hw'
  refine .cells _ none arr2 e hw' (by simp only[List.length_map,hflat]; omega) ?_ (by simp)
  intro j y v hy hv
  have hjl:j < fs.flatten.length:=by
   have:=(List.getElem?_eq_some_iff.1 hy).1; rw[List.length_map] at this; exact this
  have hfree:Free [m] y:=by
   rw[List.getElem?_map,Option.map_eq_some_iff] at hy
   obtain⟨d,_,rfl⟩:=hy
   exact .d _
  rw[← harrE,Array.getElem?_append_left (by simp only[Array.size_append,List.size_toArray,List.length_nil,hnl]; omega),Array.getElem?_append_right (by simp)] at hv
  simp only[List.size_toArray,List.length_nil,Nat.sub_zero,List.getElem?_toArray] at hv
  exact((hnew j y v hy hv).mono htd (.nil _)).mono ht' hfree)
 rw[hrun _ hrn]
 have hww:w.heap.size=w.drew.heap.size:=rfl
 refine hnext _ _ _ hr2 (htd.trans ht2) ?_
 simp only[Nat.zero_add] at hge ⊢
 refine .nm _ _ _ ?_
 simp only[upd_same]
 rw[hww]
 refine⟨nc,0,hge,rfl,.inr rfl,e,arr2.size,?_,by omega⟩
 have:=heap_alloc_new w.drew (.cells arr2 e)
 simp only[World.shape?]
 rw[this]
end
end Go.Ab
namespace Go.Ab
section
variable {P:Program} {o:Oper} {X:Store}
theorem Qng {zs:Array Value}:∀ {n:Nat} {v:Value},v ∈ (Builtin.zeroCells zs n).toList→v ∈ zs.toList:=by
 intro n v h
 unfold Builtin.zeroCells at h
 simp at h
 obtain⟨a,ha,h⟩:=h
 have h0:0 < zs.size:=by
  rcases Nat.eq_zero_or_pos zs.size with h0 | h0
  ·rw[h0] at ha; simp at ha
  ·exact h0
 have hlt:=Nat.mod_lt a h0
 rw[getElem!_pos zs _ hlt] at h
 rw[← h]
 simp
theorem Qp1 {ts:Array TypeId} {x:Operand} {k off len sz:Nat} {cs:List AV} {ty:Option TypeId} {t e bytes:Nat}
  (ho:o.op = .call { callee:=.builtin .clear,args:=#[x],argTypes:=ts }) (h0:ts[0]? = some t) (ht:SliceI P t e sz bytes) (hk:X.objs.lookup k=some (.cells cs ty))
  (hone:∀z,(P.info? e).bind (·.zero)=some z→∀v ∈ z.cells.toList,v.oneCell' = true) :
  OpT P o [(x,.osl k off len sz)] X ⟨setObj k (.cells (cs.take off) ty) X.objs,X.live⟩ [] (.tup []):=by
 obtain⟨htt,i,z,hi,hsz,hbt,hz,hzs⟩:=ht
 intro nm hsm B g w a hr hrd next Q hnext
 have e1:=rd0 hrd
 simp only at e1
 obtain⟨cap,q,hcap,hv,hq,T,c,hsh,hc⟩:=e1.osl_inv
 unfold Oper.wp
 have hrun:∀w',(Builtin.clear_ ts o.type #[a.eval x]).run P w = .ok (.tuple #[]) w'→(execOp a.eval o).run P w = .ok (.value (.tuple #[])) w':=by
  intro w' hr'
  simp only[execOp,ho,resolve]
  simp[invoke,builtin,hr']
 rw[hv] at hrun
 have hone':=hone z (by rw[hi]; exact hz)
 cases hr.objs k _ hk with
 | cells _ _ arr T' hb hl hcc hty =>
 have hshape:w.shape? (g.ρ k)=some (T',arr.size):=by simp[World.shape?,hb]
 rw[hshape] at hsh
 simp only[Option.some.injEq,Prod.mk.injEq] at hsh
 obtain⟨rfl,rfl⟩:=hsh
 have shrink:∀w',w' = w→HR nm B g w' ⟨setObj k (.cells (cs.take off) ty) X.objs,X.live⟩∧Trans [] g w g w':=by
  rintro w' rfl
  refine hr.write hk rfl ⟨rfl,rfl,rfl,Nat.le_refl _⟩ (fun _ _=>rfl) (fun _=>?_) (fun s h=>h)
  refine .cells _ ty arr T' hb (by simp; omega) ?_ hty
  intro j y v hy hv
  rw[List.getElem?_take] at hy
  split at hy
  ·exact hcc j y v hy hv
  ·cases hy
 by_cases hlen:len=0
 ·subst hlen
  have:(Builtin.clear_ ts o.type #[.slice (some ⟨g.ρ k,q,none⟩) 0 cap]).run P w = .ok (.tuple #[]) w:=by
   simp[Builtin.clear_,h0,run_underlying htt]
  rw[hrun _ this]
  obtain⟨r1,r2⟩:=shrink w rfl
  exact hnext g w _ r1 r2 (.tup [] #[] rfl (by simp))
 ·have hqo:q=off:=by
   rcases hq with h | h
   ·omega
   ·exact h
  subst hqo
  have hle:len*sz≤cap*sz:=Nat.mul_le_mul_right sz hcap
  obtain⟨w',arr',hst,hb',hs',hp',hz',hoth,hi'⟩:=Q3n (P:=P) (off:=q) (Builtin.zeroCells z.cells len).toList 0 w arr hb (fun v hv=>hone' v (Qng hv)) (by
   rw[Array.length_toList,size_zeroCells,hzs]; omega) (by intro j h3 h4; simp[World.frozen?,hb])
  have:(Builtin.clear_ ts o.type #[.slice (some ⟨g.ρ k,q,none⟩) len cap]).run P w = .ok (.tuple #[]) w':=by
   have hn:∀n,len=n→n≠0:=fun n h=>h▸hlen
   obtain⟨n,rfl⟩:∃n,len=n+1:=⟨len - 1,by omega⟩
   simp[Builtin.clear_,h0,run_underlying htt,zeroValue,typeInfo,hi,hz,hst]
  rw[hrun _ this]
  obtain⟨r1,r2⟩:=hr.write hk (o':=.cells (cs.take q) ty) hz' hi' hoth (by
   intro ht'
   refine .cells _ ty arr' T' hb' (by simp; omega) ?_ hty
   intro j y v hy hv
   rw[List.getElem?_take] at hy
   split at hy
   ·rw[hp' j,if_neg (by omega)] at hv
    exact(hcc j y v hy hv).mono ht' (.nil _)
   ·cases hy) (by
   intro s hs0
   rw[hshape] at hs0
   simp only[World.shape?,hb',hs']
   exact hs0)
  exact hnext g w' _ r1 r2 (.tup [] #[] rfl (by simp))
end
end Go.Ab
namespace Go.Xl
open Go.Ab
section
variable {P:Program} {R:Type}
theorem Qah {st:XSt} {x:Operand} {v:XV} {r1 r2:List (Operand×XV)} (hx:xeval st x=some v) (h1:∀p ∈ imRd r1,Sees st.im p.1 p.2) (h2:∀p ∈ imRd r2,Sees st.im p.1 p.2) :
  ∀p ∈ imRd ((x,v) :: (r1++r2)),Sees st.im p.1 p.2:=by
 intro p hp
 simp only[imRd,List.map_cons,List.map_append,List.mem_cons,List.mem_append] at hp
 rcases hp with rfl | hp | hp
 ·exact Q5 hx
 ·exact h1 p hp
 ·exact h2 p hp
noncomputable def Qic (P:Program) (st:XSt) (t:TypeId) (x:Operand) (lo hi:Option Operand) (k:Nat) (ty:Ty) (a len:Nat) (K:Out→Option R):Option R :=
 match Qv P t,Q28 st 0 lo,Q28 st len hi with
 | some (_,sz,_),some (l,r1),some (h,r2)=>cond (Nat.beq ty.size sz) (cond (cutOk l h len) (K (Q9 st (.os k ty (a+l.toNat) (h.toNat - l.toNat)) ((x,.os k ty a len) :: (r1++r2)))) none) none
 | _,_,_=>none
theorem Qrx {o:Oper} {st:XSt} {t:TypeId} {x:Operand} {lo hi:Option Operand} {k:Nat} {ty:Ty} {a len:Nat} {K:Out→Option R} {r:R} (ho:o.op = .slice t x lo hi none) (hx:xeval st x=some (.os k ty a len))
  (h:Qic P st t x lo hi k ty a len K=some r):∃out,K out=some r∧OpOk P o st out:=by
 unfold Qic at h
 split at h
 ·rename_i e sz by0 l r1 hh r2 ht hlo hhi
  cases hb:Nat.beq ty.size sz with
  | false=>simp[hb] at h
  | true =>
  cases hc:cutOk l hh len with
  | false=>simp[hb,hc] at h
  | true =>
   simp only[hb,hc,cond_true] at h
   have e1:=Nat.eq_of_beq_eq_true hb
   subst e1
   obtain⟨c0,c1,c2⟩:=Q8a hc
   obtain⟨s1,m1,f1⟩:=Q1a hlo
   obtain⟨s2,m2,f2⟩:=Q1a hhi
   obtain⟨hu,i,z,hi',hs',hb',hz',hzs'⟩:=Qd ht
   refine⟨_,h,Q4 (Qah hx s1 s2) fun X=>?_⟩
   have:=Qen (P:=P) (X:=X) (k:=k) (off:=a*ty.size) (len:=len) (rd:=imRd (r1++r2)) (l:=l) (h:=hh) ho hu hi' hs' c0 c1 c2 (by
    cases lo with
    | none=>exact m1
    | some y=>obtain⟨j,hj⟩:=m1; exact⟨j,by rw[Qw]; exact List.mem_append_left _ hj⟩) (by
    cases hi with
    | none=>exact m2
    | some y=>obtain⟨j,hj⟩:=m2; exact⟨j,by rw[Qw]; exact List.mem_append_right _ hj⟩)
   show OpT P o ((x,.nm k (.s (a*ty.size) len ty.size)) :: imRd (r1++r2)) X X [] (.nm k (.s ((a+l.toNat)*ty.size) (hh.toNat - l.toNat) ty.size))
   rw[Nat.add_mul]
   exact this
 ·cases h
noncomputable def Qfs (P:Program) (st:XSt) (t:TypeId) (x:Operand) (lo hi mx:Option Operand) (K:Out→Option R):Option R :=
 match mx,xeval st x with
 | none,some (.os k ty a len)=>Qic P st t x lo hi k ty a len K
 | _,_=>Qpj P st t x lo hi mx K
theorem Qpt {o:Oper} {st:XSt} {t:TypeId} {x:Operand} {lo hi mx:Option Operand} {K:Out→Option R} {r:R} (ho:o.op = .slice t x lo hi mx) (h:Qfs P st t x lo hi mx K=some r):∃out,K out=some r∧OpOk P o st out:=by
 unfold Qfs at h
 split at h
 ·rename_i k ty a len hx; exact Qrx ho hx h
 ·exact Qwi ho h
noncomputable def Qli (P:Program) (st:XSt) (ts:Array TypeId) (x:Operand) (K:Out→Option R):Option R :=
 match xeval st x with
 | some (.os k ty a len)=>match ts[0]? with
  | some t=>match P.underlying t with
   | some (.slice _)=>K (Q9 st (.d (.i .i64 (len:Int))) [(x,.os k ty a len)])
   | _=>none
  | none=>none
 | _=>xLen P st ts x K
theorem Qui {o:Oper} {st:XSt} {ts:Array TypeId} {x:Operand} {K:Out→Option R} {r:R} (ho:o.op = .call { callee:=.builtin .len,args:=#[x],argTypes:=ts }) (h:Qli P st ts x K=some r):∃out,K out=some r∧OpOk P o st out:=by
 unfold Qli at h
 split at h
 ·rename_i k ty a len hx
  split at h
  ·rename_i t ht0
   split at h
   ·rename_i e ht
    exact⟨_,h,Q4 (Qi hx) fun X=>Qk8 ho ht0 ht⟩
   ·cases h
  ·cases h
 ·exact Qyn ho h
noncomputable def dropX (k:Nat):List (Nat×XOb)→List (Nat×XOb)
 | []=>[]
 | p :: r=>cond (Nat.beq p.1 k) (dropX k r) (p :: dropX k r)
theorem Q5b (k:Nat) (l:List (Nat×XOb)):Q0 (dropX k l)=(Q0 l).filter (fun p=>p.1 != k):=by
 induction l with
 | nil=>rfl
 | cons p r ih =>
  simp only[dropX]
  cases hb:Nat.beq p.1 k with
  | true =>
   have:=Nat.eq_of_beq_eq_true hb
   simp only[cond_true,Q0,List.map_cons,List.filter_cons,this,bne_self_eq_false,Bool.false_eq_true,if_false] at ih ⊢
   exact ih
  | false =>
   have h1:(p.1 != k)=true:=by simpa using Nat.ne_of_beq_eq_false hb
   simp only[cond_false,Q0,List.map_cons,List.filter_cons,h1,if_true] at ih ⊢
   rw[ih]
theorem Q67 {k j:Nat} {l:List (Nat×XOb)} {x:XOb} (h:lk j (dropX k l)=some x):lk j l=some x:=by
 induction l with
 | nil=>exact h
 | cons p r ih =>
  simp only[dropX] at h
  cases hb:Nat.beq p.1 k with
  | true =>
   simp only[hb,cond_true] at h
   have hj:j≠k:=by
    rintro rfl
    have:∀(l:List (Nat×XOb)),lk j (dropX j l)=none:=by
     intro l
     induction l with
     | nil=>rfl
     | cons q s ih2 =>
      simp only[dropX]
      cases hq:Nat.beq q.1 j with
      | true=>simpa using ih2
      | false=>simp[Q12,Q2b,hq]; exact ih2
    rw[this] at h; cases h
   have:=Nat.eq_of_beq_eq_true hb
   simp only[Q12,Q2b]
   rw[this,nbF (Ne.symm hj)]
   exact ih h
  | false =>
   simp only[hb,cond_false,Q12,Q2b] at h ⊢
   cases hq:Nat.beq p.1 j with
   | true=>simp only[hq,cond_true] at h ⊢; exact h
   | false=>simp only[hq,cond_false] at h ⊢; exact ih h
noncomputable def osTy:Option XV→Ty
 | some (.os _ ty _ _)=>ty
 | _=>.unit
noncomputable def xdS (st:XSt) (ty:Ty) (x:Operand):Option XD :=
 match xd st x with
 | some (.v (.slice (some _) 0 _))=>some (.sl ty [])
 | r=>r
theorem Qwh {st:XSt} {ty:Ty} {x:Operand} {a:XD} (h:xdS st ty x=some a):Sees st.im x (XV.d a).a:=by
 unfold xdS at h
 split at h
 ·rename_i p c hx
  cases h
  exact Qby hx (.nilp _ _ _)
 ·exact xd_at h
noncomputable def Qkm (P:Program) (st:XSt) (o:Oper) (ts:Array TypeId) (s x:Operand) (K:Out→Option R):Option R :=
 match ts[0]?,ts[1]?,newName o with
 | some t,some u,some m =>
  match Qv P t,Qv P u,xeval st s,xdS st (osTy (xeval st s)) x with
  | some (e,sz,bytes),some _,some (.os k ty a len),some (.sl ty' l') =>
   match lk k st.objs with
   | some (.arr tu l) =>
    if h:ty'.eqb ty=true then if h' : tu.eqb ty=true then
     cond (Nat.beq ty.size sz) (cond (Nat.beq a 0) (cond (Nat.ble 1000 k) (cond (Nat.beq m k) none (cond (Q3l [m] st) (cond (Nat.beq l.length len) (cond (fitsB (len+l'.length) bytes)
      (K ⟨.all,.os m ty 0 (len+l'.length),[(s,.os k ty a len),(x,.d (.sl ty' l'))],(m,.arr ty ((Ty.eqb_eq h'▸l:List ty.T)++(Ty.eqb_eq h▸l' : List ty.T))) :: dropX m (dropX k st.objs),st.live,[m],[m,k]⟩) none) none) none)) none) none) none
    else none else none
   | _=>none
  | some (e,sz,bytes),some _,some (.d (.v (.slice none 0 0))),some (.sl ty l) =>
   match l with
   | []=>none
   | y :: l => cond (Nat.beq ty.size sz) (cond (Q3l [m] st) (cond (Nat.ble 1000 m) (cond (fitsB (y :: l).length bytes)
      (K ⟨.all,.os m ty 0 (y :: l).length,[(s,.d (.v (.slice none 0 0))),(x,.d (.sl ty (y :: l)))],(m,.arr ty (y :: l)) :: dropX m st.objs,st.live,[m],[m]⟩) none) none) none) none
  | _,_,_,_=>none
 | _,_,_=>none
theorem Qc7 {o:Oper} {m:Nat} (h:newName o=some m):1000≤m:=by
 unfold newName at h
 split at h
 ·cases h; omega
 ·cases h
theorem Qtg {o:Oper} {st:XSt} {ts:Array TypeId} {s x:Operand} {K:Out→Option R} {r:R} (ho:o.op = .call { callee:=.builtin .append,args:=#[s,x],argTypes:=ts }) (h:Qkm P st o ts s x K=some r):∃out,K out=some r∧OpOk P o st out:=by
 unfold Qkm at h
 split at h
 ·rename_i t u m ht hu hm
  split at h
  ·rename_i e sz bytes q k ty a len ty' l' hsl hsu hs hx
   split at h
   ·rename_i tu l hk
    split at h
    ·rename_i he
     split at h
     ·rename_i he'
      have e0:=Ty.eqb_eq he
      subst e0
      have e0':=Ty.eqb_eq he'
      subst e0'
      cases h1:Nat.beq tu.size sz with
      | false=>simp[h1] at h
      | true =>
      cases h2:Nat.beq a 0 with
      | false=>simp[h1,h2] at h
      | true =>
      cases h3:Nat.ble 1000 k with
      | false=>simp[h1,h2,h3] at h
      | true =>
      cases h4:Nat.beq m k with
      | true=>simp[h1,h2,h3,h4] at h
      | false =>
      cases h5:Q3l [m] st with
      | false=>simp[h1,h2,h3,h4,h5] at h
      | true =>
      cases h6:Nat.beq l.length len with
      | false=>simp[h1,h2,h3,h4,h5,h6] at h
      | true =>
      cases h7:fitsB (len+l'.length) bytes with
      | false=>simp[h1,h2,h3,h4,h5,h6,h7] at h
      | true =>
       simp only[h1,h2,h3,h4,h5,h6,h7,cond_true,cond_false] at h
       have e1:=Nat.eq_of_beq_eq_true h1
       have e2:=Nat.eq_of_beq_eq_true h2
       have e6:=Nat.eq_of_beq_eq_true h6
       subst e1; subst e2; subst e6
       obtain⟨b1,b2⟩:=Q4f h7
       obtain⟨q1,q2,q3⟩:=q
       have hk' : st.X.objs.lookup k=some (.cells ((l.map tu.ds).flatten.map .d) none):=by
        show(Q0 st.objs).lookup k=_
        rw[Qt,hk]; rfl
       refine⟨_,h,⟨?_,?_,fun j z hj hz=>?_⟩⟩
       ·intro p hp
        simp only[imRd,List.map_cons,List.map_nil,List.mem_cons,List.not_mem_nil,or_false] at hp
        rcases hp with rfl | rfl
        ·exact Q5 hs
        ·exact Qwh hx
       ·have:=Qn7 (P:=P) (X:=st.X) (s:=s) (x:=x) (k:=k) (len:=l.length) (cs:=(l.map tu.ds).flatten.map .d) (cty:=none) (fs:=l'.map tu.ds) m ho ht hu (Qd hsu) (Qd hsl) hk'
         (by rw[List.length_map,Q1h _ (Qbz tu l)]; simp) (Nat.le_of_ble_eq_true h3) (Qc7 hm) (Nat.ne_of_beq_eq_false h4) (Q58 h5)
         (by
          rw[List.all_eq_true]
          intro y hy
          obtain⟨d,hd,rfl⟩:=List.mem_map.1 hy
          obtain⟨c,hc,hdc⟩:=List.mem_flatten.1 hd
          obtain⟨v,_,rfl⟩:=List.mem_map.1 hc
          have:=tu.ds_one v d hdc
          cases d <;> first | exact this | rfl)
         (by intro c hc d hd; obtain⟨v,_,rfl⟩:=List.mem_map.1 hc; exact tu.ds_one v d hd) (by simpa using b1) (by simpa using b2)
        show OpT P o _ st.X ⟨Q0 ((m,XOb.arr tu (l++l')) :: dropX m (dropX k st.objs)),st.live⟩ [m] _
        have e3:Q0 ((m,XOb.arr tu (l++l')) :: dropX m (dropX k st.objs))=(m,Ob.cells ((l.map tu.ds).flatten.map AV.d++(l'.map tu.ds).flatten.map AV.d) none) :: (Ab.dropObj m (Ab.dropObj k st.X)).objs:=by
         show(m,XOb.o (.arr tu (l++l'))) :: Q0 (dropX m (dropX k st.objs))=_
         rw[Q5b,Q5b]
         simp only[XOb.o,List.map_append,List.flatten_append,Ab.dropObj]
         rfl
        rw[e3]
        simp only[List.length_map] at this
        have e4:imRd [(s,XV.os k tu 0 l.length),(x,XV.d (XD.sl tu l'))] = [(s,.osl k 0 l.length tu.size),(x,.d (.sl tu.size (l'.map tu.ds)))]:=by
         simp only[imRd,List.map_cons,List.map_nil,XV.a,Nat.zero_mul]; rfl
        rw[e4]
        have e5:(XV.os m tu 0 (l.length+l'.length)).a = .osl m 0 (l.length+l'.length) tu.size:=by simp only[XV.a,Nat.zero_mul]
        rw[e5]
        exact this
       ·simp only[List.mem_cons,List.not_mem_nil,or_false,not_or] at hj
        rw[Qo hj.1] at hz
        exact Q67 (Q67 hz)
     ·cases h
    ·cases h
   ·cases h
  ·rename_i e sz bytes q ty l hsl hsu hs hx
   split at h
   ·cases h
   ·rename_i y l
    cases h1:Nat.beq ty.size sz with
    | false=>simp[h1] at h
    | true =>
    cases h5:Q3l [m] st with
    | false=>simp[h1,h5] at h
    | true =>
    cases h3:Nat.ble 1000 m with
    | false=>simp[h1,h5,h3] at h
    | true =>
    cases h7:fitsB (y :: l).length bytes with
    | false=>simp only[h1,h5,h3,h7,cond_true,cond_false,reduceCtorEq] at h
    | true =>
     simp only[h1,h5,h3,h7,cond_true] at h
     have e1:=Nat.eq_of_beq_eq_true h1
     subst e1
     obtain⟨b1,b2⟩:=Q4f h7
     obtain⟨q1,q2,q3⟩:=q
     refine⟨_,h,⟨?_,?_,fun j z hj hz=>?_⟩⟩
     ·intro p hp
      simp only[imRd,List.map_cons,List.map_nil,List.mem_cons,List.not_mem_nil,or_false] at hp
      rcases hp with rfl | rfl
      ·exact Q5 hs
      ·exact Qwh hx
     ·have:=Qgn (P:=P) (X:=st.X) (s:=s) (x:=x) (fs:=(y :: l).map ty.ds) m ho ht hu (Qd hsu) (Qd hsl) (Qc7 hm) (Q58 h5) (by simp)
       (by intro c hc d hd; obtain⟨v,_,rfl⟩:=List.mem_map.1 hc; exact ty.ds_one v d hd) (by simpa using b1) (by simpa using b2)
      show OpT P o _ st.X ⟨Q0 ((m,XOb.arr ty (y :: l)) :: dropX m st.objs),st.live⟩ [m] _
      have e3:Q0 ((m,XOb.arr ty (y :: l)) :: dropX m st.objs)=(m,Ob.cells (((y :: l).map ty.ds).flatten.map AV.d) none) :: (Ab.dropObj m st.X).objs:=by
       show(m,XOb.o (.arr ty (y :: l))) :: Q0 (dropX m st.objs)=_
       rw[Q5b]
       rfl
      rw[e3]
      have e4:imRd [(s,XV.d (.v (.slice none 0 0))),(x,XV.d (XD.sl ty (y :: l)))] = [(s,.d (.sc (.slice none 0 0))),(x,.d (.sl ty.size ((y :: l).map ty.ds)))]:=rfl
      rw[e4]
      have e5:(XV.os m ty 0 (y :: l).length).a = .osl m 0 (y :: l).length ty.size:=by simp only[XV.a,Nat.zero_mul]
      rw[e5]
      rw[List.length_map] at this
      exact this
     ·simp only[List.mem_cons,List.not_mem_nil,or_false] at hj
      rw[Qo hj] at hz
      exact Q67 hz
  ·cases h
 ·cases h
noncomputable def Qqb (P:Program) (st:XSt) (ts:Array TypeId) (x:Operand) (K:Out→Option R):Option R :=
 match ts[0]?,xeval st x with
 | some t,some (.os k ty a len) =>
  match Qv P t,lk k st.objs with
  | some (e,sz,_),some (.arr tu l) =>
   if h:tu.eqb ty=true then
    match zeroOf P e with
    | some zs=>cond (Nat.beq ty.size sz) (cond (xones zs)
      (K ⟨.put k (.arr ty ((Ty.eqb_eq h▸l:List ty.T).take a)),.tup [],[(x,.os k ty a len)],xset k (.arr ty ((Ty.eqb_eq h▸l:List ty.T).take a)) st.objs,st.live,[],[k]⟩) none) none
    | none=>none
   else none
  | _,_=>none
 | some t,some (.d (.v (.slice none 0 0)))=>none
 | _,_=>none
theorem Qiz {sz:Nat}:∀(fs:List (List D)),(∀(i:Nat) cs,fs[i]? = some cs→cs.length=sz)→∀a,fs.flatten.take (a*sz)=(fs.take a).flatten
 | [],_,a=>by simp
 | c :: r,h,0=>by simp
 | c :: r,h,a+1=>by
  have h0:=h 0 c rfl
  have ih:=Qiz r (fun i cs hi=>h (i+1) cs (by simpa using hi)) a
  simp only[List.flatten_cons,List.take_succ_cons,Nat.succ_mul]
  rw[show a*sz+sz=c.length+a*sz by omega,List.take_length_add_append,ih]
theorem Qvy {o:Oper} {st:XSt} {ts:Array TypeId} {x:Operand} {K:Out→Option R} {r:R} (ho:o.op = .call { callee:=.builtin .clear,args:=#[x],argTypes:=ts }) (h:Qqb P st ts x K=some r):∃out,K out=some r∧OpOk P o st out:=by
 unfold Qqb at h
 split at h
 ·rename_i t k ty a len ht hx
  split at h
  ·rename_i e sz bytes tu l hsl hk
   split at h
   ·rename_i he
    have e0:=Ty.eqb_eq he
    subst e0
    split at h
    ·rename_i zs hz
     cases h1:Nat.beq tu.size sz with
     | false=>simp[h1] at h
     | true =>
     cases h2:xones zs with
     | false=>simp[h1,h2] at h
     | true =>
      simp only[h1,h2,cond_true] at h
      have e1:=Nat.eq_of_beq_eq_true h1
      subst e1
      have hk' : st.X.objs.lookup k=some (.cells ((l.map tu.ds).flatten.map .d) none):=by
       show(Q0 st.objs).lookup k=_
       rw[Qt,hk]; rfl
      have hone:∀z,(P.info? e).bind (·.zero)=some z→∀v ∈ z.cells.toList,v.oneCell' = true:=by
       intro z hzz v hv
       unfold zeroOf at hz
       split at hz
       ·rename_i i hi
        split at hz
        ·rename_i z' hz'
         cases hz
         have:z=z':=by rw[hi] at hzz; simp only[Option.bind_some,hz',Option.some.injEq] at hzz; exact hzz.symm
         subst this
         have hall:=Qg3 h2
         rw[List.all_eq_true] at hall
         have:=hall (.d (.sc v)) (by
          rw[Q4m,List.mem_map]
          exact⟨.d (Q2r v),List.mem_map.2 ⟨v,hv,rfl⟩,by simp only[XV.a,Q5g]⟩)
         exact this
        ·cases hz
       ·cases hz
      refine⟨_,h,⟨Qi hx,⟨rfl,rfl,rfl,fun X hX=>?_⟩,fun j z hj hz=>?_⟩⟩
      ·have:=Qp1 (P:=P) (X:=X) (x:=x) (k:=k) (off:=a*tu.size) (len:=len) (cs:=(l.map tu.ds).flatten.map .d) (ty:=none) ho ht (Qd hsl) (hX.trans hk') hone
       rw[← List.map_take,Qiz _ (Qbz tu l),← List.map_take] at this
       exact this
      ·rw[Q2k _ _ _ _ (by simpa using hj)] at hz
       exact hz
    ·cases h
   ·cases h
  ·cases h
 ·cases h
 ·cases h
end
end Go.Xl
namespace Go.Ab
section
variable {P:Program} {o:Oper} {X:Store}
theorem Qgd (m:Nat) {t e:TypeId} {n sz:Nat} {parts:Array (Nat×Operand)} {xs:List D} {i:TypeInfo} {z:Value} (ho:o.op = .buildSlice t n parts) (ht:P.underlying t=some (.slice e))
  (hi:P.info? e=some i) (hz:i.zero=some z) (hsz:i.size=sz) (hx:xs.length=n) (hidx:parts.toList.map (·.1)=List.range n) (hok:(xs.all fun x=>okSc (.d x) && x.cells.length == sz)=true)
  (hbig:n*sz≤16777216) (h1m:1000≤m) (hX:Qa [m] X=true) :
  OpT P o ((parts.toList.map (·.2)).zip (xs.map .d)) X ⟨(m,.cells ((xs.map D.cells).flatten.map .d) none) :: (dropObj m X).objs,X.live⟩ [m] (.osl m 0 n sz):=by
 subst hsz
 intro nm hsm B g w a hr hrd next Q hn
 have hpl:parts.toList.length=n:=by rw[← List.length_map (f:=(·.1)),hidx,List.length_range]
 unfold Oper.wp
 have hpart:∀(j:Nat) p x,parts.toList[j]? = some p→xs[j]? = some x→RA g w (.d x) (a.eval p.2):=by
  intro j p x hp hx'
  exact hrd (p.2,.d x) (List.mem_of_getElem? (i:=j) (by
   rw[List.getElem?_zip_eq_some]
   exact⟨by rw[List.getElem?_map,hp]; rfl,by rw[List.getElem?_map,hx']; rfl⟩))
 have hfacts:∀(j:Nat) x,xs[j]? = some x→okSc (.d x)=true∧x.cells.length=i.size:=by
  intro j x hx'
  have:=List.all_eq_true.1 hok x (List.mem_of_getElem? hx')
  simpa using this
 generalize harr0:((Array.range (n*i.size)).map fun x=>(if n*i.size=0 then #[] else z.cells)[x % (if n*i.size=0 then #[] else z.cells).size]!)=arr0
 have harr0s:arr0.size=n*i.size:=by subst harr0; simp
 obtain⟨arr',hfill,hs',_,hc'⟩:=Qco (g:=g) (w:=w) (sz:=i.size) (parts.toList.map fun p=>(p.1,a.eval p.2)) (xs.map D.cells) 0 arr0 (by simp[hpl,hx]) (by
  intro j p hp
  rw[List.getElem?_map,Option.map_eq_some_iff] at hp
  obtain⟨q,hq,rfl⟩:=hp
  have hj:j < n:=by have:=(List.getElem?_eq_some_iff.1 hq).1; omega
  have:(parts.toList.map (·.1))[j]? = some q.1:=by rw[List.getElem?_map,hq]; rfl
  rw[hidx,List.getElem?_range hj] at this
  simp at this; simp[this]) (by
  intro j p cs hp hcs
  rw[List.getElem?_map,Option.map_eq_some_iff] at hp hcs
  obtain⟨q,hq,rfl⟩:=hp
  obtain⟨x,hx',rfl⟩:=hcs
  obtain⟨f1,f2⟩:=hfacts j x hx'
  obtain⟨c1,c2⟩:=(hpart j q x hq hx').cells f1
  have hcl:(AV.d x).cells.length=x.cells.length:=by simp[AV.cells]
  refine⟨f2,by simp only; omega,?_⟩
  intro k c u hk hu
  have:=c2 k (.d c) u (by simp[AV.cells,hk]) hu
  cases this with
  | d _ _ h=>exact h) (by simp[hpl,harr0s])
 have hrun:(execOp a.eval o).run P w = .ok (.value (.slice (some ⟨w.heap.size,0,none⟩) n n)) (w.alloc (.cells arr' e)):=by
  simp only[execOp,ho,Instr.buildSlice]
  have h24 : ¬(n*i.size > 2 ^ 24):=by omega
  by_cases h0:n*i.size=0
  ·have e0:arr0 = #[]:=Array.eq_empty_of_size_eq_zero (by omega)
   subst e0
   have hfill' : Instr.fill (fun j=>some (j*i.size,i.size)) #[] (parts.toList.map fun p=>(p.1,a.eval p.2))=some arr':=hfill
   have h24' : ¬(0 > 2 ^ 24):=by omega
   simp only[Sem.run_bind,run_underlying ht,Result.andThen_ok,run_sizeOf hi,h0,if_true]
   simp[Array.range_zero',hfill',Go.newRow]
  ·simp only[h0,if_false] at harr0
   have hfill' : Instr.fill (fun j=>some (j*i.size,i.size)) arr0 (parts.toList.map fun p=>(p.1,a.eval p.2))=some arr':=hfill
   simp only[Sem.run_bind,run_underlying ht,Result.andThen_ok,run_sizeOf hi,h24,if_false,h0]
   simp[zeroValue,typeInfo,hi,hz,harr0,hfill',Go.newRow]
 have hmn:m ∉ nm:=fun hh=>by have:=hsm m hh; omega
 have hszF:∀(i' : Nat) cs,(xs.map D.cells)[i']? = some cs→cs.length=i.size:=by
  intro j cs hcs
  rw[List.getElem?_map,Option.map_eq_some_iff] at hcs
  obtain⟨x,hx',rfl⟩:=hcs
  exact(hfacts j x hx').2
 have hflat:=Q1h (xs.map D.cells) hszF
 rw[List.length_map,hx] at hflat
 have hr1:=hr.dropObj (k:=m) hmn
 obtain⟨hr2,ht2⟩:=hr1.newObj (k:=m) (by simp only[Ab.dropObj,Q1g,if_true]) (by
  unfold Qa at hX ⊢
  simp only[List.isEmpty_cons,Bool.false_or] at hX ⊢
  rw[List.all_eq_true] at hX ⊢
  intro p hp
  simp only[Ab.dropObj,List.mem_filter] at hp
  exact hX p hp.1) (.cells arr' e) (.cells ((xs.map D.cells).flatten.map .d) none) (by
  intro g' w' ht' hw'
  refine .cells _ none arr' e hw' (by simp only[List.length_map,hflat]; omega) ?_ (by simp)
  intro j y v hy hv
  rw[List.getElem?_map,Option.map_eq_some_iff] at hy
  obtain⟨d,hd,rfl⟩:=hy
  obtain⟨p,q,ds,rfl,hp,hq⟩:=flat_get _ hszF j d hd
  have:=hc' p q ds d v hp hq (by rw[Nat.zero_add]; exact hv)
  exact(RA.d _ _ this).mono ht' (.d _))
 rw[hrun]
 refine hn _ _ _ hr2 ht2 (.nm _ _ _ ?_)
 simp only[upd_same]
 exact⟨n,0,Nat.le_refl _,rfl,.inr rfl,e,arr'.size,by unfold World.shape?; rw[heap_alloc_new],by omega⟩
end
end Go.Ab
