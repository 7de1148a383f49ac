import Derived.Test.YtpcmeokokojkiaaGreatDoorZe
import Derived.Test.YtpcmeokokojkiaaGreatDoorZb
import Derived.Test.YtpcmeokokojkiaaGreatDoorZc
import Derived.RangeFuncLeaves
import Derived.RangeFuncRecord
import Derived.RangeFuncCalls
import Derived.RangeFuncIn
import Derived.RangeFuncSeq
import Derived.TacticsIn
import Derived.Test.YtpcmeokokojkiaaGreatDoorProg
import Derived.KernelRfl
import Derived.Test.YtpcmeokokojkiaaGreatDoorZd
import Derived.Sort.AssemblyPlain
import Derived.Shelf.Spec.SlicesGrow
set_option linter.unusedVariables false
set_option linter.unusedSimpArgs false
set_option linter.unnecessarySimpa false
set_option maxRecDepth 100000
set_option linter.unusedSectionVars false
set_option maxRecDepth 1000000
namespace Go.Xl
open Go.Ab
mutual
noncomputable def XV.ks:XV→List Nat→List Nat
 | .d _,acc=>acc
 | .nm k _,acc=>cond (inl k acc) acc (k :: acc)
 | .tip _ _ _ _,acc=>acc
 | .tup l,acc=>ksL l acc
 | .agg l,acc=>ksL l acc
 | .clo _ l,acc=>ksL l acc
 | .os k _ _ _,acc=>cond (inl k acc) acc (k :: acc)
 | .el k _ _ _,acc=>cond (inl k acc) acc (k :: acc)
 | .tpt _ _ _ _,acc=>acc
noncomputable def ksL:List XV→List Nat→List Nat
 | [],acc=>acc
 | x :: r,acc=>ksL r (x.ks acc)
end
mutual
noncomputable def XV.ls (live:List Nat):XV→List Nat→List Nat
 | .tip n _ _ _,acc=>cond (inl n live) (cond (inl n acc) acc (n :: acc)) acc
 | .tup l,acc=>lsL live l acc
 | .agg l,acc=>lsL live l acc
 | .clo _ l,acc=>lsL live l acc
 | _,acc=>acc
noncomputable def lsL (live:List Nat):List XV→List Nat→List Nat
 | [],acc=>acc
 | x :: r,acc=>lsL live r (x.ls live acc)
end
noncomputable def XOb.ks:XOb→List Nat→List Nat
 | .cells cs _,acc=>ksL cs acc
 | .mit m _ _ _,acc=>cond (inl m acc) acc (m :: acc)
 | _,acc=>acc
noncomputable def XOb.lbs (live:List Nat):XOb→List Nat→List Nat
 | .cells cs _,acc=>lsL live cs acc
 | _,acc=>acc
noncomputable def closU (objs:List (Nat×XOb)):Nat→List Nat→List Nat→List Nat
 | 0,_,done=>done
 | _+1,[],done=>done
 | n+1,k :: todo,done=>cond (inl k done) (closU objs n todo done) (match lk k objs with
  | some o=>closU objs n (o.ks todo) (k :: done)
  | none=>closU objs n todo done)
mutual
noncomputable def XV.rl (live:List Nat) (δ:Nat):XV→XV
 | .d x=>.d x
 | .nm k p=>.nm k p
 | .tip n t l ty=>cond (inl n live) (.tip (n+δ) t l ty) (.d (.sl t l))
 | .tup l=>.tup (rlL live δ l)
 | .agg l=>.agg (rlL live δ l)
 | .clo f l=>.clo f (rlL live δ l)
 | .os k t a n=>.os k t a n
 | .el k t a n=>.el k t a n
 | .tpt n e x l=>.d .pp
noncomputable def rlL (live:List Nat) (δ:Nat):List XV→List XV
 | []=>[]
 | x :: r=>x.rl live δ :: rlL live δ r
end
mutual
noncomputable def XV.noTpt:XV→Bool
 | .tpt _ _ _ _=>false
 | .tup l=>Q5m l
 | .agg l=>Q5m l
 | .clo _ l=>Q5m l
 | _=>true
noncomputable def Q5m:List XV→Bool
 | []=>true
 | x :: r=>cond x.noTpt (Q5m r) false
end
mutual
theorem XV.rl_ok {σ:Nat→Nat} (live:List Nat) (δ:Nat) (hσ:∀n,σ (n+δ)=n):∀x:XV,x.noTpt=true→Rl σ x.a (x.rl live δ).a
 | .d x,_=>.d _
 | .nm k p,_=>.nm k p
 | .tip n t l ty,_=>by
  simp only[XV.rl]
  cases inl n live with
  | true =>
   have:=Rl.tip (σ:=σ) (n+δ) t.size (l.map t.ds) ty
   rw[hσ] at this
   exact this
  | false =>
   exact Rl.drop n t.size (l.map t.ds) ty
 | .tup l,h=>by
  have:=Qb8 live δ hσ l (by simpa[XV.noTpt] using h)
  exact .tup _ _ this.1 this.2
 | .agg l,h=>by
  have:=Qb8 live δ hσ l (by simpa[XV.noTpt] using h)
  exact .agg _ _ this.1 this.2
 | .clo f l,h=>by
  have:=Qb8 live δ hσ l (by simpa[XV.noTpt] using h)
  exact .clo f _ _ this.1 this.2
 | .os k t a n,_=>.nm k _
 | .el k t a n,_=>.nm k _
 | .tpt n e x l,h=>by simp[XV.noTpt] at h
theorem Qb8 {σ:Nat→Nat} (live:List Nat) (δ:Nat) (hσ:∀n,σ (n+δ)=n):∀l:List XV,Q5m l=true→(asOf l).length=(asOf (rlL live δ l)).length∧∀(i:Nat) x x',(asOf l)[i]? = some x→(asOf (rlL live δ l))[i]? = some x'→Rl σ x x'
 | [],_=>⟨rfl,by simp[asOf]⟩
 | y :: r,h=>by
  simp only[Q5m] at h
  cases hy:y.noTpt with
  | false=>simp[hy] at h
  | true =>
   simp only[hy,cond_true] at h
   obtain⟨h1,h2⟩:=Qb8 live δ hσ r h
   refine⟨by simp only[asOf,rlL,List.length_cons,h1],?_⟩
   intro i x x' hx hx'
   cases i with
   | zero =>
    simp only[asOf,rlL,List.getElem?_cons_zero,Option.some.injEq] at hx hx'
    subst hx; subst hx'
    exact XV.rl_ok live δ hσ y hy
   | succ i =>
    simp only[asOf,rlL,List.getElem?_cons_succ] at hx hx'
    exact h2 i x x' hx hx'
end
noncomputable def XOb.rl (live:List Nat) (δ:Nat):XOb→XOb
 | .cells cs ty=>.cells (rlL live δ cs) ty
 | o=>o
noncomputable def XOb.rlOk:XOb→Bool
 | .cells cs _=>Q5m cs
 | .mapt _ _ _ _ _=>false
 | _=>true
theorem Qaf {σ:Nat→Nat} (l:List D) (ty:Option TypeId):RlOb σ (.cells (l.map .d) ty) (.cells (l.map .d) ty):=by
 refine .cells _ _ ty rfl fun i x x' hx hx'=>?_
 rw[hx] at hx'
 cases hx'
 rw[List.getElem?_map,Option.map_eq_some_iff] at hx
 obtain⟨d,_,rfl⟩:=hx
 exact .d d
theorem XOb.rl_ok {σ:Nat→Nat} (live:List Nat) (δ:Nat) (hσ:∀n,σ (n+δ)=n) {o:XOb} (h:o.rlOk=true):RlOb σ o.o (o.rl live δ).o:=by
 cases o with
 | cells cs ty =>
  obtain⟨h1,h2⟩:=Qb8 live δ hσ cs h
  exact .cells _ _ ty h1 h2
 | arr t l=>exact Qaf _ _
 | bts e l=>exact Qaf _ _
 | sit s p=>exact .sit _ _
 | map kt vt es c=>exact .map _ _
 | mit m a b c=>exact .mit _ _ _ _
 | mitn=>exact .mitn
 | mapt=>cases h
structure FI (P:Program) where
 id:FuncId
 fn:Func
 own:List Nat
 /-- 1: always with labels; 2: without, where nothing changes; else asq it comes -/
 hot:Nat
 /-- all ways are run, where it is told: conditions on these slots are not known -/
 fk:Option (List Nat)
 hf:P.funcs[id]? = some fn
 hc:CallI P id
noncomputable def tmpsR:List ResultVar→List Nat
 | []=>[]
 | .tmp t :: r=>t :: tmpsR r
 | .cell _ _ :: r=>tmpsR r
noncomputable def fzT {P:Program} (fi:FI P):List Nat:=cond (inl 999 fi.own) [] (tmpsR fi.fn.results.toList)
noncomputable def fzI {R:Type}:List Nat→XSt→(XSt→Option R)→Option R
 | [],s,K=>K s
 | t :: ts,s,K=>match lk t s.env with
  | some (.os k _ _ _)=>cond (Nat.ble 1000 k) (fzK [t] s fun s1=>fzI ts s1 K) (fzI ts s K)
  | _=>fzI ts s K
theorem Qfu {S:Sig} {R:Type} {K:XSt→Option R} {r:R} {s0:XSt}:∀(ts:List Nat) (s:XSt),Inv s0 s→fzI ts s K=some r →
  ∃s',K s' = some r∧Inv s0 s'∧∀(B:Base) (g:Gh) (w:World) (a:Act),SR S B g w s.im a→∃g',SR S B g' w s'.im a
 | [],s,hi,h=>⟨s,h,hi,fun B g w a hs=>⟨g,hs⟩⟩
 | t :: ts,s,hi,h=>by
  unfold fzI at h
  split at h
  ·rename_i k ty a n hk
   cases hb:Nat.ble 1000 k with
   | true =>
    simp only[hb,cond_true] at h
    obtain⟨s1,q1,q2,q3⟩:=Qj2 (S:=S) [t] s hi h
    obtain⟨s2,p1,p2,p3⟩:=Qfu (S:=S) ts s1 q2 q1
    refine⟨s2,p1,p2,fun B g w a hs=>?_⟩
    obtain⟨g1,hs1⟩:=q3 B g w a hs
    exact p3 B g1 w a hs1
   | false =>
    simp only[hb,cond_false] at h
    exact Qfu ts s hi h
  ·exact Qfu ts s hi h
noncomputable def Qbj (live:List Nat) (δ:Nat) (objs:List (Nat×XOb)):List Nat→Option (List (Nat×XOb))
 | []=>some []
 | k :: r=>match lk k objs,Qbj live δ objs r with
  | some o,some l=>cond o.rlOk (some ((k,o.rl live δ) :: l)) none
  | _,_=>none
noncomputable def lsOb (live:List Nat):List (Nat×XOb)→List Nat→List Nat
 | [],acc=>acc
 | p :: r,acc=>lsOb live r (p.2.lbs live acc)
noncomputable def plusL (δ:Nat):List Nat→List Nat
 | []=>[]
 | n :: r=>(n+δ) :: plusL δ r
noncomputable def dlt:Nat:=1000000000
noncomputable def onlyL (live:List Nat):List Nat→List Nat
 | []=>[]
 | n :: r=>cond (cond (inl n live) (cond (inl n r) false true) false) (n :: onlyL live r) (onlyL live r)
theorem Q5k {live:List Nat} {n:Nat}:∀ {l:List Nat},n ∈ onlyL live l→n ∈ live
 | [],h=>by simp[onlyL] at h
 | m :: r,h=>by
  simp only[onlyL] at h
  cases h1:inl m live with
  | false=>simp only[h1,cond_false] at h; exact Q5k h
  | true =>
   cases h2:inl m r with
   | true=>simp only[h1,h2,cond_true,cond_false] at h; exact Q5k h
   | false =>
    simp only[h1,h2,cond_true,cond_false,List.mem_cons] at h
    rcases h with rfl | h
    ·exact(Qg _ _).1 h1
    ·exact Q5k h
theorem Q8d {δ n:Nat}:∀ {l:List Nat},n ∈ plusL δ l→∃m ∈ l,n=m+δ
 | [],h=>by simp[plusL] at h
 | m :: r,h=>by
  simp only[plusL,List.mem_cons] at h
  rcases h with rfl | h
  ·exact⟨m,by simp,rfl⟩
  ·obtain⟨k,hk,rfl⟩:=Q8d h
   exact⟨k,by simp[hk],rfl⟩
theorem Qcd {live:List Nat} {δ:Nat} {objs:List (Nat×XOb)}:∀ {l:List Nat} {os:List (Nat×XOb)},Qbj live δ objs l=some os→∀p ∈ os,∃o,lk p.1 objs=some o∧p.2=o.rl live δ∧o.rlOk=true
 | [],os,h=>by simp[Qbj] at h; subst h; simp
 | k :: r,os,h=>by
  simp only[Qbj] at h
  split at h
  ·rename_i o l ho hl
   cases hr:o.rlOk with
   | false=>simp[hr] at h
   | true =>
    simp only[hr,cond_true,Option.some.injEq] at h
    subst h
    intro p hp
    rcases List.mem_cons.1 hp with rfl | hp
    ·exact⟨o,ho,rfl,hr⟩
    ·exact Qcd hl p hp
  ·cases h
noncomputable def disjL (ol:List Nat):List Nat→Bool
 | []=>true
 | k :: r=>cond (inl k ol) false (disjL ol r)
theorem Qir {ol:List Nat}:∀ {l:List Nat},disjL ol l=true→∀k ∈ l,k ∉ ol
 | [],_=>by simp
 | j :: r,h=>by
  simp only[disjL] at h
  cases hj:inl j ol with
  | true=>simp[hj] at h
  | false =>
   simp only[hj,cond_false] at h
   intro k hk
   rcases List.mem_cons.1 hk with rfl | hk
   ·intro hm; rw[(Qg _ _).2 hm] at hj; cases hj
   ·exact Qir h k hk
noncomputable def sgm (n:Nat):Nat:=cond (Nat.ble dlt n) (n - dlt) n
theorem Ql4 (n:Nat):sgm (n+dlt)=n:=by
 unfold sgm
 rw[Nat.ble_eq_true_of_le (Nat.le_add_left ..)]
 simp
theorem Qsj {n:Nat} (h:Nat.ble dlt n=false):sgm n=n:=by
 unfold sgm; rw[h]; rfl
mutual
noncomputable def XV.lows:XV→Bool
 | .tip n _ _ _=>cond (Nat.ble dlt n) false true
 | .tpt _ _ _ _=>false
 | .tup l=>lowsL l
 | .agg l=>lowsL l
 | .clo _ l=>lowsL l
 | _=>true
noncomputable def lowsL:List XV→Bool
 | []=>true
 | x :: r=>cond x.lows (lowsL r) false
end
noncomputable def XOb.lows:XOb→Bool
 | .cells cs _=>lowsL cs
 | .mapt _ _ _ _ _=>false
 | _=>true
noncomputable def Qk7:List (Nat×XOb)→Bool
 | []=>true
 | p :: r=>cond p.2.lows (Qk7 r) false
noncomputable def lowsN:List Nat→Bool
 | []=>true
 | n :: r=>cond (Nat.ble dlt n) false (lowsN r)
theorem Qk9:∀ {l:List Nat},lowsN l=true→∀n ∈ l,Nat.ble dlt n=false
 | [],_=>by simp
 | m :: r,h=>by
  simp only[lowsN] at h
  cases hb:Nat.ble dlt m with
  | true=>simp[hb] at h
  | false =>
   simp only[hb,cond_false] at h
   intro n hn
   rcases List.mem_cons.1 hn with rfl | hn
   ·exact hb
   ·exact Qk9 h n hn
theorem Qjg {p:Nat×XOb}:∀ {l:List (Nat×XOb)},Qk7 l=true→p ∈ l→p.2.lows=true
 | [],_,h=>by simp at h
 | q :: r,h,hp=>by
  simp only[Qk7] at h
  cases hb:q.2.lows with
  | false=>simp[hb] at h
  | true =>
   simp only[hb,cond_true] at h
   rcases List.mem_cons.1 hp with rfl | hp
   ·exact hb
   ·exact Qjg h hp
mutual
theorem XV.lows_ok:∀x:XV,x.lows=true→Rl sgm x.a x.a
 | .d x,_=>.d _
 | .nm k p,_=>.nm k p
 | .tip n t l ty,h=>by
  simp only[XV.lows] at h
  cases hb:Nat.ble dlt n with
  | true=>simp[hb] at h
  | false =>
   have:=Rl.tip (σ:=sgm) n t.size (l.map t.ds) ty
   rw[Qsj hb] at this
   exact this
 | .tup l,h=>by
  have:=Qa7 l (by simpa[XV.lows] using h)
  exact .tup _ _ rfl this
 | .agg l,h=>by
  have:=Qa7 l (by simpa[XV.lows] using h)
  exact .agg _ _ rfl this
 | .clo f l,h=>by
  have:=Qa7 l (by simpa[XV.lows] using h)
  exact .clo f _ _ rfl this
 | .os k t a n,_=>.nm k _
 | .el k t a n,_=>.nm k _
 | .tpt n e x l,h=>by simp[XV.lows] at h
theorem Qa7:∀l:List XV,lowsL l=true→∀(i:Nat) x x',(asOf l)[i]? = some x→(asOf l)[i]? = some x'→Rl sgm x x'
 | [],_=>by simp[asOf]
 | y :: r,h=>by
  simp only[lowsL] at h
  cases hy:y.lows with
  | false=>simp[hy] at h
  | true =>
   simp only[hy,cond_true] at h
   intro i x x' hx hx'
   rw[hx] at hx'
   cases hx'
   cases i with
   | zero =>
    simp only[asOf,List.getElem?_cons_zero,Option.some.injEq] at hx
    subst hx
    exact XV.lows_ok y hy
   | succ i =>
    simp only[asOf,List.getElem?_cons_succ] at hx
    exact Qa7 r h i x x hx hx
end
theorem XOb.lows_ok {o:XOb} (h:o.lows=true):RlOb sgm o.o o.o:=by
 cases o with
 | cells cs ty=>exact .cells _ _ ty rfl (Qa7 cs h)
 | arr t l=>exact Qaf _ _
 | bts e l=>exact Qaf _ _
 | sit s p=>exact .sit _ _
 | map kt vt es c=>exact .map _ _
 | mit m a b c=>exact .mit _ _ _ _
 | mitn=>exact .mitn
 | mapt=>cases h
noncomputable def diffL (b:List Nat):List Nat→List Nat
 | []=>[]
 | n :: r=>cond (inl n b) (diffL b r) (n :: diffL b r)
theorem Qe7 {b:List Nat} {n:Nat}:∀ {l:List Nat},n ∈ diffL b l→n ∈ l∧n ∉ b
 | [],h=>by simp[diffL] at h
 | m :: r,h=>by
  simp only[diffL] at h
  cases hb:inl m b with
  | true =>
   simp only[hb,cond_true] at h
   have:=Qe7 h
   exact⟨by simp[this.1],this.2⟩
  | false =>
   simp only[hb,cond_false,List.mem_cons] at h
   rcases h with rfl | h
   ·refine⟨by simp,fun hm=>?_⟩
    rw[(Qg _ _).2 hm] at hb; cases hb
   ·have:=Qe7 h
    exact⟨by simp[this.1],this.2⟩
theorem Qz1 {fg:Bool} {a b:List Nat} {n:Nat} (h:n ∈ bsel fg [] (diffL a b)):n ∈ b∧n ∉ a:=by
 cases fg with
 | true=>exact absurd h (by simp[bsel])
 | false=>exact Qe7 h
noncomputable def endS (fg:Bool) (ns:List Nat) (inO:List (Nat×XOb)) (labs:List Nat) (s:XSt) (rs:List XV):Option (List XV×List (Nat×XOb)×List Nat×Bool) :=
 cond (disjL s.ol ns) (cond (subL labs s.live) (cond (Q5m rs) (cond (lowsN labs) (cond (Qk7 inO)
  (let lv:=bsel fg [] (diffL labs s.live)
   match Qbj lv dlt s.objs (diffL ns (closU s.objs 100000 (ksL rs []) [])) with
   | some no =>
    let rs':=rlL lv dlt rs
    some (rs',inO++no,labs++onlyL (plusL dlt lv) (lsOb (plusL dlt lv) no (lsL (plusL dlt lv) rs' [])),true)
   | none=>none) none) none) none) none) none
noncomputable def endU (fg:Bool) (P:Program) (fn:Func) (ns:List Nat) (inO:List (Nat×XOb)) (labs:List Nat) (sm:Bool) (s:XSt):Option (List XV×List (Nat×XOb)×List Nat×Bool) :=
 match xres P s fn.results.toList with
 | some rs =>
  match cond sm (endS fg ns inO labs s rs) none with
  | some r=>some r
  | none =>
   match Qbj s.live dlt s.objs (closU s.objs 100000 (ksL rs ns) []) with
   | some os=>cond (Q5m rs) (cond (subL ns (os.map (·.1))) (some (rlL s.live dlt rs,os,onlyL (plusL dlt s.live) (lsOb (plusL dlt s.live) os (lsL (plusL dlt s.live) (rlL s.live dlt rs) [])),false)) none) none
   | none=>none
 | none=>none
noncomputable def isRet:Exit→Bool
 | .ret=>true
 | .normal=>true
 | _=>false
section
variable (P:Program) (Γ:List (Ent P)) (fi:FI P) (N:Nat)
noncomputable def endP (ns:List Nat) (inO:List (Nat×XOb)) (labs:List Nat) (sm:Bool) (p:Exit×XSt):Option (List XV×List (Nat×XOb)×List Nat×Bool) :=
 cond (isRet p.1) (fzI (fzT fi) p.2 fun s1=>endU (Nat.beq fi.hot 3) P fi.fn ns inO labs sm (fgSt s1)) none
noncomputable def endsP (ns:List Nat) (inO:List (Nat×XOb)) (labs:List Nat) (sm:Bool) (a:Res):List (Exit×XSt)→Bool
 | []=>true
 | p :: r=>match endP P fi ns inO labs sm p with
  | some x=>cond (a.eqb x) (endsP ns inO labs sm a r) false
  | none=>false
noncomputable def endsL (ns:List Nat) (inO:List (Nat×XOb)) (labs:List Nat) (sm:Bool):List (Exit×XSt)→Option (List XV×List (Nat×XOb)×List Nat×Bool)
 | []=>none
 | p :: r=>match endP P fi ns inO labs sm p with
  | some x=>cond (endsP P fi ns inO labs sm ⟨x.1,x.2.1,x.2.2.1,x.2.2.2⟩ r) (some x) none
  | none=>none
noncomputable def runI (gids:List Nat) (xs ys:List XV) (inO:List (Nat×XOb)) (labs:List Nat) (sm:Bool):Option (List XV×List (Nat×XOb)×List Nat×Bool) :=
 match fi.fn.body with
 | some c=>cond (Nat.ble fi.fn.ntmps GB) (cond (Nat.ble xs.length fi.fn.ntmps) (cond (Q1r (inO.map (·.1))) (match fi.fk with
  | none=>match execU P Γ fi.own fi.fn.ntmps N c false ⟨envX 0 xs++glE gids ys,inO,labs,[],[]⟩ with
   | some p=>endP P fi (inO.map (·.1)) inO labs sm p
   | none=>none
  | some fk=>match execL P Γ fi.own fi.fn.ntmps N c false ⟨envX 0 xs++glE gids ys,inO,labs,0 :: fk,[]⟩ with
   | some L=>endsL P fi (inO.map (·.1)) inO labs sm L
   | none=>none) none) none) none
 | none=>none
end
theorem Qvu {σ:Nat→Nat} {live:List Nat} {δ:Nat} (hσ:∀n,σ (n+δ)=n) {rs:List XV} (h:Q5m rs=true):Rl σ (tupX rs).a (tupX (rlL live δ rs)).a:=by
 cases rs with
 | nil=>exact .tup [] [] rfl (by simp)
 | cons x r =>
  cases r with
  | nil =>
   simp only[Q5m] at h
   exact XV.rl_ok live δ hσ x (by
    cases hx:x.noTpt with
    | true=>rfl
    | false=>simp[hx] at h)
  | cons y r =>
   obtain⟨h1,h2⟩:=Qb8 live δ hσ (x :: y :: r) h
   exact .tup _ _ h1 h2
theorem Qre {l:List (Nat×XOb)} {p:Nat×XOb} (h:lk p.1 l=none) (hp:p ∈ l):False:=by
 induction l with
 | nil=>simp at hp
 | cons q r ih =>
  simp only[Q12,Q2b] at h
  cases hb:Nat.beq q.1 p.1 with
  | true=>simp[hb] at h
  | false =>
   simp only[hb,cond_false] at h
   rcases List.mem_cons.1 hp with rfl | hp
   ·rw[Nat.beq_refl] at hb; cases hb
   ·exact ih h hp
theorem Qh9 {P:Program} {fi:FI P} {gids:List Nat} {xs ys:List XV} {inO:List (Nat×XOb)} {labs:List Nat} {rs:List XV} {os:List (Nat×XOb)} {ls:List Nat} {sm u fg:Bool} {c:Code} {L:List (Exit×XSt)} {wl:List Nat}
  (hsm:Q52 (inO.map (·.1))=true) (hc:fi.fn.body=some c) (hG:fi.fn.ntmps≤GB) (hn:xs.length≤fi.fn.ntmps) (hnd:(inO.map (·.1)).Nodup)
  (hs:AWp P ⟨fi.fn.ntmps,inO.map (·.1),Q3b hsm⟩ c (QL ⟨envX 0 xs++glE gids ys,inO,labs,wl,[]⟩ L) (XSt.im ⟨envX 0 xs++glE gids ys,inO,labs,wl,[]⟩)) (hne:L≠[])
  (hall:∀p ∈ L,isRet p.1=true∧fzI (fzT fi) p.2 (fun s1=>endU fg P fi.fn (inO.map (·.1)) inO labs sm (fgSt s1))=some (rs,os,ls,u)) :
  DoesH P fi.id (asOf xs) (gids.zip (asOf ys)) ⟨Q0 inO,labs⟩ (tupX rs).a ⟨Q0 os,ls⟩∧(u=true→∃no nl,os=inO++no∧ls=labs++nl):=by
 have hnm:(Q0 inO).map (·.1)=inO.map (·.1):=Ql _
 refine⟨?_,?_⟩
 ·intro g w vs hr hgs hl ha
  refine calls_of_wp fi.hf hc (wp_mono (hs (Base.of g w ⟨Q0 inO,labs⟩) g w _ ?_) ?_)
  ·rw[Q8] at hl
   refine⟨rfl,?_,?_,?_⟩
   ·simp; omega
   ·have:=hr
    rw[hnm] at this
    exact this
   ·intro t x hx
    have hx' : (imEnv (envX 0 xs)++imEnv (glE gids ys)).lookup t=some x:=by
     rw[imEnv,imEnv,← List.map_append]; exact hx
    rw[List.lookup_append,Q94] at hx'
    cases h1:(envOf 0 (asOf xs)).lookup t with
    | some x1 =>
     rw[h1] at hx'
     simp only[Option.some_or,Option.some.injEq] at hx'
     subst hx'
     obtain⟨_,hx'⟩:=Q46 h1
     rw[Nat.sub_zero] at hx'
     have hlt:t < vs.size:=by
      have:=(List.getElem?_eq_some_iff.1 hx').1
      rw[Q8] at this; omega
     refine⟨vs[t],?_,ha t x1 _ hx' (by simp[hlt])⟩
     rw[Q3r (by omega)]
     simp[Array.getElem?_append,hlt]
    | none =>
     rw[h1] at hx'
     simp only[Option.none_or] at hx'
     obtain⟨k,rfl,hk⟩:=Qgb (Qn hx')
     exact⟨_,Q8t k,hgs _ hk⟩
  ·rintro e' a' w' ⟨s',g',⟨⟨e,s⟩,hp,rfl,rfl,hi⟩,hs'⟩
   obtain⟨hret,hfz⟩:=hall _ hp
   simp only at hret hfz hi hs'
   have fin:a'.defers = []∧∃v,(results fi.fn a'.tmps).run P w' = .ok v w'∧∃g' v_1,Ending.returned v=Ending.returned v_1∧RA g' w' (tupX rs).a v_1∧HR ((Q0 inO).map (·.1)) (Base.of g w ⟨Q0 inO,labs⟩) g' w' ⟨Q0 os,ls⟩:=by
    obtain⟨s1,q1,q2,q3⟩:=Qfu (S:=⟨fi.fn.ntmps,inO.map (·.1),Q3b hsm⟩) _ s hi.toInv hfz
    obtain⟨g1,hs1⟩:=q3 _ g' w' a' hs'
    have hs2:=SR.fg hs1
    have hi2:=q2.fg
    generalize fgSt s1=s2 at q1 hs2 hi2
    unfold endU at q1
    split at q1
    rotate_left
    ·cases q1
    rename_i rs0 hrs
    obtain⟨v,hv,hra⟩:=Q3v (Q4x hrs) hs2
    rw[← Q4a] at hra
    rw[hnm]
    cases hes:cond sm (endS fg (inO.map (·.1)) inO labs s2 rs0) none with
    | some r0 =>
     rw[hes] at q1
     simp only[Option.some.injEq] at q1
     subst q1
     obtain⟨_,hes⟩:=c2 hes
     unfold endS at hes
     obtain⟨k1,hes⟩:=c2 hes
     obtain⟨k2,hes⟩:=c2 hes
     obtain⟨k3,hes⟩:=c2 hes
     obtain⟨k5,hes⟩:=c2 hes
     obtain⟨k6,hes⟩:=c2 hes
     dsimp only at hes
     split at hes
     rotate_left
     ·cases hes
     rename_i no hno
     simp only[Option.some.injEq,Prod.mk.injEq] at hes
     obtain⟨rfl,rfl,rfl,rfl⟩:=hes
     have hol:=Qir k1
     have hlv:=Q2t k2
     have low:=Qk9 k5
     have hnd' : ((Q0 inO).map (·.1)).Nodup:=by rw[hnm]; exact hnd
     have hw:Relb (inO.map (·.1)) sgm s2.im ⟨[],⟨Q0 (inO++no),labs++onlyL (plusL dlt (bsel fg [] (diffL labs s2.live))) (lsOb (plusL dlt (bsel fg [] (diffL labs s2.live))) no (lsL (plusL dlt (bsel fg [] (diffL labs s2.live))) (rlL (bsel fg [] (diffL labs s2.live)) dlt rs0) []))⟩⟩:=by
      have cas:∀n,n ∈ labs++onlyL (plusL dlt (bsel fg [] (diffL labs s2.live))) (lsOb (plusL dlt (bsel fg [] (diffL labs s2.live))) no (lsL (plusL dlt (bsel fg [] (diffL labs s2.live))) (rlL (bsel fg [] (diffL labs s2.live)) dlt rs0) []))→(n ∈ labs∧sgm n=n)∨(∃m,m ∈ s2.live∧m ∉ labs∧n=m+dlt∧sgm n=m):=by
       intro n hn
       rcases List.mem_append.1 hn with hn | hn
       ·exact .inl ⟨hn,Qsj (low n hn)⟩
       ·obtain⟨m,hm',rfl⟩:=Q8d (Q5k hn)
        have:=Qz1 hm'
        exact .inr ⟨m,this.1,this.2,rfl,Ql4 m⟩
      refine⟨by simp,?_,?_,?_,?_⟩
      ·intro p hp
       obtain⟨q,hq,rfl⟩:=Q6n hp
       rcases List.mem_append.1 hq with hq | hq
       rotate_left
       ·obtain⟨o,ho1,ho2,ho3⟩:=Qcd hno q hq
        refine⟨o.o,Q2d ho1,?_⟩
        rw[ho2]
        exact XOb.rl_ok _ _ Ql4 ho3
       have hp:(q.1,q.2.o) ∈ Q0 inO:=List.mem_map_of_mem (f:=fun p:Nat×XOb=>(p.1,p.2.o)) hq
       have h1:=Qj hnd' hp
       have hk:q.1 ∈ inO.map (·.1):=List.mem_map_of_mem (f:=(·.1)) hq
       have h2:=(hs2.hr.keep q.1 hk).2
       have h2:((Q0 s2.objs).lookup q.1).isSome:=h2
       refine⟨q.2.o,?_,XOb.lows_ok (Qjg k6 hq)⟩
       show(Q0 s2.objs).lookup q.1=some q.2.o
       rw[Qt] at h2 ⊢
       cases h3:lk q.1 s2.objs with
       | none=>rw[h3] at h2; cases h2
       | some y =>
        have h4:=hi2.objs q.1 y (hol _ hk) h3
        have h5:(Q0 inO).lookup q.1=some y.o:=by rw[Qt,h4]; rfl
        rw[h1] at h5
        simp only[Option.some.injEq] at h5
        rw[h5]; rfl
      ·intro n hn
       show sgm n ∈ s2.live
       rcases cas n hn with ⟨h1,h2⟩ | ⟨m,h1,_,_,h2⟩
       ·rw[h2]; exact hlv n h1
       ·rw[h2]; exact h1
      ·intro n hn m hm' he
       rcases cas n hn with ⟨h1,h2⟩ | ⟨a,h1,h1',h3,h2⟩ <;> rcases cas m hm' with ⟨h4,h5⟩ | ⟨b,h4,h4',h6,h5⟩
       ·rw[h2,h5] at he; exact he
       ·rw[h2,h5] at he; subst he; exact(h4' h1).elim
       ·rw[h2,h5] at he; subst he; exact(h1' h4).elim
       ·rw[h2,h5] at he; subst he; rw[h3,h6]
      ·intro k hk
       obtain⟨p,hp,rfl⟩:=List.mem_map.1 (by rw[← hnm] at hk; exact hk)
       show((Q0 (inO++no)).lookup p.1).isSome
       rw[show Q0 (inO++no)=Q0 inO++Q0 no from List.map_append,List.lookup_append,Qj hnd' hp]
       rfl
     obtain⟨g3,hs3,e1,e2,e3⟩:=hs2.relbX hw
     exact⟨hs2.defers,v,hv,g3,v,rfl,(Qvu Ql4 k3).ra e1 e2 e3 hra,hs3.hr⟩
    | none =>
     rw[hes] at q1
     simp only at q1
     split at q1
     rotate_left
     ·cases q1
     rename_i os0 hos
     obtain⟨hnt,q1⟩:=c2 q1
     obtain⟨hsub,q1⟩:=c2 q1
     simp only[Option.some.injEq,Prod.mk.injEq] at q1
     obtain⟨rfl,rfl,rfl,rfl⟩:=q1
     have hw:Relb (inO.map (·.1)) (fun n=>n - dlt) s2.im ⟨[],⟨Q0 os0,onlyL (plusL dlt s2.live) (lsOb (plusL dlt s2.live) os0 (lsL (plusL dlt s2.live) (rlL s2.live dlt rs0) []))⟩⟩:=by
      refine⟨by simp,?_,?_,?_,?_⟩
      ·intro p hp
       obtain⟨q,hq,rfl⟩:=Q6n hp
       obtain⟨o,ho1,ho2,ho3⟩:=Qcd hos q hq
       refine⟨o.o,Q2d ho1,?_⟩
       rw[ho2]
       exact XOb.rl_ok _ _ (fun n=>Nat.add_sub_cancel ..) ho3
      ·intro n hn
       obtain⟨m,hm',rfl⟩:=Q8d (Q5k hn)
       simp only[Nat.add_sub_cancel]
       exact hm'
      ·intro n hn m hm' he
       obtain⟨n',_,rfl⟩:=Q8d (Q5k hn)
       obtain⟨m',_,rfl⟩:=Q8d (Q5k hm')
       simp only[Nat.add_sub_cancel] at he
       rw[he]
      ·intro k hk
       have:=Q2t hsub k hk
       show((Q0 os0).lookup k).isSome
       rw[Qt]
       cases h3:lk k os0 with
       | some y=>rfl
       | none =>
        exfalso
        obtain⟨p,hp,rfl⟩:=List.mem_map.1 this
        exact Qre h3 hp
     obtain⟨g3,hs3,e1,e2,e3⟩:=hs2.relbX hw
     exact⟨hs2.defers,v,hv,g3,v,rfl,(Qvu (fun n=>Nat.add_sub_cancel ..) hnt).ra e1 e2 e3 hra,hs3.hr⟩
   cases e' with
   | ret=>exact fin
   | normal=>exact fin
   | _=>simp[isRet] at hret
 ·intro hu
  subst hu
  obtain⟨⟨e,s⟩,hp⟩:=List.exists_mem_of_ne_nil L hne
  obtain⟨_,hfz⟩:=hall _ hp
  simp only at hfz
  obtain⟨s1,q1,q2,q3⟩:=Qfu (S:=⟨fi.fn.ntmps,inO.map (·.1),Q3b hsm⟩) (s0:=s) _ s (.refl _) hfz
  unfold endU at q1
  split at q1
  rotate_left
  ·cases q1
  rename_i rs0 hrs
  cases hes:cond sm (endS fg (inO.map (·.1)) inO labs (fgSt s1) rs0) none with
  | some r0 =>
   rw[hes] at q1
   simp only[Option.some.injEq] at q1
   subst q1
   obtain⟨_,hes⟩:=c2 hes
   unfold endS at hes
   obtain⟨k1,hes⟩:=c2 hes
   obtain⟨k2,hes⟩:=c2 hes
   obtain⟨k3,hes⟩:=c2 hes
   obtain⟨k5,hes⟩:=c2 hes
   obtain⟨k6,hes⟩:=c2 hes
   dsimp only at hes
   split at hes
   rotate_left
   ·cases hes
   simp only[Option.some.injEq,Prod.mk.injEq] at hes
   obtain⟨rfl,rfl,rfl,_⟩:=hes
   exact⟨_,_,rfl,rfl⟩
  | none =>
   rw[hes] at q1
   simp only at q1
   split at q1
   rotate_left
   ·cases q1
   obtain⟨_,q1⟩:=c2 q1
   obtain⟨_,q1⟩:=c2 q1
   simp at q1
theorem Qrm {P:Program} {fi:FI P} {gids:List Nat} {xs ys:List XV} {inO:List (Nat×XOb)} {labs:List Nat} {rs:List XV} {os:List (Nat×XOb)} {ls:List Nat} {sm u fg:Bool} {c:Code} {e:Exit} {s:XSt}
  (hsm:Q52 (inO.map (·.1))=true) (hc:fi.fn.body=some c) (hG:fi.fn.ntmps≤GB) (hn:xs.length≤fi.fn.ntmps) (hnd:(inO.map (·.1)).Nodup)
  (hs:AWp P ⟨fi.fn.ntmps,inO.map (·.1),Q3b hsm⟩ c (fun e' s'=>e' = e∧s' = s.im∧InvU ⟨envX 0 xs++glE gids ys,inO,labs,[],[]⟩ s) (XSt.im ⟨envX 0 xs++glE gids ys,inO,labs,[],[]⟩)) (hret:isRet e=true)
  (hfz:fzI (fzT fi) s (fun s1=>endU fg P fi.fn (inO.map (·.1)) inO labs sm (fgSt s1))=some (rs,os,ls,u)) :
  DoesH P fi.id (asOf xs) (gids.zip (asOf ys)) ⟨Q0 inO,labs⟩ (tupX rs).a ⟨Q0 os,ls⟩∧(u=true→∃no nl,os=inO++no∧ls=labs++nl) :=
 Qh9 (L:=[(e,s)]) hsm hc hG hn hnd (Q1i hs fun e' s' ⟨h1,h2,h3⟩=>⟨(e,s),by simp,h1,h2,h3⟩) (by simp) (by
  intro p hp
  simp only[List.mem_singleton] at hp
  subst hp
  exact⟨hret,hfz⟩)
theorem Qjs {P:Program} {Γ:List (Ent P)} {fi:FI P} {N:Nat} {gids:List Nat} {xs ys:List XV} {inO:List (Nat×XOb)} {labs:List Nat} {rs:List XV} {os:List (Nat×XOb)} {ls:List Nat} {sm u:Bool}
  (hm:P.follows .mixedOrders=true) (hsm:Q52 (inO.map (·.1))=true) (h:runI P Γ fi N gids xs ys inO labs sm=some (rs,os,ls,u)) :
  DoesH P fi.id (asOf xs) (gids.zip (asOf ys)) ⟨Q0 inO,labs⟩ (tupX rs).a ⟨Q0 os,ls⟩∧(u=true→∃no nl,os=inO++no∧ls=labs++nl):=by
 unfold runI at h
 split at h
 rotate_left
 ·cases h
 rename_i c hc
 obtain⟨hG,h⟩:=c2 h
 obtain⟨hn,h⟩:=c2 h
 obtain⟨hnd,h⟩:=c2 h
 replace hG:=Nat.le_of_ble_eq_true hG
 replace hn:=Nat.le_of_ble_eq_true hn
 replace hnd:=Q10 hnd
 have one:∀ {p:Exit×XSt} {x:List XV×List (Nat×XOb)×List Nat×Bool},endP P fi (inO.map (·.1)) inO labs sm p=some x→isRet p.1=true∧fzI (fzT fi) p.2 (fun s1=>endU (Nat.beq fi.hot 3) P fi.fn (inO.map (·.1)) inO labs sm (fgSt s1))=some x:=by
  intro p x hp
  unfold endP at hp
  exact c2 hp
 split at h
 ·split at h
  rotate_left
  ·cases h
  rename_i p hex
  obtain⟨e,s⟩:=p
  obtain⟨hret,hfz⟩:=one h
  exact Qrm hsm hc hG hn hnd (Qqr (S:=⟨fi.fn.ntmps,inO.map (·.1),Q3b hsm⟩) hm c false ⟨envX 0 xs++glE gids ys,inO,labs,[],[]⟩ ⟨envX 0 xs++glE gids ys,inO,labs,[],[]⟩ s e (.refl _) hex) hret hfz
 ·rename_i fk hfk
  split at h
  rotate_left
  ·cases h
  rename_i L hex
  cases L with
  | nil=>cases h
  | cons p r =>
   simp only[endsL] at h
   split at h
   rotate_left
   ·cases h
   rename_i x hx
   obtain⟨hrest,h⟩:=c2 h
   simp only[Option.some.injEq] at h
   subst h
   have hall:∀(l:List (Exit×XSt)),endsP P fi (inO.map (·.1)) inO labs sm ⟨rs,os,ls,u⟩ l=true→∀q ∈ l,endP P fi (inO.map (·.1)) inO labs sm q=some (rs,os,ls,u):=by
    intro l
    induction l with
    | nil=>intro _ q hq; simp at hq
    | cons y l ih =>
     intro hl q hq
     simp only[endsP] at hl
     split at hl
     rotate_left
     ·cases hl
     rename_i z hz
     obtain⟨h1,h2⟩:=e2 hl
     rcases List.mem_cons.1 hq with rfl | hq
     ·rw[hz,Res.eqb_eq h1]
     ·exact ih h2 q hq
   refine Qh9 (L:=p :: r) (sm:=sm) (fg:=Nat.beq fi.hot 3) hsm hc hG hn hnd (Qra (S:=⟨fi.fn.ntmps,inO.map (·.1),Q3b hsm⟩) hm c false ⟨envX 0 xs++glE gids ys,inO,labs,0 :: fk,[]⟩ ⟨envX 0 xs++glE gids ys,inO,labs,0 :: fk,[]⟩ (p :: r) (.refl _) hex) (by simp) ?_
   intro q hq
   rcases List.mem_cons.1 hq with rfl | hq
   ·exact one hx
   ·exact one (hall r hrest q hq)
mutual
noncomputable def XV.cool (live:List Nat):XV→XV
 | .tip n t l ty=>cond (inl n live) (.tip n t l ty) (.d (.sl t l))
 | .tup l=>.tup (coolL live l)
 | .agg l=>.agg (coolL live l)
 | .clo f l=>.clo f (coolL live l)
 | x=>x
noncomputable def coolL (live:List Nat):List XV→List XV
 | []=>[]
 | x :: r=>x.cool live :: coolL live r
end
theorem AsLe.agg {a b:List AV} (h:AsLe a b):ALe (.agg a) (.agg b):=by
 intro g w v hr
 cases hr with
 | agg _ vs hl hc =>
  refine .agg b vs (h.length▸hl) fun i c u hb hu=>?_
  obtain⟨x,hx,hle⟩:=h.get hb
  exact hle _ _ _ (hc i x u hx hu)
theorem AsLe.clo {f:Nat} {a b:List AV} (h:AsLe a b):ALe (.clo f a) (.clo f b):=by
 intro g w v hr
 cases hr with
 | clo _ _ vs hl hc =>
  refine .clo f b vs (h.length▸hl) fun i c u hb hu=>?_
  obtain⟨x,hx,hle⟩:=h.get hb
  exact hle _ _ _ (hc i x u hx hu)
mutual
theorem XV.cool_le (live:List Nat):∀x:XV,ALe x.a (x.cool live).a
 | .d x=>.refl _
 | .nm k p=>.refl _
 | .tip n t l ty=>by
  simp only[XV.cool]
  cases inl n live with
  | true=>exact .refl _
  | false=>exact .tip _ _ _ _
 | .tup l=>(Q9g live l).tup
 | .agg l=>(Q9g live l).agg
 | .clo f l=>(Q9g live l).clo
 | .os k t a n=>.refl _
 | .el k t a n=>.refl _
 | .tpt n e x l=>.refl _
theorem Q9g (live:List Nat):∀l:List XV,AsLe (asOf l) (asOf (coolL live l))
 | []=>.nil
 | x :: r=>.cons (XV.cool_le live x) (Q9g live r)
end
noncomputable def XOb.cool (live:List Nat):XOb→XOb
 | .cells cs ty=>.cells (coolL live cs) ty
 | .mapt _ kt vt es c=>.map kt (.sl vt) (fgT es) c
 | o=>o
theorem Qzc (L:Nat) {kt vt:Ty} (es:EntT kt vt) (c:Nat):ObLe (XOb.mapt L kt vt es c).o (XOb.map kt (.sl vt) (fgT es) c).o:=by
 have:=ObLe.mapt L vt.size (lT es) c
 rw[Qfa] at this
 exact this
theorem XOb.cool_le (live:List Nat) (o:XOb):ObLe o.o (o.cool live).o:=by
 cases o with
 | cells cs ty=>exact AsLe.obs (Q9g live cs)
 | mapt L kt vt es c=>exact Qzc L es c
 | _=>exact .refl _
mutual
theorem XV.mp_rt {f fl f' fl' : Nat→Nat} {ks ls:List Nat} (hf:∀k ∈ ks,f (f' k)=k) (hl:∀n ∈ ls,fl (fl' n)=n):∀x:XV,x.nms ks ls=true→(x.mp f' fl').mp f fl=x
 | .d x,_=>rfl
 | .nm k p,h=>by simp only[XV.mp,hf k ((Qg _ _).1 h)]
 | .tip n t l ty,h=>by simp only[XV.mp,hl n ((Qg _ _).1 h)]
 | .tup l,h=>by simp only[XV.mp,Qb7 hf hl l (by simpa[XV.nms] using h)]
 | .agg l,h=>by simp only[XV.mp,Qb7 hf hl l (by simpa[XV.nms] using h)]
 | .clo g l,h=>by simp only[XV.mp,Qb7 hf hl l (by simpa[XV.nms] using h)]
 | .os k t a n,h=>by simp only[XV.mp,hf k ((Qg _ _).1 h)]
 | .el k t a n,h=>by simp only[XV.mp,hf k ((Qg _ _).1 h)]
 | .tpt n e x l,h=>by simp only[XV.mp,hl n ((Qg _ _).1 h)]
theorem Qb7 {f fl f' fl' : Nat→Nat} {ks ls:List Nat} (hf:∀k ∈ ks,f (f' k)=k) (hl:∀n ∈ ls,fl (fl' n)=n):∀l:List XV,nmsL ks ls l=true→mpL f fl (mpL f' fl' l)=l
 | [],_=>rfl
 | x :: r,h=>by
  simp only[nmsL] at h
  cases hx:x.nms ks ls with
  | false=>simp[hx] at h
  | true =>
   simp only[hx,cond_true] at h
   simp only[mpL,XV.mp_rt hf hl x hx,Qb7 hf hl r h]
end
theorem XOb.mp_rt {f fl f' fl' : Nat→Nat} {ks ls:List Nat} (hf:∀k ∈ ks,f (f' k)=k) (hl:∀n ∈ ls,fl (fl' n)=n) {o:XOb} (h:o.nms ks ls=true):(o.mp f' fl').mp f fl=o:=by
 cases o with
 | cells cs ty=>simp only[XOb.mp,Qb7 hf hl cs h]
 | mit m a b c=>simp only[XOb.mp,hf m ((Qg _ _).1 h)]
 | _=>rfl
noncomputable def numL (n:Nat):List Nat→List (Nat×Nat)
 | []=>[]
 | k :: r=>(n,k) :: numL (n+1) r
noncomputable def swapL:List (Nat×Nat)→List (Nat×Nat)
 | []=>[]
 | p :: r=>(p.2,p.1) :: swapL r
noncomputable def newN (ns:List Nat) (b:Nat):List (Nat×XOb)→List (Nat×Nat)
 | []=>[]
 | p :: r=>cond (inl p.1 ns) (newN ns b r) ((p.1,b) :: newN ns (b+1) r)
noncomputable def rtOk (f f' : Nat→Nat):List Nat→Bool
 | []=>true
 | k :: r=>cond (Nat.beq (f (f' k)) k) (rtOk f f' r) false
theorem Qdy {f f' : Nat→Nat}:∀ {l:List Nat},rtOk f f' l=true→∀k ∈ l,f (f' k)=k
 | [],_=>by simp
 | k :: r,h=>by
  simp only[rtOk] at h
  cases hb:Nat.beq (f (f' k)) k with
  | false=>simp[hb] at h
  | true =>
   simp only[hb,cond_true] at h
   intro j hj
   rcases List.mem_cons.1 hj with rfl | hj
   ·exact Nat.eq_of_beq_eq_true hb
   ·exact Qdy h j hj
noncomputable def seenO (live:List Nat) (objs:List (Nat×XOb)) (f' fl' : Nat→Nat) (ks ls:List Nat):List Nat→Option (List (Nat×XOb))
 | []=>some []
 | k :: r=>match lk k objs,seenO live objs f' fl' ks ls r with
  | some o,some l=>cond ((o.cool live).nms ks ls) (some ((f' k,(o.cool live).mp f' fl') :: l)) none
  | _,_=>none
theorem Qlx {live:List Nat} {objs:List (Nat×XOb)} {f fl f' fl' : Nat→Nat} {ks ls:List Nat} (hf:∀k ∈ ks,f (f' k)=k) (hl:∀n ∈ ls,fl (fl' n)=n):∀ {l:List Nat} {os:List (Nat×XOb)},(∀k ∈ l,k ∈ ks)→seenO live objs f' fl' ks ls l=some os →
  ∀p ∈ os,∃o,lk (f p.1) objs=some o∧p.2.mp f fl=o.cool live
 | [],os,_,h=>by simp[seenO] at h; subst h; simp
 | k :: r,os,hk,h=>by
  simp only[seenO] at h
  split at h
  ·rename_i o l ho hl'
   obtain⟨hn,h⟩:=c2 h
   simp only[Option.some.injEq] at h
   subst h
   intro p hp
   rcases List.mem_cons.1 hp with rfl | hp
   ·refine⟨o,?_,XOb.mp_rt hf hl hn⟩
    simp only[hf k (hk k (by simp))]
    exact ho
   ·exact Qlx hf hl (fun j hj=>hk j (by simp[hj])) hl' p hp
  ·cases h
theorem cb2 {a b:Bool} (h:cond a b false=true):a=true∧b=true:=by cases a <;> simp at h; exact⟨rfl,h⟩
noncomputable def freeU (ns F:List Nat):List (Nat×XOb)→Bool
 | []=>true
 | p :: r=>cond (inl p.1 ns) (freeU ns F r) (cond (Qg5 F p.2) (freeU ns F r) false)
theorem Qc6 {ns F:List Nat} {k:Nat} {o:XOb}:∀ {l:List (Nat×XOb)},freeU ns F l=true→lk k l=some o→k ∉ ns→Q1j F o.o=true
 | [],_,h,_=>by simp[Q12,Q2b] at h
 | p :: r,hf,h,hk=>by
  simp only[freeU] at hf
  simp only[Q12,Q2b] at h
  cases hb:Nat.beq p.1 k with
  | true =>
   have e:=Nat.eq_of_beq_eq_true hb
   simp only[hb,cond_true,Option.some.injEq] at h
   have hn:inl p.1 ns=false:=by
    cases hn:inl p.1 ns with
    | false=>rfl
    | true=>rw[e] at hn; exact(hk ((Qg _ _).1 hn)).elim
   rw[hn] at hf
   simp only[cond_false] at hf
   rw[← h]
   exact Qkc (cb2 hf).1
  | false =>
   simp only[hb,cond_false] at h
   cases hn:inl p.1 ns with
   | true=>rw[hn] at hf; exact Qc6 hf h hk
   | false =>
    rw[hn] at hf
    simp only[cond_false] at hf
    exact Qc6 (cb2 hf).2 h hk
noncomputable def iChk (names labs:List Nat) (f fl:Nat→Nat) (F:List Nat) (st:XSt) (xs:List XV) (inO s1o:List (Nat×XOb)) (s1l:List Nat) (res:XV):Bool :=
 cond (Q1r names) (cond (Q1r (names.map f)) (cond (Q4c names labs inO) (cond (Q4c (s1o.map (·.1)) s1l s1o) (cond (Q1r (s1o.map fun p=>f p.1)) (cond (newOk names f F st.objs s1o)
 (cond (subL names (s1o.map (·.1))) (cond (freeU (s1o.map fun p=>f p.1) F st.objs) (cond (subL (labs.map fl) st.live) (cond (Q1r (labs.map fl)) (cond (Q1r (s1l.map fl)) (cond (subL (s1l.map fl) F)
 (cond (Qfn fl labs st.live s1l) (cond (nmsL names labs xs) (res.nms (s1o.map (·.1)) s1l) false) false) false) false) false) false) false) false) false) false) false) false) false) false
structure IChk (names labs:List Nat) (f fl:Nat→Nat) (F:List Nat) (st:XSt) (xs:List XV) (inO s1o:List (Nat×XOb)) (s1l:List Nat) (res:XV):Prop where
 nd1:names.Nodup
 nd2:(names.map f).Nodup
 innm:Q4c names labs inO=true
 outnm:Q4c (s1o.map (·.1)) s1l s1o=true
 nd3:(s1o.map fun p=>f p.1).Nodup
 new:∀p ∈ s1o,p.1 ∈ names∨(f p.1 ∈ F∧lk (f p.1) st.objs=none)
 sub:∀x ∈ names,x ∈ s1o.map (·.1)
 free:freeU (s1o.map fun p=>f p.1) F st.objs=true
 l1:∀x ∈ labs.map fl,x ∈ st.live
 l2:(labs.map fl).Nodup
 l3:(s1l.map fl).Nodup
 l4:∀x ∈ s1l.map fl,x ∈ F
 l5:∀n ∈ s1l,fl n ∈ st.live→fl n ∈ labs.map fl
 xsn:nmsL names labs xs=true
 resn:res.nms (s1o.map (·.1)) s1l=true
theorem Qw4 {names labs:List Nat} {f fl:Nat→Nat} {F:List Nat} {st:XSt} {xs:List XV} {inO s1o:List (Nat×XOb)} {s1l:List Nat} {res:XV} (h:iChk names labs f fl F st xs inO s1o s1l res=true):IChk names labs f fl F st xs inO s1o s1l res:=by
 unfold iChk at h
 have c:∀ {a b:Bool},cond a b false=true→a=true∧b=true:=by intro a b h; cases a <;> simp at h; exact⟨rfl,h⟩
 obtain⟨h1,h⟩:=c h
 obtain⟨h2,h⟩:=c h
 obtain⟨h3,h⟩:=c h
 obtain⟨h4,h⟩:=c h
 obtain⟨h5,h⟩:=c h
 obtain⟨h6,h⟩:=c h
 obtain⟨h7,h⟩:=c h
 obtain⟨h8,h⟩:=c h
 obtain⟨h9,h⟩:=c h
 obtain⟨h10,h⟩:=c h
 obtain⟨h11,h⟩:=c h
 obtain⟨h12,h⟩:=c h
 obtain⟨h13,h⟩:=c h
 obtain⟨h14,h⟩:=c h
 exact⟨Q10 h1,Q10 h2,h3,h4,Q10 h5,Qcg h6,Q2t h7,h8,Q2t h9,Q10 h10,Q10 h11,Q2t h12,Q7t h13,h14,h⟩
theorem Qyb {P:Program} {o:Oper} {rd:List (Operand×AV)} {names labs:List Nat} {f fl:Nat→Nat} {F:List Nat} {st:XSt} {xs:List XV} {inO s1o:List (Nat×XOb)} {s1l:List Nat} {res:XV} {X:Store}
  (hc:IChk names labs f fl F st xs inO s1o s1l res) (hnm:inO.map (·.1)=names)
  (hin:∀p ∈ inO,∃o,X.objs.lookup (f p.1)=some o∧ObLe o (p.2.mp f fl).o)
  (hnew:∀p ∈ s1o,p.1 ∈ names∨(f p.1 ∈ F∧X.objs.lookup (f p.1)=none))
  (hfree:∀j o,X.objs.lookup j=some o→(∀p ∈ s1o,f p.1≠j)→F = []∨Q1j F o=true) (hl1:∀x ∈ labs.map fl,x ∈ X.live) (hl5:∀n ∈ s1l,fl n ∈ X.live→fl n ∈ labs.map fl)
  (H:∀Y,LabCall Y ⟨Q0 inO,labs⟩ ⟨Q0 s1o,s1l⟩ f fl F→OpT P o rd Y ⟨Qf f fl (Q0 s1o) Y.objs,Qy fl Y ⟨Q0 inO,labs⟩ ⟨Q0 s1o,s1l⟩⟩ F (res.mp f fl).a) :
  OpT P o rd X ⟨Qf f fl (Q0 s1o) X.objs,Qy fl X ⟨Q0 inO,labs⟩ ⟨Q0 s1o,s1l⟩⟩ F (res.mp f fl).a:=by
 have nd2:(inO.map fun p=>f p.1).Nodup:=by
  have:=hc.nd2
  rw[← hnm,List.map_map] at this
  exact this
 let Y:Store:=⟨Qf f fl (Q0 inO) X.objs,X.live⟩
 have yIn:∀p ∈ inO,Y.objs.lookup (f p.1)=some (p.2.mp f fl).o:=fun p hp=>Q1u nd2 hp
 have yOther:∀j,(∀p ∈ inO,f p.1≠j)→Y.objs.lookup j=X.objs.lookup j:=fun j hj=>Q19 hj
 have yCases:∀j,(∃p ∈ inO,f p.1=j)∨∀p ∈ inO,f p.1≠j:=by
  intro j
  by_cases h:∃p ∈ inO,f p.1=j
  ·exact .inl h
  ·exact .inr fun p hp e=>h ⟨p,hp,e⟩
 have hle:∀k o',Y.objs.lookup k=some o'→∃o,X.objs.lookup k=some o∧ObLe o o':=by
  intro k o' ho
  rcases yCases k with ⟨p,hp,rfl⟩ | hn
  ·rw[yIn p hp] at ho
   cases ho
   obtain⟨o,h1,h2⟩:=hin p hp
   exact⟨o,h1,h2⟩
  ·rw[yOther k hn] at ho
   exact⟨o',ho,.refl _⟩
 have hkk:∀k,(X.objs.lookup k).isSome→(Y.objs.lookup k).isSome:=by
  intro k hk
  rcases yCases k with ⟨p,hp,rfl⟩ | hn
  ·rw[yIn p hp]; rfl
  ·rw[yOther k hn]; exact hk
 have hfree' : ∀j o,Y.objs.lookup j=some o→(∀p ∈ Q0 s1o,f p.1≠j)→F = []∨Q1j F o=true:=by
  intro j o hj hn
  have hn' : ∀p ∈ s1o,f p.1≠j:=fun p hp=>hn (p.1,p.2.o) (List.mem_map.2 ⟨p,hp,rfl⟩)
  refine hfree j o ?_ hn'
  rw[← hj,yOther]
  intro p hp e
  have:=hc.sub p.1 (by rw[← hnm]; exact List.mem_map_of_mem (f:=fun p:Nat×XOb=>p.1) hp)
  obtain⟨q,hq,hqe⟩:=List.mem_map.1 this
  exact hn' q hq (by rw[hqe]; exact e)
 have hlab:LabCall Y ⟨Q0 inO,labs⟩ ⟨Q0 s1o,s1l⟩ f fl F:=by
  refine⟨?_,?_,?_,?_,?_,?_,?_,hfree',?_,hc.l2,hc.l3,fun n hn=>hc.l4 _ (List.mem_map_of_mem hn),hl5⟩
  ·intro p hp
   obtain⟨q,hq,rfl⟩:=Q6n hp
   rw[yIn q hq,XOb.mp_o]
  ·simp only[Ql,hnm]
   exact Q6o hc.innm
  ·simp only[Ql]
   exact Q6o hc.outnm
  ·have:=hc.nd3
   simpa[Q0,Function.comp_def] using this
  ·simp only[Ql,hnm]
   exact hc.nd1
  ·intro p hp
   obtain⟨q,hq,rfl⟩:=Q6n hp
   simp only[Ql,hnm]
   rcases hnew q hq with h | ⟨h1,h2⟩
   ·exact .inl h
   ·refine .inr ⟨h1,?_⟩
    rw[yOther]
    ·exact h2
    ·intro p hp e
     obtain⟨o,h3,_⟩:=hin p hp
     rw[e,h2] at h3
     cases h3
  ·intro p hp
   obtain⟨q,hq,rfl⟩:=Q6n hp
   simp only[Ql]
   exact hc.sub _ (by rw[← hnm]; exact List.mem_map_of_mem (f:=fun p:Nat×XOb=>p.1) hq)
  ·intro n hn
   exact hl1 _ (List.mem_map_of_mem hn)
 have h1:=Qon (H Y hlab) hle hkk rfl
 have same:∀j,(Qf f fl (Q0 s1o) X.objs).lookup j=(Qf f fl (Q0 s1o) Y.objs).lookup j:=by
  intro j
  by_cases hj:∃p ∈ s1o,f p.1=j
  ·obtain⟨p,hp,rfl⟩:=hj
   rw[Q1u hc.nd3 hp,Q1u hc.nd3 hp]
  ·have hn:∀p ∈ s1o,f p.1≠j:=fun p hp e=>hj ⟨p,hp,e⟩
   rw[Q19 hn,Q19 hn,yOther j ?_]
   intro p hp e
   have:=hc.sub p.1 (by rw[← hnm]; exact List.mem_map_of_mem (f:=fun p:Nat×XOb=>p.1) hp)
   obtain⟨q,hq,hqe⟩:=List.mem_map.1 this
   exact hn q hq (by rw[hqe]; exact e)
 intro nm hsm B g w a hr hrd next Q hn
 refine h1 nm hsm B g w a hr hrd next Q fun g' w' v hr' ht hv=>hn g' w' v ?_ ht hv
 refine Qbs hr' (fun k o' ho=>⟨o',?_,.refl _⟩) (fun k hk=>?_) rfl
 ·rw[← same k]; exact ho
 ·rw[same k]; exact hk
noncomputable def Q21 (live:List Nat) (objs:List (Nat×XOb)):List Nat→Bool
 | []=>true
 | k :: r=>match lk k objs with
  | some (.cells cs _)=>cond (noTips live cs) (Q21 live objs r) false
  | some (.mapt _ _ _ _ _)=>false
  | some _=>Q21 live objs r
  | none=>false
where noTips (live:List Nat):List XV→Bool
 | []=>true
 | .d _ :: r=>noTips live r
 | .nm _ _ :: r=>noTips live r
 | .os _ _ _ _ :: r=>noTips live r
 | .tip n _ _ _ :: r=>cond (inl n live) (noTips live r) false
 | _ :: _=>false
theorem Q5y (live:List Nat):∀ {cs:List XV},Q21.noTips live cs=true→coolL live cs=cs
 | [],_=>rfl
 | .d _ :: r,h=>by simp only[coolL,XV.cool,Q5y live (cs:=r) (by simpa[Q21.noTips] using h)]
 | .nm _ _ :: r,h=>by simp only[coolL,XV.cool,Q5y live (cs:=r) (by simpa[Q21.noTips] using h)]
 | .os _ _ _ _ :: r,h=>by simp only[coolL,XV.cool,Q5y live (cs:=r) (by simpa[Q21.noTips] using h)]
 | .tip n _ _ _ :: r,h=>by
  simp only[Q21.noTips] at h
  cases hn:inl n live with
  | true =>
   rw[hn] at h
   simp only[coolL,XV.cool,hn,cond_true,Q5y live (cs:=r) h]
  | false=>simp[hn] at h
 | .tup _ :: _,h=>by simp[Q21.noTips] at h
 | .agg _ :: _,h=>by simp[Q21.noTips] at h
 | .clo _ _ :: _,h=>by simp[Q21.noTips] at h
 | .el _ _ _ _ :: _,h=>by simp[Q21.noTips] at h
 | .tpt _ _ _ _ :: _,h=>by simp[Q21.noTips] at h
theorem Q7x {live:List Nat} {objs:List (Nat×XOb)}:∀ {l:List Nat},Q21 live objs l=true→∀k ∈ l,∀o,lk k objs=some o→o.cool live=o
 | [],_=>by simp
 | j :: r,h=>by
  intro k hk o ho
  simp only[Q21] at h
  split at h
  ·rename_i cs ty hj
   have hr:Q21.noTips live cs=true∧Q21 live objs r=true:=by
    cases hn:Q21.noTips live cs with
    | false=>simp[hn] at h
    | true=>simp only[hn,cond_true] at h; exact⟨rfl,h⟩
   rcases List.mem_cons.1 hk with rfl | hk
   ·rw[hj] at ho
    cases ho
    simp only[XOb.cool,Q5y live hr.1]
   ·exact Q7x hr.2 k hk o ho
  ·cases h
  ·rename_i o' hne hne2 hj
   rcases List.mem_cons.1 hk with rfl | hk
   ·rw[hj] at ho
    cases ho
    cases o with
    | cells cs ty=>exact(hne cs ty rfl).elim
    | mapt L kt vt es c=>exact(hne2 L kt vt es c rfl).elim
    | _=>rfl
   ·exact Q7x h k hk o ho
  ·cases h
abbrev RunT:=List XV→List XV→List (Nat×XOb)→List Nat→Bool→Option (List XV×List (Nat×XOb)×List Nat×Bool)
def RunOk (P:Program) (id:FuncId) (gids:List Nat) (run:RunT):Prop :=
 ∀(xs ys:List XV) (inO:List (Nat×XOb)) (labs:List Nat) (sm:Bool) (rs:List XV) (os:List (Nat×XOb)) (ls:List Nat) (u:Bool),Q52 (inO.map (·.1))=true→run xs ys inO labs sm=some (rs,os,ls,u) →
  DoesH P id (asOf xs) (gids.zip (asOf ys)) ⟨Q0 inO,labs⟩ (tupX rs).a ⟨Q0 os,ls⟩∧(u=true→∃no nl,os=inO++no∧ls=labs++nl)
noncomputable def dropN {α:Type} (n:Nat) (l:List α):List α:=Nat.rec (motive:=fun _=>List α→List α) (fun l=>l) (fun _ ih l=>List.rec (motive:=fun _=>List α) [] (fun _ r _=>ih r) l) n l
theorem Qlt {α:Type}:∀(a b:List α),dropN (lenR a) (a++b)=b
 | [],b=>rfl
 | x :: a,b=>Qlt a b
section
variable (run:RunT)
noncomputable def inlGo (lv:List Nat) (o:Oper) (st:XSt) (vs us:List XV) (rd:List XV→List (Operand×XV)):Option Out :=
 let vs:=coolL lv vs
 let ks:=closU st.objs 100000 (ksL vs []) []
 let ls:=onlyL st.live (lsL st.live vs (lsK ks []))
 let σ:=numL 0 ks
 let τ:=numL 500 ls
 let f':=nf (swapL σ)
 let fl':=nf (swapL τ)
 match seenO st.live st.objs f' fl' ks ls ks with
 | some inO=>match run (mpL f' fl' vs) us inO (τ.map (·.1)) (Q1t ls (imEnv st.env)) with
  | some (rs,s1o,s1l,u) =>
   let b:=Qa0 o*1000000
   let nw:=newN (σ.map (·.1)) b s1o
   let f:=nf (σ++nw)
   let same:=cond u (Q21 st.live st.objs ks) false
   let fl:=nf (τ++swapL (numL (b+500000) (diffL (τ.map (·.1)) s1l)))
   cond (rtOk f f' ks) (cond (rtOk fl fl' ls) (cond (nmsL ks ls vs) (cond (Q52 (inO.map (·.1))) (cond (datL us)
    (cond (iChk (inO.map (·.1)) (τ.map (·.1)) f fl (nw.map (·.2)++s1l.map fl) st (mpL f' fl' vs) inO s1o s1l (tupX rs))
     (cond same (match dropN (lenR inO) s1o with
      | q :: no=>some ⟨.new ((q :: no).map fun p=>(f p.1,p.2.mp f fl)),(tupX rs).mp f fl,rd vs,((q :: no).map fun p=>(f p.1,p.2.mp f fl))++st.objs,Qy fl st.X ⟨[],τ.map (·.1)⟩ ⟨[],s1l⟩,nw.map (·.2)++s1l.map fl,(q :: no).map fun p=>f p.1⟩
      | []=>cond (Q3h s1l) (some ⟨.look ((inO.map (·.1)).map f),(tupX rs).mp f fl,rd vs,st.objs,st.live,[],[]⟩)
       (some ⟨.lab,(tupX rs).mp f fl,rd vs,st.objs,Qy fl st.X ⟨[],τ.map (·.1)⟩ ⟨[],s1l⟩,nw.map (·.2)++s1l.map fl,[]⟩))
      (some ⟨.all,(tupX rs).mp f fl,rd vs,putXs f fl s1o st.objs,Qy fl st.X ⟨[],τ.map (·.1)⟩ ⟨[],s1l⟩,nw.map (·.2)++s1l.map fl,s1o.map fun p=>f p.1⟩)) none) none) none) none) none) none
  | none=>none
 | none=>none
where lsK:List Nat→List Nat→List Nat
 | [],acc=>acc
 | k :: r,acc=>match lk k st.objs with
  | some ob=>lsK r (ob.lbs st.live acc)
  | none=>lsK r acc
end
theorem Qqd {ns:List Nat} {b:Nat}:∀ {l:List (Nat×XOb)},(∀p ∈ l,p.1 ∈ ns)→newN ns b l = []
 | [],_=>rfl
 | p :: r,h=>by
  simp only[newN,(Qg _ _).2 (h p (by simp)),cond_true]
  exact Qqd fun q hq=>h q (by simp[hq])
theorem Qyr (a b:Nat) (l:List (Nat×Nat)) (k:Nat):nf ((a,b) :: l) k=if k=a then b else nf l k:=by
 unfold nf
 rw[List.lookup_cons]
 by_cases h:k=a
 ·subst h; simp
 ·have:(k == a)=false:=by simpa using h
  simp[this,h]
theorem Qd8 {k:Nat}:∀ {l:List Nat} {n:Nat},k ∈ l→nf (swapL (numL n l)) k ∈ (numL n l).map (·.1)
 | [],n,h=>by simp at h
 | j :: r,n,h=>by
  simp only[numL,swapL,List.map_cons,List.mem_cons]
  rw[Qyr]
  by_cases he:k=j
  ·rw[if_pos he]; exact .inl rfl
  ·rw[if_neg he]
   right
   rcases List.mem_cons.1 h with h | h
   ·exact absurd h he
   ·exact Qd8 h
theorem Qqc {k:Nat} {l:List Nat} (h:k ∈ l):nf (swapL (numL 0 l)) k ∈ (numL 0 l).map (·.1):=Qd8 h
theorem Q7u {live:List Nat} {objs:List (Nat×XOb)} {f' fl' : Nat→Nat} {ks ls:List Nat}:∀ {l:List Nat} {os:List (Nat×XOb)},seenO live objs f' fl' ks ls l=some os→∀p ∈ os,∃k ∈ l,p.1=f' k
 | [],os,h=>by simp[seenO] at h; subst h; simp
 | k :: r,os,h=>by
  simp only[seenO] at h
  split at h
  ·rename_i o l ho hl'
   obtain⟨hn,h⟩:=c2 h
   simp only[Option.some.injEq] at h
   subst h
   intro p hp
   rcases List.mem_cons.1 hp with rfl | hp
   ·exact⟨k,by simp,rfl⟩
   ·obtain⟨j,hj,e⟩:=Q7u hl' p hp
    exact⟨j,by simp[hj],e⟩
  ·cases h
theorem Qmt {st:XSt} {lv:List Nat} {x:Operand} {v:XV} (h:xeval st x=some v):Sees st.im x (v.cool lv).a:=by
 cases x with
 | tmp t=>exact .tmp t _ (Qz h).1 (Q4r (Qz h).2 (XV.cool_le _ v))
 | const u =>
  have h':=Q5 h
  simp only[xeval,Option.some.injEq] at h
  subst h
  exact h'
 | func f =>
  have h':=Q5 h
  simp only[xeval,Option.some.injEq] at h
  subst h
  exact h'
 | global k=>exact .glob k _ (Q4r h (XV.cool_le _ v))
theorem Qc4 {st:XSt} {lv:List Nat}:∀ {ops:List Operand} {vs:List XV},Qh st ops=some vs→∀p ∈ imRd (ops.zip (coolL lv vs)),Sees st.im p.1 p.2
 | [],vs,h=>by simp[imRd]
 | x :: ops,[],h=>by have:=Q1k h; simp at this
 | x :: ops,v :: vs,h=>by
  obtain⟨hx,hvs⟩:=Q24 h
  intro p hp
  simp only[coolL,List.zip_cons_cons,imRd,List.map_cons,List.mem_cons] at hp
  rcases hp with rfl | hp
  ·exact Qmt hx
  ·exact Qc4 hvs p hp
theorem Qo7 {P:Program} {id:FuncId} {run:RunT} {gids:List Nat} (hok:RunOk P id gids run) {lv:List Nat} {o:Oper} {st:XSt} {vs us:List XV} {rd:List XV→List (Operand×XV)} {out:Out}
  (hsee:∀p ∈ imRd (rd (coolL lv vs)),Sees st.im p.1 p.2)
  (H:∀(f fl:Nat→Nat) (F:List Nat) (xs rs:List XV) (inO s1o:List (Nat×XOb)) (labs s1l:List Nat) (Y:Store),mpL f fl xs=coolL lv vs→datL us=true →
   DoesH P id (asOf xs) (gids.zip (asOf us)) ⟨Q0 inO,labs⟩ (tupX rs).a ⟨Q0 s1o,s1l⟩→nmsL (inO.map (·.1)) labs xs=true→(tupX rs).nms (s1o.map (·.1)) s1l=true→LabCall Y ⟨Q0 inO,labs⟩ ⟨Q0 s1o,s1l⟩ f fl F →
   OpT P o (imRd (rd (coolL lv vs))) Y ⟨Qf f fl (Q0 s1o) Y.objs,Qy fl Y ⟨Q0 inO,labs⟩ ⟨Q0 s1o,s1l⟩⟩ F ((tupX rs).mp f fl).a)
  (h:inlGo run lv o st vs us rd=some out):OpOk P o st out:=by
 unfold inlGo at h
 simp only at h
 generalize coolL lv vs=vs' at h H hsee
 generalize hks:closU st.objs 100000 (ksL vs' []) [] = ks at h
 generalize hls:onlyL st.live (lsL st.live vs' (inlGo.lsK st ks []))=ls at h
 split at h
 rotate_left
 ·cases h
 rename_i inO hinO
 split at h
 rotate_left
 ·cases h
 rename_i rs s1o s1l u hrun
 generalize hf:nf (numL 0 ks++newN ((numL 0 ks).map (·.1)) (Qa0 o*1000000) s1o)=f at h
 generalize hsame:(cond u (Q21 st.live st.objs ks) false)=same at h
 generalize hfl:nf (numL 500 ls++swapL (numL (Qa0 o*1000000+500000) (diffL ((numL 500 ls).map (·.1)) s1l)))=fl at h
 generalize hF:(newN ((numL 0 ks).map (·.1)) (Qa0 o*1000000) s1o).map (·.2)++s1l.map fl=F at h
 obtain⟨h1,h⟩:=c2 h
 obtain⟨h2,h⟩:=c2 h
 obtain⟨h3,h⟩:=c2 h
 obtain⟨h4,h⟩:=c2 h
 obtain⟨h5,h⟩:=c2 h
 obtain⟨h6,h⟩:=c2 h
 have r1:=Qdy h1
 have r2:=Qdy h2
 have hc:=Qw4 h6
 obtain⟨hdoes,hun⟩:=hok _ _ _ _ _ _ _ _ _ h4 hrun
 have hseen:=Qlx r1 r2 (fun k hk=>hk) hinO
 have hxs:mpL f fl (mpL (nf (swapL (numL 0 ks))) (nf (swapL (numL 500 ls))) vs')=vs':=Qb7 r1 r2 _ h3
 have core:∀X:Store,(∀p ∈ inO,∃o',X.objs.lookup (f p.1)=some o'∧ObLe o' (p.2.mp f fl).o) →
   (∀p ∈ s1o,p.1 ∈ inO.map (·.1)∨(f p.1 ∈ F∧X.objs.lookup (f p.1)=none)) →
   (∀j o,X.objs.lookup j=some o→(∀p ∈ s1o,f p.1≠j)→F = []∨Q1j F o=true)→(∀x ∈ ((numL 500 ls).map (·.1)).map fl,x ∈ X.live)→(∀n ∈ s1l,fl n ∈ X.live→fl n ∈ ((numL 500 ls).map (·.1)).map fl) →
   OpT P o (imRd (rd vs')) X ⟨Qf f fl (Q0 s1o) X.objs,Qy fl X ⟨Q0 inO,(numL 500 ls).map (·.1)⟩ ⟨Q0 s1o,s1l⟩⟩ F ((tupX rs).mp f fl).a:=by
  intro X a1 a2 a3 a4 a5
  exact Qyb hc rfl a1 a2 a3 a4 a5 fun Y hY=>H f fl F _ rs inO s1o _ s1l Y hxs h5 hdoes hc.xsn hc.resn hY
 have frees:∀j o,st.X.objs.lookup j=some o→(∀p ∈ s1o,f p.1≠j)→F = []∨Q1j F o=true:=by
  intro j o hj hn
  have hj' : (Q0 st.objs).lookup j=some o:=hj
  rw[Qt] at hj'
  cases hl:lk j st.objs with
  | none=>rw[hl] at hj'; cases hj'
  | some y =>
   rw[hl] at hj'
   simp only[Option.map_some,Option.some.injEq] at hj'
   rw[← hj']
   refine .inr (Qc6 hc.free hl fun hm=>?_)
   obtain⟨p,hp,e⟩:=List.mem_map.1 hm
   exact hn p hp e
 cases same with
 | true =>
  simp only[cond_true] at h
  cases u with
  | false=>cases hsame
  | true =>
   simp only[cond_true] at hsame
   have hlook:Q21 st.live st.objs ks=true:=hsame
   obtain⟨no,nl,e1,e2⟩:=hun rfl
   rw[e1,Qlt] at h
   have hnos:=e1
   split at h
   ·rename_i q no
    simp only[Option.some.injEq] at h
    subst h
    refine⟨hsee,⟨rfl,?_⟩,fun j x hj hx=>?_⟩
    ·have hks2:∀p ∈ inO,f p.1 ∈ ks:=by
      intro p hp
      obtain⟨k,hk,e⟩:=Q7u hinO p hp
      rw[e,r1 k hk]; exact hk
     have hlk2:∀p ∈ inO,st.X.objs.lookup (f p.1)=some (p.2.mp f fl).o:=by
      intro p hp
      obtain⟨o',h7,h8⟩:=hseen p hp
      rw[h8,Q7x hlook _ (hks2 p hp) o' h7]
      exact Q2d h7
     have c1:=core st.X (fun p hp=>⟨_,hlk2 p hp,.refl _⟩) (fun p hp=>by
      rcases hc.new p hp with h | ⟨h,h'⟩
      ·exact .inl h
      ·refine .inr ⟨h,?_⟩
       show(Q0 st.objs).lookup _=none
       rw[Qt,h']; rfl) frees hc.l1 hc.l5
     have hnd:=hc.nd3
     rw[hnos,List.map_append,List.nodup_append] at hnd
     have hnn:((Q0 ((q :: no).map fun p=>(f p.1,p.2.mp f fl))).map (·.1)).Nodup:=by
      rw[Ql]
      simpa[Function.comp_def] using hnd.2.1
     intro nm hsm B g w a hr hrd next Q hn
     refine c1 nm hsm B g w a hr hrd next Q fun g' w' v hr' ht hv=>hn g' w' v ?_ ht hv
     have same:∀j,(Qf f fl (Q0 s1o) st.X.objs).lookup j=(Q0 (((q :: no).map fun p=>(f p.1,p.2.mp f fl))++st.objs)).lookup j:=by
      intro j
      rw[show Q0 (((q :: no).map fun p=>(f p.1,p.2.mp f fl))++st.objs)=Q0 ((q :: no).map fun p=>(f p.1,p.2.mp f fl))++Q0 st.objs from List.map_append,List.lookup_append]
      by_cases hj:∃p ∈ s1o,f p.1=j
      ·obtain⟨p,hp,rfl⟩:=hj
       rw[Q1u hc.nd3 hp]
       rw[hnos,List.mem_append] at hp
       rcases hp with hp | hp
       ·have hno:(Q0 ((q :: no).map fun p=>(f p.1,p.2.mp f fl))).lookup (f p.1)=none:=by
         rw[Qt]
         cases hl:lk (f p.1) ((q :: no).map fun p=>(f p.1,p.2.mp f fl)) with
         | none=>rfl
         | some y =>
          exfalso
          rw[lk_eq] at hl
          have h9:=Qn hl
          obtain⟨p2,hp2,e⟩:=List.mem_map.1 h9
          exact hnd.2.2 _ (List.mem_map_of_mem (f:=fun p:Nat×XOb=>f p.1) hp) _ (List.mem_map_of_mem (f:=fun p:Nat×XOb=>f p.1) hp2) (congrArg Prod.fst e).symm
        rw[hno]
        simp only[Option.none_or]
        exact(hlk2 p hp).symm
       ·have h9:(f p.1,(p.2.mp f fl).o) ∈ Q0 ((q :: no).map fun p=>(f p.1,p.2.mp f fl)) :=
         List.mem_map_of_mem (f:=fun p:Nat×XOb=>(p.1,p.2.o)) (List.mem_map_of_mem (f:=fun p:Nat×XOb=>(f p.1,p.2.mp f fl)) hp)
        rw[Qj hnn h9]
        rfl
      ·rw[Q19 fun p hp e=>hj ⟨p,hp,e⟩]
       have hno:(Q0 ((q :: no).map fun p=>(f p.1,p.2.mp f fl))).lookup j=none:=by
        rw[Qt]
        cases hl:lk j ((q :: no).map fun p=>(f p.1,p.2.mp f fl)) with
        | none=>rfl
        | some y =>
         exfalso
         rw[lk_eq] at hl
         have h9:=Qn hl
         obtain⟨p2,hp2,e⟩:=List.mem_map.1 h9
         exact hj ⟨p2,by rw[hnos]; exact List.mem_append_right _ hp2,congrArg Prod.fst e⟩
       rw[hno]
       rfl
     refine Qbs hr' (fun k o' ho=>⟨o',?_,.refl _⟩) (fun k hk=>?_) rfl
     ·rw[same k]; exact ho
     ·exact(congrArg Option.isSome (same k)).symm.trans hk
    ·rw[Qvf] at hx
     split at hx
     ·rename_i y hl
      exfalso
      rw[lk_eq] at hl
      have h9:=Qn hl
      obtain⟨p2,hp2,e⟩:=List.mem_map.1 h9
      exact hj (List.mem_map.2 ⟨p2,hp2,congrArg Prod.fst e⟩)
     ·exact hx
   rw[List.append_nil] at e1
   clear hnos
   subst e1
   have hks' : ∀p ∈ s1o,f p.1 ∈ ks:=by
    intro p hp
    obtain⟨k,hk,e⟩:=Q7u hinO p hp
    rw[e,r1 k hk]; exact hk
   have hlk0:∀p ∈ s1o,(Q0 st.objs).lookup (f p.1)=some (p.2.mp f fl).o:=by
    intro p hp
    obtain⟨o',h7,h8⟩:=hseen p hp
    rw[h8,Q7x hlook _ (hks' p hp) o' h7]
    exact Q2d h7
   have fin:∀X:Store,(∀p ∈ s1o,X.objs.lookup (f p.1)=some (p.2.mp f fl).o)→∀L F,
     OpT P o (imRd (rd vs')) X ⟨Qf f fl (Q0 s1o) X.objs,L⟩ F ((tupX rs).mp f fl).a→OpT P o (imRd (rd vs')) X ⟨X.objs,L⟩ F ((tupX rs).mp f fl).a:=by
    intro X hlk L F c1 nm hsm B g w a hr hrd next Q hn
    refine c1 nm hsm B g w a hr hrd next Q fun g' w' v hr' ht hv=>hn g' w' v ?_ ht hv
    have same:∀j,(Qf f fl (Q0 s1o) X.objs).lookup j=X.objs.lookup j:=by
     intro j
     by_cases hj:∃p ∈ s1o,f p.1=j
     ·obtain⟨p,hp,rfl⟩:=hj
      rw[Q1u hc.nd3 hp,hlk p hp]
     ·exact Q19 fun p hp e=>hj ⟨p,hp,e⟩
    refine Qbs hr' (fun k o' ho=>⟨o',?_,.refl _⟩) (fun k hk=>?_) rfl
    ·rw[same k]; exact ho
    ·rw[← same k]; exact hk
   cases hnl:Q3h s1l with
   | true =>
    rw[hnl] at h
    simp only[cond_true,Option.some.injEq] at h
    subst h
    have e3:=Q8j hnl
    rw[e3] at e2
    have e4:(numL 500 ls).map (·.1) = []:=(List.append_eq_nil_iff.1 e2.symm).1
    rw[e3] at hF
    rw[e3,e4] at core
    have hF0:F = []:=by
     rw[← hF]
     have:newN ((numL 0 ks).map (·.1)) (Qa0 o*1000000) s1o = []:=by
      refine Qqd fun p hp=>?_
      rcases hc.new p hp with _ | ⟨h8,h9⟩
      ·obtain⟨k,hk,e⟩:=Q7u hinO p hp
       rw[e]
       exact Qqc hk
      ·exfalso
       obtain⟨o',h10,_⟩:=hseen p hp
       rw[h10] at h9; cases h9
     rw[this]; rfl
    subst hF0
    refine⟨hsee,⟨rfl,rfl,rfl,fun X hX=>?_⟩,fun _ _ _ h=>h⟩
    have hlk:∀p ∈ s1o,X.objs.lookup (f p.1)=some (p.2.mp f fl).o:=by
     intro p hp
     rw[hX _ (List.mem_map.2 ⟨p.1,List.mem_map_of_mem (f:=fun p:Nat×XOb=>p.1) hp,rfl⟩)]
     exact hlk0 p hp
    have c1:=core X (fun p hp=>⟨_,hlk p hp,.refl _⟩) (fun p hp=>.inl (List.mem_map_of_mem (f:=fun p:Nat×XOb=>p.1) hp)) (fun _ _ _ _=>.inl rfl) (by simp) (by simp)
    have hlv:Qy fl X ⟨Q0 s1o,[]⟩ ⟨Q0 s1o,[]⟩=X.live:=by
     unfold Qy; simp
    rw[hlv] at c1
    exact fin X hlk _ _ c1
   | false =>
    rw[hnl] at h
    simp only[cond_false,Option.some.injEq] at h
    subst h
    refine⟨hsee,⟨rfl,?_⟩,fun _ _ _ h=>h⟩
    have c1:=core st.X (fun p hp=>⟨_,hlk0 p hp,.refl _⟩) (fun p hp=>.inl (List.mem_map_of_mem (f:=fun p:Nat×XOb=>p.1) hp)) frees hc.l1 hc.l5
    exact fin st.X hlk0 _ _ c1
 | false =>
  simp only[cond_false,Option.some.injEq] at h
  subst h
  refine⟨hsee,?_,fun j x hj hx=>?_⟩
  ·have c1 := core st.X (fun p hp => by
     obtain⟨o',h7,h8⟩:=hseen p hp
     rw[h8]
     exact⟨o'.o,Q2d h7,XOb.cool_le _ _⟩) (fun p hp=>by
     rcases hc.new p hp with h | ⟨h,h'⟩
     ·exact .inl h
     ·refine .inr ⟨h,?_⟩
      show(Q0 st.objs).lookup _=none
      rw[Qt,h']; rfl) frees hc.l1 hc.l5
   have e1:Q0 (putXs f fl s1o st.objs)=Qf f fl (Q0 s1o) st.X.objs:=Qd3 _ _ _ _
   show OpT P o (imRd (rd vs')) st.X ⟨Q0 (putXs f fl s1o st.objs),_⟩ _ _
   rw[e1]
   exact c1
  ·rw[Qaw] at hx
   ·exact hx
   ·intro p hp e
    exact hj (List.mem_map.2 ⟨p,hp,e⟩)
noncomputable def Qvl:XV→Bool
 | .d (.sl _ _)=>false
 | .d (.agg _)=>false
 | .d (.ag _ _)=>false
 | .d (.ep _)=>false
 | .d _=>true
 | .nm _ _=>true
 | .tip _ _ _ _=>true
 | .tup l=>go l
 | _=>false
where go:List XV→Bool
 | []=>true
 | .d (.sl _ _) :: _=>false
 | .d (.agg _) :: _=>false
 | .d (.ag _ _) :: _=>false
 | .d (.ep _) :: _=>false
 | .d _ :: r=>go r
 | .nm _ _ :: r=>go r
 | .tip _ _ _ _ :: r=>go r
 | _ :: _=>false
noncomputable def Q10d (out:Out):Bool :=
 match out.eff with
 | .look _=>Qvl out.res
 | .lab=>Qvl out.res
 | _=>false
def Q105 (out:Out):Bool :=
 match out.eff with
 | .look _=>true
 | .lab=>true
 | _=>false
noncomputable def Qj4 (hot:Nat) (run:RunT) (o:Oper) (st:XSt) (vs us:List XV) (rd:List XV→List (Operand×XV)):Option Out :=
 bsel (Q3h (lsL st.live vs [])) (inlGo run st.live o st vs us rd)
  (bsel (Nat.beq hot 1) (inlGo run st.live o st vs us rd)
  (match inlGo run [] o st vs us rd with
  | some out=>bsel (bsel (Nat.ble 2 hot) (Q105 out) (Q10d out)) (some out) (inlGo run st.live o st vs us rd)
  | none=>inlGo run st.live o st vs us rd))
theorem Qmh {hot:Nat} {run:RunT} {o:Oper} {st:XSt} {vs us:List XV} {rd:List XV→List (Operand×XV)} {out:Out} (h:Qj4 hot run o st vs us rd=some out):∃lv,inlGo run lv o st vs us rd=some out:=by
 have sel:∀ {c:Bool} {x y:Option Out},bsel c x y=some out→x=some out∨y=some out:=by
  intro c x y h
  cases c with
  | true=>exact .inl h
  | false=>exact .inr h
 unfold Qj4 at h
 rcases sel h with h | h
 ·exact⟨_,h⟩
 rcases sel h with h | h
 ·exact⟨_,h⟩
 split at h
 ·rename_i out' ho
  rcases sel h with h | h
  ·exact⟨_,ho.trans h⟩
  ·exact⟨_,h⟩
 ·exact⟨_,h⟩
theorem Qif {P:Program} {X:Store} {o:Oper} {fn:FuncId} {c:Operand} {args:Array Operand} {ts:Array TypeId} {gids:List Nat} {xs caps ys:List AV} {res:AV} {Xc Xc' : Store} (f fl:Nat→Nat) (F:List Nat)
  (ho:o.op = .call { callee:=.value c,args:=args,argTypes:=ts }) (hf:CallI P fn) (hs:DoesH P fn (xs++caps) (gids.zip ys) Xc res Xc') (hc:LabCall X Xc Xc' f fl F)
  (hl:xs.length=args.size) (hd:Q2h (Xc.objs.map (·.1)) Xc.live (xs++caps)=true) (hy:Qc ys=true) (hdr:Q1c (Xc'.objs.map (·.1)) Xc'.live res=true) :
  OpT P o ((c,.clo fn (mapLs f fl caps)) :: (args.toList.zip (mapLs f fl xs)++(gids.map Operand.global).zip ys)) X ⟨Qf f fl Xc'.objs X.objs,Qy fl X Xc Xc'⟩ F (mapL f fl res):=by
 intro nm hsm B g w a hr hrd next Q hn
 have e1:=rd0 hrd
 simp only at e1
 unfold Oper.wp
 generalize hcv:a.eval c=vc at e1
 cases e1 with
 | clo _ _ vs hlen hvs =>
  have:(execOp a.eval o).run P w = .ok (.enter fn (args.map a.eval++vs)) w:=by
   simp only[execOp,ho,resolve]
   simp[hcv,Deferred.ofValue,invoke,Q1y hf]
  rw[this]
  have hm:∀l m:List AV,mapLs f fl (l++m)=mapLs f fl l++mapLs f fl m:=fun l m=>by rw[Q1e,Q1e,Q1e,List.map_append]
  have hml:(mapLs f fl xs).length=args.size:=by rw[Q1e,List.length_map,hl]
  have hmc:caps.length=vs.size:=by rw[Q1e,List.length_map] at hlen; exact hlen
  have hG:GH g w (gids.zip ys):=by
   intro p hp
   have h1:(Operand.global p.1,p.2) ∈ (gids.map Operand.global).zip ys:=by
    rw[List.zip_map_left,List.mem_map]
    exact⟨p,hp,rfl⟩
   exact hrd _ (List.mem_cons_of_mem _ (List.mem_append_right _ h1))
  refine(hs.useLab (Q81 _ hy) hc hd hdr hr hG (vs:=args.map a.eval++vs) (by simp[hl,hmc]) ?_).mono ?_
  ·intro i x v hx hv
   rw[hm,List.getElem?_append] at hx
   split at hx
   ·rename_i hlt
    rw[Array.getElem?_append_left (by simp; omega)] at hv
    exact Q69 (fun p hp=>hrd p (List.mem_cons_of_mem _ (List.mem_append_left _ hp))) i x v hx hv
   ·rename_i hge
    rw[Array.getElem?_append_right (by simp; omega)] at hv
    refine hvs _ x v hx ?_
    rw[hml]; simpa using hv
  ·rintro e w' ⟨v,g',rfl,h1,h2,h3⟩
   exact hn g' w' v h1 h2 h3
noncomputable def Qoq (hot:Nat) (run:RunT) (gids:List Nat) {R:Type} (o:Oper) (st:XSt) (vs:List XV) (K:Out→Option R):Option R :=
 match Qh st (gops gids) with
 | some us=>match Qj4 hot run o st vs us (fun ms=>(Qx o).zip ms++(gops gids).zip us) with
  | some out=>K out
  | none=>none
 | none=>none
noncomputable def Qkr (id:FuncId) (hot:Nat) (run:RunT) (gids:List Nat) {R:Type} (o:Oper) (st:XSt) (caps vs:List XV) (K:Out→Option R):Option R :=
 match Qh st (gops gids) with
 | some us=>match Qj4 hot run o st (vs++caps) us (fun ms=>(Q7e o,.clo id (ms.drop vs.length)) :: ((Qx o).zip (ms.take vs.length)++(gops gids).zip us)) with
  | some out=>K out
  | none=>none
 | none=>none
theorem Qwk {P:Program} {id:FuncId} {hot:Nat} {run:RunT} {gids:List Nat} {R:Type} (hf:CallI P id) (hok:RunOk P id gids run) {o:Oper} {st:XSt} {aops:Array Operand} {ts:Array TypeId} {vs:List XV} {K:Out→Option R} {r:R}
  (ho:o.op = .call { callee:=.value (.func id),args:=aops,argTypes:=ts }) (hv:Qh st aops.toList=some vs) (h:Qoq hot run gids o st vs K=some r):∃out,K out=some r∧OpOk P o st out:=by
 have e:Qx o=aops.toList:=by simp[Qx,ho]
 unfold Qoq at h
 split at h
 rotate_left
 ·cases h
 rename_i us hus
 split at h
 rotate_left
 ·cases h
 rename_i out hout
 obtain⟨lv,hout⟩:=Qmh hout
 refine⟨out,h,Qo7 (lv:=lv) hok ?_ ?_ hout⟩
 ·intro p hp
  rw[e,Qw,List.mem_append] at hp
  rcases hp with hp | hp
  ·exact Qc4 hv p hp
  ·exact Q40 hus p hp
 ·intro f fl F xs rs inO s1o labs s1l Y hxs hdat hd hx hr hlab
  have hlen:xs.length=aops.size:=by
   have h1:=congrArg List.length hxs
   have h2:=Q1k hv
   rw[Q76,List.length_map] at h1
   have h3:∀l:List XV,(coolL lv l).length=l.length:=by
    intro l
    induction l with
    | nil=>rfl
    | cons x r ih=>simp[coolL,ih]
   rw[h3] at h1
   rw[h1,h2]; simp
  have:=Qda (X:=Y) (gids:=gids) (ys:=asOf us) f fl F ho hf hd hlab (by rw[Q8,hlen]) (by
    simp only[Ql]
    exact Q6p hx) (Q6r hdat) (by
    simp only[Ql]
    exact XV.nms_a hr)
  rw[e,Qw,Q20,Q20,Q7b,← hxs,mpL_a]
  rw[← XV.mp_a] at this
  exact this
theorem Qua {P:Program} {id:FuncId} {hot:Nat} {run:RunT} {gids:List Nat} {R:Type} (hf:CallI P id) (hok:RunOk P id gids run) {o:Oper} {st:XSt} {t:Tmp} {aops:Array Operand} {ts:Array TypeId} {caps vs:List XV} {K:Out→Option R} {r:R}
  (ho:o.op = .call { callee:=.value (.tmp t),args:=aops,argTypes:=ts }) (hclo:xeval st (.tmp t)=some (.clo id caps)) (hv:Qh st aops.toList=some vs) (h:Qkr id hot run gids o st caps vs K=some r):∃out,K out=some r∧OpOk P o st out:=by
 have e:Qx o=aops.toList:=by simp[Qx,ho]
 have e2:Q7e o = .tmp t:=by simp[Q7e,ho]
 unfold Qkr at h
 split at h
 rotate_left
 ·cases h
 rename_i us hus
 split at h
 rotate_left
 ·cases h
 rename_i out hout
 obtain⟨lv,hout⟩:=Qmh hout
 have h3:∀l:List XV,(coolL lv l).length=l.length:=by
  intro l
  induction l with
  | nil=>rfl
  | cons x r ih=>simp[coolL,ih]
 have h4:∀a b:List XV,coolL lv (a++b)=coolL lv a++coolL lv b:=by
  intro a b
  induction a with
  | nil=>rfl
  | cons x r ih=>simp[coolL,ih]
 have ht:(coolL lv (vs++caps)).take vs.length=coolL lv vs:=by
  rw[h4,List.take_left' (h3 vs)]
 have hd' : (coolL lv (vs++caps)).drop vs.length=coolL lv caps:=by
  rw[h4,List.drop_left' (h3 vs)]
 refine⟨out,h,Qo7 (lv:=lv) hok ?_ ?_ hout⟩
 ·intro p hp
  rw[e,e2,ht,hd'] at hp
  simp only[imRd,List.map_cons,List.map_append,List.mem_cons,List.mem_append] at hp
  rcases hp with rfl | hp | hp
  ·exact Qmt (x:=.tmp t) hclo
  ·exact Qc4 hv p hp
  ·exact Q40 hus p hp
 ·intro f fl F xs rs inO s1o labs s1l Y hxs hdat hd hx hr hlab
  have hxl:xs.length=vs.length+caps.length:=by
   have h1:=congrArg List.length hxs
   rw[Q76,List.length_map,h3,List.length_append] at h1
   exact h1
  obtain⟨xa,xc,rfl,hla⟩:∃xa xc,xs=xa++xc∧xa.length=vs.length:=⟨xs.take vs.length,xs.drop vs.length,(List.take_append_drop _ _).symm,by rw[List.length_take]; omega⟩
  rw[Q6w,h4] at hxs
  have hla' : (mpL f fl xa).length=(coolL lv vs).length:=by rw[Q76,List.length_map,h3,hla]
  obtain⟨ea,ec⟩:=List.append_inj hxs hla'
  rw[Q1b] at hd
  have:=Qif (X:=Y) (gids:=gids) (ys:=asOf us) f fl F ho hf hd hlab (by
    have h2:=Q1k hv
    rw[Q8,hla,h2]; simp) (by
    simp only[Ql]
    have:=Q6p hx
    rw[Q1b] at this
    exact this) (Q6r hdat) (by
    simp only[Ql]
    exact XV.nms_a hr)
  rw[ht,hd',e,e2]
  rw[← mpL_a,← mpL_a,ea,ec,← XV.mp_a,← Q20,← Q7b,← Q20,← Qw] at this
  exact this
noncomputable def mkRun {P:Program} (id:FuncId) (hf:CallI P id) (hot:Nat) (gids:List Nat) (run:RunT) (hok:RunOk P id gids run):Ent P where
 id:=id
 run:=Qoq hot run gids
 ok:=by
  intro R o st aops ts vs K r ho hv h
  exact Qwk hf hok ho hv h
 crun:=Qkr id hot run gids
 cok:=by
  intro R o st t caps aops ts vs K r ho hclo hv h
  exact Qua hf hok ho hclo hv h
theorem Qsu {P:Program} (hm:P.follows .mixedOrders=true) (Γ:List (Ent P)) (gids:List Nat) (N:Nat) (fi:FI P):RunOk P fi.id gids (runI P Γ fi N gids) :=
 fun _ _ _ _ _ _ _ _ _ hsm h=>Qjs hm hsm h
noncomputable def mkInl {P:Program} (hm:P.follows .mixedOrders=true) (Γ:List (Ent P)) (gids:List Nat) (N:Nat) (fi:FI P):Ent P :=
 mkRun fi.id fi.hc fi.hot gids (runI P Γ fi N gids) (Qsu hm Γ gids N fi)
noncomputable def Q10a {P:Program} (a b:Ent P) (h:b.id=a.id):Ent P where
 id:=a.id
 run:=fun o st vs K=>orE (a.run o st vs K) (b.run o st vs K)
 ok:=by
  intro R o st aops ts vs K r ho hv hr
  rcases Q6m hr with hr | hr
  ·exact a.ok o st aops ts vs K r ho hv hr
  ·exact b.ok o st aops ts vs K r (by rw[h]; exact ho) hv hr
noncomputable def inlE {P:Program} (hm:P.follows .mixedOrders=true) (base:List (Ent P)) (gids:List Nat) (N:Nat) (tb:Nat→FI P) (cs:Nat→List Nat):Nat→Nat→List (Ent P)
 | 0,_=>base
 | n+1,f=>(cs f).map (fun k=>mkInl hm (inlE hm base gids N tb cs n k) gids N (tb k))++base
end Go.Xl
namespace Go.Xl
open Go.Ab
noncomputable def Q5l:List Int→List Int→Bool
 | [],[]=>true
 | a :: r,b :: s=>cond (decide (a=b)) (Q5l r s) false
 | _,_=>false
theorem Qdt:∀ {l m:List Int},Q5l l m=true→l=m
 | [],[],_=>rfl
 | [],_ :: _,h=>by simp[Q5l] at h
 | _ :: _,[],h=>by simp[Q5l] at h
 | a :: r,b :: s,h=>by
  simp only[Q5l] at h
  obtain⟨h1,h2⟩:=cb2 h
  rw[of_decide_eq_true h1,Qdt h2]
end Go.Xl
namespace Go.Ab
theorem Qtv {P:Program} {o:Oper} {a:Act} {w:World} {next:Act→World→Prop} {Q:Exit→Act→World→Prop} {l n:Nat} (hd:∀c,o.op≠.defer c) (h:o.wp P a w next Q):o.wpIn (Fence.wide.inRound l) n P a w next Q:=by
 refine⟨fun _ _=>trivial,?_⟩
 rw[Oper.semAt_eq _ _ _ hd]
 unfold Oper.wp at h
 generalize (execOp a.eval o).run P w=r at h
 have dn:(Fence.wide.inRound l).depth.isSome=true→1≤n:=fun h=>by simp[Fence.inRound,Fence.wide] at h
 cases r with
 | halt hh w'=>cases hh <;> first | exact h | exact h.elim
 | ok nx w' =>
  cases nx with
  | value v=>exact h
  | skip=>exact h
  | defer d=>exact h
  | enter f args=>exact⟨dn,(callsIn_wide.2 h:CallsIn Fence.wide _ _ _ _ _ _).inRound l⟩
  | row row args=>exact⟨dn,fun c cs _=>let ⟨v,w',r,s⟩:=h c cs; ⟨v,w',r,(stepsIn_wide.2 s:StepsIn (Machine.fenced P Fence.wide) P _ _)⟩⟩
  | _=>exact h.elim
theorem Q4k {P:Program} {ops:Array Oper} {Q:Exit→Act→World→Prop} {l n:Nat} (hQ : ¬LetsOut Q) (hd:∀(i:Nat) o,ops[i]? = some o→∀c,o.op≠.defer c):∀(L:List Nat) (a:Act) (w:World),wpOps P ops Q L a w→wpOpsIn (Fence.wide.inRound l) n P ops Q L a w
 | [],a,w,h=>h
 | i :: rest,a,w,h=>by
  unfold wpOps at h
  unfold wpOpsIn
  cases ho:ops[i]? with
  | none =>
   simp only[ho] at h ⊢
   exact Q4k hQ hd rest a w h
  | some o =>
   simp only[ho] at h ⊢
   split at h
   ·rename_i hw
    rw[if_pos hw]
    rcases h with h | h
    ·refine Qtv (hd i o ho) ?_
     have e:∀r,Oper.upon P o a (wpOps P ops Q rest) Q r→Oper.upon P o a (wpOpsIn (Fence.wide.inRound l) n P ops Q rest) Q r:=by
      intro r hr
      have hrec:=fun a w=>Q4k (P:=P) (l:=l) (n:=n) hQ hd rest a w
      cases r with
      | halt hh w'=>cases hh <;> first | exact hr | exact hr.elim
      | ok nx w' =>
       cases nx with
       | value v=>exact hrec _ _ hr
       | skip=>exact hrec _ _ hr
       | defer d=>exact hrec _ _ hr
       | enter f args =>
        refine Calls.mono hr ?_
        intro e w'' h'
        cases e with
        | returned v=>exact hrec _ _ h'
        | panicked c=>exact h'
        | outgrown=>exact h'
       | row row args=>exact Rows.mono hr fun v w'' h'=>hrec _ _ h'
       | _=>exact hr.elim
     exact e _ h
    ·exact(hQ h.2).elim
   ·rename_i hw
    rw[if_neg hw]
    exact⟨fun _ _=>trivial,Q4k hQ hd rest _ w h⟩
theorem HR.junk {nm:List Nat} {B:Base} {g:Gh} {w w' : World} {X:Store} (h:HR nm B g w X) (hlive:X.live = []) {ex:Nat} (hex:∀k o,X.objs.lookup k=some o→g.ρ k≠ex) (hc:∀i,w.cell? ⟨ex,i,none⟩=none) (hsh:w.shape? ex=none) (hge:B.n0≤ex)
  (hs:w.heap.size≤w'.heap.size) (hold:∀b,b < w.heap.size→b≠ex→w'.heap[b]? = w.heap[b]?) (hio:w'.os=w.os∧w'.output=w.output∧w'.tape=w.tape∧w.drawn≤w'.drawn):HR nm B g w' X:=by
 have hγ:∀i,¬i < g.γ ex:=by
  intro i hi
  have:=h.sane ex i hi
  rw[hc i] at this; cases this
 have hcell:∀b i,i < g.γ b→w'.cell? ⟨b,i,none⟩=w.cell? ⟨b,i,none⟩:=by
  intro b i hi
  have hne:b≠ex:=fun e=>hγ i (e▸hi)
  exact cell?_of_heap (hold b (γ_lt h (by omega)) hne) i none
 have hshape:∀b s,w.shape? b=some s→w'.shape? b=some s:=by
  intro b s hs'
  have hne:b≠ex:=by rintro rfl; rw[hsh] at hs'; cases hs'
  have hb:b < w.heap.size:=by
   rcases Nat.lt_or_ge b w.heap.size with h1 | h1
   ·exact h1
   ·simp[World.shape?,Array.getElem?_eq_none h1] at hs'
  rw[shape?_of_heap (hold b hb hne)]; exact hs'
 have hβ:∀n,g.β n=none:=by
  intro n
  have:=h.live n
  rw[hlive] at this
  cases hb:g.β n with
  | none=>rfl
  | some x=>rw[hb] at this; simp at this
 have ht:Trans [] g w g w':=⟨⟨fun _=>Nat.le_refl _,hcell,hshape⟩,fun _ _=>rfl,fun n ob _ he=>(by rw[hβ n] at he; cases he),fun L _ hL=>(by rw[hβ L] at hL; cases hL)⟩
 refine⟨h.keep,?_,Nat.le_trans h.base hs,⟨hio.1.trans h.io.1,hio.2.1.trans h.io.2.1,hio.2.2.1.trans h.io.2.2.1,Nat.le_trans h.io.2.2.2 hio.2.2.2⟩,h.le.trans ht.le,?_,?_,h.objγ,h.objinj,h.objnew,h.live,h.tipinj,h.tipobj,h.tipnew,?_,.off hβ⟩
 ·intro b i hi; rw[hcell b i hi]; exact h.sane b i hi
 ·intro b hb hna
  have:=h.frame b hb hna
  have hne:b≠ex:=by omega
  exact⟨(hold b (Nat.lt_of_lt_of_le hb h.base) hne).trans this.1,this.2⟩
 ·intro k o hk
  have:=h.objs k o hk
  exact this.keep ht (hold _ (Q1o this) (hex k o hk)) (.inl rfl)
 ·intro n b hn; rw[hβ n] at hn; cases hn
theorem HR.beta {nm:List Nat} {B:Base} {g:Gh} {w:World} {X:Store} (h:HR nm B g w X) (hl:X.live = []) (n:Nat):g.β n=none:=by
 have:=h.live n
 rw[hl] at this
 cases hb:g.β n with
 | none=>rfl
 | some x=>rw[hb] at this; simp at this
theorem HR.rebase {nm:List Nat} {B:Base} {g:Gh} {w:World} {X:Store} (h:HR nm B g w X) (hl:X.live = []):HR nm (Base.of g w X) g w X :=
 ⟨fun k hk=>⟨rfl,(h.keep k hk).2⟩,h.sane,Nat.le_refl _,⟨rfl,rfl,rfl,Nat.le_refl _⟩,.refl _ _,fun _ _ _=>⟨rfl,rfl⟩,h.objs,h.objγ,h.objinj,fun k o hk=>.inr (.inl ⟨k,o,hk,rfl⟩),h.live,h.tipinj,h.tipobj,
  fun n b hn=>.inr (.inr ⟨n,hn⟩),h.tiplt,.off (h.beta hl)⟩
theorem HR.comp {nm:List Nat} {B:Base} {g g' : Gh} {w w' : World} {X X' : Store} (h:HR nm B g w X) (h' : HR nm (Base.of g w X) g' w' X') (hl:X.live = []) (hl' : X'.live = []):HR nm B g' w' X':=by
 have hβ:∀n,g.β n=none:=by
  intro n
  have:=h.live n
  rw[hl] at this
  cases hb:g.β n with
  | none=>rfl
  | some x=>rw[hb] at this; simp at this
 have hβ' : ∀n,g'.β n=none:=by
  intro n
  have:=h'.live n
  rw[hl'] at this
  cases hb:g'.β n with
  | none=>rfl
  | some x=>rw[hb] at this; simp at this
 have hal:∀b,(Base.of g w X).allowed b→B.n0≤b∨B.allowed b:=by
  rintro b (⟨k,o,hk,rfl⟩ | ⟨n,hn⟩)
  ·exact h.objnew k o hk
  ·rw[hβ n] at hn; cases hn
 refine⟨fun k hk=>⟨(h'.keep k hk).1.trans (h.keep k hk).1,(h'.keep k hk).2⟩,h'.sane,Nat.le_trans h.base h'.base,⟨h'.io.1.trans h.io.1,h'.io.2.1.trans h.io.2.1,h'.io.2.2.1.trans h.io.2.2.1,Nat.le_trans h.io.2.2.2 h'.io.2.2.2⟩,h.le.trans h'.le,?_,h'.objs,h'.objγ,h'.objinj,?_,h'.live,h'.tipinj,h'.tipobj,?_,h'.tiplt,.off hβ'⟩
 ·intro b hb hna
  have h1:=h.frame b hb hna
  have h2:=h'.frame b (Nat.lt_of_lt_of_le hb h.base) (fun ha=>(hal b ha).elim (fun h3=>by omega) hna)
  exact⟨h2.1.trans h1.1,h2.2.trans h1.2⟩
 ·intro k o hk
  rcases h'.objnew k o hk with h1 | h1
  ·exact .inl (Nat.le_trans h.base h1)
  ·exact hal _ h1
 ·intro n b hn; rw[hβ' n] at hn; cases hn
end Go.Ab
namespace Go.Ab
section
variable {P:Program} {F:Fence} {n:Nat} {ops:Array Oper} {Q:Exit→Act→World→Prop} {a:Act} {w:World} {rest:List Oper} {o:Oper}
theorem Qk (hF:∀f,F.fn f) {v:Value} {w' : World} (hg:o.guard=none) (hd:∀c,o.op≠.defer c) (hr:(execOp a.eval o).run P w = .ok (.value v) w') (h:wpListIn F n P ops Q rest (a.put o.dst v) w'):wpListIn F n P ops Q (o :: rest) a w :=
 wpListIn_plain hg fun K hK=>⟨fun f _=>hF f,by rw[Oper.semAt_eq _ _ _ hd,hr]; exact hK _ _ h⟩
theorem list_round (hF:∀f,F.fn f) (hdep:F.depth=none) (hro:F.round=none) {l:Nat} {fn:FuncId} {tmps:Array Value} {assign body:Code} {R:Ending→World→Prop} (hg:o.guard=none) (hr:(execOp a.eval o).run P w = .ok (.round l fn tmps assign body) w)
  (hR:RoundIn F (n - 1) P l fn tmps assign body w R) (hk:∀r w',R r w'→∃v,r = .returned v∧wpListIn F n P ops Q rest (a.put o.dst v) w'):wpListIn F n P ops Q (o :: rest) a w :=
 wpListIn_plain hg fun K hK=>⟨fun f _=>hF f,by
  rw[hro,Oper.semAt_none,hr,Oper.uponIn_round]
  refine⟨fun h=>(by rw[hdep] at h; cases h),hR.mono ?_⟩
  intro r w' h
  obtain⟨v,rfl,h2⟩:=hk r w' h
  exact hK _ _ h2⟩
theorem Qew (hF:∀f,F.fn f) (hdep:F.depth=none) (hro:F.round=none) {f:FuncId} {args:Array Value} {R:Ending→World→Prop} (hg:o.guard=none) (hr:(execOp a.eval o).run P w = .ok (.enter f args) w)
  (hR:CallsIn F (n - 1) P f args w R) (hk:∀r w',R r w'→∃v,r = .returned v∧wpListIn F n P ops Q rest (a.put o.dst v) w'):wpListIn F n P ops Q (o :: rest) a w :=
 wpListIn_plain hg fun K hK=>⟨fun f _=>hF f,by
  rw[hro,Oper.semAt_none,hr,Oper.uponIn_enter]
  refine⟨fun h=>(by rw[hdep] at h; cases h),hR.mono ?_⟩
  intro r w' h
  obtain⟨v,rfl,h2⟩:=hk r w' h
  exact hK _ _ h2⟩
theorem Qa2 {f:FuncId} {args:Array Operand} {ts:Array TypeId} (ho:o.op = .call { callee:=.value (.func f),args:=args,argTypes:=ts }) (hc:CallI P f):(execOp a.eval o).run P w = .ok (.enter f (args.map a.eval)) w:=by
 simp only[execOp,ho,resolve]
 simp[Act.eval,Deferred.ofValue,invoke,Q1y hc]
theorem Qs {d:Nat} {v:Value} (h:d < a.tmps.size):(a.put (some d) v).eval (.tmp d)=v:=by
 show(a.tmps.setIfInBounds d v).getD d undef=v
 simp[Array.getD,h]
theorem Qe {d t:Nat} {v:Value} (h:t≠d):(a.put (some d) v).eval (.tmp t)=a.eval (.tmp t):=by
 show(a.tmps.setIfInBounds d v).getD t undef=a.tmps.getD t undef
 simp only[Array.getD_eq_getD_getElem?,Array.getElem?_setIfInBounds,if_neg (Ne.symm h)]
theorem Q7 {d:Nat} {v:Value}:(a.put (some d) v).tmps.size=a.tmps.size:=by simp[Act.put]
end
structure Walks (w:World) (m it:Nat) (es:Array MapEntry) (clock:Nat) (seen:List Nat):Prop where
 map:w.heap[m]? = some (.map es clock)
 iter:w.heap[it]? = some (.mapIter (some m) clock seen.toArray clock)
theorem Q2l {P:Program} {w:World} {r:Nat} {o:Obj} (h:w.heap[r]? = some o) (hc:∀a t f,o≠.cells a t f):(getObj r).run P w = .ok o w:=by
 unfold getObj
 simp only[Sem.run,h]
theorem Ql5 {P:Program} {w:World} {r:Nat} {o:Obj} (o' : Obj) (h:w.heap[r]? = some o) (hc:∀a t f,o≠.cells a t f):(Go.setObj r o').run P w = .ok () { w with heap:=w.heap.setIfInBounds r o' }:=by
 unfold Go.setObj
 simp only[Sem.run,h]
def leftE (es:Array MapEntry) (seen:List Nat):Array MapEntry:=es.filter fun e=>!(seen.toArray.contains e.born)
theorem Qk2 {es:Array MapEntry} {clock:Nat} {seen:List Nat} (hold:∀e ∈ es,e.born < clock) :
  (leftE es seen).filter (fun e=>decide (e.born < clock))=leftE es seen∧(leftE es seen).filter (fun e=>decide (e.born ≥ clock)) = #[] ∧
  (!seen.toArray.isEmpty && !es.isEmpty && es.all fun e=>decide (e.born ≥ clock))=false:=by
 refine⟨?_,?_,?_⟩
 ·rw[Array.filter_eq_self]
  intro e he
  exact decide_eq_true (hold e (Array.mem_filter.1 he).1)
 ·rw[Array.filter_eq_empty_iff]
  intro e he
  have:=hold e (Array.mem_filter.1 he).1
  simp; omega
 ·cases hae:es.isEmpty with
  | true=>simp
  | false =>
   have hpos:0 < es.size:=by
    cases hs:es.size with
    | zero =>
     have:es = #[]:=Array.eq_empty_of_size_eq_zero hs
     subst this; simp at hae
    | succ n=>omega
   have:(es.all fun e=>decide (e.born ≥ clock))=false:=by
    rw[Bool.eq_false_iff]
    intro h
    have h2:=Array.all_eq_true.1 h 0 hpos
    have h3:=hold es[0] (Array.getElem_mem hpos)
    simp at h2; omega
   rw[this]; simp
theorem Qnb {P:Program} {w:World} {m it:Nat} {es:Array MapEntry} {clock:Nat} {seen:List Nat} {ty:TypeId} (h:Walks w m it es clock seen) (hold:∀e ∈ es,e.born < clock) (hl:leftE es seen = #[]) :
  (Instr.next (.pointer (some ⟨it,0,none⟩)) false ty).run P w = .ok (.tuple #[.bool false]) w:=by
 obtain⟨p1,p2,p3⟩:=Qk2 (seen:=seen) hold
 have hg:=Q2l (P:=P) h.iter (by simp)
 have hgm:=Q2l (P:=P) h.map (by simp)
 have hch:=run_choose_drew P w (.mapNext 1)
 rw[if_pos (by rfl)] at hch
 unfold leftE at hl p1 p2
 rw[hl] at p1 p2
 simp only[Instr.next,Sem.run_bind,hg,hgm,Result.andThen_ok,p3,hl,Bool.false_eq_true,if_false,Sem.run_pure]
 simp[hch,Question.forced]
theorem Qnh {P:Program} {w:World} {m it:Nat} {es:Array MapEntry} {clock:Nat} {seen:List Nat} {ty:TypeId} (h:Walks w m it es clock seen) (hold:∀e ∈ es,e.born < clock) (hl:leftE es seen≠#[]) :
  ∃e ∈ leftE es seen,∃w1:World,(w1=w∨w1=w.drew)∧(Instr.next (.pointer (some ⟨it,0,none⟩)) false ty).run P w = .ok (.tuple #[.bool true,e.key,e.val]) { w1 with heap:=w1.heap.setIfInBounds it (.mapIter (some m) clock (seen++[e.born]).toArray clock) }:=by
 obtain⟨p1,p2,p3⟩:=Qk2 (seen:=seen) hold
 have hg:=Q2l (P:=P) h.iter (by simp)
 have hgm:=Q2l (P:=P) h.map (by simp)
 have hpos:0 < (leftE es seen).size:=by
  rcases Nat.eq_zero_or_pos (leftE es seen).size with h0 | h0
  ·exact(hl (Array.eq_empty_of_size_eq_zero h0)).elim
  ·exact h0
 have hne:(leftE es seen).isEmpty=false:=by
  cases he:(leftE es seen).isEmpty with
  | false=>rfl
  | true=>exact(hl (by simpa using he)).elim
 obtain⟨L,hL⟩:∃L,L=leftE es seen:=⟨_,rfl⟩
 have hL' : (es.filter fun e=>!(seen.toArray.contains e.born))=L:=hL.symm
 rw[← hL] at p1 p2 hpos hne ⊢
 have hbase:∀(w1:World) (j:Nat) (hj:j < L.size),w1.heap=w.heap→(choose (.mapNext L.size)).run P w = .ok j w1 →
   (Instr.next (.pointer (some ⟨it,0,none⟩)) false ty).run P w = .ok (.tuple #[.bool true,L[j].key,L[j].val]) { w1 with heap:=w1.heap.setIfInBounds it (.mapIter (some m) clock (seen++[L[j].born]).toArray clock) }:=by
  intro w1 j hj hh hch
  have hset:=Ql5 (P:=P) (w:=w1) (o:=.mapIter (some m) clock seen.toArray clock) (.mapIter (some m) clock (seen.toArray.push L[j].born) clock) (by rw[hh]; exact h.iter) (by simp)
  have hsz:((#[] : Array (Option MapEntry))++(L++#[]).map some).size=L.size:=by simp
  have hs:((#[] : Array (Option MapEntry))++(L++#[]).map some)[j]? = some (some L[j]):=by simp[hj]
  simp only[Instr.next,Sem.run_bind,hg,hgm,Result.andThen_ok,p3,hL',p1,p2,hne,Bool.false_eq_true,if_false,Sem.run_pure]
  rw[hsz,hch]
  simp only[Result.andThen_ok,hs,Sem.run_bind,hset,Sem.run_pure]
  simp
 have hch:=run_choose_drew P w (.mapNext L.size)
 by_cases hf:(Question.mapNext L.size).forced=true
 ·rw[if_pos hf] at hch
  exact⟨L[0],Array.getElem_mem hpos,w,.inl rfl,hbase w 0 hpos rfl hch⟩
 ·rw[if_neg hf] at hch
  have hj:(Question.mapNext L.size).cut (w.tape w.drawn (.mapNext L.size)) < L.size:=Nat.mod_lt _ hpos
  exact⟨_,Array.getElem_mem hj,w.drew,.inr rfl,hbase w.drew _ hj rfl hch⟩
theorem Qvd {P:Program} {w:World} {m it:Nat} {es:Array MapEntry} {clock:Nat} {seen:List Nat} {e:MapEntry} (h:Walks w m it es clock (seen++[e.born])) (he:e ∈ es) (hnd:(es.toList.map (·.born)).Nodup) :
  (Instr.entry (.pointer (some ⟨it,0,none⟩))).run P w = .ok (.tuple #[e.key,e.val]) w:=by
 have hg:=Q2l (P:=P) h.iter (by simp)
 have hgm:=Q2l (P:=P) h.map (by simp)
 have hf:es.find? (fun x=>x.born == e.born)=some e:=by
  rw[← Array.find?_toList]
  have:∀l:List MapEntry,(l.map (·.born)).Nodup→e ∈ l→l.find? (fun x=>x.born == e.born)=some e:=by
   intro l
   induction l with
   | nil=>intro _ h; simp at h
   | cons x r ih =>
    intro hn hm
    simp only[List.map_cons,List.nodup_cons] at hn
    rw[List.find?_cons]
    rcases List.mem_cons.1 hm with rfl | hm
    ·simp
    ·have hne:(x.born == e.born)=false:=by
      simp only[beq_eq_false_iff_ne]
      intro hx
      exact hn.1 (hx▸List.mem_map_of_mem (f:=(·.born)) hm)
     rw[hne]; exact ih hn.2 hm
  exact this _ hnd (by simpa using he)
 simp only[Instr.entry,Sem.run_bind,hg,Result.andThen_ok]
 simp[hf,hgm,Result.andThen]
end Go.Ab
namespace Go.Ab
theorem EtaOk.base {B B' : Base} {g:Gh} {w:World} {X:Store} (h:EtaOk B g w X) (hn:B'.n0=B.n0) (ha:∀b,B.allowed b→B'.allowed b):EtaOk B' g w X :=
 ⟨h.inj,h.tip,h.obj,fun L i b hL hb=>(h.new L i b hL hb).elim (fun h1=>.inl (hn▸h1)) fun h1=>.inr (ha b h1),h.lt⟩
theorem HR.keepN {nm nm' : List Nat} {B:Base} {g:Gh} {w:World} {X:Store} (h:HR nm B g w X) (kp:Nat→Nat) (hk:∀k ∈ nm',g.ρ k=kp k∧(X.objs.lookup k).isSome):HR nm' { B with keep:=kp } g w X :=
 ⟨fun k hm=>hk k hm,h.sane,h.base,h.io,h.le,h.frame,h.objs,h.objγ,h.objinj,h.objnew,h.live,h.tipinj,h.tipobj,h.tipnew,h.tiplt,h.eta.base rfl fun _ h=>h⟩
end Go.Ab
namespace Go.Proofs.Xg
open Go Go.Ab Go.Proofs
structure Keeps1 (ex:Nat) (w w' : World):Prop where
 size:w.heap.size≤w'.heap.size
 io:w'.os=w.os∧w'.output=w.output∧w'.tape=w.tape∧w.drawn≤w'.drawn
 block:∀b,b < w.heap.size→b≠ex→w'.heap[b]? = w.heap[b]?
 none:w.heap[ex]? = none∨∃m s c d,w.heap[ex]? = some (.mapIter m s c d)
theorem frameT {P:Program} {w:World} {t:TypeId} {b:Nat} {v:Value} (hT:TyI P t false 1) (h:w.cell? ⟨b,0,none⟩=some v):(loadVar t ⟨b,0,none⟩).run P w = .ok v w:=by
 have:=Q34 hT w b 0 #[v] rfl (by
  intro i x hx
  cases i with
  | zero=>simp at hx; subst hx; simpa using h
  | succ i=>simp at hx) (fun _=>rfl)
 simpa using this
theorem Qwc {es:Array MapEntry} {seen:List Nat} {e:MapEntry} (h:e ∈ leftE es seen):e ∈ es∧e.born ∉ seen:=by
 obtain⟨h1,h2⟩:=Array.mem_filter.1 h
 exact⟨h1,by simpa using h2⟩
theorem Qml {l:List MapEntry} (h:(l.map MapEntry.born).Nodup) {x y:MapEntry} (hx:x ∈ l) (hy:y ∈ l) (e:x.born=y.born):x=y:=Q2z h hx hy e
theorem Qm6 {α:Type} [BEq α] [LawfulBEq α] : ∀(l m:List α),l.Nodup→(∀x ∈ l,x ∈ m)→l.length≤m.length
 | [],m,_,_=>Nat.zero_le _
 | a :: l,m,hn,hs=>by
  have hn':=List.nodup_cons.1 hn
  have ha:=hs a List.mem_cons_self
  have:=Qm6 l (m.erase a) hn'.2 (fun x hx=>by
   have hne:x≠a:=fun e=>hn'.1 (e▸hx)
   exact(List.mem_erase_of_ne hne).2 (hs x (List.mem_cons_of_mem _ hx)))
  have hl:=List.length_erase_of_mem ha
  have hpos:0 < m.length:=List.length_pos_of_mem ha
  simp only[List.length_cons]
  omega
theorem Q9x {α β:Type} {f:α→β}:∀ {l:List α},(l.map f).Nodup→l.Nodup
 | [],_=>.nil
 | a :: l,h=>by
  simp only[List.map_cons,List.nodup_cons] at h
  exact List.nodup_cons.2 ⟨fun hm=>h.1 (List.mem_map_of_mem hm),Q9x h.2⟩
theorem Qtr {L E:List MapEntry} (hL:(L.map MapEntry.born).Nodup) (hE:(E.map MapEntry.born).Nodup) (h1:∀e ∈ L,e ∈ E) (h2:∀e ∈ E,e ∈ L):L.Perm E :=
 (List.perm_ext_iff_of_nodup (Q9x hL) (Q9x hE)).2 fun e=>⟨h1 e,h2 e⟩
section
variable {l Bm m:Nat} {es:Array MapEntry} {clock:Nat} {W:World} {J:List Value→World→Prop}
noncomputable def Yields (l:Nat) (es:Array MapEntry) (J:List Value→World→Prop):Prop :=
 ∀(pre:List Value) (e:MapEntry) (V:World),J pre V→e ∈ es→pre.length < es.size→YieldAt Fence.wide 0 Tryz.prog l #[e.key] V fun r V'=>r = .returned (.bool true)∧J (pre++[e.key]) V'∧∀(b:Nat) (m' : Option Nat) (s:Nat) (c:Array Nat) (d:Nat),V.heap[b]? = some (Obj.mapIter m' s c d)→V'.heap[b]? = V.heap[b]?
abbrev KPost (es:Array MapEntry) (J:List Value→World→Prop):Exit→Act→World→Prop:=bodyPost Tryz.prog Tryz.f252 fun r W'=>(∃v,r = .returned v)∧∃L:List MapEntry,L.Perm es.toList∧J (L.map MapEntry.key) W'
set_option maxHeartbeats 4000000 in
theorem Quu (hT:TyI Tryz.prog 296 false 1) (hu:∃k e,Tryz.prog.underlying 296=some (.map k e)) (hbox:W.cell? ⟨Bm,0,none⟩=some (.map (some m)))
  (hold:∀e ∈ es,e.born < clock) (hnd:(es.toList.map MapEntry.born).Nodup)
  (hJm:∀pre V,J pre V→V.heap[m]? = some (.map es clock))
  (hJ:∀pre V V' ex,J pre V→W.heap.size≤ex→Keeps1 ex V V'→J pre V')
  (hY:Yields l es J) (h0:J [] W) (c:Code) (hc:Tryz.f252.body=some c) (A:Act) (a1:A.tmps.size=14) (a2:A.defers = []) (a3:A.eval (.tmp 0) = .func (.yield l) #[] #[]) (a4:A.eval (.tmp 1) = .pointer (some ⟨Bm,0,none⟩)) :
  c.wpIn Fence.wide 0 Tryz.prog (KPost es J) A W:=by
 have hF:∀f,Fence.wide.fn f:=fun _=>trivial
 have hm:=hJm [] W h0
 obtain⟨kt,et,hu⟩:=hu
 have hb1:(W.alloc (.mapIter (some m) clock #[] clock)).heap[m]? = some (.map es clock):=by
  have hlt:m < W.heap.size:=(Array.getElem?_eq_some_iff.1 hm).1
  rw[Q1z W _ hlt]; exact hm
 unfold Tryz.f252 at hc
 simp only[Option.some.injEq] at hc
 subst hc
 refine wpIn_seq (wpIn_region_list ?_)
 refine Qk hF (v:=.map (some m)) (w':=W) rfl (by simp) ?_ ?_
 ·have:=frameT hT hbox
  simp only[execOp,a4]
  simp[Instr.loadAt,Instr.sureAddr,asAddr,this,Result.andThen]
 refine Qk hF (v:=.pointer (some ⟨W.heap.size,0,none⟩)) (w':=W.alloc (.mapIter (some m) clock #[] clock)) rfl (by simp) ?_ ?_
 ·have e2:=Q2l (P:=Tryz.prog) hm (by simp)
  simp only[execOp]
  rw[Qs (by omega)]
  simp[Instr.range,Sem.run_bind,run_underlying hu,e2,Result.andThen]
 have hA0:(Act.put (Act.put A (some 4) (.map (some m))) (some 5) (.pointer (some ⟨W.heap.size,0,none⟩))).tmps.size=14∧(Act.put (Act.put A (some 4) (.map (some m))) (some 5) (.pointer (some ⟨W.heap.size,0,none⟩))).defers = [] ∧
   (Act.put (Act.put A (some 4) (.map (some m))) (some 5) (.pointer (some ⟨W.heap.size,0,none⟩))).eval (.tmp 0) = .func (.yield l) #[] #[]∧(Act.put (Act.put A (some 4) (.map (some m))) (some 5) (.pointer (some ⟨W.heap.size,0,none⟩))).eval (.tmp 5) = .pointer (some ⟨W.heap.size,0,none⟩) :=
  ⟨by rw[Q7,Q7,a1],a2,by rw[Qe (by decide),Qe (by decide),a3],Qs (by rw[Q7]; omega)⟩
 generalize Act.put (Act.put A (some 4) (.map (some m))) (some 5) (.pointer (some ⟨W.heap.size,0,none⟩))=A0 at hA0 ⊢
 refine wpListIn_nil ?_
 show Code.wpIn _ _ _ _ _ A0 _
 have hk1:Keeps1 W.heap.size W (W.alloc (.mapIter (some m) clock #[] clock)) :=
  ⟨by simp,⟨rfl,rfl,rfl,Nat.le_refl _⟩,fun b hb _=>Q1z W _ hb,.inl (by simp)⟩
 have hit1:(W.alloc (.mapIter (some m) clock #[] clock)).heap[W.heap.size]? = some (.mapIter (some m) clock #[] clock):=World.alloc_heap_new W _
 have hJ1:=hJ [] W _ _ h0 (Nat.le_refl _) hk1
 generalize W.alloc (.mapIter (some m) clock #[] clock)=W1 at hb1 hit1 hJ1 ⊢
 clear hk1
 refine wpIn_block (wpIn_loop (fun a V=>a.tmps.size=14∧a.defers = []∧a.eval (.tmp 0) = .func (.yield l) #[] #[]∧a.eval (.tmp 5) = .pointer (some ⟨W.heap.size,0,none⟩) ∧
   ∃L:List MapEntry,(∀e ∈ L,e ∈ es)∧(L.map MapEntry.born).Nodup∧V.heap[W.heap.size]? = some (.mapIter (some m) clock (L.map MapEntry.born).toArray clock)∧J (L.map MapEntry.key) V)
  (fun a V=>match V.heap[W.heap.size]? with | some (.mapIter _ _ s _)=>es.size - s.size | _=>0) ⟨hA0.1,hA0.2.1,hA0.2.2.1,hA0.2.2.2,[],by simp,by simp,by simpa using hit1,hJ1⟩ ?_)
 clear hJ1 hit1 hA0 hb1 a1 a2 a3 a4
 rintro a V ⟨ha1,ha2,ha3,ha4,L,hL1,hL2,hL3,hL4⟩
 have hw:Walks V m W.heap.size es clock (L.map MapEntry.born):=⟨hJm _ _ hL4,hL3⟩
 refine wpIn_seq (wpIn_region_list ?_)
 by_cases hl:leftE es (L.map MapEntry.born) = #[]
 ·-- nothing is left
  refine Qk hF (v:=.tuple #[.bool false]) (w':=V) rfl (by simp) ?_ ?_
  ·have:=Qnb (P:=Tryz.prog) (ty:=0) hw hold hl
   simp only[execOp,ha4]
   simp[this,Result.andThen]
  refine Qk hF (v:=.bool false) (w':=V) rfl (by simp) ?_ ?_
  ·simp only[execOp]
   rw[Qs (by omega)]
   rfl
  refine wpListIn_nil ?_
  refine wpIn_seq (wpIn_cond_false (Qs (by rw[Q7]; omega)) (wpIn_exit ?_))
  refine⟨ha2,.tuple #[],by simp[results,Tryz.f252],⟨_,rfl⟩,L,Qtr hL2 hnd (fun e he=>by simpa using hL1 e he) fun e he=>?_,hL4⟩
  by_cases hin:e.born ∈ L.map MapEntry.born
  ·obtain⟨e',he',hb⟩:=List.mem_map.1 hin
   rw[← Qml hnd (by simpa using hL1 e' he') he hb]
   exact he'
  ·have:e ∈ leftE es (L.map MapEntry.born):=Array.mem_filter.2 ⟨by simpa using he,by simpa using hin⟩
   rw[hl] at this
   simp at this
 ·obtain⟨e,he,w1,hw1,hr⟩:=Qnh (P:=Tryz.prog) (ty:=0) hw hold hl
  obtain⟨he1,he2⟩:=Qwc he
  have hit:W.heap.size < V.heap.size:=(Array.getElem?_eq_some_iff.1 hL3).1
  have hh1:w1.heap=V.heap:=by rcases hw1 with rfl | rfl <;> rfl
  have hio1:w1.os=V.os∧w1.output=V.output∧w1.tape=V.tape∧V.drawn≤w1.drawn:=by
   rcases hw1 with rfl | rfl
   ·exact⟨rfl,rfl,rfl,Nat.le_refl _⟩
   ·exact⟨rfl,rfl,rfl,Nat.le_succ _⟩
  have hk:Keeps1 W.heap.size V { w1 with heap:=w1.heap.setIfInBounds W.heap.size (.mapIter (some m) clock (L.map MapEntry.born++[e.born]).toArray clock) }:=by
   refine⟨by simp[hh1],hio1,fun b hb hne=>?_,.inr ⟨_,_,_,_,hL3⟩⟩
   simp[Array.getElem?_setIfInBounds,Ne.symm hne,hh1]
  have hn3:({ w1 with heap:=w1.heap.setIfInBounds W.heap.size (.mapIter (some m) clock (L.map MapEntry.born++[e.born]).toArray clock) }:World).heap[W.heap.size]? = some (.mapIter (some m) clock ((L++[e]).map MapEntry.born).toArray clock):=by
   simp[Array.getElem?_setIfInBounds,hh1,hit]
  have hJ2:=hJ _ _ _ _ hL4 (Nat.le_refl _) hk
  refine Qk hF rfl (by simp) (v:=.tuple #[.bool true,e.key,e.val]) (w':={ w1 with heap:=w1.heap.setIfInBounds W.heap.size (.mapIter (some m) clock (L.map MapEntry.born++[e.born]).toArray clock) }) ?_ ?_
  ·simp only[execOp,ha4]
   simp only[Sem.run_bind,hr,Result.andThen_ok]
   rfl
  generalize ({ w1 with heap:=w1.heap.setIfInBounds W.heap.size (.mapIter (some m) clock (L.map MapEntry.born++[e.born]).toArray clock) }:World)=V2 at hk hn3 hJ2 ⊢
  refine Qk hF (v:=.bool true) (w':=V2) rfl (by simp) ?_ ?_
  ·simp only[execOp]
   rw[Qs (by omega)]
   rfl
  refine wpListIn_nil ?_
  refine wpIn_seq (wpIn_cond_true (Qs (by rw[Q7]; omega)) (wpIn_skip ?_))
  refine wpIn_block (wpIn_seq (wpIn_region_list ?_))
  have hnL:((L++[e]).map MapEntry.born).Nodup:=by
   rw[List.map_append,List.nodup_append]
   refine⟨hL2,by simp,?_⟩
   intro x hx y hy
   simp at hy
   subst hy
   rintro rfl
   exact he2 hx
  have hL1' : ∀x ∈ L++[e],x ∈ es:=by
   intro x hx
   rcases List.mem_append.1 hx with h | h
   ·exact hL1 x h
   ·simp at h; subst h; exact he1
  have hlen:(L++[e]).length≤es.size:=by
   have:=Qm6 _ (es.toList.map MapEntry.born) hnL (by
    intro x hx
    obtain⟨y,hy,rfl⟩:=List.mem_map.1 hx
    exact List.mem_map_of_mem (f:=MapEntry.born) (by simpa using hL1' y hy))
   simpa using this
  have b1:∀x y,(Act.put (Act.put a (some 6) x) (some 7) y).tmps.size=14:=fun x y=>by rw[Q7,Q7,ha1]
  have b2:∀x y,(Act.put (Act.put a (some 6) x) (some 7) y).eval (.tmp 0) = .func (.yield l) #[] #[]:=fun x y=>by rw[Qe (by decide),Qe (by decide),ha3]
  have b3:∀x y,(Act.put (Act.put a (some 6) x) (some 7) y).eval (.tmp 5) = .pointer (some ⟨W.heap.size,0,none⟩):=fun x y=>by rw[Qe (by decide),Qe (by decide),ha4]
  generalize hA2:Act.put (Act.put a (some 6) (.tuple #[.bool true,e.key,e.val])) (some 7) (.bool true)=A2
  have c1:A2.tmps.size=14:=by rw[← hA2]; exact b1 _ _
  have c2:A2.eval (.tmp 0) = .func (.yield l) #[] #[]:=by rw[← hA2]; exact b2 _ _
  have c3:A2.eval (.tmp 5) = .pointer (some ⟨W.heap.size,0,none⟩):=by rw[← hA2]; exact b3 _ _
  have c4:A2.defers = []:=by rw[← hA2]; exact ha2
  clear hA2 b1 b2 b3
  have hw2:Walks V2 m W.heap.size es clock (L.map MapEntry.born++[e.born]):=⟨hJm _ _ hJ2,by simpa using hn3⟩
  refine Qk hF (v:=.tuple #[e.key,e.val]) (w':=V2) rfl (by simp) ?_ ?_
  ·have:=Qvd (P:=Tryz.prog) hw2 he1 hnd
   simp only[execOp,c3]
   simp[this,Result.andThen]
  refine Qk hF (v:=e.key) (w':=V2) rfl (by simp) ?_ ?_
  ·simp only[execOp]
   rw[Qs (by omega)]
   rfl
  refine Qk hF (v:=e.key) (w':=V2) rfl (by simp) ?_ ?_
  ·simp only[execOp]
   rw[Qs (by rw[Q7]; omega)]
   rfl
  refine wpListIn_nil ?_
  refine wpIn_seq (wpIn_region_list ?_)
  refine Qk hF (v:=.func (.yield l) #[] #[]) (w':=V2) rfl (by simp) ?_ ?_
  ·simp only[execOp]
   rw[Qe (by decide),Qe (by decide),Qe (by decide),c2]
   rfl
  refine Qk hF (v:=e.key) (w':=V2) rfl (by simp) ?_ ?_
  ·simp only[execOp]
   rw[Qe (by decide),Qs (by rw[Q7,Q7]; omega)]
   rfl
  have hlt:(L.map MapEntry.key).length < es.size:=by
   rw[List.length_append] at hlen
   rw[List.length_map]
   exact hlen
  obtain⟨fn,tmps,assign,body,hy,hR⟩:=hY (L.map MapEntry.key) e V2 hJ2 he1 hlt
  have d10:∀x y z u v,(Act.put (Act.put (Act.put (Act.put (Act.put A2 (some 8) x) (some 9) y) (some 3) z) (some 10) u) (some 11) v).eval (.tmp 10)=u:=fun x y z u v=>by
   rw[Qe (by decide),Qs (by rw[Q7,Q7,Q7]; omega)]
  have d11:∀x y z u v,(Act.put (Act.put (Act.put (Act.put (Act.put A2 (some 8) x) (some 9) y) (some 3) z) (some 10) u) (some 11) v).eval (.tmp 11)=v:=fun x y z u v=>by
   rw[Qs (by rw[Q7,Q7,Q7,Q7]; omega)]
  have c5:∀x y z u v,(Act.put (Act.put (Act.put (Act.put (Act.put A2 (some 8) x) (some 9) y) (some 3) z) (some 10) u) (some 11) v).tmps.size=14:=fun x y z u v=>by
   rw[Q7,Q7,Q7,Q7,Q7,c1]
  have c6:∀x y z u v,(Act.put (Act.put (Act.put (Act.put (Act.put A2 (some 8) x) (some 9) y) (some 3) z) (some 10) u) (some 11) v).eval (.tmp 0) = .func (.yield l) #[] #[]:=fun x y z u v=>by
   rw[Qe (by decide),Qe (by decide),Qe (by decide),Qe (by decide),Qe (by decide),c2]
  have c7:∀x y z u v,(Act.put (Act.put (Act.put (Act.put (Act.put A2 (some 8) x) (some 9) y) (some 3) z) (some 10) u) (some 11) v).eval (.tmp 5) = .pointer (some ⟨W.heap.size,0,none⟩):=fun x y z u v=>by
   rw[Qe (by decide),Qe (by decide),Qe (by decide),Qe (by decide),Qe (by decide),c3]
  have c8:(Act.put (Act.put (Act.put (Act.put (Act.put A2 (some 8) (.tuple #[e.key,e.val])) (some 9) e.key) (some 3) e.key) (some 10) (.func (.yield l) #[] #[])) (some 11) e.key).defers = []:=c4
  generalize hA3:Act.put (Act.put (Act.put (Act.put (Act.put A2 (some 8) (.tuple #[e.key,e.val])) (some 9) e.key) (some 3) e.key) (some 10) (.func (.yield l) #[] #[])) (some 11) e.key=A3 at c8 ⊢
  have k10:A3.eval (.tmp 10) = .func (.yield l) #[] #[]:=by rw[← hA3]; exact d10 _ _ _ _ _
  have k11:A3.eval (.tmp 11)=e.key:=by rw[← hA3]; exact d11 _ _ _ _ _
  have k0:A3.eval (.tmp 0) = .func (.yield l) #[] #[]:=by rw[← hA3]; exact c6 _ _ _ _ _
  have k5:A3.eval (.tmp 5) = .pointer (some ⟨W.heap.size,0,none⟩):=by rw[← hA3]; exact c7 _ _ _ _ _
  have ks:A3.tmps.size=14:=by rw[← hA3]; exact c5 _ _ _ _ _
  clear hA3 d10 d11 c5 c6 c7
  have hx:∀o:Oper,o.op = .call { callee:=.value (.tmp 10),args:=#[.tmp 11],argTypes:=#[5] }→(execOp A3.eval o).run Tryz.prog V2 = .ok (.round l fn tmps assign body) V2:=by
   intro o ho
   simp only[execOp,ho,resolve,k10]
   simp[Act.eval,Deferred.ofValue,invoke] at k11 ⊢
   simp[k11,hy]
  refine list_round hF rfl rfl rfl (hx _ rfl) hR ?_
  rintro r V3 ⟨rfl,hJ3,hk3⟩
  refine⟨_,rfl,?_⟩
  refine Qk hF (v:=.bool false) (w':=V3) rfl (by simp) ?_ ?_
  ·simp only[execOp]
   rw[Qs (by omega)]
   rfl
  refine wpListIn_nil ?_
  refine wpIn_cond_false (Qs (by rw[Q7]; omega)) (wpIn_skip ?_)
  have hV3:=hk3 _ _ _ _ _ hn3
  rw[hn3] at hV3
  refine⟨⟨by rw[Q7,Q7,ks],c8,by rw[Qe (by decide),Qe (by decide),k0],by rw[Qe (by decide),Qe (by decide),k5],L++[e],hL1',hnL,hV3,by simpa using hJ3⟩,?_⟩
  show(match V3.heap[W.heap.size]? with | some (.mapIter _ _ s _)=>es.size - s.size | _=>0) < (match V.heap[W.heap.size]? with | some (.mapIter _ _ s _)=>es.size - s.size | _=>0)
  rw[hV3,hL3]
  simp at hlen ⊢
  omega
theorem Qqq (hT:TyI Tryz.prog 296 false 1) (hu:∃k e,Tryz.prog.underlying 296=some (.map k e)) (hbox:W.cell? ⟨Bm,0,none⟩=some (.map (some m)))
  (hold:∀e ∈ es,e.born < clock) (hnd:(es.toList.map MapEntry.born).Nodup)
  (hJm:∀pre V,J pre V→V.heap[m]? = some (.map es clock))
  (hJ:∀pre V V' ex,J pre V→W.heap.size≤ex→Keeps1 ex V V'→J pre V')
  (hY:Yields l es J) (h0:J [] W) :
  CallsIn Fence.wide 0 Tryz.prog 252 #[.func (.yield l) #[] #[],.pointer (some ⟨Bm,0,none⟩)] W fun r W'=>(∃v,r = .returned v)∧∃L:List MapEntry,L.Perm es.toList∧J (L.map MapEntry.key) W' :=
 callsIn_of_wp Tryz.func252 rfl trivial (Quu hT hu hbox hold hnd hJm hJ hY h0 _ rfl _ (by simp[Tryz.f252]) rfl (by simp[Act.eval,Tryz.f252,Array.getD]) (by simp[Act.eval,Tryz.f252,Array.getD])) rfl
end
end Go.Proofs.Xg
namespace Go.Proofs.Xg
open Go Go.Ab Go.Xl Go.Proofs
noncomputable def apOps:Array Oper:=match Tryz.f291.body with
 | some (.seq _ (.seq (.seq _ (.block _ (.rangeFunc _ _ _ (.block _ (.region _ ops _))))) _))=>ops
 | _=>#[]
noncomputable def env2 (x:UInt8):List (Nat×XV):=[(2,.nm 1 (.p 0)),(5,.d (Ty.xv .u8 x))]
noncomputable def stN (x:UInt8):XSt:=⟨env2 x,[(1,.cells [.d (.v (.slice none 0 0))] none)],[],[],[]⟩
noncomputable def stL (x:UInt8) (l:List UInt8) (n:Nat):XSt:=⟨env2 x,[(1,.cells [.os 2000 .u8 0 n] none),(2000,.arr .u8 l)],[],[],[]⟩
noncomputable def outS (l:List UInt8) (n:Nat):Store:=⟨Q0 [(1011,.arr .u8 l),(1,.cells [.os 1011 .u8 0 n] none)],[]⟩
theorem apN (x:UInt8):xops Tryz.prog [] [11] 13 apOps false (env2 x) (fun s=>some s.X) apOps.toList [] (stN x)=cond (fitsB 1 1) (some (outS [x] 1)) none:=by kernel_rfl
theorem apL (x:UInt8) (l:List UInt8) (n:Nat):xops Tryz.prog [] [11] 13 apOps false (env2 x) (fun s=>some s.X) apOps.toList [] (stL x l n)=cond (Nat.beq l.length n) (cond (fitsB (n+1) 1) (some (outS (l++[x]) (n+1))) none) none:=by kernel_rfl
noncomputable def op0:Array Oper:=match Tryz.f291.body with | some (.seq (.region _ ops _) _)=>ops | _=>#[]
noncomputable def op1:Array Oper:=match Tryz.f291.body with | some (.seq _ (.seq (.seq (.region _ ops _) _) _))=>ops | _=>#[]
noncomputable def op2:Array Oper:=match Tryz.f291.body with | some (.seq _ (.seq (.seq _ (.block _ (.rangeFunc _ _ (.region _ ops _) _))) _))=>ops | _=>#[]
noncomputable def op4:Array Oper:=match Tryz.f291.body with | some (.seq _ (.seq _ (.seq (.region _ ops _) _)))=>ops | _=>#[]
theorem Qzy:Tryz.f291.body=some (.seq (.region 0 op0 false) (.seq (.seq (.region 1 op1 false) (.block 0 (.rangeFunc (.tmp 6) #[7] (.region 2 op2 false) (.block 1 (.region 3 apOps false))))) (.seq (.region 4 op4 false) .ret))):=rfl
noncomputable def Xacc:List UInt8→Store
 | []=>⟨Q0 [(1,.cells [.d (.v (.slice none 0 0))] none)],[]⟩
 | a :: l=>⟨Q0 [(1,.cells [.os 2000 .u8 0 (a :: l).length] none),(2000,.arr .u8 (a :: l))],[]⟩
theorem Qs5 {l:List UInt8} (h:l≠[]):Xacc l=⟨Q0 [(1,.cells [.os 2000 .u8 0 l.length] none),(2000,.arr .u8 l)],[]⟩:=by
 cases l with
 | nil=>exact absurd rfl h
 | cons a l=>rfl
theorem Q6g (l:List UInt8):(Xacc l).live = []:=by cases l <;> rfl
theorem Qjj {l:List UInt8} {k:Nat} {o:Ob} (h:(Xacc l).objs.lookup k=some o):∃cs ty,o = .cells cs ty:=by
 have:=Qn h
 cases l with
 | nil =>
  simp only[Xacc,Q0,List.map_cons,List.map_nil,List.mem_cons,List.not_mem_nil,or_false,Prod.mk.injEq] at this
  exact⟨_,_,this.2⟩
 | cons a l =>
  simp only[Xacc,Q0,List.map_cons,List.map_nil,List.mem_cons,List.not_mem_nil,or_false,Prod.mk.injEq] at this
  rcases this with h | h
  ·exact⟨_,_,h.2⟩
  ·exact⟨_,_,h.2⟩
noncomputable def enc8 (x:UInt8):Value:=.int .u8 (x.toNat:Int)
structure AccAt (B:Base) (rc:Loop) (lp D:Nat) (l:List UInt8) (V:World):Prop where
 st:∃g,HR [1] B g V (Xacc l)
 loop:V.heap[lp]? = some (.loop rc)
 dfr:V.heap[D]? = some (.deferred (some []))
theorem Qt0 {B:Base} {g:Gh} {V:World} {l:List UInt8} (h:HR [1] B g V (Xacc l)) {b:Nat} {ob:Obj} (hb:V.heap[b]? = some ob) (hc:∀a t f,ob≠.cells a t f):∀k o,(Xacc l).objs.lookup k=some o→g.ρ k≠b:=by
 intro k o hk he
 obtain⟨cs,ty,rfl⟩:=Qjj hk
 cases h.objs k _ hk with
 | cells _ _ arr T h1 _ _ _ =>
  rw[he,hb] at h1
  simp only[Option.some.injEq] at h1
  exact hc _ _ _ h1
theorem Qrv {B:Base} {g:Gh} {V:World} {l:List UInt8} (h:HR [1] B g V (Xacc l)) {b:Nat} {ob:Obj} (hb:V.heap[b]? = some ob) (hc:∀a t f,ob≠.cells a t f) : ¬(Base.of g V (Xacc l)).allowed b:=by
 rintro (⟨k,o,hk,he⟩ | ⟨n,hn⟩)
 ·exact Qt0 h hb hc k o hk he
 ·rw[h.beta (Q6g l) n] at hn; cases hn
theorem Qg6 {B:Base} {g:Gh} {V:World} {l:List UInt8} (h:HR [1] B g V (Xacc l)) {lp:Nat} {ob:Obj} (hb:V.heap[lp]? = some ob) (hc:∀a t f,ob≠.cells a t f) (hcell:∀i,V.cell? ⟨lp,i,none⟩=none) (hsh:V.shape? lp=none) (hge:B.n0≤lp) (o' : Obj):HR [1] B g (V.putObj lp o') (Xacc l) :=
 h.junk (Q6g l) (Qt0 h hb hc) hcell hsh hge (by simp[World.putObj]) (fun b _ hne=>World.putObj_heap_other hne) ⟨rfl,rfl,rfl,Nat.le_refl _⟩
theorem Qfg {V:World} {lp:Nat} {rc:Loop} (hb:V.heap[lp]? = some (.loop rc)):(∀i,V.cell? ⟨lp,i,none⟩=none)∧V.shape? lp=none:=by
 refine⟨fun i=>?_,?_⟩
 ·simp[World.cell?,hb]
 ·simp[World.shape?,hb]
noncomputable def S13:Sig:=⟨13,[1],by simp⟩
theorem Qqx {B:Base} {g:Gh} {w:World} {l:List UInt8} (hl:l≠[]) (h:HR [1] B g w (outS l l.length)):∃g',HR [1] B g' w (Xacc l):=by
 obtain⟨h1,h2⟩:=h.renameObj (k:=1011) (m:=2000) (o:=(XOb.arr .u8 l).o) (by simp) (by simp) (Q49 rfl) rfl (by decide)
 refine⟨_,h1.reob (Y:=Xacc l) (Q6g l) ?_ ?_⟩
 ·rw[Qs5 hl]
  intro j o hj
  have:=Qn hj
  simp only[Q0,List.map_cons,List.map_nil,List.mem_cons,List.not_mem_nil,or_false,Prod.mk.injEq] at this
  rcases this with ⟨rfl,rfl⟩ | ⟨rfl,rfl⟩
  ·refine⟨(XOb.cells [.os 1011 .u8 0 l.length] none).o,rfl,fun hr=>?_⟩
   cases hr with
   | cells _ _ arr T h1 h2 h3 h4 =>
    refine .cells _ _ arr T h1 h2 (fun i x v hx hv=>?_) h4
    have hx' : i=0∧x = .nm 2000 (.s 0 l.length 1):=by
     cases i with
     | zero=>simp[asOf,XV.a] at hx; exact⟨rfl,hx.symm▸rfl⟩
     | succ i=>simp[asOf] at hx
    obtain⟨rfl,rfl⟩:=hx'
    have:=h3 0 (.nm 1011 (.s 0 l.length 1)) v rfl hv
    cases this with
    | nm _ _ _ hp =>
     refine .nm 2000 _ _ ?_
     simpa[upd] using hp
  ·exact⟨_,rfl,id⟩
 ·intro j hj
  simp at hj
  subst hj
  rw[Qs5 hl]; rfl
set_option maxHeartbeats 4000000 in
theorem Qyf {B:Base} {Bs lp D:Nat} (hB:B.keep 1=Bs) (hlp:B.n0≤lp) (hne:D≠lp) {fn:FuncId} {tmps:Array Value} (ht:tmps.size=13) (ht2:tmps[2]? = some (.pointer (some ⟨Bs,0,none⟩))) (x:UInt8) (l:List UInt8) (hfit:l.length+1≤1000000000000) (V:World)
  (h:AccAt B { state:=.ready,pending:=none,fn:=fn,tmps:=tmps,params:=#[7],assign:=.region 2 op2 false,body:=.block 1 (.region 3 apOps false),defers:=D } lp D l V) :
  YieldAt Fence.wide 0 Tryz.prog lp #[enc8 x] V fun r V'=>r = .returned (.bool true)∧AccAt B { state:=.ready,pending:=none,fn:=fn,tmps:=tmps,params:=#[7],assign:=.region 2 op2 false,body:=.block 1 (.region 3 apOps false),defers:=D } lp D (l++[x]) V' ∧
   ∀(b:Nat) (m' : Option Nat) (s:Nat) (c:Array Nat) (d:Nat),V.heap[b]? = some (Obj.mapIter m' s c d)→V'.heap[b]? = V.heap[b]?:=by
 have hF:∀f,(Fence.wide.inRound lp).fn f:=fun _=>trivial
 refine⟨fn,_,_,_,run_yield (P:=Tryz.prog) (args:=#[enc8 x]) h.loop rfl,roundIn_of_wpIn trivial ?_⟩
 obtain⟨g,hg⟩:=h.st
 have hkeep:g.ρ 1=Bs:=(hg.keep 1 (by simp)).1.trans hB
 obtain⟨q1,q2⟩:=Qfg h.loop
 have hlt:lp < V.heap.size:=(Array.getElem?_eq_some_iff.1 h.loop).1
 refine wpIn_region_list ?_
 have e2 : op2.toList = [{ dst := some 5, op := .assign (.tmp 7), type := 5, pos := "iter.go:51", after := #[], guard := none }] := rfl
 rw[e2]
 generalize hA:({ tmps:=(Array.zip #[7] #[enc8 x]).foldl (fun tmps (t,a)=>tmps.setIfInBounds t a) tmps,defers:=[] }:Act)=A
 have a1:A.tmps.size=13:=by rw[← hA]; simp[ht]
 have a2:A.defers = []:=by rw[← hA]
 have a3:A.eval (.tmp 7)=enc8 x:=by rw[← hA]; simp[Act.eval,Array.getD,ht]
 have a4:A.tmps[2]? = some (.pointer (some ⟨Bs,0,none⟩)):=by rw[← hA]; simp[Array.getElem?_setIfInBounds,ht2]
 refine Qk hF (v:=enc8 x) (w':=V) rfl (by simp) (by simp only[execOp,a3]; rfl) ?_
 refine wpListIn_nil ?_
 refine⟨_,run_beginRound h.loop rfl,?_⟩
 have hg2:=Qg6 hg h.loop (by simp) q1 q2 hlp (.loop { state:=.busy,pending:=none,fn:=fn,tmps:=tmps,params:=#[7],assign:=.region 2 op2 false,body:=.block 1 (.region 3 apOps false),defers:=D })
 have hl2:(V.putObj lp (.loop { state:=.busy,pending:=none,fn:=fn,tmps:=tmps,params:=#[7],assign:=.region 2 op2 false,body:=.block 1 (.region 3 apOps false),defers:=D })).heap[lp]? = some (.loop { state:=.busy,pending:=none,fn:=fn,tmps:=tmps,params:=#[7],assign:=.region 2 op2 false,body:=.block 1 (.region 3 apOps false),defers:=D }):=World.putObj_heap_same hlt
 have ho2:∀b,b≠lp→(V.putObj lp (.loop { state:=.busy,pending:=none,fn:=fn,tmps:=tmps,params:=#[7],assign:=.region 2 op2 false,body:=.block 1 (.region 3 apOps false),defers:=D })).heap[b]? = V.heap[b]?:=fun b hb=>World.putObj_heap_other hb
 show Code.wpIn _ _ _ _ _ _ (V.putObj lp (.loop { state:=.busy,pending:=none,fn:=fn,tmps:=tmps,params:=#[7],assign:=.region 2 op2 false,body:=.block 1 (.region 3 apOps false),defers:=D }))
 generalize V.putObj lp (.loop { state:=.busy,pending:=none,fn:=fn,tmps:=tmps,params:=#[7],assign:=.region 2 op2 false,body:=.block 1 (.region 3 apOps false),defers:=D })=V2 at hg2 hl2 ho2 ⊢
 have hreb:=hg2.rebase (Q6g l)
 refine wpIn_block (wpIn_region (Q4k ?_ ?_ _ _ _ ?_))
 ·rintro ⟨a,w,hq⟩; exact hq
 ·intro i o hi c hc
  have:o ∈ apOps.toList:=by
   have:=List.mem_of_getElem? (l:=apOps.toList) (i:=i) (a:=o) (by simpa using hi)
   exact this
  have hall:apOps.toList.all (fun o=>match o.op with | .defer _=>false | _=>true)=true:=by kernel_rfl
  have:=List.all_eq_true.1 hall o this
  rw[hc] at this; cases this
 ·rw[List.range_eq_range']
  have hsr:∀X,X=Xacc l→SR S13 (Base.of g V2 (Xacc l)) g V2 ⟨imEnv (env2 x),X⟩ (A.put (some 5) (enc8 x)):=by
   rintro X rfl
   refine⟨a2,by rw[Q7]; exact a1,hreb,?_⟩
   intro t y hy
   have:=Qn hy
   simp only[imEnv,env2,List.map_cons,List.map_nil,List.mem_cons,List.not_mem_nil,or_false,Prod.mk.injEq] at this
   rcases this with ⟨rfl,rfl⟩ | ⟨rfl,rfl⟩
   ·refine⟨.pointer (some ⟨Bs,0,none⟩),?_,?_⟩
    ·rw[Q3r (by decide)]
     show(A.tmps.setIfInBounds 5 (enc8 x))[2]? = _
     simp[Array.getElem?_setIfInBounds,a4]
    ·rw[← hkeep]; exact RA.ptr 1 0
   ·refine⟨enc8 x,?_,.d _ _ (.sc _)⟩
    rw[Q3r (by decide)]
    show(A.tmps.setIfInBounds 5 (enc8 x))[5]? = _
    simp[Array.getElem?_setIfInBounds,a1]
  have fin:∀(g' : Gh) (w' : World) (a' : Act) (s:St),s.X=outS (l++[x]) (l.length+1)→SR S13 (Base.of g V2 (Xacc l)) g' w' s a' →
    Exit.inBlock 1 (roundPost Tryz.prog lp fun r V'=>r = .returned (.bool true)∧AccAt B { state:=.ready,pending:=none,fn:=fn,tmps:=tmps,params:=#[7],assign:=.region 2 op2 false,body:=.block 1 (.region 3 apOps false),defers:=D } lp D (l++[x]) V' ∧
     ∀(b:Nat) (m' : Option Nat) (s:Nat) (c:Array Nat) (d:Nat),V.heap[b]? = some (Obj.mapIter m' s c d)→V'.heap[b]? = V.heap[b]?) .normal a' w':=by
   intro g' w' a' s hs hsr'
   have hr:=hsr'.hr
   rw[hs] at hr
   have fr:∀(b:Nat) (ob:Obj),V2.heap[b]? = some ob→(∀a t f,ob≠.cells a t f)→w'.heap[b]? = some ob:=by
    intro b ob hb hc
    rw[(hr.frame b (Array.getElem?_eq_some_iff.1 hb).1 (Qrv hg2 hb hc)).1]
    exact hb
   have hl3:=fr lp _ hl2 (by simp)
   have hcomp:=hg2.comp hr (Q6g l) rfl
   rw[show l.length+1=(l++[x]).length by simp] at hcomp
   obtain⟨g4,h4⟩:=Qqx (by simp) hcomp
   obtain⟨q3,q4⟩:=Qfg hl3
   have h5:=Qg6 h4 hl3 (by simp) q3 q4 hlp (.loop { state:=.ready,pending:=none,fn:=fn,tmps:=tmps,params:=#[7],assign:=.region 2 op2 false,body:=.block 1 (.region 3 apOps false),defers:=D })
   have hlt3:lp < w'.heap.size:=(Array.getElem?_eq_some_iff.1 hl3).1
   refine⟨_,_,run_endRound none hl3,rfl,⟨⟨g4,h5⟩,World.putObj_heap_same hlt3,?_⟩,?_⟩
   ·rw[World.putObj_heap_other hne]
    exact fr D _ ((ho2 D hne).trans h.dfr) (by simp)
   ·intro b m' s c d hb
    have hbl:b≠lp:=by rintro rfl; rw[h.loop] at hb; cases hb
    rw[World.putObj_heap_other hbl,hb]
    exact fr b _ ((ho2 b hbl).trans hb) (by simp)
  have fitb:fitsB (l.length+1) 1=true:=by simp[fitsB]; omega
  cases l with
  | nil =>
   have hrw:=Q99 (P:=Tryz.prog) (Γ:=[]) (own:=[11]) (S:=S13) (ops:=apOps) (env0:=env2 x) (K:=fun s=>some s.X) (r:=outS [x] 1) (s0:=stN x) apOps.toList 0 [] (stN x) (Q3s apOps) (.refl _) (by
    rw[show S13.N=13 from rfl,apN]
    rw[show fitsB 1 1=true from fitb]; rfl)
   refine hrw _ _ _ _ _ (hsr _ rfl) ?_
   rintro g' w' a' s ⟨st',rfl,_,hX⟩ hs
   exact fin g' w' a' _ (Option.some.inj hX) hs
  | cons y l =>
   have hrw:=Q99 (P:=Tryz.prog) (Γ:=[]) (own:=[11]) (S:=S13) (ops:=apOps) (env0:=env2 x) (K:=fun s=>some s.X) (r:=outS ((y :: l)++[x]) ((y :: l).length+1)) (s0:=stL x (y :: l) (y :: l).length) apOps.toList 0 [] (stL x (y :: l) (y :: l).length) (Q3s apOps) (.refl _) (by
    rw[show S13.N=13 from rfl,apL]
    rw[fitb,Nat.beq_refl]; rfl)
   refine hrw _ _ _ _ _ (hsr _ rfl) ?_
   rintro g' w' a' s ⟨st',rfl,_,hX⟩ hs
   exact fin g' w' a' _ (Option.some.inj hX) hs
end Go.Proofs.Xg
namespace Go.Proofs.Xg
open Go Go.Ab Go.Xl Go.Proofs
noncomputable def Xres:List UInt8→Store
 | []=>X0
 | a :: l=>⟨Q0 [(2000,.arr .u8 (a :: l))],[]⟩
noncomputable def resA:List UInt8→AV
 | []=>.d (.sc (.slice none 0 0))
 | a :: l=>.nm 2000 (.s 0 (a :: l).length 1)
theorem Qxf {x y:UInt8} (h:enc8 x=enc8 y):x=y:=by
 simp only[enc8,Value.int.injEq,true_and] at h
 exact UInt8.toNat_inj.1 (by omega)
theorem Qza {L:List MapEntry} {xs:MapEntry→UInt8} (hk:∀e ∈ L,e.key=enc8 (xs e)):∀ {l:List UInt8},L.map MapEntry.key=l.map enc8→l=L.map xs:=by
 induction L with
 | nil=>intro l h; cases l with | nil=>rfl | cons _ _=>simp at h
 | cons e L ih =>
  intro l h
  cases l with
  | nil=>simp at h
  | cons x l =>
   simp only[List.map_cons,List.cons.injEq] at h
   rw[hk e List.mem_cons_self] at h
   rw[List.map_cons,← Qxf h.1,ih (fun e he=>hk e (List.mem_cons_of_mem _ he)) h.2]
structure MapAt (w:World) (Bm m:Nat) (es:Array MapEntry) (clock:Nat) (xs:MapEntry→UInt8):Prop where
 box:w.cell? ⟨Bm,0,none⟩=some (.map (some m))
 map:w.heap[m]? = some (.map es clock)
 old:∀e ∈ es,e.born < clock
 nodup:(es.toList.map MapEntry.born).Nodup
 key:∀e ∈ es,e.key=enc8 (xs e)
 size:es.size≤12
structure SeqI:Prop where
 map:TyI Tryz.prog 296 false 1
 und:∃k e,Tryz.prog.underlying 296=some (.map k e)
 sl:TyI Tryz.prog 62 false 1
abbrev Q8c (g:Gh) (w:World) (es:Array MapEntry) (xs:MapEntry→UInt8):Ending→World→Prop:=fun r w' =>
 ∃g' v L,r = .returned v∧List.Perm L es.toList∧HR [] (Base.of g w X0) g' w' (Xres (L.map xs))∧RA g' w' (resA (L.map xs)) v
theorem Qzj {B:Base} {g:Gh} {w:World} {l:List UInt8} (h:HR [] B g w (Xacc l)):HR [] B g w (Xres l):=by
 have h1:=h.dropObj (k:=1) (by simp)
 refine h1.alike ⟨fun k=>?_,?_⟩
 ·cases l with
  | nil=>simp[Xacc,Xres,X0,Q0,Ab.dropObj]
  | cons a l =>
   simp only[Xacc,Xres,Q0,Ab.dropObj,List.map_cons,List.map_nil]
   rfl
 ·cases l <;> rfl
set_option maxHeartbeats 4000000 in
theorem Qrj (hI:SeqI) {g:Gh} {w:World} (h0:HR [] (Base.of g w X0) g w X0) {Bm m:Nat} {es:Array MapEntry} {clock:Nat} {xs:MapEntry→UInt8} (hM:MapAt w Bm m es clock xs)
  (A:Act) (a1:A.tmps.size=13) (a2:A.defers = []) (a3:A.eval (.tmp 0) = .slice none 0 0) (a4:A.eval (.tmp 1) = .func (.func 252) #[] #[.pointer (some ⟨Bm,0,none⟩)]) :
  (Code.seq (.region 0 op0 false) (.seq (.seq (.region 1 op1 false) (.block 0 (.rangeFunc (.tmp 6) #[7] (.region 2 op2 false) (.block 1 (.region 3 apOps false))))) (.seq (.region 4 op4 false) .ret))).wpIn Fence.wide 0 Tryz.prog
   (bodyPostM Fence.wide 0 Tryz.prog Tryz.f291 (Q8c g w es xs)) A w:=by
 have hF:∀f,Fence.wide.fn f:=fun _=>trivial
 have hβ:∀n,g.β n=none:=h0.beta rfl
 have hna:∀b,¬(Base.of g w X0).allowed b:=by
  rintro b (⟨k,o,hk,_⟩ | ⟨n,hn⟩)
  ·simp[X0] at hk
  ·rw[hβ n] at hn; cases hn
 have hmlt:m < w.heap.size:=(Array.getElem?_eq_some_iff.1 hM.map).1
 have hBlt:Bm < w.heap.size:=World.block_lt_of_cell? w ⟨Bm,0,none⟩ hM.box
 -- the box for what is gathered
 refine wpIn_seq (wpIn_region_list ?_)
 rw [show op0.toList = [{ dst := some 2, op := .box 62 (.tmp 0), type := 0, pos := "iter.go:50", after := #[], guard := none }, { dst := some 4, op := .assign (.const (.slice none 0 0)), type := 62, pos := "iter.go:50", after := #[], guard := none }] from rfl]
 refine Qk hF (v:=.pointer (some ⟨w.heap.size,0,none⟩)) (w':=w.alloc (.cells #[.slice none 0 0] 62)) rfl (by simp) ?_ ?_
 ·simp only[execOp,a3]
  simp[Instr.box,newVar,Go.newRow,Value.cells]
 refine Qk hF (v:=.slice none 0 0) (w':=w.alloc (.cells #[.slice none 0 0] 62)) rfl (by simp) (by simp only[execOp]; rfl) ?_
 refine wpListIn_nil ?_
 have hn:=h0.newObj (k:=1) rfl rfl (.cells #[.slice none 0 0] 62) (.cells [.d (.sc (.slice none 0 0))] none) (fun g' w' _ hb=>.cells _ _ _ _ hb (by simp) (fun i x v hx hv=>by
  cases i with
  | zero=>simp at hx hv; subst hx; subst hv; exact .d _ _ (.sc _)
  | succ i=>simp at hx) (by simp))
 have hg1:=hn.1
 generalize hgg:({ g with ρ:=upd g.ρ 1 w.heap.size }:Gh)=g1 at hg1
 have hρ:g1.ρ 1=w.heap.size:=by rw[← hgg]; exact upd_same g.ρ 1 w.heap.size
 have hr1:HR [1] { Base.of g w X0 with keep:=fun _=>w.heap.size } g1 (w.alloc (.cells #[.slice none 0 0] 62)) (Xacc []):=hg1.keepN (fun _=>w.heap.size) (fun k hk=>by
  simp at hk; subst hk; exact⟨hρ,rfl⟩)
 have hV0:(w.alloc (.cells #[.slice none 0 0] 62)).heap.size=w.heap.size+1:=by simp
 have hold0:∀b,b < w.heap.size→(w.alloc (.cells #[.slice none 0 0] 62)).heap[b]? = w.heap[b]?:=fun b hb=>Q1z w _ hb
 have hbox0:(w.alloc (.cells #[.slice none 0 0] 62)).cell? ⟨Bm,0,none⟩=some (.map (some m)):=by rw[cell?_of_heap (hold0 Bm hBlt)]; exact hM.box
 generalize hW:w.alloc (.cells #[.slice none 0 0] 62)=V0 at hr1 hV0 hold0 hbox0 ⊢
 clear hn hg1 hW
 have c1:(Act.put (Act.put A (some 2) (.pointer (some ⟨w.heap.size,0,none⟩))) (some 4) (.slice none 0 0)).tmps.size=13:=by rw[Q7,Q7,a1]
 have c2:(Act.put (Act.put A (some 2) (.pointer (some ⟨w.heap.size,0,none⟩))) (some 4) (.slice none 0 0)).eval (.tmp 1) = .func (.func 252) #[] #[.pointer (some ⟨Bm,0,none⟩)]:=by rw[Qe (by decide),Qe (by decide),a4]
 have c3:(Act.put (Act.put A (some 2) (.pointer (some ⟨w.heap.size,0,none⟩))) (some 4) (.slice none 0 0)).eval (.tmp 2) = .pointer (some ⟨w.heap.size,0,none⟩):=by rw[Qe (by decide),Qs (by omega)]
 have c4:(Act.put (Act.put A (some 2) (.pointer (some ⟨w.heap.size,0,none⟩))) (some 4) (.slice none 0 0)).defers = []:=a2
 show Code.wpIn _ _ _ _ _ (Act.put (Act.put A (some 2) (.pointer (some ⟨w.heap.size,0,none⟩))) (some 4) (.slice none 0 0)) V0
 generalize Act.put (Act.put A (some 2) (.pointer (some ⟨w.heap.size,0,none⟩))) (some 4) (.slice none 0 0)=A1 at c1 c2 c3 c4 ⊢
 clear a1 a2 a3 a4
 refine wpIn_seq (wpIn_seq (wpIn_region_list ?_))
 rw [show op1.toList = [{ dst := some 6, op := .move (.tmp 1), type := 302, pos := "iter.go:51", after := #[], guard := none }] from rfl]
 refine Qk hF (v:=.func (.func 252) #[] #[.pointer (some ⟨Bm,0,none⟩)]) (w':=V0) rfl (by simp) (by simp only[execOp,c2]; rfl) ?_
 refine wpListIn_nil ?_
 have d1:(A1.put (some 6) (.func (.func 252) #[] #[.pointer (some ⟨Bm,0,none⟩)])).tmps.size=13:=by rw[Q7,c1]
 have d2:(A1.put (some 6) (.func (.func 252) #[] #[.pointer (some ⟨Bm,0,none⟩)])).eval (.tmp 6) = .func (.func 252) #[] #[.pointer (some ⟨Bm,0,none⟩)]:=Qs (by omega)
 have d3:(A1.put (some 6) (.func (.func 252) #[] #[.pointer (some ⟨Bm,0,none⟩)])).eval (.tmp 2) = .pointer (some ⟨w.heap.size,0,none⟩):=by rw[Qe (by decide),c3]
 have d4:(A1.put (some 6) (.func (.func 252) #[] #[.pointer (some ⟨Bm,0,none⟩)])).defers = []:=c4
 show Code.wpIn _ _ _ _ _ (A1.put (some 6) (.func (.func 252) #[] #[.pointer (some ⟨Bm,0,none⟩)])) V0
 generalize A1.put (some 6) (.func (.func 252) #[] #[.pointer (some ⟨Bm,0,none⟩)])=A2 at d1 d2 d3 d4 ⊢
 clear c1 c2 c3 c4
 have d5:A2.tmps[2]? = some (.pointer (some ⟨w.heap.size,0,none⟩)):=by
  have:A2.tmps.getD 2 undef = .pointer (some ⟨w.heap.size,0,none⟩):=d3
  have h2:2 < A2.tmps.size:=by omega
  simp only[Array.getD,h2,dif_pos] at this
  simp[h2,← this]
 refine wpIn_block (wpIn_rangeFunc ?_)
 intro fn _
 -- the record, the block for deferred calls
 generalize hrc:({ state:=.ready,pending:=none,fn:=fn,tmps:=A2.tmps,params:=#[7],assign:=.region 2 op2 false,body:=.block 1 (.region 3 apOps false),defers:=V0.heap.size }:Loop)=rc
 have hW1s:((V0.alloc (.deferred (some []))).alloc (.loop rc)).heap.size=V0.heap.size+2:=by simp
 have hW1o:∀b,b < V0.heap.size→((V0.alloc (.deferred (some []))).alloc (.loop rc)).heap[b]? = V0.heap[b]?:=fun b hb=>by
  rw[Q1z (V0.alloc (.deferred (some []))) _ (by simp; omega),Q1z V0 _ hb]
 have hr2:HR [1] { Base.of g w X0 with keep:=fun _=>w.heap.size } g1 ((V0.alloc (.deferred (some []))).alloc (.loop rc)) (Xacc []):=(hr1.grow (by rw[hW1s]; omega) hW1o ⟨rfl,rfl,rfl,Nat.le_refl _⟩).1
 have hlp:((V0.alloc (.deferred (some []))).alloc (.loop rc)).heap[V0.heap.size+1]? = some (.loop rc):=by
  have:=World.alloc_heap_new (V0.alloc (.deferred (some []))) (.loop rc)
  simpa using this
 have hD:((V0.alloc (.deferred (some []))).alloc (.loop rc)).heap[V0.heap.size]? = some (.deferred (some [])):=by
  rw[Q1z (V0.alloc (.deferred (some []))) _ (by simp)]
  exact World.alloc_heap_new V0 _
 have hbox1:((V0.alloc (.deferred (some []))).alloc (.loop rc)).cell? ⟨Bm,0,none⟩=some (.map (some m)):=by
  rw[cell?_of_heap (hW1o Bm (by omega))]; exact hbox0
 have hent:=run_enterLoop_outer (P:=Tryz.prog) (w:=V0) fn A2.tmps #[7] (.region 2 op2 false) (.block 1 (.region 3 apOps false))
 rw[hrc] at hent
 generalize (V0.alloc (.deferred (some []))).alloc (.loop rc)=W1 at hW1s hW1o hr2 hlp hD hbox1 hent
 refine⟨V0.heap.size+1,[{ target:=.collected V0.heap.size,args:=#[] }],W1,{ target:=.fn (.func 252) #[.pointer (some ⟨Bm,0,none⟩)],args:=#[.func (.yield (V0.heap.size+1)) #[] #[]] },W1,252,
  #[.func (.yield (V0.heap.size+1)) #[] #[],.pointer (some ⟨Bm,0,none⟩)],W1,hent,?_,fun _ _=>trivial,?_,fun h=>by simp[Fence.wide] at h,?_⟩
 ·simp only[resolve,rangeCall,d2]
  simp[Act.eval,Deferred.ofValue]
 ·have hc:CallI Tryz.prog 252:=.mk' Tryz.func252 rfl (by decide)
  have:=Q1y hc #[.func (.yield (V0.heap.size+1)) #[] #[],.pointer (some ⟨Bm,0,none⟩)] W1
  simp[invoke,this]
 ·have hB1:({ Base.of g w X0 with keep:=fun _=>w.heap.size }:Base).n0=w.heap.size:=rfl
  refine(Qqq (l:=V0.heap.size+1) (Bm:=Bm) (m:=m) (es:=es) (clock:=clock) (W:=W1) (J:=fun pre V=>∃l:List UInt8,pre=l.map enc8∧AccAt { Base.of g w X0 with keep:=fun _=>w.heap.size } rc (V0.heap.size+1) V0.heap.size l V)
   hI.map hI.und hbox1 hM.old hM.nodup ?_ ?_ ?_ ⟨[],rfl,⟨g1,hr2⟩,hlp,hD⟩).mono ?_
  ·rintro pre V ⟨l,rfl,hA⟩
   obtain⟨g',hg'⟩:=hA.st
   rw[(hg'.frame m hmlt (hna m)).1]
   exact hM.map
  ·rintro pre V V' ex ⟨l,rfl,hA⟩ hex hk
   obtain⟨g',hg'⟩:=hA.st
   have lt1:V0.heap.size+1 < V.heap.size:=(Array.getElem?_eq_some_iff.1 hA.loop).1
   refine⟨l,rfl,⟨g',hg'.junk (ex:=ex) (Q6g l) ?_ ?_ ?_ (by rw[hB1]; omega) hk.size hk.block hk.io⟩,?_,?_⟩
   ·intro k o hko he
    obtain⟨cs,ty,rfl⟩:=Qjj hko
    cases hg'.objs k _ hko with
    | cells _ _ arr T h1 _ _ _ =>
     rw[he] at h1
     rcases hk.none with h2 | ⟨_,_,_,_,h2⟩ <;> rw[h2] at h1 <;> cases h1
   ·intro i
    rcases hk.none with h2 | ⟨_,_,_,_,h2⟩ <;> simp[World.cell?,h2]
   ·rcases hk.none with h2 | ⟨_,_,_,_,h2⟩ <;> simp[World.shape?,h2]
   ·rw[hk.block _ lt1 (by omega)]; exact hA.loop
   ·rw[hk.block _ (by omega) (by omega)]; exact hA.dfr
  ·rintro pre e V ⟨l,rfl,hA⟩ he hl
   have hs:=hM.size
   subst hrc
   have:=Qyf (B:={ Base.of g w X0 with keep:=fun _=>w.heap.size }) (Bs:=w.heap.size) (lp:=V0.heap.size+1) (D:=V0.heap.size) rfl (by rw[hB1]; omega) (by omega) d1 d5 (xs e) l (by simp at hl; omega) V hA
   rw[← hM.key e he] at this
   obtain⟨fn',tmps',as',bd',y1,y2⟩:=this
   refine⟨fn',tmps',as',bd',y1,y2.mono ?_⟩
   rintro r V' ⟨rfl,hA',hk⟩
   exact⟨rfl,⟨l++[xs e],by simp[hM.key e he],hA'⟩,hk⟩
  ·rintro r W2 ⟨⟨v,rfl⟩,L,hL,l,hl,hA⟩
   have hLe:∀e ∈ L,e ∈ es:=fun e he=>by simpa using hL.subset he
   have e1:=Qza (xs:=xs) (fun e he=>hM.key e (hLe e he)) hl
   rw[e1] at hA
   obtain⟨g',hg'⟩:=hA.st
   obtain⟨q1,q2⟩:=Qfg hA.loop
   have hge:({ Base.of g w X0 with keep:=fun _=>w.heap.size }:Base).n0≤V0.heap.size+1:=by rw[hB1]; omega
   have hg3:=Qg6 hg' hA.loop (by simp) q1 q2 hge (.loop { rc with state:=.exhausted })
   have hrs:rc.state≠.busy:=by rw[← hrc]; simp
   have hrp:rc.pending=none:=by rw[← hrc]
   have hend:=run_endLoop (P:=Tryz.prog) hA.loop hrs
   have hD3:(W2.putObj (V0.heap.size+1) (.loop { rc with state:=.exhausted })).heap[V0.heap.size]? = some (.deferred (some [])):=by
    rw[World.putObj_heap_other (by omega)]; exact hA.dfr
   generalize W2.putObj (V0.heap.size+1) (.loop { rc with state:=.exhausted })=W3 at hg3 hD3 hend
   rw[hrp] at hend
   refine⟨none,W3,hend,?_⟩
   have hkeep:g'.ρ 1=w.heap.size:=(hg3.keep 1 (by simp)).1
   have hld:Loads Tryz.prog (Xacc (L.map xs)) 62 1 0 (resA (L.map xs)):=by
    cases L.map xs with
    | nil=>exact .one [.d (.sc (.slice none 0 0))] none _ hI.sl rfl rfl
    | cons a l=>exact .one [.nm 2000 (.s 0 (a :: l).length 1)] none _ hI.sl rfl rfl
   obtain⟨u,hu,hru⟩:=hld.run hg3
   rw[hkeep] at hu
   show Code.wpIn _ _ _ _ _ _ W3
   refine wpIn_seq (wpIn_region_list ?_)
   rw [show op4.toList = [{ dst := some 12, op := .load 62 (.tmp 2), type := 62, pos := "iter.go:54", after := #[], guard := none }, { dst := some 4, op := .assign (.tmp 12), type := 62, pos := "iter.go:54", after := #[{ on := 0, ground := .data }, { on := 0, ground := .phase }], guard := none }] from rfl]
   refine Qk hF (v:=u) (w':=W3) rfl (by simp) ?_ ?_
   ·have:({ tmps:=A2.tmps,defers:=[{ target:=.collected V0.heap.size,args:=#[] }]++A2.defers }:Act).eval (.tmp 2) = .pointer (some ⟨w.heap.size,0,none⟩):=d3
    simp only[execOp,this]
    simp[Instr.loadAt,Instr.sureAddr,asAddr,hu,Result.andThen]
   refine Qk hF (v:=u) (w':=W3) rfl (by simp) ?_ ?_
   ·simp only[execOp]
    rw[Qs (by show 12 < A2.tmps.size; omega)]
    rfl
   refine wpListIn_nil ?_
   refine wpIn_ret ?_
   have e2:∀(q:Act),q.tmps.size=13→(q.put (some 4) u).tmps.getD 4 undef=u:=fun q hq=>by simp[Act.put,Array.getD,hq]
   show LeavesInM _ _ _ _ _ _ _ _ _
   have hdf:(Act.put (Act.put ({ tmps:=A2.tmps,defers:=[{ target:=.collected V0.heap.size,args:=#[] }]++A2.defers }:Act) (some 12) u) (some 4) u).defers = [{ target:=.collected V0.heap.size,args:=#[] }]:=by
    show[_]++A2.defers=_
    rw[d4]; rfl
   rw[show(Act.put (Act.put ({ tmps:=A2.tmps,defers:=[{ target:=.collected V0.heap.size,args:=#[] }]++A2.defers }:Act) (some 12) u) (some 4) u).defers = [{ target:=.collected V0.heap.size,args:=#[] }] from hdf]
   have hg4:HR [1] { Base.of g w X0 with keep:=fun _=>w.heap.size } g' (W3.putObj V0.heap.size (.deferred none)) (Xacc (L.map xs)):=Qg6 hg3 hD3 (by simp) (by simp[World.cell?,hD3]) (by simp[World.shape?,hD3]) (by rw[hB1]; omega) _
   refine⟨by simp,.inl ⟨V0.heap.size,_,rfl,run_takeDeferred hD3,u,?_,g',u,L,rfl,hL,Qzj (hg4.keepN (nm':=[]) _ (by simp)),?_⟩⟩
   ·have hres:∀(t:Array Value) (w:World),t.getD 4 undef=u→(results Tryz.f291 t).run Tryz.prog w = .ok u w:=fun t w ht=>by
     simp[results,Tryz.f291]
     simpa[Array.getD_eq_getD_getElem?] using ht
    exact hres _ _ (e2 _ (by rw[Q7]; exact d1))
   ·have ht:LeD g'.γ W3 g'.γ (W3.putObj V0.heap.size (.deferred none)):=by
     refine⟨fun _=>Nat.le_refl _,fun b i hi=>?_,fun b s hs=>?_⟩
     ·by_cases hb:b=V0.heap.size
      ·subst hb
       have:=hg3.sane _ _ hi
       simp[World.cell?,hD3] at this
      ·exact cell?_of_heap (World.putObj_heap_other hb) i none
     ·by_cases hb:b=V0.heap.size
      ·subst hb
       simp[World.shape?,hD3] at hs
      ·rw[shape?_of_heap (World.putObj_heap_other hb)]; exact hs
    cases hlm:L.map xs with
    | nil =>
     rw[hlm] at hru
     cases hru with
     | d _ _ h=>exact .d _ _ (h.mono ht)
    | cons a l =>
     rw[hlm] at hru
     cases hru with
     | nm _ _ _ h=>exact .nm _ _ _ (h.mono ht)
theorem Qo5 (hI:SeqI) {g:Gh} {w:World} (h0:HR [] (Base.of g w X0) g w X0) {Bm m:Nat} {es:Array MapEntry} {clock:Nat} {xs:MapEntry→UInt8} (hM:MapAt w Bm m es clock xs) :
  CallsIn Fence.wide 0 Tryz.prog 291 #[.slice none 0 0,.func (.func 252) #[] #[.pointer (some ⟨Bm,0,none⟩)]] w (Q8c g w es xs) :=
 callsIn_of_wp_marks Tryz.func291 Qzy trivial (Qrj hI h0 hM _ (by simp[Tryz.f291]) rfl (by simp[Act.eval,Tryz.f291,Array.getD]) (by simp[Act.eval,Tryz.f291,Array.getD])) rfl
end Go.Proofs.Xg
namespace Go.Proofs.Xg
open Go Go.Ab Go.Xl Go.Proofs
noncomputable def cop (k:Nat):Array Oper:=match Tryz.f250.body,k with
 | some (.seq (.region _ ops _) _),0=>ops
 | some (.seq _ (.seq (.region _ ops _) _)),1=>ops
 | _,_=>#[]
theorem Qzt:Tryz.f250.body=some (.seq (.region 0 (cop 0) false) (.seq (.region 1 (cop 1) false) .ret)):=rfl
noncomputable def sop (k:Nat):Array Oper:=match Tryz.f224.body,k with
 | some (.seq (.region _ ops _) _),0=>ops
 | some (.seq _ (.seq (.region _ ops _) _)),1=>ops
 | some (.seq _ (.seq _ (.seq (.region _ ops _) _))),2=>ops
 | some (.seq _ (.seq _ (.seq _ (.seq (.region _ ops _) _)))),3=>ops
 | _,_=>#[]
theorem Q10g:Tryz.f224.body=some (.seq (.region 0 (sop 0) false) (.seq (.region 1 (sop 1) false) (.seq (.region 2 (sop 2) false) (.seq (.region 3 (sop 3) false) .ret)))):=rfl
section
variable {g:Gh} {w:World} {Bm m:Nat} {es:Array MapEntry} {clock:Nat} {xs:MapEntry→UInt8}
theorem Qku {fn:Func} {t:Tmp} {R:Ending→World→Prop} {A:Act} {V:World} {v:Value} (hf:fn.results = #[.tmp t]) (hd:A.defers = []) (he:A.eval (.tmp t)=v) (h:R (.returned v) V):bodyPost Tryz.prog fn R .ret A V:=by
 refine⟨hd,v,?_,h⟩
 have:A.tmps.getD t undef=v:=he
 simp[results,hf]
 simpa[Array.getD_eq_getD_getElem?] using this
theorem Qn9 (hI:SeqI) (h0:HR [] (Base.of g w X0) g w X0) (hM:MapAt w Bm m es clock xs) :
  CallsIn Fence.wide 0 Tryz.prog 250 #[.func (.func 252) #[] #[.pointer (some ⟨Bm,0,none⟩)]] w (Q8c g w es xs):=by
 have hF:∀f,Fence.wide.fn f:=fun _=>trivial
 refine callsIn_of_wp Tryz.func250 Qzt trivial ?_ rfl
 generalize hA:({ tmps:=#[.func (.func 252) #[] #[.pointer (some ⟨Bm,0,none⟩)]]++Array.replicate (Tryz.f250.ntmps - (#[Value.func (.func 252) #[] #[.pointer (some ⟨Bm,0,none⟩)]] : Array Value).size) undef,defers:=[] }:Act)=A
 have a1:A.tmps.size=5:=by rw[← hA]; simp[Tryz.f250]
 have a2:A.defers = []:=by rw[← hA]
 have a3:A.eval (.tmp 0) = .func (.func 252) #[] #[.pointer (some ⟨Bm,0,none⟩)]:=by rw[← hA]; simp[Act.eval,Tryz.f250,Array.getD]
 clear hA
 refine wpIn_seq (wpIn_region_list ?_)
 refine Qk hF (v:=.slice none 0 0) (w':=w) rfl (by simp) rfl (wpListIn_nil ?_)
 refine wpIn_seq (wpIn_region_list ?_)
 refine Qk hF (v:=.func (.func 252) #[] #[.pointer (some ⟨Bm,0,none⟩)]) (w':=w) rfl (by simp) ?_ ?_
 ·simp only[execOp]
  rw[Qe (by decide),a3]
  rfl
 refine Qew hF rfl rfl rfl (Qa2 rfl (.mk' Tryz.func291 rfl (by decide))) (R:=Q8c g w es xs) ?_ ?_
 ·have:=Qo5 hI h0 hM
  simp only[List.map_toArray,List.map_cons,List.map_nil]
  rw[Qs (by rw[Q7]; omega)]
  exact this
 rintro r w' ⟨g',v,L,rfl,h1,h2,h3⟩
 refine⟨v,rfl,?_⟩
 refine Qk hF (v:=v) (w':=w') rfl (by simp) ?_ (wpListIn_nil (wpIn_ret ?_))
 ·simp only[execOp]
  rw[Qs (by rw[Q7,Q7]; omega)]
  rfl
 ·exact Qku rfl a2 (Qs (by rw[Q7,Q7,Q7]; omega)) ⟨g',v,L,rfl,h1,h2,h3⟩
structure SortI (S:List UInt8→List UInt8):Prop where
 sorts:∀l,l≠[]→l.length≤12→Does Tryz.prog 251 [.nm 1 (.s 0 l.length 1)] (O1 .u8 l) (.tup []) (O1 .u8 (S l))
 nil:Does Tryz.prog 251 [.d (.sl 1 [])] X0 (.tup []) X0
 len:∀l,(S l).length=l.length
 perm:∀l l' : List UInt8,l.Perm l'→S l=S l'
abbrev Qqy (S:List UInt8→List UInt8) (g:Gh) (w:World) (es:Array MapEntry) (xs:MapEntry→UInt8):Ending→World→Prop:=fun r w' =>
 ∃g' v,r = .returned v∧HR [] (Base.of g w X0) g' w' X0∧RA g' w' (.d (.sl 1 ((S (es.toList.map xs)).map (Ty.ds .u8)))) v
theorem Qx6 {S:List UInt8→List UInt8} (hS:SortI S) {B:Base} {g1:Gh} {w1:World} {l:List UInt8} (hl:l.length≤12) (h1:HR [] B g1 w1 (Xres l)) {u:Value} (hu:RA g1 w1 (resA l) u) :
  Calls Tryz.prog 251 #[u] w1 fun r w'=>∃v,r = .returned v∧∃g',HR [] B g' w' X0∧RA g' w' (.d (.sl 1 ((S l).map (Ty.ds .u8)))) u:=by
 cases l with
 | nil =>
  have hnil:S [] = []:=List.eq_nil_of_length_eq_zero (hS.len [])
  have hr:=h1.rebase rfl
  have hu' : u = .slice none 0 0:=by
   cases hu with
   | d _ _ h=>cases h; rfl
  subst hu'
  refine(hS.nil g1 w1 #[.slice none 0 0] hr rfl ?_).mono ?_
  ·intro i x v hx hv
   cases i with
   | zero=>simp at hx hv; subst hx; subst hv; exact .d _ _ (.nil 1 none 0 fun _=>rfl)
   | succ i=>simp at hx
  ·rintro r w' ⟨g',v,rfl,_,h3⟩
   refine⟨v,rfl,g',h1.comp h3 rfl rfl,?_⟩
   rw[hnil]
   exact .d _ _ (.nil 1 none 0 fun _=>rfl)
 | cons a l =>
  obtain⟨r1,r2⟩:=h1.renameObj (k:=2000) (m:=1) (o:=(XOb.arr .u8 (a :: l)).o) (by simp) (by simp) (Q49 rfl) rfl (by decide)
  generalize hgg:({ g1 with ρ:=upd g1.ρ 1 (g1.ρ 2000) }:Gh)=g2 at r1 r2
  have hρ:g2.ρ 1=g1.ρ 2000:=by rw[← hgg]; exact upd_same g1.ρ 1 _
  have r3:HR [] B g2 w1 (O1 .u8 (a :: l)):=r1.alike ⟨fun k=>by rfl,rfl⟩
  have r4:=(r3.keepN (nm':=[1]) (fun _=>g2.ρ 1) (fun k hk=>by simp at hk; subst hk; exact⟨rfl,rfl⟩))
  have hr:=r4.rebase rfl
  have hu' : RA g2 w1 (.nm 1 (.s 0 (a :: l).length 1)) u:=by
   cases hu with
   | nm _ _ _ h =>
    refine .nm _ _ _ ?_
    rw[hρ]; exact h
  refine(hS.sorts (a :: l) (by simp) hl g2 w1 #[u] hr rfl ?_).mono ?_
  ·intro i x v hx hv
   cases i with
   | zero=>simp at hx hv; subst hx; subst hv; exact hu'
   | succ i=>simp at hx
  ·rintro r w' ⟨g',v,rfl,_,h3⟩
   refine⟨v,rfl,?_⟩
   have hk:=(h3.keep 1 (by simp[O1])).1
   have hu3:RA g' w' (.osl 1 (0*1) (a :: l).length 1) u:=by
    cases hu' with
    | nm _ _ _ h =>
     refine .nm _ _ _ ?_
     rw[hk]
     exact h.mono h3.le
   have h4:=(r4.comp h3 rfl rfl).keepN (nm':=[]) (fun _=>0) (by simp)
   have h4' : HR [] B g' w' (O1 .u8 (S (a :: l))):=⟨fun k hk=>(by cases hk),h4.sane,h4.base,h4.io,h4.le,h4.frame,h4.objs,h4.objγ,h4.objinj,h4.objnew,h4.live,h4.tipinj,h4.tipobj,h4.tipnew,h4.tiplt,h4.eta.base rfl fun _ h=>h⟩
   obtain⟨f1,f2,f3⟩:=h4'.freeze (k:=1) (sz:=1) (es:=(S (a :: l)).map (Ty.ds .u8)) (ty:=none) (by simp) rfl (by
    intro i cs hi
    rw[List.getElem?_map,Option.map_eq_some_iff] at hi
    obtain⟨x,_,rfl⟩:=hi
    rfl)
   refine⟨_,f1.alike ⟨fun k=>by rfl,rfl⟩,?_⟩
   have:=f3 0 (a :: l).length u (by simp[hS.len]) hu3
   rw[List.drop_zero,List.take_of_length_le (by simp[hS.len])] at this
   exact this
theorem Qox {S:List UInt8→List UInt8} (hS:SortI S) (hI:SeqI) (h0:HR [] (Base.of g w X0) g w X0) (hM:MapAt w Bm m es clock xs) :
  CallsIn Fence.wide 0 Tryz.prog 224 #[.func (.func 252) #[] #[.pointer (some ⟨Bm,0,none⟩)]] w (Qqy S g w es xs):=by
 have hF:∀f,Fence.wide.fn f:=fun _=>trivial
 refine callsIn_of_wp Tryz.func224 Q10g trivial ?_ rfl
 generalize hA:({ tmps:=#[.func (.func 252) #[] #[.pointer (some ⟨Bm,0,none⟩)]]++Array.replicate (Tryz.f224.ntmps - (#[Value.func (.func 252) #[] #[.pointer (some ⟨Bm,0,none⟩)]] : Array Value).size) undef,defers:=[] }:Act)=A
 have a1:A.tmps.size=9:=by rw[← hA]; simp[Tryz.f224]
 have a2:A.defers = []:=by rw[← hA]
 have a3:A.eval (.tmp 0) = .func (.func 252) #[] #[.pointer (some ⟨Bm,0,none⟩)]:=by rw[← hA]; simp[Act.eval,Tryz.f224,Array.getD]
 clear hA
 refine wpIn_seq (wpIn_region_list ?_)
 refine Qk hF (v:=.slice none 0 0) (w':=w) rfl (by simp) rfl (wpListIn_nil ?_)
 refine wpIn_seq (wpIn_region_list ?_)
 refine Qk hF (v:=.func (.func 252) #[] #[.pointer (some ⟨Bm,0,none⟩)]) (w':=w) rfl (by simp) ?_ ?_
 ·simp only[execOp]
  rw[Qe (by decide),a3]
  rfl
 refine Qew hF rfl rfl rfl (Qa2 rfl (.mk' Tryz.func250 rfl (by decide))) (R:=Q8c g w es xs) ?_ ?_
 ·have:=Qn9 hI h0 hM
  simp only[List.map_toArray,List.map_cons,List.map_nil]
  rw[Qs (by rw[Q7]; omega)]
  exact this
 rintro r w1 ⟨g1,u,L,rfl,h1,h2,h3⟩
 refine⟨u,rfl,?_⟩
 refine Qk hF (v:=u) (w':=w1) rfl (by simp) ?_ (wpListIn_nil ?_)
 ·simp only[execOp]
  rw[Qs (by rw[Q7,Q7]; omega)]
  rfl
 refine wpIn_seq (wpIn_region_list ?_)
 have b1:∀x y z v,(Act.put (Act.put (Act.put (Act.put A (some 2) x) (some 4) y) (some 5) z) (some 3) v).eval (.tmp 3)=v:=fun x y z v=>Qs (by rw[Q7,Q7,Q7]; omega)
 have b2:∀x y z v,(Act.put (Act.put (Act.put (Act.put A (some 2) x) (some 4) y) (some 5) z) (some 3) v).tmps.size=9:=fun x y z v=>by rw[Q7,Q7,Q7,Q7,a1]
 have b3:(Act.put (Act.put (Act.put (Act.put A (some 2) (.slice none 0 0)) (some 4) (.func (.func 252) #[] #[.pointer (some ⟨Bm,0,none⟩)])) (some 5) u) (some 3) u).defers = []:=a2
 show wpListIn _ _ _ _ _ _ (Act.put (Act.put (Act.put (Act.put A (some 2) (.slice none 0 0)) (some 4) (.func (.func 252) #[] #[.pointer (some ⟨Bm,0,none⟩)])) (some 5) u) (some 3) u) _
 generalize hA3:Act.put (Act.put (Act.put (Act.put A (some 2) (.slice none 0 0)) (some 4) (.func (.func 252) #[] #[.pointer (some ⟨Bm,0,none⟩)])) (some 5) u) (some 3) u=A3 at b3 ⊢
 have c1:A3.eval (.tmp 3)=u:=by rw[← hA3]; exact b1 _ _ _ _
 have c2:A3.tmps.size=9:=by rw[← hA3]; exact b2 _ _ _ _
 clear hA3 b1 b2
 refine Qk hF (v:=u) (w':=w1) rfl (by simp) (by simp only[execOp,c1]; rfl) ?_
 have hlen:(L.map xs).length≤12:=by
  have:=h1.length_eq
  have h5:=hM.size
  simp only[Array.length_toList] at this
  rw[List.length_map]; omega
 refine Qew hF rfl rfl rfl (Qa2 rfl (.mk' Tryz.func251 rfl (by decide))) (R:=fun r w'=>∃v,r = .returned v∧∃g',HR [] (Base.of g w X0) g' w' X0∧RA g' w' (.d (.sl 1 ((S (L.map xs)).map (Ty.ds .u8)))) u) ?_ ?_
 ·have:=(callsIn_wide (n:=0)).2 (Qx6 hS hlen h2 h3)
  simp only[List.map_toArray,List.map_cons,List.map_nil]
  rw[Qs (by omega)]
  exact this
 rintro r w2 ⟨v,rfl,g',h4,h5⟩
 refine⟨v,rfl,wpListIn_nil ?_⟩
 refine wpIn_seq (wpIn_region_list ?_)
 refine Qk hF (v:=u) (w':=w2) rfl (by simp) ?_ ?_
 ·simp only[execOp]
  rw[Qe (by decide),Qe (by decide),c1]
  rfl
 refine Qk hF (v:=u) (w':=w2) rfl (by simp) ?_ (wpListIn_nil (wpIn_ret ?_))
 ·simp only[execOp]
  rw[Qs (by rw[Q7,Q7]; omega)]
  rfl
 ·refine Qku rfl b3 (Qs (by rw[Q7,Q7,Q7]; omega)) ⟨g',u,rfl,h4,?_⟩
  rw[hS.perm _ _ (h1.map xs)] at h5
  exact h5
end
end Go.Proofs.Xg
namespace Go.Xl
open Go.Ab
end Go.Xl
namespace Go.Xl
open Go.Ab
end Go.Xl
namespace Go.Proofs.Xu
open Go Go.Xl Go.Ab Go.Proofs
theorem mixed:Tryz.prog.follows .mixedOrders=true:=by kernel_rfl
noncomputable def Q8q (N:Nat):Fun [(.int .u32)] (Option (ResT [(.int .i64)])):=fun(x:Int)=>Q53 (fun(z:(Int×Int×Unit)×Unit×Unit×Unit)=>Q53 (fun(z:(Int×Int×Unit)×Unit
 × Unit×Unit)=>[0,1,2,2,3,3,3,3,4,4,4,4,4,4,4,4,5,5,5,5,5,5,5,5,5,5,5,5,5,5,5,5,6,6,6,6,6,6,6,6,6,6,6,6,6,6,6,6,6,6,6,6,6,6,6,6,6,6,6,6,6,6,6,6,7,7,7,
 7,7,7,7,7,7,7,7,7,7,7,7,7,7,7,7,7,7,7,7,7,7,7,7,7,7,7,7,7,7,7,7,7,7,7,7,7,7,7,7,7,7,7,7,7,7,7,7,7,7,7,7,7,7,7,7,7,7,7,7,7,8,8,8,8,8,8,8,8,8,8,8,8,
 8,8,8,8,8,8,8,8,8,8,8,8,8,8,8,8,8,8,8,8,8,8,8,8,8,8,8,8,8,8,8,8,8,8,8,8,8,8,8,8,8,8,8,8,8,8,8,8,8,8,8,8,8,8,8,8,8,8,8,8,8,8,8,8,8,8,8,8,8,8,8,8,8,
 8,8,8,8,8,8,8,8,8,8,8,8,8,8,8,8,8,8,8,8,8,8,8,8,8,8,8,8,8,8,8,8,8,8,8,8,8,8,8,8,8,8,8][(toU8 (IntKind.u8.wrap z.1.1)).toNat]?.bind fun(c:UInt8)=>some (IntKind.i64.wrap
 (z.1.2.1+(↑c.toNat:Int)))) fun(k:(Int×Int×Unit)×Unit×Unit×Unit→Option Int)=>bif decide (256≤z.1.1) then k ((z.1.1.fdiv 256,IntKind.i64.wrap (z.1.2.1+8),()),(),(),())
 else k ((z.1.1,z.1.2.1,()),(),(),())) fun(k:(Int×Int×Unit)×Unit×Unit×Unit→Option Int)=>bif decide (65536≤x) then k ((x.fdiv 65536,16,()),(),(),()) else k ((x,0,()),(),(),())
theorem Qgj (N:Nat):runF Tryz.prog [] [] N Tryz.f238 (.seq .lf (.join ⟨[(0,.d (.int .u32)),(2,.d (.int .i64))],[],[],[],[],[]⟩ .lf (.join ⟨[(0,.d (.int .u32)),(2,.d (.int .i64))],[],[],[],[],[]⟩ .lf .lf))) [(.int .u32)] [(.int .i64)] = Q8q N:=by kernel_rfl
noncomputable def Qgf (N:Nat):Ent Tryz.prog:=mkFn 238 Tryz.f238 _ [(.int .u32)] [(.int .i64)] (Q8q N) mixed Tryz.func238 (.mk' Tryz.func238 rfl (by decide)) rfl (Qgj N)
noncomputable def Q5w (N:Nat):Fun [(.int .u64)] (Option (ResT [(.int .i64)])):=fun(x:Int)=>Q53 (fun(z:(Int×Int×Unit)×Unit×Unit×Unit)=>Q53 (fun(z:(Int×Int×Unit)×Unit
 × Unit×Unit)=>Q53 (fun(z:(Int×Int×Unit)×Unit×Unit×Unit)=>[0,1,2,2,3,3,3,3,4,4,4,4,4,4,4,4,5,5,5,5,5,5,5,5,5,5,5,5,5,5,5,5,6,6,6,6,6,6,6,6,6,6,6,6,6,6,
 6,6,6,6,6,6,6,6,6,6,6,6,6,6,6,6,6,6,7,7,7,7,7,7,7,7,7,7,7,7,7,7,7,7,7,7,7,7,7,7,7,7,7,7,7,7,7,7,7,7,7,7,7,7,7,7,7,7,7,7,7,7,7,7,7,7,7,7,7,7,7,7,7,
 7,7,7,7,7,7,7,7,7,8,8,8,8,8,8,8,8,8,8,8,8,8,8,8,8,8,8,8,8,8,8,8,8,8,8,8,8,8,8,8,8,8,8,8,8,8,8,8,8,8,8,8,8,8,8,8,8,8,8,8,8,8,8,8,8,8,8,8,8,8,8,8,8,
 8,8,8,8,8,8,8,8,8,8,8,8,8,8,8,8,8,8,8,8,8,8,8,8,8,8,8,8,8,8,8,8,8,8,8,8,8,8,8,8,8,8,8,8,8,8,8,8,8,8,8,8,8,8,8,8,8,8,8,8,8,8,8,8][(toU8 (IntKind.u8.wrap
 z.1.1)).toNat]?.bind fun(c:UInt8)=>some (IntKind.i64.wrap (z.1.2.1+(↑c.toNat:Int)))) fun(k:(Int×Int×Unit)×Unit×Unit×Unit→Option Int)=>bif decide (256≤z.1.1) then k
 ((z.1.1.fdiv 256,IntKind.i64.wrap (z.1.2.1+8),()),(),(),()) else k ((z.1.1,z.1.2.1,()),(),(),())) fun(k:(Int×Int×Unit)×Unit×Unit×Unit→Option Int)=>bif decide (65536 ≤
 z.1.1) then k ((z.1.1.fdiv 65536,IntKind.i64.wrap (z.1.2.1+16),()),(),(),()) else k ((z.1.1,z.1.2.1,()),(),(),())) fun(k:(Int×Int×Unit)×Unit×Unit×Unit→Option Int) =>
 bif decide (4294967296≤x) then k ((x.fdiv 4294967296,32,()),(),(),()) else k ((x,0,()),(),(),())
theorem Qge (N:Nat):runF Tryz.prog [] [] N Tryz.f239 (.seq .lf (.join ⟨[(0,.d (.int .u64)),(2,.d (.int .i64))],[],[],[],[],[]⟩ .lf (.join ⟨[(0,.d (.int .u64)),(2,.d (.int .i64))],[],[],[],[],[]⟩ .lf (.join ⟨[(0,.d (.int .u64)),(2,.d (.int .i64))],[],[],[],[],[]⟩ .lf .lf)))) [(.int .u64)] [(.int .i64)] = Q5w N:=by kernel_rfl
noncomputable def Qgk (N:Nat):Ent Tryz.prog:=mkFn 239 Tryz.f239 _ [(.int .u64)] [(.int .i64)] (Q5w N) mixed Tryz.func239 (.mk' Tryz.func239 rfl (by decide)) rfl (Qge N)
noncomputable def F_math_bits_Len (N:Nat):Fun [(.int .u64)] (Option (ResT [(.int .i64)])):=fun(x:Int)=>Option.bind (Q5w N x) fun(y:Int)=>some y
theorem Qit (N:Nat):runF Tryz.prog [Qgf N,Qgk N] [] N Tryz.f209 .lf [(.int .u64)] [(.int .i64)] = F_math_bits_Len N:=by kernel_rfl
noncomputable def e_math_bits_Len (N:Nat):Ent Tryz.prog:=mkFn 209 Tryz.f209 _ [(.int .u64)] [(.int .i64)] (F_math_bits_Len N) mixed Tryz.func209 (.mk' Tryz.func209 rfl (by decide)) rfl (Qit N)
noncomputable def Q59 (N:Nat):Fun [(.int .u64)] (Option (ResT [.bool])):=fun(x:Int)=>some (x != x)
noncomputable def Q5t (N:Nat):Fun [(.int .u64),(.int .u64)] (Option (ResT [.bool])):=fun(x x_1:Int)=>Option.bind (Q59 N x) fun(y:Bool)=>bif y then Option.bind
 (Q59 N x_1) fun(y:Bool)=>bif !y then some true else some (decide (x < x_1)) else some (decide (x < x_1))
noncomputable def Q33 (N:Nat):Fun [.u8] (Option (ResT [.bool])):=fun(x:UInt8)=>some (x != x)
theorem Qgi (N:Nat):runF Tryz.prog [] [] N Tryz.f326 .lf [.u8] [.bool] = Q33 N:=by kernel_rfl
noncomputable def Qgc (N:Nat):Ent Tryz.prog:=mkFn 326 Tryz.f326 _ [.u8] [.bool] (Q33 N) mixed Tryz.func326 (.mk' Tryz.func326 rfl (by decide)) rfl (Qgi N)
noncomputable def Q2p (N:Nat):Fun [.u8,.u8] (Option (ResT [.bool])):=fun(x x_1:UInt8)=>Option.bind (Q33 N x) fun(y:Bool)=>bif y then Option.bind (Q33 N x_1) fun
 (y:Bool)=>bif !y then some true else some (decide (x < x_1)) else some (decide (x < x_1))
theorem Qho (N:Nat):runF Tryz.prog [Qgc N] [] N Tryz.f316 .lf [.u8,.u8] [.bool] = Q2p N:=by kernel_rfl
noncomputable def Q9w (N:Nat):Ent Tryz.prog:=mkFn 316 Tryz.f316 _ [.u8,.u8] [.bool] (Q2p N) mixed Tryz.func316 (.mk' Tryz.func316 rfl (by decide)) rfl (Qho N)
noncomputable def Q5c (N:Nat):Fun [.str] (Option (ResT [.bool])):=fun(x:List UInt8)=>some (x != x)
noncomputable def Q5v (N:Nat):Fun [.str,.str] (Option (ResT [.bool])):=fun(x x_1:List UInt8)=>Option.bind (Q5c N x) fun(y:Bool)=>bif y then Option.bind (Q5c N
 x_1) fun(y:Bool)=>bif !y then some true else some (Op.bytesLess x x_1) else some (Op.bytesLess x x_1)
end Go.Proofs.Xu
namespace Go.Proofs.Xu
open Go Go.Xl Go.Ab Go.Proofs Go.Sort
class OrdS (El:Type) where
 lt:El→El→Bool
 L:El→El→Option Bool
 dflt:El
 hL:∀x y,L x y=some (lt x y)
 swo:SWO lt
 anti:∀x y,lt x y=false→lt y x=false→x=y
noncomputable def Q6u {El:Type} [OrdS El] (N:Nat) :=
 fun(l:List El) (n:Nat) (x x_1:Int) =>
 iter
  (fun(rec:(Int×Unit)×Unit×Unit×List El×Unit→Option (List El×Unit))
    (z:(Int×Unit)×Unit×Unit×List El×Unit) =>
   bif decide (z.1.1 < x_1) then
    iter
     (fun(rec_1:(Int×Unit)×Unit×Unit×List El×Unit→Option (List El×Unit))
       (z_1:(Int×Unit)×Unit×Unit×List El×Unit) =>
      Q53
       (fun(z:Unit×Unit×Unit×Unit) =>
        bif
          decide (0≤IntKind.i64.wrap (z_1.1.1 - 1)) &&
           decide (IntKind.i64.wrap (z_1.1.1 - 1) < (↑n:Int)) then
         z_1.2.2.2.1[0+(IntKind.i64.wrap (z_1.1.1 - 1)).toNat]?.bind fun(e:El) =>
          bif decide (0≤z_1.1.1) && decide (z_1.1.1 < (↑n:Int)) then
           z_1.2.2.2.1[0+z_1.1.1.toNat]?.bind fun(e_1:El) =>
            bif decide (0≤z_1.1.1) && decide (z_1.1.1 < (↑n:Int)) then
             z_1.2.2.2.1[0+z_1.1.1.toNat]?.bind fun(e_2:El) =>
              bif
                decide (0≤IntKind.i64.wrap (z_1.1.1 - 1)) &&
                 decide (IntKind.i64.wrap (z_1.1.1 - 1) < (↑n:Int)) then
               (z_1.2.2.2.1.set (0 + z_1.1.1.toNat)
                   e)[0+(IntKind.i64.wrap (z_1.1.1 - 1)).toNat]?.bind
                fun(e_3:El) =>
                rec_1
                 ((IntKind.i64.wrap (z_1.1.1 - 1),()),(),(),
                  (z_1.2.2.2.1.set (0+z_1.1.1.toNat) e).set
                   (0+(IntKind.i64.wrap (z_1.1.1 - 1)).toNat) e_1,
                  ())
              else none
            else none
          else none
        else none)
       fun(k:Unit×Unit×Unit×Unit→Option (List El×Unit)) =>
       bif decide (x < z_1.1.1) then
        bif decide (0≤z_1.1.1) && decide (z_1.1.1 < (↑n:Int)) then
         z_1.2.2.2.1[0+z_1.1.1.toNat]?.bind fun(e:El) =>
          bif
            decide (0≤IntKind.i64.wrap (z_1.1.1 - 1)) &&
             decide (IntKind.i64.wrap (z_1.1.1 - 1) < (↑n:Int)) then
           z_1.2.2.2.1[0+(IntKind.i64.wrap (z_1.1.1 - 1)).toNat]?.bind
            fun(e_1:El) =>
            Option.bind (OrdS.L e e_1) fun(y:Bool) =>
             bif y then k ((),(),(),())
             else rec ((IntKind.i64.wrap (z.1.1+1),()),(),(),z_1.2.2.2.1,())
          else none
        else none
       else rec ((IntKind.i64.wrap (z.1.1+1),()),(),(),z_1.2.2.2.1,()))
     N ((z.1.1,()),(),(),z.2.2.2.1,())
   else some (z.2.2.2.1,()))
  N ((IntKind.i64.wrap (x+1),()),(),(),l,())
end Go.Proofs.Xu
namespace Go.Proofs.Xu
open Go Go.Xl Go.Ab Go.Proofs Go.Sort
theorem inR' {a n:Nat} (h:a < n):(decide (0≤(a:Int)) && decide ((a:Int) < (n:Int)))=true:=by simp; omega
theorem Qy9 {a b:Nat} (h:b≤a) (h' : a < 9223372036854775808):IntKind.i64.wrap ((a:Int) - (b:Int))=((a - b:Nat):Int):=by
 rw[show(a:Int) - (b:Int)=((a - b:Nat):Int) by omega,Qyp (by omega)]
theorem dlt {a b:Nat} (h:a < b):decide ((a:Int) < (b:Int))=true:=by simp; omega
abbrev St1:Type:=(Int×Unit)×Unit×Unit×Unit
abbrev st1 (i:Nat):St1:=(((i:Int),()),(),(),())
theorem Qz2 {n:Nat} (h:n < 18446744073709551616):IntKind.u64.wrap (n:Int)=(n:Int):=by
 simp[IntKind.wrap,IntKind.bits,IntKind.signed]; omega
section
variable {El:Type} [OrdS El]
instance elInh:Inhabited El:=⟨OrdS.dflt⟩
def ltU (x y:El):Bool:=OrdS.lt x y
theorem Qzh (x y:El):OrdS.L x y=some (ltU x y):=OrdS.hL x y
def swL (l:List El) (i j:Nat):List El:=(swp l.toArray i j).toList
theorem Qzp {l:List El} {i j:Nat} (hi:i < l.length) (hj:j < l.length):(l.set i l[j]).set j l[i] = swL l i j:=by
 unfold swL swp
 simp[hi,hj]
theorem Quo (l:List El) (i j:Nat):(swL l i j).length=l.length:=by simp[swL,swp]
def PermL (a b:Nat) (l l' : List El):Prop:=PermIn a b l.toArray l'.toArray
theorem PermL.len {a b:Nat} {l l' : List El} (h:PermL a b l l'):l'.length=l.length:=by simpa using h.1
theorem PermL.refl (a b:Nat) (l:List El):PermL a b l l:=permIn_refl _ _ _
theorem PermL.trans {a b:Nat} {l l' l'' : List El} (h:PermL a b l l') (h' : PermL a b l' l''):PermL a b l l'':=permIn_trans _ _ _ _ _ h h'
theorem PermL.swap {a b i j:Nat} {l:List El} (h1:a≤i) (h2:i < b) (h3:a≤j) (h4:j < b) (hb:b≤l.length):PermL a b l (swL l i j):=by
 have:=swp_permIn (α:=El) l.toArray a b i j h1 h2 h3 h4 (by simpa using hb)
 simpa[PermL,swL] using this
theorem Qnw {l:List El} {i j:Nat} (hi:i < l.length) (hj:j < l.length):(l.set i l[j])[j]? = some l[j]:=by
 by_cases h:i=j
 ·subst h; simp[hi]
 ·simp[List.getElem?_set,h,hj]
theorem getA {l:List El} {i:Nat} (h:i < l.length):l.toArray[i]! = l[i]:=by simp[h]
theorem swA (l:List El) (i j:Nat):swp l.toArray i j=(swL l i j).toArray:=by simp[swL]
theorem Qhi (N:Nat) (l:List El) (a b len:Nat) (hlen:l.length=len) (hab:a≤b) (hb:b≤len) (hl:len≤1000000000000) (hN:1000000000000 < N) :
  Q6u N l len a b=some ((insertionSort ltU l.toArray a b).toList,()):=by
 unfold Q6u insertionSort
 rw[Q3i (by omega)]
 refine(Q79 (G:=fun z=>some ((insOuter ltU a b z.1.1.toNat z.2.2.2.1.toArray).toList,())) (fun q z=>∃(i:Nat) (m:List El),z=(((i:Int),()),(),(),m,())∧m.length=len∧a < i∧i≤len+1∧q=b - i) ?_ N (b - (a+1)) _ ⟨a+1,l,rfl,hlen,by omega,by omega,rfl⟩ (by omega)).trans (by simp)
 rintro q z rec ⟨i,m,rfl,hm,hi,hi2,rfl⟩ ih
 simp only[Int.toNat_natCast]
 rw[insOuter]
 by_cases h:i < b
 ·have d:decide ((i:Int) < (b:Int))=true:=by simp; omega
  rw[if_pos h]
  simp only[d,cond_true]
  have hn:∀m' : List El,m'.length=len→rec ((((i+1:Nat):Int),()),(),(),m',())=some ((insOuter ltU a b (i+1) m'.toArray).toList,()):=fun m' h'=>ih (b - (i+1)) _ (by omega) ⟨i+1,m',rfl,h',by omega,by omega,rfl⟩
  refine(Q79 (G:=fun z=>some ((insOuter ltU a b (i+1) (insInner ltU a z.1.1.toNat z.2.2.2.1.toArray)).toList,())) (fun q z=>∃(m:List El),z=(((q:Int),()),(),(),m,())∧m.length=len∧q < len∧a≤q) ?_ N i _ ⟨m,rfl,hm,by omega,by omega⟩ (by omega)).trans (by simp)
  rintro j z rec2 ⟨m,rfl,hm,hj,haj⟩ ih2
  by_cases hj0:a < j
  ·obtain⟨k,rfl⟩:∃k,j=k+1:=⟨j - 1,by omega⟩
   have d2:decide ((a:Int) < ((k+1:Nat):Int))=true:=by simp; omega
   have w:IntKind.i64.wrap (((k+1:Nat):Int) - 1)=(k:Int):=by rw[Qxy (by omega) (by omega)]; rfl
   have f1:k+1 < m.length:=by omega
   have f0:k < m.length:=by omega
   have hgt:decide (k+1 > a)=true:=by simp; omega
   have hn2:=ih2 k (((k:Int),()),(),(),swL m (k+1) k,()) (by omega) ⟨_,rfl,by rw[Quo,hm],by omega,by omega⟩
   simp only[Q53,d2,cond_true,w,← hm,inR' f1,inR' f0,Nat.zero_add,Int.toNat_natCast,List.getElem?_eq_getElem f1,List.getElem?_eq_getElem f0,Option.bind_some,Qzh,insInner,hgt,Bool.true_and,getA f1,getA f0,Q3i (show i+1 < 9223372036854775808 by omega),Qnw f1 f0,Qzp f1 f0,hn2,swA]
   cases ltU m[k+1] m[k] with
   | true=>simp
   | false=>simp only[cond_false,Bool.false_eq_true,if_false]; exact hn m hm
  ·have:j=a:=by omega
   subst this
   have d2:decide ((j:Int) < (j:Int))=false:=by simp
   simp only[Q53,d2,cond_false,Q3i (show i+1 < 9223372036854775808 by omega),hn m hm,Int.toNat_natCast]
   cases j with
   | zero=>rfl
   | succ k=>simp[insInner]
 ·have d:decide ((i:Int) < (b:Int))=false:=by simp; omega
  rw[if_neg h]
  simp only[d,cond_false]
theorem Qsw:SWO (ltU (El:=El)):=OrdS.swo
def Qyz (a b:Nat) (l:List El):Prop:=SortedIn ltU a b l.toArray
def Qvz (a b:Nat) (l:List El):Prop:=Below ltU a b l.toArray
theorem PermL.below {a b:Nat} {l m:List El} (h:PermL a b l m) (hb:b≤l.length) (hB:Qvz a b l):Qvz a b m :=
 Below.perm (α:=El) hB (by simpa using hb) h
theorem Qka (l:List El) (a b:Nat) (hab:a≤b) (hb:b≤l.length):PermL a b l (insertionSort ltU l.toArray a b).toList∧Qyz a b (insertionSort ltU l.toArray a b).toList:=by
 have:=insertionSort_holds (lt:=ltU) Qsw l.toArray a b hab (by simpa using hb)
 exact⟨this.1,this.2⟩
section
variable {N len:Nat} {G:Nat→List El→Nat→Int→Int→Int→Option (List El×Unit)}
end
def srt (l:List El):List El:=l.mergeSort (fun x y=>!ltU y x)
end
end Go.Proofs.Xu
namespace Go.Proofs.Xu
open Go Go.Xl Go.Ab Go.Proofs Go.Sort
theorem Q10f (N:Nat) (x y:Int):Q5t N x y=some (decide (x < y)):=by
 simp only[Q5t,Q59,cond_eq_ite,Option.bind_some]
 grind
theorem less8 (N:Nat) (x y:UInt8):Q2p N x y=some (decide (x < y)):=by
 simp only[Q2p,Q33,cond_eq_ite,Option.bind_some]
 grind
theorem lessS (N:Nat) (x y:List UInt8):Q5v N x y=some (Op.bytesLess x y):=by
 simp only[Q5v,Q5c,cond_eq_ite,Option.bind_some]
 grind
namespace S
theorem Qfl:∀x y:List UInt8,Op.bytesLess x y=decide (x < y)
 | [],[]=>by simp[Op.bytesLess]
 | [],_ :: _=>by simp[Op.bytesLess]
 | _ :: _,[]=>by simp[Op.bytesLess]
 | a :: r,b :: s=>by
  simp only[Op.bytesLess,Qfl r s]
  by_cases h:a < b
  ·simp[h,List.cons_lt_cons_iff]
  ·by_cases h2:b < a
   ·have:a≠b:=fun e=>by subst e; exact h h2
    simp[h,h2,List.cons_lt_cons_iff,this]
   ·have:a=b:=UInt8.toNat_inj.1 (by rw[UInt8.lt_iff_toNat_lt] at h h2; omega)
    subst this
    simp[List.cons_lt_cons_iff,UInt8.lt_irrefl]
theorem bl_ltStr:Op.bytesLess=ltStr:=by
 funext x y
 exact Qfl x y
end S
noncomputable instance ordI:OrdS Int where
 lt x y:=decide (x < y)
 L:=Q5t 0
 dflt:=0
 hL:=Q10f 0
 swo :=
  {irrefl:=fun x=>by simp
   trans:=fun x y z h1 h2=>by
    simp only[decide_eq_true_eq] at *
    exact Int.lt_trans h1 h2
   ntrans:=fun x y z h1 h2=>by
    simp only[decide_eq_false_iff_not] at *
    exact Int.not_lt.2 (Int.le_trans (Int.not_lt.1 h2) (Int.not_lt.1 h1)) }
 anti x y h1 h2:=by
  simp only[decide_eq_false_iff_not] at *
  exact Int.le_antisymm (Int.not_lt.1 h2) (Int.not_lt.1 h1)
noncomputable instance ordB:OrdS UInt8 where
 lt x y:=decide (x < y)
 L:=Q2p 0
 dflt:=0
 hL:=less8 0
 swo :=
  {irrefl:=fun x=>by simp
   trans:=fun x y z h1 h2=>by
    simp only[decide_eq_true_eq,UInt8.lt_iff_toNat_lt] at *
    exact Nat.lt_trans h1 h2
   ntrans:=fun x y z h1 h2=>by
    simp only[decide_eq_false_iff_not,UInt8.lt_iff_toNat_lt] at *
    exact Nat.not_lt.2 (Nat.le_trans (Nat.not_lt.1 h2) (Nat.not_lt.1 h1)) }
 anti x y h1 h2:=by
  simp only[decide_eq_false_iff_not,UInt8.lt_iff_toNat_lt] at *
  exact UInt8.toNat_inj.1 (Nat.le_antisymm (Nat.not_lt.1 h2) (Nat.not_lt.1 h1))
noncomputable instance ordS:OrdS (List UInt8) where
 lt:=Op.bytesLess
 L:=Q5v 0
 dflt:=[]
 hL:=lessS 0
 swo:=by rw[S.bl_ltStr]; exact swo_ltStr
 anti x y h1 h2:=by
  rw[S.bl_ltStr] at h1 h2
  simp only[ltStr,decide_eq_false_iff_not] at *
  exact List.le_antisymm (List.not_lt.1 h2) (List.not_lt.1 h1)
end Go.Proofs.Xu
namespace Go.Proofs.Xu
open Go Go.Xl Go.Ab Go.Proofs Go.Sort
noncomputable def F0_slices_insertionSortOrdered_uint8 (N:Nat):FunA [.d (.int .i64),.d (.int .i64)] (Option (ResT (rkTys .u8 []))):=fun(x x_1:Int)=>iter (fun(rec:(Int×Unit)×Unit×Unit×Unit→Option
 Unit) (z:(Int×Unit)×Unit×Unit×Unit)=>bif decide (z.1.1 < x_1) then iter (fun(rec_1:(Int×Unit)×Unit×Unit×Unit→Option Unit) (z_1:(Int×Unit)×Unit×Unit×Unit)=>Q53 (fun(z:Unit ×
 Unit×Unit×Unit)=>(at? [] (IntKind.i64.wrap (z_1.1.1 - 1))).bind fun(e:UInt8)=>(at? [] z_1.1.1).bind fun(e:UInt8)=>(at? [] z_1.1.1).bind fun(e:UInt8)=>none) fun(k:Unit×Unit×Unit ×
 Unit→Option Unit)=>bif decide (x < z_1.1.1) then (at? [] z_1.1.1).bind fun(e:UInt8)=>(at? [] (IntKind.i64.wrap (z_1.1.1 - 1))).bind fun(e_1:UInt8)=>Option.bind (Q2p N e e_1) fun(y
 : Bool)=>bif y then k ((),(),(),()) else rec ((IntKind.i64.wrap (z.1.1+1),()),(),(),()) else rec ((IntKind.i64.wrap (z.1.1+1),()),(),(),())) N ((z.1.1,()),(),(),()) else some ()) N
 ((IntKind.i64.wrap (x+1),()),(),(),())
theorem Q5d (N:Nat):runO0 Tryz.prog [Q9w N] [] N Tryz.f310 (.seq .lf (.blk (.loop ⟨[(6,.d (.int .i64))],[],[0,1,2],[],[],[]⟩ (.seq .lf (.seq (.blk (.seq .lf (.blk (.loop ⟨[(7,.d (.int .i64))],[],[0,1,2,6],[],[],[]⟩ (.join ⟨[],[],[0,1,2,6,7],[],[],[]⟩ .lf .lf))))) .lf))))) .u8 [.d (.int .i64),.d (.int .i64)] [] = F0_slices_insertionSortOrdered_uint8 N:=by kernel_rfl
noncomputable def Q17 (N:Nat):List (.u8:Ty).T→Nat→FunA [.d (.int .i64),.d (.int .i64)] (Option (List (.u8:Ty).T×ResO [])):=Q6u (El:=UInt8) N
theorem Q5o (N:Nat):runO Tryz.prog [Q9w N] [] N Tryz.f310 (.seq .lf (.blk (.loop ⟨[(6,.d (.int .i64))],[],[0,1,2],[],[],[(1,.arr .u8)]⟩ (.seq .lf (.seq (.blk (.seq .lf (.blk (.loop ⟨[(7,.d (.int .i64))],[],[0,1,2,6],[],[],[(1,.arr .u8)]⟩ (.join ⟨[],[],[0,1,2,6,7],[1],[],[]⟩ .lf .lf))))) .lf))))) .u8 [.d (.int .i64),.d (.int .i64)] [] = Q17 N:=by kernel_rfl
noncomputable def Q2w (N:Nat):Ent Tryz.prog:=mkO2 310 Tryz.f310 _ _ .u8 [.d (.int .i64),.d (.int .i64)] [] (Q17 N) (F0_slices_insertionSortOrdered_uint8 N) mixed Tryz.func310 (.mk' Tryz.func310 rfl (by decide)) rfl (Q5o N) (Q5d N)
noncomputable def Qfy (N:Nat):List (.u8:Ty).T→Nat→FunA [.d (.int .i64),.d (.int .i64),.d (.int .i64)] (Option (List (.u8:Ty).T×ResO [])):=fun(l:List UInt8) (n:Nat) (x x_1 x_2:Int)=>iter
 (fun(rec:(Int×Int×Int×Bool×Bool×Unit)×Unit×Unit×List UInt8×Unit→Option (List UInt8×Unit)) (z:(Int×Int×Int×Bool×Bool×Unit)×Unit×Unit×List UInt8×Unit)=>bif decide
 (IntKind.i64.wrap (z.1.2.1 - z.1.1)≤12) then Option.bind (Q17 N z.2.2.2.1 n z.1.1 z.1.2.1) fun(y:List UInt8×Unit)=>some (y.1,()) else none) N ((x,
 x_1,x_2,true,true,()),(),(),l,())
theorem Qz4 (N:Nat):runO Tryz.prog [Q2w N] [] N Tryz.f292 (.seq .lf (.seq .lf (.blk (.loop ⟨[(1,.d (.int .i64)),(2,.d (.int .i64)),(3,.d (.int .i64)),(8,.d .bool),(9,.d .bool)],[],[0],[],[],[(1,.arr .u8)]⟩ (.blk (.seq .lf (.seq (.seq .lf (.cond .lf .stop)) .lf))))))) .u8 [.d (.int .i64),.d (.int .i64),.d (.int .i64)] [] = Qfy N:=by kernel_rfl
noncomputable def F0_pdq12 (N:Nat):FunA [.d (.int .i64),.d (.int .i64),.d (.int .i64)] (Option (ResT (rkTys .u8 []))):=fun(x x_1 x_2:Int)=>iter (fun(rec:(Int×Int×Int×Bool×Bool×Unit)×Unit ×
 Unit×Unit→Option Unit) (z:(Int×Int×Int×Bool×Bool×Unit)×Unit×Unit×Unit)=>bif decide (IntKind.i64.wrap (z.1.2.1 - z.1.1)≤12) then Option.bind (F0_slices_insertionSortOrdered_uint8 N
 z.1.1 z.1.2.1) fun(y:Unit)=>some () else none) N ((x,x_1,x_2,true,true,()),(),(),())
theorem Qya (N:Nat):runO0 Tryz.prog [Q2w N] [] N Tryz.f292 (.seq .lf (.seq .lf (.blk (.loop ⟨[(1,.d (.int .i64)),(2,.d (.int .i64)),(3,.d (.int .i64)),(8,.d .bool),(9,.d .bool)],[],[0],[],[],[]⟩ (.blk (.seq .lf (.seq (.seq .lf (.cond .lf .stop)) .lf))))))) .u8 [.d (.int .i64),.d (.int .i64),.d (.int .i64)] [] = F0_pdq12 N:=by kernel_rfl
noncomputable def e_pdq12 (N:Nat):Ent Tryz.prog:=mkO2 292 Tryz.f292 _ _ .u8 [.d (.int .i64),.d (.int .i64),.d (.int .i64)] [] (Qfy N) (F0_pdq12 N) mixed Tryz.func292 (.mk' Tryz.func292 rfl (by decide)) rfl (Qz4 N) (Qya N)
noncomputable def F0_Sort12 (N:Nat):FunA [] (Option (ResT (rkTys .u8 []))):=Option.bind (F_math_bits_Len N 0) fun(y:Int)=>Option.bind (F0_pdq12 N 0 0 y) fun(y:Unit)=>some ()
theorem E0_Sort12 (N:Nat):runO0 Tryz.prog [e_math_bits_Len N,e_pdq12 N] [] N Tryz.f251 .lf .u8 [] [] = F0_Sort12 N:=by kernel_rfl
noncomputable def F_Sort12 (N:Nat):List (.u8:Ty).T→Nat→FunA [] (Option (List (.u8:Ty).T×ResO [])):=fun(l:List UInt8) (n:Nat)=>Option.bind (F_math_bits_Len N (IntKind.u64.wrap (↑n:Int))) fun(y :
 Int)=>Option.bind (Qfy N l n 0 (↑n:Int) y) fun(y:List UInt8×Unit)=>some (y.1,())
theorem E_Sort12 (N:Nat):runO Tryz.prog [e_math_bits_Len N,e_pdq12 N] [] N Tryz.f251 .lf .u8 [] [] = F_Sort12 N:=by kernel_rfl
namespace B
noncomputable def ltU (x y:UInt8):Bool:=decide (x < y)
noncomputable def srt (l:List UInt8):List UInt8:=l.mergeSort (fun x y=>!ltU y x)
end B
theorem len12 (N:Nat):∀k:Nat,k≤12→∃y,F_math_bits_Len N (k:Int)=some y
 | 0,_=>⟨(0:Int),by show F_math_bits_Len N 0=some (0:Int); kernel_rfl⟩
 | 1,_=>⟨(1:Int),by show F_math_bits_Len N 1=some (1:Int); kernel_rfl⟩
 | 2,_=>⟨(2:Int),by show F_math_bits_Len N 2=some (2:Int); kernel_rfl⟩
 | 3,_=>⟨(2:Int),by show F_math_bits_Len N 3=some (2:Int); kernel_rfl⟩
 | 4,_=>⟨(3:Int),by show F_math_bits_Len N 4=some (3:Int); kernel_rfl⟩
 | 5,_=>⟨(3:Int),by show F_math_bits_Len N 5=some (3:Int); kernel_rfl⟩
 | 6,_=>⟨(3:Int),by show F_math_bits_Len N 6=some (3:Int); kernel_rfl⟩
 | 7,_=>⟨(3:Int),by show F_math_bits_Len N 7=some (3:Int); kernel_rfl⟩
 | 8,_=>⟨(4:Int),by show F_math_bits_Len N 8=some (4:Int); kernel_rfl⟩
 | 9,_=>⟨(4:Int),by show F_math_bits_Len N 9=some (4:Int); kernel_rfl⟩
 | 10,_=>⟨(4:Int),by show F_math_bits_Len N 10=some (4:Int); kernel_rfl⟩
 | 11,_=>⟨(4:Int),by show F_math_bits_Len N 11=some (4:Int); kernel_rfl⟩
 | 12,_=>⟨(4:Int),by show F_math_bits_Len N 12=some (4:Int); kernel_rfl⟩
 | n+13,h=>absurd h (by omega)
theorem Sort12_eq (N:Nat) (l:List UInt8) (hl:l.length≤12) (hN:1000000000000 < N):F_Sort12 N l l.length=some (B.srt l,()):=by
 unfold F_Sort12 Qfy
 rw[Qz2 (by omega)]
 obtain⟨y,e⟩:=len12 N l.length hl
 rw[e,Option.bind_some]
 obtain⟨M,hM⟩:∃M,N=M+1:=⟨N - 1,by omega⟩
 have e2:=Qhi (El:=UInt8) N l 0 l.length l.length rfl (by omega) (Nat.le_refl _) (by omega) hN
 obtain⟨h1,h2⟩:=Qka (El:=UInt8) l 0 l.length (by omega) (Nat.le_refl _)
 have e3:Q17 N l l.length 0 (l.length:Int)=some ((insertionSort Xu.ltU l.toArray 0 l.length).toList,()):=e2
 conv=>lhs; arg 1; rw[show N=M+1 from hM]
 simp only[iter]
 rw[← hM]
 have hw:IntKind.i64.wrap ((l.length:Int) - 0)=(l.length:Int):=by
  rw[Int.sub_zero]; have:=Qy9 (a:=l.length) (b:=0) (by omega) (by omega); simpa using this
 have d:decide ((l.length:Int)≤12)=true:=by simp; omega
 simp only[hw,d,cond_true,e3,Option.bind_some]
 have:=sorted_unique_holds (lt:=Xu.ltU) Qsw (fun x y h1 h2=>OrdS.anti x y h1 h2) l.toArray (insertionSort Xu.ltU l.toArray 0 l.length).toList.toArray (show PermIn 0 l.toArray.size l.toArray _ by rw[List.size_toArray]; exact h1) (show SortedIn Xu.ltU 0 l.toArray.size _ by rw[List.size_toArray]; exact h2)
 simp only[List.toList_toArray] at this
 rw[this]
 rfl
end Go.Proofs.Xu
namespace Go.Proofs.Xg
open Go Go.Ab Go.Xl Go.Proofs
theorem seqI:SeqI where
 map:=tyI_I (by kernel_rfl)
 und:=⟨_,_,Tryz.underlying296⟩
 sl:=tyI_I (by kernel_rfl)
noncomputable def srt8 (l:List UInt8):List UInt8:=Xu.B.srt l
theorem Qez (l:List UInt8):(srt8 l).Perm l:=List.mergeSort_perm l _
theorem Qh6 (l:List UInt8):(srt8 l).Pairwise (fun x y=>x≤y):=by
 have:=List.pairwise_mergeSort (le:=fun x y=>!Xu.B.ltU y x) (by
  intro a b c h1 h2
  simp only[Xu.B.ltU,Bool.not_eq_true',decide_eq_false_iff_not,UInt8.lt_iff_toNat_lt] at *
  omega) (by
  intro a b
  simp only[Xu.B.ltU,Bool.or_eq_true,Bool.not_eq_true',decide_eq_false_iff_not,UInt8.lt_iff_toNat_lt]
  omega) l
 refine this.imp ?_
 intro a b h
 simp only[Xu.B.ltU,Bool.not_eq_true',decide_eq_false_iff_not,UInt8.lt_iff_toNat_lt] at h
 rw[UInt8.le_iff_toNat_le]; omega
theorem Qh8 {l l' : List UInt8} (h:l.Perm l') (hs:l'.Pairwise (fun x y=>x≤y)):srt8 l=l':=by
 refine List.Perm.eq_of_pairwise (le:=fun x y:UInt8=>x≤y) (fun a b _ _ h1 h2=>?_) (Qh6 l) hs ((Qez l).trans h)
 rw[UInt8.le_iff_toNat_le] at h1 h2
 exact UInt8.toNat_inj.1 (by omega)
theorem len0 (N:Nat):Xu.F_math_bits_Len N 0=some 0:=by kernel_rfl
theorem Qzg:Xu.F0_Sort12 2000000000000=some ():=by
 unfold Xu.F0_Sort12 Xu.F0_pdq12
 rw[len0,Option.bind_some]
 obtain⟨N,hN⟩:∃N,(2000000000000:Nat)=N+1:=⟨1999999999999,rfl⟩
 rw[hN]
 unfold Xu.F0_slices_insertionSortOrdered_uint8
 simp only[iter]
 rfl
theorem sortI:SortI srt8 where
 sorts l hl hlen:=by
  have h:=Qih (P:=Tryz.prog) (Γ:=[Xu.e_pdq12 2000000000000,Xu.e_math_bits_Len 2000000000000]) (own:=[]) (N:=2000000000000) (an:=.lf) (ks:=[]) (rs:=[]) Xu.mixed Tryz.func251 rfl l l.length
  have e:runO Tryz.prog [Xu.e_pdq12 2000000000000,Xu.e_math_bits_Len 2000000000000] [] 2000000000000 Tryz.f251 .lf .u8 [] [] = Xu.F_Sort12 2000000000000:=Xu.E_Sort12 2000000000000
  rw[e] at h
  exact h (srt8 l,()) (Xu.Sort12_eq 2000000000000 l hlen (by decide))
 nil:=by
  have h:=Qhc (P:=Tryz.prog) (Γ:=[Xu.e_pdq12 2000000000000,Xu.e_math_bits_Len 2000000000000]) (own:=[]) (N:=2000000000000) (an:=.lf) (t:=.u8) (ks:=[]) (rs:=[]) Xu.mixed Tryz.func251 rfl
  have e:runO0 Tryz.prog [Xu.e_pdq12 2000000000000,Xu.e_math_bits_Len 2000000000000] [] 2000000000000 Tryz.f251 .lf .u8 [] [] = Xu.F0_Sort12 2000000000000:=Xu.E0_Sort12 2000000000000
  rw[e] at h
  exact h () Qzg
 len l:=(Qez l).length_eq
 perm l l' h:=Qh8 (h.trans (Qez l').symm) (Qh6 l')
noncomputable def insU (x:UInt8) (l:List UInt8):List UInt8:=List.rec [x] (fun y r ih=>cond (Nat.ble x.toNat y.toNat) (x :: y :: r) (y :: ih)) l
noncomputable def isrt8 (l:List UInt8):List UInt8:=List.rec [] (fun x _ ih=>insU x ih) l
theorem Qn4 (x y:UInt8) (r:List UInt8):insU x (y :: r)=cond (Nat.ble x.toNat y.toNat) (x :: y :: r) (y :: insU x r):=rfl
theorem Qf9 (x:UInt8):∀l:List UInt8,(insU x l).Perm (x :: l)
 | []=>.refl _
 | y :: r=>by
  rw[Qn4]
  cases Nat.ble x.toNat y.toNat with
  | true=>exact .refl _
  | false=>exact((Qf9 x r).cons y).trans (.swap x y r)
theorem Qgu (x:UInt8):∀l:List UInt8,l.Pairwise (fun x y=>x≤y)→(insU x l).Pairwise (fun x y=>x≤y)
 | [],_=>by simp[insU]
 | y :: r,h=>by
  rw[Qn4]
  cases hb:Nat.ble x.toNat y.toNat with
  | true =>
   have hle:=Nat.le_of_ble_eq_true hb
   simp only[cond_true]
   refine List.pairwise_cons.2 ⟨fun z hz=>?_,h⟩
   rw[UInt8.le_iff_toNat_le]
   rcases List.mem_cons.1 hz with rfl | hz
   ·exact hle
   ·have:=(List.pairwise_cons.1 h).1 z hz
    rw[UInt8.le_iff_toNat_le] at this
    omega
  | false =>
   have hlt : ¬x.toNat≤y.toNat:=fun hle=>by rw[Nat.ble_eq_true_of_le hle] at hb; cases hb
   simp only[cond_false]
   refine List.pairwise_cons.2 ⟨fun z hz=>?_,Qgu x r (List.pairwise_cons.1 h).2⟩
   rw[UInt8.le_iff_toNat_le]
   rcases List.mem_cons.1 ((Qf9 x r).subset hz) with rfl | hz
   ·omega
   ·have:=(List.pairwise_cons.1 h).1 z hz
    rwa [UInt8.le_iff_toNat_le] at this
theorem Qkb:∀l:List UInt8,(isrt8 l).Perm l
 | []=>.refl _
 | x :: r=>(Qf9 x (isrt8 r)).trans ((Qkb r).cons x)
theorem Qfr:∀l:List UInt8,(isrt8 l).Pairwise (fun x y=>x≤y)
 | []=>.nil
 | x :: r=>Qgu x _ (Qfr r)
theorem Qzw:SortI isrt8:=by
 have:isrt8=srt8:=funext fun l=>(Qh8 (Qkb l).symm (Qfr l)).symm
 rw[this]; exact sortI
theorem Quc (w:World) (mb:Nat):Calls Tryz.prog 225 #[.map (some mb)] w fun r w'=>r = .returned (.func (.func 252) #[] #[.pointer (some ⟨w.heap.size,0,none⟩)])∧w' = w.alloc (.cells #[.map (some mb)] 296):=by
 have hF:∀f,Fence.wide.fn f:=fun _=>trivial
 refine(callsIn_wide (n:=0)).1 (callsIn_of_wp Tryz.func225 rfl trivial ?_ rfl)
 generalize hA:({ tmps:=#[.map (some mb)]++Array.replicate (Tryz.f225.ntmps - (#[Value.map (some mb)] : Array Value).size) undef,defers:=[] }:Act)=A
 have a1:A.tmps.size=4:=by rw[← hA]; simp[Tryz.f225]
 have a2:A.defers = []:=by rw[← hA]
 have a3:A.eval (.tmp 0) = .map (some mb):=by rw[← hA]; simp[Act.eval,Tryz.f225,Array.getD]
 clear hA
 refine wpIn_seq (wpIn_region_list ?_)
 refine Qk hF (v:=.pointer (some ⟨w.heap.size,0,none⟩)) (w':=w.alloc (.cells #[.map (some mb)] 296)) rfl (by simp) ?_ ?_
 ·simp only[execOp,a3]
  simp[Instr.box,newVar,Go.newRow,Value.cells]
 refine Qk hF (v:=.nilFunc) (w':=w.alloc (.cells #[.map (some mb)] 296)) rfl (by simp) rfl (wpListIn_nil ?_)
 refine wpIn_seq (wpIn_region_list ?_)
 refine Qk hF (v:=.func (.func 252) #[] #[.pointer (some ⟨w.heap.size,0,none⟩)]) (w':=w.alloc (.cells #[.map (some mb)] 296)) rfl (by simp) ?_ ?_
 ·simp only[execOp]
  have:(Act.put (Act.put A (some 1) (.pointer (some ⟨w.heap.size,0,none⟩))) (some 2) .nilFunc).eval (.tmp 1) = .pointer (some ⟨w.heap.size,0,none⟩):=by
   rw[Qe (by decide),Qs (by omega)]
  simp[Instr.makeFunc,this]
 refine Qk hF (v:=.func (.func 252) #[] #[.pointer (some ⟨w.heap.size,0,none⟩)]) (w':=w.alloc (.cells #[.map (some mb)] 296)) rfl (by simp) ?_ (wpListIn_nil (wpIn_ret ?_))
 ·simp only[execOp]
  rw[Qs (by rw[Q7,Q7]; omega)]
  rfl
 ·exact Qku rfl a2 (Qs (by rw[Q7,Q7,Q7]; omega)) ⟨rfl,rfl⟩
noncomputable def Ql9 {R:Type} (o:Oper) (st:XSt) (vs:List XV) (K:Out→Option R):Option R :=
 match o.op,vs,newName o with
 | .call c,[.nm k .m],some b=>match c.args.toList with
  | [x]=>cond (Nat.beq k b) none (cond (fresh b st) (K ⟨.all,.clo 252 [.nm b (.p 0)],[(x,.nm k .m)],(b,.cells [.nm k .m] (some 296)) :: st.objs,st.live,[b],[b]⟩) none)
  | _=>none
 | _,_,_=>none
theorem Qx4 {st:XSt} {x:Operand} {v:XV} (h:Qh st [x] = some [v]):xeval st x=some v:=by
 simp only[Qh] at h
 split at h
 ·rename_i y ys hy hys
  simp only[Option.some.injEq,List.cons.injEq] at h
  obtain⟨rfl,_⟩:=h
  exact hy
 ·cases h
theorem Qt7 {R:Type} (o:Oper) (st:XSt) (args:Array Operand) (ts:Array TypeId) (vs:List XV) (K:Out→Option R) (r:R)
  (ho:o.op = .call { callee:=.value (.func 225),args:=args,argTypes:=ts }) (hv:Qh st args.toList=some vs) (h:Ql9 o st vs K=some r):∃out,K out=some r∧OpOk Tryz.prog o st out:=by
 unfold Ql9 at h
 rw[ho] at h
 split at h
 ·rename_i c k b hc hb
  cases hc
  split at h
  ·rename_i x hx
   have ha:args = #[x]:=Array.toList_inj.1 hx
   subst ha
   cases hkb:Nat.beq k b with
   | true=>simp[hkb] at h
   | false =>
   have hne:k≠b:=Nat.ne_of_beq_eq_false hkb
   cases hf:fresh b st with
   | false=>simp[hkb,hf] at h
   | true =>
    simp only[hkb,hf,cond_true,cond_false] at h
    obtain⟨h1,h2⟩:=Q32 hf
    have hx':=Qx4 hv
    refine⟨_,h,⟨Qi hx',?_,fun j z hj hz=>?_⟩⟩
    ·intro nm hsm B g w a hr hrd next Q hn
     have e1:=(rd0 hrd).mp_inv
     simp only at e1
     unfold Oper.wp
     rw[Qa2 ho (.mk' Tryz.func225 rfl (by decide))]
     have hc:=Quc w (g.ρ k)
     rw[show(#[x] : Array Operand).map a.eval = #[.map (some (g.ρ k))] by simp[e1]]
     refine hc.mono ?_
     rintro e w' ⟨rfl,rfl⟩
     obtain⟨n1,n2⟩:=hr.newObj (k:=b) (Q31 h1) h2 (.cells #[.map (some (g.ρ k))] 296) (.cells [.nm k .m] (some 296)) (fun g' w' ht hb=>.cells _ _ _ _ hb (by simp) (fun i x v hx hv=>by
      cases i with
      | zero =>
       simp at hx hv; subst hx; subst hv
       refine .nm _ _ _ ?_
       show _=_
       rw[ht.names k (by simpa using hne)]
      | succ i=>simp at hx) (by simp))
     refine hn _ _ _ n1 n2 ?_
     refine .clo 252 _ _ rfl ?_
     intro i x v hx hv
     cases i with
     | zero =>
      simp[asOf,XV.a] at hx hv; subst hx; subst hv
      have:=RA.ptr (g:={ g with ρ:=upd g.ρ b w.heap.size }) (w:=w.alloc (.cells #[.map (some (g.ρ k))] 296)) b 0
      simpa[upd_same] using this
     | succ i=>simp[asOf] at hx
    ·rw[Qo (by simpa using hj)] at hz; exact hz
  ·cases h
 ·cases h
noncomputable def e_maps_Keys (N:Nat):Ent Tryz.prog where
 id:=225
 run:=Ql9
 ok:=Qt7
noncomputable def ks8 (e:MapEntry):UInt8:=match e.key with
 | .int _ n=>UInt8.ofNat n.toNat
 | _=>0
noncomputable def keys8 {vt:Ty} (es:Ents .u8 vt):List UInt8:=isrt8 (es.map fun e=>e.2.1)
noncomputable def Qf3 {R:Type} (o:Oper) (st:XSt) (vs:List XV) (K:Out→Option R):Option R :=
 match o.op,vs with
 | .call c,[.clo 252 [.nm b (.p 0)]]=>match c.args.toList,lk b st.objs with
  | [x],some (.cells [.nm k .m] ty)=>match lk k st.objs with
   | some (.mapt L .u8 vt es clock)=>cond (Nat.ble (fgT es).length 12) (K ⟨.look [b,k],.d (.sl .u8 (keys8 (fgT es))),[(x,.clo 252 [.nm b (.p 0)])],st.objs,st.live,[],[]⟩) none
   | some (.map .u8 vt es clock)=>cond (Nat.ble es.length 12) (K ⟨.look [b,k],.d (.sl .u8 (keys8 es)),[(x,.clo 252 [.nm b (.p 0)])],st.objs,st.live,[],[]⟩) none
   | _=>none
  | _,_=>none
 | _,_=>none
theorem Qmc {vt:Ty} {es:Ents .u8 vt} {clock:Nat} {o:Oper} {x:Operand} {ts:Array TypeId} {X:Store} {b k:Nat} {ty:Option TypeId} (ho:o.op = .call { callee:=.value (.func 224),args:=#[x],argTypes:=ts })
  (hb' : X.objs.lookup b=some (XOb.cells [.nm k .m] ty).o) (hk' : ∀nm B g w,HR nm B g w X→∃ar,MapW .u8 vt g w (g.ρ k) es clock ar) (hlen:es.length≤12) :
  OpT Tryz.prog o [(x,.clo 252 [.ptr b 0])] X X [] (.d (.sl 1 ((keys8 es).map (Ty.ds .u8)))):=by
 intro nm hsm B g w a hr hrd next Q hn
 have e1:=rd0 hrd
 simp only at e1
 have e2:a.eval x = .func (.func 252) #[] #[.pointer (some ⟨g.ρ b,0,none⟩)]:=by
  generalize a.eval x=v at e1
  cases e1 with
  | clo _ _ us hl hus =>
   have h1:us.size=1:=by simpa using hl.symm
   have h2:=hus 0 _ us[0] (by rfl) (by simp[h1])
   have h3:=h2.ptr_inv
   have:us = #[.pointer (some ⟨g.ρ b,0,none⟩)]:=by
    apply Array.ext
    ·simpa using h1
    ·intro i hi1 hi2
     have:i=0:=by omega
     subst this
     simpa using h3
   rw[this]
 unfold Oper.wp
 rw[Qa2 ho (.mk' Tryz.func224 rfl (by decide))]
 rw[show(#[x] : Array Operand).map a.eval = #[.func (.func 252) #[] #[.pointer (some ⟨g.ρ b,0,none⟩)]] by simp[e2]]
 obtain⟨ar,hm⟩:=hk' nm B g w hr
 have hbox:w.cell? ⟨g.ρ b,0,none⟩=some (.map (some (g.ρ k))):=by
  cases hr.objs b _ hb' with
  | cells _ _ arr T h1 h2 h3 h4 =>
   have hpos:0 < arr.size:=by
    simp[asOf] at h2
    omega
   have:=(h3 0 (.mp k) arr[0] rfl (by simp[hpos])).mp_inv
   rw[cell?_cells h1]
   simp[hpos,this]
 have hkeys:ar.toList.map ks8=es.map fun e=>e.2.1:=by
  have:=hm.keys
  have h5:ar.toList.map ks8=(ar.toList.map (·.key)).map fun v=>match v with | .int _ n=>UInt8.ofNat n.toNat | _=>0:=by
   rw[List.map_map]; rfl
  rw[h5,this,List.map_map,List.map_map]
  apply List.map_congr_left
  intro e _
  show UInt8.ofNat ((e.2.1.toNat:Nat):Int).toNat=e.2.1
  simp
 have hM:MapAt w (g.ρ b) (g.ρ k) ar clock ks8:=by
  have hget:∀e ∈ ar,∃(i:Nat),∃y,es[i]? = some y∧ar[i]? = some e:=by
   intro e he
   obtain⟨i,hi⟩:=List.mem_iff_getElem?.1 (Array.mem_toList_iff.2 he)
   have hi' : ar[i]? = some e:=by simpa using hi
   have hlt:i < es.length:=by rw[hm.len]; exact(Array.getElem?_eq_some_iff.1 hi').1
   exact⟨i,es[i],by simp[hlt],hi'⟩
  refine⟨hbox,hm.heap,?_,?_,?_,?_⟩
  ·intro e he
   obtain⟨i,y,hy,hi⟩:=hget e he
   rw[(hm.at' i y e hy hi).1]
   exact hm.lt y (List.mem_of_getElem? hy)
  ·have:ar.toList.map MapEntry.born=es.map (·.1):=by
    apply List.ext_getElem?
    intro i
    rw[List.getElem?_map,List.getElem?_map,Array.getElem?_toList]
    by_cases hi:i < ar.size
    ·have hi' : i < es.length:=by rw[hm.len]; exact hi
     rw[Array.getElem?_eq_getElem hi,List.getElem?_eq_getElem hi']
     have:=(hm.at' i es[i] ar[i] (by simp[hi']) (by simp[hi])).1
     simp[this]
    ·rw[Array.getElem?_eq_none (by omega),List.getElem?_eq_none (by rw[hm.len]; omega)]; rfl
   rw[this]; exact hm.nodup
  ·intro e he
   obtain⟨i,y,hy,hi⟩:=hget e he
   have:=(hm.at' i y e hy hi).2.1
   show e.key=enc8 (ks8 e)
   rw[show ks8 e=y.2.1 by
    unfold ks8
    rw[this]
    show UInt8.ofNat ((y.2.1.toNat:Nat):Int).toNat=y.2.1
    simp]
   rw[this]; rfl
  ·have:=hm.len
   omega
 have h0:HR [] (Base.of { g with β:=fun _=>none } w X0) { g with β:=fun _=>none } w X0 :=
  ⟨by simp,hr.sane,Nat.le_refl _,⟨rfl,rfl,rfl,Nat.le_refl _⟩,.refl _ _,fun b _ _=>⟨rfl,rfl⟩,by simp[X0],by simp[X0],by simp[X0],by simp[X0],by simp[X0],by simp,by simp,by simp,by simp,.off fun _=>rfl⟩
 refine((callsIn_wide (n:=0)).1 (Qox Qzw seqI h0 hM)).mono ?_
 rintro e w' ⟨gc,v,rfl,h1,h2⟩
 obtain⟨h3,h4⟩:=hr.pureCall (gc:=gc) h1
 refine hn _ _ _ h3 h4 ?_
 rw[hkeys] at h2
 cases h2 with
 | d _ _ h=>exact .d _ _ h
theorem Qqi {R:Type} (o:Oper) (st:XSt) (args:Array Operand) (ts:Array TypeId) (vs:List XV) (K:Out→Option R) (r:R)
  (ho:o.op = .call { callee:=.value (.func 224),args:=args,argTypes:=ts }) (hv:Qh st args.toList=some vs) (h:Qf3 o st vs K=some r):∃out,K out=some r∧OpOk Tryz.prog o st out:=by
 unfold Qf3 at h
 rw[ho] at h
 split at h
 ·rename_i c b hc
  cases hc
  split at h
  ·rename_i x k ty hx hb
   have ha:args = #[x]:=Array.toList_inj.1 hx
   subst ha
   have hx':=Qx4 hv
   split at h
   ·rename_i L vt es clock hk
    cases hle:Nat.ble (fgT es).length 12 with
    | false=>simp[hle] at h
    | true =>
     simp only[hle,cond_true] at h
     refine⟨_,h,⟨Qi hx',⟨rfl,rfl,rfl,fun X hX=>?_⟩,fun _ _ _ h=>h⟩⟩
     exact Qmc ho ((hX b (by simp)).trans (Q35 hb)) (fun nm B g w hr=>by
      obtain⟨ar,hm⟩:=Qle (kt:=.u8) rfl (hr.objs k _ ((hX k (by simp)).trans (Q35 hk)))
      exact⟨ar,hm.m⟩) (Nat.le_of_ble_eq_true hle)
   ·rename_i vt es clock hk
    cases hle:Nat.ble es.length 12 with
    | false=>simp[hle] at h
    | true =>
     simp only[hle,cond_true] at h
     refine⟨_,h,⟨Qi hx',⟨rfl,rfl,rfl,fun X hX=>?_⟩,fun _ _ _ h=>h⟩⟩
     exact Qmc ho ((hX b (by simp)).trans (Q35 hb)) (fun nm B g w hr=>Q5q (kt:=.u8) rfl (hr.objs k _ ((hX k (by simp)).trans (Q35 hk)))) (Nat.le_of_ble_eq_true hle)
   ·cases h
  ·cases h
 ·cases h
noncomputable def e_slices_Sorted_uint8 (N:Nat):Ent Tryz.prog where
 id:=224
 run:=Qf3
 ok:=Qqi
end Go.Proofs.Xg
namespace Go.Xl
open Go.Ab
structure Inp where
 xs:List XV
 ys:List XV
 inO:List (Nat×XOb)
 labs:List Nat
 sm:Bool
noncomputable def Inp.eqb (a:Inp) (xs ys:List XV) (inO:List (Nat×XOb)) (labs:List Nat) (sm:Bool):Bool :=
 cond (eqB a.sm sm) (cond (eqL eqN a.labs labs) (cond (xvsEq a.xs xs) (cond (xvsEq a.ys ys) (eqL eqNO a.inO inO) false) false) false) false
theorem Inp.eqb_eq {a:Inp} {xs ys:List XV} {inO:List (Nat×XOb)} {labs:List Nat} {sm:Bool} (h:a.eqb xs ys inO labs sm=true):a.xs=xs∧a.ys=ys∧a.inO=inO∧a.labs=labs∧a.sm=sm:=by
 obtain⟨h1,h⟩:=e2 h
 obtain⟨h2,h⟩:=e2 h
 obtain⟨h3,h⟩:=e2 h
 obtain⟨h4,h5⟩:=e2 h
 exact⟨Q5h h3,Q5h h4,Q4b Qsz h5,Q4b Qiu h2,Qa6 h1⟩
noncomputable def runK (run:RunT) (a:Inp) (r:Res):Bool :=
 match run a.xs a.ys a.inO a.labs a.sm with
 | some x=>r.eqb x
 | none=>false
theorem Qp {run:RunT} {a:Inp} {r:Res} (h:runK run a r=true):run a.xs a.ys a.inO a.labs a.sm=some (r.rs,r.os,r.ls,r.u):=by
 unfold runK at h
 split at h
 ·rename_i x hx
  rw[hx,Res.eqb_eq h]
 ·cases h
structure Memo (run:RunT) where
 a:Inp
 r:Res
 ok:run a.xs a.ys a.inO a.labs a.sm=some (r.rs,r.os,r.ls,r.u)
noncomputable def Qcu (run:RunT):List (Memo run)→RunT
 | [],_,_,_,_,_=>none
 | m :: l,xs,ys,inO,labs,sm=>cond (m.a.eqb xs ys inO labs sm) (some (m.r.rs,m.r.os,m.r.ls,m.r.u)) (Qcu run l xs ys inO labs sm)
theorem Qh2 (run:RunT):∀(l:List (Memo run)) (xs ys:List XV) (inO:List (Nat×XOb)) (labs:List Nat) (sm:Bool) (r:List XV×List (Nat×XOb)×List Nat×Bool),Qcu run l xs ys inO labs sm=some r→run xs ys inO labs sm=some r
 | [],xs,ys,inO,labs,sm,r,h=>by cases h
 | m :: l,xs,ys,inO,labs,sm,r,h=>by
  unfold Qcu at h
  cases hb:m.a.eqb xs ys inO labs sm with
  | true =>
   rw[hb] at h
   obtain⟨h1,h2,h3,h4,h5⟩:=Inp.eqb_eq hb
   subst h1; subst h2; subst h3; subst h4; subst h5
   rw[m.ok]; exact h
  | false =>
   rw[hb] at h
   exact Qh2 run l xs ys inO labs sm r h
noncomputable def bs (l:List Nat):List UInt8:=List.rec (motive:=fun _=>List UInt8) [] (fun n _ ih=>UInt8.ofNat n :: ih) l
noncomputable def Q3 {P:Program} (hm:P.follows .mixedOrders=true) (Γ:List (Ent P)) (gids:List Nat) (N:Nat) (fi:FI P) (l:List (Memo (runI P Γ fi N gids))):Ent P :=
 mkRun fi.id fi.hc fi.hot gids (Qcu (runI P Γ fi N gids) l) fun _ _ _ _ _ _ _ _ _ hs h=>Qsu hm Γ gids N fi _ _ _ _ _ _ _ _ _ hs (Qh2 _ l _ _ _ _ _ _ h)
end Go.Xl
namespace Go.Xl
open Go.Ab Go.Proofs Go.Shelf
section
variable {P:Program} {ρ:Ren}
theorem Qoo {X:Store} (L:Lays8.n4 P ρ) (hf:CallI P (ρ.f 4)) (m:Nat) {o:Oper} {x y:Operand} {ts:Array TypeId} {n:Nat} {i:TypeInfo} {z:Value} (ho:o.op = .call { callee:=.value (.func (ρ.f 4)),args:=#[x,y],argTypes:=ts })
  (hi:P.info? (ρ.t 25)=some i) (hz:i.zero=some z) (hzs:z.cells.size=i.size) (hs0:0 < i.size) (hn:0 < n) (hbig:n*i.bytes≤140737488355328) (h63:n≤4611686018427387904) (hm:m ∉ X.live) (hX:Qa [m] X=true) :
  OpT P o [(x,.d (.sc (.slice none 0 0))),(y,.d (.sc (.int .i64 n)))] X ⟨X.objs,m :: X.live⟩ [m] (.tip m i.size [] (some (ρ.t 25))):=by
 intro nm hsm B g w a hr hrd next Q hn'
 have h1:=(rd0 hrd).sc_inv
 have h2:=(rd1 hrd).sc_inv
 simp only at h1 h2
 unfold Oper.wp
 have:(execOp a.eval o).run P w = .ok (.enter (ρ.f 4) #[.slice none 0 0,.int .i64 n]) w:=by
  simp only[execOp,ho,resolve]
  simp[Act.eval,Deferred.ofValue,invoke,Q1y hf,h1,h2]
  simp[Act.eval] at h1 h2
  exact⟨h1,h2⟩
 rw[this]
 refine(Any8.slices_Grow_grow L i z hi hz hs0 none 0 0 n [] w (Nat.le_refl _) (by omega) (by simpa using hbig) (by simpa using h63) (by simp) (fun _=>rfl) (by simp)).mono ?_
 rintro e w' ⟨rfl,rfl⟩
 generalize hcap:grownCap w (0+n) 0 (ρ.t 25)=cap
 have hge:n≤cap:=by have:=grownCap_ge w (0+n) 0 (ρ.t 25); rw[hcap] at this; omega
 generalize harr:(([] : List Value).toArray++Builtin.zeroCells z.cells (0+n - 0)++Builtin.zeroCells z.cells (cap - (0+n)))=arr
 have hars:arr.size=cap*i.size:=by
  rw[← harr]
  simp only[Array.size_append,size_zeroCells,hzs]
  simp only[List.size_toArray,List.length_nil,Nat.zero_add,Nat.sub_zero]
  rw[← Nat.add_mul]
  congr 1; omega
 obtain⟨hr1,ht1⟩:=hr.drew
 obtain⟨hr2,ht2⟩:=hr1.newRow arr (ρ.t 25) 0 (Nat.zero_le _)
 have hsz:w.drew.heap.size=w.heap.size:=rfl
 obtain⟨hr3,ht3⟩:=hr2.addTip (m:=m) hm (some w.heap.size) hX (by
  intro b' hb'; cases hb'
  refine⟨by simp[hsz],.inl hr.base,fun k p hk=>?_,fun n' hn'=>?_,hr1.eta.ltN (Nat.le_refl _)⟩
  ·have:=Q1o (hr.objs k p hk); simp only[hsz] at this ⊢; omega
  ·have:=hr.tiplt n' _ hn'; omega)
 have hT:=(ht1.trans ht2).trans ht3
 refine hn' _ _ _ hr3 hT (.tip m i.size _ _ _ (.nil i.size _ cap (by simp)) ?_)
 intro ob' hob'
 simp only[upd_same,Option.some.injEq] at hob'
 subst hob'
 refine⟨rfl,rfl,by simp only[hsz,upd_same]; omega,?_,?_⟩
 ·intro p h3 h4
  simp only[Nat.zero_mul,Nat.zero_add,Nat.add_zero] at h3 h4
  have hnewc:(w.drew.alloc (.cells arr (ρ.t 25))).cell? ⟨w.heap.size,p,none⟩=arr[p]?:=cell?_cells (heap_alloc_new w.drew (.cells arr (ρ.t 25))) p
  refine⟨by rw[hnewc]; simp; omega,?_⟩
  exact frozen_of_row _ _ _ arr (ρ.t 25) (heap_alloc_new w.drew (.cells arr (ρ.t 25)))
 ·intro e1 he1
  cases he1
  refine⟨rfl,arr.size,?_⟩
  simp only[World.shape?]
  rw[show w.heap.size=w.drew.heap.size from rfl,heap_alloc_new]
theorem Qnu {X:Store} (L:Lays8.n4 P ρ) (hf:CallI P (ρ.f 4)) {o:Oper} {x y:Operand} {ts:Array TypeId} (ho:o.op = .call { callee:=.value (.func (ρ.f 4)),args:=#[x,y],argTypes:=ts }) :
  OpT P o [(x,.d (.sc (.slice none 0 0))),(y,.d (.sc (.int .i64 0)))] X X [] (.d (.sc (.slice none 0 0))):=by
 intro nm hsm B g w a hr hrd next Q hn'
 have h1:=(rd0 hrd).sc_inv
 have h2:=(rd1 hrd).sc_inv
 simp only at h1 h2
 unfold Oper.wp
 have:(execOp a.eval o).run P w = .ok (.enter (ρ.f 4) #[.slice none 0 0,.int .i64 0]) w:=by
  simp only[execOp,ho,resolve]
  simp[Act.eval,Deferred.ofValue,invoke,Q1y hf,h1,h2]
  simp[Act.eval] at h1 h2
  exact⟨h1,h2⟩
 rw[this]
 refine(Any8.slices_Grow_room L none 0 0 0 w (Nat.le_refl _) (by omega) (by omega) (by omega)).mono ?_
 rintro e w' ⟨rfl,rfl⟩
 exact hn' _ _ _ hr (.refl _ _ _) (.ofSc _ _ _)
end
noncomputable def Qs9 (P:Program) (e:TypeId) {R:Type} (o:Oper) (st:XSt) (vs:List XV) (K:Out→Option R):Option R :=
 match o.op,vs with
 | .call c,[.d (.v (.slice none 0 0)),.d (.i .i64 n)]=>match c.args.toList with
  | [x,y]=>cond (decide (n=0)) (K (Q9 st (.d (.v (.slice none 0 0))) [(x,.d (.v (.slice none 0 0))),(y,.d (.i .i64 n))]))
   (match P.info? e,tyOf P 9 e,Q6y o with
   | some i,some ty,some m=>match i.zero with
    | some z=>cond (Nat.beq z.cells.size i.size) (cond (Nat.beq ty.size i.size) (cond (Nat.ble 1 i.size) (cond (decide (0 < n)) (cond (decide (n.toNat*i.bytes≤140737488355328)) (cond (decide (n.toNat≤4611686018427387904)) (cond (Q26 m st.live st)
      (K ⟨.lab,.tip m ty [] (some e),[(x,.d (.v (.slice none 0 0))),(y,.d (.i .i64 n))],st.objs,m :: st.live,[m],[]⟩) none) none) none) none) none) none) none
    | none=>none
   | _,_,_=>none)
  | _=>none
 | _,_=>none
noncomputable def Q107 {P:Program} {ρ:Ren} (L:Lays8.n4 P ρ) (hf:CallI P (ρ.f 4)):Ent P where
 id:=ρ.f 4
 run:=Qs9 P (ρ.t 25)
 ok:=by
  intro R o st args ts vs K r ho hv h
  unfold Qs9 at h
  rw[ho] at h
  split at h
  rotate_left
  ·cases h
  rename_i c n hc
  cases hc
  split at h
  rotate_left
  ·cases h
  rename_i x y hl
  simp only at hl
  have ha:args = #[x,y]:=Array.toList_inj.1 hl
  subst ha
  have hxy:xeval st x=some (.d (.v (.slice none 0 0)))∧xeval st y=some (.d (.i .i64 n)):=by
   obtain⟨h1,h2⟩:=Q24 hv
   obtain⟨h3,_⟩:=Q24 h2
   exact⟨h1,h3⟩
  have hsee:∀p ∈ imRd [(x,XV.d (.v (.slice none 0 0))),(y,XV.d (.i .i64 n))],Sees st.im p.1 p.2:=by
   intro p hp
   simp only[imRd,List.map_cons,List.map_nil,List.mem_cons,List.not_mem_nil,or_false] at hp
   rcases hp with rfl | rfl
   ·exact Q5 hxy.1
   ·exact Q5 hxy.2
  cases h0:decide (n=0) with
  | true =>
   rw[h0] at h
   simp only[cond_true] at h
   have:=of_decide_eq_true h0
   subst this
   exact⟨_,h,Q4 hsee fun X=>Qnu L hf ho⟩
  | false =>
   rw[h0] at h
   simp only[cond_false] at h
   split at h
   rotate_left
   ·cases h
   rename_i i ty m hi hty hm
   split at h
   rotate_left
   ·cases h
   rename_i z hz
   obtain⟨h1,h⟩:=c2 h
   obtain⟨h2,h⟩:=c2 h
   obtain⟨h3,h⟩:=c2 h
   obtain⟨h4,h⟩:=c2 h
   obtain⟨h5,h⟩:=c2 h
   obtain⟨h6,h⟩:=c2 h
   obtain⟨h7,h⟩:=c2 h
   have e4:=of_decide_eq_true h4
   obtain⟨k,rfl⟩:=Int.eq_ofNat_of_zero_le (Int.le_of_lt e4)
   have e5:=of_decide_eq_true h5
   have e6:=of_decide_eq_true h6
   rw[Int.toNat_natCast] at e5 e6
   obtain⟨f1,f2⟩:=Q39 h7
   have:=Qoo (X:=st.X) L hf m ho hi hz (Nat.eq_of_beq_eq_true h1) (Nat.le_of_ble_eq_true h3) (by omega) e5 e6 f1 f2
   rw[← Nat.eq_of_beq_eq_true h2] at this
   exact⟨_,h,hsee,⟨rfl,this⟩,fun _ _ _ h=>h⟩
end Go.Xl
namespace Go.Proofs.Xw
open Go Go.Xl Go.Ab Go.Proofs
theorem mixed:Tryz.prog.follows .mixedOrders=true:=by kernel_rfl
noncomputable def tb (k:Nat):FI Tryz.prog :=
 (cond (Nat.ble k 163)
 (cond (Nat.ble k 84)
 (cond (Nat.ble k 45)
  (cond (Nat.ble k 25)
  (cond (Nat.ble k 14)
   (cond (Nat.ble k 9)
   (cond (Nat.ble k 6)
    (cond (Nat.ble k 5)
    ⟨5,Tryz.f5,[],2,none,Tryz.func5,.mk' Tryz.func5 rfl (by decide)⟩
    ⟨6,Tryz.f6,[],2,none,Tryz.func6,.mk' Tryz.func6 rfl (by decide)⟩)
    (cond (Nat.ble k 7)
    ⟨7,Tryz.f7,[],2,none,Tryz.func7,.mk' Tryz.func7 rfl (by decide)⟩
    ⟨9,Tryz.f9,[],2,none,Tryz.func9,.mk' Tryz.func9 rfl (by decide)⟩))
   (cond (Nat.ble k 11)
    (cond (Nat.ble k 10)
    ⟨10,Tryz.f10,[],2,none,Tryz.func10,.mk' Tryz.func10 rfl (by decide)⟩
    ⟨11,Tryz.f11,[],2,none,Tryz.func11,.mk' Tryz.func11 rfl (by decide)⟩)
    (cond (Nat.ble k 12)
    ⟨12,Tryz.f12,[],2,none,Tryz.func12,.mk' Tryz.func12 rfl (by decide)⟩
    (cond (Nat.ble k 13)
     ⟨13,Tryz.f13,[],2,none,Tryz.func13,.mk' Tryz.func13 rfl (by decide)⟩
     ⟨14,Tryz.f14,[],2,none,Tryz.func14,.mk' Tryz.func14 rfl (by decide)⟩))))
   (cond (Nat.ble k 19)
   (cond (Nat.ble k 16)
    (cond (Nat.ble k 15)
    ⟨15,Tryz.f15,[],2,none,Tryz.func15,.mk' Tryz.func15 rfl (by decide)⟩
    ⟨16,Tryz.f16,[],2,none,Tryz.func16,.mk' Tryz.func16 rfl (by decide)⟩)
    (cond (Nat.ble k 17)
    ⟨17,Tryz.f17,[],2,none,Tryz.func17,.mk' Tryz.func17 rfl (by decide)⟩
    (cond (Nat.ble k 18)
     ⟨18,Tryz.f18,[],2,none,Tryz.func18,.mk' Tryz.func18 rfl (by decide)⟩
     ⟨19,Tryz.f19,[],2,none,Tryz.func19,.mk' Tryz.func19 rfl (by decide)⟩)))
   (cond (Nat.ble k 22)
    (cond (Nat.ble k 21)
    ⟨21,Tryz.f21,[],2,none,Tryz.func21,.mk' Tryz.func21 rfl (by decide)⟩
    ⟨22,Tryz.f22,[],2,none,Tryz.func22,.mk' Tryz.func22 rfl (by decide)⟩)
    (cond (Nat.ble k 23)
    ⟨23,Tryz.f23,[],2,none,Tryz.func23,.mk' Tryz.func23 rfl (by decide)⟩
    (cond (Nat.ble k 24)
     ⟨24,Tryz.f24,[],2,none,Tryz.func24,.mk' Tryz.func24 rfl (by decide)⟩
     ⟨25,Tryz.f25,[],2,none,Tryz.func25,.mk' Tryz.func25 rfl (by decide)⟩)))))
  (cond (Nat.ble k 35)
   (cond (Nat.ble k 30)
   (cond (Nat.ble k 27)
    (cond (Nat.ble k 26)
    ⟨26,Tryz.f26,[],2,none,Tryz.func26,.mk' Tryz.func26 rfl (by decide)⟩
    ⟨27,Tryz.f27,[],2,none,Tryz.func27,.mk' Tryz.func27 rfl (by decide)⟩)
    (cond (Nat.ble k 28)
    ⟨28,Tryz.f28,[],2,none,Tryz.func28,.mk' Tryz.func28 rfl (by decide)⟩
    (cond (Nat.ble k 29)
     ⟨29,Tryz.f29,[],2,none,Tryz.func29,.mk' Tryz.func29 rfl (by decide)⟩
     ⟨30,Tryz.f30,[],2,none,Tryz.func30,.mk' Tryz.func30 rfl (by decide)⟩)))
   (cond (Nat.ble k 32)
    (cond (Nat.ble k 31)
    ⟨31,Tryz.f31,[],2,none,Tryz.func31,.mk' Tryz.func31 rfl (by decide)⟩
    ⟨32,Tryz.f32,[],2,none,Tryz.func32,.mk' Tryz.func32 rfl (by decide)⟩)
    (cond (Nat.ble k 33)
    ⟨33,Tryz.f33,[],2,none,Tryz.func33,.mk' Tryz.func33 rfl (by decide)⟩
    (cond (Nat.ble k 34)
     ⟨34,Tryz.f34,[],2,none,Tryz.func34,.mk' Tryz.func34 rfl (by decide)⟩
     ⟨35,Tryz.f35,[],2,none,Tryz.func35,.mk' Tryz.func35 rfl (by decide)⟩))))
   (cond (Nat.ble k 40)
   (cond (Nat.ble k 37)
    (cond (Nat.ble k 36)
    ⟨36,Tryz.f36,[],2,none,Tryz.func36,.mk' Tryz.func36 rfl (by decide)⟩
    ⟨37,Tryz.f37,[],2,none,Tryz.func37,.mk' Tryz.func37 rfl (by decide)⟩)
    (cond (Nat.ble k 38)
    ⟨38,Tryz.f38,[],2,none,Tryz.func38,.mk' Tryz.func38 rfl (by decide)⟩
    (cond (Nat.ble k 39)
     ⟨39,Tryz.f39,[],2,none,Tryz.func39,.mk' Tryz.func39 rfl (by decide)⟩
     ⟨40,Tryz.f40,[],2,none,Tryz.func40,.mk' Tryz.func40 rfl (by decide)⟩)))
   (cond (Nat.ble k 42)
    (cond (Nat.ble k 41)
    ⟨41,Tryz.f41,[],2,none,Tryz.func41,.mk' Tryz.func41 rfl (by decide)⟩
    ⟨42,Tryz.f42,[],2,none,Tryz.func42,.mk' Tryz.func42 rfl (by decide)⟩)
    (cond (Nat.ble k 43)
    ⟨43,Tryz.f43,[],2,none,Tryz.func43,.mk' Tryz.func43 rfl (by decide)⟩
    (cond (Nat.ble k 44)
     ⟨44,Tryz.f44,[],2,none,Tryz.func44,.mk' Tryz.func44 rfl (by decide)⟩
     ⟨45,Tryz.f45,[],2,none,Tryz.func45,.mk' Tryz.func45 rfl (by decide)⟩))))))
  (cond (Nat.ble k 64)
  (cond (Nat.ble k 54)
   (cond (Nat.ble k 49)
   (cond (Nat.ble k 47)
    (cond (Nat.ble k 46)
    ⟨46,Tryz.f46,[],2,none,Tryz.func46,.mk' Tryz.func46 rfl (by decide)⟩
    ⟨47,Tryz.f47,[],2,none,Tryz.func47,.mk' Tryz.func47 rfl (by decide)⟩)
    (cond (Nat.ble k 48)
    ⟨48,Tryz.f48,[],2,none,Tryz.func48,.mk' Tryz.func48 rfl (by decide)⟩
    ⟨49,Tryz.f49,[],2,none,Tryz.func49,.mk' Tryz.func49 rfl (by decide)⟩))
   (cond (Nat.ble k 51)
    (cond (Nat.ble k 50)
    ⟨50,Tryz.f50,[],2,none,Tryz.func50,.mk' Tryz.func50 rfl (by decide)⟩
    ⟨51,Tryz.f51,[],2,none,Tryz.func51,.mk' Tryz.func51 rfl (by decide)⟩)
    (cond (Nat.ble k 52)
    ⟨52,Tryz.f52,[],2,none,Tryz.func52,.mk' Tryz.func52 rfl (by decide)⟩
    (cond (Nat.ble k 53)
     ⟨53,Tryz.f53,[],2,none,Tryz.func53,.mk' Tryz.func53 rfl (by decide)⟩
     ⟨54,Tryz.f54,[],2,none,Tryz.func54,.mk' Tryz.func54 rfl (by decide)⟩))))
   (cond (Nat.ble k 59)
   (cond (Nat.ble k 56)
    (cond (Nat.ble k 55)
    ⟨55,Tryz.f55,[],2,none,Tryz.func55,.mk' Tryz.func55 rfl (by decide)⟩
    ⟨56,Tryz.f56,[],2,none,Tryz.func56,.mk' Tryz.func56 rfl (by decide)⟩)
    (cond (Nat.ble k 57)
    ⟨57,Tryz.f57,[],2,none,Tryz.func57,.mk' Tryz.func57 rfl (by decide)⟩
    (cond (Nat.ble k 58)
     ⟨58,Tryz.f58,[],2,none,Tryz.func58,.mk' Tryz.func58 rfl (by decide)⟩
     ⟨59,Tryz.f59,[],2,none,Tryz.func59,.mk' Tryz.func59 rfl (by decide)⟩)))
   (cond (Nat.ble k 61)
    (cond (Nat.ble k 60)
    ⟨60,Tryz.f60,[],2,none,Tryz.func60,.mk' Tryz.func60 rfl (by decide)⟩
    ⟨61,Tryz.f61,[],2,none,Tryz.func61,.mk' Tryz.func61 rfl (by decide)⟩)
    (cond (Nat.ble k 62)
    ⟨62,Tryz.f62,[],2,none,Tryz.func62,.mk' Tryz.func62 rfl (by decide)⟩
    (cond (Nat.ble k 63)
     ⟨63,Tryz.f63,[],2,none,Tryz.func63,.mk' Tryz.func63 rfl (by decide)⟩
     ⟨64,Tryz.f64,[],2,none,Tryz.func64,.mk' Tryz.func64 rfl (by decide)⟩)))))
  (cond (Nat.ble k 74)
   (cond (Nat.ble k 69)
   (cond (Nat.ble k 66)
    (cond (Nat.ble k 65)
    ⟨65,Tryz.f65,[],2,none,Tryz.func65,.mk' Tryz.func65 rfl (by decide)⟩
    ⟨66,Tryz.f66,[],2,none,Tryz.func66,.mk' Tryz.func66 rfl (by decide)⟩)
    (cond (Nat.ble k 67)
    ⟨67,Tryz.f67,[],2,none,Tryz.func67,.mk' Tryz.func67 rfl (by decide)⟩
    (cond (Nat.ble k 68)
     ⟨68,Tryz.f68,[],2,none,Tryz.func68,.mk' Tryz.func68 rfl (by decide)⟩
     ⟨69,Tryz.f69,[],2,none,Tryz.func69,.mk' Tryz.func69 rfl (by decide)⟩)))
   (cond (Nat.ble k 71)
    (cond (Nat.ble k 70)
    ⟨70,Tryz.f70,[],2,none,Tryz.func70,.mk' Tryz.func70 rfl (by decide)⟩
    ⟨71,Tryz.f71,[],2,none,Tryz.func71,.mk' Tryz.func71 rfl (by decide)⟩)
    (cond (Nat.ble k 72)
    ⟨72,Tryz.f72,[],2,none,Tryz.func72,.mk' Tryz.func72 rfl (by decide)⟩
    (cond (Nat.ble k 73)
     ⟨73,Tryz.f73,[],2,none,Tryz.func73,.mk' Tryz.func73 rfl (by decide)⟩
     ⟨74,Tryz.f74,[],2,none,Tryz.func74,.mk' Tryz.func74 rfl (by decide)⟩))))
   (cond (Nat.ble k 79)
   (cond (Nat.ble k 76)
    (cond (Nat.ble k 75)
    ⟨75,Tryz.f75,[],2,none,Tryz.func75,.mk' Tryz.func75 rfl (by decide)⟩
    ⟨76,Tryz.f76,[],2,none,Tryz.func76,.mk' Tryz.func76 rfl (by decide)⟩)
    (cond (Nat.ble k 77)
    ⟨77,Tryz.f77,[],2,none,Tryz.func77,.mk' Tryz.func77 rfl (by decide)⟩
    (cond (Nat.ble k 78)
     ⟨78,Tryz.f78,[],2,none,Tryz.func78,.mk' Tryz.func78 rfl (by decide)⟩
     ⟨79,Tryz.f79,[],2,none,Tryz.func79,.mk' Tryz.func79 rfl (by decide)⟩)))
   (cond (Nat.ble k 81)
    (cond (Nat.ble k 80)
    ⟨80,Tryz.f80,[],2,none,Tryz.func80,.mk' Tryz.func80 rfl (by decide)⟩
    ⟨81,Tryz.f81,[],2,none,Tryz.func81,.mk' Tryz.func81 rfl (by decide)⟩)
    (cond (Nat.ble k 82)
    ⟨82,Tryz.f82,[],2,none,Tryz.func82,.mk' Tryz.func82 rfl (by decide)⟩
    (cond (Nat.ble k 83)
     ⟨83,Tryz.f83,[],2,none,Tryz.func83,.mk' Tryz.func83 rfl (by decide)⟩
     ⟨84,Tryz.f84,[],2,none,Tryz.func84,.mk' Tryz.func84 rfl (by decide)⟩)))))))
 (cond (Nat.ble k 123)
  (cond (Nat.ble k 103)
  (cond (Nat.ble k 93)
   (cond (Nat.ble k 88)
   (cond (Nat.ble k 86)
    (cond (Nat.ble k 85)
    ⟨85,Tryz.f85,[],2,none,Tryz.func85,.mk' Tryz.func85 rfl (by decide)⟩
    ⟨86,Tryz.f86,[],2,none,Tryz.func86,.mk' Tryz.func86 rfl (by decide)⟩)
    (cond (Nat.ble k 87)
    ⟨87,Tryz.f87,[],2,none,Tryz.func87,.mk' Tryz.func87 rfl (by decide)⟩
    ⟨88,Tryz.f88,[],2,none,Tryz.func88,.mk' Tryz.func88 rfl (by decide)⟩))
   (cond (Nat.ble k 90)
    (cond (Nat.ble k 89)
    ⟨89,Tryz.f89,[],2,none,Tryz.func89,.mk' Tryz.func89 rfl (by decide)⟩
    ⟨90,Tryz.f90,[],2,none,Tryz.func90,.mk' Tryz.func90 rfl (by decide)⟩)
    (cond (Nat.ble k 91)
    ⟨91,Tryz.f91,[],2,none,Tryz.func91,.mk' Tryz.func91 rfl (by decide)⟩
    (cond (Nat.ble k 92)
     ⟨92,Tryz.f92,[],2,none,Tryz.func92,.mk' Tryz.func92 rfl (by decide)⟩
     ⟨93,Tryz.f93,[],2,none,Tryz.func93,.mk' Tryz.func93 rfl (by decide)⟩))))
   (cond (Nat.ble k 98)
   (cond (Nat.ble k 95)
    (cond (Nat.ble k 94)
    ⟨94,Tryz.f94,[],2,none,Tryz.func94,.mk' Tryz.func94 rfl (by decide)⟩
    ⟨95,Tryz.f95,[],2,none,Tryz.func95,.mk' Tryz.func95 rfl (by decide)⟩)
    (cond (Nat.ble k 96)
    ⟨96,Tryz.f96,[],2,none,Tryz.func96,.mk' Tryz.func96 rfl (by decide)⟩
    (cond (Nat.ble k 97)
     ⟨97,Tryz.f97,[],2,none,Tryz.func97,.mk' Tryz.func97 rfl (by decide)⟩
     ⟨98,Tryz.f98,[],2,none,Tryz.func98,.mk' Tryz.func98 rfl (by decide)⟩)))
   (cond (Nat.ble k 100)
    (cond (Nat.ble k 99)
    ⟨99,Tryz.f99,[],2,none,Tryz.func99,.mk' Tryz.func99 rfl (by decide)⟩
    ⟨100,Tryz.f100,[],2,none,Tryz.func100,.mk' Tryz.func100 rfl (by decide)⟩)
    (cond (Nat.ble k 101)
    ⟨101,Tryz.f101,[],2,none,Tryz.func101,.mk' Tryz.func101 rfl (by decide)⟩
    (cond (Nat.ble k 102)
     ⟨102,Tryz.f102,[],2,none,Tryz.func102,.mk' Tryz.func102 rfl (by decide)⟩
     ⟨103,Tryz.f103,[],2,none,Tryz.func103,.mk' Tryz.func103 rfl (by decide)⟩)))))
  (cond (Nat.ble k 113)
   (cond (Nat.ble k 108)
   (cond (Nat.ble k 105)
    (cond (Nat.ble k 104)
    ⟨104,Tryz.f104,[],2,none,Tryz.func104,.mk' Tryz.func104 rfl (by decide)⟩
    ⟨105,Tryz.f105,[],2,none,Tryz.func105,.mk' Tryz.func105 rfl (by decide)⟩)
    (cond (Nat.ble k 106)
    ⟨106,Tryz.f106,[],2,none,Tryz.func106,.mk' Tryz.func106 rfl (by decide)⟩
    (cond (Nat.ble k 107)
     ⟨107,Tryz.f107,[],2,none,Tryz.func107,.mk' Tryz.func107 rfl (by decide)⟩
     ⟨108,Tryz.f108,[],2,none,Tryz.func108,.mk' Tryz.func108 rfl (by decide)⟩)))
   (cond (Nat.ble k 110)
    (cond (Nat.ble k 109)
    ⟨109,Tryz.f109,[],2,none,Tryz.func109,.mk' Tryz.func109 rfl (by decide)⟩
    ⟨110,Tryz.f110,[],2,none,Tryz.func110,.mk' Tryz.func110 rfl (by decide)⟩)
    (cond (Nat.ble k 111)
    ⟨111,Tryz.f111,[],2,none,Tryz.func111,.mk' Tryz.func111 rfl (by decide)⟩
    (cond (Nat.ble k 112)
     ⟨112,Tryz.f112,[],2,none,Tryz.func112,.mk' Tryz.func112 rfl (by decide)⟩
     ⟨113,Tryz.f113,[],2,none,Tryz.func113,.mk' Tryz.func113 rfl (by decide)⟩))))
   (cond (Nat.ble k 118)
   (cond (Nat.ble k 115)
    (cond (Nat.ble k 114)
    ⟨114,Tryz.f114,[],2,none,Tryz.func114,.mk' Tryz.func114 rfl (by decide)⟩
    ⟨115,Tryz.f115,[],2,none,Tryz.func115,.mk' Tryz.func115 rfl (by decide)⟩)
    (cond (Nat.ble k 116)
    ⟨116,Tryz.f116,[],2,none,Tryz.func116,.mk' Tryz.func116 rfl (by decide)⟩
    (cond (Nat.ble k 117)
     ⟨117,Tryz.f117,[],2,none,Tryz.func117,.mk' Tryz.func117 rfl (by decide)⟩
     ⟨118,Tryz.f118,[],2,none,Tryz.func118,.mk' Tryz.func118 rfl (by decide)⟩)))
   (cond (Nat.ble k 120)
    (cond (Nat.ble k 119)
    ⟨119,Tryz.f119,[23],2,none,Tryz.func119,.mk' Tryz.func119 rfl (by decide)⟩
    ⟨120,Tryz.f120,[6],2,none,Tryz.func120,.mk' Tryz.func120 rfl (by decide)⟩)
    (cond (Nat.ble k 121)
    ⟨121,Tryz.f121,[24],2,some [],Tryz.func121,.mk' Tryz.func121 rfl (by decide)⟩
    (cond (Nat.ble k 122)
     ⟨122,Tryz.f122,[],2,none,Tryz.func122,.mk' Tryz.func122 rfl (by decide)⟩
     ⟨123,Tryz.f123,[],2,none,Tryz.func123,.mk' Tryz.func123 rfl (by decide)⟩))))))
  (cond (Nat.ble k 143)
  (cond (Nat.ble k 133)
   (cond (Nat.ble k 128)
   (cond (Nat.ble k 125)
    (cond (Nat.ble k 124)
    ⟨124,Tryz.f124,[],2,none,Tryz.func124,.mk' Tryz.func124 rfl (by decide)⟩
    ⟨125,Tryz.f125,[],2,none,Tryz.func125,.mk' Tryz.func125 rfl (by decide)⟩)
    (cond (Nat.ble k 126)
    ⟨126,Tryz.f126,[],2,none,Tryz.func126,.mk' Tryz.func126 rfl (by decide)⟩
    (cond (Nat.ble k 127)
     ⟨127,Tryz.f127,[],2,none,Tryz.func127,.mk' Tryz.func127 rfl (by decide)⟩
     ⟨128,Tryz.f128,[],2,none,Tryz.func128,.mk' Tryz.func128 rfl (by decide)⟩)))
   (cond (Nat.ble k 130)
    (cond (Nat.ble k 129)
    ⟨129,Tryz.f129,[],2,none,Tryz.func129,.mk' Tryz.func129 rfl (by decide)⟩
    ⟨130,Tryz.f130,[],2,none,Tryz.func130,.mk' Tryz.func130 rfl (by decide)⟩)
    (cond (Nat.ble k 131)
    ⟨131,Tryz.f131,[],2,none,Tryz.func131,.mk' Tryz.func131 rfl (by decide)⟩
    (cond (Nat.ble k 132)
     ⟨132,Tryz.f132,[],2,none,Tryz.func132,.mk' Tryz.func132 rfl (by decide)⟩
     ⟨133,Tryz.f133,[],2,none,Tryz.func133,.mk' Tryz.func133 rfl (by decide)⟩))))
   (cond (Nat.ble k 138)
   (cond (Nat.ble k 135)
    (cond (Nat.ble k 134)
    ⟨134,Tryz.f134,[],2,none,Tryz.func134,.mk' Tryz.func134 rfl (by decide)⟩
    ⟨135,Tryz.f135,[],2,none,Tryz.func135,.mk' Tryz.func135 rfl (by decide)⟩)
    (cond (Nat.ble k 136)
    ⟨136,Tryz.f136,[],2,none,Tryz.func136,.mk' Tryz.func136 rfl (by decide)⟩
    (cond (Nat.ble k 137)
     ⟨137,Tryz.f137,[],2,none,Tryz.func137,.mk' Tryz.func137 rfl (by decide)⟩
     ⟨138,Tryz.f138,[],2,none,Tryz.func138,.mk' Tryz.func138 rfl (by decide)⟩)))
   (cond (Nat.ble k 140)
    (cond (Nat.ble k 139)
    ⟨139,Tryz.f139,[],2,none,Tryz.func139,.mk' Tryz.func139 rfl (by decide)⟩
    ⟨140,Tryz.f140,[24,44],2,none,Tryz.func140,.mk' Tryz.func140 rfl (by decide)⟩)
    (cond (Nat.ble k 141)
    ⟨141,Tryz.f141,[],2,none,Tryz.func141,.mk' Tryz.func141 rfl (by decide)⟩
    (cond (Nat.ble k 142)
     ⟨142,Tryz.f142,[],2,none,Tryz.func142,.mk' Tryz.func142 rfl (by decide)⟩
     ⟨143,Tryz.f143,[],2,none,Tryz.func143,.mk' Tryz.func143 rfl (by decide)⟩)))))
  (cond (Nat.ble k 153)
   (cond (Nat.ble k 148)
   (cond (Nat.ble k 145)
    (cond (Nat.ble k 144)
    ⟨144,Tryz.f144,[],2,none,Tryz.func144,.mk' Tryz.func144 rfl (by decide)⟩
    ⟨145,Tryz.f145,[],2,none,Tryz.func145,.mk' Tryz.func145 rfl (by decide)⟩)
    (cond (Nat.ble k 146)
    ⟨146,Tryz.f146,[],2,none,Tryz.func146,.mk' Tryz.func146 rfl (by decide)⟩
    (cond (Nat.ble k 147)
     ⟨147,Tryz.f147,[],2,none,Tryz.func147,.mk' Tryz.func147 rfl (by decide)⟩
     ⟨148,Tryz.f148,[],2,none,Tryz.func148,.mk' Tryz.func148 rfl (by decide)⟩)))
   (cond (Nat.ble k 150)
    (cond (Nat.ble k 149)
    ⟨149,Tryz.f149,[],2,none,Tryz.func149,.mk' Tryz.func149 rfl (by decide)⟩
    ⟨150,Tryz.f150,[],2,none,Tryz.func150,.mk' Tryz.func150 rfl (by decide)⟩)
    (cond (Nat.ble k 151)
    ⟨151,Tryz.f151,[],2,none,Tryz.func151,.mk' Tryz.func151 rfl (by decide)⟩
    (cond (Nat.ble k 152)
     ⟨152,Tryz.f152,[],2,none,Tryz.func152,.mk' Tryz.func152 rfl (by decide)⟩
     ⟨153,Tryz.f153,[],2,none,Tryz.func153,.mk' Tryz.func153 rfl (by decide)⟩))))
   (cond (Nat.ble k 158)
   (cond (Nat.ble k 155)
    (cond (Nat.ble k 154)
    ⟨154,Tryz.f154,[],2,none,Tryz.func154,.mk' Tryz.func154 rfl (by decide)⟩
    ⟨155,Tryz.f155,[],2,none,Tryz.func155,.mk' Tryz.func155 rfl (by decide)⟩)
    (cond (Nat.ble k 156)
    ⟨156,Tryz.f156,[],2,none,Tryz.func156,.mk' Tryz.func156 rfl (by decide)⟩
    (cond (Nat.ble k 157)
     ⟨157,Tryz.f157,[],2,none,Tryz.func157,.mk' Tryz.func157 rfl (by decide)⟩
     ⟨158,Tryz.f158,[],2,none,Tryz.func158,.mk' Tryz.func158 rfl (by decide)⟩)))
   (cond (Nat.ble k 160)
    (cond (Nat.ble k 159)
    ⟨159,Tryz.f159,[],2,none,Tryz.func159,.mk' Tryz.func159 rfl (by decide)⟩
    ⟨160,Tryz.f160,[],2,none,Tryz.func160,.mk' Tryz.func160 rfl (by decide)⟩)
    (cond (Nat.ble k 161)
    ⟨161,Tryz.f161,[],2,none,Tryz.func161,.mk' Tryz.func161 rfl (by decide)⟩
    (cond (Nat.ble k 162)
     ⟨162,Tryz.f162,[],2,none,Tryz.func162,.mk' Tryz.func162 rfl (by decide)⟩
     ⟨163,Tryz.f163,[],2,none,Tryz.func163,.mk' Tryz.func163 rfl (by decide)⟩))))))))
 (cond (Nat.ble k 243)
 (cond (Nat.ble k 202)
  (cond (Nat.ble k 182)
  (cond (Nat.ble k 172)
   (cond (Nat.ble k 167)
   (cond (Nat.ble k 165)
    (cond (Nat.ble k 164)
    ⟨164,Tryz.f164,[],2,none,Tryz.func164,.mk' Tryz.func164 rfl (by decide)⟩
    ⟨165,Tryz.f165,[],2,none,Tryz.func165,.mk' Tryz.func165 rfl (by decide)⟩)
    (cond (Nat.ble k 166)
    ⟨166,Tryz.f166,[],2,none,Tryz.func166,.mk' Tryz.func166 rfl (by decide)⟩
    ⟨167,Tryz.f167,[],2,none,Tryz.func167,.mk' Tryz.func167 rfl (by decide)⟩))
   (cond (Nat.ble k 169)
    (cond (Nat.ble k 168)
    ⟨168,Tryz.f168,[],2,none,Tryz.func168,.mk' Tryz.func168 rfl (by decide)⟩
    ⟨169,Tryz.f169,[34,75],2,none,Tryz.func169,.mk' Tryz.func169 rfl (by decide)⟩)
    (cond (Nat.ble k 170)
    ⟨170,Tryz.f170,[],2,none,Tryz.func170,.mk' Tryz.func170 rfl (by decide)⟩
    (cond (Nat.ble k 171)
     ⟨171,Tryz.f171,[],2,none,Tryz.func171,.mk' Tryz.func171 rfl (by decide)⟩
     ⟨172,Tryz.f172,[],2,none,Tryz.func172,.mk' Tryz.func172 rfl (by decide)⟩))))
   (cond (Nat.ble k 177)
   (cond (Nat.ble k 174)
    (cond (Nat.ble k 173)
    ⟨173,Tryz.f173,[],2,none,Tryz.func173,.mk' Tryz.func173 rfl (by decide)⟩
    ⟨174,Tryz.f174,[],2,none,Tryz.func174,.mk' Tryz.func174 rfl (by decide)⟩)
    (cond (Nat.ble k 175)
    ⟨175,Tryz.f175,[],2,none,Tryz.func175,.mk' Tryz.func175 rfl (by decide)⟩
    (cond (Nat.ble k 176)
     ⟨176,Tryz.f176,[],2,none,Tryz.func176,.mk' Tryz.func176 rfl (by decide)⟩
     ⟨177,Tryz.f177,[],2,none,Tryz.func177,.mk' Tryz.func177 rfl (by decide)⟩)))
   (cond (Nat.ble k 179)
    (cond (Nat.ble k 178)
    ⟨178,Tryz.f178,[],2,none,Tryz.func178,.mk' Tryz.func178 rfl (by decide)⟩
    ⟨179,Tryz.f179,[],2,none,Tryz.func179,.mk' Tryz.func179 rfl (by decide)⟩)
    (cond (Nat.ble k 180)
    ⟨180,Tryz.f180,[],2,none,Tryz.func180,.mk' Tryz.func180 rfl (by decide)⟩
    (cond (Nat.ble k 181)
     ⟨181,Tryz.f181,[],2,none,Tryz.func181,.mk' Tryz.func181 rfl (by decide)⟩
     ⟨182,Tryz.f182,[],2,none,Tryz.func182,.mk' Tryz.func182 rfl (by decide)⟩)))))
  (cond (Nat.ble k 192)
   (cond (Nat.ble k 187)
   (cond (Nat.ble k 184)
    (cond (Nat.ble k 183)
    ⟨183,Tryz.f183,[],2,none,Tryz.func183,.mk' Tryz.func183 rfl (by decide)⟩
    ⟨184,Tryz.f184,[],2,none,Tryz.func184,.mk' Tryz.func184 rfl (by decide)⟩)
    (cond (Nat.ble k 185)
    ⟨185,Tryz.f185,[],2,none,Tryz.func185,.mk' Tryz.func185 rfl (by decide)⟩
    (cond (Nat.ble k 186)
     ⟨186,Tryz.f186,[],2,none,Tryz.func186,.mk' Tryz.func186 rfl (by decide)⟩
     ⟨187,Tryz.f187,[],2,none,Tryz.func187,.mk' Tryz.func187 rfl (by decide)⟩)))
   (cond (Nat.ble k 189)
    (cond (Nat.ble k 188)
    ⟨188,Tryz.f188,[],2,none,Tryz.func188,.mk' Tryz.func188 rfl (by decide)⟩
    ⟨189,Tryz.f189,[],2,none,Tryz.func189,.mk' Tryz.func189 rfl (by decide)⟩)
    (cond (Nat.ble k 190)
    ⟨190,Tryz.f190,[],2,none,Tryz.func190,.mk' Tryz.func190 rfl (by decide)⟩
    (cond (Nat.ble k 191)
     ⟨191,Tryz.f191,[],2,none,Tryz.func191,.mk' Tryz.func191 rfl (by decide)⟩
     ⟨192,Tryz.f192,[],2,none,Tryz.func192,.mk' Tryz.func192 rfl (by decide)⟩))))
   (cond (Nat.ble k 197)
   (cond (Nat.ble k 194)
    (cond (Nat.ble k 193)
    ⟨193,Tryz.f193,[12],2,none,Tryz.func193,.mk' Tryz.func193 rfl (by decide)⟩
    ⟨194,Tryz.f194,[],2,none,Tryz.func194,.mk' Tryz.func194 rfl (by decide)⟩)
    (cond (Nat.ble k 195)
    ⟨195,Tryz.f195,[],2,none,Tryz.func195,.mk' Tryz.func195 rfl (by decide)⟩
    (cond (Nat.ble k 196)
     ⟨196,Tryz.f196,[],2,none,Tryz.func196,.mk' Tryz.func196 rfl (by decide)⟩
     ⟨197,Tryz.f197,[],2,none,Tryz.func197,.mk' Tryz.func197 rfl (by decide)⟩)))
   (cond (Nat.ble k 199)
    (cond (Nat.ble k 198)
    ⟨198,Tryz.f198,[],2,none,Tryz.func198,.mk' Tryz.func198 rfl (by decide)⟩
    ⟨199,Tryz.f199,[],2,none,Tryz.func199,.mk' Tryz.func199 rfl (by decide)⟩)
    (cond (Nat.ble k 200)
    ⟨200,Tryz.f200,[],2,none,Tryz.func200,.mk' Tryz.func200 rfl (by decide)⟩
    (cond (Nat.ble k 201)
     ⟨201,Tryz.f201,[],2,none,Tryz.func201,.mk' Tryz.func201 rfl (by decide)⟩
     ⟨202,Tryz.f202,[6],2,none,Tryz.func202,.mk' Tryz.func202 rfl (by decide)⟩))))))
  (cond (Nat.ble k 221)
  (cond (Nat.ble k 211)
   (cond (Nat.ble k 206)
   (cond (Nat.ble k 204)
    (cond (Nat.ble k 203)
    ⟨203,Tryz.f203,[],1,none,Tryz.func203,.mk' Tryz.func203 rfl (by decide)⟩
    ⟨204,Tryz.f204,[],2,none,Tryz.func204,.mk' Tryz.func204 rfl (by decide)⟩)
    (cond (Nat.ble k 205)
    ⟨205,Tryz.f205,[],2,none,Tryz.func205,.mk' Tryz.func205 rfl (by decide)⟩
    ⟨206,Tryz.f206,[],2,none,Tryz.func206,.mk' Tryz.func206 rfl (by decide)⟩))
   (cond (Nat.ble k 208)
    (cond (Nat.ble k 207)
    ⟨207,Tryz.f207,[],2,none,Tryz.func207,.mk' Tryz.func207 rfl (by decide)⟩
    ⟨208,Tryz.f208,[],2,none,Tryz.func208,.mk' Tryz.func208 rfl (by decide)⟩)
    (cond (Nat.ble k 209)
    ⟨209,Tryz.f209,[],2,none,Tryz.func209,.mk' Tryz.func209 rfl (by decide)⟩
    (cond (Nat.ble k 210)
     ⟨210,Tryz.f210,[],2,none,Tryz.func210,.mk' Tryz.func210 rfl (by decide)⟩
     ⟨211,Tryz.f211,[5,7,999],2,none,Tryz.func211,.mk' Tryz.func211 rfl (by decide)⟩))))
   (cond (Nat.ble k 216)
   (cond (Nat.ble k 213)
    (cond (Nat.ble k 212)
    ⟨212,Tryz.f212,[],2,none,Tryz.func212,.mk' Tryz.func212 rfl (by decide)⟩
    ⟨213,Tryz.f213,[],2,none,Tryz.func213,.mk' Tryz.func213 rfl (by decide)⟩)
    (cond (Nat.ble k 214)
    ⟨214,Tryz.f214,[],2,none,Tryz.func214,.mk' Tryz.func214 rfl (by decide)⟩
    (cond (Nat.ble k 215)
     ⟨215,Tryz.f215,[],2,none,Tryz.func215,.mk' Tryz.func215 rfl (by decide)⟩
     ⟨216,Tryz.f216,[],2,none,Tryz.func216,.mk' Tryz.func216 rfl (by decide)⟩)))
   (cond (Nat.ble k 218)
    (cond (Nat.ble k 217)
    ⟨217,Tryz.f217,[],2,none,Tryz.func217,.mk' Tryz.func217 rfl (by decide)⟩
    ⟨218,Tryz.f218,[],2,none,Tryz.func218,.mk' Tryz.func218 rfl (by decide)⟩)
    (cond (Nat.ble k 219)
    ⟨219,Tryz.f219,[],2,none,Tryz.func219,.mk' Tryz.func219 rfl (by decide)⟩
    (cond (Nat.ble k 220)
     ⟨220,Tryz.f220,[],2,none,Tryz.func220,.mk' Tryz.func220 rfl (by decide)⟩
     ⟨221,Tryz.f221,[],2,none,Tryz.func221,.mk' Tryz.func221 rfl (by decide)⟩)))))
  (cond (Nat.ble k 233)
   (cond (Nat.ble k 228)
   (cond (Nat.ble k 223)
    (cond (Nat.ble k 222)
    ⟨222,Tryz.f222,[],2,none,Tryz.func222,.mk' Tryz.func222 rfl (by decide)⟩
    ⟨223,Tryz.f223,[],2,none,Tryz.func223,.mk' Tryz.func223 rfl (by decide)⟩)
    (cond (Nat.ble k 226)
    ⟨226,Tryz.f226,[7],2,none,Tryz.func226,.mk' Tryz.func226 rfl (by decide)⟩
    (cond (Nat.ble k 227)
     ⟨227,Tryz.f227,[],2,none,Tryz.func227,.mk' Tryz.func227 rfl (by decide)⟩
     ⟨228,Tryz.f228,[],2,none,Tryz.func228,.mk' Tryz.func228 rfl (by decide)⟩)))
   (cond (Nat.ble k 230)
    (cond (Nat.ble k 229)
    ⟨229,Tryz.f229,[],2,none,Tryz.func229,.mk' Tryz.func229 rfl (by decide)⟩
    ⟨230,Tryz.f230,[],2,none,Tryz.func230,.mk' Tryz.func230 rfl (by decide)⟩)
    (cond (Nat.ble k 231)
    ⟨231,Tryz.f231,[],2,none,Tryz.func231,.mk' Tryz.func231 rfl (by decide)⟩
    (cond (Nat.ble k 232)
     ⟨232,Tryz.f232,[],2,none,Tryz.func232,.mk' Tryz.func232 rfl (by decide)⟩
     ⟨233,Tryz.f233,[],2,none,Tryz.func233,.mk' Tryz.func233 rfl (by decide)⟩))))
   (cond (Nat.ble k 238)
   (cond (Nat.ble k 235)
    (cond (Nat.ble k 234)
    ⟨234,Tryz.f234,[],2,none,Tryz.func234,.mk' Tryz.func234 rfl (by decide)⟩
    ⟨235,Tryz.f235,[],2,none,Tryz.func235,.mk' Tryz.func235 rfl (by decide)⟩)
    (cond (Nat.ble k 236)
    ⟨236,Tryz.f236,[],2,none,Tryz.func236,.mk' Tryz.func236 rfl (by decide)⟩
    (cond (Nat.ble k 237)
     ⟨237,Tryz.f237,[],2,none,Tryz.func237,.mk' Tryz.func237 rfl (by decide)⟩
     ⟨238,Tryz.f238,[],2,none,Tryz.func238,.mk' Tryz.func238 rfl (by decide)⟩)))
   (cond (Nat.ble k 240)
    (cond (Nat.ble k 239)
    ⟨239,Tryz.f239,[],2,none,Tryz.func239,.mk' Tryz.func239 rfl (by decide)⟩
    ⟨240,Tryz.f240,[],2,none,Tryz.func240,.mk' Tryz.func240 rfl (by decide)⟩)
    (cond (Nat.ble k 241)
    ⟨241,Tryz.f241,[],2,none,Tryz.func241,.mk' Tryz.func241 rfl (by decide)⟩
    (cond (Nat.ble k 242)
     ⟨242,Tryz.f242,[],2,none,Tryz.func242,.mk' Tryz.func242 rfl (by decide)⟩
     ⟨243,Tryz.f243,[],2,none,Tryz.func243,.mk' Tryz.func243 rfl (by decide)⟩)))))))
 (cond (Nat.ble k 285)
  (cond (Nat.ble k 265)
  (cond (Nat.ble k 255)
   (cond (Nat.ble k 247)
   (cond (Nat.ble k 245)
    (cond (Nat.ble k 244)
    ⟨244,Tryz.f244,[],2,none,Tryz.func244,.mk' Tryz.func244 rfl (by decide)⟩
    ⟨245,Tryz.f245,[],2,none,Tryz.func245,.mk' Tryz.func245 rfl (by decide)⟩)
    (cond (Nat.ble k 246)
    ⟨246,Tryz.f246,[],2,none,Tryz.func246,.mk' Tryz.func246 rfl (by decide)⟩
    ⟨247,Tryz.f247,[],2,none,Tryz.func247,.mk' Tryz.func247 rfl (by decide)⟩))
   (cond (Nat.ble k 249)
    (cond (Nat.ble k 248)
    ⟨248,Tryz.f248,[],2,none,Tryz.func248,.mk' Tryz.func248 rfl (by decide)⟩
    ⟨249,Tryz.f249,[],2,none,Tryz.func249,.mk' Tryz.func249 rfl (by decide)⟩)
    (cond (Nat.ble k 253)
    ⟨253,Tryz.f253,[],2,none,Tryz.func253,.mk' Tryz.func253 rfl (by decide)⟩
    (cond (Nat.ble k 254)
     ⟨254,Tryz.f254,[],2,none,Tryz.func254,.mk' Tryz.func254 rfl (by decide)⟩
     ⟨255,Tryz.f255,[16,999],2,none,Tryz.func255,.mk' Tryz.func255 rfl (by decide)⟩))))
   (cond (Nat.ble k 260)
   (cond (Nat.ble k 257)
    (cond (Nat.ble k 256)
    ⟨256,Tryz.f256,[],2,none,Tryz.func256,.mk' Tryz.func256 rfl (by decide)⟩
    ⟨257,Tryz.f257,[],2,none,Tryz.func257,.mk' Tryz.func257 rfl (by decide)⟩)
    (cond (Nat.ble k 258)
    ⟨258,Tryz.f258,[],2,none,Tryz.func258,.mk' Tryz.func258 rfl (by decide)⟩
    (cond (Nat.ble k 259)
     ⟨259,Tryz.f259,[],2,none,Tryz.func259,.mk' Tryz.func259 rfl (by decide)⟩
     ⟨260,Tryz.f260,[],2,none,Tryz.func260,.mk' Tryz.func260 rfl (by decide)⟩)))
   (cond (Nat.ble k 262)
    (cond (Nat.ble k 261)
    ⟨261,Tryz.f261,[],2,none,Tryz.func261,.mk' Tryz.func261 rfl (by decide)⟩
    ⟨262,Tryz.f262,[],2,none,Tryz.func262,.mk' Tryz.func262 rfl (by decide)⟩)
    (cond (Nat.ble k 263)
    ⟨263,Tryz.f263,[],2,none,Tryz.func263,.mk' Tryz.func263 rfl (by decide)⟩
    (cond (Nat.ble k 264)
     ⟨264,Tryz.f264,[],2,none,Tryz.func264,.mk' Tryz.func264 rfl (by decide)⟩
     ⟨265,Tryz.f265,[],2,none,Tryz.func265,.mk' Tryz.func265 rfl (by decide)⟩)))))
  (cond (Nat.ble k 275)
   (cond (Nat.ble k 270)
   (cond (Nat.ble k 267)
    (cond (Nat.ble k 266)
    ⟨266,Tryz.f266,[],2,none,Tryz.func266,.mk' Tryz.func266 rfl (by decide)⟩
    ⟨267,Tryz.f267,[],2,none,Tryz.func267,.mk' Tryz.func267 rfl (by decide)⟩)
    (cond (Nat.ble k 268)
    ⟨268,Tryz.f268,[],2,none,Tryz.func268,.mk' Tryz.func268 rfl (by decide)⟩
    (cond (Nat.ble k 269)
     ⟨269,Tryz.f269,[],2,none,Tryz.func269,.mk' Tryz.func269 rfl (by decide)⟩
     ⟨270,Tryz.f270,[],2,none,Tryz.func270,.mk' Tryz.func270 rfl (by decide)⟩)))
   (cond (Nat.ble k 272)
    (cond (Nat.ble k 271)
    ⟨271,Tryz.f271,[],2,none,Tryz.func271,.mk' Tryz.func271 rfl (by decide)⟩
    ⟨272,Tryz.f272,[],2,none,Tryz.func272,.mk' Tryz.func272 rfl (by decide)⟩)
    (cond (Nat.ble k 273)
    ⟨273,Tryz.f273,[],2,none,Tryz.func273,.mk' Tryz.func273 rfl (by decide)⟩
    (cond (Nat.ble k 274)
     ⟨274,Tryz.f274,[],2,none,Tryz.func274,.mk' Tryz.func274 rfl (by decide)⟩
     ⟨275,Tryz.f275,[],2,none,Tryz.func275,.mk' Tryz.func275 rfl (by decide)⟩))))
   (cond (Nat.ble k 280)
   (cond (Nat.ble k 277)
    (cond (Nat.ble k 276)
    ⟨276,Tryz.f276,[],2,none,Tryz.func276,.mk' Tryz.func276 rfl (by decide)⟩
    ⟨277,Tryz.f277,[],2,none,Tryz.func277,.mk' Tryz.func277 rfl (by decide)⟩)
    (cond (Nat.ble k 278)
    ⟨278,Tryz.f278,[],2,none,Tryz.func278,.mk' Tryz.func278 rfl (by decide)⟩
    (cond (Nat.ble k 279)
     ⟨279,Tryz.f279,[],2,none,Tryz.func279,.mk' Tryz.func279 rfl (by decide)⟩
     ⟨280,Tryz.f280,[],2,none,Tryz.func280,.mk' Tryz.func280 rfl (by decide)⟩)))
   (cond (Nat.ble k 282)
    (cond (Nat.ble k 281)
    ⟨281,Tryz.f281,[],2,none,Tryz.func281,.mk' Tryz.func281 rfl (by decide)⟩
    ⟨282,Tryz.f282,[],2,none,Tryz.func282,.mk' Tryz.func282 rfl (by decide)⟩)
    (cond (Nat.ble k 283)
    ⟨283,Tryz.f283,[],2,none,Tryz.func283,.mk' Tryz.func283 rfl (by decide)⟩
    (cond (Nat.ble k 284)
     ⟨284,Tryz.f284,[],2,none,Tryz.func284,.mk' Tryz.func284 rfl (by decide)⟩
     ⟨285,Tryz.f285,[],2,none,Tryz.func285,.mk' Tryz.func285 rfl (by decide)⟩))))))
  (cond (Nat.ble k 307)
  (cond (Nat.ble k 297)
   (cond (Nat.ble k 290)
   (cond (Nat.ble k 287)
    (cond (Nat.ble k 286)
    ⟨286,Tryz.f286,[],2,none,Tryz.func286,.mk' Tryz.func286 rfl (by decide)⟩
    ⟨287,Tryz.f287,[],2,none,Tryz.func287,.mk' Tryz.func287 rfl (by decide)⟩)
    (cond (Nat.ble k 288)
    ⟨288,Tryz.f288,[],2,none,Tryz.func288,.mk' Tryz.func288 rfl (by decide)⟩
    (cond (Nat.ble k 289)
     ⟨289,Tryz.f289,[],2,none,Tryz.func289,.mk' Tryz.func289 rfl (by decide)⟩
     ⟨290,Tryz.f290,[],2,none,Tryz.func290,.mk' Tryz.func290 rfl (by decide)⟩)))
   (cond (Nat.ble k 294)
    (cond (Nat.ble k 293)
    ⟨293,Tryz.f293,[],2,none,Tryz.func293,.mk' Tryz.func293 rfl (by decide)⟩
    ⟨294,Tryz.f294,[],2,none,Tryz.func294,.mk' Tryz.func294 rfl (by decide)⟩)
    (cond (Nat.ble k 295)
    ⟨295,Tryz.f295,[],2,none,Tryz.func295,.mk' Tryz.func295 rfl (by decide)⟩
    (cond (Nat.ble k 296)
     ⟨296,Tryz.f296,[],2,none,Tryz.func296,.mk' Tryz.func296 rfl (by decide)⟩
     ⟨297,Tryz.f297,[],2,none,Tryz.func297,.mk' Tryz.func297 rfl (by decide)⟩))))
   (cond (Nat.ble k 302)
   (cond (Nat.ble k 299)
    (cond (Nat.ble k 298)
    ⟨298,Tryz.f298,[],2,none,Tryz.func298,.mk' Tryz.func298 rfl (by decide)⟩
    ⟨299,Tryz.f299,[],2,none,Tryz.func299,.mk' Tryz.func299 rfl (by decide)⟩)
    (cond (Nat.ble k 300)
    ⟨300,Tryz.f300,[],2,none,Tryz.func300,.mk' Tryz.func300 rfl (by decide)⟩
    (cond (Nat.ble k 301)
     ⟨301,Tryz.f301,[],2,none,Tryz.func301,.mk' Tryz.func301 rfl (by decide)⟩
     ⟨302,Tryz.f302,[],2,none,Tryz.func302,.mk' Tryz.func302 rfl (by decide)⟩)))
   (cond (Nat.ble k 304)
    (cond (Nat.ble k 303)
    ⟨303,Tryz.f303,[],2,none,Tryz.func303,.mk' Tryz.func303 rfl (by decide)⟩
    ⟨304,Tryz.f304,[],2,none,Tryz.func304,.mk' Tryz.func304 rfl (by decide)⟩)
    (cond (Nat.ble k 305)
    ⟨305,Tryz.f305,[],2,none,Tryz.func305,.mk' Tryz.func305 rfl (by decide)⟩
    (cond (Nat.ble k 306)
     ⟨306,Tryz.f306,[],2,none,Tryz.func306,.mk' Tryz.func306 rfl (by decide)⟩
     ⟨307,Tryz.f307,[],2,none,Tryz.func307,.mk' Tryz.func307 rfl (by decide)⟩)))))
  (cond (Nat.ble k 330)
   (cond (Nat.ble k 321)
   (cond (Nat.ble k 309)
    (cond (Nat.ble k 308)
    ⟨308,Tryz.f308,[],2,none,Tryz.func308,.mk' Tryz.func308 rfl (by decide)⟩
    ⟨309,Tryz.f309,[],2,none,Tryz.func309,.mk' Tryz.func309 rfl (by decide)⟩)
    (cond (Nat.ble k 319)
    ⟨319,Tryz.f319,[],2,none,Tryz.func319,.mk' Tryz.func319 rfl (by decide)⟩
    (cond (Nat.ble k 320)
     ⟨320,Tryz.f320,[],2,none,Tryz.func320,.mk' Tryz.func320 rfl (by decide)⟩
     ⟨321,Tryz.f321,[],2,none,Tryz.func321,.mk' Tryz.func321 rfl (by decide)⟩)))
   (cond (Nat.ble k 327)
    (cond (Nat.ble k 322)
    ⟨322,Tryz.f322,[],2,none,Tryz.func322,.mk' Tryz.func322 rfl (by decide)⟩
    ⟨327,Tryz.f327,[],2,none,Tryz.func327,.mk' Tryz.func327 rfl (by decide)⟩)
    (cond (Nat.ble k 328)
    ⟨328,Tryz.f328,[],2,none,Tryz.func328,.mk' Tryz.func328 rfl (by decide)⟩
    (cond (Nat.ble k 329)
     ⟨329,Tryz.f329,[],2,none,Tryz.func329,.mk' Tryz.func329 rfl (by decide)⟩
     ⟨330,Tryz.f330,[],2,none,Tryz.func330,.mk' Tryz.func330 rfl (by decide)⟩))))
   (cond (Nat.ble k 335)
   (cond (Nat.ble k 332)
    (cond (Nat.ble k 331)
    ⟨331,Tryz.f331,[],2,none,Tryz.func331,.mk' Tryz.func331 rfl (by decide)⟩
    ⟨332,Tryz.f332,[],2,none,Tryz.func332,.mk' Tryz.func332 rfl (by decide)⟩)
    (cond (Nat.ble k 333)
    ⟨333,Tryz.f333,[],2,none,Tryz.func333,.mk' Tryz.func333 rfl (by decide)⟩
    (cond (Nat.ble k 334)
     ⟨334,Tryz.f334,[],2,none,Tryz.func334,.mk' Tryz.func334 rfl (by decide)⟩
     ⟨335,Tryz.f335,[],2,none,Tryz.func335,.mk' Tryz.func335 rfl (by decide)⟩)))
   (cond (Nat.ble k 338)
    (cond (Nat.ble k 337)
    ⟨337,Tryz.f337,[],2,none,Tryz.func337,.mk' Tryz.func337 rfl (by decide)⟩
    ⟨338,Tryz.f338,[],2,none,Tryz.func338,.mk' Tryz.func338 rfl (by decide)⟩)
    (cond (Nat.ble k 339)
    ⟨339,Tryz.f339,[],2,none,Tryz.func339,.mk' Tryz.func339 rfl (by decide)⟩
    (cond (Nat.ble k 340)
     ⟨340,Tryz.f340,[],2,none,Tryz.func340,.mk' Tryz.func340 rfl (by decide)⟩
     ⟨341,Tryz.f341,[],2,none,Tryz.func341,.mk' Tryz.func341 rfl (by decide)⟩)))))))))
def cs (k:Nat):List Nat :=
 (cond (Nat.ble k 163)
 (cond (Nat.ble k 84)
 (cond (Nat.ble k 45)
  (cond (Nat.ble k 25)
  (cond (Nat.ble k 14)
   (cond (Nat.ble k 9)
   (cond (Nat.ble k 6)
    (cond (Nat.ble k 5)
    [9,10,11,12,13,14,15,16,17]
    [18])
    (cond (Nat.ble k 7)
    [19]
    [21,22,23,24]))
   (cond (Nat.ble k 11)
    (cond (Nat.ble k 10)
    [25]
    [26,27,28])
    (cond (Nat.ble k 12)
    [26,27,28,29,30,31]
    (cond (Nat.ble k 13)
     [26,32,33]
     [26,33,34]))))
   (cond (Nat.ble k 19)
   (cond (Nat.ble k 16)
    (cond (Nat.ble k 15)
    [7,14,35,36]
    [26,37])
    (cond (Nat.ble k 17)
    [6]
    (cond (Nat.ble k 18)
     []
     [38])))
   (cond (Nat.ble k 22)
    (cond (Nat.ble k 21)
    [41,42,43,44,45]
    [46,47,48])
    (cond (Nat.ble k 23)
    [49,50,51,52,53,54]
    (cond (Nat.ble k 24)
     [55,56,57,58,59]
     [60])))))
  (cond (Nat.ble k 35)
   (cond (Nat.ble k 30)
   (cond (Nat.ble k 27)
    (cond (Nat.ble k 26)
    []
    [55,61,62,63,64])
    (cond (Nat.ble k 28)
    [24,27,48,65,66,67]
    (cond (Nat.ble k 29)
     [68,69,70,71,72,73,74,75]
     [])))
   (cond (Nat.ble k 32)
    (cond (Nat.ble k 31)
    [55]
    [76,77,78])
    (cond (Nat.ble k 33)
    [28]
    (cond (Nat.ble k 34)
     [76,77,78,79,80]
     [26,81]))))
   (cond (Nat.ble k 40)
   (cond (Nat.ble k 37)
    (cond (Nat.ble k 36)
    [26,33,82]
    [55,83])
    (cond (Nat.ble k 38)
    [39,129,168,171,175,180,188,207,214,222,223,256,294]
    (cond (Nat.ble k 39)
     []
     [])))
   (cond (Nat.ble k 42)
    (cond (Nat.ble k 41)
    [49,84,85,86]
    [60,87])
    (cond (Nat.ble k 43)
    [42,88,89]
    (cond (Nat.ble k 44)
     [90,91]
     [92,93,94]))))))
  (cond (Nat.ble k 64)
  (cond (Nat.ble k 54)
   (cond (Nat.ble k 49)
   (cond (Nat.ble k 47)
    (cond (Nat.ble k 46)
    [95,96]
    [49,50,53,85,97,98,99,100])
    (cond (Nat.ble k 48)
    [46,62,71,101,102]
    []))
   (cond (Nat.ble k 51)
    (cond (Nat.ble k 50)
    [51,86,103,104]
    [])
    (cond (Nat.ble k 52)
    [50,85,97,98,99,105,106,107]
    (cond (Nat.ble k 53)
     [51,86,103]
     [71,105,108,109,110,111]))))
   (cond (Nat.ble k 59)
   (cond (Nat.ble k 56)
    (cond (Nat.ble k 55)
    []
    [61,102,109,112])
    (cond (Nat.ble k 57)
    [71,73,113,114,115,116]
    (cond (Nat.ble k 58)
     []
     [72,95,96,102,112,113,114,115,117,118])))
   (cond (Nat.ble k 61)
    (cond (Nat.ble k 60)
    []
    [])
    (cond (Nat.ble k 62)
    [119,120]
    (cond (Nat.ble k 63)
     [62]
     [121])))))
  (cond (Nat.ble k 74)
   (cond (Nat.ble k 69)
   (cond (Nat.ble k 66)
    (cond (Nat.ble k 65)
    [54,92,94,105,122,123,124,125,126]
    [])
    (cond (Nat.ble k 67)
    [44,93]
    (cond (Nat.ble k 68)
     []
     [68,72,75])))
   (cond (Nat.ble k 71)
    (cond (Nat.ble k 70)
    [71,73,113]
    [62,127])
    (cond (Nat.ble k 72)
    [71,73,109,128,129,130,131,132]
    (cond (Nat.ble k 73)
     [133]
     [109,128,129]))))
   (cond (Nat.ble k 79)
   (cond (Nat.ble k 76)
    (cond (Nat.ble k 75)
    [134]
    [55])
    (cond (Nat.ble k 77)
    []
    (cond (Nat.ble k 78)
     [135,136,137,138]
     [])))
   (cond (Nat.ble k 81)
    (cond (Nat.ble k 80)
    [81]
    [55,139])
    (cond (Nat.ble k 82)
    [76,78,80]
    (cond (Nat.ble k 83)
     [140,141]
     [142])))))))
 (cond (Nat.ble k 123)
  (cond (Nat.ble k 103)
  (cond (Nat.ble k 93)
   (cond (Nat.ble k 88)
   (cond (Nat.ble k 86)
    (cond (Nat.ble k 85)
    [51,103,104,143]
    [144])
    (cond (Nat.ble k 87)
    []
    [42,60,87,145]))
   (cond (Nat.ble k 90)
    (cond (Nat.ble k 89)
    [42,88]
    [87,145,146])
    (cond (Nat.ble k 91)
    [87,145]
    (cond (Nat.ble k 92)
     [147,148]
     [148,149]))))
   (cond (Nat.ble k 98)
   (cond (Nat.ble k 95)
    (cond (Nat.ble k 94)
    []
    [])
    (cond (Nat.ble k 96)
    []
    (cond (Nat.ble k 97)
     [51,85]
     [51,71,85,103,150])))
   (cond (Nat.ble k 100)
    (cond (Nat.ble k 99)
    [51,85,103,106,129]
    [48])
    (cond (Nat.ble k 101)
    [62,71,109,129,130,131,132,151]
    (cond (Nat.ble k 102)
     []
     [])))))
  (cond (Nat.ble k 113)
   (cond (Nat.ble k 108)
   (cond (Nat.ble k 105)
    (cond (Nat.ble k 104)
    []
    [])
    (cond (Nat.ble k 106)
    [50,51,85,103,109,152,153,154]
    (cond (Nat.ble k 107)
     [51,72,98,99,103]
     [])))
   (cond (Nat.ble k 110)
    (cond (Nat.ble k 109)
    [77,79,155,156,157]
    [158])
    (cond (Nat.ble k 111)
    [72,105,159]
    (cond (Nat.ble k 112)
     [109,128,132,151,160]
     [62,161]))))
   (cond (Nat.ble k 118)
   (cond (Nat.ble k 115)
    (cond (Nat.ble k 114)
    [62,162]
    [63,72,73,112,163])
    (cond (Nat.ble k 116)
    [128,141,164,165]
    (cond (Nat.ble k 117)
     [166]
     [64,167])))
   (cond (Nat.ble k 120)
    (cond (Nat.ble k 119)
    [169,170]
    [])
    (cond (Nat.ble k 121)
    [173,174]
    (cond (Nat.ble k 122)
     [147]
     [92,122,176,177,178]))))))
  (cond (Nat.ble k 143)
  (cond (Nat.ble k 133)
   (cond (Nat.ble k 128)
   (cond (Nat.ble k 125)
    (cond (Nat.ble k 124)
    [62,92]
    [124,126])
    (cond (Nat.ble k 126)
    [92,123]
    (cond (Nat.ble k 127)
     [179]
     [161,182])))
   (cond (Nat.ble k 130)
    (cond (Nat.ble k 129)
    [172,183]
    [184])
    (cond (Nat.ble k 131)
    [185]
    (cond (Nat.ble k 132)
     [186]
     [187]))))
   (cond (Nat.ble k 138)
   (cond (Nat.ble k 135)
    (cond (Nat.ble k 134)
    []
    [])
    (cond (Nat.ble k 136)
    [189]
    (cond (Nat.ble k 137)
     [190]
     [109,128,141,191,192])))
   (cond (Nat.ble k 140)
    (cond (Nat.ble k 139)
    [141,193]
    [193,194,195])
    (cond (Nat.ble k 141)
    [121]
    (cond (Nat.ble k 142)
     [93,143,196]
     [])))))
  (cond (Nat.ble k 153)
   (cond (Nat.ble k 148)
   (cond (Nat.ble k 145)
    (cond (Nat.ble k 144)
    []
    [60])
    (cond (Nat.ble k 146)
    [60]
    (cond (Nat.ble k 147)
     []
     [197,198])))
   (cond (Nat.ble k 150)
    (cond (Nat.ble k 149)
    [199]
    [85,97,103])
    (cond (Nat.ble k 151)
    [173]
    (cond (Nat.ble k 152)
     [51,85,97,103,156]
     [51,85,86,103,104]))))
   (cond (Nat.ble k 158)
   (cond (Nat.ble k 155)
    (cond (Nat.ble k 154)
    [51,85,103,129,152]
    [156,200])
    (cond (Nat.ble k 156)
    []
    (cond (Nat.ble k 157)
     [129]
     [201])))
   (cond (Nat.ble k 160)
    (cond (Nat.ble k 159)
    [109,129]
    [114,202])
    (cond (Nat.ble k 161)
    [120,169]
    (cond (Nat.ble k 162)
     []
     [114]))))))))
 (cond (Nat.ble k 243)
 (cond (Nat.ble k 202)
  (cond (Nat.ble k 182)
  (cond (Nat.ble k 172)
   (cond (Nat.ble k 167)
   (cond (Nat.ble k 165)
    (cond (Nat.ble k 164)
    [121]
    [204])
    (cond (Nat.ble k 166)
    [185]
    [39,129,168,171,175,180,188,205,207,214,222,223,256,294]))
   (cond (Nat.ble k 169)
    (cond (Nat.ble k 168)
    [128]
    [206])
    (cond (Nat.ble k 170)
    [208,209]
    (cond (Nat.ble k 171)
     [172]
     [210]))))
   (cond (Nat.ble k 177)
   (cond (Nat.ble k 174)
    (cond (Nat.ble k 173)
    []
    [209,212])
    (cond (Nat.ble k 175)
    [129]
    (cond (Nat.ble k 176)
     [92]
     [92,147])))
   (cond (Nat.ble k 179)
    (cond (Nat.ble k 178)
    [92,156,176,186]
    [39,129,168,171,175,180,188,207,214,222,223,256,294])
    (cond (Nat.ble k 180)
    [181]
    (cond (Nat.ble k 181)
     []
     [169,213])))))
  (cond (Nat.ble k 192)
   (cond (Nat.ble k 187)
   (cond (Nat.ble k 184)
    (cond (Nat.ble k 183)
    [215]
    [216])
    (cond (Nat.ble k 185)
    [128,186]
    (cond (Nat.ble k 186)
     [211,217,218]
     [39,119,120,129,168,171,175,180,188,207,214,222,223,256,294])))
   (cond (Nat.ble k 189)
    (cond (Nat.ble k 188)
    [219,220]
    [])
    (cond (Nat.ble k 190)
    []
    (cond (Nat.ble k 191)
     [221]
     [221]))))
   (cond (Nat.ble k 197)
   (cond (Nat.ble k 194)
    (cond (Nat.ble k 193)
    [226]
    [209,227])
    (cond (Nat.ble k 195)
    []
    (cond (Nat.ble k 196)
     [228]
     [])))
   (cond (Nat.ble k 199)
    (cond (Nat.ble k 198)
    []
    [])
    (cond (Nat.ble k 200)
    []
    (cond (Nat.ble k 201)
     []
     [119,156]))))))
  (cond (Nat.ble k 221)
  (cond (Nat.ble k 211)
   (cond (Nat.ble k 206)
   (cond (Nat.ble k 204)
    (cond (Nat.ble k 203)
    []
    [128,173])
    (cond (Nat.ble k 205)
    [39,129,168,171,175,180,188,207,214,222,223,256,294]
    [209,229]))
   (cond (Nat.ble k 208)
    (cond (Nat.ble k 207)
    [183]
    [39,129,168,171,175,180,188,207,208,214,222,223,230,231,232,233,234,235,236,237,256,294])
    (cond (Nat.ble k 209)
    [238,239]
    (cond (Nat.ble k 210)
     []
     []))))
   (cond (Nat.ble k 216)
   (cond (Nat.ble k 213)
    (cond (Nat.ble k 212)
    [39,129,168,171,175,180,188,207,212,214,222,223,240,241,242,243,244,245,246,247,256,294]
    [39,129,168,171,175,180,188,207,214,222,223,256,294])
    (cond (Nat.ble k 214)
    [183]
    (cond (Nat.ble k 215)
     []
     [248])))
   (cond (Nat.ble k 218)
    (cond (Nat.ble k 217)
    [209,249]
    [])
    (cond (Nat.ble k 219)
    [169]
    (cond (Nat.ble k 220)
     [169]
     [39,129,132,168,171,175,180,188,207,214,222,223,256,294])))))
  (cond (Nat.ble k 233)
   (cond (Nat.ble k 228)
   (cond (Nat.ble k 223)
    (cond (Nat.ble k 222)
    []
    [])
    (cond (Nat.ble k 226)
    [253,254,255]
    (cond (Nat.ble k 227)
     [227,257,258,259,260,261,262,263,264,265]
     [])))
   (cond (Nat.ble k 230)
    (cond (Nat.ble k 229)
    [39,129,168,171,175,180,188,207,214,222,223,229,256,266,267,268,269,270,271,272,273,294]
    [39,129,168,171,175,180,188,207,214,222,223,256,294])
    (cond (Nat.ble k 231)
    [274]
    (cond (Nat.ble k 232)
     [275,276]
     [277,278]))))
   (cond (Nat.ble k 238)
   (cond (Nat.ble k 235)
    (cond (Nat.ble k 234)
    []
    [39,129,168,171,175,180,188,207,214,222,223,256,294])
    (cond (Nat.ble k 236)
    [39,129,168,171,175,180,188,207,214,222,223,256,294]
    (cond (Nat.ble k 237)
     [39,129,168,171,175,180,188,207,214,222,223,256,294]
     [])))
   (cond (Nat.ble k 240)
    (cond (Nat.ble k 239)
    []
    [39,129,168,171,175,180,188,207,214,222,223,256,294])
    (cond (Nat.ble k 241)
    [279]
    (cond (Nat.ble k 242)
     [275,276]
     [280,281])))))))
 (cond (Nat.ble k 285)
  (cond (Nat.ble k 265)
  (cond (Nat.ble k 255)
   (cond (Nat.ble k 247)
   (cond (Nat.ble k 245)
    (cond (Nat.ble k 244)
    []
    [39,129,168,171,175,180,188,207,214,222,223,256,294])
    (cond (Nat.ble k 246)
    [39,129,168,171,175,180,188,207,214,222,223,256,294]
    [39,129,168,171,175,180,188,207,214,222,223,256,294]))
   (cond (Nat.ble k 249)
    (cond (Nat.ble k 248)
    [282]
    [39,129,168,171,175,180,188,207,214,222,223,249,256,283,284,285,286,287,288,289,290,294])
    (cond (Nat.ble k 253)
    [293]
    (cond (Nat.ble k 254)
     [39,129,168,171,175,180,188,207,214,222,223,256,294,296]
     [297,298]))))
   (cond (Nat.ble k 260)
   (cond (Nat.ble k 257)
    (cond (Nat.ble k 256)
    []
    [263])
    (cond (Nat.ble k 258)
    [299]
    (cond (Nat.ble k 259)
     [275,276]
     [300,301])))
   (cond (Nat.ble k 262)
    (cond (Nat.ble k 261)
    []
    [263])
    (cond (Nat.ble k 263)
    [215]
    (cond (Nat.ble k 264)
     [263]
     [263])))))
  (cond (Nat.ble k 275)
   (cond (Nat.ble k 270)
   (cond (Nat.ble k 267)
    (cond (Nat.ble k 266)
    [39,129,168,171,175,180,188,207,214,222,223,256,294]
    [302])
    (cond (Nat.ble k 268)
    [275,276]
    (cond (Nat.ble k 269)
     [303,304]
     [])))
   (cond (Nat.ble k 272)
    (cond (Nat.ble k 271)
    [39,129,168,171,175,180,188,207,214,222,223,256,294]
    [39,129,168,171,175,180,188,207,214,222,223,256,294])
    (cond (Nat.ble k 273)
    [39,129,168,171,175,180,188,207,214,222,223,256,294]
    (cond (Nat.ble k 274)
     [39,129,168,171,175,180,188,207,214,222,223,256,294]
     [209]))))
   (cond (Nat.ble k 280)
   (cond (Nat.ble k 277)
    (cond (Nat.ble k 276)
    []
    [278])
    (cond (Nat.ble k 278)
    [305]
    (cond (Nat.ble k 279)
     [39,129,168,171,175,180,188,207,214,222,223,256,294]
     [281])))
   (cond (Nat.ble k 282)
    (cond (Nat.ble k 281)
    [306]
    [])
    (cond (Nat.ble k 283)
    [39,129,168,171,175,180,188,207,214,222,223,256,294]
    (cond (Nat.ble k 284)
     [307]
     [275,276]))))))
  (cond (Nat.ble k 307)
  (cond (Nat.ble k 297)
   (cond (Nat.ble k 290)
   (cond (Nat.ble k 287)
    (cond (Nat.ble k 286)
    [308,309]
    [])
    (cond (Nat.ble k 288)
    [39,129,168,171,175,180,188,207,214,222,223,256,294]
    (cond (Nat.ble k 289)
     [39,129,168,171,175,180,188,207,214,222,223,256,294]
     [39,129,168,171,175,180,188,207,214,222,223,256,294])))
   (cond (Nat.ble k 294)
    (cond (Nat.ble k 293)
    [39,129,168,171,175,180,188,207,214,222,223,256,294]
    [172,183,295])
    (cond (Nat.ble k 295)
    []
    (cond (Nat.ble k 296)
     [39,129,168,171,175,180,188,207,214,222,223,256,294]
     [209,319]))))
   (cond (Nat.ble k 302)
   (cond (Nat.ble k 299)
    (cond (Nat.ble k 298)
    []
    [263])
    (cond (Nat.ble k 300)
    [301]
    (cond (Nat.ble k 301)
     [320]
     [39,129,168,171,175,180,188,207,214,222,223,256,294])))
   (cond (Nat.ble k 304)
    (cond (Nat.ble k 303)
    [304]
    [321])
    (cond (Nat.ble k 305)
    [39,129,168,171,175,180,188,207,214,222,223,256,294]
    (cond (Nat.ble k 306)
     [39,129,168,171,175,180,188,207,214,222,223,256,294]
     [39,129,168,171,175,180,188,207,214,222,223,256,294])))))
  (cond (Nat.ble k 330)
   (cond (Nat.ble k 321)
   (cond (Nat.ble k 309)
    (cond (Nat.ble k 308)
    [309]
    [322])
    (cond (Nat.ble k 319)
    [319,327,328,329,330,331,332,333,334,335]
    (cond (Nat.ble k 320)
     [263]
     [39,129,168,171,175,180,188,207,214,222,223,256,294])))
   (cond (Nat.ble k 327)
    (cond (Nat.ble k 322)
    [39,129,168,171,175,180,188,207,214,222,223,256,294]
    [333])
    (cond (Nat.ble k 328)
    [337]
    (cond (Nat.ble k 329)
     [275,276]
     [338,339]))))
   (cond (Nat.ble k 335)
   (cond (Nat.ble k 332)
    (cond (Nat.ble k 331)
    []
    [333])
    (cond (Nat.ble k 333)
    [340]
    (cond (Nat.ble k 334)
     [333]
     [333])))
   (cond (Nat.ble k 338)
    (cond (Nat.ble k 337)
    [333]
    [339])
    (cond (Nat.ble k 339)
    [341]
    (cond (Nat.ble k 340)
     []
     [333])))))))))
def Qr4:Go.Shelf.Ren:=⟨fun | 4=>203 | n=>n,fun | 20=>20 | 22=>43 | 25=>222 | n=>n,fun n=>n⟩
theorem Qzo:Lays8.n4 Tryz.prog Qr4:={
 mixed:=mixed
 f4:=⟨Tryz.f203.name,by decide,Tryz.func203.trans (congrArg some (by kernel_rfl))⟩
 t0:=Tryz.underlying0
 a0:=Tryz.isAgg0
 z0:=Tryz.sizeOf0
 v0:=Tryz.zeroValue0
 t3:=Tryz.underlying3
 a3:=Tryz.isAgg3
 z3:=Tryz.sizeOf3
 v3:=Tryz.zeroValue3
 t4:=Tryz.underlying4
 a4:=Tryz.isAgg4
 z4:=Tryz.sizeOf4
 v4:=Tryz.zeroValue4
 t9:=Tryz.underlying9
 a9:=Tryz.isAgg9
 z9:=Tryz.sizeOf9
 v9:=Tryz.zeroValue9
 t20:=Tryz.underlying20
 a20:=Tryz.isAgg20
 z20:=Tryz.sizeOf20
 v20:=Tryz.zeroValue20
 t22:=Tryz.underlying43
 a22:=Tryz.isAgg43
 z22:=Tryz.sizeOf43
 v22:=Tryz.zeroValue43
}
@[reducible] def tDot:Ty:=(.pair (.int .u16) (.int .u64))
theorem Qxi:SndA (NewS Tryz.prog 40 .str) [.d (.sl .str)] (Q88 .str 16) []:=Qax (own:=[5,7]) (N:=10) (an:=.lf) mixed Tryz.func40 rfl (fun y r=>by kernel_rfl) (by kernel_rfl) (fun a cap=>by kernel_rfl)
theorem Qv7:SndA (NewS Tryz.prog 211 tDot) [.d (.sl tDot)] (Q88 tDot 16) []:=Qax (own:=[5,7]) (N:=10) (an:=.lf) mixed Tryz.func211 rfl (fun y r=>by kernel_rfl) (by kernel_rfl) (fun a cap=>by kernel_rfl)
noncomputable def base:List (Ent Tryz.prog):=[Q107 Qzo (.mk' Tryz.func203 rfl (by decide)),mkEnt 40 [(.sl .str)] [(.sl .str)] (Q9l .str 16) (.mk' Tryz.func40 rfl (by decide)) (Q9n Qxi),mkEnt 211 [(.sl tDot)] [(.sl tDot)] (Q9l tDot 16) (.mk' Tryz.func211 rfl (by decide)) (Q9n Qv7),Xg.e_maps_Keys 2000000000000,Xg.e_slices_Sorted_uint8 2000000000000]
def gids:List Nat:=[0,1]
def T0:List Int:=[0,16,192,76,32,0,2,3,292,36,4]
def T1:List Int:=[0,498536548,997073096,651767980,1994146192,1802195444,1303535960,1342533948,3988292384,4027552580,3604390888,3412177804,2607071920,2262029012,2685067896,3183342108]
def ys:List XV:=[.d (.pa (.int .i64) T0),.d (.pa (.int .u32) T1)]
noncomputable def law:FI Tryz.prog:=⟨5,Tryz.f5,[],0,none,Tryz.func5,.mk' Tryz.func5 rfl (by decide)⟩
end Go.Proofs.Xw
namespace Go.Xl
open Go.Ab
noncomputable def altS {P:Program} {k:FuncId} (a b : {e:Ent P // e.id=k}) : {e:Ent P // e.id=k}:=⟨Q10a a.1 b.1 (b.2.trans a.2.symm),a.2⟩
noncomputable def memoS {P:Program} (hm:P.follows .mixedOrders=true) (Γ:List (Ent P)) (gids:List Nat) (N:Nat) (fi:FI P) (l:List (Memo (runI P Γ fi N gids))) : {e:Ent P // e.id=fi.id} :=
 ⟨Q3 hm Γ gids N fi l,rfl⟩
end Go.Xl
