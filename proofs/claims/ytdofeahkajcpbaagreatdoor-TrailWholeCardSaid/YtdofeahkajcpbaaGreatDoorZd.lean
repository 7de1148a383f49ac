import Derived.Test.YtdofeahkajcpbaaGreatDoorZc
import Derived.Test.YtdofeahkajcpbaaGreatDoorZa
import Derived.Laws.StandIn
import Derived.Lib.Bytealg
import Derived.Shelf.SlSortCmp.NoneTotal
import Derived.IntWalk
import Derived.Test.YtdofeahkajcpbaaGreatDoorZb
import Derived.OpenShut
import Derived.FnData
import Derived.LaidSub
import Derived.Shelf.SlGeneric
import Derived.Ground.SlsfProg
import Derived.Test.YtdofeahkajcpbaaGreatDoorProg
import Derived.KernelRfl
set_option linter.unusedVariables false
set_option linter.unusedSimpArgs false
set_option linter.unnecessarySimpa false
set_option linter.unusedSectionVars false
set_option maxRecDepth 100000
open Go.IntKind (i64 u64 u16)
open Go.Proofs.Tryz
noncomputable section
namespace Go.Xl
open Go.Ab
def A7u(t:Ty)(bytes:Nat)(l:List t.T):A3 (A3 (List t.T×Nat)) :=
 Ee l (some none) fun y r=>cond (Aw (y::r).length bytes) (some (some (y::r,(y::r).length))) none
theorem Aig.empty{P:Program}{f:FuncId}{t:Ty}{xs:A2 XV}(h:Aig P f t (some ([],0)) xs):Aig P f t none xs:=by
 intro g w vs hr hl ha;refine(h g w vs hr hl ha).mono ?_;rintro e w' ⟨g',v,rfl,h1,h2⟩;refine⟨g',v,rfl,?_,?_⟩
 ·obtain⟨cap,o,_,hv,_⟩:=RA.Q1 h1;rw[hv];exact .d _ _ (.nil _ _ _ (by simp))
 ·refine(h2.B1 (k:=1) (by simp[X0])).alike ⟨fun j=>?_,rfl⟩;simp only[O1,Ab.B1,X0];by_cases hj:j=1
  ·subst hj;rfl
  ·rfl
theorem Av4{P:Program}{own:A2 Nat}{N:Nat}{f:FuncId}{fn:Func}{an:An}{t:Ty}{bytes:Nat}(hm:P.follows .mixedOrders=true)(hf:P.funcs[f]? = some fn)(hn:Nat.ble 1 fn.ntmps=true)
  (h1:∀y r,Av3 P [] own N fn an t [.d (.sl t (y::r))]=cond (Aw (0+(y::r).length) bytes) (some (some ([]++y::r,0+(y::r).length))) none)
  (h2:Av3 P [] own N fn an t [.d (.v (.slice none 0 0))]=some none) (h3:∀a cap,Av3 P [] own N fn an t [.d (.v (.slice (some a) 0 cap))]=some (some ([],0))) :
  Ad3 (Aig P f t) [.d (.sl t)] (A7u t bytes) []:=by
 intro l y hy;cases l with
 |cons x r =>simp only[A7u,Ee]at hy;have h1':=h1 x r;rw[Blx,Bm0]at h1';rw[← h1']at hy;exact A2z hm hf hn hy
 |nil =>
  simp only[A7u,Ee,Bks]at hy;subst hy;have k2:=A2z (xs:=[.d (.v (.slice none 0 0))]) hm hf hn h2;have k3:=fun a cap=>(A2z (xs:=[.d (.v (.slice (some a) 0 cap))]) hm hf hn (h3 a cap)).empty
  intro g w vs hr hl ha;have G9:vs.size=1:=by rw[← hl];rfl
  have e0:=ha 0 _ vs[0] rfl (by simp[G9]);generalize hv:vs[0]=v at e0;have hp:∃p cap,v = .slice p 0 cap∧(p=none→cap=0):=by
   cases e0 with
   |d _ _ h =>
    cases h with
    |nil _ p cap h0=>exact⟨_,_,rfl,h0⟩
    |sl _ _ b off len cap hl=>subst hl;exact⟨_,_,rfl,by simp⟩
  obtain⟨p,cap,rfl,h0⟩:=hp;have args:∀x:XV,RA g w x.a (.slice p 0 cap)→∀(i:Nat) z u,(A9 [x])[i]? = some z→vs[i]? = some u→RA g w z u:=by
   intro x hx i z u hz hu;cases i with
   |zero =>
    simp only[A9,Bo3,Bks]at hz;subst hz;have:u=vs[0]:=by rw[Bli (by omega)]at hu;exact(Bor hu).symm
    rw[this,hv];exact hx
   |succ i=>simp[A9]at hz
  cases p with
  |none =>have:=h0 rfl;subst this;exact k2 g w vs hr (by simpa[A9]using hl) (args _ (.d _ _ (.sc _)))
  |some a=>exact k3 a cap g w vs hr (by simpa[A9]using hl) (args _ (.d _ _ (.sc _)))
theorem Aig.frozen{P:Program}{f:FuncId}{t:Ty}{xs:A2 XV}{z:List t.T×Nat}(h:Aig P f t (some z) xs)(hz:z.2≤z.1.length):Lz P f (A9 xs) X0 (.d (.sl t.size ((z.1.take z.2).map t.ds))) X0:=by
 intro g w vs hr hl ha;refine(h g w vs hr hl ha).mono ?_;rintro e w' ⟨g',v,rfl,h1,h2⟩;obtain⟨f1,f2,f3⟩:=HR.freeze (k:=1) (sz:=t.size) (es:=z.1.map t.ds) (ty:=none) h2 (by simp[X0]) rfl (by
  intro i cs hc;rw[Bkt,Bky]at hc;obtain⟨y,_,rfl⟩:=hc;exact t.Cf y)
 refine⟨_,v,rfl,?_,f1.alike ⟨fun j=>?_,rfl⟩⟩
 ·have:=f3 0 z.2 v (by simpa using hz) (by simpa using h1);rw[Bo6,← Bo5]at this;exact this
 ·simp only[O1,Ab.B1,X0];by_cases hj:j=1
  ·subst hj;rfl
  ·rfl
def Aii(t:Ty)(bytes:Nat)(l:List t.T):A3 (List t.T) :=
 Ee l (some []) fun y r=>cond (Aw (y::r).length bytes) (some (y::r)) none
theorem Arc{P:Program}{f:FuncId}{t:Ty}{bytes:Nat}(h:Ad3 (Aig P f t) [.d (.sl t)] (A7u t bytes) []):Ad1 P f [.sl t] [.sl t] (Aii t bytes) []:=by
 intro l y hy;cases l with
 |nil =>simp only[Aii,Ee,Bks]at hy;subst hy;exact h [] none rfl
 |cons x r =>
  simp only[Aii,Ee]at hy;cases hb:Aw (x::r).length bytes with
  |false=>simp only[hb,Bko]at hy;cases hy
  |true =>simp only[hb,Bkn,Bks]at hy;subst hy;have:=h (x::r) (some (x::r,(x::r).length)) (by simp only[A7u,Ee,hb,Bkn]);have:=this.frozen (Bl1 _);rw[Bm4]at this;exact this
def GHold(g:Gh)(w:World)(gs:A2 (Nat×AV)):Prop:=∀p∈gs,RA g w p.2 (.pointer (some ⟨p.1,0,none⟩))
def DoesG(P:Program)(f:FuncId)(args:A2 AV)(gs:A2 (Nat×AV))(res:AV):Prop :=
 ∀(g:Gh) (w:World) (vs:Array Value),HR [] (Bl.of g w X0) g w X0→GHold g w gs→args.length=vs.size →
  (∀(i:Nat) x v,args[i]? = some x→vs[i]? = some v→RA g w x v) →
  Calls P f vs w fun e w'=>∃g' v,e = .returned v∧RA g' w' res v∧HR [] (Bl.of g w X0) g' w' X0
theorem DoesG.use{P:Program}{X:A7}{f:FuncId}{xs:A2 AV}{gs:A2 (Nat×AV)}{res:AV}(hs:DoesG P f xs gs res)(hd:Ba xs=true)(hg:Ba (gs.map (·.2))=true)(Uq:Ki res=true){nm:A2 Nat}{B:Bl}{g:Gh}{w:World}
  (hr:HR nm B g w X) (hgs:GHold g w gs) {vs:Array Value} (hl:xs.length=vs.size) (Nz:∀(i:Nat) x v,xs[i]? = some x→vs[i]? = some v→RA g w x v) :
  Calls P f vs w fun e w'=>∃v g',e = .returned v∧HR nm B g' w' X∧Trans [] g w g' w'∧RA g' w' res v:=by
 have h0:HR [] (Bl.of { g with β:=fun _=>none } w X0) { g with β:=fun _=>none } w X0 :=
  ⟨by simp,hr.Ik,Bl1 _,⟨rfl,rfl,rfl,Bl1 _⟩,.refl _ _,fun b _ _=>⟨rfl,rfl⟩,by simp[X0],by simp[X0],by simp[X0],by simp[X0],by simp[X0],by simp,by simp,by simp,by simp,.off fun _=>rfl⟩
 have Bdx:GHold { g with β:=fun _=>none } w gs:=by intro p hp;obtain⟨i,hi⟩:=Bpg hp;exact(hgs p hp).data (Iv hg (i:=i) (by rw[Bkt,hi];rfl)) (.refl _ _)
 have:=hs { g with β:=fun _=>none } w vs h0 Bdx hl fun i x v hx hv=>(Nz i x v hx hv).data (Iv hd hx) (.refl _ _)
 refine this.mono ?_;rintro e w' ⟨gc,v,rfl,T8,h1⟩;obtain⟨h2,h3⟩:=hr.At5 (gc:=gc) h1;exact⟨v,_,rfl,h2,h3,T8.data Uq (.refl _ _)⟩
theorem Aar:∀ {l:A2 AV} (n:Nat),Ba l=true→Ba (l.take n)=true
 |[],n,_=>by simp[Ba]
 |x::r,0,_=>rfl
 |x::r,n+1,h=>by
  simp only[Ba,Bls]at h;simp only[Bpl,Ba,Bls];exact⟨h.1,Aar n h.2⟩
theorem Aas:∀ {l:A2 AV} (n:Nat),Ba l=true→Ba (l.drop n)=true
 |[],n,_=>by simp[Ba]
 |x::r,0,h=>h
 |x::r,n+1,h=>by
  simp only[Ba,Bls]at h;exact Aas n h.2
theorem Xk:∀ {l:A2 AV} (ks:A2 Nat),Ba l=true→Ba ((ks.zip l).map (·.2))=true
 |[],ks,_=>by cases ks<;>rfl
 |x::r,[],_=>rfl
 |x::r,k::ks,h=>by
  simp only[Ba,Bls]at h;simp only[Bnn,Bkv,Ba,Bls];exact⟨h.1,Xk ks h.2⟩
theorem B8b{P:Program}{o:Oper}{X:A7}{f:FuncId}{args:Array Operand}{ts:Array TypeId}{D8:A2 Nat}{xs:A2 AV}{res:AV}(ho:o.op = .call { callee:=.value (.func f),args:=args,argTypes:=ts })(hf:Ez P f)
  (hs:DoesG P f (xs.take args.size) (D8.zip (xs.drop args.size)) res) (hl:args.size≤xs.length) (hd:Ba xs=true) (Uq:Ki res=true) :
  Bp P o ((args.toList++D8.map Operand.global).zip xs) X X [] res:=by
 intro nm Ek B g w a hr Aq next Q hn
 have hz:(args.toList++D8.map Operand.global).zip xs=args.toList.zip (xs.take args.size)++(D8.map Operand.global).zip (xs.drop args.size):=by
  conv=>lhs;rw[← Bmt args.size xs]
  rw[Bot (by simp;omega)]
 rw[hz]at Aq;unfold Oper.wp;have:(execOp a.eval o).run P w = .ok (.enter f (args.map a.eval)) w:=by simp only[execOp,ho,resolve];simp[Act.eval,Deferred.ofValue,invoke,D5 hf]
 rw[this];have hG:GHold g w (D8.zip (xs.drop args.size)):=by
  intro p hp;have h1:(Operand.global p.1,p.2)∈(D8.map Operand.global).zip (xs.drop args.size):=by rw[Br4,Bl2];exact⟨p,hp,rfl⟩
  exact Aq _ (Bl9 _ h1)
 refine(hs.use (Aar _ hd) (Xk _ (Aas _ hd)) Uq hr hG (by simp;omega) (V6 fun p hp=>Aq p (Bla _ hp))).mono ?_;rintro e w' ⟨v,g',rfl,h1,h2,h3⟩;exact hn g' w' v h1 h2 h3
def glE:A2 Nat→A2 XV→A2 (Nat×XV)
 |k::ks,x::r=>(GB+k,x)::glE ks r
 |_,_=>[]
theorem Ag0:∀ {D8:A2 Nat} {xs:A2 XV} {t:Nat} {x:AV},(t,x)∈E0 (glE D8 xs)→∃k,t=GB+k∧(k,x)∈D8.zip (A9 xs)
 |[],xs,t,x,h=>by simp[glE,E0]at h
 |k::ks,[],t,x,h=>by simp[glE,E0]at h
 |k::ks,y::r,t,x,h=>by
  simp only[glE,E0,Bkv,Bkq,Bld]at h;rcases h with ⟨rfl,rfl⟩|h
  ·exact⟨k,rfl,by simp[A9]⟩
  ·obtain⟨k',h1,h2⟩:=Ag0 (D8:=ks) (xs:=r) (t:=t) (x:=x) (by simpa[E0]using h);exact⟨k',h1,by simp only[A9,Bnn];exact Bkx _ h2⟩
def B1n(P:Program)(Γ:A2 (Ga P))(own:A2 Nat)(N:Nat)(fn:Func)(an:An)(res:A2 Ty)(n:Nat)(D8:A2 Nat)(xs:A2 XV):A3 (B6 res) :=
 match fn.body with
 |some c=>cond (Nat.ble fn.ntmps GB) (exec P Γ own [] fn.ntmps N c an ⟨A7q 0 (xs.take n)++glE D8 (xs.drop n),[],[],[],[]⟩ (finish P fn res)) none
 |none=>none
theorem Av5{P:Program}{Γ:A2 (Ga P)}{own:A2 Nat}{N:Nat}{f:FuncId}{fn:Func}{an:An}{res:A2 Ty}{n:Nat}{D8:A2 Nat}{xs:A2 XV}{y:B6 res}(hm:P.follows .mixedOrders=true)(hf:P.funcs[f]? = some fn)
  (hn:Nat.ble n fn.ntmps=true) (h:B1n P Γ own N fn an res n D8 xs=some y):DoesG P f (A9 (xs.take n)) (D8.zip (A9 (xs.drop n))) (Tt res y).a:=by
 unfold B1n at h;split at h
 ·rename_i c hc;obtain⟨hG,h⟩:=An4 h;have hs:=Ro (S:=⟨fn.ntmps,[],by simp⟩) hm rfl c an _ _ _ _ (.refl _) h;intro g w vs hr hgs hl ha;have hlen:(A9 (xs.take n)).length≤n:=by rw[Ag];simp;omega
  have L0:=Bl5 hn;refine Bq0 hf hc (Bpd (hs (Bl.of g w X0) g w _ ?_) ?_)
  ·refine⟨rfl,?_,hr,?_⟩
   ·simp;omega
   ·intro t x hx;have hx':(E0 (A7q 0 (xs.take n))++E0 (glE D8 (xs.drop n))).lookup t=some x:=by rw[E0,E0,← Ble];exact hx
    rw[Bmq,A4r]at hx';cases h1:(A16 0 (A9 (xs.take n))).lookup t with
    |some x1 =>
     rw[h1]at hx';simp only[Boh,Bks]at hx';subst hx';obtain⟨_,hx'⟩:=N4 h1;rw[Bnu]at hx';have Bs:t<vs.size:=by have:=(Bku.1 hx').1;omega
     refine⟨vs[t],?_,ha t x1 _ hx' (by simp[Bs])⟩;rw[Rg (by omega)];simp[Bog,Bs]
    |none =>rw[h1]at hx';simp only[Bom]at hx';obtain⟨k,rfl,hk⟩:=Ag0 (Di hx');exact⟨_,Zt k,hgs _ hk⟩
  ·rintro e a' w' ⟨s,g',⟨Bq,rfl,hi,hk⟩,H4⟩;have fin:A4t P fn res Bq=some y →
     a'.defers=[]∧∃v,(results fn a'.tmps).run P w' = .ok v w'∧∃g' v_1,Ending.returned v=Ending.returned v_1∧RA g' w' (Tt res y).a v_1∧HR [] (Bl.of g w X0) g' w' X0:=by
    intro h;unfold A4t at h;split at h
    ·rename_i zs h1;obtain⟨ys,o,h2,h⟩:=A4s h
     ·obtain⟨v,hv,T8⟩:=M4 (S7 h1) H4;obtain⟨g1,Yk,ht1,has⟩:=Ar8 h2 g' H4.hr;have hs1:SR ⟨fn.ntmps,[],by simp⟩ (Bl.of g w X0) g1 w' ⟨[],⟨A6 o,Bq.live⟩⟩ a':=⟨H4.defers,H4.size,Yk,by simp⟩;have hw:Asy [] ⟨[],⟨A6 o,Bq.live⟩⟩ ⟨[],X0⟩:=⟨by simp,by simp[X0],by simp[X0],by simp⟩;obtain⟨g'',ht,Ad0⟩:=hs1.A8z hw;rw[← Qm]at T8;have Aid:=(has.L8 T8).mono ht (.nil _);exact⟨H4.defers,v,hv,g'',v,rfl,Auy h g'' w' v Aid,Ad0.hr⟩
    ·cases h
   cases e with
   |ret=>exact fin hk
   |normal=>exact fin hk
   |_=>simp[finish]at hk
 ·cases h
def Vn(P:Program)(Γ:A2 (Ga P))(own:A2 Nat)(N:Nat)(fn:Func)(an:An)(args res:A2 Ty)(n:Nat)(D8:A2 Nat):C1 args (A3 (B6 res)) :=
 A2v args (fun xs=>B1n P Γ own N fn an res n D8 xs) []
def Ad7(P:Program)(f:FuncId)(res:A2 Ty)(n:Nat)(D8:A2 Nat):(args:A2 Ty)→C1 args (A3 (B6 res))→A2 XV→Prop
 |[],F,acc=>∀y,F=some y→DoesG P f (A9 (acc.take n)) (D8.zip (A9 (acc.drop n))) (Tt res y).a
 |t::r,F,acc=>∀x:t.T,Ad7 P f res n D8 r (F x) (acc++[.d (t.xv x)])
theorem Aeo{P:Program}{Γ:A2 (Ga P)}{own:A2 Nat}{N:Nat}{f:FuncId}{fn:Func}{an:An}{res:A2 Ty}{n:Nat}{D8:A2 Nat}(hm:P.follows .mixedOrders=true)(hf:P.funcs[f]? = some fn)(hn:Nat.ble n fn.ntmps=true) :
  ∀(args:A2 Ty) (acc:A2 XV),Ad7 P f res n D8 args (A2v args (fun xs=>B1n P Γ own N fn an res n D8 xs) acc) acc
 |[],acc=>fun y hy=>Av5 hm hf hn hy
 |t::r,acc=>fun x=>Aeo hm hf hn r (acc++[.d (t.xv x)])
theorem Aij{P:Program}{Γ:A2 (Ga P)}{own:A2 Nat}{N:Nat}{f:FuncId}{fn:Func}{an:An}{args res:A2 Ty}{n:Nat}{D8:A2 Nat}(hm:P.follows .mixedOrders=true)(hf:P.funcs[f]? = some fn)
  (hn:Nat.ble n fn.ntmps=true):Ad7 P f res n D8 args (Vn P Γ own N fn an args res n D8) []:=Aeo hm hf hn args []
def Ard:A2 Nat→A2 Operand
 |[]=>[]
 |k::r=>.global k::Ard r
theorem Z3(l:A2 Nat):Ard l=l.map Operand.global:=by
 induction l with
 |nil=>rfl
 |cons k r ih=>simp[Ard,ih]
def Are{α:Type}:A2 α→A2 α→A2 α
 |[],b=>b
 |x::r,b=>x::Are r b
theorem A4v{α:Type}(a b:A2 α):Are a b=a++b:=by
 induction a with
 |nil=>rfl
 |cons x r ih=>simp[Are,ih]
def Av6{R:Type}(args res:A2 Ty)(n:Nat)(D8:A2 Nat)(F:C1 args (A3 (B6 res)))(o:Oper)(st:Ad)(vs:A2 XV)(K:Out→A3 R):A3 R :=
 cond (Nat.beq (Bm o).length n) (match C5 st (Ard D8) with
  |some us=>A7s args F (Are (Bm o) (Ard D8)) (Are vs us) [] fun Fv rd=>Option.bind Fv fun y=>K (B5 st (Tt res y) rd)
  |none=>none) none
theorem Li{st:Ad}:∀ {a b:A2 Operand} {u v:A2 XV},C5 st a=some u→C5 st b=some v→C5 st (a++b)=some (u++v)
 |[],b,u,v,h,h'=>by simp[C5]at h;subst h;exact h'
 |x::a,b,u,v,h,h'=>by
  simp only[C5]at h;split at h
  ·rename_i y l hy hl;cases h;simp only[Bmx,C5,hy,Li hl h']
  ·cases h
theorem Av7{P:Program}{R:Type}{f:FuncId}{res:A2 Ty}{n:Nat}{D8:A2 Nat}{st:Ad}{K:A3 (B6 res)→A2 (Operand×XV)→A3 R}{r:R}:∀(ts:A2 Ty) (F:C1 ts (A3 (B6 res))) (ops:A2 Operand) (vs:A2 XV) (acc:A2 (Operand×XV)) (Bt:A2 Operand) (axs:A2 XV),
  Ad7 P f res n D8 ts F axs→C5 st ops=some vs→acc=Bt.zip axs→Bt.length=axs.length→(∀p∈B0 acc,E3 st.im p.1 p.2)→Ba (A9 axs)=true→A7s ts F ops vs acc K=some r →
  ∃(Fv:A3 (B6 res)) (xs:A2 XV),xs.length=(Bt++ops).length∧(∀y,Fv=some y→DoesG P f (A9 (xs.take n)) (D8.zip (A9 (xs.drop n))) (Tt res y).a)∧Ba (A9 xs)=true ∧
   (∀p∈B0 ((Bt++ops).zip xs),E3 st.im p.1 p.2)∧K Fv ((Bt++ops).zip xs)=some r
 |[],F,ops,vs,acc,Bt,axs,hs,hv,Ad2,hlen,A5r,hda,h=>by
  cases ops with
  |nil =>
   cases vs with
   |nil =>subst Ad2;exact⟨F,axs,by simp[hlen],hs,hda,by simpa using A5r,by rw[Blt];exact h⟩
   |cons _ _=>simp[A7s]at h
  |cons _ _=>simp[A7s]at h
 |t::ts,F,ops,vs,acc,Bt,axs,hs,hv,Ad2,hlen,A5r,hda,h=>by
  cases ops with
  |nil=>simp[A7s]at h
  |cons x ops =>
   cases vs with
   |nil=>simp[A7s]at h
   |cons v vs =>
    simp only[A7s]at h;obtain⟨hx,Nz⟩:=F4 hv;split at h
    ·rename_i y hy;have:=Av7 ts (F y) ops vs _ (Bt++[x]) (axs++[.d (t.xv y)]) (hs y) Nz (by rw[Ad2,Bot hlen];rfl) (by simp[hlen]) (by
      intro p hp;rw[F2]at hp;rcases Bkw.1 hp with hp|hp
      ·exact A5r p hp
      ·simp only[B0,Bkv,Bll,Bl7]at hp;subst hp;exact P6 hx hy) (by
      have:∀l:A2 AV,Ba l=true→Ba (l++[.d (t.dv y)])=true:=by
       intro l;induction l with
       |nil=>intro _;rfl
       |cons a r ih=>intro h;simp only[Ba,Bls,Bmx]at h⊢;exact⟨h.1,ih h.2⟩
      rw[Dk];exact this _ hda) h
     simpa using this
    ·cases h
def Bew{P:Program}(id:FuncId)(args res:A2 Ty)(n:Nat)(D8:A2 Nat)(F:C1 args (A3 (B6 res)))(hc:Ez P id)(hs:Ad7 P id res n D8 args F []):Ga P where
 id:=id
 run:=Av6 args res n D8 F
 ok:=by
  intro R o st Bt ts vs K r ho hv h;unfold Av6 at h;have e:Bm o=Bt.toList:=by simp[Bm,ho]
  rw[e]at h;cases hb:Nat.beq Bt.toList.length n with
  |false=>rw[hb]at h;cases h
  |true =>
   have hn:=Bkr hb;rw[hb,Bkn]at h;split at h
   ·rename_i us hus;rw[A4v,A4v,Z3]at h;rw[Z3]at hus;obtain⟨Fv,xs,h1,h2,h3,h4,h5⟩:=Av7 (st:=st) args F _ _ [] [] [] hs (Li hv hus) rfl rfl (by simp[B0]) rfl h;obtain⟨y,hy,hK⟩:=Blr.1 h5;simp only[Bm0]at h1 h4 hK;refine⟨_,hK,A8 h4 fun X=>?_⟩;have hd:=h2 y hy;have hn2:n=Bt.size:=by rw[← hn];simp
    rw[hn2,A4e,A4f]at hd;have:=B8b (X:=X) (xs:=A9 xs) ho hc hd (by rw[Ag,h1];simp) h3 (A7t res y);rw[Iy];exact this
   ·cases h
def A6q{P:Program}{Γ:A2 (Ga P)}{own:A2 Nat}{N:Nat}(id:FuncId)(fn:Func)(an:An)(args res:A2 Ty)(n:Nat)(D8:A2 Nat)(F:C1 args (A3 (B6 res)))(hm:P.follows .mixedOrders=true)(hf:P.funcs[id]? = some fn)
  (hc:Ez P id) (hn:Nat.ble n fn.ntmps=true) (hE:Vn P Γ own N fn an args res n D8=F):Ga P :=
 Bew id args res n D8 F hc (hE▸Aij hm hf hn)
mutual
def XV.mp(f fl:Nat→Nat):XV→XV
 |.d x=>.d x
 |.nm k p=>.nm (f k) p
 |.Bu n t l ty=>.Bu (fl n) t l ty
 |.E2 l=>.E2 (mpL f fl l)
 |.agg l=>.agg (mpL f fl l)
 |.Ff g l=>.Ff g (mpL f fl l)
 |.os k t a len=>.os (f k) t a len
 |.el k t i fo=>.el (f k) t i fo
 |.Uo n e x l=>.Uo (fl n) e x l
def mpL(f fl:Nat→Nat):List XV→List XV
 |[]=>[]
 |x::r=>x.mp f fl::mpL f fl r
end
mutual
theorem XV.Bex(f fl:Nat→Nat):∀x:XV,(x.mp f fl).a=Rk f fl x.a
 |.d x=>rfl
 |.nm k p=>rfl
 |.Bu n t l ty=>rfl
 |.E2 l=>by simp only[XV.mp,XV.a,Rk,Aep f fl l]
 |.agg l=>by simp only[XV.mp,XV.a,Rk,Aep f fl l]
 |.Ff g l=>by simp only[XV.mp,XV.a,Rk,Aep f fl l]
 |.os k t a len=>rfl
 |.el k t i fo=>rfl
 |.Uo n e x l=>rfl
theorem Aep(f fl:Nat→Nat):∀l:List XV,A9 (mpL f fl l)=O4 f fl (A9 l)
 |[]=>rfl
 |x::r=>by simp only[mpL,A9,O4,XV.Bex f fl x,Aep f fl r]
end
theorem Aat(f fl:Nat→Nat)(l:A2 XV):mpL f fl l=l.map (XV.mp f fl):=by
 induction l with
 |nil=>rfl
 |cons x r ih=>simp[mpL,ih]
mutual
def XV.nms(ks ls:List Nat):XV→Bool
 |.d _=>true
 |.nm k _=>inl k ks
 |.Bu n _ _ _=>inl n ls
 |.E2 l=>A7v ks ls l
 |.agg l=>A7v ks ls l
 |.Ff _ l=>A7v ks ls l
 |.os k _ _ _=>inl k ks
 |.el k _ _ _=>inl k ks
 |.Uo n _ _ _=>inl n ls
def A7v(ks ls:List Nat):List XV→Bool
 |[]=>true
 |x::r=>cond (x.nms ks ls) (A7v ks ls r) false
end
theorem A4w{k:Nat}{l:A2 Nat}(h:inl k l=true):l.contains k=true:=Blz.2 ((D3 k l).1 h)
mutual
theorem XV.B8c{ks ls:List Nat}:∀ {x:XV},x.nms ks ls=true→H5 ks ls x.a=true
 |.d x,h=>rfl
 |.nm k p,h=>A4w h
 |.Bu n t l ty,h=>A4w h
 |.E2 l,h=>by simp only[XV.nms]at h;simp only[XV.a,H5];exact A7w h
 |.agg l,h=>by simp only[XV.nms]at h;simp only[XV.a,H5];exact A7w h
 |.Ff g l,h=>by simp only[XV.nms]at h;simp only[XV.a,H5];exact A7w h
 |.os k t a len,h=>A4w h
 |.el k t i fo,h=>A4w h
 |.Uo n e x l,h=>A4w h
theorem A7w{ks ls:List Nat}:∀ {l:List XV},A7v ks ls l=true→Kl ks ls (A9 l)=true
 |[],h=>rfl
 |x::r,h=>by
  simp only[A7v]at h;cases hx:x.nms ks ls with
  |false=>simp[hx]at h
  |true =>simp only[hx,Bkn]at h;simp only[A9,Kl,XV.B8c hx,A7w h,Bmo]
end
def Ac.mp(f fl:Nat→Nat):Ac→Ac
 |.cells cs ty=>.cells (mpL f fl cs) ty
 |.arr t l=>.arr t l
 |.Oy s p=>.Oy s p
 |.map kt vt es c=>.map kt vt es c
 |.Jg m a b c=>.Jg (f m) a b c
 |.Dt=>.Dt
 |.bts e l=>.bts e l
 |.Ck L kt vt es c=>.Ck L kt vt es c
 |.abs h S ty x=>.abs h S ty x
theorem Ac.B8d(f fl:Nat→Nat)(o:Ac):(o.mp f fl).plain=o.plain:=by cases o<;>rfl
theorem A31(f fl:Nat→Nat):∀l:A2 D,O4 f fl (l.map .d)=l.map .d
 |[]=>rfl
 |x::r=>by simp only[Bkv,O4,Rk,A31 f fl r]
theorem Ac.Bey(f fl:Nat→Nat){o:Ac}(h:o.plain=true):(o.mp f fl).o=Ll f fl o.o:=by
 cases o with
 |abs=>cases h
 |cells cs ty=>simp only[Ac.mp,Ac.o,Ll,Aep]
 |arr t l=>simp only[Ac.mp,Ac.o,Ll,A31]
 |bts e l=>simp only[Ac.mp,Ac.o,Ll,A31]
 |_=>rfl
def Ac.nms(ks ls:A2 Nat):Ac→Bool
 |.cells cs _=>A7v ks ls cs
 |.Jg m _ _ _=>inl m ks
 |.Ck _ _ _ _ _=>false
 |.abs _ _ _ _=>false
 |_=>true
theorem Ac.Anb{ks ls:A2 Nat}{o:Ac}(h:o.nms ks ls=true):o.plain=true:=by cases o<;>first|rfl|cases h
theorem Y7(ks ls:A2 Nat):∀l:A2 D,Kl ks ls (l.map .d)=true
 |[]=>rfl
 |x::r=>by simp only[Bkv,Kl,H5,Y7 ks ls r,Bmo]
theorem Ac.Bh8{ks ls:A2 Nat}{o:Ac}(h:o.nms ks ls=true):Jw ks ls o.o=true:=by
 cases o with
 |cells cs ty=>simp only[Ac.nms]at h;simp only[Ac.o,Jw];exact A7w h
 |arr t l=>simp only[Ac.o,Jw];exact Y7 _ _ _
 |bts e l=>simp only[Ac.o,Jw];exact Y7 _ _ _
 |Jg m a b c=>exact A4w h
 |Ck L kt vt es c=>simp[Ac.nms]at h
 |abs=>cases h
 |_=>rfl
def Ua(ks ls:A2 Nat):A2 (Nat×Ac)→Bool
 |[]=>true
 |p::r=>cond (p.2.nms ks ls) (Ua ks ls r) false
theorem Lj{ks ls:A2 Nat}:∀ {l:A2 (Nat×Ac)},Ua ks ls l=true→E1 l=true
 |[],_=>rfl
 |p::r,h=>by
  obtain⟨h1,h2⟩:=Ap (a:=p.2.nms ks ls) (b:=Ua ks ls r) h;simp only[E1,Ac.Anb h1,Bkn];exact Lj h2
theorem A7x{ks ls:A2 Nat}:∀ {l:A2 (Nat×Ac)},Ua ks ls l=true→((A6 l).all fun p=>Jw ks ls p.2)=true
 |[],_=>rfl
 |p::r,h=>by
  simp only[Ua]at h;cases hx:p.2.nms ks ls with
  |false=>simp[hx]at h
  |true =>simp only[hx,Bkn]at h;have:=A7x h;rw[Ats (by simp only[E1,Ac.Anb hx,Bkn];exact Lj h)];simp only[Bqv,Ac.Bh8 hx,Bp7];exact this
def Aau(f fl:Nat→Nat):A2 (Nat×Ac)→A2 (Nat×Ac)→A2 (Nat×Ac)
 |[],acc=>acc
 |p::r,acc=>Aau f fl r (K6 (f p.1) (p.2.mp f fl) acc)
theorem Aik(f fl:Nat→Nat):∀ {l acc:A2 (Nat×Ac)},E1 l=true→E1 acc=true→A6 (Aau f fl l acc)=Cu f fl (A6 l) (A6 acc)
 |[],acc,_,_=>rfl
 |p::r,acc,hl,ha=>by
  obtain⟨h1,h2⟩:=Ap (a:=p.2.plain) (b:=E1 r) hl;have hp:(p.2.mp f fl).plain=true:=by rw[Ac.B8d];exact h1
  have:=Aik f fl (l:=r) (acc:=K6 (f p.1) (p.2.mp f fl) acc) h2 (A79 hp ha);rw[B6q hp ha,Ac.Bey f fl h1]at this;rw[Ats hl];exact this
theorem Aeq(f fl:Nat→Nat):∀(l acc:A2 (Nat×Ac)) (j:Nat),(∀p∈l,f p.1≠j)→lk j (Aau f fl l acc)=lk j acc
 |[],acc,j,h=>rfl
 |p::r,acc,j,h=>by
  simp only[Aau];rw[Aeq f fl r _ j (fun q hq=>h q (Bkx _ hq)),Jl _ _ _ _ (fun e=>h p (Bkz ..) e.symm)]
inductive Afj:Ob→Ob→Prop
 |refl (o:Ob):Afj o o
 |cells {cs Wf:List AV} {ty Wl:Option TypeId}:cs.length=Wf.length→(∀(i:Nat) x y,cs[i]? = some x→Wf[i]? = some y→Wn x y)→(Wl=ty∨Wl=none)→Afj (.cells cs ty) (.cells Wf Wl)
 |Ck (L sz:Nat) (l:List (Nat×Value×Bool×List (List D))) (c:Nat):Afj (.Ck L sz l c) (.map (Tb sz l) c)
theorem Ail{g:Gh}{w:World}{b:Nat}{o o':Ob}(h:C3 g w b o)(hle:Afj o o'):C3 g w b o':=by
 cases hle with
 |refl=>exact h
 |Ck L sz l c =>
  cases h with
  |Ck _ _ _ _ es a1 a2 a3 a4 a5 =>
   refine .map _ c es a1 (by simpa[Tb]using a2) ?_ ?_ ?_
   ·intro i x e hx he;simp only[Tb,Bkt,Bky]at hx;obtain⟨y,hy,rfl⟩:=hx;obtain⟨b1,b2,b3,_⟩:=a3 i y e hy he;exact⟨b1,b2,b3⟩
   ·intro q hq;simp only[Tb,Bl2]at hq;obtain⟨y,hy,rfl⟩:=hq;exact a4 y hy
   ·simpa[Tb,Bnh,Bnz]using a5
 |cells hl hc ht =>
  cases h with
  |cells _ _ arr T h1 h2 h3 h4 =>
   refine .cells _ _ arr T h1 (hl▸h2) ?_ ?_
   ·intro i y v hy hv;have Bs:=(Bku.1 hy).1;obtain⟨x,hx⟩:∃x,_=some x:=⟨_,Bl8 (l:=_) (i:=i) (by rw[hl];exact Bs)⟩;exact hc i x y hx hy g w v (h3 i x v hx hv)
   ·intro t hh;rcases ht with e|e
    ·exact h4 t (e▸hh)
    ·rw[e]at hh;cases hh
theorem B1o{nm:A2 Nat}{B:Bl}{g:Gh}{w:World}{X Y:A7}(h:HR nm B g w X)(hle:∀k o',Y.objs.lookup k=some o'→∃o,X.objs.lookup k=some o∧Afj o o')
  (hk:∀k,(X.objs.lookup k).isSome→(Y.objs.lookup k).isSome) (hl:Y.live=X.live):HR nm B g w Y where
 Dc k hm:=⟨(h.Dc k hm).1,hk k (h.Dc k hm).2⟩
 Ik:=h.Ik
 base:=h.base
 io:=h.io
 le:=h.le
 frame:=h.frame
 objs k o' ho:=by obtain⟨o,h1,h2⟩:=hle k o' ho;exact Ail (h.objs k o h1) h2
 Fx k o' ho:=by obtain⟨o,h1,h2⟩:=hle k o' ho;exact h.Fx k o h1
 C0 k k' o o' ho ho':=by obtain⟨_,h1,_⟩:=hle k o ho;obtain⟨_,h2,_⟩:=hle k' o' ho';exact h.C0 k k' _ _ h1 h2
 Ce k o' ho:=by obtain⟨o,h1,h2⟩:=hle k o' ho;exact h.Ce k o h1
 live n:=by rw[hl];exact h.live n
 C4:=h.C4
 Bo n b k o' hn ho:=by obtain⟨o,h1,h2⟩:=hle k o' ho;exact h.Bo n b k o hn h1
 Ca:=h.Ca
 Cd:=h.Cd
 eta:=h.eta.same (Bl1 _) fun k o' ho=>let ⟨o,h1,_⟩:=hle k o' ho;⟨o,h1⟩
theorem B8e{P:Program}{o:Oper}{rd:A2 (Operand×AV)}{X Y X':A7}{F:A2 Nat}{res:AV}(h:Bp P o rd Y X' F res)(hle:∀k o',Y.objs.lookup k=some o'→∃o,X.objs.lookup k=some o∧Afj o o')
  (hk:∀k,(X.objs.lookup k).isSome→(Y.objs.lookup k).isSome) (hl:Y.live=X.live):Bp P o rd X X' F res :=
 fun nm Ek B g w a hr=>h nm Ek B g w a (B1o hr hle hk hl)
theorem Afk{P:Program}{X:A7}{o:Oper}{fn:FuncId}{c:Operand}{args:Array Operand}{ts:Array TypeId}{xs J9:A2 AV}{res:AV}{Xc D1:A7}(f fl:Nat→Nat)(F:A2 Nat)
  (ho:o.op = .call { callee:=.value c,args:=args,argTypes:=ts }) (hf:Ez P fn) (hs:Lz P fn (xs++J9) Xc res D1) (hc:A00 X Xc D1 f fl F)
  (hl:xs.length=args.size) (hd:Kl (Xc.objs.map (·.1)) Xc.live (xs++J9)=true) (Uq:H5 (D1.objs.map (·.1)) D1.live res=true) :
  Bp P o ((c,.Ff fn (O4 f fl J9))::args.toList.zip (O4 f fl xs)) X ⟨Cu f fl D1.objs X.objs,Hu fl X Xc D1⟩ F (Rk f fl res):=by
 intro nm Ek B g w a hr Aq next Q hn
 have e1:=H9 Aq;simp only at e1;unfold Oper.wp;generalize hcv:a.eval c=vc at e1;cases e1 with
 |Ff _ _ vs hlen Nz =>
  have:(execOp a.eval o).run P w = .ok (.enter fn (args.map a.eval++vs)) w:=by simp only[execOp,ho,resolve];simp[hcv,Deferred.ofValue,invoke,D5 hf]
  rw[this];have hm:∀l m:A2 AV,O4 f fl (l++m)=O4 f fl l++O4 f fl m:=fun l m=>by rw[Ix,Ix,Ix,Ble]
  have hml:(O4 f fl xs).length=args.size:=by rw[Ix,Blb,hl]
  have hmc:J9.length=vs.size:=by rw[Ix,Blb]at hlen;exact hlen
  refine(hs.Aou hc hd Uq hr (vs:=args.map a.eval++vs) (by simp[hl,hmc]) ?_).mono ?_
  ·intro i x v hx hv;rw[hm,Bm2]at hx;split at hx
   ·rename_i Bs;rw[Bn6 (by simp;omega)]at hv;exact V6 (fun p hp=>Aq p (Bkx _ hp)) i x v hx hv
   ·rename_i hge;rw[Bo9 (by simp;omega)]at hv;refine Nz _ x v hx ?_;rw[hml];simpa using hv
  ·rintro e w' ⟨v,g',rfl,h1,h2,h3⟩;exact hn g' w' v h1 h2 h3
theorem Alg{P:Program}{X:A7}{o:Oper}{fn:FuncId}{args:Array Operand}{ts:Array TypeId}{D8:A2 Nat}{xs ys:A2 AV}{res:AV}{Xc D1:A7}(f fl:Nat→Nat)(F:A2 Nat)
  (ho:o.op = .call { callee:=.value (.func fn),args:=args,argTypes:=ts }) (hf:Ez P fn) (hs:Ae4 P fn xs (D8.zip ys) Xc res D1) (hc:A00 X Xc D1 f fl F)
  (hl:xs.length=args.size) (hd:Kl (Xc.objs.map (·.1)) Xc.live xs=true) (hy:Ba ys=true) (Uq:H5 (D1.objs.map (·.1)) D1.live res=true) :
  Bp P o (args.toList.zip (O4 f fl xs)++(D8.map Operand.global).zip ys) X ⟨Cu f fl D1.objs X.objs,Hu fl X Xc D1⟩ F (Rk f fl res):=by
 intro nm Ek B g w a hr Aq next Q hn
 unfold Oper.wp;have:(execOp a.eval o).run P w = .ok (.enter fn (args.map a.eval)) w:=by simp only[execOp,ho,resolve];simp[Act.eval,Deferred.ofValue,invoke,D5 hf]
 rw[this];have hG:GH g w (D8.zip ys):=by
  intro p hp;have h1:(Operand.global p.1,p.2)∈(D8.map Operand.global).zip ys:=by rw[Br4,Bl2];exact⟨p,hp,rfl⟩
  exact Aq _ (Bl9 _ h1)
 refine(hs.Aou (Xk _ hy) hc hd Uq hr hG (by simpa using hl) (V6 fun p hp=>Aq p (Bla _ hp))).mono ?_;rintro e w' ⟨v,g',rfl,h1,h2,h3⟩;exact hn g' w' v h1 h2 h3
inductive AS where
 |d (t:Ty)
 |p (k off:Nat)
 |os (k:Nat) (t:Ty)
 |Ff (f:Nat) (ps:List (Nat×Nat))
 |oa (k a:Nat) (t:Ty)
 |g (k:Nat) (t:Ty)
 |nil (p:Option Bool)
def Arf:A2 AS→A2 Nat
 |[]=>[]
 |.g k _::r=>k::Arf r
 |_::r=>Arf r
def A7y:A2 AS→Nat
 |[]=>0
 |.g _ _::_=>0
 |_::r=>A7y r+1
structure Fg where
 args:List AS
 objs:List (Nat×List VK×Option TypeId)
 Qj:List (Nat×OK)
 out:Cut
def Fg.names(S:Fg):A2 Nat:=Ie S.objs++Fk S.Qj
def Fg.Eb(S:Fg):A2 Nat:=A0g S.objs
def Fg.D8(S:Fg):A2 Nat:=Arf S.args
def Fg.n(S:Fg):Nat:=A7y S.args
def Fg.s0(S:Fg)(xs:A2 XV)(objs:A2 (Nat×Ac)):Ad:=⟨A7q 0 (xs.take S.n)++glE S.D8 (xs.drop S.n),objs,S.Eb,[],[]⟩
@[reducible] def Ad8:A2 AS→Type→Type
 |[],R=>R
 |.d t::r,R=>t.T→Ad8 r R
 |.p _ _::r,R=>Ad8 r R
 |.os _ _::r,R=>Nat→Ad8 r R
 |.oa _ _ _::r,R=>Nat→Ad8 r R
 |.Ff _ _::r,R=>Ad8 r R
 |.g _ t::r,R=>t.T→Ad8 r R
 |.nil _::r,R=>Ad8 r R
@[reducible] def Aim:A2 VK→Type→Type
 |[],R=>R
 |.d t::r,R=>t.T→Aim r R
 |.p _ _::r,R=>Aim r R
 |.z _ _::r,R=>Bool→Aim r R
 |.os _ _::r,R=>Nat→Aim r R
 |.P5 _::r,R=>Aim r R
 |.Bu _ t _::r,R=>List t.T→Aim r R
@[reducible] def B4b:A2 (Nat×A2 VK×A3 TypeId)→Type→Type
 |[],R=>R
 |p::r,R=>Aim p.2.1 (B4b r R)
@[reducible] def B4c:A2 (Nat×OK)→Type→Type
 |[],R=>R
 |p::r,R=>p.2.T→B4c r R
@[reducible] def Fg.C1 (S:Fg) (R:Type):Type:=Ad8 S.args (B4b S.objs (B4c S.Qj R))
def psX(ps:A2 (Nat×Nat)):A2 XV:=ps.map fun p=>.nm p.1 (Z0 p.2)
def A32{α:Type}:(l:A2 AS)→(A2 XV→α)→A2 XV→Ad8 l α
 |[],f,acc=>f acc
 |.d t::r,f,acc=>fun y=>A32 r f (acc++[.d (t.xv y)])
 |.p k off::r,f,acc=>A32 r f (acc++[.nm k (Z0 off)])
 |.os k t::r,f,acc=>fun n=>A32 r f (acc++[.os k t 0 n])
 |.oa k a t::r,f,acc=>fun n=>A32 r f (acc++[.os k t a n])
 |.Ff g ps::r,f,acc=>A32 r f (acc++[.Ff g (psX ps)])
 |.g _ t::r,f,acc=>fun y=>A32 r f (acc++[.d (t.xv y)])
 |.nil p::r,f,acc=>A32 r f (acc++[A2q p])
def Alh{α:Type}:(l:A2 VK)→(A2 XV→α)→A2 XV→Aim l α
 |[],f,acc=>f acc
 |.d t::r,f,acc=>fun y=>Alh r f (acc++(t.enc y).map .d)
 |.p k off::r,f,acc=>Alh r f (acc++[.nm k (Z0 off)])
 |.z k off::r,f,acc=>fun b=>Alh r f (acc++[.nm k (.z b off)])
 |.os k t::r,f,acc=>fun n=>Alh r f (acc++[.os k t 0 n])
 |.P5 p::r,f,acc=>Alh r f (acc++[A2q p])
 |.Bu n t ty::r,f,acc=>fun l=>Alh r f (acc++[.Bu n t l ty])
def Bez{α:Type}:(l:A2 (Nat×A2 VK×A3 TypeId))→(A2 (Nat×Ac)→α)→A2 (Nat×Ac)→B4b l α
 |[],f,acc=>f acc
 |p::r,f,acc=>Alh p.2.1 (fun cs=>Bez r f (acc++[(p.1,.cells cs p.2.2)])) []
def Bf0{α:Type}:(l:A2 (Nat×OK))→(A2 (Nat×Ac)→α)→A2 (Nat×Ac)→B4c l α
 |[],f,acc=>f acc
 |p::r,f,acc=>fun l=>Bf0 r f (acc++[(p.1,p.2.ob l)])
def A1j{β:Type}(Q:β→A2 XV→Prop):(l:A2 AS)→Ad8 l β→A2 XV→Prop
 |[],F,acc=>Q F acc
 |.d t::r,F,acc=>∀y:t.T,A1j Q r (F y) (acc++[.d (t.xv y)])
 |.p k off::r,F,acc=>A1j Q r F (acc++[.nm k (Z0 off)])
 |.os k t::r,F,acc=>∀n:Nat,A1j Q r (F n) (acc++[.os k t 0 n])
 |.oa k a t::r,F,acc=>∀n:Nat,A1j Q r (F n) (acc++[.os k t a n])
 |.Ff g ps::r,F,acc=>A1j Q r F (acc++[.Ff g (psX ps)])
 |.g _ t::r,F,acc=>∀y:t.T,A1j Q r (F y) (acc++[.d (t.xv y)])
 |.nil p::r,F,acc=>A1j Q r F (acc++[A2q p])
def Ain{β:Type}(Q:β→A2 XV→Prop):(l:A2 VK)→Aim l β→A2 XV→Prop
 |[],F,acc=>Q F acc
 |.d t::r,F,acc=>∀y:t.T,Ain Q r (F y) (acc++(t.enc y).map .d)
 |.p k off::r,F,acc=>Ain Q r F (acc++[.nm k (Z0 off)])
 |.z k off::r,F,acc=>∀b:Bool,Ain Q r (F b) (acc++[.nm k (.z b off)])
 |.os k t::r,F,acc=>∀n:Nat,Ain Q r (F n) (acc++[.os k t 0 n])
 |.P5 p::r,F,acc=>Ain Q r F (acc++[A2q p])
 |.Bu n t ty::r,F,acc=>∀l:List t.T,Ain Q r (F l) (acc++[.Bu n t l ty])
def Bbg{β:Type}(Q:β→A2 (Nat×Ac)→Prop):(l:A2 (Nat×A2 VK×A3 TypeId))→B4b l β→A2 (Nat×Ac)→Prop
 |[],F,acc=>Q F acc
 |p::r,F,acc=>Ain (fun F' cs=>Bbg Q r F' (acc++[(p.1,.cells cs p.2.2)])) p.2.1 F []
def Bbh{β:Type}(Q:β→A2 (Nat×Ac)→Prop):(l:A2 (Nat×OK))→B4c l β→A2 (Nat×Ac)→Prop
 |[],F,acc=>Q F acc
 |p::r,F,acc=>∀l:p.2.T,Bbh Q r (F l) (acc++[(p.1,p.2.ob l)])
theorem Sp{α:Type}{Q:α→A2 XV→Prop}{f:A2 XV→α}(m:Nat)(h:∀acc,acc.length=m→Q (f acc) acc):∀(l:A2 AS) (acc:A2 XV),acc.length+l.length=m→A1j Q l (A32 l f acc) acc
 |[],acc,hm=>h acc (by simpa using hm)
 |.d t::r,acc,hm=>fun y=>Sp m h r _ (by simp at hm⊢;omega)
 |.p k off::r,acc,hm=>by
  simp only[A1j,A32];exact Sp m h r (acc++[.nm k (Z0 off)]) (by simp at hm⊢;omega)
 |.os k t::r,acc,hm=>fun n=>Sp m h r _ (by simp at hm⊢;omega)
 |.oa k a t::r,acc,hm=>fun n=>Sp m h r _ (by simp at hm⊢;omega)
 |.Ff g ps::r,acc,hm=>by
  simp only[A1j,A32];exact Sp m h r (acc++[.Ff g (psX ps)]) (by simp at hm⊢;omega)
 |.g _ t::r,acc,hm=>fun y=>Sp m h r _ (by simp at hm⊢;omega)
 |.nil p::r,acc,hm=>by
  simp only[A1j,A32];exact Sp m h r (acc++[A2q p]) (by simp at hm⊢;omega)
theorem Vo{α:Type}{Q:α→A2 XV→Prop}{f:A2 XV→α}(h:∀acc,Q (f acc) acc):∀(l:A2 VK) (acc:A2 XV),Ain Q l (Alh l f acc) acc
 |[],acc=>h acc
 |.d t::r,acc=>fun y=>Vo h r _
 |.p k off::r,acc=>by
  simp only[Ain,Alh];exact Vo h r (acc++[.nm k (Z0 off)])
 |.z k off::r,acc=>fun b=>Vo h r _
 |.os k t::r,acc=>fun n=>Vo h r _
 |.P5 p::r,acc=>by
  simp only[Ain,Alh];exact Vo h r (acc++[A2q p])
 |.Bu n t ty::r,acc=>fun l=>Vo h r _
theorem Av8{α:Type}{Q:α→A2 (Nat×Ac)→Prop}{f:A2 (Nat×Ac)→α}(ns:A2 Nat)(h:∀acc,acc.map (·.1)=ns→Q (f acc) acc):∀(l:A2 (Nat×A2 VK×A3 TypeId)) (acc:A2 (Nat×Ac)),acc.map (·.1)++Ie l=ns→Bbg Q l (Bez l f acc) acc
 |[],acc,hm=>h acc (by simpa[Ie]using hm)
 |p::r,acc,hm=>Vo (fun cs=>Av8 ns h r _ (by simpa[Ie]using hm)) p.2.1 []
theorem Av9{α:Type}{Q:α→A2 (Nat×Ac)→Prop}{f:A2 (Nat×Ac)→α}(ns:A2 Nat)(h:∀acc,acc.map (·.1)=ns→Q (f acc) acc):∀(l:A2 (Nat×OK)) (acc:A2 (Nat×Ac)),acc.map (·.1)++Fk l=ns→Bbh Q l (Bf0 l f acc) acc
 |[],acc,hm=>h acc (by simpa[Fk]using hm)
 |p::r,acc,hm=>fun l=>Av9 ns h r _ (by simpa[Fk]using hm)
section
variable(P:Program)(Γ:A2 (Ga P))(own:A2 Nat)(N:Nat)(fn:Func)(an:An)(S:Fg)
def Bbi(S:Fg)(xs:A2 XV)(objs:A2 (Nat×Ac))(s:Ad):A3 S.out.T:=proj S.names (Vl (S.s0 xs objs) S.out) S.out s
def Bh9(S:Fg)(xs:A2 XV)(objs:A2 (Nat×Ac)):Exit→Ad→A3 S.out.T
 |.ret,s=>Bbi S xs objs s
 |.normal,s=>Bbi S xs objs s
 |_,_=>none
def B8f(xs:A2 XV)(objs:A2 (Nat×Ac)):A3 S.out.T :=
 match fn.body with
 |some c=>cond (Nat.ble fn.ntmps GB) (cond (E1 objs) (exec P Γ own S.names fn.ntmps N c an (S.s0 xs objs) (Bh9 S xs objs)) none) none
 |none=>none
def A1k:S.C1 (A3 S.out.T):=A32 S.args (fun xs=>Bez S.objs (fun os=>Bf0 S.Qj (fun os'=>B8f P Γ own N fn an S xs os') os) []) []
end
def B8g(P:Program)(f:FuncId)(fn:Func)(S:Fg)(y:S.out.T)(xs:A2 XV)(objs:A2 (Nat×Ac)):Prop :=
 objs.map (·.1)=S.names∧E1 objs=true∧∀rs,Aam P (gen (S.s0 xs objs) S.out y) fn.results.toList=some rs→Ae4 P f (A9 (xs.take S.n)) (S.D8.zip (A9 (xs.drop S.n))) ⟨A6 objs,S.Eb⟩ (L8 rs).a (gen (S.s0 xs objs) S.out y).X
def B8h(P:Program)(f:FuncId)(fn:Func)(S:Fg)(F:S.C1 (A3 S.out.T)):Prop :=
 A1j (fun F' xs=>Bbg (fun F'' os=>Bbh (fun F3 os'=>∀y,F3=some y→B8g P f fn S y xs os') S.Qj F'' os) S.objs F' []) S.args F []
def A7z:A2 Nat→Bool
 |[]=>true
 |n::r=>cond (Nat.blt n 1000) (A7z r) false
theorem Aer:∀ {l:A2 Nat},A7z l=true→∀j∈l,j<1000
 |[],_=>by simp
 |n::r,h=>by
  simp only[A7z]at h;cases hb:Nat.blt n 1000 with
  |false=>simp[hb]at h
  |true =>
   simp only[hb,Bkn]at h;intro j hj;rcases Bkq.1 hj with rfl|hj
   ·simpa[Bmk]using hb
   ·exact Aer h j hj
def Aav(S:Fg):Bool:=match S.out.Xd with
 |[]=>true
 |_=>false
theorem Hk{l:A2 (Nat×Ac)}(h:E1 l=true):(A6 l).map (·.1)=l.map (·.1):=by rw[A25 h];simp
theorem Ava{P:Program}{Γ:A2 (Ga P)}{own:A2 Nat}{N:Nat}{f:FuncId}{fn:Func}{an:An}{S:Fg}{xs:A2 XV}{objs:A2 (Nat×Ac)}{y:S.out.T}(hm:P.follows .mixedOrders=true)(hf:P.funcs[f]? = some fn)
  (hn:xs.length≤fn.ntmps) (Ek:A7z S.names=true) (hks:Aav S=true) (A33:objs.map (·.1)=S.names) (h:B8f P Γ own N fn an S xs objs=some y):B8g P f fn S y xs objs:=by
 unfold B8f at h;split at h
 ·rename_i c hc;obtain⟨hG,h⟩:=An4 h;cases hna:E1 objs with
  |false=>rw[hna]at h;cases h
  |true =>
  rw[hna,Bkn]at h;have hs:=Ro (S:=⟨fn.ntmps,S.names,Aer Ek⟩) hm rfl c an _ _ _ _ (.refl _) h;have Bja:S.out.Xd=[]:=by
   unfold Aav at hks;split at hks
   ·assumption
   ·cases hks
  refine⟨A33,hna,fun rs hrs=>?_⟩;intro g w vs hr hgs hl ha;have Wk:(A6 objs).map (·.1)=S.names:=by rw[Hk hna,A33]
  refine Bq0 hf hc (Bpd (hs (Bl.of g w ⟨A6 objs,S.Eb⟩) g w _ ?_) ?_)
  ·rw[Ag,Bm6]at hl;refine⟨rfl,?_,?_,?_⟩
   ·simp;omega
   ·have:=hr;rw[Wk]at this;exact this
   ·intro s x hx;have hx':(E0 (A7q 0 (xs.take S.n))++E0 (glE S.D8 (xs.drop S.n))).lookup s=some x:=by rw[E0,E0,← Ble];exact hx
    rw[Bmq,A4r]at hx';cases h1:(A16 0 (A9 (xs.take S.n))).lookup s with
    |some x1 =>
     rw[h1]at hx';simp only[Boh,Bks]at hx';subst hx';obtain⟨_,hx'⟩:=N4 h1;rw[Bnu]at hx';have Bs:s<vs.size:=by have:=(Bku.1 hx').1;rw[Ag,Bm6]at this;omega
     refine⟨vs[s],?_,ha s x1 _ hx' (by simp[Bs])⟩;rw[Rg (by omega)];simp[Bog,Bs]
    |none =>rw[h1]at hx';simp only[Bom]at hx';obtain⟨k,rfl,hk⟩:=Ag0 (Di hx');exact⟨_,Zt k,hgs _ hk⟩
  ·rintro e a' w' ⟨s,g',⟨Bq,rfl,hi,hk⟩,H4⟩;have fin:Bbi S xs objs Bq=some y →
     a'.defers=[]∧∃v,(results fn a'.tmps).run P w' = .ok v w'∧∃g' v_1,Ending.returned v=Ending.returned v_1∧RA g' w' (L8 rs).a v_1∧HR ((A6 objs).map (·.1)) (Bl.of g w ⟨A6 objs,S.Eb⟩) g' w' (gen (S.s0 xs objs) S.out y).X:=by
    intro h;unfold Bbi at h;obtain⟨g'',Ad0⟩:=Uu h (by rw[Bja];simp) (fun k _ x hk hx=>hi.objs k x hk hx) H4 rfl;obtain⟨v,hv,T8⟩:=M4 (S7 hrs) Ad0;rw[← Qm]at T8;exact⟨Ad0.defers,v,hv,g'',v,rfl,T8,by rw[Wk];exact Ad0.hr⟩
   cases e with
   |ret=>exact fin hk
   |normal=>exact fin hk
   |_=>simp[Bh9]at hk
 ·cases h
theorem Az7{P:Program}{Γ:A2 (Ga P)}{own:A2 Nat}{N:Nat}{f:FuncId}{fn:Func}{an:An}{S:Fg}(hm:P.follows .mixedOrders=true)(hf:P.funcs[f]? = some fn)
  (hn:Nat.ble S.args.length fn.ntmps=true) (Ek:A7z S.names=true) (hks:Aav S=true):B8h P f fn S (A1k P Γ own N fn an S):=by
 unfold B8h A1k;refine Sp S.args.length (fun xs hxs=>?_) S.args [] (by simp);refine Av8 (Ie S.objs) (fun os hos=>?_) S.objs [] (by simp);refine Av9 S.names (fun os' Bjb=>?_) S.Qj os (by rw[hos];rfl);intro y hy;exact Ava hm hf (by have:=Bl5 hn;omega) Ek hks Bjb hy
def Aes(k off:Nat):XV→Bool
 |.nm k' p=>cond (Nat.beq k' k) (B45 p off) false
 |_=>false
theorem Aio{k off:Nat}{v:XV}(h:Aes k off v=true):v = .nm k (Z0 off):=by
 unfold Aes at h;split at h
 ·rename_i k' R8;cases h1:Nat.beq k' k with
  |false=>simp[h1]at h
  |true =>simp only[h1,Bkn]at h;rw[Bkr h1,B1b h]
 ·cases h
def Bbj(k:Nat)(t:Ty):XV→A3 Nat
 |.os k' t' a n=>cond (Nat.beq k' k) (cond (t'.Ji t) (cond (Nat.beq a 0) (some n) none) none) none
 |_=>none
theorem B1p{k:Nat}{t:Ty}{v:XV}{n:Nat}(h:Bbj k t v=some n):v = .os k t 0 n:=by
 unfold Bbj at h;split at h
 ·rename_i k' t' a m;cases h1:Nat.beq k' k with
  |false=>simp[h1]at h
  |true =>
  cases h2:t'.Ji t with
  |false=>simp[h1,h2]at h
  |true =>
  cases h3:Nat.beq a 0 with
  |false=>simp[h1,h2,h3]at h
  |true =>simp only[h1,h2,h3,Bkn,Bks]at h;rw[Bkr h1,Ty.Au h2,Bkr h3,h]
 ·cases h
def B8i(k a:Nat)(t:Ty):XV→A3 Nat
 |.os k' t' a' n=>cond (Nat.beq k' k) (cond (t'.Ji t) (cond (Nat.beq a' a) (some n) none) none) none
 |_=>none
theorem B8j{k a:Nat}{t:Ty}{v:XV}{n:Nat}(h:B8i k a t v=some n):v = .os k t a n:=by
 unfold B8i at h;split at h
 ·rename_i k' t' a' m;cases h1:Nat.beq k' k with
  |false=>simp[h1]at h
  |true =>
  cases h2:t'.Ji t with
  |false=>simp[h1,h2]at h
  |true =>
  cases h3:Nat.beq a' a with
  |false=>simp[h1,h2,h3]at h
  |true =>simp only[h1,h2,h3,Bkn,Bks]at h;rw[Bkr h1,Ty.Au h2,Bkr h3,h]
 ·cases h
def Ad9(f:Nat→Nat):A2 (Nat×Nat)→A2 XV→Bool
 |[],[]=>true
 |p::ps,c::cs=>cond (Aes (f p.1) p.2 c) (Ad9 f ps cs) false
 |_,_=>false
theorem Anc{f fl:Nat→Nat}:∀ {ps:A2 (Nat×Nat)} {cs:A2 XV},Ad9 f ps cs=true→cs=mpL f fl (psX ps)
 |[],[],_=>rfl
 |[],_::_,h=>by simp[Ad9]at h
 |_::_,[],h=>by simp[Ad9]at h
 |p::ps,c::cs,h=>by
  simp only[Ad9]at h;cases h1:Aes (f p.1) p.2 c with
  |false=>simp[h1]at h
  |true =>simp only[h1,Bkn]at h;have e:=Anc (fl:=fl) h;rw[Aio h1,e];rfl
def Arh(f:Nat→Nat)(g:Nat)(ps:A2 (Nat×Nat)):XV→Bool
 |.Ff g' J9=>cond (Nat.beq g' g) (Ad9 f ps J9) false
 |_=>false
theorem B4d{f fl:Nat→Nat}{g:Nat}{ps:A2 (Nat×Nat)}{v:XV}(h:Arh f g ps v=true):v=(XV.Ff g (psX ps)).mp f fl:=by
 unfold Arh at h;split at h
 ·rename_i g' J9;cases h1:Nat.beq g' g with
  |false=>simp[h1]at h
  |true =>simp only[h1,Bkn]at h;rw[Bkr h1,Anc (fl:=fl) h];rfl
 ·cases h
inductive Sq(f fl:Nat→Nat):List XV→List XV→Prop
 |nil:Sq f fl [] []
 |dat {t:Ty} {v:XV} {y:t.T} {vs xs:List XV}:Rf t v=some y→Sq f fl vs xs→Sq f fl (v::vs) (.d (t.xv y)::xs)
 |same {v x:XV} {vs xs:List XV}:v=x.mp f fl→Sq f fl vs xs→Sq f fl (v::vs) (x::xs)
theorem Sq.app{f fl:Nat→Nat}{a b c d:A2 XV}(h:Sq f fl a b)(h':Sq f fl c d):Sq f fl (a++c) (b++d):=by
 induction h with
 |nil=>exact h'
 |dat h1 _ ih=>exact .dat h1 ih
 |same h1 _ ih=>exact .same h1 ih
theorem Sq.length{f fl:Nat→Nat}{a b:A2 XV}(h:Sq f fl a b):a.length=b.length:=by
 induction h with
 |nil=>rfl
 |dat _ _ ih=>simp[ih]
 |same _ _ ih=>simp[ih]
theorem Sq.split{f fl:Nat→Nat}:∀ {a c xs:A2 XV},Sq f fl (a++c) xs→∃b d,xs=b++d∧Sq f fl a b∧Sq f fl c d
 |[],c,xs,h=>⟨[],xs,rfl,.nil,h⟩
 |v::a,c,xs,h=>by
  rw[Bmx]at h;cases h with
  |dat h1 h2 =>obtain⟨b,d,rfl,h3,h4⟩:=Sq.split h2;exact⟨_::b,d,rfl,.dat h1 h3,h4⟩
  |same h1 h2 =>obtain⟨b,d,rfl,h3,h4⟩:=Sq.split h2;exact⟨_::b,d,rfl,.same h1 h3,h4⟩
def Ada:A2 XV→Bool
 |[]=>true
 |.nm _ _::r=>Ada r
 |_::_=>false
theorem Sq.J9{f fl:Nat→Nat}:∀ {cs xs:A2 XV},Sq f fl cs xs→Ada cs=true→cs=mpL f fl xs
 |[],xs,h,_=>by cases h;rfl
 |v::cs,xs,h,hn=>by
  cases v with
  |nm k p =>
   simp only[Ada]at hn;cases h with
   |dat h1 h2=>simp[Rf]at h1
   |same h1 h2=>rw[h1,Sq.J9 h2 hn];rfl
  |_=>simp[Ada]at hn
theorem Sq.Ri{f fl:Nat→Nat}{st:Ad}:∀ {ops:A2 Operand} {vs xs:A2 XV},C5 st ops=some vs→Sq f fl vs xs→∀p∈B0 (ops.zip (mpL f fl xs)),E3 st.im p.1 p.2
 |[],vs,xs,hv,h=>by simp[B0]
 |x::ops,[],xs,hv,h=>by have:=Hw hv;simp at this
 |x::ops,v::vs,xs,hv,h=>by
  obtain⟨hx,Nz⟩:=F4 hv;cases h with
  |dat h1 h2 =>
   intro p hp;simp only[mpL,Bnn,B0,Bkv,Bkq]at hp;rcases hp with rfl|hp
   ·exact P6 hx h1
   ·exact Sq.Ri Nz h2 p hp
  |same h1 h2 =>
   intro p hp;simp only[mpL,Bnn,B0,Bkv,Bkq]at hp;rcases hp with rfl|hp
   ·rw[← h1];exact Aj hx
   ·exact Sq.Ri Nz h2 p hp
def L9{β R:Type}(f:Nat→Nat):(l:A2 AS)→Ad8 l β→A2 XV→A2 XV→(β→A2 XV→A3 R)→A3 R
 |[],F,[],acc,K=>K F acc
 |.d t::r,F,v::vs,acc,K=>match Rf t v with
  |some y=>L9 f r (F y) vs (acc++[.d (t.xv y)]) K
  |none=>none
 |.p k off::r,F,v::vs,acc,K=>cond (Aes (f k) off v) (L9 f r F vs (acc++[.nm k (Z0 off)]) K) none
 |.os k t::r,F,v::vs,acc,K=>match Bbj (f k) t v with
  |some n=>L9 f r (F n) vs (acc++[.os k t 0 n]) K
  |none=>none
 |.oa k a t::r,F,v::vs,acc,K=>match B8i (f k) a t v with
  |some n=>L9 f r (F n) vs (acc++[.os k t a n]) K
  |none=>none
 |.Ff g ps::r,F,v::vs,acc,K=>cond (Arh f g ps v) (L9 f r F vs (acc++[.Ff g (psX ps)]) K) none
 |.g _ t::r,F,v::vs,acc,K=>match Rf t v with
  |some y=>L9 f r (F y) vs (acc++[.d (t.xv y)]) K
  |none=>none
 |.nil p::r,F,v::vs,acc,K=>cond (A0d p v) (L9 f r F vs (acc++[A2q p]) K) none
 |_,_,_,_,_=>none
theorem Of{β R:Type}{Q:β→A2 XV→Prop}{f fl:Nat→Nat}{K:β→A2 XV→A3 R}{r:R}:∀(l:A2 AS) (F:Ad8 l β) (vs us acc:A2 XV),A1j Q l F acc→Sq f fl us acc→L9 f l F vs acc K=some r →
  ∃F' xs,Q F' xs∧Sq f fl (us++vs) xs∧K F' xs=some r
 |[],F,[],us,acc,hg,hr,h=>⟨F,acc,hg,by simpa using hr,h⟩
 |[],F,_::_,us,acc,hg,hr,h=>by simp[L9]at h
 |.d t::l,F,[],us,acc,hg,hr,h=>by simp[L9]at h
 |.p k off::l,F,[],us,acc,hg,hr,h=>by simp[L9]at h
 |.os k t::l,F,[],us,acc,hg,hr,h=>by simp[L9]at h
 |.Ff g ps::l,F,[],us,acc,hg,hr,h=>by simp[L9]at h
 |.g k t::l,F,[],us,acc,hg,hr,h=>by simp[L9]at h
 |.oa k a t::l,F,[],us,acc,hg,hr,h=>by simp[L9]at h
 |.nil p::l,F,[],us,acc,hg,hr,h=>by simp[L9]at h
 |.nil p::l,F,v::vs,us,acc,hg,hr,h=>by
  simp only[L9]at h;cases hp:A0d p v with
  |false=>simp[hp]at h
  |true =>simp only[hp,Bkn]at h;obtain⟨F',xs,h1,h2,h3⟩:=Of l F vs (us++[v]) (acc++[A2q p]) hg (hr.app (.same (x:=A2q p) (by rw[Acv hp];rfl) .nil)) h;exact⟨F',xs,h1,by simpa using h2,h3⟩
 |.oa k a t::l,F,v::vs,us,acc,hg,hr,h=>by
  simp only[L9]at h;split at h
  ·rename_i n hn;obtain⟨F',xs,h1,h2,h3⟩:=Of l (F n) vs (us++[v]) _ (hg n) (hr.app (.same (x:=.os k t a n) (B8j hn) .nil)) h;exact⟨F',xs,h1,by simpa using h2,h3⟩
  ·cases h
 |.g k t::l,F,v::vs,us,acc,hg,hr,h=>by
  simp only[L9]at h;split at h
  ·rename_i y hy;obtain⟨F',xs,h1,h2,h3⟩:=Of l (F y) vs (us++[v]) _ (hg y) (hr.app (.dat hy .nil)) h;exact⟨F',xs,h1,by simpa using h2,h3⟩
  ·cases h
 |.d t::l,F,v::vs,us,acc,hg,hr,h=>by
  simp only[L9]at h;split at h
  ·rename_i y hy;obtain⟨F',xs,h1,h2,h3⟩:=Of l (F y) vs (us++[v]) _ (hg y) (hr.app (.dat hy .nil)) h;exact⟨F',xs,h1,by simpa using h2,h3⟩
  ·cases h
 |.p k off::l,F,v::vs,us,acc,hg,hr,h=>by
  simp only[L9]at h;cases hp:Aes (f k) off v with
  |false=>simp[hp]at h
  |true =>simp only[hp,Bkn]at h;obtain⟨F',xs,h1,h2,h3⟩:=Of l F vs (us++[v]) (acc++[.nm k (Z0 off)]) hg (hr.app (.same (x:=.nm k (Z0 off)) (Aio hp) .nil)) h;exact⟨F',xs,h1,by simpa using h2,h3⟩
 |.os k t::l,F,v::vs,us,acc,hg,hr,h=>by
  simp only[L9]at h;split at h
  ·rename_i n hn;obtain⟨F',xs,h1,h2,h3⟩:=Of l (F n) vs (us++[v]) _ (hg n) (hr.app (.same (x:=.os k t 0 n) (B1p hn) .nil)) h;exact⟨F',xs,h1,by simpa using h2,h3⟩
  ·cases h
 |.Ff g ps::l,F,v::vs,us,acc,hg,hr,h=>by
  simp only[L9]at h;cases hp:Arh f g ps v with
  |false=>simp[hp]at h
  |true =>simp only[hp,Bkn]at h;obtain⟨F',xs,h1,h2,h3⟩:=Of l F vs (us++[v]) (acc++[.Ff g (psX ps)]) hg (hr.app (.same (B4d hp) .nil)) h;exact⟨F',xs,h1,by simpa using h2,h3⟩
def Y8:XD→Bool
 |.v _=>false
 |.ic _ _ _=>false
 |_=>true
def Ig:A2 XD→Bool
 |[]=>true
 |x::r=>cond (Y8 x) (Ig r) false
theorem Hl{x:XD}{r:A2 XD}(h:Ig (x::r)=true):Y8 x=true∧Ig r=true:=by
 simp only[Ig]at h;cases hx:Y8 x with
 |false=>simp[hx]at h
 |true=>simp only[hx,Bkn]at h;exact⟨rfl,h⟩
theorem B4e:∀(t:Ty) {cs:A2 XD} {x:t.T} {r:A2 XD},Ig cs=true→t.dec cs=some (x,r)→D6 cs=t.ds x++D6 r∧Ig r=true:=by
 intro t;induction t with
 |int k =>
  intro cs x r hp h;simp only[Ty.dec]at h;unfold Bae at h;split at h
  ·rename_i k' n r';cases hk:Il k' k with
   |false=>simp[hk]at h
   |true =>have:=Fi hk;subst this;simp only[hk,Bkn,Bks,Bld]at h;obtain⟨rfl,rfl⟩:=h;exact⟨rfl,(Hl hp).2⟩
  ·rename_i x' r';cases hk:Il .u8 k with
   |false=>simp[hk]at h
   |true =>have:=Fi hk;subst this;simp only[hk,Bkn,Bks,Bld]at h;obtain⟨rfl,rfl⟩:=h;exact⟨rfl,(Hl hp).2⟩
  ·cases h
 |u8 =>
  intro cs x r hp h;simp only[Ty.dec]at h;unfold B0o at h;split at h
  ·cases h;exact⟨rfl,(Hl hp).2⟩
  ·cases h
 |bool =>
  intro cs x r hp h;simp only[Ty.dec]at h;unfold Baf at h;split at h
  ·cases h;exact⟨rfl,(Hl hp).2⟩
  ·cases h
 |str =>
  intro cs x r hp h;simp only[Ty.dec]at h;unfold Bag at h;split at h
  ·cases h;exact⟨rfl,(Hl hp).2⟩
  ·cases h
 |sl t ih =>
  intro cs x r hp h;simp only[Ty.dec]at h;unfold Bah at h;split at h
  ·rename_i t' l r';split at h
   ·rename_i ht;have e:=Ty.Au ht;subst e;cases h;exact⟨rfl,(Hl hp).2⟩
   ·cases h
  ·simp[Ig,Y8]at hp
  ·simp[Ig,Y8]at hp
  ·cases h
 |unit =>intro cs x r hp h;simp[Ty.dec]at h;subst h;exact⟨rfl,hp⟩
 |pair a b iha ihb =>
  intro cs x r hp h;unfold Ty.dec at h;split at h
  ·rename_i p hpa;split at h
   ·rename_i q hq;cases h;obtain⟨h1,h2⟩:=iha (x:=p.1) (r:=p.2) hp hpa;obtain⟨h3,h4⟩:=ihb (x:=q.1) (r:=q.2) h2 hq;exact⟨by rw[h1,h3];simp[Ty.ds],h4⟩
   ·cases h
  ·cases h
 |st1 a iha =>intro cs x r hp h;exact iha hp h
 |tab t ih =>
  intro cs x r hp h;simp only[Ty.dec]at h;unfold Bai at h;split at h
  ·rename_i t' l r';split at h
   ·rename_i ht;have e:=Ty.Au ht;subst e;cases h;exact⟨rfl,(Hl hp).2⟩
   ·cases h
  ·cases h
 |err =>
  intro cs x r hp h;simp only[Ty.dec]at h;unfold Baj at h;split at h
  ·cases h;exact⟨rfl,(Hl hp).2⟩
  ·simp[Ig,Y8]at hp
  ·simp[Ig,Y8]at hp
  ·cases h
 |ic t k =>
  intro cs x r hp h;simp only[Ty.dec]at h;unfold B0p at h;split at h
  ·simp[Ig,Y8]at hp
  ·simp[Ig,Y8]at hp
  ·cases h
 |ptr =>
  intro cs x r hp h;simp only[Ty.dec]at h;unfold Bak at h;split at h
  ·cases h;exact⟨rfl,(Hl hp).2⟩
  ·simp[Ig,Y8]at hp
  ·cases h
def B8k(m:Nat)(t:Ty)(ty:A3 TypeId):XV→A3 (List t.T)
 |.Bu m' t' l Wl=>cond (Nat.beq m' m) (cond (Aad Wl ty) (if h:t'.Ji t=true then some (Ty.Au h▸l)else none) none) none
 |_=>none
theorem B8l{m:Nat}{t:Ty}{ty:A3 TypeId}{v:XV}{l:List t.T}(h:B8k m t ty v=some l):v = .Bu m t l ty:=by
 unfold B8k at h;split at h
 ·rename_i m' t' l' Wl;cases h1:Nat.beq m' m with
  |false=>simp[h1]at h
  |true =>
  cases h2:Aad Wl ty with
  |false=>simp[h1,h2]at h
  |true =>
   simp only[h1,h2,Bkn]at h;split at h
   ·rename_i ht;have e:=Ty.Au ht;subst e;cases h;rw[Bkr h1,Ai4 h2]
   ·cases h
 ·cases h
def zOf(m off:Nat)(ex:Bool):XV→A3 Bool
 |.nm k' (.z b R8)=>cond (Nat.beq k' m) (cond (Nat.beq R8 off) (some b) none) none
 |.nm k' (.p R8)=>cond ex none (cond (Nat.beq k' m) (cond (Nat.beq R8 off) (some false) none) none)
 |.d (.v (.pointer none))=>cond ex none (some true)
 |_=>none
def Z4(f fl:Nat→Nat)(ex:Bool)(cs xs:A2 XV):Prop:=Ra (A9 cs) (A9 (mpL f fl xs))∧(ex=true→A9 cs=A9 (mpL f fl xs))
theorem Ra.refl:∀(l:A2 AV),Ra l l
 |[]=>.nil
 |x::r=>.cons (.refl x) (Ra.refl r)
theorem Ra.append{a b c d:A2 AV}(h:Ra a b)(h':Ra c d):Ra (a++c) (b++d):=by
 induction h with
 |nil=>exact h'
 |cons h1 _ ih=>exact .cons h1 ih
theorem Vp(f fl:Nat→Nat)(a b:A2 XV):mpL f fl (a++b)=mpL f fl a++mpL f fl b:=by simp[Aat]
theorem Z4.app{f fl:Nat→Nat}{ex:Bool}{a b c d:A2 XV}(h:Z4 f fl ex a b)(h':Z4 f fl ex c d):Z4 f fl ex (a++c) (b++d):=by
 refine⟨?_,fun e=>?_⟩
 ·rw[Dk,Vp,Dk];exact h.1.append h'.1
 ·rw[Dk,Vp,Dk,h.2 e,h'.2 e]
theorem Z4.same{f fl:Nat→Nat}{ex:Bool}{v x:XV}(h:v=x.mp f fl):Z4 f fl ex [v] [x]:=by subst h;exact⟨.refl _,fun _=>rfl⟩
theorem Xm(l:A2 XD):A9 (l.map .d)=(D6 l).map .d:=by rw[Q7,Ha];simp[XV.a]
theorem Ane(f fl:Nat→Nat)(l:A2 XD):mpL f fl (l.map .d)=l.map .d:=by rw[Aat];simp[XV.mp]
theorem Lm.as{a b:A2 D}(h:Lm a b):Ra (a.map .d) (b.map .d):=by
 induction h with
 |nil=>exact .nil
 |cons h1 _ ih=>exact .cons (Wn.d h1) ih
theorem Z4.data{f fl:Nat→Nat}{ex:Bool}{t:Ty}{ds:A2 XD}{y:t.T}(h:t.dec ds=some (y,[]))(hex:ex=true→Ig ds=true):Z4 f fl ex (ds.map .d) ((t.enc y).map .d):=by
 refine⟨?_,fun e=>?_⟩
 ·obtain⟨ds',h1,h2⟩:=t.V8 h;rw[Ane,Xm,Xm,t.M8];simp only[D6,Blt]at h1;rw[h1];exact h2.as
 ·obtain⟨h1,_⟩:=B4e t (hex e) h;rw[Ane,Xm,Xm,t.M8,h1];simp[D6]
theorem Bbk{f fl:Nat→Nat}{k off:Nat}{ex:Bool}{v:XV}{b:Bool}(h:zOf (f k) off ex v=some b):Z4 f fl ex [v] [.nm k (.z b off)]:=by
 have mk:(∀(g:Gh) (w:World) (u:Value),RA g w v.a u→RA g w (XV.nm (f k) (.z b off)).a u)→(ex=true→v = .nm (f k) (.z b off))→Z4 f fl ex [v] [.nm k (.z b off)]:=by intro h1 h2;refine⟨.cons h1 .nil,fun he=>?_⟩;rw[h2 he];rfl
 unfold zOf at h;split at h
 ·rename_i k' b' R8;cases h1:Nat.beq k' (f k) with
  |false=>simp[h1]at h
  |true =>
   cases h2:Nat.beq R8 off with
   |false=>simp[h1,h2]at h
   |true =>simp only[h1,h2,Bkn,Bks]at h;have e1:=Bkr h1;have e2:=Bkr h2;subst e1;subst e2;subst h;exact mk (fun _ _ _ h=>h) (fun _=>rfl)
 ·rename_i k' R8;cases hx:ex with
  |true=>simp[hx]at h
  |false =>
   rw[hx]at mk;cases h1:Nat.beq k' (f k) with
   |false=>simp[h1,hx]at h
   |true =>
    cases h2:Nat.beq R8 off with
    |false=>simp[h1,h2,hx]at h
    |true =>
     simp only[h1,h2,hx,Bkn,Bko,Bks]at h;have e1:=Bkr h1;have e2:=Bkr h2;subst e1;subst e2;subst h;refine mk (fun g w u hr=>?_) (fun e=>by cases e);simp only[XV.a]at hr⊢;cases hr with
     |nm _ _ _ h=>exact .nm _ _ _ h
 ·cases hx:ex with
  |true=>simp[hx]at h
  |false =>
   rw[hx]at mk;simp only[hx,Bko,Bks]at h;subst h;refine mk (fun g w u hr=>?_) (fun e=>by cases e);simp only[XV.a,XD.d]at hr⊢;cases hr with
   |d _ _ h1=>cases h1;exact .nm _ _ _ rfl
 ·cases h
def Og{β R:Type}(f fl:Nat→Nat)(ex:Bool):(l:A2 VK)→Aim l β→A2 XV→A2 XV→(β→A2 XV→A3 R)→A3 R
 |[],F,[],acc,K=>K F acc
 |.d t::r,F,cs,acc,K=>match A29 (cs.take t.size) with
  |some ds=>cond (cond ex (Ig ds) true) (match t.dec ds with
   |some (y,[])=>Og f fl ex r (F y) (cs.drop t.size) (acc++(t.enc y).map .d) K
   |_=>none) none
  |none=>none
 |.p k off::r,F,c::cs,acc,K=>cond (Aes (f k) off c) (Og f fl ex r F cs (acc++[.nm k (Z0 off)]) K) none
 |.z k off::r,F,c::cs,acc,K=>match zOf (f k) off ex c with
  |some b=>Og f fl ex r (F b) cs (acc++[.nm k (.z b off)]) K
  |none=>none
 |.P5 p::r,F,c::cs,acc,K=>cond (A0d p c) (Og f fl ex r F cs (acc++[A2q p]) K) none
 |.os k t::r,F,c::cs,acc,K=>match Bbj (f k) t c with
  |some n=>Og f fl ex r (F n) cs (acc++[.os k t 0 n]) K
  |none=>none
 |.Bu n t ty::r,F,c::cs,acc,K=>match B8k (fl n) t ty c with
  |some l=>Og f fl ex r (F l) cs (acc++[.Bu n t l ty]) K
  |none=>none
 |_,_,_,_,_=>none
theorem Vq{β R:Type}{Q:β→A2 XV→Prop}{f fl:Nat→Nat}{ex:Bool}{K:β→A2 XV→A3 R}{r:R}:∀(l:A2 VK) (F:Aim l β) (cs us acc:A2 XV),Ain Q l F acc→Z4 f fl ex us acc→Og f fl ex l F cs acc K=some r →
  ∃F' xs,Q F' xs∧Z4 f fl ex (us++cs) xs∧K F' xs=some r
 |[],F,[],us,acc,hg,hr,h=>⟨F,acc,hg,by simpa using hr,h⟩
 |[],F,_::_,us,acc,hg,hr,h=>by simp[Og]at h
 |.p k off::l,F,[],us,acc,hg,hr,h=>by simp[Og]at h
 |.Bu n t ty::l,F,[],us,acc,hg,hr,h=>by simp[Og]at h
 |.z k off::l,F,[],us,acc,hg,hr,h=>by simp[Og]at h
 |.os k t::l,F,[],us,acc,hg,hr,h=>by simp[Og]at h
 |.P5 p::l,F,[],us,acc,hg,hr,h=>by simp[Og]at h
 |.P5 p::l,F,c::cs,us,acc,hg,hr,h=>by
  simp only[Og]at h;cases hp:A0d p c with
  |false=>simp[hp]at h
  |true =>simp only[hp,Bkn]at h;obtain⟨F',xs,h1,h2,h3⟩:=Vq l F cs (us++[c]) (acc++[A2q p]) hg (hr.app (.same (x:=A2q p) (by rw[Acv hp];rcases p with _|_|_<;>rfl))) h;exact⟨F',xs,h1,by simpa using h2,h3⟩
 |.d t::l,F,cs,us,acc,hg,hr,h=>by
  unfold Og at h;split at h
  ·rename_i ds hds;have hex:ex=true→Ig ds=true:=by
    intro e;subst e;cases hp:Ig ds with
    |true=>rfl
    |false=>simp[hp]at h
   have h:(match t.dec ds with
    |some (y,[])=>Og f fl ex l (F y) (cs.drop t.size) (acc++(t.enc y).map .d) K
    |_=>none)=some r:=by
    cases hc:(cond ex (Ig ds) true) with
    |true=>simpa[hc]using h
    |false=>simp[hc]at h
   split at h
   ·rename_i y hy;have e1:=Auv hds;have Bha:=Z4.data (f:=f) (fl:=fl) (ex:=ex) hy hex;rw[← e1]at Bha;obtain⟨F',xs,h1,h2,h3⟩:=Vq l (F y) (cs.drop t.size) (us++cs.take t.size) _ (hg y) (hr.app Bha) h;refine⟨F',xs,h1,?_,h3⟩;rw[Bnx,Bmt]at h2;exact h2
   ·cases h
  ·cases h
 |.p k off::l,F,c::cs,us,acc,hg,hr,h=>by
  simp only[Og]at h;cases hp:Aes (f k) off c with
  |false=>simp[hp]at h
  |true =>simp only[hp,Bkn]at h;obtain⟨F',xs,h1,h2,h3⟩:=Vq l F cs (us++[c]) (acc++[.nm k (Z0 off)]) hg (hr.app (.same (x:=.nm k (Z0 off)) (Aio hp))) h;exact⟨F',xs,h1,by simpa using h2,h3⟩
 |.z k off::l,F,c::cs,us,acc,hg,hr,h=>by
  simp only[Og]at h;split at h
  ·rename_i b hb;obtain⟨F',xs,h1,h2,h3⟩:=Vq l (F b) cs (us++[c]) _ (hg b) (hr.app (Bbk hb)) h;exact⟨F',xs,h1,by simpa using h2,h3⟩
  ·cases h
 |.os k t::l,F,c::cs,us,acc,hg,hr,h=>by
  simp only[Og]at h;split at h
  ·rename_i n hn;obtain⟨F',xs,h1,h2,h3⟩:=Vq l (F n) cs (us++[c]) _ (hg n) (hr.app (.same (x:=.os k t 0 n) (B1p hn))) h;exact⟨F',xs,h1,by simpa using h2,h3⟩
  ·cases h
 |.Bu n t ty::l,F,c::cs,us,acc,hg,hr,h=>by
  simp only[Og]at h;split at h
  ·rename_i u hu;obtain⟨F',xs,h1,h2,h3⟩:=Vq l (F u) cs (us++[c]) _ (hg u) (hr.app (.same (x:=.Bu n t u ty) (B8l hu))) h;exact⟨F',xs,h1,by simpa using h2,h3⟩
  ·cases h
def InR(f fl:Nat→Nat)(ko:A2 Nat)(objs:A2 (Nat×Ac))(p:Nat×Ac):Prop :=
 ∃o,lk (f p.1) objs=some o∧Afj o.o (p.2.mp f fl).o∧(inl p.1 ko=true→o.o=(p.2.mp f fl).o)
def B1q{β R:Type}(f fl:Nat→Nat)(ko:A2 Nat)(objs:A2 (Nat×Ac)):(l:A2 (Nat×A2 VK×A3 TypeId))→B4b l β→A2 (Nat×Ac)→(β→A2 (Nat×Ac)→A3 R)→A3 R
 |[],F,acc,K=>K F acc
 |p::r,F,acc,K=>match lk (f p.1) objs with
  |some (.cells cs ty)=>cond (Aad ty p.2.2) (Og f fl (inl p.1 ko) p.2.1 F cs [] fun F' xs=>B1q f fl ko objs r F' (acc++[(p.1,.cells xs p.2.2)]) K) none
  |_=>none
theorem Ra.obs{a b:A2 AV}{ty:A3 TypeId}(h:Ra a b):Afj (.cells a ty) (.cells b ty):=by refine .cells h.length (fun i x y hx hy=>?_) (.inl rfl);obtain⟨x',hx',hle⟩:=h.get hy;rw[hx]at hx';cases hx';exact hle
theorem Aip{β R:Type}{Q:β→A2 (Nat×Ac)→Prop}{f fl:Nat→Nat}{ko:A2 Nat}{objs:A2 (Nat×Ac)}{K:β→A2 (Nat×Ac)→A3 R}{r:R}:∀(l:A2 (Nat×A2 VK×A3 TypeId)) (F:B4b l β) (acc:A2 (Nat×Ac)),Bbg Q l F acc→(∀p∈acc,InR f fl ko objs p)→B1q f fl ko objs l F acc K=some r →
  ∃F' os,Q F' os∧(∀p∈os,InR f fl ko objs p)∧K F' os=some r
 |[],F,acc,hg,hr,h=>⟨F,acc,hg,hr,h⟩
 |q::l,F,acc,hg,hr,h=>by
  simp only[B1q]at h;split at h
  ·rename_i cs ty hk;cases ht:Aad ty q.2.2 with
   |false=>simp[ht]at h
   |true =>
    simp only[ht,Bkn]at h;have e:=Ai4 ht;subst e;obtain⟨F',xs,h1,h2,h3⟩:=Vq q.2.1 F cs [] [] hg ⟨.nil,fun _=>rfl⟩ h;refine Aip l F' _ h1 ?_ h3;intro p hp;rcases Bkw.1 hp with hp|hp
    ·exact hr p hp
    ·simp only[Bl7]at hp;subst hp;refine⟨_,hk,?_,fun hh=>?_⟩
     ·simp only[Ac.o,Ac.mp];exact Ra.obs h2.1
     ·simp only[Ac.o,Ac.mp];have:=h2.2 hh;rw[Bm0]at this;rw[this]
  ·cases h
def OK.okc(f:Nat→Nat):OK→Bool
 |.Jg m=>Nat.beq (f m) m
 |.Ck _ _ _=>false
 |_=>true
theorem OK.B8m{f fl:Nat→Nat}{o:OK}{y:o.T}(h:o.okc f=true):(o.ob y).mp f fl=o.ob y:=by
 cases o with
 |Jg m=>show Ac.Jg (f m) _ _ _=_;rw[Bkr h];rfl
 |Ck L k v=>simp[OK.okc]at h
 |_=>rfl
def B1r{β R:Type}(f:Nat→Nat)(objs:A2 (Nat×Ac)):(l:A2 (Nat×OK))→B4c l β→A2 (Nat×Ac)→(β→A2 (Nat×Ac)→A3 R)→A3 R
 |[],F,acc,K=>K F acc
 |p::r,F,acc,K=>match lk (f p.1) objs with
  |some o=>match p.2.dec o with
   |some y=>cond (p.2.okc f) (B1r f objs r (F y) (acc++[(p.1,p.2.ob y)]) K) none
   |none=>none
  |none=>none
theorem Aiq{β R:Type}{Q:β→A2 (Nat×Ac)→Prop}{f fl:Nat→Nat}{ko:A2 Nat}{objs:A2 (Nat×Ac)}{K:β→A2 (Nat×Ac)→A3 R}{r:R}:∀(l:A2 (Nat×OK)) (F:B4c l β) (acc:A2 (Nat×Ac)),Bbh Q l F acc→(∀p∈acc,InR f fl ko objs p)→B1r f objs l F acc K=some r →
  ∃F' os,Q F' os∧(∀p∈os,InR f fl ko objs p)∧K F' os=some r
 |[],F,acc,hg,hr,h=>⟨F,acc,hg,hr,h⟩
 |q::l,F,acc,hg,hr,h=>by
  obtain⟨qk,qt⟩:=q;simp only[B1r]at h;split at h
  ·rename_i o hk;split at h
   ·rename_i y hy;cases hc:qt.okc f with
    |false=>simp[hc]at h
    |true =>
    simp only[hc,Bkn]at h;refine Aiq l _ _ (hg y) ?_ h;intro p hp;rcases Bkw.1 hp with hp|hp
    ·exact hr p hp
    ·simp only[Bl7]at hp;subst hp;refine⟨_,hk,?_,fun _=>?_⟩
     ·rw[OK.B8m hc,OK.Aqz hy];exact .refl _
     ·rw[OK.B8m hc,OK.Aqz hy]
   ·cases h
  ·cases h
def A5s(c:Cut)(y:c.T):A2 (Nat×Ac):=Qk c.objs y.2.1++(S4 c.own y.2.2.1++Ls c.Qj y.2.2.2)
theorem Avb(s0:Ad)(c:Cut)(y:c.T):(gen s0 c y).objs=A5s c y++Mb s0.objs c.Od:=by simp[gen,A5s]
def Avc(ns:A2 Nat)(f:Nat→Nat)(F:A2 Nat)(objs:A2 (Nat×Ac)):A2 (Nat×Ac)→Bool
 |[]=>true
 |p::r=>cond (cond (inl p.1 ns) true (cond (inl (f p.1) F) (match lk (f p.1) objs with
  |none=>true
  |some _=>false) false)) (Avc ns f F objs r) false
theorem Air{ns:A2 Nat}{f:Nat→Nat}{F:A2 Nat}{objs:A2 (Nat×Ac)}:∀ {l:A2 (Nat×Ac)},Avc ns f F objs l=true→∀p∈l,p.1∈ns∨(f p.1∈F∧lk (f p.1) objs=none)
 |[],_=>by simp
 |q::r,h=>by
  simp only[Avc]at h;have hr:Avc ns f F objs r=true∧(q.1∈ns∨(f q.1∈F∧lk (f q.1) objs=none)):=by
   cases h1:inl q.1 ns with
   |true=>simp only[h1,Bkn]at h;exact⟨h,.inl ((D3 _ _).1 h1)⟩
   |false =>
    cases h2:inl (f q.1) F with
    |false=>simp[h1,h2]at h
    |true =>
     cases h3:lk (f q.1) objs with
     |some _=>simp[h1,h2,h3]at h
     |none=>simp only[h1,h2,h3,Bkn,Bko]at h;exact⟨h,.inr ⟨(D3 _ _).1 h2,rfl⟩⟩
  intro p hp;rcases Bkq.1 hp with rfl|hp
  ·exact hr.2
  ·exact Air hr.1 p hp
def Ari(fl:Nat→Nat)(Eb live:A2 Nat):A2 Nat→Bool
 |[]=>true
 |n::r=>cond (cond (inl (fl n) live) (inl (fl n) (Eb.map fl)) true) (Ari fl Eb live r) false
theorem A34{fl:Nat→Nat}{Eb live:A2 Nat}:∀ {l:A2 Nat},Ari fl Eb live l=true→∀n∈l,fl n∈live→fl n∈Eb.map fl
 |[],_=>by simp
 |m::r,h=>by
  simp only[Ari]at h;intro n hn hl;cases h1:inl (fl m) live with
  |false =>
   simp only[h1,Bko,Bkn]at h;rcases Bkq.1 hn with rfl|hn
   ·rw[(D3 _ _).2 hl]at h1;cases h1
   ·exact A34 h n hn hl
  |true =>
   cases h2:inl (fl m) (Eb.map fl) with
   |false=>simp[h1,h2]at h
   |true =>
    simp only[h1,h2,Bkn]at h;rcases Bkq.1 hn with rfl|hn
    ·exact(D3 _ _).1 h2
    ·exact A34 h n hn hl
def Bbl(S:Fg)(f fl:Nat→Nat)(F:A2 Nat)(st:Ad)(xs:A2 XV)(K5 s1o:A2 (Nat×Ac))(s1l:A2 Nat)(res:XV):Bool :=
 cond (E1 st.objs) (cond (Hy S.names) (cond (Hy (S.names.map f)) (cond (Ua S.names S.Eb K5) (cond (Ua (s1o.map (·.1)) s1l s1o) (cond (Hy (s1o.map fun p=>f p.1)) (cond (Avc S.names f F st.objs s1o)
 (cond (Ald S.names (s1o.map (·.1))) (cond (Fp F (Aau f fl K5 st.objs)) (cond (Ald (S.Eb.map fl) st.live) (cond (Hy (S.Eb.map fl)) (cond (Hy (s1l.map fl)) (cond (Ald (s1l.map fl) F)
 (cond (Ari fl S.Eb st.live s1l) (cond (A7v S.names S.Eb xs) (res.nms (s1o.map (·.1)) s1l) false) false) false) false) false) false) false) false) false) false) false) false) false) false) false
structure Bhb(S:Fg)(f fl:Nat→Nat)(F:List Nat)(st:Ad)(xs:List XV)(K5 s1o:List (Nat×Ac))(s1l:List Nat)(res:XV):Prop where
 Bf1:E1 st.objs=true
 nd1:S.names.Nodup
 nd2:(S.names.map f).Nodup
 Bhc:Ua S.names S.Eb K5=true
 B1s:Ua (s1o.map (·.1)) s1l s1o=true
 nd3:(s1o.map fun p=>f p.1).Nodup
 new:∀p∈s1o,p.1∈S.names∨(f p.1∈F∧lk (f p.1) st.objs=none)
 sub:∀x∈S.names,x∈s1o.map (·.1)
 free:Fp F (Aau f fl K5 st.objs)=true
 l1:∀x∈S.Eb.map fl,x∈st.live
 l2:(S.Eb.map fl).Nodup
 l3:(s1l.map fl).Nodup
 l4:∀x∈s1l.map fl,x∈F
 l5:∀n∈s1l,fl n∈st.live→fl n∈S.Eb.map fl
 xsn:A7v S.names S.Eb xs=true
 Bjc:res.nms (s1o.map (·.1)) s1l=true
theorem B4f{S:Fg}{f fl:Nat→Nat}{F:A2 Nat}{st:Ad}{xs:A2 XV}{K5 s1o:A2 (Nat×Ac)}{s1l:A2 Nat}{res:XV}(h:Bbl S f fl F st xs K5 s1o s1l res=true):Bhb S f fl F st xs K5 s1o s1l res:=by
 unfold Bbl at h;have c:∀ {a b:Bool},cond a b false=true→a=true∧b=true:=by intro a b h;cases a<;>simp at h;exact⟨rfl,h⟩
 obtain⟨h0,h⟩:=c h;obtain⟨h1,h⟩:=c h;obtain⟨h2,h⟩:=c h;obtain⟨h3,h⟩:=c h;obtain⟨h4,h⟩:=c h;obtain⟨h5,h⟩:=c h;obtain⟨h6,h⟩:=c h;obtain⟨h7,h⟩:=c h;obtain⟨h8,h⟩:=c h;obtain⟨h9,h⟩:=c h;obtain⟨h10,h⟩:=c h;obtain⟨h11,h⟩:=c h;obtain⟨h12,h⟩:=c h;obtain⟨h13,h⟩:=c h;obtain⟨h14,h⟩:=c h;exact⟨h0,Cl h1,Cl h2,h3,h4,Cl h5,Air h6,Ut h7,h8,Ut h9,Cl h10,Cl h11,Ut h12,A34 h13,h14,h⟩
theorem Arj{l:A2 (Nat×Ac)}{p:Nat×Ob}(hl:E1 l=true)(h:p∈A6 l):∃q∈l,p=(q.1,q.2.o):=by rw[A25 hl]at h;obtain⟨q,hq,rfl⟩:=Bl2.1 h;exact⟨q,hq,rfl⟩
theorem Lt{f fl:Nat→Nat}{l:A2 (Nat×Ac)}{acc:A2 (Nat×Ob)}{j:Nat}(hl:E1 l=true)(h:∀p∈l,f p.1≠j):(Cu f fl (A6 l) acc).lookup j=acc.lookup j:=by
 refine M7 _ _ j fun p hp=>?_
 obtain⟨q,hq,rfl⟩:=Arj hl hp;exact h q hq
theorem Td{f fl:Nat→Nat}{l:A2 (Nat×Ac)}{acc:A2 (Nat×Ob)}{p:Nat×Ac}(hl:E1 l=true)(hn:(l.map fun p=>f p.1).Nodup)(h:p∈l):(Cu f fl (A6 l) acc).lookup (f p.1)=some (p.2.mp f fl).o:=by have:=U4 (f:=f) (fl:=fl) (A6 l) acc (p.1,p.2.o) (by rw[A25 hl];simpa[Bnz]using hn) (by rw[A25 hl];exact Bl3 (f:=fun p:Nat×Ac=>(p.1,p.2.o)) h);rw[Ac.Bey f fl (Gw hl p h)];exact this
theorem B4g{P:Program}{o:Oper}{rd:A2 (Operand×AV)}{S:Fg}{f fl:Nat→Nat}{F:A2 Nat}{st:Ad}{xs:A2 XV}{K5:A2 (Nat×Ac)}{y:S.out.T}{res:XV}{X:A7}
  (hc:Bhb S f fl F st xs K5 (gen (S.s0 xs K5) S.out y).objs (gen (S.s0 xs K5) S.out y).live res) (Wk:K5.map (·.1)=S.names)
  (Up:∀p∈K5,∃o,X.objs.lookup (f p.1)=some o∧Afj o (p.2.mp f fl).o∧(inl p.1 S.out.Od=true→o=(p.2.mp f fl).o))
  (A1r:∀p∈(gen (S.s0 xs K5) S.out y).objs,p.1∈S.names∨(f p.1∈F∧X.objs.lookup (f p.1)=none))
  (Pq:B7 F ⟨Cu f fl (A6 K5) X.objs,X.live⟩=true) (hl1:∀x∈S.Eb.map fl,x∈X.live) (hl5:∀n∈(gen (S.s0 xs K5) S.out y).live,fl n∈X.live→fl n∈S.Eb.map fl)
  (H:∀Y,A00 Y ⟨A6 K5,S.Eb⟩ (gen (S.s0 xs K5) S.out y).X f fl F→Bp P o rd Y ⟨Cu f fl (gen (S.s0 xs K5) S.out y).X.objs Y.objs,Hu fl Y ⟨A6 K5,S.Eb⟩ (gen (S.s0 xs K5) S.out y).X⟩ F (res.mp f fl).a) :
  Bp P o rd X ⟨Cu f fl (A6 (A5s S.out y)) X.objs,Hu fl X ⟨A6 K5,S.Eb⟩ (gen (S.s0 xs K5) S.out y).X⟩ F (res.mp f fl).a:=by
 generalize hs1:gen (S.s0 xs K5) S.out y=s1 at *;have B1t:s1.objs=A5s S.out y++Mb K5 S.out.Od:=by rw[← hs1,Avb];rfl
 have nIn:E1 K5=true:=Lj hc.Bhc;have B4h:E1 s1.objs=true:=Lj hc.B1s;have nW:E1 (A5s S.out y)=true:=Ato fun p hp=>Gw B4h p (by rw[B1t];exact Bla _ hp)
 have nd2:(K5.map fun p=>f p.1).Nodup:=by have:=hc.nd2;rw[← Wk,Bnh]at this;exact this
 let Y:A7:=⟨Cu f fl (A6 K5) X.objs,X.live⟩;have yIn:∀p∈K5,Y.objs.lookup (f p.1)=some (p.2.mp f fl).o:=fun p hp=>Td nIn nd2 hp
 have Ark:∀j,(∀p∈K5,f p.1≠j)→Y.objs.lookup j=X.objs.lookup j:=fun j hj=>Lt nIn hj
 have B8n:∀j,(∃p∈K5,f p.1=j)∨∀p∈K5,f p.1≠j:=by
  intro j;by_cases h:∃p∈K5,f p.1=j
  ·exact .inl h
  ·exact .inr fun p hp e=>h ⟨p,hp,e⟩
 have hle:∀k o',Y.objs.lookup k=some o'→∃o,X.objs.lookup k=some o∧Afj o o':=by
  intro k o' ho;rcases B8n k with ⟨p,hp,rfl⟩|hn
  ·rw[yIn p hp]at ho;cases ho;obtain⟨o,h1,h2,_⟩:=Up p hp;exact⟨o,h1,h2⟩
  ·rw[Ark k hn]at ho;exact⟨o',ho,.refl _⟩
 have hkk:∀k,(X.objs.lookup k).isSome→(Y.objs.lookup k).isSome:=by
  intro k hk;rcases B8n k with ⟨p,hp,rfl⟩|hn
  ·rw[yIn p hp];rfl
  ·rw[Ark k hn];exact hk
 have hXn:s1.X.objs.map (·.1)=s1.objs.map (·.1):=Hk B4h;have B8o:A00 Y ⟨A6 K5,S.Eb⟩ s1.X f fl F:=by
  refine⟨?_,?_,?_,?_,?_,?_,?_,fun j o hj _=>Hh Pq hj,?_,hc.l2,hc.l3,fun n hn=>hc.l4 _ (Bl3 hn),hl5⟩
  ·intro p hp;obtain⟨q,hq,rfl⟩:=Arj nIn hp;rw[yIn q hq,Ac.Bey f fl (Gw nIn q hq)]
  ·simp only[Hk nIn,Wk];exact A7x hc.Bhc
  ·rw[hXn];exact A7x hc.B1s
  ·have:=hc.nd3;show((A6 s1.objs).map _).Nodup;rw[A25 B4h];simpa[Bnz]using this
  ·simp only[Hk nIn,Wk];exact hc.nd1
  ·intro p hp;obtain⟨q,hq,rfl⟩:=Arj B4h hp;simp only[Hk nIn,Wk];rcases A1r q hq with h|⟨h1,h2⟩
   ·exact .inl h
   ·refine .inr ⟨h1,?_⟩;rw[Ark]
    ·exact h2
    ·intro p hp e;obtain⟨o,h3,_⟩:=Up p hp;rw[e,h2]at h3;cases h3
  ·intro p hp;obtain⟨q,hq,rfl⟩:=Arj nIn hp;rw[hXn];exact hc.sub _ (by rw[← Wk];exact Bl3 (f:=fun p:Nat×Ac=>p.1) hq)
  ·intro n hn;exact hl1 _ (Bl3 hn)
 have h1:=B8e (H Y B8o) hle hkk rfl;have ndo:=hc.nd3;rw[B1t]at ndo;have same:∀j,(Cu f fl (A6 (A5s S.out y)) X.objs).lookup j=(Cu f fl s1.X.objs Y.objs).lookup j:=by
  intro j;by_cases hj:∃p∈s1.objs,f p.1=j
  ·obtain⟨p,hp,rfl⟩:=hj;have e1:(Cu f fl s1.X.objs Y.objs).lookup (f p.1)=some (p.2.mp f fl).o:=Td B4h hc.nd3 hp;rw[e1];rw[B1t]at hp;rcases Bkw.1 hp with hp|hp
   ·exact Td nW (by
     rw[Ble]at ndo;exact(A4q ndo).1) hp
   ·rw[Lt nW]
    ·obtain⟨hk1,hk2⟩:=Nd hp;have A5m:p∈K5:=Gd hk2;obtain⟨o,h3,_,h4⟩:=Up p A5m;rw[h3,h4 ((D3 _ _).2 hk1)]
    ·intro q hq e;rw[Ble]at ndo;exact(A4q ndo).2.2 (f q.1) (Bl3 (f:=fun p:Nat×Ac=>f p.1) hq) (by rw[e];exact Bl3 (f:=fun p:Nat×Ac=>f p.1) hp)
  ·have hn:∀p∈s1.objs,f p.1≠j:=fun p hp e=>hj ⟨p,hp,e⟩
   have e1:(Cu f fl s1.X.objs Y.objs).lookup j=Y.objs.lookup j:=Lt B4h hn;rw[e1,Ark j ?_,Lt nW ?_]
   ·intro p hp;exact hn p (by rw[B1t];exact Bla _ hp)
   ·intro p hp e;have:=hc.sub p.1 (by rw[← Wk];exact Bl3 (f:=fun p:Nat×Ac=>p.1) hp);obtain⟨q,hq,hqe⟩:=Bl2.1 this;exact hn q hq (by rw[hqe];exact e)
 intro nm Ek B g w a hr Aq next Q hn
 refine h1 nm Ek B g w a hr Aq next Q fun g' w' v hr' ht hv=>hn g' w' v ?_ ht hv
 refine B1o hr' (fun k o' ho=>⟨o',?_,.refl _⟩) (fun k hk=>?_) rfl
 ·rw[← same k];exact ho
 ·rw[same k];exact hk
def Adb(o:Oper):Nat:=match o.dst with
 |some d=>1000000+1000*d
 |none=>999000
def B8p:A2 (Nat×Nat)→A2 XV→A2 (Nat×Nat)→A2 (Nat×Nat)
 |p::ps,.nm k _::cs,σ=>B8p ps cs ((p.1,k)::σ)
 |_::ps,_::cs,σ=>B8p ps cs σ
 |_,_,σ=>σ
def Aet:A2 AS→A2 XV→A2 (Nat×Nat)→A2 (Nat×Nat)
 |.p k _::r,.nm k' _::vs,σ=>Aet r vs ((k,k')::σ)
 |.os k _::r,.os k' _ _ _::vs,σ=>Aet r vs ((k,k')::σ)
 |.oa k _ _::r,.os k' _ _ _::vs,σ=>Aet r vs ((k,k')::σ)
 |.Ff _ ps::r,.Ff _ J9::vs,σ=>Aet r vs (B8p ps J9 σ)
 |_::r,_::vs,σ=>Aet r vs σ
 |_,_,σ=>σ
def Avd:A2 VK→A2 XV→A2 (Nat×Nat)×A2 (Nat×Nat)→A2 (Nat×Nat)×A2 (Nat×Nat)
 |.d t::r,cs,σ=>Avd r (cs.drop t.size) σ
 |.p k _::r,.nm k' _::cs,σ=>Avd r cs ((k,k')::σ.1,σ.2)
 |.Bu n _ _::r,.Bu n' _ _ _::cs,σ=>Avd r cs (σ.1,(n,n')::σ.2)
 |_::r,_::cs,σ=>Avd r cs σ
 |_,_,σ=>σ
def B8q(objs:A2 (Nat×Ac)):A2 (Nat×A2 VK×A3 TypeId)→A2 (Nat×Nat)×A2 (Nat×Nat)→A2 (Nat×Nat)×A2 (Nat×Nat)
 |[],σ=>σ
 |p::r,σ=>match lk (nf σ.1 p.1) objs with
  |some (.cells cs _)=>B8q objs r (Avd p.2.1 cs σ)
  |_=>B8q objs r σ
def B8r(ns:A2 Nat)(b:Nat):A2 Nat→A2 (Nat×Nat)
 |[]=>[]
 |k::r=>cond (inl k ns) (B8r ns b r) ((k,b+k)::B8r ns b r)
def Bd3(b:Nat):A2 Nat→A2 (Nat×Nat)
 |[]=>[]
 |n::r=>(n,b)::Bd3 (b+1) r
def Bhd(S:Fg)(o:Oper):A2 (Nat×Nat):=B8r S.names (Adb o) (Ie S.out.objs++(ownNames S.out.own++Fk S.out.Qj))
def Anf(S:Fg)(o:Oper)(st:Ad)(vs:A2 XV):A2 (Nat×Nat)×A2 (Nat×Nat) :=
 let σ:=B8q st.objs S.objs (Aet S.args vs [],[])
 (σ.1++Bhd S o,σ.2++Bd3 (3000000+Adb o) S.out.Eb)
def Te{α:Type}:A2 α→Bool
 |[]=>true
 |_=>false
def Vr:A2 XV→Bool
 |[]=>true
 |.d _::r=>Vr r
 |_=>false
theorem Arl{f fl:Nat→Nat}:∀ {l:A2 XV},Vr l=true→mpL f fl l=l
 |[],_=>rfl
 |.d x::r,h=>by
  have:=Arl (f:=f) (fl:=fl) (l:=r) h;simp only[mpL,XV.mp,this]
 |.nm _ _::_,h=>by simp[Vr]at h
 |.Bu _ _ _ _::_,h=>by simp[Vr]at h
 |.E2 _::_,h=>by simp[Vr]at h
 |.agg _::_,h=>by simp[Vr]at h
 |.Ff _ _::_,h=>by simp[Vr]at h
 |.os _ _ _ _::_,h=>by simp[Vr]at h
 |.el _ _ _ _::_,h=>by simp[Vr]at h
 |.Uo _ _ _ _::_,h=>by simp[Vr]at h
theorem A0n:∀ {l:A2 XV},Vr l=true→Ba (A9 l)=true
 |[],_=>rfl
 |.d x::r,h=>by
  have:=A0n (l:=r) h;simp only[A9,XV.a,Ba,Ki,this,Bmo]
 |.nm _ _::_,h=>by simp[Vr]at h
 |.Bu _ _ _ _::_,h=>by simp[Vr]at h
 |.E2 _::_,h=>by simp[Vr]at h
 |.agg _::_,h=>by simp[Vr]at h
 |.Ff _ _::_,h=>by simp[Vr]at h
 |.os _ _ _ _::_,h=>by simp[Vr]at h
 |.el _ _ _ _::_,h=>by simp[Vr]at h
 |.Uo _ _ _ _::_,h=>by simp[Vr]at h
def Bf2{R:Type}(P:Program)(fn:Func)(S:Fg)(f fl:Nat→Nat)(nw:A2 Nat)(st:Ad)(rd:A2 (Operand×XV))(xs:A2 XV)(K5:A2 (Nat×Ac))(K:Out→A3 R)(y:S.out.T):A3 R :=
 match Aam P (gen (S.s0 xs K5) S.out y) fn.results.toList with
 |some rs=>cond (Vr (xs.drop S.n)) (
  cond (Bbl S f fl (nw++(gen (S.s0 xs K5) S.out y).live.map fl) st xs K5 (gen (S.s0 xs K5) S.out y).objs (gen (S.s0 xs K5) S.out y).live (L8 rs))
   (cond (cond (Te (A5s S.out y)) (cond (Te (nw++(gen (S.s0 xs K5) S.out y).live.map fl)) (Te S.Eb) false) false)
    (K ⟨.look (S.names.map f),(L8 rs).mp f fl,rd,st.objs,st.live,[],[]⟩)
    (K ⟨.all,(L8 rs).mp f fl,rd,Aau f fl (A5s S.out y) st.objs,Hu fl st.X ⟨[],S.Eb⟩ ⟨[],(gen (S.s0 xs K5) S.out y).live⟩,nw++(gen (S.s0 xs K5) S.out y).live.map fl,(A5s S.out y).map fun p=>f p.1⟩)) none) none
 |none=>none
def Adc{R:Type}:A2 (Nat×Nat)→(A2 (Nat×Nat)→R)→R
 |[],K=>K []
 |p::r,K=>Adc r fun r'=>K ((p.1,p.2)::r')
theorem Uv{R:Type}:∀(l:A2 (Nat×Nat)) (K:A2 (Nat×Nat)→R),Adc l K=K l
 |[],K=>rfl
 |p::r,K=>by
  simp only[Adc];rw[Uv r]
def B1u{R:Type}(P:Program)(fn:Func)(S:Fg)(F:S.C1 (A3 S.out.T))(o:Oper)(st:Ad)(rd:A2 XV→A2 (Operand×XV))(vs:A2 XV)(K:Out→A3 R):A3 R :=
 Adc (Anf S o st vs).1 fun σ=>Adc (Anf S o st vs).2 fun τ =>
  L9 (nf σ) S.args F vs [] fun F' xs =>
   B1q (nf σ) (nf τ) S.out.Od st.objs S.objs F' [] fun F'' os =>B1r (nf σ) st.objs S.Qj F'' os fun F3 os' =>Option.bind F3 fun y=>S6 S.out.own y.2.2.1 fun u=>Bf2 P fn S (nf σ) (nf τ) ((Bhd S o).map (·.2)) st (rd (mpL (nf σ) (nf τ) xs)) xs os' K (y.1,y.2.1,u,y.2.2.2)
def Bf3{R:Type}(P:Program)(fn:Func)(S:Fg)(F:S.C1 (A3 S.out.T))(o:Oper)(st:Ad)(vs:A2 XV)(K:Out→A3 R):A3 R :=
 cond (Nat.beq (Bm o).length S.n) (match C5 st (Ard S.D8) with
  |some us=>B1u P fn S F o st (fun ms=>(Are (Bm o) (Ard S.D8)).zip ms) (Are vs us) K
  |none=>none) none
def Ais(o:Oper):Operand :=
 match o.op with
 |.call c=>match c.callee with
  |.value x=>x
  |_=>.const undef
 |_=>.const undef
def B8s{R:Type}(P:Program)(id:FuncId)(fn:Func)(S:Fg)(F:S.C1 (A3 S.out.T))(o:Oper)(st:Ad)(J9 vs:A2 XV)(K:Out→A3 R):A3 R :=
 cond (cond (Ada J9) (cond (Te S.D8) (Nat.beq S.n (vs.length+J9.length)) false) false) (B1u P fn S F o st (fun ms=>(Ais o,.Ff id J9)::(Bm o).zip ms) (vs++J9) K) none
theorem A4x{α:Type}{l:A2 α}(h:Te l=true):l=[]:=by cases l<;>simp[Te]at h;rfl
theorem B1v{P:Program}{R:Type}{id:FuncId}{fn:Func}{S:Fg}{f fl:Nat→Nat}{nw:A2 Nat}{st:Ad}{rd:A2 (Operand×XV)}{xs:A2 XV}{K5:A2 (Nat×Ac)}{K:Out→A3 R}{y:S.out.T}{r:R}{o:Oper}
  (hg:B8g P id fn S y xs K5) (Up:∀p∈K5,InR f fl S.out.Od st.objs p) (A5r:∀p∈B0 rd,E3 st.im p.1 p.2)
  (H:∀(rs:A2 XV) (F:A2 Nat) (Y:A7),Vr (xs.drop S.n)=true→Ae4 P id (A9 (xs.take S.n)) (S.D8.zip (A9 (xs.drop S.n))) ⟨A6 K5,S.Eb⟩ (L8 rs).a (gen (S.s0 xs K5) S.out y).X→A7v S.names S.Eb xs=true→K5.map (·.1)=S.names→(E1 K5=true∧E1 (gen (S.s0 xs K5) S.out y).objs=true)→(L8 rs).nms ((gen (S.s0 xs K5) S.out y).objs.map (·.1)) (gen (S.s0 xs K5) S.out y).live=true→A00 Y ⟨A6 K5,S.Eb⟩ (gen (S.s0 xs K5) S.out y).X f fl F →
   Bp P o (B0 rd) Y ⟨Cu f fl (gen (S.s0 xs K5) S.out y).X.objs Y.objs,Hu fl Y ⟨A6 K5,S.Eb⟩ (gen (S.s0 xs K5) S.out y).X⟩ F ((L8 rs).mp f fl).a)
  (h:Bf2 P fn S f fl nw st rd xs K5 K y=some r):∃out,K out=some r∧Br P o st out:=by
 unfold Bf2 at h;split at h
 ·rename_i rs hrs;cases Ali:Vr (xs.drop S.n) with
  |false=>rw[Ali]at h;cases h
  |true =>
  rw[Ali,Bkn]at h;generalize B8t:Bbl S f fl (nw++(gen (S.s0 xs K5) S.out y).live.map fl) st xs K5 (gen (S.s0 xs K5) S.out y).objs (gen (S.s0 xs K5) S.out y).live (L8 rs)=b at h;cases b with
  |false=>cases h
  |true =>
   have hc:=B4f B8t;simp only[Bkn]at h;obtain⟨Wk,nIn,B8u⟩:=hg;have hd:=B8u rs hrs;have core:∀X:A7,(∀p∈K5,∃o,X.objs.lookup (f p.1)=some o∧Afj o (p.2.mp f fl).o∧(inl p.1 S.out.Od=true→o=(p.2.mp f fl).o)) →
     (∀p∈(gen (S.s0 xs K5) S.out y).objs,p.1∈S.names∨(f p.1∈(nw++(gen (S.s0 xs K5) S.out y).live.map fl)∧X.objs.lookup (f p.1)=none)) →
     B7 (nw++(gen (S.s0 xs K5) S.out y).live.map fl) ⟨Cu f fl (A6 K5) X.objs,X.live⟩=true→(∀x∈S.Eb.map fl,x∈X.live)→(∀n∈(gen (S.s0 xs K5) S.out y).live,fl n∈X.live→fl n∈S.Eb.map fl) →
     Bp P o (B0 rd) X ⟨Cu f fl (A6 (A5s S.out y)) X.objs,Hu fl X ⟨A6 K5,S.Eb⟩ (gen (S.s0 xs K5) S.out y).X⟩ (nw++(gen (S.s0 xs K5) S.out y).live.map fl) ((L8 rs).mp f fl).a:=by
    intro X h1 h2 h3 h4 h5;exact B4g hc Wk h1 h2 h3 h4 h5 (fun Y hY=>H rs _ Y Ali hd hc.xsn Wk ⟨nIn,Lj hc.B1s⟩ hc.Bjc hY)
   cases Ae2:(cond (Te (A5s S.out y)) (cond (Te (nw++(gen (S.s0 xs K5) S.out y).live.map fl)) (Te S.Eb) false) false) with
   |true =>
    rw[Ae2]at h;simp only[Bkn]at h;have hl:A5s S.out y=[]∧nw++(gen (S.s0 xs K5) S.out y).live.map fl=[]∧S.Eb=[]:=by
     cases e1:Te (A5s S.out y) with
     |false=>simp[e1]at Ae2
     |true =>
      cases e2:Te (nw++(gen (S.s0 xs K5) S.out y).live.map fl) with
      |false=>simp[e1,e2]at Ae2
      |true=>simp only[e1,e2,Bkn]at Ae2;exact⟨A4x e1,A4x e2,A4x Ae2⟩
    obtain⟨w1,w2,w3⟩:=hl;refine⟨_,h,⟨A5r,⟨rfl,rfl,rfl,fun X hX=>?_⟩,fun _ _ _ h=>h⟩⟩;have hlv:(gen (S.s0 xs K5) S.out y).live=[]:=by have:=(List.append_eq_nil_iff.1 w2).2;simpa using this
    have Kz:∀p∈K5,X.objs.lookup (f p.1)=st.X.objs.lookup (f p.1):=fun p hp=>hX _ (Bl2.2 ⟨p.1,by rw[← Wk];exact Bl3 (f:=fun p:Nat×Ac=>p.1) hp,rfl⟩)
    have c1:=core X (fun p hp=>by
      obtain⟨o,h1,h2,h3⟩:=Up p hp;exact⟨o.o,by rw[Kz p hp];exact P3 h1,h2,h3⟩) (fun p hp=>by
      rcases hc.new p hp with h|⟨h,_⟩
      ·exact .inl h
      ·rw[w2]at h;cases h) (by rw[w2];rfl) (by rw[w3];simp) (by rw[hlv];simp)
    rw[w2,w1]at c1;have e:Hu fl X ⟨A6 K5,S.Eb⟩ (gen (S.s0 xs K5) S.out y).X=X.live:=by unfold Hu;show(gen (S.s0 xs K5) S.out y).live.map fl++_=_;rw[hlv,w3];simp
    rw[e]at c1;exact c1
   |false =>
    rw[Ae2]at h;simp only[Bko]at h;refine⟨_,h,⟨A5r,?_,fun j x hj hx=>?_⟩⟩
    ·have c1 := core st.X (fun p hp => by
       obtain⟨o,h1,h2,h3⟩:=Up p hp;exact⟨o.o,P3 h1,h2,h3⟩) (fun p hp=>by
       rcases hc.new p hp with h|⟨h,h'⟩
       ·exact .inl h
       ·refine .inr ⟨h,?_⟩;show(A6 st.objs).lookup _=none;rw[Bal hc.Bf1,h'];rfl) (by
       have:=U5 (live:=st.live) hc.free;rw[Aik f fl nIn hc.Bf1]at this;exact this) hc.l1 hc.l5
     have e1:A6 (Aau f fl (A5s S.out y) st.objs)=Cu f fl (A6 (A5s S.out y)) st.X.objs:=Aik f fl (Ato fun p hp=>Gw (Lj hc.B1s) p (by rw[Avb];exact Bla _ hp)) hc.Bf1;show Bp P o (B0 rd) st.X ⟨A6 (Aau f fl (A5s S.out y) st.objs),_⟩ _ _;rw[e1];exact c1
    ·rw[Aeq]at hx
     ·exact hx
     ·intro p hp e;exact hj (Bl2.2 ⟨p,hp,e⟩)
 ·cases h
theorem Ave{α β:Type}:∀(a:A2 α) (b c:A2 β),a.length=b.length→a.zip (b++c)=a.zip b
 |[],b,c,h=>by simp
 |x::a,[],c,h=>by simp at h
 |x::a,y::b,c,h=>by simp only[Bmx,Bnn];rw[Ave a b c (by simpa using h)]
theorem Ang{ks ls:A2 Nat}:∀ {l:A2 XV} (n:Nat),A7v ks ls l=true→A7v ks ls (l.take n)=true
 |[],n,_=>by simp[A7v]
 |x::r,0,_=>rfl
 |x::r,n+1,h=>by
  simp only[A7v]at h;cases hx:x.nms ks ls with
  |false=>simp[hx]at h
  |true =>simp only[hx,Bkn]at h;simp only[Bpl,A7v,hx,Bkn];exact Ang n h
theorem Bbm{P:Program}{R:Type}{id:FuncId}{fn:Func}{S:Fg}{F:S.C1 (A3 S.out.T)}(hc:Ez P id)(hs:B8h P id fn S F){o:Oper}{st:Ad}{Bt:Array Operand}{ts:Array TypeId}{vs:A2 XV}{K:Out→A3 R}{r:R}
  (ho:o.op = .call { callee:=.value (.func id),args:=Bt,argTypes:=ts }) (hv:C5 st Bt.toList=some vs) (h:Bf3 P fn S F o st vs K=some r):∃out,K out=some r∧Br P o st out:=by
 have e:Bm o=Bt.toList:=by simp[Bm,ho]
 unfold Bf3 at h;rw[e]at h;cases hb:Nat.beq Bt.toList.length S.n with
 |false=>rw[hb]at h;cases h
 |true =>
 have hn:Bt.toList.length=S.n:=Bkr hb;rw[hb,Bkn]at h;split at h
 ·rename_i us hus;rw[A4v,A4v,Z3]at h;rw[Z3]at hus;unfold B1u at h;rw[Uv,Uv]at h;generalize (Anf S o st (vs++us)).1=σ at h;generalize (Anf S o st (vs++us)).2=τ at h;obtain⟨F',xs,q1,a1,h⟩:=Of (fl:=nf τ) S.args F (vs++us) [] [] hs .nil h;obtain⟨F'',os,q2,a2,h⟩:=Aip S.objs F' [] q1 (by simp) h;obtain⟨F3,os',q3,a3,h⟩:=Aiq (fl:=nf τ) (ko:=S.out.Od) S.Qj F'' os q2 a2 h;obtain⟨y,hy,h⟩:=Blr.1 h;rw[Mf]at h;rw[Bm0]at a1;refine B1v (q3 y hy) a3 (a1.Ri (Li hv hus)) ?_ h;intro rs Fr Y Ali hd hx Wk hna hr B8o;have hxl:xs.length=Bt.toList.length+(S.D8.map Operand.global).length:=by have h1:=a1.length;have h2:=Hw (Li hv hus);rw[@List.length_append _ Bt.toList]at h2;omega
  have htk:(xs.take S.n).length=Bt.size:=by
   rw[Bm6,hxl];have:Bt.toList.length=Bt.size:=by simp
   omega
  have:=Alg (X:=Y) (D8:=S.D8) (ys:=A9 (xs.drop S.n)) (nf σ) (nf τ) Fr ho hc hd B8o (by rw[Ag,htk]) (by
    simp only[Hk hna.1,Wk];refine A7w ?_;exact Ang _ hx) (A0n Ali) (by
    have e:(gen (S.s0 xs os') S.out y).X.objs.map (·.1)=(gen (S.s0 xs os') S.out y).objs.map (·.1):=Hk hna.2;rw[e];exact XV.B8c hr)
  have hz:B0 ((Bt.toList++S.D8.map Operand.global).zip (mpL (nf σ) (nf τ) xs))=Bt.toList.zip (O4 (nf σ) (nf τ) (A9 (xs.take S.n)))++(S.D8.map Operand.global).zip (A9 (xs.drop S.n)):=by
   conv=>lhs;rw[← Bmt S.n xs]
   rw[Vp,Arl Ali,Bot (by rw[Aat,Blb,htk];simp),F2,Iy,Iy,Aep]
  rw[hz,← XV.Bex]at *;exact this
 ·cases h
theorem B8v{P:Program}{R:Type}{id:FuncId}{fn:Func}{S:Fg}{F:S.C1 (A3 S.out.T)}(hc:Ez P id)(hs:B8h P id fn S F){o:Oper}{st:Ad}{t:Tmp}{Bt:Array Operand}{ts:Array TypeId}{J9 vs:A2 XV}{K:Out→A3 R}{r:R}
  (ho:o.op = .call { callee:=.value (.tmp t),args:=Bt,argTypes:=ts }) (B42:Av st (.tmp t)=some (.Ff id J9)) (hv:C5 st Bt.toList=some vs) (h:B8s P id fn S F o st J9 vs K=some r):∃out,K out=some r∧Br P o st out:=by
 have e:Bm o=Bt.toList:=by simp[Bm,ho]
 have e2:Ais o = .tmp t:=by simp[Ais,ho]
 unfold B8s B1u at h;cases B8w:Ada J9 with
 |false=>simp[B8w]at h
 |true =>
 cases hgn:Te S.D8 with
 |false=>simp[B8w,hgn]at h
 |true =>
 have Bhe:=A4x hgn;cases hbn:Nat.beq S.n (vs.length+J9.length) with
 |false=>simp[B8w,hgn,hbn]at h
 |true =>
 simp only[B8w,hgn,hbn,Bkn]at h;rw[e,e2,Uv,Uv]at h;generalize (Anf S o st (vs++J9)).1=σ at h;generalize (Anf S o st (vs++J9)).2=τ at h;obtain⟨F',xs,q1,a1,h⟩:=Of (fl:=nf τ) S.args F (vs++J9) [] [] hs .nil h;obtain⟨F'',os,q2,a2,h⟩:=Aip S.objs F' [] q1 (by simp) h;obtain⟨F3,os',q3,a3,h⟩:=Aiq (fl:=nf τ) (ko:=S.out.Od) S.Qj F'' os q2 a2 h;obtain⟨y,hy,h⟩:=Blr.1 h;rw[Mf]at h;rw[Bm0]at a1;have a1':=a1;obtain⟨xa,xc,rfl,a4,a5⟩:=a1.split;have Bhf:=a5.J9 B8w;have hlen:Bt.toList.length=(mpL (nf σ) (nf τ) xa).length:=by rw[Aat,Blb,← a4.length,Hw hv]
 rw[Vp,Ave _ _ _ hlen]at h;have hSn:S.n=(xa++xc).length:=by have h1:=a1.length;have h2:=Bkr hbn;simp only[Bme]at h1⊢;omega
 refine B1v (q3 y hy) a3 ?_ ?_ h
 ·intro p hp;simp only[B0,Bkv,Bkq]at hp;rcases hp with rfl|hp
  ·exact Aj (x:=.tmp t) B42
  ·exact a4.Ri hv p hp
 ·intro rs Fr Y Ali hd hx Wk hna hr B8o;rw[hSn,Bm4,Bof,Bhe]at hd;rw[Dk]at hd;have:=Afk (X:=Y) (nf σ) (nf τ) Fr ho hc hd.plain B8o (by
    have h1:=a4.length;have h2:=Hw hv;rw[Ag,← h1,h2];simp) (by
    simp only[Hk hna.1,Wk];have:=A7w hx;rw[Dk]at this;exact this) (by
    have e:(gen (S.s0 (xa++xc) os') S.out y).X.objs.map (·.1)=(gen (S.s0 (xa++xc) os') S.out y).objs.map (·.1):=Hk hna.2;rw[e];exact XV.B8c hr)
  rw[← Aep,← Aep,← Bhf,← Iy,← XV.Bex]at this;exact this
def Bjd{P:Program}(id:FuncId)(fn:Func)(S:Fg)(F:S.C1 (A3 S.out.T))(hc:Ez P id)(hs:B8h P id fn S F):Ga P where
 id:=id
 run:=Bf3 P fn S F
 ok:=by intro R o st Bt ts vs K r ho hv h;exact Bbm hc hs ho hv h
 Ben:=B8s P id fn S F
 cok:=by intro R o st t J9 Bt ts vs K r ho B42 hv h;exact B8v hc hs ho B42 hv h
def mkC{P:Program}{Γ:A2 (Ga P)}{own:A2 Nat}{N:Nat}(id:FuncId)(fn:Func)(an:An)(S:Fg)(F:S.C1 (A3 S.out.T))(hm:P.follows .mixedOrders=true)(hf:P.funcs[id]? = some fn)
  (hc:Ez P id) (hn:Nat.ble S.args.length fn.ntmps=true) (Ek:A7z S.names=true) (hks:Aav S=true) (hE:A1k P Γ own N fn an S=F):Ga P :=
 Bjd id fn S F hc (hE▸Az7 hm hf hn Ek hks)
def M0 {P : Program} (Γ : List (Ga P)) (own : List Nat) (N : Nat) (id : FuncId) {fn : Func} (an : An) (S : Fg) (F : S.C1 (Option S.out.T)) (hm : P.follows .mixedOrders = true) (hf : P.funcs[id]? = some fn) (hb : fn.body.isSome = true) (Wk : (fn.name == "runtime.NumGoroutine") = false) (hn : Nat.ble S.args.length fn.ntmps = true) (Ek : A7z S.names = true) (hks : Aav S = true) (hE : A1k P Γ own N fn an S = F) : Ga P := mkC id fn an S F hm hf (.mk' hf hb Wk) hn Ek hks hE
def Bbn (P : Program) (f : FuncId) : Prop := ∃ fn, P.funcs[f]? = some fn ∧ (fn.name == "runtime.NumGoroutine") = false ∧ fn.body = none ∧ Extern.findNext fn = none ∧ Extern.find fn = some Extern.AbiNoEscape.same
def Avf{R:Type}(o:Oper)(st:Ad)(vs:A2 XV)(K:Out→A3 R):A3 R :=
 match o.op with
 |.call c=>match c.args.toList,vs with
  |[x],[v]=>K (B5 st v [(x,v)])
  |_,_=>none
 |_=>none
def Bbo{P:Program}(f:FuncId)(h:Bbn P f):Ga P where
 id:=f
 run:=Avf
 ok:=by
  intro R o st args ts vs K r ho hv hr;unfold Avf at hr;rw[ho]at hr;simp only at hr;split at hr
  ·rename_i x v hx;have ha:args=#[x]:=Bq4.1 hx;subst ha;refine⟨_,hr,A8 ?_ fun X=>Aoy ho h⟩;simp only[C5]at hv;split at hv
   ·rename_i y ys hy hys;simp only[Bks,Bos]at hv;obtain⟨rfl,_⟩:=hv;exact Cg hy
   ·cases hv
  ·cases hr
def Sh.len:Sh→Nat
 |.nil=>0
 |.d _ r=>r.len+1
 |.m _ _ r=>r.len+1
 |.s _ _ r=>r.len+1
 |.z _ _ r=>r.len+1
def Sh.De(b:Nat→Nat):(i:Nat)→(S:Sh)→S.T→A2 XV
 |_,.nil,_=>[]
 |i,.d t r,x=>(t.enc x.1).map .d++r.De b (i+1) x.2
 |i,.m _ _ r,x=>(match x.1 with
  |none=>.d (.v (.map none))
  |some _=>.nm (b i) .m)::r.De b (i+1) x.2
 |i,.s _ _ r,x=>.nm (b i) (.p 0)::r.De b (i+1) x.2
 |i,.z _ _ r,x=>(match x.1 with
  |none=>.d (.v (.pointer none))
  |some _=>.nm (b i) (.p 0))::r.De b (i+1) x.2
def Sh.kids(b:Nat→Nat):(i:Nat)→(S:Sh)→S.T→A2 (Nat×Ac)
 |_,.nil,_=>[]
 |i,.d _ r,x=>r.kids b (i+1) x.2
 |i,.m kt vt r,x=>(match x.1 with
  |none=>[]
  |some y=>[(b i,.map kt vt y.1 y.2)])++r.kids b (i+1) x.2
 |i,.s a ty r,x=>(b i,.abs (b i) a ty x.1)::r.kids b (i+1) x.2
 |i,.z a ty r,x=>(match x.1 with
  |none=>[]
  |some y=>[(b i,.abs (b i) a ty y)])++r.kids b (i+1) x.2
theorem Sh.I0(h:Nat):∀(S:Sh) (i:Nat) (x:S.T),S.cells h i x=S.De (Fo h) i x
 |.nil,i,x=>rfl
 |.d t r,i,x=>by simp only[Sh.cells,Sh.De,Sh.I0 h r]
 |.m kt vt r,i,x=>by simp only[Sh.cells,Sh.De,Sh.I0 h r];cases x.1<;>rfl
 |.s a ty r,i,x=>by simp only[Sh.cells,Sh.De,Sh.I0 h r]
 |.z a ty r,i,x=>by simp only[Sh.cells,Sh.De,Sh.I0 h r];cases x.1<;>rfl
theorem Sh.Nf(h:Nat):∀(S:Sh) (i:Nat) (x:S.T) (p:Nat×Ob),p∈S.C9 h i x↔∃q∈S.kids (Fo h) i x,p=(q.1,q.2.o)∨p∈q.2.C9
 |.nil,i,x,p=>by simp[Sh.C9,Sh.kids]
 |.d t r,i,x,p=>Sh.Nf h r (i+1) x.2 p
 |.m kt vt r,i,x,p=>by
  simp only[Sh.C9,Sh.kids,Bkw,Sh.Nf h r];constructor
  ·rintro (hp|⟨q,hq,h⟩)
   ·cases hx:x.1 with
    |none=>rw[hx]at hp;cases hp
    |some y=>rw[hx]at hp;rw[Bl7]at hp;exact⟨_,.inl (Bl7.2 rfl),.inl hp⟩
   ·exact⟨q,.inr hq,h⟩
  ·rintro ⟨q,hq|hq,h⟩
   ·cases hx:x.1 with
    |none=>rw[hx]at hq;cases hq
    |some y =>
     rw[hx]at hq;rw[Bl7]at hq;subst hq;rcases h with h|h
     ·exact .inl (Bl7.2 h)
     ·cases h
   ·exact .inr ⟨q,hq,h⟩
 |.s a ty r,i,x,p=>by
  simp only[Sh.C9,Sh.kids,Bkw,Bkq,Sh.Nf h r];constructor
  ·rintro ((hp|hp)|⟨q,hq,h⟩)
   ·exact⟨_,.inl rfl,.inl hp⟩
   ·exact⟨_,.inl rfl,.inr hp⟩
   ·exact⟨q,.inr hq,h⟩
  ·rintro ⟨q,rfl|hq,h⟩
   ·exact .inl h
   ·exact .inr ⟨q,hq,h⟩
 |.z a ty r,i,x,p=>by
  simp only[Sh.C9,Sh.kids,Bkw,Sh.Nf h r];constructor
  ·rintro (hp|⟨q,hq,h⟩)
   ·cases hx:x.1 with
    |none=>rw[hx]at hp;cases hp
    |some y =>
     rw[hx]at hp;refine⟨_,.inl (Bl7.2 rfl),?_⟩;rcases Bkq.1 hp with hp|hp
     ·exact .inl hp
     ·exact .inr hp
   ·exact⟨q,.inr hq,h⟩
  ·rintro ⟨q,hq|hq,h⟩
   ·cases hx:x.1 with
    |none=>rw[hx]at hq;cases hq
    |some y =>rw[hx]at hq;rw[Bl7]at hq;subst hq;exact .inl (Bkq.2 h)
   ·exact .inr ⟨q,hq,h⟩
theorem Sh.Uw(b:Nat→Nat):∀(S:Sh) (i:Nat) (x:S.T),S.small i=true→∀q∈S.kids b i x,∃j,i≤j∧j<1000∧q.1=b j∧((∃kt vt es c,q.2 = .map kt vt es c)∨∃a ty y,q.2 = .abs (b j) a ty y∧a.small 0=true)
 |.nil,i,x,hs,q,hq=>by cases hq
 |.d t r,i,x,hs,q,hq=>by
  obtain⟨j,h1,h2⟩:=Sh.Uw b r (i+1) x.2 (Ap hs).2 q hq;exact⟨j,by omega,h2⟩
 |.m kt vt r,i,x,hs,q,hq=>by
  have hi:i<1000:=by simpa[Bmk] using(Ap hs).1
  rcases Bkw.1 hq with hq|hq
  ·cases hx:x.1 with
   |none=>rw[hx]at hq;cases hq
   |some y=>rw[hx]at hq;rw[Bl7]at hq;subst hq;exact⟨i,Bl1 _,hi,rfl,.inl ⟨_,_,_,_,rfl⟩⟩
  ·obtain⟨j,h1,h2⟩:=Sh.Uw b r (i+1) x.2 (Ap hs).2 q hq;exact⟨j,by omega,h2⟩
 |.s a ty r,i,x,hs,q,hq=>by
  have hi:i<1000:=by simpa[Bmk] using(Ap hs).1
  have h2:=Ap (Ap hs).2;rcases Bkq.1 hq with rfl|hq
  ·exact⟨i,Bl1 _,hi,rfl,.inr ⟨_,_,_,rfl,h2.1⟩⟩
  ·obtain⟨j,h3,h4⟩:=Sh.Uw b r (i+1) x.2 h2.2 q hq;exact⟨j,by omega,h4⟩
 |.z a ty r,i,x,hs,q,hq=>by
  have hi:i<1000:=by simpa[Bmk] using(Ap hs).1
  have h2:=Ap (Ap hs).2;rcases Bkw.1 hq with hq|hq
  ·cases hx:x.1 with
   |none=>rw[hx]at hq;cases hq
   |some y=>rw[hx]at hq;rw[Bl7]at hq;subst hq;exact⟨i,Bl1 _,hi,rfl,.inr ⟨_,_,_,rfl,h2.1⟩⟩
  ·obtain⟨j,h3,h4⟩:=Sh.Uw b r (i+1) x.2 h2.2 q hq;exact⟨j,by omega,h4⟩
theorem Cw.lt{a n:Nat}(h:Cw a n):a<n:=by
 induction h with
 |here i hi=>unfold Fo H0;omega
 |deep i hi _ ih=>unfold Fo H0;omega
theorem Cw.two{a b n:Nat}(h:Cw a n)(h':Cw b n):a=b∨Cw a b∨Cw b a:=by
 induction h generalizing b with
 |here i hi =>
  generalize hn:Fo a i=n at h';cases h' with
  |here j hj=>exact .inl (Gx hi hj hn).1
  |deep j hj h2=>have:=(Gx hi hj hn).1;subst this;exact .inr (.inr h2)
 |deep i hi h1 ih =>
  rename_i m;generalize hn:Fo m i=n at h';cases h' with
  |here j hj=>have:=(Gx hi hj hn).1;subst this;exact .inr (.inl h1)
  |deep j hj h2=>have:=(Gx hi hj hn).1;subst this;exact ih h2
theorem Tf{α:Type}{a b:A2 α}(h1:a.Nodup)(h2:b.Nodup)(h3:∀x∈a,x∉b):(a++b).Nodup:=Bpc.2 ⟨h1,h2,fun x hx y hy e=>h3 x hx (e▸hy)⟩
theorem Sh.Arm:∀(S:Sh) (h i:Nat) (x:S.T) (p:Nat×Ob),S.small i=true→p∈S.C9 h i x→∃j,i≤j∧j<1000∧(p.1=Fo h j∨Cw (Fo h j) p.1):=by
 intro S h i x p hs hp;obtain⟨q,hq,hh⟩:=(Sh.Nf h S i x p).1 hp;obtain⟨j,h1,h2,h3,h4⟩:=S.Uw (Fo h) i x hs q hq;refine⟨j,h1,h2,?_⟩;rcases hh with rfl|hh
 ·exact .inl h3
 ·right;rcases h4 with ⟨kt,vt,es,c,e⟩|⟨a,ty,y,e,Ek⟩
  ·rw[e]at hh;cases hh
  ·rw[e]at hh;exact a.Cp _ 0 y p Ek hh
theorem Sh.I1:∀(S:Sh) (h i:Nat) (x:S.T),S.small i=true→((S.C9 h i x).map (·.1)).Nodup
 |.nil,h,i,x,hs=>by simp[Sh.C9]
 |.d t r,h,i,x,hs=>Sh.I1 r h (i+1) x.2 (Ap hs).2
 |.m kt vt r,h,i,x,hs=>by
  have hi:i<1000:=by simpa[Bmk] using(Ap hs).1
  simp only[Sh.C9,Ble];refine Tf (by cases x.1<;>simp) (Sh.I1 r h (i+1) x.2 (Ap hs).2) ?_;intro n hn L0;obtain⟨p,hp,rfl⟩:=Bl2.1 hn;obtain⟨q,hq,e⟩:=Bl2.1 L0;obtain⟨j,h1,h2,h3⟩:=r.Arm h (i+1) x.2 q (Ap hs).2 hq;have hp1:p.1=Fo h i:=by
   cases hx:x.1 with
   |none=>rw[hx]at hp;cases hp
   |some y=>rw[hx]at hp;rw[Bl7]at hp;rw[hp]
  rw[e,hp1]at h3;rcases h3 with h3|h3
  ·have:=(Gx hi h2 h3).2;omega
  ·rcases(Cw.here (k:=h) i hi).two h3 with h5|h5|h5
   ·have:=Q8 h j;have:=h3.lt;unfold Fo at *;omega
   ·have:=h5.lt;have:=h3.lt;unfold Fo at *;omega
   ·have:=h5.lt;unfold Fo H0 at *;omega
 |.s a ty r,h,i,x,hs=>by
  have hi:i<1000:=by simpa[Bmk] using(Ap hs).1
  have h2:=Ap (Ap hs).2;simp only[Sh.C9,Ble,Bkv];refine Tf (Bm1.2 ⟨?_,Sh.I1 a _ 0 x.1 h2.1⟩) (Sh.I1 r h (i+1) x.2 h2.2) ?_
  ·intro hm;obtain⟨q,hq,e⟩:=Bl2.1 hm;have:=(a.Cp _ 0 x.1 q h2.1 hq).lt;omega
  ·intro n hn L0;obtain⟨q,hq,e⟩:=Bl2.1 L0;obtain⟨j,k1,k2,k3⟩:=r.Arm h (i+1) x.2 q h2.2 hq;have hn1:n=Fo h i∨Cw (Fo h i) n:=by
    rcases Bkq.1 hn with rfl|hn
    ·exact .inl rfl
    ·obtain⟨p,hp,rfl⟩:=Bl2.1 hn;exact .inr (a.Cp _ 0 x.1 p h2.1 hp)
   rw[e]at k3;exact Sh.Aaw hi k2 (by omega) hn1 k3
 |.z a ty r,h,i,x,hs=>by
  have hi:i<1000:=by simpa[Bmk] using(Ap hs).1
  have h2:=Ap (Ap hs).2;simp only[Sh.C9,Ble];refine Tf ?_ (Sh.I1 r h (i+1) x.2 h2.2) ?_
  ·cases hx:x.1 with
   |none=>simp
   |some y =>simp only[Bkv];refine Bm1.2 ⟨?_,Sh.I1 a _ 0 y h2.1⟩;intro hm;obtain⟨q,hq,e⟩:=Bl2.1 hm;have:=(a.Cp _ 0 y q h2.1 hq).lt;omega
  ·intro n hn L0;obtain⟨q,hq,e⟩:=Bl2.1 L0;obtain⟨j,k1,k2,k3⟩:=r.Arm h (i+1) x.2 q h2.2 hq;have hn1:n=Fo h i∨Cw (Fo h i) n:=by
    cases hx:x.1 with
    |none=>rw[hx]at hn;cases hn
    |some y =>
     rw[hx]at hn;rcases Bkq.1 hn with rfl|hn
     ·exact .inl rfl
     ·obtain⟨p,hp,rfl⟩:=Bl2.1 hn;exact .inr (a.Cp _ 0 y p h2.1 hp)
   rw[e]at k3;exact Sh.Aaw hi k2 (by omega) hn1 k3
where
 Sh.Aaw {h i j n:Nat} (hi:i<1000) (hj:j<1000) (hne:i≠j) (h1:n=Fo h i∨Cw (Fo h i) n) (h2:n=Fo h j∨Cw (Fo h j) n):False:=by
  have key:∀ {i j:Nat},i<1000→j<1000→i≠j→¬Cw (Fo h i) (Fo h j):=by
   intro i j hi hj hne hu;generalize hm:Fo h j=m at hu;cases hu with
   |here l hl=>have:=(Gx hj hl hm).1;unfold Fo H0 at this;omega
   |deep l hl h3=>have:=(Gx hj hl hm).1;subst this;have:=h3.lt;unfold Fo H0 at this;omega
  rcases h1 with rfl|h1<;>rcases h2 with e|h2
  ·exact hne (Gx hi hj e).2
  ·exact key hj hi (Bnf hne) h2
  ·subst e;exact key hi hj hne h1
  ·rcases h1.two h2 with e|e|e
   ·exact hne (Gx hi hj e).2
   ·exact key hi hj hne e
   ·exact key hj hi (Bnf hne) e
theorem Az8(f:Nat→Nat)(a b:A2 AV):Dj f (a++b)=Dj f a++Dj f b:=by simp[Gb]
theorem B8x(f:Nat→Nat)(l:A2 D):Dj f (l.map .d)=l.map .d:=by
 induction l with
 |nil=>rfl
 |cons x r ih=>simp only[Bkv,Dj,Ds,ih]
theorem Pu(f:Nat→Nat)(cs:A2 AV)(ty:A3 TypeId):E7 f (.cells cs ty) = .cells (Dj f cs) ty:=rfl
def A5t(f:Nat→Nat)(h:Nat):Prop:=∀m j,j<1000→(m=h∨Cw h m)→f (Fo m j)=Fo (f m) j
theorem A5t.sub{f:Nat→Nat}{h j:Nat}(he:A5t f h)(hj:j<1000):A5t f (Fo h j):=by
 intro m l hl hm;refine he m l hl (.inr ?_);rcases hm with rfl|hm
 ·exact .here j hj
 ·exact(Cw.here j hj).trans hm
theorem Sh.Z5:∀(S:Sh) (i:Nat),S.small i=true→i≤1000→i+S.len≤1000
 |.nil,i,h,hi=>by simpa[Sh.len]using hi
 |.d t r,i,h,hi=>by
  have h1:i<1000:=by simpa[Bmk] using(Ap h).1
  have:=Sh.Z5 r (i+1) (Ap h).2 h1;simp only[Sh.len];omega
 |.m _ _ r,i,h,hi=>by
  have h1:i<1000:=by simpa[Bmk] using(Ap h).1
  have:=Sh.Z5 r (i+1) (Ap h).2 h1;simp only[Sh.len];omega
 |.s _ _ r,i,h,hi=>by
  have h1:i<1000:=by simpa[Bmk] using(Ap h).1
  have:=Sh.Z5 r (i+1) (Ap (Ap h).2).2 h1;simp only[Sh.len];omega
 |.z _ _ r,i,h,hi=>by
  have h1:i<1000:=by simpa[Bmk] using(Ap h).1
  have:=Sh.Z5 r (i+1) (Ap (Ap h).2).2 h1;simp only[Sh.len];omega
theorem Sh.P7{f b b':Nat→Nat}:∀(S:Sh) (i:Nat) (x:S.T),(∀j,j<i+S.len→f (b j)=b' j)→Dj f (A9 (S.De b i x))=A9 (S.De b' i x)
 |.nil,i,x,hb=>rfl
 |.d t r,i,x,hb=>by
  have G0:∀j,j<i+1+r.len→f (b j)=b' j:=fun j hj=>hb j (by simp only[Sh.len];omega)
  simp only[Sh.De,Dk,Az8,V9,B8x,Sh.P7 r (i+1) x.2 G0]
 |.m kt vt r,i,x,hb=>by
  have G0:∀j,j<i+1+r.len→f (b j)=b' j:=fun j hj=>hb j (by simp only[Sh.len];omega)
  have hi:f (b i)=b' i:=hb i (by simp only[Sh.len];omega);simp only[Sh.De,A9,Dj,Sh.P7 r (i+1) x.2 G0];cases x.1 with
  |none=>rfl
  |some y=>simp only[XV.a,Ds,hi]
 |.s a ty r,i,x,hb=>by
  have G0:∀j,j<i+1+r.len→f (b j)=b' j:=fun j hj=>hb j (by simp only[Sh.len];omega)
  have hi:f (b i)=b' i:=hb i (by simp only[Sh.len];omega);simp only[Sh.De,A9,Dj,Sh.P7 r (i+1) x.2 G0,XV.a,Ds,hi]
 |.z a ty r,i,x,hb=>by
  have G0:∀j,j<i+1+r.len→f (b j)=b' j:=fun j hj=>hb j (by simp only[Sh.len];omega)
  have hi:f (b i)=b' i:=hb i (by simp only[Sh.len];omega);simp only[Sh.De,A9,Dj,Sh.P7 r (i+1) x.2 G0];cases x.1 with
  |none=>rfl
  |some y=>simp only[XV.a,Ds,hi]
theorem Sh.A4y{f:Nat→Nat}{h:Nat}(S:Sh)(x:S.T)(hs:S.small 0=true)(he:A5t f h):Dj f (A9 (S.cells h 0 x))=A9 (S.cells (f h) 0 x):=by rw[S.I0,S.I0];exact S.P7 0 x fun j hj=>he h j (by have:=S.Z5 0 hs (by omega);omega) (.inl rfl)
theorem Sh.Qo{f:Nat→Nat}:∀(S:Sh) (h i:Nat) (x:S.T),S.small i=true→A5t f h→(S.C9 h i x).map (fun p=>(f p.1,E7 f p.2))=S.C9 (f h) i x
 |.nil,h,i,x,hs,he=>rfl
 |.d t r,h,i,x,hs,he=>Sh.Qo r h (i+1) x.2 (Ap hs).2 he
 |.m kt vt r,h,i,x,hs,he=>by
  have hi:i<1000:=by simpa[Bmk] using(Ap hs).1
  simp only[Sh.C9,Ble,Sh.Qo r h (i+1) x.2 (Ap hs).2 he];cases x.1 with
  |none=>rfl
  |some y=>simp only[Bkv,Bll,he h i hi (.inl rfl),B6o,E7]
 |.s a ty r,h,i,x,hs,he=>by
  have hi:i<1000:=by simpa[Bmk] using(Ap hs).1
  have h2:=Ap (Ap hs).2;have e1:=he h i hi (.inl rfl);have e2:=Sh.Qo a (Fo h i) 0 x.1 h2.1 (he.sub hi);rw[e1]at e2;have e3:=a.A4y x.1 h2.1 (he.sub hi);rw[e1]at e3;simp only[Sh.C9,Ble,Bkv,Sh.Qo r h (i+1) x.2 h2.2 he,e1,e2,Pu,e3]
 |.z a ty r,h,i,x,hs,he=>by
  have hi:i<1000:=by simpa[Bmk] using(Ap hs).1
  have h2:=Ap (Ap hs).2;have e1:=he h i hi (.inl rfl);simp only[Sh.C9,Ble,Sh.Qo r h (i+1) x.2 h2.2 he];cases x.1 with
  |none=>rfl
  |some y =>have e2:=Sh.Qo a (Fo h i) 0 y h2.1 (he.sub hi);rw[e1]at e2;have e3:=a.A4y y h2.1 (he.sub hi);rw[e1]at e3;simp only[Bkv,e1,e2,Pu,e3]
def Ac.re(f:Nat→Nat):Ac→Ac
 |.abs h S ty x=>.abs (f h) S ty x
 |o=>o
def Ac.B8y(n:Nat)(o:Ac):Prop:=(∃kt vt es c,o = .map kt vt es c)∨∃a ty y,o = .abs n a ty y∧a.small 0=true
theorem Ac.Bf4{f:Nat→Nat}{n:Nat}{o:Ac}(hk:o.B8y n)(he:A5t f n):(o.re f).o=E7 f o.o:=by
 rcases hk with ⟨kt,vt,es,c,rfl⟩|⟨a,ty,y,rfl,hs⟩
 ·rfl
 ·simp only[Ac.re,Ac.o,Pu,a.A4y y hs he]
theorem Ac.Arn{f:Nat→Nat}{n:Nat}{o:Ac}(hk:o.B8y n)(he:A5t f n):(o.re f).C9=o.C9.map (fun p=>(f p.1,E7 f p.2)):=by
 rcases hk with ⟨kt,vt,es,c,rfl⟩|⟨a,ty,y,rfl,hs⟩
 ·rfl
 ·simp only[Ac.re,Ac.C9,a.Qo n 0 y hs he]
theorem Sh.Z6{f b b':Nat→Nat}:∀(S:Sh) (i:Nat) (x:S.T),(∀j,j<i+S.len→f (b j)=b' j)→(S.kids b i x).map (fun q=>(f q.1,q.2.re f))=S.kids b' i x
 |.nil,i,x,hb=>rfl
 |.d t r,i,x,hb=>Sh.Z6 r (i+1) x.2 fun j hj=>hb j (by simp only[Sh.len];omega)
 |.m kt vt r,i,x,hb=>by
  have G0:∀j,j<i+1+r.len→f (b j)=b' j:=fun j hj=>hb j (by simp only[Sh.len];omega)
  have hi:f (b i)=b' i:=hb i (by simp only[Sh.len];omega);simp only[Sh.kids,Ble,Sh.Z6 r (i+1) x.2 G0];cases x.1 with
  |none=>rfl
  |some y=>simp only[Bkv,Bll,hi,Ac.re]
 |.s a ty r,i,x,hb=>by
  have G0:∀j,j<i+1+r.len→f (b j)=b' j:=fun j hj=>hb j (by simp only[Sh.len];omega)
  have hi:f (b i)=b' i:=hb i (by simp only[Sh.len];omega);have:=Sh.Z6 r (i+1) x.2 G0;simp only[Sh.kids,Bkv,this];rw[hi,show(Ac.abs (b i) a ty x.1).re f = .abs (f (b i)) a ty x.1 from rfl,hi]
 |.z a ty r,i,x,hb=>by
  have G0:∀j,j<i+1+r.len→f (b j)=b' j:=fun j hj=>hb j (by simp only[Sh.len];omega)
  have hi:f (b i)=b' i:=hb i (by simp only[Sh.len];omega);simp only[Sh.kids,Ble,Sh.Z6 r (i+1) x.2 G0];cases x.1 with
  |none=>rfl
  |some y=>simp only[Bkv,Bll,hi,Ac.re]
theorem Sh.A4z(b:Nat→Nat)(S:Sh)(i:Nat)(x:S.T)(hs:S.small i=true):∀q∈S.kids b i x,q.2.B8y q.1:=by
 intro q hq;obtain⟨j,h1,h2,h3,h4⟩:=S.Uw b i x hs q hq;rcases h4 with h4|⟨a,ty,y,h5,h6⟩
 ·exact .inl h4
 ·exact .inr ⟨a,ty,y,by rw[h3];exact h5,h6⟩
theorem Sh.Z7(b:Nat→Nat):∀(S:Sh) (i:Nat) (x:S.T),∀q∈S.kids b i x,∃j,i≤j∧j<i+S.len∧q.1=b j
 |.nil,i,x,q,hq=>by cases hq
 |.d t r,i,x,q,hq=>by
  obtain⟨j,h1,h2,h3⟩:=Sh.Z7 b r (i+1) x.2 q hq;exact⟨j,by omega,by simp only[Sh.len];omega,h3⟩
 |.m kt vt r,i,x,q,hq=>by
  rcases Bkw.1 hq with hq|hq
  ·cases hx:x.1 with
   |none=>rw[hx]at hq;cases hq
   |some y=>rw[hx]at hq;rw[Bl7]at hq;subst hq;exact⟨i,Bl1 _,by simp only[Sh.len];omega,rfl⟩
  ·obtain⟨j,h1,h2,h3⟩:=Sh.Z7 b r (i+1) x.2 q hq;exact⟨j,by omega,by simp only[Sh.len];omega,h3⟩
 |.s a ty r,i,x,q,hq=>by
  rcases Bkq.1 hq with rfl|hq
  ·exact⟨i,Bl1 _,by simp only[Sh.len];omega,rfl⟩
  ·obtain⟨j,h1,h2,h3⟩:=Sh.Z7 b r (i+1) x.2 q hq;exact⟨j,by omega,by simp only[Sh.len];omega,h3⟩
 |.z a ty r,i,x,q,hq=>by
  rcases Bkw.1 hq with hq|hq
  ·cases hx:x.1 with
   |none=>rw[hx]at hq;cases hq
   |some y=>rw[hx]at hq;rw[Bl7]at hq;subst hq;exact⟨i,Bl1 _,by simp only[Sh.len];omega,rfl⟩
  ·obtain⟨j,h1,h2,h3⟩:=Sh.Z7 b r (i+1) x.2 q hq;exact⟨j,by omega,by simp only[Sh.len];omega,h3⟩
def Aax(τ:A2 (Nat×Nat)):Nat→Nat→Nat
 |0,n=>n
 |fuel+1,n=>match lk n τ with
  |some j=>j
  |none=>cond (Nat.blt n H0) n (Fo (Aax τ fuel ((n-H0)/1000)) ((n-H0) % 1000))
def ren(τ:A2 (Nat×Nat))(n:Nat):Nat:=Aax τ (n+1) n
theorem B8z{n:Nat}(h:H0≤n):(n-H0)/1000<n:=by unfold H0 at *;omega
theorem Z8{a b:Nat}(h:a<b):Nat.blt a b=true:=by rw[Bmk];exact h
theorem A50{a b:Nat}(h:b≤a):Nat.blt a b=false:=by
 cases hb:Nat.blt a b with
 |false=>rfl
 |true=>rw[Bmk]at hb;omega
theorem A80{τ:A2 (Nat×Nat)}{f n j:Nat}(h:lk n τ=some j):Aax τ (f+1) n=j:=by show(match lk n τ with|some j=>j|none=>cond (Nat.blt n H0) n (Fo (Aax τ f ((n-H0)/1000)) ((n-H0) % 1000)))=j;rw[h]
theorem A81{τ:A2 (Nat×Nat)}{f n:Nat}(h:lk n τ=none):Aax τ (f+1) n=cond (Nat.blt n H0) n (Fo (Aax τ f ((n-H0)/1000)) ((n-H0) % 1000)):=by show(match lk n τ with|some j=>j|none=>cond (Nat.blt n H0) n (Fo (Aax τ f ((n-H0)/1000)) ((n-H0) % 1000)))=_;rw[h]
theorem Az9(τ:A2 (Nat×Nat)):∀(n f g:Nat),n<f→n<g→Aax τ f n=Aax τ g n:=by
 intro n;induction n using Nat.strongRecOn with
 |ind n ih =>
  intro f g hf hg;obtain⟨f,rfl⟩:∃f',f=f'+1:=⟨f-1,by omega⟩;obtain⟨g,rfl⟩:∃g',g=g'+1:=⟨g-1,by omega⟩;cases hl:lk n τ with
  |some j=>rw[A80 hl,A80 hl]
  |none =>
   rw[A81 hl,A81 hl];by_cases Bs:n<H0
   ·rw[Z8 Bs,Bkn,Bkn]
   ·have hp:=B8z (Bod Bs);rw[A50 (Bod Bs),Bko,Bko,ih _ hp f g (by omega) (by omega)]
theorem B1w{τ:A2 (Nat×Nat)}{n j:Nat}(h:lk n τ=some j):ren τ n=j:=A80 h
theorem B1x{τ:A2 (Nat×Nat)}{m j:Nat}(hj:j<1000)(h:lk (Fo m j) τ=none):ren τ (Fo m j)=Fo (ren τ m) j:=by
 have e1:(Fo m j-H0)/1000=m:=by unfold Fo;omega
 have e2:(Fo m j-H0) % 1000=j:=by unfold Fo;omega
 have Bs:m<Fo m j:=by unfold Fo H0;omega
 unfold ren;rw[A81 h,A50 (Q8 m j),Bko,e1,e2,Az9 τ m (Fo m j) (m+1) Bs (by omega)]
def Anh(base:Nat→Nat):Nat→Nat→Nat
 |0,n=>n
 |fuel+1,n=>cond (Nat.blt n H0) (base n) (Fo (Anh base fuel ((n-H0)/1000)) ((n-H0) % 1000))
def No(base:Nat→Nat)(n:Nat):Nat:=Anh base (n+1) n
theorem A0o(base:Nat→Nat)(f n:Nat):Anh base (f+1) n=cond (Nat.blt n H0) (base n) (Fo (Anh base f ((n-H0)/1000)) ((n-H0) % 1000)):=rfl
theorem Aza(base:Nat→Nat):∀(n f g:Nat),n<f→n<g→Anh base f n=Anh base g n:=by
 intro n;induction n using Nat.strongRecOn with
 |ind n ih =>
  intro f g hf hg;obtain⟨f,rfl⟩:∃f',f=f'+1:=⟨f-1,by omega⟩;obtain⟨g,rfl⟩:∃g',g=g'+1:=⟨g-1,by omega⟩;rw[A0o,A0o];by_cases Bs:n<H0
  ·rw[Z8 Bs,Bkn,Bkn]
  ·have hp:=B8z (Bod Bs);rw[A50 (Bod Bs),Bko,Bko,ih _ hp f g (by omega) (by omega)]
theorem Vs{base:Nat→Nat}{n:Nat}(hn:n<H0):No base n=base n:=by unfold No;rw[A0o,Z8 hn,Bkn]
theorem B90{base:Nat→Nat}{m j:Nat}(hj:j<1000):No base (Fo m j)=Fo (No base m) j:=by
 have e1:(Fo m j-H0)/1000=m:=by unfold Fo;omega
 have e2:(Fo m j-H0) % 1000=j:=by unfold Fo;omega
 have Bs:m<Fo m j:=by unfold Fo H0;omega
 unfold No;rw[A0o,A50 (Q8 m j),Bko,e1,e2,Aza base m (Fo m j) (m+1) Bs (by omega)]
theorem Cw.map{f:Nat→Nat}{r n:Nat}(h:Cw r n)(he:A5t f r):Cw (f r) (f n):=by
 induction h with
 |here i hi=>rw[he r i hi (.inl rfl)];exact .here i hi
 |deep i hi h1 ih=>rw[he _ i hi (.inr h1)];exact .deep i hi ih
theorem B4i{f:Nat→Nat}{r n n':Nat}(he:A5t f r)(h:Cw r n)(h':Cw r n')(e:f n=f n'):n=n':=by
 induction h generalizing n' with
 |here i hi =>
  cases h' with
  |here j hj =>rw[he r i hi (.inl rfl),he r j hj (.inl rfl)]at e;rw[(Gx hi hj e).2]
  |deep j hj h2 =>rw[he r i hi (.inl rfl),he _ j hj (.inr h2)]at e;have:=(Gx hi hj e).1;have:=(h2.map he).lt;omega
 |deep i hi h1 ih =>
  cases h' with
  |here j hj =>rw[he _ i hi (.inr h1),he r j hj (.inl rfl)]at e;have:=(Gx hi hj e).1;have:=(h1.map he).lt;omega
  |deep j hj h2 =>rw[he _ i hi (.inr h1),he _ j hj (.inr h2)]at e;obtain⟨e1,e2⟩:=Gx hi hj e;rw[ih h2 e1,e2]
theorem Aro{f:Nat→Nat}{R A:Nat→Prop}(hA:∀r,A r→A5t f r)(h1:∀r r',R r→R r'→f r=f r'→r=r')(h2:∀r r',R r→R r'→A r'→¬Cw (f r') (f r)){n n':Nat}
  (hn:R n∨∃r,R r∧A r∧Cw r n) (L0:R n'∨∃r,R r∧A r∧Cw r n') (e:f n=f n'):n=n':=by
 rcases hn with hn|⟨r,a1,a2,a3⟩<;>rcases L0 with L0|⟨r',b1,b2,b3⟩
 ·exact h1 _ _ hn L0 e
 ·have:=b3.map (hA r' b2);rw[← e]at this;exact(h2 _ _ hn b1 b2 this).elim
 ·have:=a3.map (hA r a2);rw[e]at this;exact(h2 _ _ L0 a1 a2 this).elim
 ·have u:=a3.map (hA r a2);have v:=b3.map (hA r' b2);rw[e]at u;rcases u.two v with h|h|h
  ·have:=h1 _ _ a1 b1 h;subst this;exact B4i (hA r a2) a3 b3 e
  ·exact(h2 _ _ b1 a1 a2 h).elim
  ·exact(h2 _ _ a1 b1 b2 h).elim
def A1b{R:Type}(b:Nat→Nat):(i:Nat)→(S:Sh)→S.T→(A2 XV→A2 (Nat×Ac)→R)→R
 |_,.nil,_,K=>K [] []
 |i,.d t r,x,K=>A1b b (i+1) r x.2 fun cs ks=>K ((t.enc x.1).map .d++cs) ks
 |i,.m kt vt r,x,K=>A4 x.1 (A1b b (i+1) r x.2 fun cs ks=>K (.d (.v (.map none))::cs) ks) fun y=>A1b b (i+1) r x.2 fun cs ks=>K (.nm (b i) .m::cs) ((b i,.map kt vt y.1 y.2)::ks)
 |i,.s a ty r,x,K=>A1b b (i+1) r x.2 fun cs ks=>K (.nm (b i) (.p 0)::cs) ((b i,.abs (b i) a ty x.1)::ks)
 |i,.z a ty r,x,K=>A4 x.1 (A1b b (i+1) r x.2 fun cs ks=>K (.d (.v (.pointer none))::cs) ks) fun y=>A1b b (i+1) r x.2 fun cs ks=>K (.nm (b i) (.p 0)::cs) ((b i,.abs (b i) a ty y)::ks)
theorem A35{R:Type}(b:Nat→Nat):∀(S:Sh) (i:Nat) (x:S.T) (K:A2 XV→A2 (Nat×Ac)→R),A1b b i S x K=K (S.De b i x) (S.kids b i x)
 |.nil,i,x,K=>rfl
 |.d t r,i,x,K=>by simp only[A1b,A35 b r,Sh.De,Sh.kids]
 |.m kt vt r,i,x,K=>by
  simp only[A1b,A35 b r,Sh.De,Sh.kids];cases x.1<;>rfl
 |.s a ty r,i,x,K=>by simp only[A1b,A35 b r,Sh.De,Sh.kids]
 |.z a ty r,i,x,K=>by
  simp only[A1b,A35 b r,Sh.De,Sh.kids];cases x.1<;>rfl
def Z9(k i:Nat):Nat:=100*(k+1)+i
def A51{R:Type}:A2 (Nat×Ac)→(A2 (Nat×Ac)→R)→R
 |[],K=>K []
 |p::r,K=>match p.2 with
  |.abs h S ty x=>A1b (Z9 p.1) 0 S x fun cs ks=>A51 r fun os=>K ((p.1,.cells cs ty)::(ks++os))
  |o=>A51 r fun os=>K ((p.1,o)::os)
def Za:A2 (Nat×Ac)→A2 (Nat×Ac)
 |[]=>[]
 |p::r=>(match p.2 with
  |.abs h S ty x=>(p.1,.cells (S.De (Z9 p.1) 0 x) ty)::S.kids (Z9 p.1) 0 x
  |o=>[(p.1,o)])++Za r
theorem A82{R:Type}:∀(l:A2 (Nat×Ac)) (K:A2 (Nat×Ac)→R),A51 l K=K (Za l)
 |[],K=>rfl
 |p::r,K=>by
  obtain⟨k,o⟩:=p;cases o with
  |abs h S ty x=>simp only[A51,Za,A35,A82 r];rfl
  |_=>simp only[A51,Za,A82 r];rfl
def Arp:A2 (Nat×Ac)→Bool
 |[]=>true
 |p::r=>match p.2 with
  |.abs h S _ _=>cond (Nat.beq h p.1) (cond (S.small 0) (cond (Nat.ble S.len 100) (cond (Nat.blt p.1 9) (Arp r) false) false) false) false
  |_=>false
structure Bhg(p:Nat×Ac):Prop where
 ex:∃S ty x,p.2 = .abs p.1 S ty x∧S.small 0=true∧S.len≤100
 lt:p.1<9
theorem Aay:∀ {l:A2 (Nat×Ac)},Arp l=true→∀p∈l,Bhg p
 |[],_,p,hp=>by simp at hp
 |q::r,h,p,hp=>by
  obtain⟨k,o⟩:=q;simp only[Arp]at h;cases o with
  |abs h' S ty x =>
   simp only at h;obtain⟨h1,h⟩:=Ap h;obtain⟨h2,h⟩:=Ap h;obtain⟨h3,h⟩:=Ap h;obtain⟨h4,h⟩:=Ap h;rcases Bkq.1 hp with rfl|hp
   ·exact⟨⟨S,ty,x,by rw[Bkr h1],h2,Bl5 h3⟩,by simpa[Bmk]using h4⟩
   ·exact Aay h p hp
  |_=>cases h
theorem Ade{q:Nat×Ac}:∀ {l:A2 (Nat×Ac)},Arp l=true→q∈Za l→∃k S ty x,(k,Ac.abs k S ty x)∈l∧k<9∧S.small 0=true∧S.len≤100∧(q=(k,.cells (S.De (Z9 k) 0 x) ty)∨q∈S.kids (Z9 k) 0 x)
 |[],_,hq=>by cases hq
 |p::r,h,hq=>by
  obtain⟨⟨S,ty,x,e,h2,h3⟩,h4⟩:=Aay h p Bkz;obtain⟨k,o⟩:=p;simp only at e h4;subst e;have hr:Arp r=true:=by simp only[Arp]at h;exact(Ap (Ap (Ap (Ap h).2).2).2).2
  simp only[Za,Bkw,Bkq]at hq;rcases hq with (hq|hq)|hq
  ·exact⟨k,S,ty,x,Bkz,h4,h2,h3,.inl hq⟩
  ·exact⟨k,S,ty,x,Bkz,h4,h2,h3,.inr hq⟩
  ·obtain⟨k',S',Wl,x',a1,a2⟩:=Ade hr hq;exact⟨k',S',Wl,x',Bkx _ a1,a2⟩
def J0(n:Nat):Nat:=cond (Nat.ble 100 n) (cond (Nat.blt n 1000) (Fo (n/100-1) (n % 100)) n) n
theorem Arq{k j:Nat}(hk:k<9)(hj:j<100):J0 (Z9 k j)=Fo k j:=by unfold J0 Z9;rw[Bm3 (show 100≤100*(k+1)+j by omega),Z8 (show 100*(k+1)+j<1000 by omega),Bkn,Bkn];congr 1<;>omega
theorem Aaz{k:Nat}(hk:k<9):J0 k=k:=by
 unfold J0;cases hb:Nat.ble 100 k with
 |true=>have:=Bl5 hb;omega
 |false=>rfl
theorem Bbp{k j:Nat}(hk:k<9)(hj:j<100):Z9 k j<1000:=by unfold Z9;omega
theorem A0p{n:Nat}(h:n<1000):n<H0:=by unfold H0;omega
theorem Ab0(base:Nat→Nat)(h:Nat):A5t (No base) h:=fun m j hj _=>B90 hj
theorem Aeu{l:A2 (Nat×Ac)}(h:(l.map (·.1)).Nodup){p:Nat×Ac}(hp:p∈l):lk p.1 l=some p.2:=by rw[Atp];exact Be h hp
theorem Alj{a b i j:Nat}(ha:a<H0)(hi:i<1000)(hj:j<1000):¬Cw (Fo b j) (Fo a i):=by
 intro h;generalize hn:Fo a i=n at h;cases h with
 |here l hl=>have:=(Gx hi hl hn).1;have:=Q8 b j;omega
 |deep l hl h2=>have:=(Gx hi hl hn).1;subst this;have:=h2.ge;omega
theorem HR.opened{ns:A2 Nat}{B:Bl}{g:Gh}{w:World}{l:A2 (Nat×Ac)}(ho:Arp l=true)(hn:(l.map (·.1)).Nodup)(ha:O7 l=true)(hr:HR ns B g w ⟨A6 l,[]⟩)(hns:∀k∈ns,k∈l.map (·.1)) :
  HR ns B (g.pull (No J0)) w ⟨A6 (Za l),[]⟩:=by
 let f:=No J0;have fk:∀ {k},k<9→f k=k:=fun {k} hk=>by show No J0 k=k;rw[Vs (A0p (by omega)),Aaz hk]
 have Avg:∀ {k j},k<9→j<100→f (Z9 k j)=Fo k j:=fun {k j} hk hj=>by show No J0 _=_;rw[Vs (A0p (Bbp hk hj)),Arq hk hj]
 have names:∀n o,(A6 (Za l)).lookup n=some o→∃k S ty x,(k,Ac.abs k S ty x)∈l∧k<9∧S.small 0=true∧S.len≤100 ∧
   ((n=k∧o=(Ac.cells (S.De (Z9 k) 0 x) ty).o)∨∃q∈S.kids (Z9 k) 0 x,(n=q.1∧o=q.2.o)∨(n,o)∈q.2.C9):=by
  intro n o h;rcases A26 h with ⟨y,hy,rfl⟩|⟨p,hp,h2⟩
  ·have hm:=Gd hy;obtain⟨k,S,ty,x,a1,a2,a3,a4,a5⟩:=Ade ho hm;refine⟨k,S,ty,x,a1,a2,a3,a4,?_⟩;rcases a5 with a5|a5
   ·cases a5;exact .inl ⟨rfl,rfl⟩
   ·exact .inr ⟨_,a5,.inl ⟨rfl,rfl⟩⟩
  ·obtain⟨k,S,ty,x,a1,a2,a3,a4,a5⟩:=Ade ho hp;refine⟨k,S,ty,x,a1,a2,a3,a4,?_⟩;rcases a5 with a5|a5
   ·rw[a5]at h2;cases h2
   ·exact .inr ⟨_,a5,.inr (Fy h2)⟩
 have inX:∀ {k S ty x},(k,Ac.abs k S ty x)∈l→S.small 0=true→∀p∈S.C9 k 0 x,(A6 l).lookup p.1=some p.2:=by intro k S ty x hm hs p hp;exact Ac1 ha hm (Be (S.I1 k 0 x hs) hp)
 refine hr.pull (f:=f) rfl ?_ ?_ ?_ ?_
 ·intro n o h;obtain⟨k,S,ty,x,a1,a2,a3,a4,a5⟩:=names n o h;rcases a5 with ⟨rfl,rfl⟩|⟨q,hq,a5⟩
  ·rw[fk a2];have:=H7 (Aeu hn a1);show(A6 l).lookup n=_;rw[this];simp only[Ac.o,Pu];rw[S.P7 0 x (b':=Fo n) fun j hj=>Avg a2 (by omega),S.I0]
  ·have e1:(f q.1,q.2.re f)∈S.kids (Fo k) 0 x:=by rw[← S.Z6 0 x (f:=f) (b:=Z9 k) fun j hj=>Avg a2 (by omega)];exact Bl3 (f:=fun q:Nat×Ac=>(f q.1,q.2.re f)) hq
   have hk:=S.A4z (Z9 k) 0 x a3 q hq;rcases a5 with ⟨rfl,rfl⟩|a5
   ·have:=(S.Nf k 0 x (f q.1,(q.2.re f).o)).2 ⟨_,e1,.inl rfl⟩;have:=inX a1 a3 _ this;rw[Ac.Bf4 hk (Ab0 _ _)]at this;exact this
   ·have e2:(f n,E7 f o)∈(q.2.re f).C9:=by rw[Ac.Arn hk (Ab0 _ _)];exact Bl3 (f:=fun p:Nat×Ob=>(f p.1,E7 f p.2)) a5
    exact inX a1 a3 _ ((S.Nf k 0 x _).2 ⟨_,e1,.inr e2⟩)
 ·intro n n' o o' h h' e;let R:Nat→Prop:=fun r=>r<9∨∃k j,k<9∧j<100∧r=Z9 k j
  let A:Nat→Prop:=fun r=>∃k j,k<9∧j<100∧r=Z9 k j
  have root:∀n o,(A6 (Za l)).lookup n=some o→R n∨∃r,R r∧A r∧Cw r n:=by
   intro n o h;obtain⟨k,S,ty,x,a1,a2,a3,a4,a5⟩:=names n o h;rcases a5 with ⟨rfl,_⟩|⟨q,hq,a5⟩
   ·exact .inl (.inl a2)
   ·obtain⟨j,_,hj,hqj⟩:=S.Z7 (Z9 k) 0 x q hq;rcases a5 with ⟨rfl,_⟩|a5
    ·exact .inl (.inr ⟨k,j,a2,by omega,hqj⟩)
    ·refine .inr ⟨q.1,.inr ⟨k,j,a2,by omega,hqj⟩,⟨k,j,a2,by omega,hqj⟩,?_⟩;rcases S.A4z (Z9 k) 0 x a3 q hq with ⟨kt,vt,es,c,e⟩|⟨a,Wl,y,e,hs⟩
     ·rw[e]at a5;cases a5
     ·rw[e]at a5;exact a.Cp _ 0 y _ hs a5
  refine Aro (f:=f) (R:=R) (A:=A) (fun r _=>Ab0 _ r) ?_ ?_ (root n o h) (root n' o' h') e
  ·rintro r r' (h1|⟨k,j,h1,h2,rfl⟩) (h3|⟨k',j',h3,h4,rfl⟩) e
   ·rw[fk h1,fk h3]at e;exact e
   ·rw[fk h1,Avg h3 h4]at e;have:=Q8 k' j';have:=A0p (n:=r) (by omega);omega
   ·rw[fk h3,Avg h1 h2]at e;have:=Q8 k j;have:=A0p (n:=r') (by omega);omega
   ·rw[Avg h1 h2,Avg h3 h4]at e;obtain⟨rfl,rfl⟩:=Gx (by omega) (by omega) e;rfl
  ·rintro r r' hr ha' ⟨k',j',h3,h4,rfl⟩ hu;rw[Avg h3 h4]at hu;rcases hr with h1|⟨k,j,h1,h2,rfl⟩
   ·rw[fk h1]at hu;have:=hu.ge;have:=A0p (n:=r) (by omega);omega
   ·rw[Avg h1 h2]at hu;exact Alj (A0p (by omega)) (by omega) (by omega) hu
 ·intro n o h;obtain⟨k,S,ty,x,a1,a2,a3,a4,a5⟩:=names n o h;have cells:∀(b:Nat→Nat) (S:Sh) (i:Nat) (x:S.T),Eg (A9 (S.De b i x))=true:=by
   have dat:∀l:A2 D,∀m:A2 AV,Eg m=true→Eg (l.map .d++m)=true:=by
    intro l m hm;induction l with
    |nil=>exact hm
    |cons x r ih=>simp only[Bkv,Bmx,Eg,Yz,ih,Bmo]
   intro b S;induction S with
   |nil=>intro i x;rfl
   |d t r ih=>intro i x;simp only[Sh.De,Dk,V9];exact dat _ _ (ih (i+1) x.2)
   |m kt vt r ih=>intro i x;simp only[Sh.De,A9,Eg,ih,Bnd];cases x.1<;>rfl
   |s a ty r _ ih=>intro i x;simp only[Sh.De,A9,Eg,ih,Bnd];rfl
   |z a ty r _ ih=>intro i x;simp only[Sh.De,A9,Eg,ih,Bnd];cases x.1<;>rfl
  have C9:∀(S:Sh) (h i:Nat) (x:S.T) (p:Nat×Ob),p∈S.C9 h i x→U7 p.2=true:=by
   intro S;induction S with
   |nil=>intro h i x p hp;cases hp
   |d t r ih=>intro h i x p hp;exact ih h (i+1) x.2 p hp
   |m kt vt r ih =>
    intro h i x p hp;rcases Bkw.1 hp with hp|hp
    ·cases hx:x.1 with
     |none=>rw[hx]at hp;cases hp
     |some y=>rw[hx]at hp;rw[Bl7]at hp;subst hp;rfl
    ·exact ih h (i+1) x.2 p hp
   |s a ty r ih1 ih2 =>
    intro h i x p hp;rcases Bkw.1 hp with hp|hp
    ·rcases Bkq.1 hp with rfl|hp
     ·show Eg _=true;rw[a.I0];exact cells _ a 0 x.1
     ·exact ih1 _ 0 x.1 p hp
    ·exact ih2 h (i+1) x.2 p hp
   |z a ty r ih1 ih2 =>
    intro h i x p hp;rcases Bkw.1 hp with hp|hp
    ·cases hx:x.1 with
     |none=>rw[hx]at hp;cases hp
     |some y =>
      rw[hx]at hp;rcases Bkq.1 hp with rfl|hp
      ·show Eg _=true;rw[a.I0];exact cells _ a 0 y
      ·exact ih1 _ 0 y p hp
    ·exact ih2 h (i+1) x.2 p hp
  rcases a5 with ⟨_,rfl⟩|⟨q,hq,a5⟩
  ·exact cells _ S 0 x
  ·rcases S.A4z (Z9 k) 0 x a3 q hq with ⟨kt,vt,es,c,e⟩|⟨a,Wl,y,e,hs⟩
   ·rcases a5 with ⟨_,rfl⟩|a5
    ·rw[e];rfl
    ·rw[e]at a5;cases a5
   ·rcases a5 with ⟨_,rfl⟩|a5
    ·rw[e];show Eg _=true;rw[a.I0];exact cells _ a 0 y
    ·rw[e]at a5;exact C9 a _ 0 y _ a5
 ·intro k hk;obtain⟨p,hp,rfl⟩:=Bl2.1 (hns k hk);obtain⟨⟨S,ty,x,e,h2,h3⟩,h4⟩:=Aay ho p hp;refine⟨fk h4,hk,?_⟩;show((A6 (Za l)).lookup p.1).isSome;have:∃y,lk p.1 (Za l)=some y:=by
   have hm:∀l:A2 (Nat×Ac),p∈l→(p.1,Ac.cells (S.De (Z9 p.1) 0 x) ty)∈Za l:=by
    intro l;induction l with
    |nil=>intro h;cases h
    |cons q r ih =>
     intro h;simp only[Za,Bkw];rcases Bkq.1 h with rfl|h
     ·left;rw[e];exact Bkz
     ·exact .inr (ih h)
   have h5:=hm l hp;have:∀l:A2 (Nat×Ac),(∃y,(p.1,y)∈l)→∃y,lk p.1 l=some y:=by
    intro l;induction l with
    |nil=>rintro ⟨y,h⟩;cases h
    |cons q r ih =>
     rintro ⟨y,h⟩;rw[G1];cases hb:Nat.beq q.1 p.1 with
     |true=>exact⟨_,rfl⟩
     |false =>
      rcases Bkq.1 h with h|h
      ·rw[← h]at hb;simp at hb
      ·exact ih ⟨y,h⟩
   exact this _ ⟨_,h5⟩
  obtain⟨y,hy⟩:=this;rw[H7 hy];rfl
def Ani(a:Sh)(ty:A3 TypeId)(j:Nat)(objs:A2 (Nat×Ac)):Option a.T :=
 match lk j objs with
 |some (.abs h a' Wl y)=>if e:a'.Ji a=true then cond (Nat.beq h j) (cond (Wl==ty) (some (Sh.Au e▸y)) none) none else none
 |_=>none
theorem Ab1{a:Sh}{ty:A3 TypeId}{j:Nat}{objs:A2 (Nat×Ac)}{y:a.T}(h:Ani a ty j objs=some y):lk j objs=some (.abs j a ty y):=by
 unfold Ani at h;split at h
 ·rename_i h' a' Wl z hl;split at h
  ·rename_i e;have e':=Sh.Au e;cases hb:Nat.beq h' j with
   |false=>simp[hb]at h
   |true =>
    cases ht:Wl==ty with
    |false=>simp[hb,ht]at h
    |true =>subst e';simp only[hb,ht,Bkn,Bks]at h;subst h;rw[hl,Bkr hb,eq_of_beq ht]
  ·cases h
 ·cases h
def mapOf(kt vt:Ty)(j:Nat)(objs:A2 (Nat×Ac)):A3 (A2 (Nat×kt.T×vt.T)×Nat) :=
 match lk j objs with
 |some o=>(OK.map kt vt).dec o
 |none=>none
theorem B91{kt vt:Ty}{j:Nat}{objs:A2 (Nat×Ac)}{y:A2 (Nat×kt.T×vt.T)×Nat}(h:mapOf kt vt j objs=some y):lk j objs=some (.map kt vt y.1 y.2):=by
 unfold mapOf at h;split at h
 ·rename_i o hl;rw[hl,OK.Aqz h];rfl
 ·cases h
def Kr(objs:A2 (Nat×Ac)):(i:Nat)→(S:Sh)→A2 XV→A3 (S.T×A2 (Nat×Nat))
 |_,.nil,cs=>match cs with
  |[]=>some ((),[])
  |_=>none
 |i,.d t r,cs=>match Ai3 (cs.take t.size) with
  |some ds=>match t.dec ds with
   |some (x,[])=>match Kr objs (i+1) r (cs.drop t.size) with
    |some (y,τ)=>some ((x,y),τ)
    |none=>none
   |_=>none
  |none=>none
 |i,.m kt vt r,cs=>match cs with
  |c::cs=>match Kr objs (i+1) r cs with
   |some (y,τ)=>match c with
    |.d (.v (.map none))=>some ((none,y),τ)
    |.nm j .m=>match mapOf kt vt j objs with
     |some z=>some ((some z,y),(i,j)::τ)
     |none=>none
    |_=>none
   |none=>none
  |[]=>none
 |i,.s a ty r,cs=>match cs with
  |c::cs=>match Kr objs (i+1) r cs with
   |some (y,τ)=>match c with
    |.nm j (.p 0)=>match Ani a ty j objs with
     |some z=>some ((z,y),(i,j)::τ)
     |none=>none
    |_=>none
   |none=>none
  |[]=>none
 |i,.z a ty r,cs=>match cs with
  |c::cs=>match Kr objs (i+1) r cs with
   |some (y,τ)=>match c with
    |.d (.v (.pointer none))=>some ((none,y),τ)
    |.nm j (.p 0)=>match Ani a ty j objs with
     |some z=>some ((some z,y),(i,j)::τ)
     |none=>none
    |_=>none
   |none=>none
  |[]=>none
def CLe(cs ds:A2 XV):Prop:=cs.length=ds.length∧∀(i:Nat) (x y:XV),cs[i]? = some x→ds[i]? = some y→Wn x.a y.a
theorem CLe.nil:CLe [] []:=⟨rfl,by simp⟩
theorem CLe.cons{x y:XV}{cs ds:A2 XV}(h:Wn x.a y.a)(h':CLe cs ds):CLe (x::cs) (y::ds):=by
 refine⟨by simp[h'.1],fun i a b ha hb=>?_⟩;cases i with
 |zero=>simp at ha hb;subst ha;subst hb;exact h
 |succ i=>exact h'.2 i a b (by simpa using ha) (by simpa using hb)
theorem CLe.app{a b c d:A2 XV}(h:CLe a b)(h':CLe c d):CLe (a++c) (b++d):=by
 refine⟨by simp[h.1,h'.1],fun i x y hx hy=>?_⟩;rw[Bm2]at hx hy;rw[h.1]at hx;split at hx
 ·rename_i Bs;rw[Blv Bs]at hy;exact h.2 i x y hx hy
 ·rename_i Bs;rw[Blj Bs]at hy;exact h'.2 _ x y hx hy
theorem Bbq{t:Ty}{cs:A2 XV}{ds:A2 XD}{x:t.T}(h:Ai3 cs=some ds)(h':t.dec ds=some (x,[])):CLe cs ((t.enc x).map .d):=by
 obtain⟨h1,h2⟩:=Acx h;obtain⟨ds',e1,e2⟩:=t.V8 h';simp only[D6,Blt]at e1;have hl:ds.length=(t.enc x).length:=by
  have a1:(D6 ds).length=ds.length:=Gn ds;have a2:(t.ds x).length=(t.enc x).length:=by rw[← Ty.M8,Ha,Blb]
  rw[e1]at a1;have:=e2.length;omega
 refine⟨by rw[h1,hl,Blb],fun i u v hu hv=>?_⟩;rw[Bkt,Bky]at hv;obtain⟨d,hd,rfl⟩:=hv;have Bs:i<ds.length:=by rw[hl];exact(Bku.1 hd).1
 have a1:=h2 i u ds[i] hu (by simp[Bs]);intro g w v hr;have a2:=a1 g w v hr;have a3:DLe (ds[i]).d d.d:=by
  have b1:(t.ds x)[i]? = some d.d:=by rw[← Ty.M8,Ha,Bkt,hd];rfl
  obtain⟨z,b2,b3⟩:=e2.get b1;rw[← e1,Ha,Bkt]at b2;simp only[Bs,Bl8,Blq,Bks]at b2;rw[b2];exact b3
 exact Wn.d a3 g w v a2
theorem Rp{objs:A2 (Nat×Ac)}:∀(S:Sh) (i:Nat) (cs:A2 XV) (x:S.T) (τ:A2 (Nat×Nat)),Kr objs i S cs=some (x,τ)→∀b:Nat→Nat,(∀p∈τ,b p.1=p.2) →
  CLe cs (S.De b i x)∧∀q∈S.kids b i x,lk q.1 objs=some q.2∧∃p∈τ,q.1=b p.1∧i≤p.1∧p.1<i+S.len
 |.nil,i,cs,x,τ,h,b,hb=>by
  unfold Kr at h;split at h
  ·exact⟨.nil,fun q hq=>by cases hq⟩
  ·cases h
 |.d t r,i,cs,x,τ,h,b,hb=>by
  unfold Kr at h;split at h
  ·rename_i ds hds;split at h
   ·rename_i x0 Bec;split at h
    ·rename_i y τ' hr;simp only[Bks,Bld]at h;obtain⟨rfl,rfl⟩:=h;obtain⟨h1,h2⟩:=Rp r (i+1) _ y τ' hr b hb;refine⟨?_,fun q hq=>?_⟩
     ·rw[← Bmt t.size cs];exact(Bbq hds Bec).app h1
     ·obtain⟨a1,p,a2,a3,a4,a5⟩:=h2 q hq;exact⟨a1,p,a2,a3,by omega,by simp only[Sh.len];omega⟩
    ·cases h
   ·cases h
  ·cases h
 |.m kt vt r,i,cs,x,τ,h,b,hb=>by
  unfold Kr at h;split at h
  ·rename_i c cs;split at h
   ·rename_i y τ' hr;split at h
    ·simp only[Bks,Bld]at h;obtain⟨rfl,rfl⟩:=h;obtain⟨h1,h2⟩:=Rp r (i+1) _ y τ' hr b hb;refine⟨.cons (.refl _) h1,fun q hq=>?_⟩;obtain⟨a1,p,a2,a3,a4,a5⟩:=h2 q hq;exact⟨a1,p,a2,a3,by omega,by simp only[Sh.len];omega⟩
    ·rename_i j;split at h
     ·rename_i z hz;simp only[Bks,Bld]at h;obtain⟨rfl,rfl⟩:=h;obtain⟨h1,h2⟩:=Rp r (i+1) _ y τ' hr b fun p hp=>hb p (Bkx _ hp)
      have hj:b i=j:=hb (i,j) Bkz;refine⟨.cons (by rw[hj];exact .refl _) h1,fun q hq=>?_⟩;rcases Bkw.1 hq with hq|hq
      ·rw[Bl7]at hq;subst hq;refine⟨by rw[hj];exact B91 hz,(i,j),Bkz,rfl,Bl1 _,by simp only[Sh.len];omega⟩
      ·obtain⟨a1,p,a2,a3,a4,a5⟩:=h2 q hq;exact⟨a1,p,Bkx _ a2,a3,by omega,by simp only[Sh.len];omega⟩
     ·cases h
    ·cases h
   ·cases h
  ·cases h
 |.s a ty r,i,cs,x,τ,h,b,hb=>by
  unfold Kr at h;split at h
  ·rename_i c cs;split at h
   ·rename_i y τ' hr;split at h
    ·rename_i j;split at h
     ·rename_i z hz;simp only[Bks,Bld]at h;obtain⟨rfl,rfl⟩:=h;obtain⟨h1,h2⟩:=Rp r (i+1) _ y τ' hr b fun p hp=>hb p (Bkx _ hp)
      have hj:b i=j:=hb (i,j) Bkz;refine⟨.cons (by rw[hj];exact .refl _) h1,fun q hq=>?_⟩;rcases Bkq.1 hq with rfl|hq
      ·refine⟨by rw[hj];exact Ab1 hz,(i,j),Bkz,rfl,Bl1 _,by simp only[Sh.len];omega⟩
      ·obtain⟨a1,p,a2,a3,a4,a5⟩:=h2 q hq;exact⟨a1,p,Bkx _ a2,a3,by omega,by simp only[Sh.len];omega⟩
     ·cases h
    ·cases h
   ·cases h
  ·cases h
 |.z a ty r,i,cs,x,τ,h,b,hb=>by
  unfold Kr at h;split at h
  ·rename_i c cs;split at h
   ·rename_i y τ' hr;split at h
    ·simp only[Bks,Bld]at h;obtain⟨rfl,rfl⟩:=h;obtain⟨h1,h2⟩:=Rp r (i+1) _ y τ' hr b hb;refine⟨.cons (.refl _) h1,fun q hq=>?_⟩;obtain⟨a1,p,a2,a3,a4,a5⟩:=h2 q hq;exact⟨a1,p,a2,a3,by omega,by simp only[Sh.len];omega⟩
    ·rename_i j;split at h
     ·rename_i z hz;simp only[Bks,Bld]at h;obtain⟨rfl,rfl⟩:=h;obtain⟨h1,h2⟩:=Rp r (i+1) _ y τ' hr b fun p hp=>hb p (Bkx _ hp)
      have hj:b i=j:=hb (i,j) Bkz;refine⟨.cons (by rw[hj];exact .refl _) h1,fun q hq=>?_⟩;rcases Bkw.1 hq with hq|hq
      ·rw[Bl7]at hq;subst hq;refine⟨by rw[hj];exact Ab1 hz,(i,j),Bkz,rfl,Bl1 _,by simp only[Sh.len];omega⟩
      ·obtain⟨a1,p,a2,a3,a4,a5⟩:=h2 q hq;exact⟨a1,p,Bkx _ a2,a3,by omega,by simp only[Sh.len];omega⟩
     ·cases h
    ·cases h
   ·cases h
  ·cases h
theorem Mg{objs:A2 (Nat×Ac)}{b:Nat→Nat}:∀ {S:Sh} {i:Nat} {cs:A2 XV} {x:S.T} {τ:A2 (Nat×Nat)},Kr objs i S cs=some (x,τ)→∀q∈S.kids b i x,∃p∈τ,q.1=b p.1
 |.nil,i,cs,x,τ,h,q,hq=>by cases hq
 |.d t r,i,cs,x,τ,h,q,hq=>by
  unfold Kr at h;split at h
  ·split at h
   ·split at h
    ·rename_i y τ' hr;simp only[Bks,Bld]at h;obtain⟨rfl,rfl⟩:=h;exact Mg hr q hq
    ·cases h
   ·cases h
  ·cases h
 |.m kt vt r,i,cs,x,τ,h,q,hq=>by
  unfold Kr at h;split at h
  ·split at h
   ·rename_i y τ' hr;split at h
    ·simp only[Bks,Bld]at h;obtain⟨rfl,rfl⟩:=h;exact Mg hr q hq
    ·split at h
     ·simp only[Bks,Bld]at h;obtain⟨rfl,rfl⟩:=h;rcases Bkw.1 hq with hq|hq
      ·rw[Bl7]at hq;subst hq;exact⟨_,Bkz,rfl⟩
      ·obtain⟨p,hp,e⟩:=Mg hr q hq;exact⟨p,Bkx _ hp,e⟩
     ·cases h
    ·cases h
   ·cases h
  ·cases h
 |.s a ty r,i,cs,x,τ,h,q,hq=>by
  unfold Kr at h;split at h
  ·split at h
   ·rename_i y τ' hr;split at h
    ·split at h
     ·simp only[Bks,Bld]at h;obtain⟨rfl,rfl⟩:=h;rcases Bkq.1 hq with rfl|hq
      ·exact⟨_,Bkz,rfl⟩
      ·obtain⟨p,hp,e⟩:=Mg hr q hq;exact⟨p,Bkx _ hp,e⟩
     ·cases h
    ·cases h
   ·cases h
  ·cases h
 |.z a ty r,i,cs,x,τ,h,q,hq=>by
  unfold Kr at h;split at h
  ·split at h
   ·rename_i y τ' hr;split at h
    ·simp only[Bks,Bld]at h;obtain⟨rfl,rfl⟩:=h;exact Mg hr q hq
    ·split at h
     ·simp only[Bks,Bld]at h;obtain⟨rfl,rfl⟩:=h;rcases Bkw.1 hq with hq|hq
      ·rw[Bl7]at hq;subst hq;exact⟨_,Bkz,rfl⟩
      ·obtain⟨p,hp,e⟩:=Mg hr q hq;exact⟨p,Bkx _ hp,e⟩
     ·cases h
    ·cases h
   ·cases h
  ·cases h
inductive AR where
 |d (t:Ty)
 |n (m:Nat) (S:Sh) (ty:Option TypeId)
 |z (m:Nat) (S:Sh) (ty:Option TypeId)
@[reducible] def Azb:A2 (Nat×Sh×A3 TypeId)→Type
 |[]=>Unit
 |p::r=>p.2.1.T×Azb r
@[reducible] def AR.T:AR→Type
 |.d t=>t.T
 |.n _ S _=>S.T
 |.z _ S _=>A3 S.T
@[reducible] def Afl:A2 AR→Type
 |[]=>Unit
 |p::r=>p.T×Afl r
def B1y(n:Nat):A2 (Nat×Nat)→A2 (Nat×Nat)
 |[]=>[]
 |p::r=>(Fo n p.1,p.2)::B1y n r
theorem Adf{n:Nat}:∀ {τ:A2 (Nat×Nat)} {p:Nat×Nat},p∈τ→(Fo n p.1,p.2)∈B1y n τ
 |q::r,p,h=>by
  rcases Bkq.1 h with rfl|h
  ·exact Bkz
  ·exact Bkx _ (Adf h)
def Ait(objs:A2 (Nat×Ac)):(L:A2 (Nat×Sh×A3 TypeId))→A3 (Azb L×A2 (Nat×Nat))
 |[]=>some ((),[])
 |p::r=>match lk p.1 objs with
  |some (.cells cs ty)=>cond (ty==p.2.2) (match Kr objs 0 p.2.1 cs,Ait objs r with
   |some (x,τ),some (xs,σ)=>some ((x,xs),(p.1,p.1)::(B1y p.1 τ++σ))
   |_,_=>none) none
  |_=>none
def B1z(S:Sh)(ty:A3 TypeId)(m j:Nat)(objs:A2 (Nat×Ac)):A3 (S.T×A2 (Nat×Nat)×A2 Nat) :=
 match lk j objs with
 |some (.cells cs Wl)=>cond (Wl==ty) (match Kr objs 0 S cs with
  |some (x,τ)=>some (x,(m,j)::B1y m τ,[])
  |none=>none) none
 |_=>match Ani S ty j objs with
  |some x=>some (x,[(m,j)],[m])
  |none=>none
def Y9(objs:A2 (Nat×Ac)):(L:A2 AR)→A2 XV→A3 (Afl L×A2 (Nat×Nat)×A2 Nat)
 |[],vs=>match vs with
  |[]=>some ((),[],[])
  |_=>none
 |.d t::r,vs=>match vs with
  |v::vs=>match Rf t v,Y9 objs r vs with
   |some x,some (xs,σ,By)=>some ((x,xs),σ,By)
   |_,_=>none
  |[]=>none
 |.n m S ty::r,vs=>match vs with
  |v::vs=>match v,Y9 objs r vs with
   |.nm j (.p 0),some (xs,σ,By)=>match B1z S ty m j objs with
    |some (x,τ,bs)=>some ((x,xs),τ++σ,bs++By)
    |none=>none
   |_,_=>none
  |[]=>none
 |.z m S ty::r,vs=>match vs with
  |v::vs=>match v,Y9 objs r vs with
   |.nm j (.p 0),some (xs,σ,By)=>match B1z S ty m j objs with
    |some (x,τ,bs)=>some ((some x,xs),τ++σ,bs++By)
    |none=>none
   |.d (.v (.pointer none)),some (xs,σ,By)=>some ((none,xs),σ,By)
   |_,_=>none
  |[]=>none
def Aev:(L:A2 (Nat×Sh×A3 TypeId))→Azb L→A2 (Nat×Ac)
 |[],_=>[]
 |p::r,x=>(p.1,.abs p.1 p.2.1 p.2.2 x.1)::Aev r x.2
def Tv:(L:A2 AR)→Afl L→A2 (Nat×Ac)
 |[],_=>[]
 |.d _::r,x=>Tv r x.2
 |.n m S ty::r,x=>(m,.abs m S ty x.1)::Tv r x.2
 |.z m S ty::r,x=>(match x.1 with
  |some y=>[(m,.abs m S ty y)]
  |none=>[])++Tv r x.2
def Arr:(L:A2 AR)→Afl L→A2 XV
 |[],_=>[]
 |.d t::r,x=>.d (t.xv x.1)::Arr r x.2
 |.n m _ _::r,x=>.nm m (.p 0)::Arr r x.2
 |.z m _ _::r,x=>(match x.1 with
  |some _=>.nm m (.p 0)
  |none=>.d (.v (.pointer none)))::Arr r x.2
inductive Src(objs:List (Nat×Ac))(Ub:List (Nat×Nat))(By:List Nat):Nat×Ac→Prop
 |raw (n j:Nat) (S:Sh) (ty:Option TypeId) (x:S.T) (cs:List XV) (τ:List (Nat×Nat)):(n,j)∈Ub→lk j objs=some (.cells cs ty)→Kr objs 0 S cs=some (x,τ)→(∀p∈τ,(Fo n p.1,p.2)∈Ub)→Src objs Ub By (n,.abs n S ty x)
 |abs (n j:Nat) (S:Sh) (ty:Option TypeId) (x:S.T):(n,j)∈Ub→lk j objs=some (.abs j S ty x)→n∈By→Src objs Ub By (n,.abs n S ty x)
theorem Src.mono{objs:A2 (Nat×Ac)}{T T':A2 (Nat×Nat)}{By as':A2 Nat}{q:Nat×Ac}(h:Src objs T By q)(h1:∀p∈T,p∈T')(h2:∀n∈By,n∈as'):Src objs T' as' q:=by
 cases h with
 |raw n j S ty x cs τ a1 a2 a3 a4=>exact .raw n j S ty x cs τ (h1 _ a1) a2 a3 fun p hp=>h1 _ (a4 p hp)
 |abs n j S ty x a1 a2 a3=>exact .abs n j S ty x (h1 _ a1) a2 (h2 _ a3)
theorem Anj{objs:A2 (Nat×Ac)}:∀(L:A2 (Nat×Sh×A3 TypeId)) (x:Azb L) (σ:A2 (Nat×Nat)),Ait objs L=some (x,σ)→(∀q∈Aev L x,Src objs σ [] q)∧∀p∈L,(p.1,p.1)∈σ
 |[],x,σ,h=>⟨fun q hq=>(by cases hq),by simp⟩
 |p::r,x,σ,h=>by
  unfold Ait at h;split at h
  ·rename_i cs ty hl;cases ht:ty==p.2.2 with
   |false=>simp[ht]at h
   |true =>
    simp only[ht,Bkn]at h;split at h
    ·rename_i x0 τ xs σ' hc hr;simp only[Bks,Bld]at h;obtain⟨rfl,rfl⟩:=h;obtain⟨h1,h2⟩:=Anj r xs σ' hr;have e:=eq_of_beq ht;refine⟨fun q hq=>?_,fun q hq=>?_⟩
     ·rcases Bkq.1 hq with rfl|hq
      ·exact .raw p.1 p.1 p.2.1 p.2.2 x0 cs τ Bkz (by rw[hl,e]) hc fun q hq=>Bkx _ (Bla _ (Adf hq))
      ·exact(h1 q hq).mono (fun p hp=>Bkx _ (Bl9 _ hp)) (by simp)
     ·rcases Bkq.1 hq with rfl|hq
      ·exact Bkz
      ·exact Bkx _ (Bl9 _ (h2 q hq))
    ·cases h
  ·cases h
theorem Avh{objs:A2 (Nat×Ac)}{S:Sh}{ty:A3 TypeId}{m j:Nat}{x:S.T}{τ:A2 (Nat×Nat)}{bs:A2 Nat}(h:B1z S ty m j objs=some (x,τ,bs)):Src objs τ bs (m,.abs m S ty x)∧(m,j)∈τ:=by
 unfold B1z at h;split at h
 ·rename_i cs Wl hl;cases ht:Wl==ty with
  |false=>simp[ht]at h
  |true =>
   simp only[ht,Bkn]at h;split at h
   ·rename_i x0 τ' hc;simp only[Bks,Bld]at h;obtain⟨rfl,rfl,rfl⟩:=h;exact⟨.raw m j S ty x0 cs τ' Bkz (by rw[hl,eq_of_beq ht]) hc fun q hq=>Bkx _ (Adf hq),Bkz⟩
   ·cases h
 ·split at h
  ·rename_i x0 hk;simp only[Bks,Bld]at h;obtain⟨rfl,rfl,rfl⟩:=h;exact⟨.abs m j S ty x0 Bkz (Ab1 hk) Bkz,Bkz⟩
  ·cases h
inductive A83(Ub:List (Nat×Nat)):List XV→List XV→Prop
 |nil:A83 Ub [] []
 |d {v:XV} {y:XD} {vs us:List XV}:Wn v.a (.d y.d)→A83 Ub vs us→A83 Ub (v::vs) (.d y::us)
 |p {j m:Nat} {vs us:List XV}:(m,j)∈Ub→A83 Ub vs us→A83 Ub (.nm j (.p 0)::vs) (.nm m (.p 0)::us)
theorem A83.mono{T T':A2 (Nat×Nat)}(hT:∀p∈T,p∈T'){vs us:A2 XV}(h:A83 T vs us):A83 T' vs us:=by
 induction h with
 |nil=>exact .nil
 |d a _ ih=>exact .d a ih
 |p a _ ih=>exact .p (hT _ a) ih
theorem Zb{objs:A2 (Nat×Ac)}:∀(L:A2 AR) (vs:A2 XV) (x:Afl L) (σ:A2 (Nat×Nat)) (By:A2 Nat),Y9 objs L vs=some (x,σ,By)→(∀q∈Tv L x,Src objs σ By q)∧A83 σ vs (Arr L x)
 |[],vs,x,σ,By,h=>by
  unfold Y9 at h;split at h
  ·exact⟨fun q hq=>(by cases hq),.nil⟩
  ·cases h
 |.d t::r,vs,x,σ,By,h=>by
  unfold Y9 at h;split at h
  ·rename_i v vs;split at h
   ·rename_i y xs σ' as' hd hr;simp only[Bks,Bld]at h;obtain⟨rfl,rfl,rfl⟩:=h;obtain⟨h1,h2⟩:=Zb r vs xs σ' as' hr;refine⟨h1,.d ?_ h2⟩;exact Z1 hd
   ·cases h
  ·cases h
 |.n m S ty::r,vs,x,σ,By,h=>by
  unfold Y9 at h;split at h
  ·rename_i v vs;split at h
   ·rename_i j xs σ' as' hr;split at h
    ·rename_i y τ bs hn;simp only[Bks,Bld]at h;obtain⟨rfl,rfl,rfl⟩:=h;obtain⟨h1,h2⟩:=Zb r vs xs σ' as' hr;obtain⟨a1,a2⟩:=Avh hn;refine⟨fun q hq=>?_,.p (Bla _ a2) (h2.mono fun p hp=>Bl9 _ hp)⟩;rcases Bkq.1 hq with rfl|hq
     ·exact a1.mono (fun p hp=>Bla _ hp) fun n hn=>Bla _ hn
     ·exact(h1 q hq).mono (fun p hp=>Bl9 _ hp) fun n hn=>Bl9 _ hn
    ·cases h
   ·cases h
  ·cases h
 |.z m S ty::r,vs,x,σ,By,h=>by
  unfold Y9 at h;split at h
  ·rename_i v vs;split at h
   ·rename_i j xs σ' as' hr;split at h
    ·rename_i y τ bs hn;simp only[Bks,Bld]at h;obtain⟨rfl,rfl,rfl⟩:=h;obtain⟨h1,h2⟩:=Zb r vs xs σ' as' hr;obtain⟨a1,a2⟩:=Avh hn;refine⟨fun q hq=>?_,.p (Bla _ a2) (h2.mono fun p hp=>Bl9 _ hp)⟩;simp only[Tv,Bkw,Bl7]at hq;rcases hq with rfl|hq
     ·exact a1.mono (fun p hp=>Bla _ hp) fun n hn=>Bla _ hn
     ·exact(h1 q hq).mono (fun p hp=>Bl9 _ hp) fun n hn=>Bl9 _ hn
    ·cases h
   ·rename_i xs σ' as' hr;simp only[Bks,Bld]at h;obtain⟨rfl,rfl,rfl⟩:=h;obtain⟨h1,h2⟩:=Zb r vs xs σ' as' hr;refine⟨fun q hq=>?_,.d (.refl _) h2⟩;simp only[Tv,Bm0]at hq;exact h1 q hq
   ·cases h
  ·cases h
theorem HR.Bhh{nm ns:A2 Nat}{B:Bl}{g:Gh}{w:World}{X Y:A7}(hr:HR nm B g w X){f:Nat→Nat}(hl:Y.live=[])(Up:∀k o,Y.objs.lookup k=some o→∃o0,X.objs.lookup (f k)=some o0∧Afj o0 (E7 f o))
  (Aol:∀k k' o o',Y.objs.lookup k=some o→Y.objs.lookup k'=some o'→f k=f k'→k=k') (hnt:∀k o,Y.objs.lookup k=some o→U7 o=true)
  (hns:∀k∈ns,f k=k∧k∈nm∧(Y.objs.lookup k).isSome):HR ns B (g.pull f) w Y:=by
 refine⟨?_,hr.Ik,hr.base,hr.io,hr.le,hr.frame,?_,?_,?_,?_,?_,by simp[Gh.pull],by simp[Gh.pull],by simp[Gh.pull],by simp[Gh.pull],.off fun _=>rfl⟩
 ·intro k hk;obtain⟨h1,h2,h3⟩:=hns k hk;exact⟨by show g.ρ (f k)=_;rw[h1];exact(hr.Dc k h2).1,h3⟩
 ·intro k o hk;obtain⟨o0,h1,h2⟩:=Up k o hk;exact C3.pull (g:=g) (gc:=g.pull f) (f:=f) rfl (fun _=>rfl) (hnt k o hk) (Ail (hr.objs _ _ h1) h2)
 ·intro k o hk;obtain⟨o0,h1,_⟩:=Up k o hk;exact hr.Fx _ _ h1
 ·intro k k' o o' hk Lk he;obtain⟨o0,h1,_⟩:=Up k o hk;obtain⟨o1,h2,_⟩:=Up k' o' Lk;exact Aol k k' o o' hk Lk (hr.C0 _ _ _ _ h1 h2 he)
 ·intro k o hk;obtain⟨o0,h1,_⟩:=Up k o hk;exact hr.Ce _ _ h1
 ·intro n;rw[hl];simp[Gh.pull]
theorem S8(b:Nat→Nat):∀(S:Sh) (i:Nat) (x:S.T),Eg (A9 (S.De b i x))=true:=by
 have dat:∀l:A2 D,∀m:A2 AV,Eg m=true→Eg (l.map .d++m)=true:=by
  intro l m hm;induction l with
  |nil=>exact hm
  |cons x r ih=>simp only[Bkv,Bmx,Eg,Yz,ih,Bmo]
 intro S;induction S with
 |nil=>intro i x;rfl
 |d t r ih=>intro i x;simp only[Sh.De,Dk,V9];exact dat _ _ (ih (i+1) x.2)
 |m kt vt r ih=>intro i x;simp only[Sh.De,A9,Eg,ih,Bnd];cases x.1<;>rfl
 |s a ty r _ ih=>intro i x;simp only[Sh.De,A9,Eg,ih,Bnd];rfl
 |z a ty r _ ih=>intro i x;simp only[Sh.De,A9,Eg,ih,Bnd];cases x.1<;>rfl
theorem Ab2:∀(S:Sh) (h i:Nat) (x:S.T) (p:Nat×Ob),p∈S.C9 h i x→U7 p.2=true:=by
 intro S;induction S with
 |nil=>intro h i x p hp;cases hp
 |d t r ih=>intro h i x p hp;exact ih h (i+1) x.2 p hp
 |m kt vt r ih =>
  intro h i x p hp;rcases Bkw.1 hp with hp|hp
  ·cases hx:x.1 with
   |none=>rw[hx]at hp;cases hp
   |some y=>rw[hx]at hp;rw[Bl7]at hp;subst hp;rfl
  ·exact ih h (i+1) x.2 p hp
 |s a ty r ih1 ih2 =>
  intro h i x p hp;rcases Bkw.1 hp with hp|hp
  ·rcases Bkq.1 hp with rfl|hp
   ·show Eg _=true;rw[a.I0];exact S8 _ a 0 x.1
   ·exact ih1 _ 0 x.1 p hp
  ·exact ih2 h (i+1) x.2 p hp
 |z a ty r ih1 ih2 =>
  intro h i x p hp;rcases Bkw.1 hp with hp|hp
  ·cases hx:x.1 with
   |none=>rw[hx]at hp;cases hp
   |some y =>
    rw[hx]at hp;rcases Bkq.1 hp with rfl|hp
    ·show Eg _=true;rw[a.I0];exact S8 _ a 0 y
    ·exact ih1 _ 0 y p hp
  ·exact ih2 h (i+1) x.2 p hp
def Azc:A2 (Nat×Nat)→Bool
 |[]=>true
 |p::r=>cond (cond (Nat.blt p.1 H0) true (Nat.blt ((p.1-H0)/1000) H0)) (Azc r) false
def Azd(By:A2 Nat):A2 (Nat×Nat)→Bool
 |[]=>true
 |p::r=>cond (cond (Nat.blt p.1 H0) true (cond (inl ((p.1-H0)/1000) By) false true)) (Azd By r) false
theorem Aiu:∀ {T:A2 (Nat×Nat)},Azc T=true→∀p∈T,p.1<H0∨(p.1-H0)/1000<H0
 |[],_,p,hp=>by simp at hp
 |q::r,h,p,hp=>by
  obtain⟨h1,h2⟩:=Ap h;rcases Bkq.1 hp with rfl|hp
  ·cases hb:Nat.blt p.1 H0 with
   |true=>rw[Bmk]at hb;exact .inl hb
   |false=>rw[hb,Bko,Bmk]at h1;exact .inr h1
  ·exact Aiu h2 p hp
theorem Aiv{By:A2 Nat}:∀ {T:A2 (Nat×Nat)},Azd By T=true→∀p∈T,p.1<H0∨(p.1-H0)/1000∉By
 |[],_,p,hp=>by simp at hp
 |q::r,h,p,hp=>by
  obtain⟨h1,h2⟩:=Ap h;rcases Bkq.1 hp with rfl|hp
  ·cases hb:Nat.blt p.1 H0 with
   |true=>rw[Bmk]at hb;exact .inl hb
   |false =>
    rw[hb,Bko]at h1;refine .inr fun hm=>?_
    rw[(D3 _ _).2 hm]at h1;cases h1
  ·exact Aiv h2 p hp
def Aiw(objs told:A2 (Nat×Ac))(Ub:A2 (Nat×Nat))(By:A2 Nat):Bool :=
 cond (Hy (Ub.map (·.1))) (cond (Hy (Ub.map (·.2))) (cond (Wm (Ub.map (·.2))) (cond (Azc Ub) (cond (Azd By Ub) (cond (Wm (told.map (·.1))) (cond (A9i told) (O7 objs) false) false) false) false) false) false) false
theorem Aix{T:A2 (Nat×Nat)}(h:(T.map (·.1)).Nodup){n j:Nat}(hp:(n,j)∈T):lk n T=some j:=by rw[Atp];exact Be h hp
theorem B20(m j:Nat)(hj:j<1000):(Fo m j-H0)/1000=m:=by unfold Fo;omega
theorem HR.closed{nm ns:A2 Nat}{B:Bl}{g:Gh}{w:World}{objs told:A2 (Nat×Ac)}{live:A2 Nat}{Ub:A2 (Nat×Nat)}{By:A2 Nat}(hr:HR nm B g w ⟨A6 objs,live⟩)(hs:∀q∈told,Src objs Ub By q)(hk:Aiw objs told Ub By=true)
  (hns:∀k∈ns,k∈nm∧(k,k)∈Ub∧k∈told.map (·.1)):HR ns B (g.pull (ren Ub)) w ⟨A6 told,[]⟩:=by
 unfold Aiw at hk;obtain⟨t1,hk⟩:=Ap hk;obtain⟨t2,hk⟩:=Ap hk;obtain⟨t3,hk⟩:=Ap hk;obtain⟨t4,hk⟩:=Ap hk;obtain⟨t5,hk⟩:=Ap hk;obtain⟨t6,hk⟩:=Ap hk;obtain⟨t7,t8⟩:=Ap hk;replace t1:=Cl t1;replace t2:=Cl t2;replace t3:=Q9 t3;replace t4:=Aiu t4;replace t5:=Aiv t5;replace t6:=Q9 t6;let f:=ren Ub;have Avi:∀ {n j},(n,j)∈Ub→f n=j:=fun hp=>B1w (Aix t1 hp)
 have val:∀ {n j},(n,j)∈Ub→j<H0:=fun hp=>t3 _ (Bl3 (f:=(·.2)) hp)
 have key:∀ {n j},lk n Ub=some j→(n,j)∈Ub:=fun h=>by rw[Atp]at h;exact Di h
 have deep:∀ {m j},H0≤m→j<1000→f (Fo m j)=Fo (f m) j:=by
  intro m j hm hj;refine B1x hj ?_;cases hl:lk (Fo m j) Ub with
  |none=>rfl
  |some z =>
   exfalso;rcases t4 _ (key hl)with h|h
   ·have:=Q8 m j;simp only at h;omega
   ·simp only[B20 m j hj]at h;omega
 have Bf5:∀ {n},H0≤n→A5t f n:=by
  intro n hn m j hj hm;refine deep ?_ hj;rcases hm with rfl|hm
  ·exact hn
  ·exact hm.ge
 have Bf6:∀ {n},n∈By→A5t f n:=by
  intro n hn m j hj hm;rcases hm with rfl|hm
  ·refine B1x hj ?_;cases hl:lk (Fo m j) Ub with
   |none=>rfl
   |some z =>
    exfalso;rcases t5 _ (key hl)with h|h
    ·have:=Q8 m j;simp only at h;omega
    ·simp only[B20 m j hj]at h;exact h hn
  ·exact deep hm.ge hj
 have inX:∀ {j:Nat} {y:Ac} {p:Nat×Ob},lk j objs=some y→(y.C9.map (·.1)).Nodup→p∈y.C9→(A6 objs).lookup p.1=some p.2 :=
  fun hj hn hp=>Ac1 t8 (Gd hj) (Be hn hp)
 have small:∀q∈told,∀S ty x,q.2 = .abs q.1 S ty x→S.small 0=true:=by intro q hq S ty x e;have:=Qa t7 q hq;rw[e]at this;exact(Ap this).2
 have names:∀n o,(A6 told).lookup n=some o→∃q∈told,(n=q.1∧o=q.2.o)∨(n,o)∈q.2.C9:=by
  intro n o h;rcases A26 h with ⟨y,hy,rfl⟩|⟨p,hp,h2⟩
  ·exact⟨_,Gd hy,.inl ⟨rfl,rfl⟩⟩
  ·exact⟨p,hp,.inr (Fy h2)⟩
 have kid:∀ {n j:Nat} {S:Sh} {x:S.T} {cs:A2 XV} {τ:A2 (Nat×Nat)},Kr objs 0 S cs=some (x,τ)→(∀p∈τ,(Fo n p.1,p.2)∈Ub)→S.small 0=true →
   CLe cs (S.De (fun i=>f (Fo n i)) 0 x)∧∀q∈S.kids (Fo n) 0 x,(∃j',(q.1,j')∈Ub)∧lk (f q.1) objs=some (q.2.re f)∧q.2.B8y q.1∧H0≤q.1:=by
  intro n j S x cs τ hc hT Ek;obtain⟨c1,c2⟩:=Rp S 0 cs x τ hc (fun i=>f (Fo n i)) fun p hp=>Avi (hT p hp)
  refine⟨c1,fun q hq=>?_⟩;have e1:(f q.1,q.2.re f)∈S.kids (fun i=>f (Fo n i)) 0 x:=by rw[← S.Z6 0 x (f:=f) (b:=Fo n) fun _ _=>rfl];exact Bl3 (f:=fun q:Nat×Ac=>(f q.1,q.2.re f)) hq
  obtain⟨a1,p,a2,a3,_,_⟩:=c2 _ e1;obtain⟨i,_,hi,hqi⟩:=S.Z7 (Fo n) 0 x q hq;have hge:H0≤q.1:=by rw[hqi];exact Q8 _ _
  refine⟨?_,a1,S.A4z (Fo n) 0 x Ek q hq,hge⟩;obtain⟨i',_,Lp⟩:∃i',True∧q.1=Fo n i':=⟨i,trivial,hqi⟩;have:=Mg hc q hq;obtain⟨p',hp',e⟩:=this;exact⟨p'.2,by rw[e];exact hT p' hp'⟩
 refine HR.Bhh hr (f:=f) rfl ?_ ?_ ?_ ?_
 ·intro n o h;obtain⟨q,hq,h1⟩:=names n o h;cases hs q hq with
  |raw n' j S ty x cs τ a1 a2 a3 a4 =>
   have Ek:=small _ hq S ty x rfl;obtain⟨c1,c2⟩:=kid (n:=n') (j:=j) a3 a4 Ek;rcases h1 with ⟨rfl,rfl⟩|h1
   ·refine⟨_,by rw[Avi a1];exact H7 a2,?_⟩;simp only[Ac.o,Pu];rw[S.I0,S.P7 0 x (f:=f) (b:=Fo n) (b':=fun i=>f (Fo n i)) fun _ _=>rfl];refine .cells (by rw[Ag,Ag];exact c1.1) (fun i u v hu hv=>?_) (.inl rfl);rw[L5,Bky]at hu hv;obtain⟨u',hu',rfl⟩:=hu;obtain⟨v',hv',rfl⟩:=hv;exact c1.2 i u' v' hu' hv'
   ·obtain⟨p,hp,h2⟩:=(S.Nf n' 0 x (n,o)).1 h1;obtain⟨⟨j',b1⟩,b2,b3,b4⟩:=c2 p hp;rcases h2 with h2|h2
    ·cases h2;refine⟨_,H7 b2,?_⟩;rw[Ac.Bf4 b3 (Bf5 b4)];exact .refl _
    ·have e2:(f n,E7 f o)∈(p.2.re f).C9:=by rw[Ac.Arn b3 (Bf5 b4)];exact Bl3 (f:=fun p:Nat×Ob=>(f p.1,E7 f p.2)) h2
     refine⟨_,inX b2 ?_ e2,.refl _⟩;rcases b3 with ⟨kt,vt,es,c,e⟩|⟨a,Wl,y,e,hsa⟩
     ·rw[e];simp[Ac.re,Ac.C9]
     ·rw[e];exact a.I1 _ 0 y hsa
  |abs n' j S ty x a1 a2 a3 =>
   have Ek:=small _ hq S ty x rfl;have hkk:(Ac.abs n' S ty x).B8y n':=.inr ⟨S,ty,x,rfl,Ek⟩;have e0:(Ac.abs n' S ty x).re f = .abs j S ty x:=by show Ac.abs (f n') S ty x=_;rw[Avi a1]
   rcases h1 with ⟨rfl,rfl⟩|h1
   ·refine⟨_,by rw[Avi a1];exact H7 a2,?_⟩;rw[← Ac.Bf4 hkk (Bf6 a3),e0];exact .refl _
   ·have e2:(f n,E7 f o)∈(Ac.abs j S ty x).C9:=by rw[← e0,Ac.Arn hkk (Bf6 a3)];exact Bl3 (f:=fun p:Nat×Ob=>(f p.1,E7 f p.2)) h1
    exact⟨_,inX a2 (S.I1 _ 0 x Ek) e2,.refl _⟩
 ·intro n n' o o' h h' e;let R:Nat→Prop:=fun r=>∃j,(r,j)∈Ub
  have root:∀n o,(A6 told).lookup n=some o→R n∨∃r,R r∧A5t f r∧Cw r n:=by
   intro n o h;obtain⟨q,hq,h1⟩:=names n o h;cases hs q hq with
   |raw n' j S ty x cs τ a1 a2 a3 a4 =>
    have Ek:=small _ hq S ty x rfl;obtain⟨c1,c2⟩:=kid (n:=n') (j:=j) a3 a4 Ek;rcases h1 with ⟨rfl,rfl⟩|h1
    ·exact .inl ⟨j,a1⟩
    ·obtain⟨p,hp,h2⟩:=(S.Nf n' 0 x (n,o)).1 h1;obtain⟨⟨j',b1⟩,b2,b3,b4⟩:=c2 p hp;rcases h2 with h2|h2
     ·cases h2;exact .inl ⟨j',b1⟩
     ·refine .inr ⟨p.1,⟨j',b1⟩,Bf5 b4,?_⟩;rcases b3 with ⟨kt,vt,es,c,e⟩|⟨a,Wl,y,e,hsa⟩
      ·rw[e]at h2;cases h2
      ·rw[e]at h2;exact a.Cp _ 0 y _ hsa h2
   |abs n' j S ty x a1 a2 a3 =>
    have Ek:=small _ hq S ty x rfl;rcases h1 with ⟨rfl,rfl⟩|h1
    ·exact .inl ⟨j,a1⟩
    ·exact .inr ⟨n',⟨j,a1⟩,Bf6 a3,S.Cp _ 0 x _ Ek h1⟩
  refine Aro (f:=f) (R:=R) (A:=fun r=>A5t f r) (fun r h=>h) ?_ ?_ (root n o h) (root n' o' h') e
  ·rintro r r' ⟨j,h1⟩ ⟨j',h2⟩ e;rw[Avi h1,Avi h2]at e;subst e;exact Blc Prod.fst (Jb t2 h1 h2 rfl)
  ·rintro r r' ⟨j,h1⟩ ⟨j',h2⟩ _ hu;rw[Avi h1]at hu;have:=hu.ge;have:=val h1;omega
 ·intro n o h;obtain⟨q,hq,h1⟩:=names n o h;have:∃n' S ty x,q=(n',Ac.abs n' S ty x):=by
   cases hs q hq with
   |raw n' j S ty x cs τ=>exact⟨n',S,ty,x,rfl⟩
   |abs n' j S ty x=>exact⟨n',S,ty,x,rfl⟩
  obtain⟨n',S,ty,x,rfl⟩:=this;rcases h1 with ⟨_,rfl⟩|h1
  ·show Eg _=true;rw[S.I0];exact S8 _ S 0 x
  ·exact Ab2 S _ 0 x _ h1
 ·intro k Lk;obtain⟨h1,h2,h3⟩:=hns k Lk;refine⟨Avi h2,h1,?_⟩;show((A6 told).lookup k).isSome;obtain⟨p,hp,rfl⟩:=Bl2.1 h3;have:∀l:A2 (Nat×Ac),p∈l→∃y,lk p.1 l=some y:=by
   intro l;induction l with
   |nil=>intro h;cases h
   |cons q r ih =>
    intro h;rw[G1];cases hb:Nat.beq q.1 p.1 with
    |true=>exact⟨_,rfl⟩
    |false =>
     rcases Bkq.1 h with h|h
     ·rw[← h]at hb;simp at hb
     ·exact ih h
  obtain⟨y,hy⟩:=this told hp;rw[H7 hy];rfl
structure ASp where
 args:List AS
 ins:List (Nat×Sh×Option TypeId)
 res:List AR
@[reducible] def ASp.Out (S:ASp):Type:=Azb S.ins×Afl S.res
@[reducible] def B4j:A2 (Nat×Sh×A3 TypeId)→Type→Type
 |[],R=>R
 |p::r,R=>p.2.1.T→B4j r R
@[reducible] def ASp.C1 (S:ASp):Type:=Ad8 S.args (B4j S.ins (A3 S.Out))
def Zc:A2 (Nat×Sh×A3 TypeId)→A2 Nat
 |[]=>[]
 |p::r=>p.1::Zc r
def ASp.n(S:ASp):Nat:=A7y S.args
def ASp.D8(S:ASp):A2 Nat:=Arf S.args
def Bf7{α:Type}:(l:A2 (Nat×Sh×A3 TypeId))→(A2 (Nat×Ac)→α)→A2 (Nat×Ac)→B4j l α
 |[],f,acc=>f acc
 |p::r,f,acc=>fun x=>Bf7 r f (acc++[(p.1,.abs p.1 p.2.1 p.2.2 x)])
def Bbr{β:Type}(Q:β→A2 (Nat×Ac)→Prop):(l:A2 (Nat×Sh×A3 TypeId))→B4j l β→A2 (Nat×Ac)→Prop
 |[],F,acc=>Q F acc
 |p::r,F,acc=>∀x:p.2.1.T,Bbr Q r (F x) (acc++[(p.1,.abs p.1 p.2.1 p.2.2 x)])
theorem Avj{α:Type}{Q:α→A2 (Nat×Ac)→Prop}{f:A2 (Nat×Ac)→α}(ns:A2 Nat)(h:∀acc,acc.map (·.1)=ns→Q (f acc) acc):∀(l:A2 (Nat×Sh×A3 TypeId)) (acc:A2 (Nat×Ac)),acc.map (·.1)++Zc l=ns→Bbr Q l (Bf7 l f acc) acc
 |[],acc,hm=>h acc (by simpa[Zc]using hm)
 |p::r,acc,hm=>fun x=>Avj ns h r _ (by simpa[Zc]using hm)
def Ab3:A2 ResultVar→A2 Nat
 |[]=>[]
 |.tmp t::r=>t::Ab3 r
 |.cell _ _::r=>Ab3 r
section
variable(P:Program)(Γ:A2 (Ga P))(own:A2 Nat)(N:Nat)(fn:Func)(an:A2 Nat→An)(S:ASp)
def B92(s:Ad):A3 S.Out :=
 match Aam P s fn.results.toList with
 |some rs=>match Ait s.objs S.ins,Y9 s.objs S.res rs with
  |some (out,σ),some (res,τ,By)=>cond (Aiw s.objs (Aev S.ins out++Tv S.res res) (σ++τ) By) (some (out,res)) none
  |_,_=>none
 |none=>none
def Bhi:Exit→Ad→A3 S.Out
 |.ret,s=>fzK (Ab3 fn.results.toList) s (B92 P fn S)
 |.normal,s=>fzK (Ab3 fn.results.toList) s (B92 P fn S)
 |_,_=>none
def B93(xs:A2 XV)(l:A2 (Nat×Ac)):A3 S.Out :=
 match fn.body with
 |some c=>cond (Nat.ble fn.ntmps GB) (cond (cond (Arp l) (cond (Hy (l.map (·.1))) (O7 l) false) false)
  (A51 l fun objs=>exec P Γ own (Zc S.ins) fn.ntmps N c (an (objs.map (·.1))) ⟨A7q 0 (xs.take S.n)++glE S.D8 (xs.drop S.n),objs,[],[],[]⟩ (Bhi P fn S)) none) none
 |none=>none
def Bbs:S.C1:=A32 S.args (fun xs=>Bf7 S.ins (fun l=>B93 P Γ own N fn an S xs l) []) []
end
def Afm:A2 XV→Bool
 |[]=>true
 |.d _::r=>Afm r
 |.nm k (.p _)::r=>cond (Nat.blt k 9) (Afm r) false
 |.nm k .m::r=>cond (Nat.blt k 9) (Afm r) false
 |_::_=>false
theorem Avk:∀ {l:A2 XV},Afm l=true→∀(i:Nat) (x:XV),l[i]? = some x→Yz x.a=true∧Ds (No J0) x.a=x.a
 |[],_,i,x,hx=>by simp at hx
 |y::r,h,i,x,hx=>by
  have low:∀ {k},k<9→No J0 k=k:=fun {k} hk=>by rw[Vs (A0p (by omega)),Aaz hk]
  have key:(Yz y.a=true∧Ds (No J0) y.a=y.a)∧Afm r=true:=by
   cases y with
   |d d=>exact⟨⟨rfl,rfl⟩,h⟩
   |nm k p =>
    cases p with
    |p off =>obtain⟨h1,h2⟩:=Ap h;rw[Bmk]at h1;exact⟨⟨rfl,by simp only[XV.a,Ds,low h1]⟩,h2⟩
    |m =>obtain⟨h1,h2⟩:=Ap h;rw[Bmk]at h1;exact⟨⟨rfl,by simp only[XV.a,Ds,low h1]⟩,h2⟩
    |_=>cases h
   |_=>cases h
  cases i with
  |zero=>simp at hx;subst hx;exact key.1
  |succ i=>exact Avk key.2 i x (by simpa using hx)
theorem Bbt{g:Gh}{w:World}{Ub:A2 (Nat×Nat)}(hT:(Ub.map (·.1)).Nodup){vs us:A2 XV}(h:A83 Ub vs us){v:Value}(hr:RA g w (Zu (A9 vs)) v):RA (g.pull (ren Ub)) w (Zu (A9 us)) v:=by
 have one:∀ {a b:XV},A83 Ub [a] [b]→∀ {v},RA g w a.a v→RA (g.pull (ren Ub)) w b.a v:=by
  intro a b h v hr;cases h with
  |d h1 _ =>have:=h1 g w v hr;exact this.data rfl (.refl _ _)
  |p h1 _ =>simp only[XV.a]at hr⊢;refine RA.pull (g:=g) (gc:=g.pull (ren Ub)) (f:=ren Ub) rfl (fun _=>rfl) _ v rfl ?_;simp only[Ds,B1w (Aix hT h1)];exact hr
 have len:∀ {vs us:A2 XV},A83 Ub vs us→vs.length=us.length:=by
  intro vs us h;induction h with
  |nil=>rfl
  |d _ _ ih=>simp[ih]
  |p _ _ ih=>simp[ih]
 have at':∀ {vs us:A2 XV},A83 Ub vs us→∀(i:Nat) (a b:XV),vs[i]? = some a→us[i]? = some b→A83 Ub [a] [b]:=by
  intro vs us h;induction h with
  |nil=>intro i a b ha;simp at ha
  |d h1 _ ih =>
   intro i a b ha hb;cases i with
   |zero=>simp at ha hb;subst ha;subst hb;exact .d h1 .nil
   |succ i=>exact ih i a b (by simpa using ha) (by simpa using hb)
  |p h1 _ ih =>
   intro i a b ha hb;cases i with
   |zero=>simp at ha hb;subst ha;subst hb;exact .p h1 .nil
   |succ i=>exact ih i a b (by simpa using ha) (by simpa using hb)
 have many:∀ {vs us:A2 XV},A83 Ub vs us→∀ {v},RA g w (.E2 (A9 vs)) v→RA (g.pull (ren Ub)) w (.E2 (A9 us)) v:=by
  intro vs us h v hr;cases hr with
  |E2 _ ws hl hx =>
   refine .E2 _ ws (by rw[Ag]at hl⊢;rw[← len h];exact hl) fun i x v hx' hv=>?_
   rw[L5,Bky]at hx';obtain⟨b,hb,rfl⟩:=hx';have Bs:i<vs.length:=by rw[len h];exact(Bku.1 hb).1
   have ha:vs[i]? = some vs[i]:=by simp[Bs]
   exact one (at' h i _ _ ha hb) (hx i _ v (by rw[L5,ha];rfl) hv)
 cases vs with
 |nil=>cases h;exact many .nil hr
 |cons a r =>
  cases us with
  |nil=>cases h
  |cons b s =>
   have hl:=len h;cases r with
   |nil =>
    cases s with
    |nil=>exact one h hr
    |cons c s=>simp at hl
   |cons a' r =>
    cases s with
    |nil=>simp at hl
    |cons b' s=>exact many h hr
def Mh(S:ASp)(y:S.Out):A2 (Nat×Ac):=Aev S.ins y.1++Tv S.res y.2
def Bd4(P:Program)(f:FuncId)(S:ASp)(y:S.Out)(xs:A2 XV)(l:A2 (Nat×Ac)):Prop :=
 l.map (·.1)=Zc S.ins∧O7 l=true∧Afm (xs.take S.n)=true ∧
  Aur P f (Zc S.ins) (A9 (xs.take S.n)) (S.D8.zip (A9 (xs.drop S.n))) ⟨A6 l,[]⟩ (L8 (Arr S.res y.2)).a ⟨A6 (Mh S y),[]⟩
theorem A36:∀(L:A2 (Nat×Sh×A3 TypeId)) (x:Azb L),(Aev L x).map (·.1)=Zc L
 |[],x=>rfl
 |p::r,x=>by simp only[Aev,Bkv,Zc,A36 r]
theorem Avl{objs told:A2 (Nat×Ac)}{Ub:A2 (Nat×Nat)}{By:A2 Nat}(h:Aiw objs told Ub By=true):O7 told=true∧(Ub.map (·.1)).Nodup:=by unfold Aiw at h;obtain⟨t1,h⟩:=Ap h;obtain⟨t2,h⟩:=Ap h;obtain⟨t3,h⟩:=Ap h;obtain⟨t4,h⟩:=Ap h;obtain⟨t5,h⟩:=Ap h;obtain⟨t6,h⟩:=Ap h;obtain⟨t7,t8⟩:=Ap h;refine⟨?_,Cl t1⟩;unfold O7;rw[t6,t7];cases E1 told<;>rfl
theorem Avm{P:Program}{Γ:A2 (Ga P)}{own:A2 Nat}{N:Nat}{f:FuncId}{fn:Func}{an:A2 Nat→An}{S:ASp}{xs:A2 XV}{l:A2 (Nat×Ac)}{y:S.Out}(hm:P.follows .mixedOrders=true)(hf:P.funcs[f]? = some fn)
  (hn:xs.length≤fn.ntmps) (hx:Afm (xs.take S.n)=true) (hd:Ba (A9 (xs.drop S.n))=true) (A33:l.map (·.1)=Zc S.ins) (h:B93 P Γ own N fn an S xs l=some y):Bd4 P f S y xs l:=by
 unfold B93 at h;split at h
 rotate_left
 ·cases h
 rename_i c hc;obtain⟨hG,h⟩:=An4 h;cases B8t:cond (Arp l) (cond (Hy (l.map (·.1))) (O7 l) false) false with
 |false=>rw[B8t]at h;cases h
 |true =>
 rw[B8t,Bkn,A82]at h;obtain⟨k1,k2⟩:=Ap B8t;obtain⟨k2,k3⟩:=Ap k2;replace k2:=Cl k2;have Ek:∀j∈Zc S.ins,j<1000:=by intro j hj;rw[← A33]at hj;obtain⟨p,hp,rfl⟩:=Bl2.1 hj;have:=(Aay k1 p hp).lt;omega
 have hs:=Ro (S:=⟨fn.ntmps,Zc S.ins,Ek⟩) hm rfl c _ _ _ _ _ (.refl _) h;have ends:∀ {e:Exit} {Bq:Ad},Bhi P fn S e Bq=some y→(e = .ret∨e = .normal)∧fzK (Ab3 fn.results.toList) Bq (B92 P fn S)=some y:=by
  intro e Bq h;cases e with
  |ret=>exact⟨.inl rfl,h⟩
  |normal=>exact⟨.inr rfl,h⟩
  |_=>cases h
 have told:∀ {s1:Ad},B92 P fn S s1=some y→∃rs σ τ By,Aam P s1 fn.results.toList=some rs∧Ait s1.objs S.ins=some (y.1,σ)∧Y9 s1.objs S.res rs=some (y.2,τ,By)∧Aiw s1.objs (Mh S y) (σ++τ) By=true:=by
  intro s1 h;unfold B92 at h;split at h
  ·rename_i rs hrs;split at h
   ·rename_i out σ res τ By h1 h2;cases ht:Aiw s1.objs (Aev S.ins out++Tv S.res res) (σ++τ) By with
    |false=>rw[ht]at h;cases h
    |true =>rw[ht,Bkn,Bks]at h;subst h;exact⟨rs,σ,τ,By,hrs,h1,h2,ht⟩
   ·cases h
  ·cases h
 have main:Aur P f (Zc S.ins) (A9 (xs.take S.n)) (S.D8.zip (A9 (xs.drop S.n))) ⟨A6 l,[]⟩ (L8 (Arr S.res y.2)).a ⟨A6 (Mh S y),[]⟩:=by
  intro g w vs hr hgs hl ha;have Bhj:=HR.opened k1 k2 k3 hr (fun k hk=>by rw[A33];exact hk);refine Bq0 hf hc (Bpd (hs (Bl.of g w ⟨A6 l,[]⟩) (g.pull (No J0)) w _ ?_) ?_)
  ·rw[Ag,Bm6]at hl;refine⟨rfl,?_,Bhj,?_⟩
   ·simp;omega
   ·intro s x hx1;have hx':(E0 (A7q 0 (xs.take S.n))++E0 (glE S.D8 (xs.drop S.n))).lookup s=some x:=by rw[E0,E0,← Ble];exact hx1
    rw[Bmq,A4r]at hx';cases h1:(A16 0 (A9 (xs.take S.n))).lookup s with
    |some x1 =>
     rw[h1]at hx';simp only[Boh,Bks]at hx';subst hx';obtain⟨_,hx'⟩:=N4 h1;rw[Bnu]at hx';have Bs:s<vs.size:=by have:=(Bku.1 hx').1;rw[Ag,Bm6]at this;omega
     refine⟨vs[s],?_,?_⟩
     ·rw[Rg (by omega)];rw[Bn6 Bs];simp[Bs]
     ·have h2:=ha s x1 vs[s] hx' (by simp[Bs]);rw[L5,Bky]at hx';obtain⟨z,hz,rfl⟩:=hx';obtain⟨a1,a2⟩:=Avk hx s z hz;exact RA.pull (g:=g) (gc:=g.pull (No J0)) (f:=No J0) rfl (fun _=>rfl) _ _ a1 (by rw[a2];exact h2)
    |none =>rw[h1]at hx';simp only[Bom]at hx';obtain⟨k,rfl,hk⟩:=Ag0 (Di hx');refine⟨_,Zt k,(hgs _ hk).data ?_ (.refl _ _)⟩;have:x∈A9 (xs.drop S.n):=(Brf hk).2;obtain⟨i,hi⟩:=Bpg this;exact Iv hd hi
  ·rintro e a' w' ⟨s,g',⟨Bq,rfl,hi,hk⟩,H4⟩;obtain⟨Bje,hfz⟩:=ends hk;have fin:a'.defers=[]∧∃v,(results fn a'.tmps).run P w' = .ok v w'∧∃g' v_1,Ending.returned v=Ending.returned v_1∧RA g' w' (L8 (Arr S.res y.2)).a v_1∧HR (Zc S.ins) (Bl.of g w ⟨A6 l,[]⟩) g' w' ⟨A6 (Mh S y),[]⟩:=by
    obtain⟨s1,q1,q2,q3⟩:=Ar7 (S:=⟨fn.ntmps,Zc S.ins,Ek⟩) _ Bq hi hfz;obtain⟨g1,hs1⟩:=q3 _ g' w' a' H4;obtain⟨rs,σ,τ,By,e1,e2,e3,e4⟩:=told q1;obtain⟨v,hv,T8⟩:=M4 (S7 e1) hs1;obtain⟨i1,i2⟩:=Anj S.ins y.1 σ e2;obtain⟨r1,r2⟩:=Zb S.res rs y.2 τ By e3;have hT:=(Avl e4).2;have Ba8:∀q∈Mh S y,Src s1.objs (σ++τ) By q:=by
     intro q hq;rcases Bkw.1 hq with hq|hq
     ·exact(i1 q hq).mono (fun p hp=>Bla _ hp) (by simp)
     ·exact(r1 q hq).mono (fun p hp=>Bl9 _ hp) (fun n hn=>hn)
    have hcl:=HR.closed (ns:=Zc S.ins) hs1.hr Ba8 e4 (by
     intro k hk;have:∀L:A2 (Nat×Sh×A3 TypeId),k∈Zc L→∃p∈L,p.1=k:=by
      intro L;induction L with
      |nil=>intro h;cases h
      |cons p r ih =>
       intro h;rcases Bkq.1 h with rfl|h
       ·exact⟨p,Bkz,rfl⟩
       ·obtain⟨q,hq,e⟩:=ih h;exact⟨q,Bkx _ hq,e⟩
     obtain⟨p,hp,rfl⟩:=this S.ins hk;refine⟨hk,Bla _ (i2 p hp),?_⟩;unfold Mh;rw[Ble,A36];exact Bla _ hk)
    refine⟨hs1.defers,v,hv,_,v,rfl,?_,hcl⟩;rw[Qm];exact Bbt hT (r2.mono fun p hp=>Bl9 _ hp) T8
   rcases Bje with rfl|rfl
   ·exact fin
   ·exact fin
 exact⟨A33,k3,hx,main⟩
theorem Avn{P:Program}{X Y:A7}{o:Oper}{fn:FuncId}{ns:A2 Nat}{args:Array Operand}{ts:Array TypeId}{D8:A2 Nat}{xs ys:A2 AV}{res:AV}{Xc D1:A7}(f:Nat→Nat)(F:A2 Nat)
  (ho:o.op = .call { callee:=.value (.func fn),args:=args,argTypes:=ts }) (hf:Ez P fn) (hs:Aur P fn ns xs (D8.zip ys) Xc res D1) (hc:Aqo ns X Xc D1 Y f F)
  (hl:xs.length=args.size) (hd:Eg xs=true) (hy:Ba ys=true) (Uq:∃ks,Cj ks res=true∧∀j∈ks,(D1.objs.lookup j).isSome) :
  Bp P o (args.toList.zip (Dj f xs)++(D8.map Operand.global).zip ys) X Y F (Ds f res):=by
 intro nm Ek B g w a hr Aq next Q hn
 unfold Oper.wp;have:(execOp a.eval o).run P w = .ok (.enter fn (args.map a.eval)) w:=by simp only[execOp,ho,resolve];simp[Act.eval,Deferred.ofValue,invoke,D5 hf]
 rw[this];have hG:GH g w (D8.zip ys):=by
  intro p hp;have h1:(Operand.global p.1,p.2)∈(D8.map Operand.global).zip ys:=by rw[Br4,Bl2];exact⟨p,hp,rfl⟩
  exact Aq _ (Bl9 _ h1)
 refine(hs.use (Xk _ hy) hc hd Uq Ek hr hG (by simpa using hl) (V6 fun p hp=>Aq p (Bla _ hp))).mono ?_;rintro e w' ⟨v,g',rfl,h1,h2,h3⟩;exact hn g' w' v h1 h2 h3
def Sh.Alk(h:Nat):Nat→Sh→A2 Nat
 |_,.nil=>[]
 |i,.d _ r=>r.Alk h (i+1)
 |i,.m _ _ r=>Fo h i::r.Alk h (i+1)
 |i,.s a _ r=>Fo h i::(a.Alk (Fo h i) 0++r.Alk h (i+1))
 |i,.z a _ r=>Fo h i::(a.Alk (Fo h i) 0++r.Alk h (i+1))
theorem Sh.Rq:∀(S:Sh) (h i:Nat) (x:S.T) (p:Nat×Ob),p∈S.C9 h i x→p.1∈S.Alk h i
 |.nil,h,i,x,p,hp=>by cases hp
 |.d t r,h,i,x,p,hp=>Sh.Rq r h (i+1) x.2 p hp
 |.m kt vt r,h,i,x,p,hp=>by
  rcases Bkw.1 hp with hp|hp
  ·cases hx:x.1 with
   |none=>rw[hx]at hp;cases hp
   |some y=>rw[hx]at hp;rw[Bl7]at hp;subst hp;exact Bkz
  ·exact Bkx _ (Sh.Rq r h (i+1) x.2 p hp)
 |.s a ty r,h,i,x,p,hp=>by
  rcases Bkw.1 hp with hp|hp
  ·rcases Bkq.1 hp with rfl|hp
   ·exact Bkz
   ·exact Bkx _ (Bla _ (Sh.Rq a _ 0 x.1 p hp))
  ·exact Bkx _ (Bl9 _ (Sh.Rq r h (i+1) x.2 p hp))
 |.z a ty r,h,i,x,p,hp=>by
  rcases Bkw.1 hp with hp|hp
  ·cases hx:x.1 with
   |none=>rw[hx]at hp;cases hp
   |some y =>
    rw[hx]at hp;rcases Bkq.1 hp with rfl|hp
    ·exact Bkz
    ·exact Bkx _ (Bla _ (Sh.Rq a _ 0 y p hp))
  ·exact Bkx _ (Bl9 _ (Sh.Rq r h (i+1) x.2 p hp))
theorem Sh.P8:∀(S:Sh) (h i:Nat),S.small i=true→∀n∈S.Alk h i,Cw h n
 |.nil,h,i,hs,n,hn=>by cases hn
 |.d t r,h,i,hs,n,hn=>Sh.P8 r h (i+1) (Ap hs).2 n hn
 |.m kt vt r,h,i,hs,n,hn=>by
  have hi:i<1000:=by simpa[Bmk] using(Ap hs).1
  rcases Bkq.1 hn with rfl|hn
  ·exact .here i hi
  ·exact Sh.P8 r h (i+1) (Ap hs).2 n hn
 |.s a ty r,h,i,hs,n,hn=>by
  have hi:i<1000:=by simpa[Bmk] using(Ap hs).1
  have h2:=Ap (Ap hs).2;rcases Bkq.1 hn with rfl|hn
  ·exact .here i hi
  ·rcases Bkw.1 hn with hn|hn
   ·exact(Cw.here i hi).trans (Sh.P8 a _ 0 h2.1 n hn)
   ·exact Sh.P8 r h (i+1) h2.2 n hn
 |.z a ty r,h,i,hs,n,hn=>by
  have hi:i<1000:=by simpa[Bmk] using(Ap hs).1
  have h2:=Ap (Ap hs).2;rcases Bkq.1 hn with rfl|hn
  ·exact .here i hi
  ·rcases Bkw.1 hn with hn|hn
   ·exact(Cw.here i hi).trans (Sh.P8 a _ 0 h2.1 n hn)
   ·exact Sh.P8 r h (i+1) h2.2 n hn
theorem Ars{ks:A2 Nat}{a b:A2 AV}:Bx ks (a++b)=(Bx ks a&&Bx ks b):=by
 induction a with
 |nil=>rfl
 |cons x r ih=>simp only[Bmx,Bx,ih,Bool.and_assoc]
theorem Aze(ks:A2 Nat)(l:A2 D):Bx ks (l.map .d)=true:=by
 induction l with
 |nil=>rfl
 |cons x r ih=>simp only[Bkv,Bx,Cj,ih,Bmo]
theorem Sh.Ka(h:Nat){ks:A2 Nat}:∀(S:Sh) (i:Nat) (x:S.T),(∀p∈S.C9 h i x,p.1∈ks)→Bx ks (A9 (S.cells h i x))=true
 |.nil,i,x,hk=>rfl
 |.d t r,i,x,hk=>by
  simp only[Sh.cells,Dk,V9,Ars,Aze,Bp7];exact Sh.Ka h r (i+1) x.2 hk
 |.m kt vt r,i,x,hk=>by
  have hr:=Sh.Ka h r (i+1) x.2 (fun p hp=>hk p (Bl9 _ hp));simp only[Sh.cells,A9,Bx,hr,Bnd];cases hx:x.1 with
  |none=>rfl
  |some y=>exact Blz.2 (hk (Fo h i,B6o kt vt y.1 y.2) (by simp only[Sh.C9,hx];exact Bla _ (Bl7.2 rfl)))
 |.s a ty r,i,x,hk=>by
  have hr:=Sh.Ka h r (i+1) x.2 (fun p hp=>hk p (Bl9 _ hp));simp only[Sh.cells,A9,Bx,hr,Bnd];exact Blz.2 (hk _ (Bla _ Bkz))
 |.z a ty r,i,x,hk=>by
  have hr:=Sh.Ka h r (i+1) x.2 (fun p hp=>hk p (Bl9 _ hp));simp only[Sh.cells,A9,Bx,hr,Bnd];cases hx:x.1 with
  |none=>rfl
  |some y=>exact Blz.2 (hk (Fo h i,.cells (A9 (a.cells (Fo h i) 0 y)) ty) (by simp only[Sh.C9,hx];exact Bla _ Bkz))
theorem Sh.Mi{ks:A2 Nat}:∀(S:Sh) (h i:Nat) (x:S.T),(∀p∈S.C9 h i x,p.1∈ks)→∀p∈S.C9 h i x,Ip ks p.2=true
 |.nil,h,i,x,hk,p,hp=>by cases hp
 |.d t r,h,i,x,hk,p,hp=>Sh.Mi r h (i+1) x.2 hk p hp
 |.m kt vt r,h,i,x,hk,p,hp=>by
  rcases Bkw.1 hp with hp|hp
  ·cases hx:x.1 with
   |none=>rw[hx]at hp;cases hp
   |some y=>rw[hx]at hp;rw[Bl7]at hp;subst hp;rfl
  ·exact Sh.Mi r h (i+1) x.2 (fun p hp=>hk p (Bl9 _ hp)) p hp
 |.s a ty r,h,i,x,hk,p,hp=>by
  rcases Bkw.1 hp with hp|hp
  ·rcases Bkq.1 hp with rfl|hp
   ·exact a.Ka _ 0 x.1 fun p hp=>hk p (Bla _ (Bkx _ hp))
   ·exact Sh.Mi a _ 0 x.1 (fun p hp=>hk p (Bla _ (Bkx _ hp))) p hp
  ·exact Sh.Mi r h (i+1) x.2 (fun p hp=>hk p (Bl9 _ hp)) p hp
 |.z a ty r,h,i,x,hk,p,hp=>by
  rcases Bkw.1 hp with hp'|hp'
  ·cases hx:x.1 with
   |none=>rw[hx]at hp';cases hp'
   |some y =>
    have Lk:∀p∈(Fo h i,Ob.cells (A9 (a.cells (Fo h i) 0 y)) ty)::a.C9 (Fo h i) 0 y,p.1∈ks:=fun p hp=>hk p (by simp only[Sh.C9,hx];exact Bla _ hp)
    rw[hx]at hp';rcases Bkq.1 hp' with rfl|hp'
    ·exact a.Ka _ 0 y fun p hp=>Lk p (Bkx _ hp)
    ·exact Sh.Mi a _ 0 y (fun p hp=>Lk p (Bkx _ hp)) p hp'
  ·exact Sh.Mi r h (i+1) x.2 (fun p hp=>hk p (Bl9 _ hp)) p hp'
def A84(f:Nat→Nat):A2 (Nat×Ac)→A2 (Nat×Ac)→A2 (Nat×Ac)
 |[],acc=>acc
 |p::r,acc=>A84 f r (K6 (f p.1) (p.2.re f) acc)
theorem Sr{f:Nat→Nat}{j:Nat}:∀ {l acc:A2 (Nat×Ac)},(∀q∈l,f q.1≠j)→lk j (A84 f l acc)=lk j acc
 |[],acc,_=>rfl
 |p::r,acc,h=>by
  simp only[A84];rw[Sr fun q hq=>h q (Bkx _ hq),Jl _ _ _ _ (Bnf (h p Bkz))]
theorem Aiy{f:Nat→Nat}:∀ {l acc:A2 (Nat×Ac)},(l.map fun q=>f q.1).Nodup→∀q∈l,lk (f q.1) (A84 f l acc)=some (q.2.re f)
 |[],acc,_,q,hq=>by cases hq
 |p::r,acc,hn,q,hq=>by
  simp only[Bkv,Bm1]at hn;simp only[A84];rcases Bkq.1 hq with rfl|hq
  ·rw[Sr fun z hz e=>hn.1 (by rw[← e];exact Bl3 (f:=fun q:Nat×Ac=>f q.1) hz)];exact Ap9 acc
  ·exact Aiy hn.2 q hq
theorem Avo{k:Nat}{o:Ac}:∀ {l:A2 (Nat×Ac)} {p:Nat×Ac},p∈K6 k o l→p=(k,o)∨p∈l
 |[],p,h=>by rw[A9j]at h;exact .inl (Bl7.1 h)
 |q::r,p,h=>by
  rw[Ur]at h;cases hb:Nat.beq q.1 k with
  |true =>
   rw[hb,Bkn]at h;rcases Bkq.1 h with h|h
   ·exact .inl h
   ·exact .inr (Bkx _ h)
  |false =>
   rw[hb,Bko]at h;rcases Bkq.1 h with h|h
   ·exact .inr (by rw[h];exact Bkz)
   ·rcases Avo h with h|h
    ·exact .inl h
    ·exact .inr (Bkx _ h)
theorem Avp{f:Nat→Nat}:∀ {l acc:A2 (Nat×Ac)} {p:Nat×Ac},p∈A84 f l acc→(∃q∈l,p=(f q.1,q.2.re f))∨p∈acc
 |[],acc,p,h=>.inr h
 |q::r,acc,p,h=>by
  simp only[A84]at h;rcases Avp h with ⟨z,hz,e⟩|h
  ·exact .inl ⟨z,Bkx _ hz,e⟩
  ·rcases Avo h with h|h
   ·exact .inl ⟨q,Bkz,h⟩
   ·exact .inr h
mutual
theorem Art{F ks:List Nat}(hd:∀k∈ks,F.contains k=false):∀ {x:AV},Cj ks x=true→Gm F x=true
 |.d _,_=>rfl
 |.nm k _,h=>by simp only[Gm,hd k (Blz.1 h),Bno]
 |.Bu _ _ _ _,h=>by cases h
 |.Uo _ _ _,h=>by cases h
 |.E2 l,h=>Oh hd (by simpa[Cj]using h)
 |.agg l,h=>Oh hd (by simpa[Cj]using h)
 |.Ff _ l,h=>Oh hd (by simpa[Cj]using h)
theorem Oh{F ks:List Nat}(hd:∀k∈ks,F.contains k=false):∀ {l:List AV},Bx ks l=true→Bz F l=true
 |[],_=>rfl
 |x::r,h=>by
  simp only[Bx,Bls]at h;simp only[Bz,Art hd h.1,Oh hd h.2,Bmo]
end
theorem Ab4{F ks:A2 Nat}(hd:∀k∈ks,F.contains k=false){o:Ob}(h:Ip ks o=true):F9 F o=true:=by
 cases o with
 |cells cs ty=>exact Oh hd h
 |map l c=>rfl
 |Oy s p=>rfl
 |Jg k a b c=>simp only[F9,hd k (Blz.1 h),Bno]
 |Dt=>rfl
 |Ck=>cases h
def Adg(f:Nat→Nat):A2 (Nat×Ac)→A2 Nat
 |[]=>[]
 |p::r=>(match p.2 with
  |.abs _ S _ _=>S.Alk (f p.1) 0
  |_=>[])++Adg f r
def Aew(ts F:A2 Nat):A2 (Nat×Ac)→Bool
 |[]=>true
 |p::r=>cond (inl p.1 ts) (Aew ts F r) (match p.2 with
  |.abs _ _ _ _=>Aew ts F r
  |o=>cond (Xf F o) (Aew ts F r) false)
theorem Ank{ts F:A2 Nat}:∀ {l:A2 (Nat×Ac)},Aew ts F l=true→∀p∈l,p.1∈ts∨p.2.plain=false∨(p.2.plain=true∧Xf F p.2=true)
 |[],_,p,hp=>by cases hp
 |q::r,h,p,hp=>by
  have key:(q.1∈ts∨q.2.plain=false∨(q.2.plain=true∧Xf F q.2=true))∧Aew ts F r=true:=by
   simp only[Aew]at h;cases hi:inl q.1 ts with
   |true=>rw[hi,Bkn]at h;exact⟨.inl ((D3 _ _).1 hi),h⟩
   |false =>
    rw[hi,Bko]at h;cases ho:q.2 with
    |abs=>rw[ho]at h;exact⟨.inr (.inl rfl),h⟩
    |_=>rw[ho]at h;obtain⟨h1,h2⟩:=Ap h;exact⟨.inr (.inr ⟨rfl,h1⟩),h2⟩
  rcases Bkq.1 hp with rfl|hp
  ·exact key.1
  ·exact Ank key.2 p hp
structure A85(l:List (Nat×Ac)):Prop where
 ok:O7 l=true
 nd:(l.map (·.1)).Nodup
 ex:∀q∈l,∃S ty x,q.2 = .abs q.1 S ty x∧S.small 0=true
 low:∀q∈l,q.1<H0
theorem A85.of{l:A2 (Nat×Ac)}(h:O7 l=true)(hn:(l.map (·.1)).Nodup)(he:∀q∈l,∃S ty x,q.2=Ac.abs q.1 S ty x):A85 l:=by
 have key:∀q∈l,A9i l=true∧∀p∈l,p.1<H0:=by
  intro q hq;rcases Ko h with h1|h1
  ·obtain⟨S,ty,x,e⟩:=he q hq;have:=Gw h1 q hq;rw[e]at this;cases this
  ·exact h1
 refine⟨h,hn,fun q hq=>?_,fun q hq=>(key q hq).2 q hq⟩;obtain⟨S,ty,x,e⟩:=he q hq;have:=Qa (key q hq).1 q hq;rw[e]at this;exact⟨S,ty,x,e,(Ap this).2⟩
theorem A85.names{l:A2 (Nat×Ac)}(h:A85 l){n:Nat}{o:Ob}(hl:(A6 l).lookup n=some o):∃q∈l,∃S ty x,q.2 = .abs q.1 S ty x∧S.small 0=true∧((n=q.1∧o = .cells (A9 (S.cells q.1 0 x)) ty)∨(n,o)∈S.C9 q.1 0 x):=by
 rcases A26 hl with ⟨y,hy,rfl⟩|⟨p,hp,h2⟩
 ·have hm:=Gd hy;obtain⟨S,ty,x,e,hs⟩:=h.ex _ hm;exact⟨_,hm,S,ty,x,e,hs,.inl ⟨rfl,by simp only at e;rw[e];rfl⟩⟩
 ·obtain⟨S,ty,x,e,hs⟩:=h.ex _ hp;rw[e]at h2;exact⟨p,hp,S,ty,x,e,hs,.inr (Fy h2)⟩
theorem A85.head{l:A2 (Nat×Ac)}(h:A85 l){q:Nat×Ac}(hq:q∈l):((A6 l).lookup q.1).isSome:=by rw[H7 (Aeu h.nd hq)];rfl
theorem A85.Fo{l:A2 (Nat×Ac)}(h:A85 l){q:Nat×Ac}(hq:q∈l){S:Sh}{ty:A3 TypeId}{x:S.T}(e:q.2 = .abs q.1 S ty x)(hs:S.small 0=true){p:Nat×Ob}(hp:p∈S.C9 q.1 0 x):(A6 l).lookup p.1=some p.2 :=
 Ac1 h.ok hq (by rw[e];exact Be (S.I1 _ 0 x hs) hp)
theorem Anl:∀ {l:A2 (Nat×Ac)},A9i l=true→∀p∈l,∀q∈l,p.2.plain=false→q.2.plain=false→p.1=q.1→p=q
 |[],_,p,hp,_,_,_,_,_=>by cases hp
 |z::r,h,p,hp,q,hq,h1,h2,e=>by
  have hr:A9i r=true∧(z.2.plain=false→A6d z.1 r=false):=by
   simp only[A9i]at h;cases hz:z.2.plain with
   |true=>rw[hz,Bkn]at h;exact⟨h,by simp⟩
   |false =>
    rw[hz,Bko]at h;have h3:=(Ap h).2;cases ha:A6d z.1 r with
    |true=>rw[ha]at h3;cases h3
    |false=>rw[ha,Bko]at h3;exact⟨h3,fun _=>rfl⟩
  rcases Bkq.1 hp with e1|hp'<;>rcases Bkq.1 hq with e2|hq'
  ·rw[e1,e2]
  ·subst e1;have:=A49 hq' h2 e.symm;rw[hr.2 h1]at this;cases this
  ·subst e2;have:=A49 hp' h1 e;rw[hr.2 h2]at this;cases this
  ·exact Anl hr.1 p hp' q hq' h1 h2 e
theorem Bbu{ns:A2 Nat}{st:Ad}{f0:Nat→Nat}{l tl:A2 (Nat×Ac)}{Fv:A2 Nat}(hX:O7 st.objs=true)(hl:A85 l)(ht:A85 tl)(hns:l.map (·.1)=ns)(A95:∀k∈ns,k∈tl.map (·.1))
  (Up:∀q∈l,lk (f0 q.1) st.objs=some (q.2.re f0)) (hnd:(tl.map fun q=>f0 q.1).Nodup) (Ar3:∀q∈tl,f0 q.1<H0) (A1r:∀q∈tl,q.1∈ns∨(1000≤f0 q.1∧f0 q.1∈Fv)) (hFv:Wm Fv=true)
  (hY:O7 (A84 f0 tl st.objs)=true) (Pq:Aew (tl.map fun q=>f0 q.1) (Fv++Adg f0 tl) st.objs=true) :
  Aqo ns st.X ⟨A6 l,[]⟩ ⟨A6 tl,[]⟩ ⟨A6 (A84 f0 tl st.objs),st.live⟩ (No f0) (Fv++Adg f0 tl):=by
 let f:=No f0;have Afn:∀ {n},n<H0→f n=f0 n:=fun h=>Vs h
 have eqv:∀h,A5t f h:=fun h=>Ab0 f0 h
 have Bf8:∀q∈l,∃p∈tl,p.1=q.1:=by intro q hq;obtain⟨p,hp,e⟩:=Bl2.1 (A95 q.1 (by rw[← hns];exact Bl3 (f:=(·.1)) hq));exact⟨p,hp,e⟩
 have put:∀q∈tl,lk (f0 q.1) (A84 f0 tl st.objs)=some (q.2.re f0):=fun q hq=>Aiy hnd q hq
 have B21:∀ {q:Nat×Ac} {S:Sh} {ty:A3 TypeId} {x:S.T},q.1<H0→q.2 = .abs q.1 S ty x→S.small 0=true→(q.2.re f0).o=E7 f (.cells (A9 (S.cells q.1 0 x)) ty)∧(q.2.re f0).C9=(S.C9 q.1 0 x).map (fun p=>(f p.1,E7 f p.2)):=by intro q S ty x hq e hs;rw[e];simp only[Ac.re,Ac.o,Ac.C9,Pu];rw[S.A4y x hs (eqv _),S.Qo q.1 0 x hs (eqv _),Afn hq];exact⟨rfl,rfl⟩
 have Bf9:∀ {q:Nat×Ac} {S:Sh} {ty:A3 TypeId} {x:S.T},q.2 = .abs q.1 S ty x→S.small 0=true→((q.2.re f0).C9.map (·.1)).Nodup:=by intro q S ty x e hs;rw[e];exact S.I1 _ 0 x hs
 have look:∀ {objs:A2 (Nat×Ac)} {L:A2 (Nat×Ac)},O7 objs=true→A85 L→(∀q∈L,lk (f0 q.1) objs=some (q.2.re f0))→∀n o,(A6 L).lookup n=some o→(A6 objs).lookup (f n)=some (E7 f o):=by
  intro objs L hk hL hh n o hn;obtain⟨q,hq,S,ty,x,e,hs,h1⟩:=hL.names hn;obtain⟨m1,m2⟩:=B21 (hL.low q hq) e hs;rcases h1 with ⟨rfl,rfl⟩|h1
  ·rw[Afn (hL.low q hq),H7 (hh q hq),m1]
  ·have:(f n,E7 f o)∈(q.2.re f0).C9:=by rw[m2];exact Bl3 (f:=fun p:Nat×Ob=>(f p.1,E7 f p.2)) h1
   exact Ac1 hk (Gd (hh q hq)) (Be (Bf9 e hs) this)
 have nt:∀ {L:A2 (Nat×Ac)},A85 L→∀n o,(A6 L).lookup n=some o→U7 o=true:=by
  intro L hL n o hn;obtain⟨q,hq,S,ty,x,e,hs,h1⟩:=hL.names hn;rcases h1 with ⟨_,rfl⟩|h1
  ·show Eg _=true;rw[S.I0];exact S8 _ S 0 x
  ·exact Ab2 S _ 0 x _ h1
 have root:∀ {L:A2 (Nat×Ac)},A85 L→(∀q∈L,∃p∈tl,p.1=q.1)→∀n,((A6 L).lookup n).isSome→(∃p∈tl,p.1=n)∨∃r,(∃p∈tl,p.1=r)∧True∧Cw r n:=by
  intro L hL H4 n hn;obtain⟨o,ho⟩:=Vk hn;obtain⟨q,hq,S,ty,x,e,hs,h1⟩:=hL.names ho;rcases h1 with ⟨rfl,_⟩|h1
  ·exact .inl (H4 q hq)
  ·exact .inr ⟨q.1,H4 q hq,trivial,S.Cp _ 0 x _ hs h1⟩
 have Bd5:∀n,((A6 l).lookup n).isSome∨((A6 tl).lookup n).isSome→(∃p∈tl,p.1=n)∨∃r,(∃p∈tl,p.1=r)∧True∧Cw r n:=by
  intro n hn;rcases hn with hn|hn
  ·exact root hl Bf8 n hn
  ·exact root ht (fun q hq=>⟨q,hq,rfl⟩) n hn
 have Bhk:∀ {q:Nat×Ac} {S:Sh} {ty:A3 TypeId} {x:S.T},q∈tl→q.2 = .abs q.1 S ty x→∀n∈S.Alk (f0 q.1) 0,n∈Adg f0 tl:=by
  intro q S ty x hq e n hn;have:∀L:A2 (Nat×Ac),q∈L→n∈Adg f0 L:=by
   intro L;induction L with
   |nil=>intro h;cases h
   |cons p r ih =>
    intro h;simp only[Adg,Bkw];rcases Bkq.1 h with rfl|h
    ·left;rw[e];exact hn
    ·exact .inr (ih h)
  exact this tl hq
 have Bkm:∀n∈Adg f0 tl,∃q∈tl,Cw (f0 q.1) n:=by
  have:∀L:A2 (Nat×Ac),(∀q∈L,q∈tl)→∀n∈Adg f0 L,∃q∈tl,Cw (f0 q.1) n:=by
   intro L;induction L with
   |nil=>intro _ n hn;cases hn
   |cons p r ih =>
    intro hs n hn;simp only[Adg,Bkw]at hn;rcases hn with hn|hn
    ·obtain⟨S,ty,x,e,Ek⟩:=ht.ex p (hs p Bkz);rw[e]at hn;exact⟨p,hs p Bkz,S.P8 _ 0 Ek n hn⟩
    ·exact ih (fun q hq=>hs q (Bkx _ hq)) n hn
  exact this tl fun q hq=>hq
 have Bd6:∀n,((A6 tl).lookup n).isSome→(∃q∈tl,n=q.1)∨∃q∈tl,∃S ty x,q.2=Ac.abs q.1 S ty x∧S.small 0=true∧∃o,(n,o)∈S.C9 q.1 0 x:=by
  intro n hn;obtain⟨o,ho⟩:=Vk hn;obtain⟨q,hq,S,ty,x,e,hs,h1⟩:=ht.names ho;rcases h1 with ⟨rfl,_⟩|h1
  ·exact .inl ⟨q,hq,rfl⟩
  ·exact .inr ⟨q,hq,S,ty,x,e,hs,o,h1⟩
 refine⟨⟨rfl,rfl,rfl⟩,?_,?_,?_,?_,?_,?_,?_,?_,?_⟩
 ·exact look hX hl Up
 ·exact nt hl
 ·intro k o hk;obtain⟨q,hq,S,ty,x,e,hs,h1⟩:=ht.names hk;refine⟨(S.C9 q.1 0 x).map (·.1),?_,?_⟩
  ·have hkn:∀p∈S.C9 q.1 0 x,p.1∈(S.C9 q.1 0 x).map (·.1):=fun p hp=>Bl3 (f:=(·.1)) hp
   rcases h1 with ⟨_,rfl⟩|h1
   ·exact S.Ka _ 0 x hkn
   ·exact S.Mi _ 0 x hkn _ h1
  ·intro j hj;obtain⟨p,hp,rfl⟩:=Bl2.1 hj;show((A6 tl).lookup p.1).isSome;rw[ht.Fo hq e hs hp];rfl
 ·intro k k' hk Lk e;refine Aro (f:=f) (R:=fun r=>∃p∈tl,p.1=r) (A:=fun _=>True) (fun r _=>eqv r) ?_ ?_ (Bd5 k hk) (Bd5 k' Lk) e
  ·rintro r r' ⟨p,hp,rfl⟩ ⟨q,hq,rfl⟩ e;rw[Afn (ht.low p hp),Afn (ht.low q hq)]at e;rw[Jb hnd hp hq e]
  ·rintro r r' ⟨p,hp,rfl⟩ ⟨q,hq,rfl⟩ _ hu;rw[Afn (ht.low p hp)]at hu;have:=hu.ge;have:=Ar3 p hp;omega
 ·intro k hk;refine⟨?_,?_⟩
  ·rw[← hns]at hk;obtain⟨q,hq,rfl⟩:=Bl2.1 hk;exact hl.head hq
  ·obtain⟨q,hq,rfl⟩:=Bl2.1 (A95 k hk);exact ht.head hq
 ·exact look hY ht put
 ·intro j o hj;rcases A26 hj with ⟨y,hy,rfl⟩|⟨p,hp,h2⟩
  ·by_cases hex:∃q∈tl,f0 q.1=j
   ·obtain⟨q,hq,rfl⟩:=hex;exact .inl ⟨q.1,ht.head hq,Afn (ht.low q hq)⟩
   ·have hne:∀q∈tl,f0 q.1≠j:=fun q hq e=>hex ⟨q,hq,e⟩
    have hy0:lk j st.objs=some y:=by rw[← Sr hne];exact hy
    refine .inr ⟨H7 hy0,?_,?_⟩
    ·intro k hk e;rcases root hl Bf8 k hk with ⟨p,hp,rfl⟩|⟨r,⟨p,hp,rfl⟩,_,hu⟩
     ·rw[show No f0 p.1=f0 p.1 from Afn (ht.low p hp)]at e;exact hne p hp e
     ·have h3:=(hu.map (eqv _)).ge;have:j<H0:=by
       rcases Ko hX with h4|⟨_,h4⟩
       ·obtain⟨q,hq⟩:∃q,q∈l:=by
         cases hl':l with
         |nil=>rw[hl']at hk;cases hk
         |cons q r=>exact⟨q,Bkz⟩
        have:=Gw h4 _ (Gd (Up q hq));obtain⟨S,ty,x,e',_⟩:=hl.ex q hq;rw[e']at this;cases this
       ·exact h4 _ (Gd hy0)
      rw[← e]at this;have h5:H0≤No f0 k:=h3;omega
    ·rcases Ank Pq _ (Gd hy0)with h3|h3|⟨_,h3⟩
     ·obtain⟨q,hq,e⟩:=Bl2.1 h3;exact(hne q hq e).elim
     ·right;cases hyy:y with
      |abs h' S ty x =>
       have Ja:=hX;rcases Ko Ja with h4|⟨h4,h5⟩
       ·have:=Gw h4 _ (Gd hy0);rw[hyy]at this;cases this
       ·have B94:=Qa h4 _ (Gd hy0);rw[hyy]at B94;obtain⟨t1,t2⟩:=Ap B94;have t1:=Bkr t1;simp only at t1;subst t1;refine Ab4 (ks:=(S.C9 h' 0 x).map (·.1)) ?_ (S.Ka _ 0 x fun p hp=>Bl3 (f:=(·.1)) hp);intro k hk;obtain⟨p,hp,rfl⟩:=Bl2.1 hk;have hu:=S.Cp _ 0 x p t2 hp;cases hc:(Fv++Adg f0 tl).contains p.1 with
        |false=>rfl
        |true =>
         exfalso;rcases Bkw.1 (Blz.1 hc)with h6|h6
         ·have:=Q9 hFv _ h6;have:=hu.ge;omega
         ·obtain⟨q,hq,hv⟩:=Bkm _ h6;exact hne q hq (hv.one hu (Ar3 q hq) (h5 _ (Gd hy0)))
      |_=>rw[hyy]at h3;cases h3
     ·exact .inr (Ai5 h3)
  ·have Bd7:∀q∈tl,(q.2.re f0).C9.lookup j=some o→(∃k,((A6 tl).lookup k).isSome∧No f0 k=j):=by intro q hq h2;obtain⟨S,ty,x,e,hs⟩:=ht.ex q hq;obtain⟨m1,m2⟩:=B21 (ht.low q hq) e hs;rw[m2]at h2;obtain⟨p,hp,e2⟩:=Bl2.1 (Fy h2);cases e2;refine⟨p.1,?_,rfl⟩;rw[ht.Fo hq e hs hp];rfl
   rcases Avp hp with ⟨q,hq,rfl⟩|hp0
   ·exact .inl (Bd7 q hq h2)
   ·
    by_cases hex:∃q∈tl,f0 q.1=p.1
    ·obtain⟨q,hq,e⟩:=hex;obtain⟨S,ty,x,e',hs⟩:=ht.ex q hq;have hpp:p.2.plain=false:=by
      cases hh:p.2.plain with
      |false=>rfl
      |true=>rw[Ac.H6 hh]at h2;cases h2
     have hqp:(q.2.re f0).plain=false:=by rw[e'];rfl
     have hm:(f0 q.1,q.2.re f0)∈A84 f0 tl st.objs:=Gd (put q hq);rcases Ko hY with h4|⟨h4,_⟩
     ·have:=Gw h4 _ hm;rw[hqp]at this;cases this
     ·have:=Anl h4 p hp _ hm hpp hqp e.symm;rw[this]at h2;exact .inl (Bd7 q hq h2)
    ·have hne:∀q∈tl,f0 q.1≠p.1:=fun q hq e=>hex ⟨q,hq,e⟩
     have hu:Cw p.1 j:=by
      rcases Ko hX with h4|⟨h4,h5⟩
      ·rw[Ac.H6 (Gw h4 p hp0)]at h2;cases h2
      ·exact Ac.Ac0 (Qa h4 p hp0) (Fy h2)
     have Bhl:p.1<H0:=by
      rcases Ko hX with h4|⟨h4,h5⟩
      ·rw[Ac.H6 (Gw h4 p hp0)]at h2;cases h2
      ·exact h5 p hp0
     refine .inr ⟨Ac1 hX hp0 h2,?_,?_⟩
     ·intro k hk e;rcases root hl Bf8 k hk with ⟨q,hq,rfl⟩|⟨r,⟨q,hq,rfl⟩,_,hv⟩
      ·rw[show No f0 q.1=f0 q.1 from Afn (ht.low q hq)]at e;have:=hu.ge;have:=Ar3 q hq;omega
      ·have:=hv.map (eqv _);rw[Afn (ht.low q hq)]at this;have e':f k=j:=e;rw[e']at this;exact hne q hq (this.one hu (Ar3 q hq) Bhl)
     ·right;cases hpp:p.2 with
      |abs h' S ty x =>
       rcases Ko hX with h4|⟨h4,h5⟩
       ·have:=Gw h4 p hp0;rw[hpp]at this;cases this
       ·have B94:=Qa h4 p hp0;rw[hpp]at B94 h2;obtain⟨t1,t2⟩:=Ap B94;have t1:=Bkr t1;refine Ab4 (ks:=(S.C9 h' 0 x).map (·.1)) ?_ (S.Mi _ 0 x (fun p hp=>Bl3 (f:=(·.1)) hp) _ (Fy h2));intro k hk;obtain⟨z,hz,rfl⟩:=Bl2.1 hk;have hw:=S.Cp _ 0 x z t2 hz;rw[t1]at hw;cases hc:(Fv++Adg f0 tl).contains z.1 with
        |false=>rfl
        |true =>
         exfalso;rcases Bkw.1 (Blz.1 hc)with h6|h6
         ·have:=Q9 hFv _ h6;have:=hw.ge;omega
         ·obtain⟨q,hq,hv⟩:=Bkm _ h6;exact hne q hq (hv.one hw (Ar3 q hq) Bhl)
      |_=>rw[hpp]at h2;cases h2
 ·intro j hj hs;have hj0:j<H0:=by unfold H0;omega
  have H4:((A6 st.objs).lookup j).isSome:=hs;rw[B6p hj0]at H4;refine⟨?_,?_⟩
  ·show((A6 (A84 f0 tl st.objs)).lookup j).isSome;by_cases hex:∃q∈tl,f0 q.1=j
   ·obtain⟨q,hq,rfl⟩:=hex;rw[H7 (put q hq)];rfl
   ·rw[B6p hj0,Sr fun q hq e=>hex ⟨q,hq,e⟩];exact H4
  ·intro k e hk;rcases Bd6 k hk with ⟨q,hq,rfl⟩|⟨q,hq,S,ty,x,e',Ek,o,ho⟩
   ·rcases A1r q hq with h|⟨h,_⟩
    ·exact h
    ·have:f0 q.1=j:=by rw[← Afn (ht.low q hq)];exact e
     omega
   ·have:=((S.Cp _ 0 x _ Ek ho).map (eqv _)).ge;have e':f k=j:=e;simp only at this;omega
 ·intro k hk;rcases Bd6 k hk with ⟨q,hq,rfl⟩|⟨q,hq,S,ty,x,e',Ek,o,ho⟩
  ·rcases A1r q hq with h|⟨_,h⟩
   ·exact .inl h
   ·right;show No f0 q.1∈_;rw[show No f0 q.1=f0 q.1 from Afn (ht.low q hq)];exact Bla _ h
  ·right;refine Bl9 _ (Bhk hq e' _ ?_);have:(f k,E7 f o)∈S.C9 (f q.1) 0 x:=by rw[← S.Qo q.1 0 x Ek (eqv _)];exact Bl3 (f:=fun p:Nat×Ob=>(f p.1,E7 f p.2)) ho
   rw[Afn (ht.low q hq)]at this;exact S.Rq _ 0 x _ this
inductive ShA:List AS→List XV→Prop
 |nil:ShA [] []
 |d {t:Ty} {r:List AS} {y:XD} {xs:List XV}:ShA r xs→ShA (.d t::r) (.d y::xs)
 |p {k off:Nat} {r:List AS} {xs:List XV}:k<9→ShA r xs→ShA (.p k off::r) (.nm k (Z0 off)::xs)
 |g {k:Nat} {t:Ty} {r:List AS} {y:XD} {xs:List XV}:ShA r xs→ShA (.g k t::r) (.d y::xs)
 |P5 {p:Option Bool} {r:List AS} {xs:List XV}:ShA r xs→ShA (.nil p::r) (A2q p::xs)
def B22:A2 AS→Bool
 |[]=>true
 |.g _ _::r=>B22 r
 |_=>false
def Aex:A2 AS→Bool
 |[]=>true
 |.d _::r=>Aex r
 |.p k off::r=>cond (Nat.blt k 9) (cond (Nat.ble 900000000 off) false (Aex r)) false
 |.g _ _::r=>B22 r
 |.nil _::r=>Aex r
 |_=>false
theorem Anm{α:Type}{Q:α→A2 XV→Prop}{f:A2 XV→α}:∀(l:A2 AS) (acc:A2 XV),B22 l=true→(∀tail,ShA l tail→Q (f (acc++tail)) (acc++tail))→A1j Q l (A32 l f acc) acc
 |[],acc,_,h=>by have:=h [] .nil;rw[Blt]at this;exact this
 |.g k t::r,acc,ho,h=>fun y=>Anm r _ ho fun tail ht=>by have:=h (_::tail) (.g (k:=k) (t:=t) (y:=t.xv y) ht);rw[Bph]at this;exact this
 |.d _::_,_,ho,_=>by cases ho
 |.p _ _::_,_,ho,_=>by cases ho
 |.os _ _::_,_,ho,_=>by cases ho
 |.oa _ _ _::_,_,ho,_=>by cases ho
 |.nil _::_,_,ho,_=>by cases ho
 |.Ff _ _::_,_,ho,_=>by cases ho
theorem A52{α:Type}{Q:α→A2 XV→Prop}{f:A2 XV→α}:∀(l:A2 AS) (acc:A2 XV),Aex l=true→(∀tail,ShA l tail→Q (f (acc++tail)) (acc++tail))→A1j Q l (A32 l f acc) acc
 |[],acc,_,h=>by have:=h [] .nil;rw[Blt]at this;exact this
 |.d t::r,acc,ho,h=>fun y=>A52 r _ ho fun tail ht=>by have:=h (_::tail) (.d (t:=t) (y:=t.xv y) ht);rw[Bph]at this;exact this
 |.p k off::r,acc,ho,h=>by
  obtain⟨h1,h2⟩:=Ap ho;cases hB:Nat.ble 900000000 off with
  |true=>rw[hB]at h2;cases h2
  |false =>
  rw[hB,Bko]at h2;rw[Bmk]at h1;simp only[A1j,A32];exact A52 r _ h2 fun tail ht=>by have:=h (_::tail) (.p (off:=off) h1 ht);rw[Bph]at this;exact this
 |.g k t::r,acc,ho,h=>fun y=>Anm r _ ho fun tail ht=>by have:=h (_::tail) (.g (k:=k) (t:=t) (y:=t.xv y) ht);rw[Bph]at this;exact this
 |.os _ _::_,_,ho,_=>by cases ho
 |.oa _ _ _::_,_,ho,_=>by cases ho
 |.nil p::r,acc,ho,h=>by
  simp only[A1j,A32];exact A52 r _ ho fun tail ht=>by have:=h (_::tail) (.P5 (p:=p) ht);rw[Bph]at this;exact this
 |.Ff _ _::_,_,ho,_=>by cases ho
theorem Bd8:∀ {l:A2 AS} {xs:A2 XV},B22 l=true→ShA l xs→A7y l=0∧Ba (A9 xs)=true
 |[],_,_,h=>by cases h;exact⟨rfl,rfl⟩
 |.g k t::r,_,ho,h=>by
  cases h with
  |g h =>have:=(Bd8 (l:=r) ho h).2;exact⟨rfl,by simp only[A9,Ba,this,Bnd];rfl⟩
 |.d _::_,_,ho,_=>by cases ho
 |.p _ _::_,_,ho,_=>by cases ho
 |.os _ _::_,_,ho,_=>by cases ho
 |.oa _ _ _::_,_,ho,_=>by cases ho
 |.nil _::_,_,ho,_=>by cases ho
 |.Ff _ _::_,_,ho,_=>by cases ho
theorem Aru:∀ {l:A2 AS} {xs:A2 XV},Aex l=true→ShA l xs→Afm (xs.take (A7y l))=true∧Ba (A9 (xs.drop (A7y l)))=true∧xs.length=l.length
 |[],_,_,h=>by cases h;exact⟨rfl,rfl,rfl⟩
 |.d t::r,_,ho,h=>by
  cases h with
  |d h =>obtain⟨h1,h2,h3⟩:=Aru (l:=r) ho h;exact⟨h1,h2,by simp[h3]⟩
 |.p k off::r,_,ho,h=>by
  cases h with
  |p hk h =>
   have ho2:=(Ap ho).2;cases hB:Nat.ble 900000000 off with
   |true=>rw[hB]at ho2;cases ho2
   |false =>
   rw[hB,Bko]at ho2;obtain⟨h1,h2,h3⟩:=Aru (l:=r) ho2 h;refine⟨?_,h2,by simp[h3]⟩;simp only[A7y,Bpl];unfold Z0;rw[hB,Bko];cases Nat.beq off pkM with
   |true=>simp only[Bkn,Afm,Z8 hk,h1]
   |false=>simp only[Bko,Afm,Z8 hk,Bkn,h1]
 |.g k t::r,_,ho,h=>by
  have hl:∀ {l:A2 AS} {xs:A2 XV},ShA l xs→xs.length=l.length:=by
   intro l xs h;induction h with
   |nil=>rfl
   |d _ ih=>simp[ih]
   |p _ _ ih=>simp[ih]
   |g _ ih=>simp[ih]
   |P5 _ ih=>simp[ih]
  refine⟨rfl,?_,hl h⟩;exact(Bd8 (l:=.g k t::r) ho h).2
 |.os _ _::_,_,ho,_=>by cases ho
 |.oa _ _ _::_,_,ho,_=>by cases ho
 |.nil p::r,_,ho,h=>by
  cases h with
  |P5 h =>obtain⟨h1,h2,h3⟩:=Aru (l:=r) ho h;exact⟨h1,h2,by simp[h3]⟩
 |.Ff _ _::_,_,ho,_=>by cases ho
def B23(P:Program)(f:FuncId)(S:ASp)(F:S.C1):Prop :=
 A1j (fun F' xs=>Bbr (fun F'' l=>∀y,F''=some y→Bd4 P f S y xs l) S.ins F' []) S.args F []
theorem Azf{P:Program}{Γ:A2 (Ga P)}{own:A2 Nat}{N:Nat}{f:FuncId}{fn:Func}{an:A2 Nat→An}{S:ASp}(hm:P.follows .mixedOrders=true)(hf:P.funcs[f]? = some fn)
  (hn:Nat.ble S.args.length fn.ntmps=true) (ha:Aex S.args=true):B23 P f S (Bbs P Γ own N fn an S):=by
 unfold B23 Bbs;refine A52 S.args [] ha fun xs hxs=>?_
 rw[Bm0];obtain⟨h1,h2,h3⟩:=Aru ha hxs;refine Avj (Zc S.ins) (fun l hl=>?_) S.ins [] (by simp);intro y hy;exact Avm hm hf (by have:=Bl5 hn;omega) h1 h2 hl hy
def Bbv{β R:Type}(f:Nat→Nat)(objs:A2 (Nat×Ac)):(L:A2 (Nat×Sh×A3 TypeId))→B4j L β→A2 (Nat×Ac)→(β→A2 (Nat×Ac)→A3 R)→A3 R
 |[],F,acc,K=>K F acc
 |p::r,F,acc,K=>match Ani p.2.1 p.2.2 (f p.1) objs with
  |some x=>Bbv f objs r (F x) (acc++[(p.1,.abs p.1 p.2.1 p.2.2 x)]) K
  |none=>none
theorem B24{β R:Type}{Q:β→A2 (Nat×Ac)→Prop}{f:Nat→Nat}{objs:A2 (Nat×Ac)}{K:β→A2 (Nat×Ac)→A3 R}{r:R}:∀(L:A2 (Nat×Sh×A3 TypeId)) (F:B4j L β) (acc:A2 (Nat×Ac)),Bbr Q L F acc →
  (∀q∈acc,(∃S ty x,q.2=Ac.abs q.1 S ty x)∧lk (f q.1) objs=some (q.2.re f))→Bbv f objs L F acc K=some r →
  ∃F' l,Q F' l∧(∀q∈l,(∃S ty x,q.2=Ac.abs q.1 S ty x)∧lk (f q.1) objs=some (q.2.re f))∧K F' l=some r
 |[],F,acc,hg,ha,h=>⟨F,acc,hg,ha,h⟩
 |p::L,F,acc,hg,ha,h=>by
  unfold Bbv at h;split at h
  ·rename_i x hx;refine B24 L (F x) _ (hg x) ?_ h;intro q hq;rcases Bkw.1 hq with hq|hq
   ·exact ha q hq
   ·rw[Bl7]at hq;subst hq;exact⟨⟨_,_,_,rfl⟩,Ab1 hx⟩
  ·cases h
def A0q{R:Type}:(L:A2 AR)→Afl L→(Afl L→R)→R
 |[],x,K=>K x
 |.d _::r,x,K=>A0q r x.2 fun y=>K (x.1,y)
 |.n _ _ _::r,x,K=>A0q r x.2 fun y=>K (x.1,y)
 |.z _ _ _::r,x,K=>A4 x.1 (A0q r x.2 fun y=>K (none,y)) fun z=>A0q r x.2 fun y=>K (some z,y)
theorem A53{R:Type}:∀(L:A2 AR) (x:Afl L) (K:Afl L→R),A0q L x K=K x
 |[],x,K=>rfl
 |.d _::r,x,K=>by simp only[A0q,A53 r]
 |.n _ _ _::r,x,K=>by simp only[A0q,A53 r]
 |.z _ _ _::r,x,K=>by
  simp only[A0q,A53 r];obtain⟨a,b⟩:=x;cases a<;>rfl
def Azg(base:Nat):A2 AR→A2 (Nat×Nat)
 |[]=>[]
 |.d _::r=>Azg base r
 |.n m _ _::r=>(m,base+m)::Azg base r
 |.z m _ _::r=>(m,base+m)::Azg base r
def Azh(ns Fv:A2 Nat)(f:Nat→Nat):A2 (Nat×Ac)→Bool
 |[]=>true
 |p::r=>cond (cond (inl p.1 ns) true (cond (Nat.ble 1000 (f p.1)) (inl (f p.1) Fv) false)) (Azh ns Fv f r) false
theorem Aiz{ns Fv:A2 Nat}{f:Nat→Nat}:∀ {l:A2 (Nat×Ac)},Azh ns Fv f l=true→∀q∈l,q.1∈ns∨(1000≤f q.1∧f q.1∈Fv)
 |[],_,q,hq=>by cases hq
 |p::r,h,q,hq=>by
  obtain⟨h1,h2⟩:=Ap h;rcases Bkq.1 hq with rfl|hq
  ·cases hi:inl q.1 ns with
   |true=>exact .inl ((D3 _ _).1 hi)
   |false =>rw[hi,Bko]at h1;obtain⟨h3,h4⟩:=Ap h1;exact .inr ⟨Bl5 h3,(D3 _ _).1 h4⟩
  ·exact Aiz h2 q hq
def Bhm{P:Program}{R:Type}(S:ASp)(f:Nat→Nat)(Fv:A2 Nat)(st:Ad)(rd:A2 (Operand×XV))(xs:A2 XV)(l:A2 (Nat×Ac))(K:Out→A3 R)(y:S.Out):A3 R :=
 cond (Vr (xs.drop S.n)) (cond (O7 st.objs) (cond (Hy (l.map (·.1))) (cond (O7 (Mh S y)) (cond (Hy ((Mh S y).map (·.1))) (cond (Hy ((Mh S y).map fun q=>f q.1)) (cond (Wm ((Mh S y).map fun q=>f q.1))
  (cond (Azh (Zc S.ins) Fv f (Mh S y)) (cond (Wm Fv) (cond (O7 (A84 f (Mh S y) st.objs)) (cond (Aew ((Mh S y).map fun q=>f q.1) (Fv++Adg f (Mh S y)) st.objs)
  (K ⟨.all,(L8 (Arr S.res y.2)).mp f (fun n=>n),rd,A84 f (Mh S y) st.objs,st.live,Fv++Adg f (Mh S y),(Mh S y).map fun q=>f q.1⟩) none) none) none) none) none) none) none) none) none) none) none
def Bfa{P:Program}{R:Type}(S:ASp)(F:S.C1)(o:Oper)(st:Ad)(vs:A2 XV)(K:Out→A3 R):A3 R :=
 cond (Nat.beq (Bm o).length S.n) (match C5 st (Ard S.D8) with
  |some us=>Adc (Aet S.args vs (Azg (Adb o) S.res)) fun σ=>L9 (nf σ) S.args F (Are vs us) [] fun F' xs =>
    Bbv (nf σ) st.objs S.ins F' [] fun F'' l=>Option.bind F'' fun y=>A0q S.res y.2 fun z =>Bhm (P:=P) S (nf σ) ((Azg (Adb o) S.res).map (·.2)) st ((Are (Bm o) (Ard S.D8)).zip (mpL (nf σ) (fun n=>n) xs)) xs l K (y.1,z)
  |none=>none) none
theorem Avq:∀(L:A2 (Nat×Sh×A3 TypeId)) (x:Azb L),∀q∈Aev L x,∃S ty x,q.2=Ac.abs q.1 S ty x
 |[],_,q,hq=>by cases hq
 |p::r,x,q,hq=>by
  rcases Bkq.1 hq with rfl|hq
  ·exact⟨_,_,_,rfl⟩
  ·exact Avq r x.2 q hq
theorem Ab5:∀(L:A2 AR) (x:Afl L),∀q∈Tv L x,∃S ty x,q.2=Ac.abs q.1 S ty x
 |[],_,q,hq=>by cases hq
 |.d _::r,x,q,hq=>Ab5 r x.2 q hq
 |.n m S ty::r,x,q,hq=>by
  rcases Bkq.1 hq with rfl|hq
  ·exact⟨_,_,_,rfl⟩
  ·exact Ab5 r x.2 q hq
 |.z m S ty::r,x,q,hq=>by
  rcases Bkw.1 hq with hq|hq
  ·cases hx:x.1 with
   |none=>rw[hx]at hq;cases hq
   |some y=>rw[hx]at hq;rw[Bl7]at hq;subst hq;exact⟨_,_,_,rfl⟩
  ·exact Ab5 r x.2 q hq
theorem Ag1:∀(L:A2 AR) (x:Afl L),∀v∈Arr L x,(∃y,v = .d y)∨∃m,v = .nm m (.p 0)∧m∈(Tv L x).map (·.1)
 |[],_,v,hv=>by cases hv
 |.d t::r,x,v,hv=>by
  rcases Bkq.1 hv with rfl|hv
  ·exact .inl ⟨_,rfl⟩
  ·exact Ag1 r x.2 v hv
 |.n m S ty::r,x,v,hv=>by
  rcases Bkq.1 hv with rfl|hv
  ·exact .inr ⟨m,rfl,by simp[Tv]⟩
  ·rcases Ag1 r x.2 v hv with h|⟨m',h1,h2⟩
   ·exact .inl h
   ·exact .inr ⟨m',h1,by simp only[Tv,Bkv];exact Bkx _ h2⟩
 |.z m S ty::r,x,v,hv=>by
  rcases Bkq.1 hv with hv|hv
  ·cases hx:x.1 with
   |none=>rw[hx]at hv;exact .inl ⟨_,hv⟩
   |some y=>rw[hx]at hv;exact .inr ⟨m,hv,by simp[Tv,hx]⟩
  ·rcases Ag1 r x.2 v hv with h|⟨m',h1,h2⟩
   ·exact .inl h
   ·exact .inr ⟨m',h1,by simp only[Tv,Ble];exact Bl9 _ h2⟩
theorem Avr{ks:A2 Nat}{vs:A2 XV}(h:∀v∈vs,(∃y,v=XV.d y)∨∃m,v = .nm m (.p 0)∧m∈ks):Cj ks (L8 vs).a=true:=by
 have one:∀v∈vs,Cj ks v.a=true:=by
  intro v hv;rcases h v hv with ⟨y,rfl⟩|⟨m,rfl,hm⟩
  ·rfl
  ·exact Blz.2 hm
 have many:∀l:A2 XV,(∀v∈l,Cj ks v.a=true)→Bx ks (A9 l)=true:=by
  intro l;induction l with
  |nil=>intro _;rfl
  |cons x r ih=>intro h;simp only[A9,Bx,h x Bkz,ih fun v hv=>h v (Bkx _ hv),Bmo]
 rw[Qm];cases vs with
 |nil=>rfl
 |cons x r =>
  cases r with
  |nil=>exact one x Bkz
  |cons y r=>exact many _ one
theorem B4k{f0:Nat→Nat}{vs:A2 XV}(h:∀v∈vs,(∃y,v=XV.d y)∨∃m,v = .nm m (.p 0)∧m<H0):Ds (No f0) (L8 vs).a=((L8 vs).mp f0 (fun n=>n)).a:=by
 have one:∀v∈vs,Ds (No f0) v.a=(v.mp f0 (fun n=>n)).a:=by
  intro v hv;rcases h v hv with ⟨y,rfl⟩|⟨m,rfl,hm⟩
  ·rfl
  ·simp only[XV.a,XV.mp,Ds,Vs hm]
 have many:∀l:A2 XV,(∀v∈l,Ds (No f0) v.a=(v.mp f0 (fun n=>n)).a)→Dj (No f0) (A9 l)=A9 (mpL f0 (fun n=>n) l):=by
  intro l;induction l with
  |nil=>intro _;rfl
  |cons x r ih=>intro h;simp only[A9,Dj,mpL,h x Bkz,ih fun v hv=>h v (Bkx _ hv)]
 cases vs with
 |nil=>rfl
 |cons x r =>
  cases r with
  |nil=>exact one x Bkz
  |cons y r =>show Ds (No f0) (.E2 (A9 (x::y::r)))=_;simp only[Ds,many _ one];rfl
theorem B25{f0:Nat→Nat}:∀ {xs:A2 XV},Afm xs=true→Dj (No f0) (A9 xs)=A9 (mpL f0 (fun n=>n) xs)∧Eg (A9 xs)=true
 |[],_=>⟨rfl,rfl⟩
 |x::r,h=>by
  have key:(Ds (No f0) x.a=(x.mp f0 (fun n=>n)).a∧Yz x.a=true)∧Afm r=true:=by
   cases x with
   |d d=>exact⟨⟨rfl,rfl⟩,h⟩
   |nm k p =>
    cases p with
    |p off =>obtain⟨h1,h2⟩:=Ap h;rw[Bmk]at h1;exact⟨⟨by simp only[XV.a,XV.mp,Ds,Vs (A0p (show k<1000 by omega))],rfl⟩,h2⟩
    |m =>obtain⟨h1,h2⟩:=Ap h;rw[Bmk]at h1;exact⟨⟨by simp only[XV.a,XV.mp,Ds,Vs (A0p (show k<1000 by omega))],rfl⟩,h2⟩
    |_=>cases h
   |_=>cases h
  obtain⟨h1,h2⟩:=B25 (f0:=f0) key.2;exact⟨by simp only[A9,Dj,mpL,key.1.1,h1],by simp only[A9,Eg,key.1.2,h2,Bmo]⟩
theorem Bbw{P:Program}{R:Type}{id:FuncId}{S:ASp}{F:S.C1}(hc:Ez P id)(hs:B23 P id S F){o:Oper}{st:Ad}{Bt:Array Operand}{ts:Array TypeId}{vs:A2 XV}{K:Out→A3 R}{r:R}
  (ho:o.op = .call { callee:=.value (.func id),args:=Bt,argTypes:=ts }) (hv:C5 st Bt.toList=some vs) (h:Bfa (P:=P) S F o st vs K=some r):∃out,K out=some r∧Br P o st out:=by
 have e:Bm o=Bt.toList:=by simp[Bm,ho]
 unfold Bfa at h;rw[e]at h;cases hb:Nat.beq Bt.toList.length S.n with
 |false=>rw[hb]at h;cases h
 |true =>
 have hn:Bt.toList.length=S.n:=Bkr hb;rw[hb,Bkn]at h;split at h
 rotate_left
 ·cases h
 rename_i us hus;rw[A4v,A4v,Z3]at h;rw[Z3]at hus;rw[Uv]at h;generalize Aet S.args vs (Azg (Adb o) S.res)=σ at h;generalize (Azg (Adb o) S.res).map (·.2)=Fv at h;obtain⟨F',xs,q1,a1,h⟩:=Of (fl:=fun n=>n) S.args F (vs++us) [] [] hs .nil h;obtain⟨F'',l,q2,a2,h⟩:=B24 S.ins F' [] q1 (by simp) h;obtain⟨y,hy,h⟩:=Blr.1 h;rw[Bm0]at a1;rw[A53]at h;obtain⟨A33,Bjf,Ar3,B8u⟩:=q2 y hy;unfold Bhm at h;have c:∀ {a:Bool} {x:A3 R},cond a x none=some r→a=true∧x=some r:=by intro a x h;cases a<;>first|exact⟨rfl,h⟩|cases h
 obtain⟨Ali,h⟩:=c h;obtain⟨k1,h⟩:=c h;obtain⟨k2,h⟩:=c h;obtain⟨k3,h⟩:=c h;obtain⟨k4,h⟩:=c h;obtain⟨k5,h⟩:=c h;obtain⟨k6,h⟩:=c h;obtain⟨k7,h⟩:=c h;obtain⟨k8,h⟩:=c h;obtain⟨k9,h⟩:=c h;obtain⟨k10,h⟩:=c h;have e2:((y.1,y.2):S.Out)=y:=rfl;rw[e2]at *;have hl:A85 l:=.of Bjf (Cl k2) fun q hq=>(a2 q hq).1
 have ht:A85 (Mh S y):=.of k3 (Cl k4) fun q hq=>by
  rcases Bkw.1 hq with hq|hq
  ·exact Avq _ _ q hq
  ·exact Ab5 _ _ q hq
 have Tq:=Bbu (ns:=Zc S.ins) (f0:=nf σ) k1 hl ht A33 (fun k hk=>by
  unfold Mh;rw[Ble,A36];exact Bla _ hk) (fun q hq=>(a2 q hq).2) (Cl k5) (fun q hq=>Q9 k6 _ (Bl3 (f:=fun q:Nat×Ac=>nf σ q.1) hq)) (Aiz k7) k8 k9 k10
 have hxl:xs.length=Bt.toList.length+(S.D8.map Operand.global).length:=by have h1:=a1.length;have h2:=Hw (Li hv hus);rw[@List.length_append _ Bt.toList]at h2;omega
 have htk:(xs.take S.n).length=Bt.size:=by
  rw[Bm6,hxl];have:Bt.toList.length=Bt.size:=by simp
  omega
 refine⟨_,h,⟨a1.Ri (Li hv hus),?_,fun k x hk hx=>?_⟩⟩
 ·obtain⟨m1,m2⟩:=B25 (f0:=nf σ) Ar3;have hval:=Ag1 S.res y.2;have Bd9:∀m,m∈(Tv S.res y.2).map (·.1)→m∈(Mh S y).map (·.1):=fun m hm=>by unfold Mh;rw[Ble];exact Bl9 _ hm
  have:=Avn (No (nf σ)) _ ho hc B8u Tq (by rw[Ag,htk]) m2 (A0n Ali) ⟨(Mh S y).map (·.1),Avr fun v hv=>(hval v hv).imp (fun h=>h) fun⟨m,h1,h2⟩=>⟨m,h1,Bd9 m h2⟩,fun j hj=>by
   obtain⟨q,hq,rfl⟩:=Bl2.1 hj;exact ht.head hq⟩
  rw[B4k (f0:=nf σ) fun v hv=>(hval v hv).imp (fun h=>h) fun⟨m,h1,h2⟩=>⟨m,h1,by
   obtain⟨q,hq,rfl⟩:=Bl2.1 (Bd9 m h2);exact ht.low q hq⟩]at this
  have hz:B0 ((Bt.toList++S.D8.map Operand.global).zip (mpL (nf σ) (fun n=>n) xs))=Bt.toList.zip (Dj (No (nf σ)) (A9 (xs.take S.n)))++(S.D8.map Operand.global).zip (A9 (xs.drop S.n)):=by
   conv=>lhs;rw[← Bmt S.n xs]
   rw[Vp,Arl Ali,Bot (by rw[Aat,Blb,htk];simp),F2,Iy,Iy,m1]
  show Bp P o (B0 ((Bt.toList++S.D8.map Operand.global).zip (mpL (nf σ) (fun n=>n) xs))) st.X ⟨A6 (A84 (nf σ) (Mh S y) st.objs),st.live⟩ _ _;rw[hz];exact this
 ·rw[Sr]at hx
  ·exact hx
  ·intro q hq e;exact hk (Bl2.2 ⟨q,hq,e⟩)
def Bjg{P:Program}(id:FuncId)(S:ASp)(F:S.C1)(hc:Ez P id)(hs:B23 P id S F):Ga P where
 id:=id
 run:=Bfa (P:=P) S F
 ok:=by intro R o st Bt ts vs K r ho hv h;exact Bbw hc hs ho hv h
def mkA{P:Program}{Γ:A2 (Ga P)}{own:A2 Nat}{N:Nat}(id:FuncId)(fn:Func)(an:A2 Nat→An)(S:ASp)(F:S.C1)(hm:P.follows .mixedOrders=true)(hf:P.funcs[id]? = some fn)(hc:Ez P id)
  (hn:Nat.ble S.args.length fn.ntmps=true) (ha:Aex S.args=true) (hE:Bbs P Γ own N fn an S=F):Ga P:=Bjg id S F hc (hE▸Azf hm hf hn ha)
def Arv {P : Program} (Γ : List (Ga P)) (own : List Nat) (N : Nat) (id : FuncId) {fn : Func} (an : List Nat → An) (S : ASp) (F : S.C1) (hm : P.follows .mixedOrders = true) (hf : P.funcs[id]? = some fn) (hb : fn.body.isSome = true) (Wk : (fn.name == "runtime.NumGoroutine") = false) (hn : Nat.ble S.args.length fn.ntmps = true) (ha : Aex S.args = true) (hE : Bbs P Γ own N fn an S = F) : Ga P := mkA id fn an S F hm hf (.mk' hf hb Wk) hn ha hE
def Bda:XV→Bool
 |.d (.v (.pointer none))=>true
 |.d (.v (.map none))=>true
 |.d (.v (.slice none 0 0))=>true
 |_=>false
def Aj0:Nat→A2 XV→Bool
 |0,v::_=>Bda v
 |i+1,_::r=>Aj0 i r
 |_,[]=>false
def Aj1{P:Program}(id:FuncId)(sel:A2 XV→Bool)(e1 e2:Ga P)(h1:e1.id=id)(h2:e2.id=id):Ga P where
 id:=id
 run:=fun o st vs K=>cond (sel vs) (e1.run o st vs K) (e2.run o st vs K)
 ok:=by
  intro R o st args ts vs K r ho hv h;cases hs:sel vs with
  |true=>rw[hs,Bkn]at h;exact e1.ok o st args ts vs K r (h1▸ho) hv h
  |false=>rw[hs,Bko]at h;exact e2.ok o st args ts vs K r (h2▸ho) hv h
def Np{P:Program}(id:FuncId)(sel:Ad→A2 XV→Bool)(e1 e2:Ga P)(h1:e1.id=id)(h2:e2.id=id):Ga P where
 id:=id
 run:=fun o st vs K=>cond (sel st vs) (e1.run o st vs K) (e2.run o st vs K)
 ok:=by
  intro R o st args ts vs K r ho hv h;cases hs:sel st vs with
  |true=>rw[hs,Bkn]at h;exact e1.ok o st args ts vs K r (h1▸ho) hv h
  |false=>rw[hs,Bko]at h;exact e2.ok o st args ts vs K r (h2▸ho) hv h
def Bhn:Nat→A2 XV→Bool
 |0,v::_=>Bda v
 |j+1,_::r=>Bhn j r
 |_,[]=>false
def Lu(j:Nat)(st:Ad)(vs:A2 XV):Bool :=
 match vs with
 |.nm k _::_=>match lk k st.objs with
  |some (.cells cs _)=>Bhn j cs
  |_=>false
 |_=>false
def Bho(st:Ad)(vs:A2 XV):Bool :=
 match vs with
 |.nm k _::_=>match lk k st.objs with
  |some (.abs _ _ _ _)=>true
  |_=>false
 |_=>false
def Bhp(n:Nat)(st:Ad)(vs:A2 XV):Bool :=
 match vs with
 |.nm _ (.s _ l _)::_=>Nat.beq l n
 |_=>false
@[reducible] def Cx (kt vt:Ty) (b:Nat) (l:A2 (Nat×kt.T×vt.T)):A3 (Nat×kt.T×vt.T):=A2n (kt:=kt) (vt:=vt) b l
open Go.Sort Go.Proofs Go.Shelf Go.RowKit Go.Lib
theorem Ty.Plain.one{t:Ty}(h:t.Plain)(x:t.T):∀v∈t.Tc x,v.oneCell'=true:=by
 intro v hv;have h1:D.sc v∈t.ds x:=by rw[← h.Tc x];exact Bl3 (f:=D.sc) hv
 have:=t.V7 x _ h1;simpa[Zw]using this
theorem Ty.Plain.ra{t:Ty}(h:t.Plain)(ha:t.agg=true)(x:t.T)(g:Gh)(w:World):RA g w (XV.d (t.xv x)).a (.agg (t.Tc x).toArray):=by
 have e:(XV.d (t.xv x)).a = .d (.agg ((t.Tc x).map .sc)):=by show AV.d (t.dv x)=_;rw[t.A01 x ha,h.Tc]
 rw[e];refine .d _ _ (.agg _ _ (by simp) ?_);intro i c v hc hv;rw[Bkt,Bky]at hc;obtain⟨u,hu,rfl⟩:=hc;simp only[Bn8]at hv;rw[hu]at hv;cases hv;exact .sc _
theorem All{P:Program}{ρ:Ren}(L:SlLaysF0.n6 P ρ){f c:FuncId}(hf:ρ.f 6=f){T:Ty}(hp:T.Plain)(A5p:T.agg=true)(aE:∀w,(isAgg (ρ.t 24)).run P w = .ok true w)(zE:∀w,(Go.sizeOf (ρ.t 24)).run P w = .ok T.size w)
  (hci:Ez P f) (cf:T.T→T.T→Int) (hO:SWO (ltOf cf)) (hT:∀x y,(ltOf cf) x y=false→(ltOf cf) y x=false→x=y) (hcc:Ez P c)
  (Arw:∀x y,Lz P c (A9 [.d (T.xv x),.d (T.xv y)]) X0 (.d (.sc (.int .i64 (cf x y)))) X0):Ana P f c T (fun d=>d.mergeSort fun x y=>!(ltOf cf) y x) where
 plain:=hp
 ci:=hci
 len d:=by simp
 none p cap w:=by have:=Bpp L p cap (.func (.func c) #[] #[]) w;rw[hf]at this;exact this
 some:=by
  letI:=An9 T;intro l blk cap w hl hH Bki;have Atl:CmpLays P c #[] T.Tc T.size cf blk 0 l.toArray.size w:=by
   intro m os dk hs x y;have:=(Arw x y).grown (w:=sortWorldK T.Tc T.size w blk 0 m dk os) (vs:=#[.agg (T.Tc x).toArray,.agg (T.Tc y).toArray]) rfl (by
    intro i z v hz hv
    match i with
    |0=>simp[A9]at hz hv;subst hz;subst hv;exact hp.ra A5p x _ _
    |1=>simp[A9]at hz hv;subst hz;subst hv;exact hp.ra A5p y _ _
    |n+2=>simp[A9]at hz)
   simpa using this
  have:=AnyQ.slices_SortFunc_total L T.size aE zE T.Tc T.A30 hp.one cf hO c #[] blk 0 cap l.toArray w (D5 hcc) Atl hH Bki (by simp;omega) hT;rw[hf]at this;simpa using this
def B4l(T:Ty)(lt:T.T→T.T→Bool)(d:A2 T.T):A2 T.T :=
 letI:=An9 T
 (pdq lt d.toArray 0 d.length (Lib.bitLen d.length) true true).toList
theorem Ann{T:Ty}{lt:T.T→T.T→Bool}(hO:SWO lt)(d:A2 T.T):(B4l T lt d).Perm d∧(B4l T lt d).Pairwise (fun x y=>lt y x=false):=by
 letI:=An9 T;obtain⟨⟨h1,_,h2⟩,h3⟩:=pdq_sorts lt hO d.toArray 0 d.length (Lib.bitLen d.length) true true (Bnm _) (by simp) (Or.inl rfl);have e:(B4l T lt d)=(pdq lt d.toArray 0 d.length (Lib.bitLen d.length) true true).toList:=rfl;generalize pdq lt d.toArray 0 d.length (Lib.bitLen d.length) true true=a at *;simp only[Bnc]at h1;refine⟨?_,?_⟩
 ·rw[e];have h4:a.extract 0 d.length=a:=by rw[← h1];simp
  rw[h4]at h2;simpa using h2
 ·rw[e,Bmg];intro i j hi hj hij;have:=h3 i j (Bnm _) hij (by simpa[h1]using hj);simpa[hi,hj,show i<a.size by simpa using hi,show j<a.size by simpa using hj]using this
theorem Azi{P:Program}{ρ:Ren}(L:SlLaysF0.n6 P ρ){f c:FuncId}(hf:ρ.f 6=f){T:Ty}(hp:T.Plain)(A5p:T.agg=true)(aE:∀w,(isAgg (ρ.t 24)).run P w = .ok true w)(zE:∀w,(Go.sizeOf (ρ.t 24)).run P w = .ok T.size w)
  (hci:Ez P f) (cf:T.T→T.T→Int) (hO:SWO (ltOf cf)) (hcc:Ez P c)
  (Arw:∀x y,Lz P c (A9 [.d (T.xv x),.d (T.xv y)]) X0 (.d (.sc (.int .i64 (cf x y)))) X0):Ana P f c T (B4l T (ltOf cf)) where
 plain:=hp
 ci:=hci
 len d:=(Ann hO d).1.length_eq
 none p cap w:=by have:=Bpp L p cap (.func (.func c) #[] #[]) w;rw[hf]at this;exact this
 some:=by
  letI:=An9 T;intro l blk cap w hl hH Bki;have Atl:CmpLays P c #[] T.Tc T.size cf blk 0 l.toArray.size w:=by
   intro m os dk hs x y;have:=(Arw x y).grown (w:=sortWorldK T.Tc T.size w blk 0 m dk os) (vs:=#[.agg (T.Tc x).toArray,.agg (T.Tc y).toArray]) rfl (by
    intro i z v hz hv
    match i with
    |0=>simp[A9]at hz hv;subst hz;subst hv;exact hp.ra A5p x _ _
    |1=>simp[A9]at hz hv;subst hz;subst hv;exact hp.ra A5p y _ _
    |n+2=>simp[A9]at hz)
   simpa using this
  have:=AnyQ.slices_SortFunc_eq L T.size aE zE T.Tc T.A30 hp.one cf hO c #[] blk 0 cap l.toArray w (D5 hcc) Atl hH Bki (by simp;omega);rw[hf]at this;simpa[B4l]using this
theorem iter_eq{σ R:Type}{f:(σ→A3 R)→σ→A3 R}{G:σ→A3 R}(I:Nat→σ→Prop)
  (step:∀(n:Nat) (x:σ) (rec:σ→A3 R),I n x→(∀(m:Nat) (y:σ),m<n→I m y→rec y=G y)→f rec x=G x) :
  ∀(N n:Nat) (x:σ),I n x→n<N→iter f N x=G x
 |0,n,x,_,h=>absurd h (Brj _)
 |N+1,n,x,hi,h=>by
  simp only[iter];exact step n x _ hi fun m y hm hy=>iter_eq I step N m y hy (by omega)
theorem G2{σ R:Type}{f:(σ→A3 R)→σ→A3 R}{Q:R→Prop}(I:Nat→σ→Prop)
  (step:∀(n:Nat) (x:σ) (rec:σ→A3 R),I n x→(∀(m:Nat) (y:σ),m<n→I m y→∃r,rec y=some r∧Q r)→∃r,f rec x=some r∧Q r) :
  ∀(N n:Nat) (x:σ),I n x→n<N→∃r,iter f N x=some r∧Q r
 |0,n,x,_,h=>absurd h (Brj _)
 |N+1,n,x,hi,h=>by
  simp only[iter];exact step n x _ hi fun m y hm hy=>G2 I step N m y hy (by omega)
@[simp] theorem B8 {α:Type} (l:A2 α) (n:Nat):at? l (n:Int)=l[n]?:=rfl
theorem B26{n:Nat}(h:n<9223372036854775808):i64.wrap (n:Int)=(n:Int):=by exact Brv _ (by omega)
theorem Ah{n:Nat}(h:n+1<9223372036854775808):i64.wrap ((n:Int)+1)=((n+1:Nat):Int):=by rw[Brv _ (by omega)];rfl
theorem Oi{n:Nat}(h:0<n)(h':n<9223372036854775808):i64.wrap ((n:Int)-1)=((n-1:Nat):Int):=by rw[Brv _ (by omega)];omega
theorem Arx{R:Type}(len:Nat)(g:Nat→A3 R){f:((Int×Unit)×Unit×Unit×Unit→A3 R)→(Int×Unit)×Unit×Unit×Unit→A3 R}(start:Nat)
  (hs:∀(rec:(Int×Unit)×Unit×Unit×Unit→A3 R) (k:Nat),start≤k→k<len→rec ((((k+1:Nat):Int),()),(),(),())=g (k+1)→f rec (((k:Int),()),(),(),())=g k)
  (he:∀rec (k:Nat),len≤k→f rec (((k:Int),()),(),(),())=g k) (N:Nat) (hN:len<N):iter f N (((start:Int),()),(),(),())=g start:=by
 have:=iter_eq (f:=f) (G:=fun z=>g z.1.1.toNat) (fun n z=>∃k:Nat,z=(((k:Int),()),(),(),())∧start≤k∧n=len-k) (by
  rintro n z rec ⟨k,rfl,h1,h2⟩ ih;by_cases hk:k<len
  ·exact hs rec k h1 hk (ih (len-(k+1)) _ (by omega) ⟨k+1,rfl,by omega,rfl⟩)
  ·exact he rec k (by omega)) N (len-start) (((start:Int),()),(),(),()) ⟨start,rfl,Bl1 _,rfl⟩ (by omega)
 exact this
theorem Ary{R:Type}{x:A3 R}{t:R}(h:∃r,x=some r∧r=t):x=some t:=by obtain⟨r,h1,rfl⟩:=h;exact h1
theorem Ir{A X R:Type}(l:A2 X)(g:A→X→A)(a0:A)(fin:A→A3 R){f:((A×Int×Unit)×Unit×Unit×Unit→A3 R)→(A×Int×Unit)×Unit×Unit×Unit→A3 R}
  (hs:∀(rec:(A×Int×Unit)×Unit×Unit×Unit→A3 R) (k:Nat) (a:A) (hk:k<l.length),a=(l.take k).foldl g a0→f rec ((a,(k:Int),()),(),(),())=rec ((g a l[k],((k+1:Nat):Int),()),(),(),()))
  (he:∀(rec:(A×Int×Unit)×Unit×Unit×Unit→A3 R),f rec ((l.foldl g a0,(l.length:Int),()),(),(),())=fin (l.foldl g a0)) (N:Nat) (hN:l.length<N):iter f N ((a0,0,()),(),(),())=fin (l.foldl g a0):=by
 have:=iter_eq (f:=f) (G:=fun _=>fin (l.foldl g a0)) (fun n z=>∃k:Nat,z=(((l.take k).foldl g a0,(k:Int),()),(),(),())∧k≤l.length∧n=l.length-k) (by
  rintro n z rec ⟨k,rfl,h1,h2⟩ ih;by_cases hk:k<l.length
  ·rw[hs rec k _ hk rfl];refine ih (l.length-(k+1)) _ (by omega) ⟨k+1,?_,by omega,rfl⟩;have:l.take (k+1)=l.take k++[l[k]]:=by rw[Bmy,Bl8 hk];rfl
   rw[this,Bpy];rfl
  ·have:k=l.length:=by omega
   subst this;rw[Bm4];exact he rec) N l.length ((a0,((0:Nat):Int),()),(),(),()) ⟨0,by simp,by omega,rfl⟩ hN
 exact this
theorem foldl_filter{X:Type}(p:X→Bool):∀(l a:A2 X),l.foldl (fun a x=>cond (p x) (a++[x]) a) a=a++l.filter p
 |[],a=>by simp
 |x::r,a=>by
  simp only[Bmd,Bnk];rw[foldl_filter p r];cases p x<;>simp
theorem foldl_flatMap{X Y:Type}(h:X→A2 Y):∀(l:A2 X) (a:A2 Y),l.foldl (fun a x=>a++h x) a=a++l.flatMap h
 |[],a=>by simp
 |x::r,a=>by
  simp only[Bmd,Br5];rw[foldl_flatMap h r];simp
theorem fit{n bytes:Nat}(h:n*bytes≤140737488355328)(h2:n≤4611686018427387904):Aw n bytes=true:=by simp only[Aw,Bls,Bnp];exact⟨h,h2⟩
def Tg{α:Type}(lt:α→α→Bool)(l:A2 α):Prop:=l.Pairwise fun a b=>lt a b=true
theorem Tg.ext{α:Type}{lt:α→α→Bool}(ha:∀x y,lt x y=true→lt y x=false):∀ {l m:A2 α},Tg lt l→Tg lt m→(∀x,x∈l↔x∈m)→l=m
 |[],[],_,_,_=>rfl
 |[],b::m,_,_,h=>by have:=(h b).2 Bkz;simp at this
 |a::l,[],_,_,h=>by have:=(h a).1 Bkz;simp at this
 |a::l,b::m,hl,hm,h=>by
  have hl':=hl;have T4:=hm;simp only[Tg,Blp]at hl' T4;have irr:∀x,lt x x=false:=by
   intro x;cases hx:lt x x with
   |false=>rfl
   |true=>have:=ha x x hx;rw[hx]at this;cases this
  have hab:a=b:=by
   rcases Bkq.1 ((h a).1 Bkz)with e|e
   ·exact e
   ·rcases Bkq.1 ((h b).2 Bkz)with e'|e'
    ·exact e'.symm
    ·have h1:=T4.1 a e;have h2:=hl'.1 b e';rw[ha _ _ h1]at h2;cases h2
  subst hab;congr 1;refine Tg.ext ha hl'.2 T4.2 fun x=>?_
  have hx:=h x;simp only[Bkq]at hx;constructor
  ·intro hxl;rcases hx.1 (.inr hxl)with e|e
   ·subst e;have:=hl'.1 x hxl;rw[irr]at this;cases this
   ·exact e
  ·intro hxm;rcases hx.2 (.inr hxm)with e|e
   ·subst e;have:=T4.1 x hxm;rw[irr]at this;cases this
   ·exact e
def Tw{α:Type}(cf:α→α→Int):A2 α→Bool
 |[]=>true
 |x::r=>(r.all fun y=>ltOf cf x y||ltOf cf y x)&&Tw cf r
theorem Ux{α:Type}{cf:α→α→Int}:∀ {l:A2 α},Tw cf l=true↔l.Pairwise fun x y=>ltOf cf x y=true∨ltOf cf y x=true
 |[]=>by simp[Tw]
 |x::r=>by simp[Tw,Ux (l:=r),Blp]
def A1c{α:Type}(cf:α→α→Int)(l:A2 α):A2 α:=l.mergeSort fun x y=>!(ltOf cf) y x
theorem Ano{α:Type}{lt:α→α→Bool}(h:SWO lt)(x y:α)(h1:lt x y=true):lt y x=false:=by
 cases h2:lt y x with
 |false=>rfl
 |true=>have:=h.trans x y x h1 h2;rw[h.irrefl]at this;cases this
theorem Ep{α:Type}{cf:α→α→Int}(h:SWO (ltOf cf))(l:A2 α):(A1c cf l).Perm l∧(A1c cf l).Pairwise fun x y=>ltOf cf y x=false:=by
 refine⟨Bql _ _,?_⟩;have:=Bpu (le:=fun x y=>!(ltOf cf) y x) (by
  intro a b c h1 h2;simp only[Boy]at *;exact h.ntrans c b a h2 h1) (by
  intro a b;cases h1:ltOf cf b a with
  |false=>simp
  |true=>simp[Ano h _ _ h1]) l
 exact this.imp fun {x y} h=>by simpa using h
theorem Ya{α:Type}{cf:α→α→Int}{r l:A2 α}(hp:r.Perm l)(hd:Tw cf l=true)(hs:r.Pairwise fun x y=>ltOf cf y x=false):Tg (ltOf cf) r:=by
 have h1:r.Pairwise fun x y=>ltOf cf x y=true∨ltOf cf y x=true:=(hp.pairwise_iff (R:=fun x y=>ltOf cf x y=true∨ltOf cf y x=true) (fun {x y} h=>h.symm)).2 (Ux.1 hd)
 unfold Tg;refine(hs.and h1).imp fun {x y} h=>?_
 rcases h.2 with h2|h2
 ·exact h2
 ·rw[h.1]at h2;cases h2
theorem Uy{α:Type}{cf:α→α→Int}(h:SWO (ltOf cf)){r l:A2 α}(hd:Tw cf l=true)(hp:r.Perm l)(hs:r.Pairwise fun x y=>ltOf cf y x=false):r=A1c cf l:=by obtain⟨p,s⟩:=Ep h l;exact Tg.ext (Ano h) (Ya hp hd hs) (Ya p hd s) fun x=>by rw[hp.mem_iff,p.mem_iff]
structure A86(P:Program)(f c:FuncId)(T:Ty)(cf:T.T→T.T→Int)(ok:List T.T→Bool)(φ:List T.T→List T.T):Prop where
 ci:Ez P f
 agg:T.agg=true
 swo:SWO (ltOf cf)
 none:∀p cap w,Calls P f #[.slice p 0 cap,.func (.func c) #[] #[]] w fun e w'=>e = .returned (.tuple #[])∧w'=w
 cmp:∀x y,Lz P c (A9 [.d (T.xv x),.d (T.xv y)]) X0 (.d (.sc (.int .i64 (cf x y)))) X0
 any:Atk P f c T.size
 one:∀l,ok l=true→∀r:List T.T,r.Perm l→r.Pairwise (fun x y=>ltOf cf y x=false)→r=φ l
def Aj2{P:Program}{R:Type}(c:FuncId)(T:Ty)(ok:A2 T.T→Bool)(φ:A2 T.T→A2 T.T)(o:Oper)(st:Ad)(vs:A2 XV)(K:Out→A3 R):A3 R :=
 match Bm o,vs with
 |[s,x],[v,.Ff c' []]=>cond (Nat.beq c' c) (match v with
  |.os k t a len=>match lk k st.objs with
   |some (.arr u l)=>if h:u.Ji T=true then cond (t.Ji T) (cond (Nat.beq a 0) (cond (Nat.ble len l.length) (cond (Nat.ble len 4611686018427387903) (cond (ok ((Ty.Au h▸l:A2 T.T).take len))
     (K ⟨.put k (.arr T (φ ((Ty.Au h▸l:A2 T.T).take len)++(Ty.Au h▸l:A2 T.T).drop len)),.E2 [],[(s,.os k T 0 len),(x,.Ff c [])],
      K6 k (.arr T (φ ((Ty.Au h▸l:A2 T.T).take len)++(Ty.Au h▸l:A2 T.T).drop len)) st.objs,st.live,[],[k]⟩) none) none) none) none) none else none
   |_=>none
  |v=>match Rf (.sl T) v with
   |some []=>K (B5 st (.E2 []) [(s,.d (.sl T [])),(x,.Ff c [])])
   |_=>none) none
 |_,_=>none
theorem Avs{P:Program}{R:Type}{f c:FuncId}{T:Ty}{cf:T.T→T.T→Int}{ok:A2 T.T→Bool}{φ:A2 T.T→A2 T.T}(hS:A86 P f c T cf ok φ){o:Oper}{st:Ad}{Bt:Array Operand}{ts:Array TypeId}{vs:A2 XV}{K:Out→A3 R}{r:R}
  (ho:o.op = .call { callee:=.value (.func f),args:=Bt,argTypes:=ts }) (hv:C5 st Bt.toList=some vs) (h:Aj2 (P:=P) c T ok φ o st vs K=some r):∃out,K out=some r∧Br P o st out:=by
 have e:Bm o=Bt.toList:=by simp[Bm,ho]
 unfold Aj2 at h;rw[e]at h;split at h
 ·rename_i s x v c' hl;have ho':o.op = .call { callee:=.value (.func f),args:=#[s,x],argTypes:=ts }:=by rw[ho,← hl]
  rw[hl]at hv;obtain⟨hs,hv⟩:=F4 hv;obtain⟨hx,_⟩:=F4 hv;cases h1:Nat.beq c' c with
  |false=>simp[h1]at h
  |true =>
  have e1:=Bkr h1;subst e1;simp only[h1,Bkn]at h;have sx:E3 st.im x (.Ff c' []):=Aj hx;split at h
  ·rename_i k t a len;split at h
   ·rename_i u l hk;split at h
    ·rename_i hu;have e2:=Ty.Au hu;subst e2;cases h2:t.Ji u with
     |false=>simp[h2]at h
     |true =>
     cases h3:Nat.beq a 0 with
     |false=>simp[h2,h3]at h
     |true =>
     cases h4:Nat.ble len l.length with
     |false=>simp[h2,h3,h4]at h
     |true =>
     cases h5:Nat.ble len 4611686018427387903 with
     |false=>simp only[h2,h3,h4,h5,Bkn,Bko]at h;cases h
     |true =>
     cases h6:ok (l.take len) with
     |false=>simp only[h2,h3,h4,h5,h6,Bkn,Bko]at h;cases h
     |true =>
      simp only[h2,h3,h4,h5,h6,Bkn]at h;have e3:=Ty.Au h2;have e4:=Bkr h3;have e5:=Bl5 h4;have e6:=Bl5 h5;subst e3;subst e4;refine⟨_,h,⟨?_,⟨⟨Hb hk rfl rfl,rfl⟩,rfl,rfl,fun X hX=>?_⟩,?_⟩⟩
      ·intro p hp;simp only[B0,Bkv,Bll,Bkq,Blh,Bma]at hp;rcases hp with rfl|rfl
       ·exact Aj hs
       ·exact sx
      ·have Kz:X.objs.lookup k=some (.cells ((l.map t.ds).flatten.map .d) none):=by rw[hX,show st.X.objs.lookup k=_ from P3 hk];rfl
       have key:Bp P o (B0 [(s,.os k t 0 len),(x,.Ff c' [])]) X ⟨Ab.setObj k (Ac.arr t (φ (l.take len)++l.drop len)).o X.objs,X.live⟩ [] (XV.E2 []).a:=by
        have:=B6l (X:=X) (ds:=t.ds) (sz:=t.size) t.Cf t.V7 (φ (l.take len)) ho' hS.ci Kz e5 (by omega) (hS.one _ h6) hS.none hS.swo (fun x y=>by
         have:=hS.cmp x y;simp only[A9,XV.a]at this;have e:∀x:t.T,(XV.d (t.xv x)).a = .d (.agg (t.ds x)):=fun x=>by
          show AV.d (t.dv x)=_;rw[t.A01 x hS.agg]
         rw[← e x,← e y];exact this) hS.any
        simp only[B0,Bkv,Bll,XV.a,Bnt,A9];exact this
       exact key
      ·intro j y hj hy;simp only[Bl7]at hj;rw[Jl _ _ _ _ hj]at hy;exact hy
    ·cases h
   ·cases h
  ·rename_i v hne;split at h
   ·rename_i hd;refine⟨_,h,A8 ?_ fun X=>?_⟩
    ·intro p hp;simp only[B0,Bkv,Bll,Bkq,Blh,Bma]at hp;rcases hp with rfl|rfl
     ·exact P6 hs hd
     ·exact sx
    ·exact Ae5 ho' hS.ci hS.none
   ·cases h
 ·cases h
def Arz{P:Program}{f c:FuncId}{T:Ty}{cf:T.T→T.T→Int}{ok:A2 T.T→Bool}{φ:A2 T.T→A2 T.T}(hS:A86 P f c T cf ok φ):Ga P where
 id:=f
 run:=Aj2 (P:=P) c T ok φ
 ok:=by intro R o st Bt ts vs K r ho hv h;exact Avs hS ho hv h
theorem Azj{P:Program}{ρ:Shelf.Ren}(L:SlLaysF0.n6 P ρ){f c:FuncId}(hf:ρ.f 6=f){T:Ty}(A5p:T.agg=true)(aE:∀w,(isAgg (ρ.t 24)).run P w = .ok true w)(zE:∀w,(Go.sizeOf (ρ.t 24)).run P w = .ok T.size w)
  (hci:Ez P f) (cf:T.T→T.T→Int) (hO:SWO (ltOf cf)) (hcc:Ez P c)
  (Arw:∀x y,Lz P c (A9 [.d (T.xv x),.d (T.xv y)]) X0 (.d (.sc (.int .i64 (cf x y)))) X0):A86 P f c T cf (Tw cf) (A1c cf) where
 ci:=hci
 agg:=A5p
 swo:=hO
 cmp:=Arw
 none p cap w:=by have:=Bpp L p cap (.func (.func c) #[] #[]) w;rw[hf]at this;exact this
 any:=by intro α _ enc hk h1 cf hO blk cap d w hl hH hb hs;have:=AnyQ.slices_SortFunc L T.size aE zE enc hk h1 cf hO c #[] blk 0 cap d w (D5 hcc) hl hH hb hs;rw[hf]at this;exact this
 one l hd r hp hs:=Uy hO hd hp hs
section
variable{P:Program}{ρ:Ren}{f:FuncId}
structure B95(P:Program)(ρ:Ren)(f:FuncId):Prop where
 L:SlLaysF0.n14 P ρ
 none:∀(p:Option Addr) (cap:Nat) (fv:Value) (w:World),Calls P f #[.slice p 0 cap,fv] w fun e w'=>e = .returned (.tuple #[])∧w'=w
 some:∀(p:Value) (n lim:Nat) (cap:Nat) (q:Option Addr) (fv:Value) (w:World) (Q:Ending→World→Prop),p = .slice q n cap→n<4611686018427387904 →
  Calls P (ρ.f 15) #[.int .u64 (n:Int)] w (fun e w'=>e = .returned (.int .i64 (lim:Nat))∧w'=w) →
  Calls P (ρ.f 14) #[p,.int .i64 0,.int .i64 n,.int .i64 lim,fv] w (fun e w'=>e = .returned (.tuple #[])∧Q e w') →
  Calls P f #[p,fv] w fun e w'=>e = .returned (.tuple #[])∧Q e w'
theorem Aey(N:B95 P ρ f){c:FuncId}{T:Ty}(A5p:T.agg=true)(aE:∀w,(isAgg (ρ.t 24)).run P w = .ok true w)(zE:∀w,(Go.sizeOf (ρ.t 24)).run P w = .ok T.size w)
  (hci:Ez P f) (cf:T.T→T.T→Int) (hO:SWO (ltOf cf)) (hcc:Ez P c)
  (Arw:∀x y,Lz P c (A9 [.d (T.xv x),.d (T.xv y)]) X0 (.d (.sc (.int .i64 (cf x y)))) X0):A86 P f c T cf (Tw cf) (A1c cf) where
 ci:=hci
 agg:=A5p
 swo:=hO
 cmp:=Arw
 none p cap w:=N.none p cap _ w
 any:=by
  intro α _ enc hk h1 cf hO blk cap d w Arw hH Bki G9;have L:=N.L;have Bjh:Lib.bitLen d.size<4611686018427387904:=Nat.lt_of_le_of_lt (Lib.bitLen_le d.size 62 (by omega) (by omega)) (by omega);have hp:=AnyQ.pdqsortCmpFunc_all (P:=P) (ρ:=ρ) L T.size aE zE enc cf c #[] hO blk 0 cap d w (D5 hcc) Arw ⟨hk,h1,hH,Bki⟩ (d.size+1) 0 d.size (Lib.bitLen d.size) d w (by omega) rfl (SWK.start hH) (Bnm _) (Bl1 _) G9 Bjh (Or.inl rfl);have hl:Calls P (ρ.f 15) #[.int .u64 (d.size:Int)] w fun e w'=>e = .returned (.int .i64 (Lib.bitLen d.size:Nat))∧w'=w:=by
   have h:=Any.bits_Len (Br6 (P:=P) (ρ:=ρ) { L with }) (d.size:Int) w (by omega) (by omega)
   rwa [Bpx]at h
  refine(N.some _ d.size (Lib.bitLen d.size) cap _ _ w (fun e w'=>∃n os,w'=sortWorldK enc T.size w blk 0 n (pdq (ltOf cf) d 0 d.size (Lib.bitLen d.size) true true) os) rfl G9 hl (hp.mono ?_)).mono ?_
  ·rintro e w' ⟨he,n,os,hw⟩;exact⟨he,n,os,hw⟩
  ·rintro e w' ⟨he,n,os,hw⟩;have h:=pdq_sorts (ltOf cf) hO d 0 d.size (Lib.bitLen d.size) true true (Bnm _) (Bl1 _) (Or.inl rfl);exact⟨he,_,n,os,h.1,h.2,hw⟩
 one l hd r hp hs:=Uy hO hd hp hs
end
def mkNone{P:Program}(f:FuncId):Ga P where
 id:=f
 run:=fun _ _ _ _=>none
 ok:=by intros;contradiction
def Bhq:A2 XV→Bool
 |.os _ _ _ _::_=>true
 |_=>false
section
variable{kt vt:Ty}
theorem Aj3(hk:kt.key=true)(a:kt.T):kt.eqv a a=true:=(Ty.Lr kt a a hk).2 rfl
structure WfE(es:Fa kt vt)(Ih:Nat):Prop where
 born:(es.map (·.1)).Nodup
 lt:∀e∈es,e.1<Ih
 keys:(es.map (·.2.1)).Nodup
theorem WfE.nil(Ih:Nat):WfE (kt:=kt) (vt:=vt) [] Ih:=⟨by simp,by simp,by simp⟩
theorem WfE.tail{e:Nat×kt.T×vt.T}{es:Fa kt vt}{Ih:Nat}(h:WfE (e::es) Ih):WfE es Ih :=
 ⟨(Bm1.1 h.born).2,fun x hx=>h.lt x (by simp[hx]),(Bm1.1 h.keys).2⟩
theorem Adh(hk:kt.key=true)(a:kt.T)(v:vt.T)(c:Nat):∀(es:Fa kt vt) (x:kt.T),x∈(Jx a v c es).map (·.2.1)↔x=a∨x∈es.map (·.2.1)
 |[],x=>by simp[Jx]
 |e::r,x=>by
  simp only[Jx];cases he:kt.eqv a e.2.1 with
  |true =>
   have e1:=(Ty.Lr kt _ _ hk).1 he;simp only[Bkn,Bkv,Bkq,← e1];constructor
   ·rintro (h|h);exact .inl h;exact .inr (.inr h)
   ·rintro (h|h|h);exact .inl h;exact .inl h;exact .inr h
  |false =>
   have ih:=Adh hk a v c r x;simp only[Bko,Bkv,Bkq,ih];constructor
   ·rintro (h|h|h);exact .inr (.inl h);exact .inl h;exact .inr (.inr h)
   ·rintro (h|h|h);exact .inr (.inl h);exact .inl h;exact .inr (.inr h)
theorem Adi(a:kt.T)(v:vt.T)(c:Nat):∀(es:Fa kt vt) (x:Nat),x∈(Jx a v c es).map (·.1)→x∈es.map (·.1)∨(x=c∧Nn a es=none)
 |[],x,h=>by simp[Jx]at h;exact .inr ⟨h,rfl⟩
 |e::r,x,h=>by
  simp only[Jx]at h;cases he:kt.eqv a e.2.1 with
  |true=>simp only[he,Bkn,Bkv]at h;exact .inl h
  |false =>
   simp only[he,Bko,Bkv,Bkq]at h;rcases h with h|h
   ·exact .inl (by simp[h])
   ·rcases Adi a v c r x h with h|h
    ·exact .inl (Bkx _ h)
    ·exact .inr ⟨h.1,by simp only[Nn,he,Bko,h.2]⟩
theorem Anp(hk:kt.key=true){a:kt.T}:∀ {es:Fa kt vt},Nn a es=none↔a∉es.map (·.2.1)
 |[]=>by simp[Nn]
 |e::r=>by
  simp only[Nn,Bkv,Bkq,Bop];cases he:kt.eqv a e.2.1 with
  |true=>have e1:=(Ty.Lr kt _ _ hk).1 he;simp[e1]
  |false =>
   have:a≠e.2.1:=by rintro rfl;rw[Aj3 hk]at he;cases he
   simp only[Bko,Anp hk (es:=r)];exact⟨fun h=>⟨this,h⟩,fun h=>h.2⟩
theorem WfE.put(hk:kt.key=true){es:Fa kt vt}{Ih:Nat}(h:WfE es Ih)(a:kt.T)(v:vt.T):WfE (Jx a v Ih es) (R9 a es Ih):=by
 have key:∀ {es:Fa kt vt},WfE es Ih→((Jx a v Ih es).map (·.1)).Nodup∧((Jx a v Ih es).map (·.2.1)).Nodup:=by
  intro es h;induction es with
  |nil=>simp[Jx]
  |cons e r ih =>
   obtain⟨i1,i2⟩:=ih h.tail;have hb:=Bm1.1 h.born;have hkk:=Bm1.1 h.keys;simp only[Jx];cases he:kt.eqv a e.2.1 with
   |true =>have e1:=(Ty.Lr kt _ _ hk).1 he;simp only[Bkn,Bkv,e1];exact⟨h.born,h.keys⟩
   |false =>
    have hne:a≠e.2.1:=by rintro rfl;rw[Aj3 hk]at he;cases he
    simp only[Bko,Bkv,Bm1];refine⟨⟨fun hm=>?_,i1⟩,fun hm=>?_,i2⟩
    ·rcases Adi a v Ih r _ hm with hm|⟨hm,_⟩
     ·exact hb.1 hm
     ·have:=h.lt e (by simp);omega
    ·rcases(Adh hk a v Ih r _).1 hm with hm|hm
     ·exact hne hm.symm
     ·exact hkk.1 hm
 refine⟨(key h).1,fun e he=>?_,(key h).2⟩;have hb:=Adi a v Ih es e.1 (Bl3 he);unfold R9;rcases hb with hb|⟨hb,hn⟩
 ·obtain⟨x,hx,hx1⟩:=Bl2.1 hb;have:=h.lt x hx;split<;>omega
 ·rw[hn];simp only;omega
theorem Ab6(hk:kt.key=true){a:kt.T}{v:vt.T}:∀ {es:Fa kt vt},(es.map (·.2.1)).Nodup→(Nn a es=some v↔∃i,(i,a,v)∈es)
 |[],_=>by simp[Nn]
 |e::r,hn=>by
  have L0:=Bm1.1 hn;simp only[Nn,Bkq];cases he:kt.eqv a e.2.1 with
  |true =>
   have e1:=(Ty.Lr kt _ _ hk).1 he;simp only[Bkn,Bks];constructor
   ·intro h;exact⟨e.1,.inl (by rw[e1,← h])⟩
   ·rintro ⟨i,h|h⟩
    ·rw[← h]
    ·exact absurd (Bl2.2 ⟨_,h,e1⟩) L0.1
  |false =>
   simp only[Bko,Ab6 hk L0.2];have hne:a≠e.2.1:=by rintro rfl;rw[Aj3 hk]at he;cases he
   constructor
   ·rintro ⟨i,h⟩;exact⟨i,.inr h⟩
   ·rintro ⟨i,h|h⟩
    ·exact absurd (by rw[← h]) hne
    ·exact⟨i,h⟩
theorem A37(a:kt.T)(v:vt.T)(c:Nat):∀es:Fa kt vt,(Jx a v c es).length≤es.length+1
 |[]=>by simp[Jx]
 |e::r=>by
  simp only[Jx];have:=A37 a v c r;cases kt.eqv a e.2.1<;>simp<;>omega
end
section
variable{α:Type}
theorem Ag2{since last:Nat}{es:A2 (Nat×α)}(h:∀e∈es,e.1<since)(h':∀e∈es,e.1<last):Io since last es=true:=by unfold Io;rw[Bly];intro e he;simp[h e he,h' e he]
structure Zd(es d:List (Nat×α)):Prop where
 nd:(d.map (·.1)).Nodup
 sub:∀e∈d,e∈es
theorem Zd.nil(es:A2 (Nat×α)):Zd es []:=⟨by simp,by simp⟩
theorem Rr{es d:A2 (Nat×α)}{e:Nat×α}:e∈B4 (d.map (·.1)) es↔e∈es∧e.1∉d.map (·.1):=by unfold B4;rw[Blu];simp only[Boy,List.contains_eq_mem,Bpv]
theorem Zd.add{es d:A2 (Nat×α)}(h:Zd es d){e:Nat×α}(he:e∈B4 (d.map (·.1)) es):Zd es (d++[e]):=by
 obtain⟨h1,h2⟩:=Rr.1 he;refine⟨?_,?_⟩
 ·rw[Ble,Bpc];refine⟨h.nd,by simp,?_⟩;intro x hx y hy;simp at hy;subst hy;rintro rfl;exact h2 hx
 ·intro x hx;rcases Bkw.1 hx with hx|hx
  ·exact h.sub x hx
  ·simp at hx;subst hx;exact h1
theorem Zd.inj{es d:A2 (Nat×α)}(hb:(es.map (·.1)).Nodup){x y:Nat×α}(hx:x∈es)(hy:y∈es)(h:x.1=y.1):x=y:=by
 induction es with
 |nil=>simp at hx
 |cons z es ih =>
  rw[Bkv,Bm1]at hb;rcases Bkq.1 hx with ex|hx'<;>rcases Bkq.1 hy with ey|hy'
  ·exact ex.trans ey.symm
  ·subst ex;exact absurd (h▸Bl3 (f:=(·.1)) hy') hb.1
  ·subst ey;exact absurd (h▸Bl3 (f:=(·.1)) hx') hb.1
  ·exact ih hb.2 hx' hy'
theorem Uc{β:Type}(f:α→β):∀ {l:A2 α},(l.map f).Nodup→l.Nodup
 |[],_=>by simp
 |x::l,h=>by
  rw[Bkv,Bm1]at h;exact Bm1.2 ⟨fun hm=>h.1 (Bl3 hm),Uc f h.2⟩
theorem Zd.all{es d:A2 (Nat×α)}(h:Zd es d)(hb:(es.map (·.1)).Nodup)(hn:B4 (d.map (·.1)) es=[]):d.Perm es:=by
 classical
 refine(List.perm_ext_iff_of_nodup (Uc _ h.nd) (Uc _ hb)).2 fun x=>⟨h.sub x,fun hx=>?_⟩
 refine Br8 fun hd=>?_
 have:x∈B4 (d.map (·.1)) es:=Rr.2 ⟨hx,fun hm=>by
  obtain⟨y,hy,hy1⟩:=Bl2.1 hm;exact hd (Zd.inj (d:=d) hb (h.sub y hy) hx hy1▸hy)⟩
 rw[hn]at this;simp at this
theorem Avt{β:Type}:∀ {a l:A2 β},a.Nodup→(∀x∈a,x∈l)→a.length≤l.length
 |[],l,_,_=>by simp
 |x::a,l,hn,hs=>by
  classical
  rw[Bm1]at hn;have hx:x∈l:=hs x (by simp);have ih:=Avt (a:=a) (l:=l.erase x) hn.2 fun y hy=>(List.mem_erase_of_ne (by rintro rfl;exact hn.1 hy)).2 (hs y (by simp[hy]))
  rw[Brd hx]at ih;have:=Brp hx;simp only[Blg];omega
theorem Zd.len{es d:A2 (Nat×α)}(h:Zd es d):d.length≤es.length:=Avt (Uc _ h.nd) h.sub
theorem As0{σ R:Type}{es:A2 (Nat×α)}(hb:(es.map (·.1)).Nodup)(mk:A2 (Nat×α)→σ→Prop){f:(σ→A3 R)→σ→A3 R}(r:R)
  (hs:∀(rec:σ→A3 R) (d:A2 (Nat×α)) (z:σ),Zd es d→mk d z →
   (∀e∈B4 (d.map (·.1)) es,∀z',mk (d++[e]) z'→rec z'=some r)→f rec z=some r)
  (N:Nat) (hN:es.length<N) {z0:σ} (h0:mk [] z0):iter f N z0=some r:=by
 refine iter_eq (f:=f) (G:=fun _=>some r) (fun n z=>∃d,Zd es d∧mk d z∧n=es.length-d.length) ?_ N es.length z0 ⟨[],.nil _,h0,by simp⟩ hN;rintro n z rec ⟨d,hd,hz,rfl⟩ ih;refine hs rec d z hd hz fun e he z' hz'=>?_
 have hl:=(hd.add he).len;refine ih (es.length-(d++[e]).length) z' ?_ ⟨d++[e],hd.add he,hz',rfl⟩;simp only[Bme,Bn9]at hl⊢;omega
end
structure LO{α:Type}(lt eq:α→α→Bool):Prop where
 asymm:∀x y,lt x y=true→lt y x=false
 ntrans:∀x y z,lt x y=false→lt y z=false→lt x z=false
 eq_def:∀x y,eq x y=(!lt x y && !lt y x)
section
variable{α:Type}{lt eq:α→α→Bool}
theorem LO.Bhr(h:LO lt eq){x y z:α}(h1:lt x y=true)(h2:lt z y=false):lt x z=true:=by
 cases hx:lt x z with
 |true=>rfl
 |false=>have:=h.ntrans x z y hx h2;rw[h1]at this;cases this
theorem LO.eq_symm(h:LO lt eq)(x y:α):eq x y=eq y x:=by rw[h.eq_def,h.eq_def,Bool.and_comm]
def Th(lt:α→α→Bool)(x:α):A2 α→A2 α
 |[]=>[x]
 |y::r=>cond (lt x y) (x::y::r) (y::Th lt x r)
def Hc(lt:α→α→Bool)(l:A2 α):A2 α:=l.foldl (fun p x=>Th lt x p) []
def Asc(lt:α→α→Bool)(l:A2 α):Prop:=l.Pairwise fun a b=>lt b a=false
def As1(lt eq:α→α→Bool)(x:α)(q:A2 α):A2 α:=cond (q.any (eq x)) q (Th lt x q)
theorem Aj4{x z:α}{l:A2 α}:z∈Th lt x l↔z=x∨z∈l:=by
 induction l with
 |nil=>simp[Th]
 |cons y r ih =>
  simp only[Th];cases lt x y with
  |true=>simp
  |false=>simp[ih];constructor<;>rintro (h|h|h)<;>simp[h]
theorem Aez(x:α)(l:A2 α):(Th lt x l).length=l.length+1:=by
 induction l with
 |nil=>rfl
 |cons y r ih =>simp only[Th];cases lt x y<;>simp[ih]
theorem B96(h:LO lt eq){x:α}{l:A2 α}(hl:Asc lt l):Asc lt (Th lt x l):=by
 induction l with
 |nil=>simp[Th,Asc]
 |cons y r ih =>
  simp only[Asc,Blp]at hl⊢;simp only[Th];cases hx:lt x y with
  |true =>
   simp only[Bkn,Blp,Bkq];refine⟨?_,hl.1,hl.2⟩;rintro z (rfl|hz)
   ·exact h.asymm _ _ hx
   ·exact h.asymm _ _ (h.Bhr hx (hl.1 z hz))
  |false =>
   simp only[Bko,Blp];refine⟨fun z hz=>?_,ih hl.2⟩;rcases Aj4.1 hz with rfl|hz
   ·exact hx
   ·exact hl.1 z hz
theorem Azk(l:A2 α)(x:α):Hc lt (l++[x])=Th lt x (Hc lt l):=by simp[Hc]
theorem Anq(h:LO lt eq)(l:A2 α):Asc lt (Hc lt l):=by
 have:∀(l p:A2 α),Asc lt p→Asc lt (l.foldl (fun p x=>Th lt x p) p):=by
  intro l;induction l with
  |nil=>intro p hp;exact hp
  |cons y r ih=>intro p hp;exact ih _ (B96 h hp)
 exact this l [] (by simp[Asc])
theorem Ud(l:A2 α):(Hc lt l).length=l.length:=by
 have:∀(l p:A2 α),(l.foldl (fun p x=>Th lt x p) p).length=p.length+l.length:=by
  intro l;induction l with
  |nil=>intro p;simp
  |cons y r ih=>intro p;rw[Bmd,ih,Aez];simp;omega
 simpa[Hc]using this l []
theorem Anr{z:α}(l:A2 α):z∈Hc lt l↔z∈l:=by
 have:∀(l p:A2 α),z∈l.foldl (fun p x=>Th lt x p) p↔z∈p∨z∈l:=by
  intro l;induction l with
  |nil=>intro p;simp
  |cons y r ih=>intro p;rw[Bmd,ih,Aj4];simp;constructor<;>rintro (h|h)<;>grind
 simpa[Hc]using this l []
theorem Aj5{x y:α}{q:A2 α}(hx:lt x y=true):Th lt x (y::q)=x::y::q:=by simp[Th,hx]
theorem Ans{x y:α}{q:A2 α}(hx:lt x y=false):Th lt x (y::q)=y::Th lt x q:=by simp[Th,hx]
end
def As2{R:Type}(t:TypeId)(o:Oper)(st:Ad)(vs:A2 XV)(K:Out→A3 R):A3 R :=
 match Bm o,vs,Ah8 o with
 |[s,x],[.nm k (.p 0),.d (.i .i64 n)],some m=>match lk k st.objs with
  |some (.cells [c0,.d (.v (.slice none 0 0))] ty)=>cond (decide (0≤n)) (cond (decide (n≤140737488355328)) (cond (Qb m st.live st)
    (K ⟨.Nl k (.cells [c0,.Bu m .u8 [] (some t)] ty),.E2 [],[(s,.nm k (.p 0)),(x,.d (.i .i64 n))],K6 k (.cells [c0,.Bu m .u8 [] (some t)] ty) st.objs,m::st.live,[m],[k]⟩) none) none) none
  |_=>none
 |_,_,_=>none
theorem Azl{P:Program}{R:Type}{f:FuncId}{t:TypeId}(hf:Ez P f)(hC:B6n P f t){o:Oper}{st:Ad}{Bt:Array Operand}{ts:Array TypeId}{vs:A2 XV}{K:Out→A3 R}{r:R}
  (ho:o.op = .call { callee:=.value (.func f),args:=Bt,argTypes:=ts }) (hv:C5 st Bt.toList=some vs) (h:As2 t o st vs K=some r):∃out,K out=some r∧Br P o st out:=by
 have e:Bm o=Bt.toList:=by simp[Bm,ho]
 unfold As2 at h;rw[e]at h;split at h
 ·rename_i s x k n m hl hm;have ho':o.op = .call { callee:=.value (.func f),args:=#[s,x],argTypes:=ts }:=by rw[ho,← hl]
  rw[hl]at hv;obtain⟨hs,hv⟩:=F4 hv;obtain⟨hx,_⟩:=F4 hv;split at h
  ·rename_i c0 ty hk;cases h1:decide (0≤n) with
   |false=>simp[h1]at h
   |true =>
   cases h2:decide (n≤140737488355328) with
   |false=>simp[h1,h2]at h
   |true =>
   cases h3:Qb m st.live st with
   |false=>simp[h1,h2,h3]at h
   |true =>
    simp only[h1,h2,h3,Bkn]at h;have n1:0≤n:=Bpb h1;have n2:n≤140737488355328:=Bpb h2;obtain⟨f1,f2⟩:=Us h3;have hp:X2 k (.cells [c0,.Bu m .u8 [] (some t)] ty) st.objs=true:=Hb hk rfl rfl;refine⟨_,h,⟨?_,?_,fun j z hj hz=>?_⟩⟩
    ·intro p hp;simp only[B0,Bkv,Bll,Bkq,Blh,Bma]at hp;rcases hp with rfl|rfl
     ·exact Aj hs
     ·exact Aj hx
    ·refine⟨⟨hp,rfl⟩,?_⟩;show Bp P o _ st.X ⟨A6 (K6 k _ st.objs),_⟩ [m] _;rw[U6 hp];obtain⟨q,rfl⟩:∃q:Nat,n=(q:Int):=⟨n.toNat,by omega⟩;exact Bab (X:=st.X) ho' hf hC (by omega) (Ame hk) f1 f2
    ·simp only[Bkq,Blh,Bma]at hj
     rwa [Jl _ _ _ _ hj]at hz
  ·cases h
 ·cases h
def Bfb{P:Program}{f:FuncId}{t:TypeId}(hf:Ez P f)(hC:B6n P f t):Ga P where
 id:=f
 run:=As2 t
 ok:=by intro R o st Bt ts vs K r ho hv h;exact Azl hf hC ho hv h
def Ty.In:(t:Ty)→t.T→Prop
 |.int k,n=>(Lit.int k n).wf=true
 |.u8,_=>True
 |.bool,_=>True
 |.str,l=>l.length≤maxLen
 |.sl a,l=>l.length≤maxLen∧∀x∈l,a.In x
 |.unit,_=>True
 |.pair a b,x=>a.In x.1∧b.In x.2
 |.st1 a,x=>a.In x
 |.tab _,_=>True
 |.err,_=>True
 |.ic _ _,_=>True
 |.ptr,_=>True
def Alm(P:Program)(rec:TypeId→Ty→Bool):Nat→A2 Field→Ty→Bool
 |off,[f],.st1 a=>cond (Nat.beq f.offset off) (cond (Nat.beq (P.cellsOf f.type) a.size) (rec f.type a) false) false
 |off,[f,g],.pair a b=>cond (Nat.beq f.offset off) (cond (Nat.beq (P.cellsOf f.type) a.size) (cond (rec f.type a) (cond (Nat.beq g.offset (off+a.size)) (cond (Nat.beq (P.cellsOf g.type) b.size) (rec g.type b) false) false) false) false) false
 |off,f::g::h::r,.pair a b=>cond (Nat.beq f.offset off) (cond (Nat.beq (P.cellsOf f.type) a.size) (cond (rec f.type a) (Alm P rec (off+a.size) (g::h::r) b) false) false) false
 |_,_,_=>false
def opB(P:Program):Nat→TypeId→Ty→Bool
 |0,_,_=>false
 |n+1,t,ty =>
  match P.underlying t,ty with
  |some (.int k),.int k'=>cond (Il k k') true false
  |some (.int .u8),.u8=>true
  |some .bool,.bool=>true
  |some .string,.str=>true
  |some (.slice e),.sl a=>cond (Nat.beq (P.cellsOf e) a.size) (cond (Nat.ble 1 a.size) (opB P n e a) false) false
  |some (.struct fs),a=>cond a.agg (cond (Nat.beq (P.cellsOf t) a.size) (Alm P (opB P n) 0 fs.toList a) false) false
  |_,_=>false
def Vt(γ:Nat→Nat)(w:World)(ds:A2 D)(cs:A2 Value):Prop:=ds.length=cs.length∧∀(i:Nat) d v,ds[i]? = some d→cs[i]? = some v→RD γ w d v
theorem Vt.one{γ:Nat→Nat}{w:World}{d:D}{v:Value}(h:RD γ w d v):Vt γ w [d] [v]:=by
 refine⟨rfl,fun i e u he hu=>?_⟩;cases i with
 |zero=>simp at he hu;subst he;subst hu;exact h
 |succ i=>simp at he
theorem Vt.append{γ:Nat→Nat}{w:World}{a b:A2 D}{cs ds:A2 Value}(h:Vt γ w a cs)(h':Vt γ w b ds):Vt γ w (a++b) (cs++ds):=by
 refine⟨by simp[h.1,h'.1],fun i e u he hu=>?_⟩;rw[Bm2]at he hu;rw[← h.1]at hu;split at he
 ·rename_i Bs;rw[Blv Bs]at hu;exact h.2 i e u he hu
 ·rename_i hge;rw[Blj hge]at hu;exact h'.2 _ e u he hu
theorem cT{a b:Bool}(h:cond a b false=true):a=true∧b=true:=by cases a<;>simp at h;exact⟨rfl,h⟩
section
variable{H:Type}{enc:TypeId×Value→H}{P:Program}{W:World}
def OpR(P:Program)(W:World)(H:Type)(enc:TypeId×Value→H)(fuel:Nat)(rec:TypeId→Ty→Bool):Prop :=
 ∀(t:TypeId) (ty:Ty) (cs:A2 Value) (d:DataW H) (ps:A2 MemPlace),rec t ty=true→DataW.trod enc P W 0 (fun _=>true) true fuel t cs=some (d,ps) →
  ∃x:ty.T,ty.In x∧Vt (Q6 W) W (ty.ds x) cs
theorem take_split{α:Type}(l:A2 α)(off a b:Nat):(l.drop off).take (a+b)=(l.drop off).take a++(l.drop (off+a)).take b:=by rw[List.take_add,Bru]
theorem B27{fuel:Nat}{rec:TypeId→Ty→Bool}(hr:OpR P W H enc fuel rec){cs:A2 Value}:∀(fs:A2 Field) (off:Nat) (ty:Ty),Alm P rec off fs ty=true →
  (∀f∈fs,∃y,DataW.trod enc P W 0 (fun _=>true) true fuel f.type ((cs.drop f.offset).take (P.cellsOf f.type))=some y) →
  ∃x:ty.T,ty.In x∧Vt (Q6 W) W (ty.ds x) ((cs.drop off).take ty.size)
 |[],off,ty,h,hf=>by cases ty<;>simp[Alm]at h
 |[f],off,ty,h,hf=>by
  cases ty with
  |st1 a =>simp only[Alm]at h;obtain⟨h1,h⟩:=cT h;obtain⟨h2,h⟩:=cT h;have h1:=Bkr h1;have h2:=Bkr h2;obtain⟨y,hy⟩:=hf f (by simp);rw[h1,h2]at hy;exact hr f.type a _ _ _ h hy
  |_=>simp[Alm]at h
 |[f,g],off,ty,h,hf=>by
  cases ty with
  |pair a b =>simp only[Alm]at h;obtain⟨h1,h⟩:=cT h;obtain⟨h2,h⟩:=cT h;obtain⟨h3,h⟩:=cT h;obtain⟨h4,h⟩:=cT h;obtain⟨h5,h⟩:=cT h;have h1:=Bkr h1;have h2:=Bkr h2;have h4:=Bkr h4;have h5:=Bkr h5;obtain⟨y,hy⟩:=hf f (by simp);obtain⟨z,hz⟩:=hf g (by simp);rw[h1,h2]at hy;rw[h4,h5]at hz;obtain⟨x1,i1,c1⟩:=hr _ _ _ _ _ h3 hy;obtain⟨x2,i2,c2⟩:=hr _ _ _ _ _ h hz;refine⟨(x1,x2),⟨i1,i2⟩,?_⟩;simp only[Ty.ds,Ty.size];rw[take_split];exact c1.append c2
  |_=>simp[Alm]at h
 |f::g::k::r,off,ty,h,hf=>by
  cases ty with
  |pair a b =>simp only[Alm]at h;obtain⟨h1,h⟩:=cT h;obtain⟨h2,h⟩:=cT h;obtain⟨h3,h⟩:=cT h;have h1:=Bkr h1;have h2:=Bkr h2;obtain⟨y,hy⟩:=hf f (by simp);rw[h1,h2]at hy;obtain⟨x1,i1,c1⟩:=hr _ _ _ _ _ h3 hy;obtain⟨x2,i2,c2⟩:=B27 hr (g::k::r) (off+a.size) b h (fun q hq=>hf q (Bkx _ hq));refine⟨(x1,x2),⟨i1,i2⟩,?_⟩;simp only[Ty.ds,Ty.size];rw[take_split];exact c1.append c2
  |_=>simp[Alm]at h
theorem Avu{α β:Type}(p:Nat→β→α→Prop):∀(l:A2 β),(∀i y,l[i]? = some y→∃x,p i y x)→∃xs:A2 α,xs.length=l.length∧∀i y x,l[i]? = some y→xs[i]? = some x→p i y x:=by
 intro l;induction l generalizing p with
 |nil=>intro _;exact⟨[],rfl,by simp⟩
 |cons a r ih =>
  intro h;obtain⟨x,hx⟩:=h 0 a rfl;obtain⟨xs,h1,h2⟩:=ih (fun i=>p (i+1)) (fun i y hy=>h (i+1) y (by simpa using hy));refine⟨x::xs,by simp[h1],fun i y z hy hz=>?_⟩;cases i with
  |zero=>simp at hy hz;subst hy;subst hz;exact hx
  |succ i=>exact h2 i y z (by simpa using hy) (by simpa using hz)
theorem A87:∀(n fuel:Nat),OpR P W H enc fuel (opB P n)
 |0,fuel=>by intro t ty cs d ps ho;simp[opB]at ho
 |n+1,fuel=>by
  intro t ty cs d ps ho h;unfold opB at ho;split at ho
  ·rename_i k k' hu;obtain⟨hk,_⟩:=cT ho;have:=Fi hk;subst this;obtain⟨m,rfl,_,hw⟩:=DataW.trod_int hu h;exact⟨m,hw,.one (.sc _)⟩
  ·rename_i hu;obtain⟨m,rfl,_,hw⟩:=DataW.trod_int hu h;have hm:0≤m∧m≤255:=by simpa[Lit.wf,IntKind.wrap,IntKind.bits,IntKind.signed,IntKind.min,IntKind.max]using hw
   refine⟨UInt8.ofNat m.toNat,trivial,.one ?_⟩;have:(((UInt8.ofNat m.toNat).toNat:Nat):Int)=m:=by rw[Bqs];omega
   rw[this];exact .sc _
  ·rename_i hu;obtain⟨b,rfl,_⟩:=DataW.trod_bool hu h;exact⟨b,trivial,.one (.sc _)⟩
  ·rename_i hu;obtain⟨s,rfl,_,hw⟩:=DataW.trod_string hu h;exact⟨s.data.toList,by simpa[Ty.In]using hw,.one (.sc _)⟩
  ·rename_i e a hu;obtain⟨h1,ho⟩:=cT ho;obtain⟨h2,ho⟩:=cT ho;have h1:=Bkr h1;have h2:=Bl5 h2;rcases DataW.trod_slice hu h with ⟨rfl,_⟩|⟨ad,len,cap,elems,Bkh,m,rfl,rfl,_,hb,hl,hc,hel,Jv,_,_⟩
   ·exact⟨[],⟨by simp,by simp⟩,.one (.nil _ _ _ fun _=>rfl)⟩
   ·have key:∀i y,(List.range len)[i]? = some y→∃x:a.T,a.In x∧∃Wf,Wf.length=a.size∧Vt (Q6 W) W (a.ds x) Wf∧∀j,j<a.size→W.cell? ((ad.add (i*a.size)).add j)=Wf[j]?:=by
     intro i y hi;have Bs:i<len:=by have:=(Bku.1 hi).1;simpa using this
     have hc:=Jv i Bs;obtain⟨z,hz⟩:∃z,elems[i]? = some z:=⟨_,Bl8 (by omega)⟩;rw[hz,Blr,h1]at hc;obtain⟨Wf,hc1,hc2⟩:=hc;obtain⟨_,hcl,hcc⟩:=World.cells?_some hc1;obtain⟨x,hx1,hx2⟩:=A87 n m _ _ _ _ _ ho hc2;exact⟨x,hx1,Wf,hcl,hx2,hcc⟩
    obtain⟨xs,hxl,hx⟩:=Avu _ _ key;rw[Bqz]at hxl;have hxs:∀i x,xs[i]? = some x→a.In x∧∃Wf,Wf.length=a.size∧Vt (Q6 W) W (a.ds x) Wf∧∀j,j<a.size→W.cell? ((ad.add (i*a.size)).add j)=Wf[j]?:=by
     intro i x hi;have Bs:i<len:=by have:=(Bku.1 hi).1;omega
     exact hx i i x (by simp[Bs]) hi
    refine⟨xs,⟨by omega,fun x hm=>?_⟩,.one ?_⟩
    ·obtain⟨i,hi⟩:=Bn1.1 hm;exact(hxs i x hi).1
    ·rcases Bmu len with h0|h0
     ·have:xs=[]:=Bok (by omega);subst this;subst h0;exact .nil _ (some ad) cap (by simp)
     ·have spot:ad.spot=none:=by obtain⟨x0,hx0⟩:∃z,xs[0]? = some z:=⟨_,Bl8 (by omega)⟩;obtain⟨_,Wf,hl',_,hc'⟩:=hxs 0 x0 hx0;have:=hc' 0 (by omega);rw[Bl8 (by omega)]at this;have:=World.cell?_spot this;simpa[Addr.add]using this
      obtain⟨b,off,sp⟩:=ad;simp only at spot;subst spot;have B97:∀i x,xs[i]? = some x→∃Wf,Wf.length=a.size∧Vt (Q6 W) W (a.ds x) Wf∧∀j,j<a.size→W.cell? ⟨b,off+(i*a.size+j),none⟩=Wf[j]?:=by
       intro i x hi;obtain⟨_,Wf,hl',hd',hc'⟩:=hxs i x hi;refine⟨Wf,hl',hd',fun j hj=>?_⟩;have:=hc' j hj
       rwa [WideShapes.add_plain,WideShapes.add_plain,Bo0]at this
      refine .O3 (by simp[hxl]) ?_ hl ?_ ?_
      ·obtain⟨x,hx⟩:∃z,xs[len-1]? = some z:=⟨_,Bl8 (by omega)⟩;obtain⟨Wf,hl',_,hc'⟩:=B97 (len-1) x hx;have:=hc' (a.size-1) (by omega);rw[Bl8 (by omega)]at this;have:=Ati this;have e:len*a.size=(len-1)*a.size+a.size:=by rw[← Bna];congr 1;omega
       show off+len*a.size≤Q6 W b;omega
      ·intro i cs hi;rw[Bkt,Bky]at hi;obtain⟨x,_,rfl⟩:=hi;exact a.Cf x
      ·intro i j cs c u hi hj hu;rw[Bkt,Bky]at hi;obtain⟨x,hx,rfl⟩:=hi;obtain⟨Wf,hl',hd',hc'⟩:=B97 i x hx;have hjl:j<a.size:=by have:=(Bku.1 hj).1;rwa [a.Cf]at this
       rw[hc' j hjl]at hu;exact hd'.2 j c u hj hu
  ·rename_i fs hu;obtain⟨_,ho⟩:=cT ho;obtain⟨h2,ho⟩:=cT ho;have h2:=Bkr h2;obtain⟨xs,m,rfl,_,hl,hxl,hall⟩:=DataW.trod_struct hu h;obtain⟨x,hx1,hx2⟩:=B27 (A87 n m) (cs:=cs) fs.toList 0 _ ho (by
    intro f hf;obtain⟨i,hi⟩:=Bn1.1 hf;have Lp:fs[i]? = some f:=by simpa using hi
    have:=hall i f Lp;rw[this];have Bs:=(Blf.1 Lp).1;exact⟨_,Bl8 (by omega)⟩)
   refine⟨x,hx1,?_⟩;rw[Bo6,Bn3 (by omega)]at hx2;exact hx2
  ·cases ho
theorem open_arg{b0 n:Nat}{t:TypeId}{ty:Ty}{v:Value}{d:DataW H}{ps:A2 MemPlace}(ho:opB P n t ty=true)(hv:Value.okWide P W .any b0 t v)
  (h:DataW.Trod enc P W 0 (fun _=>true) true t v d ps):∃x:ty.T,ty.In x∧RA (full W) W (XV.d (ty.xv x)).a v:=by
 obtain⟨fuel,hf⟩:=h;obtain⟨x,h1,h2⟩:=A87 n fuel _ _ _ _ _ ho hf;refine⟨x,h1,.d _ _ ?_⟩;show RD (Q6 W) W (ty.dv x) v;cases A5p:ty.agg with
 |true =>
  rw[ty.A01 x A5p];have:∃fs,P.underlying t=some (.struct fs):=by
   cases n with
   |zero=>simp[opB]at ho
   |succ n =>unfold opB at ho;split at ho<;>simp_all [Ty.agg]
  obtain⟨fs,hu⟩:=this;obtain⟨cs,rfl,_⟩:=WideShapes.okWide_struct hu hv;simp only[Value.cells]at h2;exact .agg _ _ (by simpa using h2.1) fun i c u hc hu=>h2.2 i c u hc (by simpa using hu)
 |false =>
  rw[ty.A02 x A5p]at h2;have hv':v.cells=#[v]:=by
   have:=h2.1;cases v with
   |agg cs =>
    exfalso;cases n with
    |zero=>simp[opB]at ho
    |succ n =>
     unfold opB at ho;split at ho
     ·rename_i hu;obtain⟨_,e⟩:=WideShapes.okWide_int hu hv;cases e
     ·rename_i hu;obtain⟨_,e⟩:=WideShapes.okWide_int hu hv;cases e
     ·rename_i hu;obtain⟨_,e⟩:=WideShapes.okWide_bool hu hv;cases e
     ·rename_i hu;obtain⟨_,e⟩:=WideShapes.okWide_string hu hv;cases e
     ·rename_i hu;obtain⟨_,_,_,e⟩:=WideShapes.okWide_slice hu hv;cases e
     ·rw[A5p]at ho;simp at ho
     ·cases ho
   |_=>rfl
  rw[hv']at h2;exact h2.2 0 _ _ rfl rfl
end
def Avv:Lit→Value
 |.bool b=>.bool b
 |.int k n=>.int k n
 |.string s=>.string ⟨s.toArray⟩
 |.float k b=>.float k b
 |.nil=>.nilIface
theorem B98{H:Type}{enc:TypeId×Value→H}{P:Program}{w:World}{base:Nat}{sp:Nat→Bool}{Bkl:Bool}{fuel:Nat}{t:TypeId}{cs:A2 Value}{l:Lit}{p:A2 MemPlace}
  (h:DataW.trod enc P w base sp Bkl fuel t cs=some (.lit l,p)):cs=[Avv l]:=by
 cases fuel with
 |zero=>simp[DataW.trod]at h
 |succ m =>
  unfold DataW.trod at h;split at h<;>simp_all [Avv,Bky,Blr]
  all_goals first
   |(obtain⟨_,h,_⟩:=h;subst h;rfl)
   |(obtain⟨h,_⟩:=h;subst h;rfl)
   |(subst h;rfl)
   |(split at h<;>simp_all [Blr,Bky]<;>(try (obtain⟨_,_,_,_,h⟩:=h;split at h<;>simp_all)))
   |skip
theorem Azm{H:Type}{enc:TypeId×Value→H}{P:Program}{w:World}{base:Nat}{sp:Nat→Bool}{Bkl:Bool}{fuel:Nat}{t e:TypeId}{n:Nat}{cs:A2 Value}{ls:A2 Lit}{p:A2 MemPlace}
  (ht:P.underlying t=some (.array n e)) (he:P.cellsOf e=1) (hn:P.cellsOf t=ls.length) (L0:n=ls.length) (h:DataW.trod enc P w base sp Bkl fuel t cs=some (.agg (ls.map .lit),p)):cs=ls.map Avv:=by
 obtain⟨xs,m,rfl,hx,hl,hxl,hc⟩:=DataW.trod_array ht h;simp only[Bld,DataW.agg.injEq]at hx;apply Bny;intro i;by_cases hi:i<ls.length
 ·have h1:=hc i (by omega);have h2:(xs.map (·.1))[i]? = (ls.map DataW.lit)[i]?:=by rw[← hx.1]
  rw[Bl8 (l:=xs) (by omega)]at h1;simp only[Bkt,Bl8 (l:=xs) (show i<xs.length by omega),Bl8 hi,Blq,Bks]at h2;generalize xs[i]=x at h1 h2;obtain⟨x1,x2⟩:=x;simp only at h2;subst h2;have:=B98 h1;rw[he,Bp1]at this;have hd:(cs.drop i)[0]? = some (Avv ls[i]):=by
   have h3:((cs.drop i).take 1)[0]? = some (Avv ls[i]):=by rw[this];rfl
   simpa using h3
  simp only[Bm9,Bnr]at hd;rw[hd];simp[hi]
 ·rw[Bmp (by omega),Bmp (by simpa using hi)]
def Aj6:(ty:Ty)→ty.T→Lit
 |.int k,n=>.int k n
 |.u8,x=>.int .u8 (x.toNat:Int)
 |.bool,b=>.bool b
 |.str,l=>.string l
 |_,_=>.nil
def Bbx:Ty→Bool
 |.int _|.u8|.bool|.str=>true
 |_=>false
theorem Bhs{ty:Ty}(h:Bbx ty=true)(x:ty.T):ty.ds x=[.sc (Avv (Aj6 ty x))]:=by cases ty<;>simp[Bbx]at h<;>rfl
theorem B28{ty:Ty}(h:Bbx ty=true):∀(l:List ty.T),(l.map ty.ds).flatten=l.map fun x=>.sc (Avv (Aj6 ty x))
 |[]=>rfl
 |x::r=>by rw[Bkv,Bmj,B28 h r,Bhs h x];rfl
theorem laid_tab{P:Program}{laid:A2 (String×DataW Unit)}{w:World}(h:laidMetH P laid w)(n:String)(g t e k:Nat)(ty:Ty)(l:List ty.T)
  (hf:laid.filter (fun x=>x.1==n)=[(n,.agg (l.map fun x=>.lit (Aj6 ty x)))]) (hg:P.globalNamed n=some g) (ht:(P.globals[g]?).map (·.type)=some t)
  (hu:P.underlying t=some (.array k e)) (he:P.cellsOf e=1) (hn:P.cellsOf t=k) (hk:k=l.length) (hs:Bbx ty=true) :
  RA (full w) w (XV.d (.pa ty l)).a (.pointer (some ⟨g,0,none⟩)):=by
 have h1:=h.filter (fun x=>x.1==n);rw[hf]at h1;have h2:laidMet P [(n,.agg (l.map fun x=>.lit (Aj6 ty x)))] w:=h1;obtain⟨ps,hl,_,_⟩:=h2;obtain⟨g',t',cs,fuel,p,q,e1,e2,e3,e4,_,_⟩:=hl;rw[hg]at e1;cases e1;rw[ht]at e2;cases e2;have e4':DataW.trod (fun _=>()) P w 0 (fun _=>true) false fuel t cs.toList=some (.agg ((l.map (Aj6 ty)).map .lit),p):=by rw[Bnh];exact e4
 have hc:=Azm (ls:=l.map (Aj6 ty)) hu he (by simp;omega) (by simp;omega) e4';have Jv:∀i,w.cell? ⟨g,i,none⟩=(l.map fun x=>Avv (Aj6 ty x))[i]?:=by intro i;rw[World.var?_cell hg e3 i,← Bml,hc,Bnh];rfl
 refine .d _ _ ?_;show RD (Q6 w) w (.ep ((l.map ty.ds).flatten)) _;rw[B28 hs];refine .ep _ _ _ ?_ ?_
 ·rw[Blx,Blb];have h0:w.heap[g]? = some (.cells cs ((w.heap[g]?).elim 0 (fun b=>match b with|.cells _ t _=>t|_=>0)) ((w.heap[g]?).elim (0,0) (fun b=>match b with|.cells _ _ f=>f|_=>(0,0)))):=by
   unfold World.var? at e3;rw[hg,Bkp]at e3;split at e3
   ·rename_i Wf T fr hh;cases e3;rw[hh];rfl
   ·cases e3
  unfold Q6;rw[h0];have:cs.toList.length=l.length:=by rw[hc];simp
  simp at this;simp[this]
 ·intro j c v hc1 hc2;rw[Blx,Jv j]at hc2;simp only[Bkt,Bky]at hc1 hc2;obtain⟨x,hx,rfl⟩:=hc1;obtain⟨y,hy,rfl⟩:=hc2;rw[hx]at hy;cases hy;exact .sc _
theorem DoesG.lawAs{P:Program}{f:FuncId}{args:A2 AV}{gs:A2 (Nat×AV)}(h:DoesG P f args gs (.d (.sc (.bool true)))){w:World}{vs:Array Value}(ha:RAs (full w) w args vs.toList)(hg:GHold (full w) w gs) :
  Calls P f vs w fun e w'=>e = .returned (.bool true)∧Below w.heap.size w w':=by
 refine(h (full w) w vs (B0m w) hg (by have:=ha.get.1;simpa using this) fun i x v hx hv=>ha.get.2 i x v hx (by simpa using hv)).mono ?_;rintro e w' ⟨g',v,rfl,hr,h1⟩;refine⟨by rw[hr.Al],⟨h1.io.1,h1.io.2.2.1,h1.io.2.1,h1.base,fun b hb=>(h1.frame b hb ?_).1⟩⟩;rintro (⟨k,o,hk,_⟩|⟨n,hn⟩)
 ·simp[X0]at hk
 ·simp[full]at hn
theorem GHold.nil(g:Gh)(w:World):GHold g w []:=by intro p hp;cases hp
theorem GHold.cons{g:Gh}{w:World}{k:Nat}{a:AV}{gs:A2 (Nat×AV)}(h:RA g w a (.pointer (some ⟨k,0,none⟩)))(h':GHold g w gs):GHold g w ((k,a)::gs):=by
 intro p hp;rcases Bkq.1 hp with rfl|hp
 ·exact h
 ·exact h' p hp
end Go.Xl
namespace Go.Proofs.Pc
abbrev Ct:Type:=Int×Int
def Dl(r:Ct):Bool:=decide (1≤r.1)&&decide (r.1≤r.2)&&decide (r.2≤281474976710655)
def inR(r:Ct)(n:Int):Bool:=Dl r&&decide (r.1≤n)&&decide (n≤r.2)
def Ec(l:A2 Ct)(n:Int):Bool:=l.any fun r=>inR r n
theorem C6{r:Ct}:Dl r=true↔1≤r.1∧r.1≤r.2∧r.2≤281474976710655:=by simp[Dl,Bs0]
theorem Jn{r:Ct}{n:Int}:inR r n=true↔Dl r=true∧r.1≤n∧n≤r.2:=by simp[inR,Bs0]
theorem Fm{l:A2 Ct}{n:Int}:Ec l n=true↔∃r∈l,Dl r=true∧r.1≤n∧n≤r.2:=by simp[Ec,Jn]
theorem D4(a b:A2 Ct)(n:Int):Ec (a++b) n=(Ec a n||Ec b n):=by simp[Ec]
theorem Ue(n:Int):Ec [] n=false:=rfl
theorem Qp(r:Ct)(a:A2 Ct)(n:Int):Ec (r::a) n=(inR r n||Ec a n):=rfl
theorem B4m{l:A2 Ct}{n:Int}(h:Ec l n=true):1≤n∧n≤281474976710655:=by obtain⟨r,_,hm,h1,h2⟩:=Fm.1 h;rw[C6]at hm;omega
structure E6(out:List Ct):Prop where
 may:∀r∈out,Dl r=true
 apart:out.Pairwise fun a b=>a.2+1<b.1
theorem E6.nil:E6 []:=⟨by simp,by simp⟩
theorem E6.tail{r:Ct}{l:A2 Ct}(h:E6 (r::l)):E6 l:=⟨fun x hx=>h.may x (by simp[hx]),(Blp.1 h.apart).2⟩
theorem E6.head{r:Ct}{l:A2 Ct}(h:E6 (r::l)):(1≤r.1∧r.1≤r.2∧r.2≤281474976710655)∧∀n,Ec l n=true→r.2+1<n:=by refine⟨C6.1 (h.may r (by simp)),fun n hn=>?_⟩;obtain⟨q,hq,_,h1,_⟩:=Fm.1 hn;have:=(Blp.1 h.apart).1 q hq;omega
theorem E6.least{r:Ct}{l:A2 Ct}(h:E6 (r::l)){n:Int}(hn:Ec (r::l) n=true):r.1≤n:=by
 obtain⟨h1,h2⟩:=h.head;rw[Qp,Bms]at hn;rcases hn with hn|hn
 ·exact(Jn.1 hn).2.1
 ·have:=h2 n hn;omega
theorem E6.A88{r:Ct}{l:A2 Ct}(h:E6 (r::l)){n:Int}(h1:r.1≤n)(h2:n≤r.2):Ec (r::l) n=true:=by rw[Qp,Bms];exact .inl (Jn.2 ⟨h.may r (by simp),h1,h2⟩)
theorem E6.gap{r:Ct}{l:A2 Ct}(h:E6 (r::l)):Ec (r::l) (r.2+1)=false:=by
 cases hc:Ec (r::l) (r.2+1) with
 |false=>rfl
 |true =>
  rw[Qp,Bms]at hc;rcases hc with hc|hc
  ·have:=(Jn.1 hc).2.2;omega
  ·have:=h.head.2 _ hc;omega
theorem E6.ext:∀ {a b:A2 Ct},E6 a→E6 b→(∀n,Ec a n=Ec b n)→a=b
 |[],[],_,_,_=>rfl
 |[],r::b,_,hb,h=>by
  have:=hb.A88 (Bpz _) hb.head.1.2.1;rw[← h,Ue]at this;cases this
 |r::a,[],ha,_,h=>by
  have:=ha.A88 (Bpz _) ha.head.1.2.1;rw[h,Ue]at this;cases this
 |r::a,q::b,ha,hb,h=>by
  have e1:r.1=q.1:=by have x1:=ha.least (by rw[h];exact hb.A88 (Bpz _) hb.head.1.2.1);have x2:=hb.least (by rw[← h];exact ha.A88 (Bpz _) ha.head.1.2.1);omega
  have e2:r.2=q.2:=by
   rcases Int.lt_trichotomy r.2 q.2 with Bs|heq|hgt
   ·have x1:=ha.gap;have hh:=ha.head.1;rw[h,hb.A88 (by omega) (by omega)]at x1;cases x1
   ·exact heq
   ·have x1:=hb.gap;have hh:=hb.head.1;rw[← h,ha.A88 (by omega) (by omega)]at x1;cases x1
  have e:r=q:=Prod.ext e1 e2;subst e;congr 1;refine E6.ext ha.tail hb.tail fun n=>?_
  have hn:=h n;rw[Qp,Qp]at hn;cases hr:inR r n with
  |false=>simpa[hr]using hn
  |true =>
   have h1:Ec a n=false:=by
    cases hc:Ec a n with
    |false=>rfl
    |true=>have:=ha.head.2 n hc;have:=(Jn.1 hr).2.2;omega
   have h2:Ec b n=false:=by
    cases hc:Ec b n with
    |false=>rfl
    |true=>have:=hb.head.2 n hc;have:=(Jn.1 hr).2.2;omega
   rw[h1,h2]
theorem Ant{α:Type}[BEq α][LawfulBEq α]:∀ {a l:A2 α},a.Nodup→(∀x∈a,x∈l)→a.length≤l.length
 |[],l,_,_=>by simp
 |x::a,l,hn,hs=>by
  rw[Bm1]at hn;have hx:x∈l:=hs x (by simp);have ih:=Ant (a:=a) (l:=l.erase x) hn.2 fun y hy=>(List.mem_erase_of_ne (by rintro rfl;exact hn.1 hy)).2 (hs y (by simp[hy]))
  rw[Brd hx]at ih;have:=Brp hx;simp only[Blg];omega
theorem E6.short{a l:A2 Ct}(ha:E6 a)(h:∀n,Ec a n=Ec l n):a.length≤l.length:=by
 have nd:(a.map (·.1)).Nodup:=by
  have hap:=ha.apart;have hmy:=ha.may;clear h ha;induction a with
  |nil=>simp
  |cons r a ih =>rw[Blp]at hap;rw[Bkv,Bm1];refine⟨fun hm=>?_,ih hap.2 fun x hx=>hmy x (by simp[hx])⟩;obtain⟨q,hq,he⟩:=Bl2.1 hm;have h1:=hap.1 q hq;have h2:=C6.1 (hmy r (by simp));omega
 have sub:∀x∈a.map (·.1),x∈l.map (·.1):=by
  intro x hx;obtain⟨r,hr,rfl⟩:=Bl2.1 hx;have hm:=C6.1 (ha.may r hr);have hc:Ec a r.1=true:=Fm.2 ⟨r,hr,ha.may r hr,by omega,by omega⟩;rw[h]at hc;obtain⟨q,hq,hqm,q1,q2⟩:=Fm.1 hc;have Bkb:=C6.1 hqm;refine Bl2.2 ⟨q,hq,?_⟩;rcases Int.lt_or_le q.1 r.1 with Bs|hge
  ·exfalso;have hc2:Ec a (r.1-1)=true:=by rw[h];exact Fm.2 ⟨q,hq,hqm,by omega,by omega⟩
   obtain⟨p,hp,hpm,p1,p2⟩:=Fm.1 hc2;have key:∀ {l:A2 Ct},l.Pairwise (fun a b:Ct=>a.2+1<b.1)→∀x∈l,∀y∈l,x=y∨x.2+1<y.1∨y.2+1<x.1:=by
    intro l hl;induction l with
    |nil=>intro x hx;simp at hx
    |cons z l ih =>
     rw[Blp]at hl;intro x hx y hy;rcases Bkq.1 hx with ex|hx'<;>rcases Bkq.1 hy with ey|hy'
     ·exact .inl (ex.trans ey.symm)
     ·subst ex;exact .inr (.inl (hl.1 y hy'))
     ·subst ey;exact .inr (.inr (hl.1 x hx'))
     ·exact ih hl.2 x hx' y hy'
   rcases key ha.apart p hp r hr with rfl|h1|h1
   ·omega
   ·omega
   ·have:=C6.1 hpm;omega
  ·omega
 have:(a.map (·.1)).length≤(l.map (·.1)).length:=Ant nd sub;simpa using this
def Fz(out:A2 Ct)(x:Ct):A2 Ct :=
 match out.getLast? with
 |none=>[x]
 |some e=>if x.1≤e.2+1 then out.set (out.length-1) (e.1,if x.2>e.2 then x.2 else e.2)else out++[x]
theorem A54(x:Ct):Fz [] x=[x]:=rfl
theorem Rs(o:A2 Ct)(e x:Ct):Fz (o++[e]) x=if x.1≤e.2+1 then o++[(e.1,if x.2>e.2 then x.2 else e.2)]else (o++[e])++[x]:=by
 simp only[Fz,Bpi,Bp6,Boh];split
 ·simp
 ·rfl
theorem I2{α:Type}(l:A2 α):l=[]∨∃o e,l=o++[e]:=by
 rcases Bqa l with h|⟨o,e,h⟩
 ·exact .inl h
 ·exact .inr ⟨o,e,by simpa using h⟩
theorem A38{out:A2 Ct}{x:Ct}(h:E6 out)(hx:Dl x=true)(hle:∀r∈out,r.1≤x.1) :
  E6 (Fz out x)∧(∀n,Ec (Fz out x) n=(Ec out n||inR x n))∧(∀r∈Fz out x,r.1≤x.1):=by
 rcases I2 out with rfl|⟨o,e,rfl⟩
 ·rw[A54];refine⟨⟨by simpa using hx,by simp⟩,fun n=>by simp[Ec],by simp⟩
 ·have he:=h.may e (by simp);have hee:=hle e (by simp);rw[C6]at he hx;have hap:=h.apart;rw[Bn4]at hap;obtain⟨p1,_,p3⟩:=hap;rw[Rs];split
  ·rename_i hm;refine⟨⟨?_,?_⟩,?_,?_⟩
   ·intro r hr;rcases Bkw.1 hr with hr|hr
    ·exact h.may r (by simp[hr])
    ·simp at hr;subst hr;rw[C6];simp only;split<;>omega
   ·rw[Bn4];refine⟨p1,by simp,?_⟩;intro a ha b hb;simp at hb;subst hb;exact p3 a ha e (by simp)
   ·intro n;rw[D4,D4];have:Ec [(e.1,if x.2>e.2 then x.2 else e.2)] n=(Ec [e] n||inR x n):=by rw[Bmb];simp only[Ec,Boj,Bp3,Bov,Bms,Jn,C6];split<;>constructor<;>intro hh<;>omega
    rw[this,Bqx]
   ·intro r hr;rcases Bkw.1 hr with hr|hr
    ·exact hle r (by simp[hr])
    ·simp at hr;subst hr;exact hee
  ·rename_i hm;refine⟨⟨?_,?_⟩,?_,?_⟩
   ·intro r hr;rcases Bkw.1 hr with hr|hr
    ·exact h.may r hr
    ·simp at hr;subst hr;rw[C6];exact hx
   ·rw[Bn4];refine⟨h.apart,by simp,?_⟩;intro a ha b hb;simp at hb;subst hb;rcases Bkw.1 ha with ha|ha
    ·have:=p3 a ha e (by simp);omega
    ·simp at ha;subst ha;omega
   ·intro n;rw[D4];simp[Ec]
   ·intro r hr;rcases Bkw.1 hr with hr|hr
    ·exact hle r hr
    ·simp at hr;subst hr;omega
theorem Rt:∀(s out:A2 Ct),E6 out→(∀x∈s,Dl x=true)→s.Pairwise (fun x y=>x.1≤y.1)→(∀r∈out,∀x∈s,r.1≤x.1) →
  E6 (s.foldl Fz out)∧∀n,Ec (s.foldl Fz out) n=(Ec out n||Ec s n)
 |[],out,h,_,_,_=>⟨h,fun n=>by simp[Ue]⟩
 |x::s,out,h,hs,hp,hle=>by
  obtain⟨h1,h2,h3⟩:=A38 h (hs x (by simp)) fun r hr=>hle r hr x (by simp)
  rw[Blp]at hp;obtain⟨i1,i2⟩:=Rt s (Fz out x) h1 (fun y hy=>hs y (by simp[hy])) hp.2 (fun r hr y hy=>by
   have:=h3 r hr;have:=hp.1 y hy;omega)
  refine⟨i1,fun n=>?_⟩;rw[Bmd,i2 n,h2 n,Qp,Bqx]
theorem Aj7{a b:A2 Ct}(h:a.Perm b)(n:Int):Ec a n=Ec b n:=by
 rw[Bmb,Fm,Fm];constructor<;>rintro ⟨r,hr,hh⟩
 ·exact⟨r,h.mem_iff.1 hr,hh⟩
 ·exact⟨r,h.mem_iff.2 hr,hh⟩
theorem A89(l:A2 Ct)(n:Int):Ec (l.filter Dl) n=Ec l n:=by
 rw[Bmb,Fm,Fm];constructor
 ·rintro ⟨r,hr,hh⟩;exact⟨r,(Blu.1 hr).1,hh⟩
 ·rintro ⟨r,hr,hh⟩;exact⟨r,Blu.2 ⟨hr,hh.1⟩,hh⟩
theorem A0r(out:A2 Ct)(x:Ct):(Fz out x).length≤out.length+1:=by
 rcases I2 out with rfl|⟨o,e,rfl⟩
 ·simp[Fz]
 ·rw[Rs];split<;>simp
theorem Ss:∀(s out:A2 Ct),(s.foldl Fz out).length≤out.length+s.length
 |[],out=>by simp
 |x::s,out=>by
  have:=Ss s (Fz out x);have:=A0r out x;simp only[Bmd,Blg];omega
def Nq(l:A2 Ct):A2 Ct:=((l.filter Dl).mergeSort fun x y=>decide (x.1≤y.1)).foldl Fz []
theorem Aj8(l:A2 Ct):E6 (Nq l)∧∀n,Ec (Nq l) n=Ec l n:=by
 have p1:=Bql (l.filter Dl) fun x y=>decide (x.1≤y.1)
 have p2:=Bpu (le:=fun x y:Ct=>decide (x.1≤y.1)) (by intro a b c h1 h2;simp at *;omega) (by intro a b;simp;omega) (l.filter Dl);obtain⟨h1,h2⟩:=Rt _ [] .nil (fun x hx=>(Blu.1 (p1.mem_iff.1 hx)).2) (p2.imp fun {x y} h=>by simpa using h) (by simp);refine⟨h1,fun n=>?_⟩;unfold Nq;rw[h2 n,Ue,Bou,Aj7 p1,A89]
theorem Vu(l:A2 Ct):E6 (Nq l):=(Aj8 l).1
theorem Qq(l:A2 Ct)(n:Int):Ec (Nq l) n=Ec l n:=(Aj8 l).2 n
theorem Su(l:A2 Ct):(Nq l).length≤l.length:=(Vu l).short (Qq l)
theorem As3{r l:A2 Ct}(h:E6 r)(hc:∀n,Ec r n=Ec l n):r=Nq l:=h.ext (Vu l) fun n=>by rw[hc,Qq]
theorem Avw{a b:A2 Ct}(h:∀n,Ec a n=Ec b n):Nq a=Nq b:=(Vu a).ext (Vu b) fun n=>by rw[Qq,Qq,h]
theorem Bby{l:A2 Ct}(h:E6 l):Nq l=l:=(As3 h fun _=>rfl).symm
theorem Ab7:Nq []=[]:=Bby .nil
theorem Avx(a b:A2 Ct):Nq (Nq a++b)=Nq (a++b):=Avw fun n=>by rw[D4,D4,Qq]
theorem B4n(a b:A2 Ct):Nq (a++Nq b)=Nq (a++b):=Avw fun n=>by rw[D4,D4,Qq]
abbrev Part:Type:=Int×A2 Ct
def tl(c:A2 Part)(dev:Int):A2 Ct:=(c.filter fun p=>p.1==dev).flatMap (·.2)
def A5u(c:A2 Part)(d n:Int):Bool:=decide (0<d)&&Ec (tl c d) n
theorem A0s(p:Part)(c:A2 Part)(d:Int):tl (p::c) d=if p.1=d then p.2++tl c d else tl c d:=by unfold tl;by_cases h:p.1=d<;>simp[h]
theorem B4o(a b:A2 Part)(d:Int):tl (a++b) d=tl a d++tl b d:=by simp[tl]
theorem A55{c:A2 Part}{d:Int}(h:∀p∈c,p.1≠d):tl c d=[]:=by unfold tl;rw[List.filter_eq_nil_iff.2 (by simpa using h)];rfl
structure Uf(c:List Part):Prop where
 asc:c.Pairwise fun a b=>a.1<b.1
 pos:∀p∈c,0<p.1
 ne:∀p∈c,p.2≠[]
 ch:∀p∈c,E6 p.2
theorem Uf.tail{p:Part}{c:A2 Part}(h:Uf (p::c)):Uf c :=
 ⟨(Blp.1 h.asc).2,fun q hq=>h.pos q (by simp[hq]),fun q hq=>h.ne q (by simp[hq]),fun q hq=>h.ch q (by simp[hq])⟩
theorem Uf.As4{p:Part}{c:A2 Part}(h:Uf (p::c)):tl (p::c) p.1=p.2:=by rw[A0s,Blv rfl,A55 fun q hq=>by have:=(Blp.1 h.asc).1 q hq;omega,Blt]
theorem Uf.B99{p:Part}{c:A2 Part}(h:Uf (p::c)){d:Int}(hd:d≤p.1):tl c d=[] :=
 A55 fun q hq=>by have:=(Blp.1 h.asc).1 q hq;omega
theorem Uf.B9a{c:A2 Part}(h:Uf c){p:Part}(hp:p∈c):tl c p.1=p.2:=by
 induction c with
 |nil=>simp at hp
 |cons q c ih =>
  rcases Bkq.1 hp with e|hp'
  ·subst e;exact h.As4
  ·have:=(Blp.1 h.asc).1 p hp';rw[A0s,Blj (by omega),ih h.tail hp']
theorem B9b{l:A2 Ct}(h:E6 l)(hn:l≠[]):∃n,Ec l n=true:=by
 cases l with
 |nil=>exact absurd rfl hn
 |cons r l=>exact⟨r.1,h.A88 (Bpz _) h.head.1.2.1⟩
theorem Uf.has{c:A2 Part}(h:Uf c){p:Part}(hp:p∈c):∃n,A5u c p.1 n=true:=by obtain⟨n,hn⟩:=B9b (h.ch p hp) (h.ne p hp);exact⟨n,by simp[A5u,h.B9a hp,hn,h.pos p hp]⟩
theorem Uf.mem_of{c:A2 Part}{d n:Int}(h:A5u c d n=true):∃p∈c,p.1=d:=by
 refine Br8 fun hh=>?_
 have:tl c d=[]:=A55 fun p hp he=>hh ⟨p,hp,he⟩
 simp[A5u,this,Ec]at h
theorem Uf.ext:∀ {a b:A2 Part},Uf a→Uf b→(∀d n,A5u a d n=A5u b d n)→a=b
 |[],[],_,_,_=>rfl
 |[],q::b,_,hb,h=>by
  obtain⟨n,hn⟩:=hb.has (p:=q) (by simp);rw[← h]at hn;obtain⟨p,hp,_⟩:=Uf.mem_of hn;simp at hp
 |p::a,[],ha,_,h=>by
  obtain⟨n,hn⟩:=ha.has (p:=p) (by simp);rw[h]at hn;obtain⟨q,hq,_⟩:=Uf.mem_of hn;simp at hq
 |p::a,q::b,ha,hb,h=>by
  have e1:p.1=q.1:=by
   obtain⟨n,hn⟩:=ha.has (p:=p) (by simp);rw[h]at hn;obtain⟨x,hx,hx1⟩:=Uf.mem_of hn;obtain⟨m,hm⟩:=hb.has (p:=q) (by simp);rw[← h]at hm;obtain⟨y,hy,hy1⟩:=Uf.mem_of hm;have l1:q.1≤p.1:=by
    rcases Bkq.1 hx with e|hx'
    ·subst e;omega
    ·have:=(Blp.1 hb.asc).1 x hx';omega
   have l2:p.1≤q.1:=by
    rcases Bkq.1 hy with e|hy'
    ·subst e;omega
    ·have:=(Blp.1 ha.asc).1 y hy';omega
   omega
  have e2:p.2=q.2:=by
   refine(ha.ch p (by simp)).ext (hb.ch q (by simp)) fun n=>?_
   have hn:=h p.1 n;have h2:=hb.As4;rw[← e1]at h2;have hp:=ha.pos p (by simp);simpa[A5u,ha.As4,h2,hp]using hn
  have e:p=q:=Prod.ext e1 e2;subst e;congr 1;refine Uf.ext ha.tail hb.tail fun d n=>?_
  have hn:=h d n;rcases Int.lt_or_le p.1 d with Bs|hle
  ·simp only[A5u,A0s,Blj (show ¬p.1=d by omega)]at hn;simpa[A5u]using hn
  ·simp only[A5u,ha.B99 hle,hb.B99 hle]
def G7(n:Int):A2 Int→A2 Int
 |[]=>[n]
 |x::r=>if n<x then n::x::r else if x=n then x::r else x::G7 n r
theorem Oj{n y:Int}:∀ {l:A2 Int},y∈G7 n l↔y=n∨y∈l
 |[]=>by simp[G7]
 |x::r=>by
  unfold G7;split
  ·simp
  ·split
   ·rename_i h;subst h;simp
   ·rw[Bkq,Oj,Bkq];constructor<;>intro hh<;>rcases hh with hh|hh|hh<;>simp[hh]
theorem Qr(n:Int):∀l:A2 Int,(G7 n l).length≤l.length+1
 |[]=>by simp[G7]
 |x::r=>by
  unfold G7;have:=Qr n r;split
  ·simp
  ·split<;>simp;omega
theorem Sv(n:Int):∀ {l:A2 Int},l.Pairwise (· < ·)→(G7 n l).Pairwise (· < ·)
 |[],_=>by simp[G7]
 |x::r,h=>by
  unfold G7;have h':=Blp.1 h;split
  ·rename_i Bs;rw[Blp];refine⟨fun y hy=>?_,h⟩;rcases Bkq.1 hy with e|hy
   ·omega
   ·have:=h'.1 y hy;omega
  ·split
   ·exact h
   ·rename_i h1 h2;rw[Blp];refine⟨fun y hy=>?_,Sv n h'.2⟩;rcases Oj.1 hy with e|hy
    ·omega
    ·exact h'.1 y hy
def A6r(l:A2 Int):A2 Int:=l.foldl (fun q n=>G7 n q) []
theorem Xn:∀(l q:A2 Int),q.Pairwise (· < ·)→(l.foldl (fun q n=>G7 n q) q).Pairwise (· < ·)∧(∀x,x∈l.foldl (fun q n=>G7 n q) q↔x∈q∨x∈l)∧(l.foldl (fun q n=>G7 n q) q).length≤q.length+l.length
 |[],q,h=>⟨h,by simp,by simp⟩
 |n::l,q,h=>by
  obtain⟨h1,h2,h3⟩:=Xn l (G7 n q) (Sv n h);refine⟨h1,fun x=>?_,?_⟩
  ·rw[Bmd,h2,Oj,Bkq,or_assoc];constructor<;>intro hh<;>rcases hh with hh|hh|hh<;>simp[hh]
  ·have:=Qr n q;simp only[Bmd,Blg];omega
theorem A56(l:A2 Int):(A6r l).Pairwise (· < ·):=(Xn l [] .nil).1
theorem Adj(l:A2 Int)(x:Int):x∈A6r l↔x∈l:=by have:=(Xn l [] .nil).2.1 x;simpa[A6r]using this
theorem Anu(l:A2 Int):(A6r l).length≤l.length:=by have:=(Xn l [] .nil).2.2;simpa[A6r]using this
theorem B4p{l:A2 Int}(h:l.Pairwise (· < ·)):l.Nodup:=h.imp fun {a b} h=>by omega
def partsOf(f:Int→A2 Ct)(ds:A2 Int):A2 Part:=(ds.map fun d=>(d,f d)).filter fun p=>!p.2.isEmpty
theorem Avy{f:Int→A2 Ct}{ds:A2 Int}(h:ds.Pairwise (· < ·))(hp:∀d∈ds,0<d)(hc:∀d∈ds,E6 (f d)):Uf (partsOf f ds):=by
 refine⟨?_,?_,?_,?_⟩
 ·refine Bpj _ ?_;rw[Bo8];exact h
 ·intro p hp';obtain⟨h1,_⟩:=Blu.1 hp';obtain⟨d,hd,rfl⟩:=Bl2.1 h1;exact hp d hd
 ·intro p hp';obtain⟨_,h2⟩:=Blu.1 hp';intro he;rw[he]at h2;simp at h2
 ·intro p hp';obtain⟨h1,_⟩:=Blu.1 hp';obtain⟨d,hd,rfl⟩:=Bl2.1 h1;exact hc d hd
theorem Aj9{f:Int→A2 Ct}:∀ {ds:A2 Int},ds.Pairwise (· < ·)→∀d,tl (partsOf f ds) d=if d∈ds then f d else []
 |[],_,d=>by simp[partsOf,tl]
 |x::ds,h,d=>by
  have h':=Blp.1 h;have ih:=Aj9 (f:=f) h'.2 d;have e:partsOf f (x::ds)=(if (f x).isEmpty then partsOf f ds else (x,f x)::partsOf f ds):=by unfold partsOf;rw[Bkv,Bnk];cases(f x).isEmpty<;>simp
  rw[e];by_cases hx:x=d
  ·subst hx;have hn:x∉ds:=fun hm=>by have:=h'.1 x hm;omega
   rw[Blj hn]at ih;cases hf:f x with
   |nil=>simp[ih]
   |cons a b=>simp[A0s,ih]
  ·cases hf:f x with
   |nil=>simp only[List.isEmpty_nil,Bn5,ih,Bkq];simp[show ¬d=x from fun e=>hx e.symm]
   |cons a b=>simp only[Boz,Bn2,Bmi,A0s,Blj hx,ih,Bkq];simp[show ¬d=x from fun e=>hx e.symm]
def Avz(c:A2 Part):A2 Part:=partsOf (fun d=>Nq (tl c d)) (A6r ((c.map (·.1)).filter fun d=>decide (0<d)))
theorem B9c(c:A2 Part):Uf (Avz c):=by
 refine Avy (A56 _) (fun d hd=>?_) fun d _=>Vu _
 have:=(Adj _ d).1 hd;simpa using(Blu.1 this).2
theorem Bbz(c:A2 Part){d:Int}(hd:0<d):tl (Avz c) d=Nq (tl c d):=by
 unfold Avz;rw[Aj9 (A56 _)];split
 ·rfl
 ·rename_i h;rw[Adj,Blu]at h;rw[A55 (c:=c) fun p hp he=>h ⟨Bl2.2 ⟨p,hp,he⟩,by simpa using hd⟩,Ab7]
theorem B9d(c:A2 Part)(d n:Int):A5u (Avz c) d n=A5u c d n:=by
 unfold A5u;by_cases hd:0<d
 ·rw[Bbz c hd,Qq]
 ·simp[hd]
theorem Bc0{r c:A2 Part}(h:Uf r)(hc:∀d n,A5u r d n=A5u c d n):r=Avz c:=h.ext (B9c c) fun d n=>by rw[hc,B9d]
def T6(c:A2 Part):Nat:=(c.flatMap (·.2)).length
theorem Ze(p:Part)(c:A2 Part):T6 (p::c)=p.2.length+T6 c:=by simp[T6]
theorem Aja(a b:A2 Part):T6 (a++b)=T6 a+T6 b:=by simp[T6]
theorem Anv(c:A2 Part)(d:Int):(tl c d).length≤T6 c:=by
 induction c with
 |nil=>simp[tl,T6]
 |cons p c ih=>rw[A0s,Ze];split<;>(try rw[Bme])<;>omega
theorem B9e:∀(c:A2 Part) {ds:A2 Int},ds.Nodup→(ds.map fun d=>(tl c d).length).sum≤T6 c
 |[],ds,_=>by
  have:∀ds:A2 Int,(ds.map fun d=>(tl [] d).length).sum=0:=by
   intro ds;induction ds with
   |nil=>rfl
   |cons x ds ih=>rw[Bkv,Bow,ih];rfl
  rw[this];exact Bnm _
 |p::c,ds,h=>by
  have ih:=B9e c h;rw[Ze];have key:∀ {es:A2 Int},es.Nodup→(es.map fun d=>(tl (p::c) d).length).sum≤(if p.1∈es then p.2.length else 0)+(es.map fun d=>(tl c d).length).sum:=by
   intro es he;induction es with
   |nil=>simp
   |cons x es ihe =>
    rw[Bm1]at he;have ih2:=ihe he.2;simp only[Bkv,Bow,A0s,Bkq]at ih2⊢;by_cases hx:p.1=x
    ·subst hx;rw[Blj he.1]at ih2;simp;omega
    ·simp only[hx,Br9,Bn2];omega
  have:=key h;split at this<;>omega
theorem Af0(f:Int→A2 Ct):∀ds:A2 Int,T6 (partsOf f ds)=(ds.map fun d=>(f d).length).sum
 |[]=>rfl
 |x::ds=>by
  have ih:=Af0 f ds;unfold partsOf at ih⊢;rw[Bkv,Bnk];cases hf:f x with
  |nil=>simpa[hf]using ih
  |cons a b=>simp[Ze,ih,hf]
theorem B9f{f g:Int→Nat}(h:∀d,f d≤g d):∀ds:A2 Int,(ds.map f).sum≤(ds.map g).sum
 |[]=>by simp
 |x::ds=>by have:=B9f h ds;have:=h x;simp;omega
theorem Af1(f:Int→A2 Ct)(ds:A2 Int):(partsOf f ds).length≤ds.length:=by unfold partsOf;have:=Bmf (fun p:Part=>!p.2.isEmpty) (ds.map fun d=>(d,f d));simpa using this
theorem get?{α:Type}{l:A2 α}{i:Nat}(h:i<l.length):l[i]? = some l[i]:=Bl8 h
def T7(l:A2 Ct):A2 Int:=l.foldl (fun q r=>bif Dl r then G7 (r.2+1) (G7 r.1 q)else q) []
theorem Kb:∀(l:A2 Ct) (q:A2 Int),q.Pairwise (· < ·) →
  (l.foldl (fun q r=>bif Dl r then G7 (r.2+1) (G7 r.1 q)else q) q).Pairwise (· < ·) ∧
  (∀p,p∈l.foldl (fun q r=>bif Dl r then G7 (r.2+1) (G7 r.1 q)else q) q↔p∈q∨∃r∈l,Dl r=true∧(p=r.1∨p=r.2+1)) ∧
  (l.foldl (fun q r=>bif Dl r then G7 (r.2+1) (G7 r.1 q)else q) q).length≤q.length+2*l.length
 |[],q,h=>⟨h,by simp,by simp⟩
 |r::l,q,h=>by
  simp only[Bmd];cases hm:Dl r with
  |false =>obtain⟨i1,i2,i3⟩:=Kb l q h;simp only[Bko];refine⟨i1,fun p=>?_,by simp only[Blg];omega⟩;rw[i2 p];simp[hm]
  |true =>
   obtain⟨i1,i2,i3⟩:=Kb l (G7 (r.2+1) (G7 r.1 q)) (Sv _ (Sv _ h));have h1:=Qr (r.2+1) (G7 r.1 q);have h2:=Qr r.1 q;simp only[Bkn];refine⟨i1,fun p=>?_,by simp only[Blg];omega⟩;rw[i2 p,Oj,Oj];simp only[Bkq,exists_eq_or_imp,hm,Bq3]
   grind
theorem Ng(l:A2 Ct):(T7 l).Pairwise (· < ·)∧(∀p,p∈T7 l↔∃r∈l,Dl r=true∧(p=r.1∨p=r.2+1))∧(T7 l).length≤2*l.length:=by obtain⟨h1,h2,h3⟩:=Kb l [] (by simp);exact⟨h1,fun p=>by have:=h2 p;simpa[T7]using this,by simpa[T7]using h3⟩
structure Ajb(P:List Int)(f:Int→Bool):Prop where
 asc:P.Pairwise (· < ·)
 seg:∀(k:Nat) (lo hi n:Int),P[k]? = some lo→P[k+1]? = some hi→lo≤n→n<hi→f n=f lo
 low:∀n,f n=true→∃k p q,P[k]? = some p∧P[k+1]? = some q∧p≤n∧n<q
 rng:∀p∈P,1≤p∧p≤281474976710656
theorem B1e{P:A2 Int}(h:P.Pairwise (· < ·)){n p:Int}(hp:p∈P)(hn:p≤n){q:Int}(hq:q∈P)(hn2:n<q):∃(k:Nat) (a b:Int),P[k]? = some a∧P[k+1]? = some b∧a≤n∧n<b:=by
 induction P generalizing p with
 |nil=>simp at hp
 |cons x P ih =>
  have h':=Blp.1 h;have hxn:x≤n:=by
   rcases Bkq.1 hp with e|hm
   ·omega
   ·have:=h'.1 p hm;omega
  cases P with
  |nil=>simp at hq;omega
  |cons y P =>
   by_cases hy:n<y
   ·exact⟨0,x,y,rfl,rfl,hxn,hy⟩
   ·have hq':q∈y::P:=by
     rcases Bkq.1 hq with e|hm
     ·omega
     ·exact hm
    obtain⟨k,a,b,h1,h2,h3,h4⟩:=ih (p:=y) h'.2 (by simp) (by omega) hq';exact⟨k+1,a,b,by simpa using h1,by simpa using h2,h3,h4⟩
theorem gap{P:A2 Int}(h:P.Pairwise (· < ·)){k:Nat}{lo hi:Int}(h0:P[k]? = some lo)(h1:P[k+1]? = some hi):∀p∈P,p≤lo∨hi≤p:=by
 intro p hp;obtain⟨j,hj⟩:=Bn1.1 hp;obtain⟨l0,rfl⟩:=Bku.1 h0;obtain⟨l1,rfl⟩:=Bku.1 h1;obtain⟨lj,rfl⟩:=Bku.1 hj;have hp:=Bmg.1 h;rcases Br3 j k with h|h|h
 ·have:=hp j k lj l0 h;omega
 ·subst h;omega
 ·by_cases h2:j=k+1
  ·subst h2;omega
  ·have:=hp (k+1) j l1 lj (by omega);omega
theorem B4q{l m:A2 Ct}(hs:∀r∈m,r∈l):Ajb (T7 l) (Ec m):=by
 obtain⟨p1,p2,_⟩:=Ng l;refine⟨p1,?_,?_,?_⟩
 ·intro k lo hi n h0 h1 ha hb;have hg:=gap p1 h0 h1;rw[Bmb,Fm,Fm];constructor
  ·rintro ⟨r,hr,hm,h2,h3⟩;have:=hg r.1 ((p2 r.1).2 ⟨r,hs r hr,hm,.inl rfl⟩);exact⟨r,hr,hm,by omega,by omega⟩
  ·rintro ⟨r,hr,hm,h2,h3⟩;have:=hg (r.2+1) ((p2 (r.2+1)).2 ⟨r,hs r hr,hm,.inr rfl⟩);exact⟨r,hr,hm,by omega,by omega⟩
 ·intro n hn;obtain⟨r,hr,hm,h2,h3⟩:=Fm.1 hn;obtain⟨k,a,b,x1,x2,x3,x4⟩:=B1e p1 ((p2 r.1).2 ⟨r,hs r hr,hm,.inl rfl⟩) h2 ((p2 (r.2+1)).2 ⟨r,hs r hr,hm,.inr rfl⟩) (by omega);exact⟨k,a,b,x1,x2,x3,x4⟩
 ·intro p hp;obtain⟨r,hr,hm,h⟩:=(p2 p).1 hp;have:=C6.1 hm;omega
def opB(how:Int)(x y:Bool):Bool:=if how=1 then x&&y else if how=2 then x && !y else x||y
def Vv(out:A2 Ct)(lo hi:Int):A2 Ct :=
 match out.getLast? with
 |none=>[(lo,hi-1)]
 |some e=>if e.2+1=lo then out.set (out.length-1) (e.1,hi-1)else out++[(lo,hi-1)]
theorem A57(o:A2 Ct)(e:Ct)(lo hi:Int):Vv (o++[e]) lo hi=if e.2+1=lo then o++[(e.1,hi-1)]else (o++[e])++[(lo,hi-1)]:=by
 simp only[Vv,Bpi,Bp6,Boh];split
 ·simp
 ·rfl
theorem A8a{out:A2 Ct}{lo hi:Int}(h:E6 out)(hl:∀r∈out,r.2+1≤lo)(h1:1≤lo)(h2:lo<hi)(h3:hi≤281474976710656) :
  E6 (Vv out lo hi)∧(∀r∈Vv out lo hi,r.2+1≤hi)∧(∀n,Ec (Vv out lo hi) n=true↔Ec out n=true∨(lo≤n∧n<hi))∧(Vv out lo hi).length≤out.length+1:=by
 rcases I2 out with rfl|⟨o,e,rfl⟩
 ·refine⟨⟨?_,by simp[Vv]⟩,?_,?_,by simp[Vv]⟩
  ·intro r hr;simp[Vv]at hr;subst hr;rw[C6];simp only;omega
  ·intro r hr;simp[Vv]at hr;subst hr;simp only;omega
  ·intro n;simp only[Vv,List.getLast?_nil,Ec,Boj,Bp3,Bov,Jn,C6,Bmi,Br9];omega
 ·have he:=C6.1 (h.may e (by simp));have hel:=hl e (by simp);have hap:=h.apart;rw[Bn4]at hap;obtain⟨p1,_,p3⟩:=hap;rw[A57];split
  ·rename_i heq;refine⟨⟨?_,?_⟩,?_,?_,by simp⟩
   ·intro r hr;rcases Bkw.1 hr with hr|hr
    ·exact h.may r (by simp[hr])
    ·simp at hr;subst hr;rw[C6];simp only;omega
   ·rw[Bn4];refine⟨p1,by simp,fun a ha b hb=>?_⟩;simp at hb;subst hb;exact p3 a ha e (by simp)
   ·intro r hr;rcases Bkw.1 hr with hr|hr
    ·have:=hl r (by simp[hr]);omega
    ·simp at hr;subst hr;simp only;omega
   ·intro n;rw[D4,D4];simp only[Ec,Boj,Bp3,Bov,Bms,Jn,C6];constructor
    ·rintro (h|h)
     ·exact .inl (.inl h)
     ·omega
    ·rintro ((h|h)|h)
     ·exact .inl h
     ·exact .inr (by omega)
     ·exact .inr (by omega)
  ·rename_i hne;refine⟨⟨?_,?_⟩,?_,?_,by simp⟩
   ·intro r hr;rcases Bkw.1 hr with hr|hr
    ·exact h.may r hr
    ·simp at hr;subst hr;rw[C6];simp only;omega
   ·rw[Bn4];refine⟨h.apart,by simp,fun a ha b hb=>?_⟩;simp at hb;subst hb;simp only;rcases Bkw.1 ha with ha|ha
    ·have:=p3 a ha e (by simp);omega
    ·simp at ha;subst ha;omega
   ·intro r hr;rcases Bkw.1 hr with hr|hr
    ·have:=hl r hr;omega
    ·simp at hr;subst hr;simp only;omega
   ·intro n;rw[D4];simp only[Ec,Boj,Bp3,Bov,Bms,Jn,C6];constructor
    ·rintro (h|h)
     ·exact .inl h
     ·omega
    ·rintro (h|h)
     ·exact .inl h
     ·exact .inr (by omega)
structure A8b(P:List Int)(f:Int→Bool)(k:Nat)(out:List Ct):Prop where
 ch:E6 out
 hi:∀p,P[k]? = some p→∀r∈out,r.2+1≤p
 len:out.length≤k
 Ec:∀n,Ec out n=true↔f n=true∧∃p,P[k]? = some p∧n<p
theorem Anw{P:A2 Int}{f:Int→Bool}(h:Ajb P f):A8b P f 0 []:=by
 refine⟨.nil,by simp,by simp,fun n=>?_⟩;rw[Ue];simp only[Bmi,false_iff];rintro ⟨h1,p,hp,hn⟩;obtain⟨k,a,b,x1,x2,x3,x4⟩:=h.low n h1;obtain⟨l0,rfl⟩:=Bku.1 hp;obtain⟨lk,rfl⟩:=Bku.1 x1;rcases Bmu k with h0|h0
 ·subst h0;omega
 ·have:=Bmg.1 h.asc 0 k l0 lk h0;omega
theorem B4r{P:A2 Int}{f:Int→Bool}(h:Ajb P f){k:Nat}{lo hi:Int}(h0:P[k]? = some lo)(h1:P[k+1]? = some hi):lo<hi∧1≤lo∧hi≤281474976710656:=by have a:=h.rng lo (Bln h0);have b:=h.rng hi (Bln h1);obtain⟨l0,rfl⟩:=Bku.1 h0;obtain⟨l1,rfl⟩:=Bku.1 h1;have:=Bmg.1 h.asc k (k+1) l0 l1 (by omega);omega
theorem B29{P:A2 Int}{f:Int→Bool}(ht:Ajb P f){k:Nat}{lo hi:Int}{out:A2 Ct}(h:A8b P f k out)(h0:P[k]? = some lo)(h1:P[k+1]? = some hi)(hc:f lo=true):A8b P f (k+1) (Vv out lo hi):=by
 obtain⟨e1,e2,e3⟩:=B4r ht h0 h1;obtain⟨s1,s2,s3,s4⟩:=A8a h.ch (h.hi lo h0) e2 e1 e3;refine⟨s1,fun p hp=>?_,by have:=h.len;omega,fun n=>?_⟩
 ·rw[h1]at hp;cases hp;exact s2
 ·rw[s3 n,h.Ec n,h0,h1];simp only[Bks,Bqg];constructor
  ·rintro (⟨a1,a2⟩|⟨a1,a2⟩)
   ·exact⟨a1,by omega⟩
   ·exact⟨by rw[ht.seg k lo hi n h0 h1 a1 a2];exact hc,a2⟩
  ·rintro ⟨a1,a2⟩;by_cases h:n<lo
   ·exact .inl ⟨a1,h⟩
   ·exact .inr ⟨by omega,a2⟩
theorem Aw0{P:A2 Int}{f:Int→Bool}(ht:Ajb P f){k:Nat}{lo hi:Int}{out:A2 Ct}(h:A8b P f k out)(h0:P[k]? = some lo)(h1:P[k+1]? = some hi)(hc:f lo=false):A8b P f (k+1) out:=by
 obtain⟨e1,e2,e3⟩:=B4r ht h0 h1;refine⟨h.ch,fun p hp r hr=>?_,by have:=h.len;omega,fun n=>?_⟩
 ·rw[h1]at hp;cases hp;have:=h.hi lo h0 r hr;omega
 ·rw[h.Ec n,h0,h1];simp only[Bks,Bqg];constructor
  ·rintro ⟨a1,a2⟩;exact⟨a1,by omega⟩
  ·rintro ⟨a1,a2⟩;by_cases h:n<lo
   ·exact⟨a1,h⟩
   ·rw[ht.seg k lo hi n h0 h1 (by omega) a2,hc]at a1;cases a1
theorem Aw1{P:A2 Int}{f:Int→Bool}(ht:Ajb P f){k:Nat}{out:A2 Ct}(h:A8b P f k out)(hk:P.length≤k+1)(hk2:k<P.length∨P.length=0)(n:Int):Pc.Ec out n=f n:=by
 rw[Bmb,h.Ec n];constructor
 ·exact fun hh=>hh.1
 ·intro hc;refine⟨hc,?_⟩;obtain⟨j,a,b,x1,x2,x3,x4⟩:=ht.low n hc;obtain⟨lj,rfl⟩:=Bku.1 x2;have Im:k<P.length:=by omega
  refine⟨P[k],get? Im,?_⟩;rcases Bng (j+1) k with h|h
  ·have:=Bmg.1 ht.asc (j+1) k lj Im h;omega
  ·have:j+1=k:=by omega
   subst this;omega
end Go.Proofs.Pc
namespace Go.Proofs
open Go.Shelf
def Tryz.Aw2:Go.Shelf.Ren:=⟨fun|6=>112|15=>86|14=>85|28=>127|29=>128|20=>119|21=>120|22=>121|23=>122|24=>123|25=>124|26=>125|27=>126|46=>153|47=>154|48=>155|49=>156|50=>157|57=>180|n=>n,fun|22=>42|24=>41|25=>69|3=>3|39=>137|0=>0|53=>169|55=>39|4=>4|46=>162|45=>161|50=>166|5=>5|9=>9|66=>188|70=>192|76=>212|77=>213|n=>n,fun|n=>n⟩
theorem Tryz.Bc1:Go.Proofs.SlLaysF0.n6 prog Tryz.Aw2:={
 mixed:=by kernel_rfl
 f6:=⟨f112.name,by decide,func112.trans (Blc some (by kernel_rfl))⟩
 f14:=⟨f85.name,by decide,func85.trans (Blc some (by kernel_rfl))⟩
 f15:=func86.trans (Blc some (by kernel_rfl))
 f20:=⟨f119.name,by decide,func119.trans (Blc some (by kernel_rfl))⟩
 f21:=⟨f120.name,by decide,func120.trans (Blc some (by kernel_rfl))⟩
 f22:=⟨f121.name,by decide,func121.trans (Blc some (by kernel_rfl))⟩
 f23:=⟨f122.name,by decide,func122.trans (Blc some (by kernel_rfl))⟩
 f24:=⟨f123.name,by decide,func123.trans (Blc some (by kernel_rfl))⟩
 f25:=⟨f124.name,by decide,func124.trans (Blc some (by kernel_rfl))⟩
 f26:=⟨f125.name,by decide,func125.trans (Blc some (by kernel_rfl))⟩
 f27:=⟨f126.name,by decide,func126.trans (Blc some (by kernel_rfl))⟩
 f28:=func127.trans (Blc some (by kernel_rfl))
 f29:=func128.trans (Blc some (by kernel_rfl))
 f46:=⟨f153.name,by decide,func153.trans (Blc some (by kernel_rfl))⟩
 f47:=func154.trans (Blc some (by kernel_rfl))
 f48:=func155.trans (Blc some (by kernel_rfl))
 f49:=⟨f156.name,by decide,func156.trans (Blc some (by kernel_rfl))⟩
 f50:=⟨f157.name,by decide,func157.trans (Blc some (by kernel_rfl))⟩
 f57:=⟨f180.name,by decide,func180.trans (Blc some (by kernel_rfl))⟩
 t0:=underlying0
 a0:=isAgg0
 z0:=sizeOf0
 v0:=zeroValue0
 t3:=underlying3
 a3:=isAgg3
 z3:=sizeOf3
 v3:=zeroValue3
 t4:=underlying4
 a4:=isAgg4
 z4:=sizeOf4
 v4:=zeroValue4
 t5:=underlying5
 a5:=isAgg5
 z5:=sizeOf5
 v5:=zeroValue5
 t9:=underlying9
 a9:=isAgg9
 z9:=sizeOf9
 v9:=zeroValue9
 t22:=underlying42
 a22:=isAgg42
 z22:=sizeOf42
 v22:=zeroValue42
 t25:=underlying69
 a25:=isAgg69
 z25:=sizeOf69
 v25:=zeroValue69
 t39:=underlying137
 a39:=isAgg137
 z39:=sizeOf137
 v39:=zeroValue137
 t45:=underlying161
 a45:=isAgg161
 z45:=sizeOf161
 v45:=zeroValue161
 t46:=underlying162
 a46:=isAgg162
 z46:=sizeOf162
 v46:=zeroValue162
 t50:=underlying166
 a50:=isAgg166
 z50:=sizeOf166
 v50:=zeroValue166
 t53:=underlying169
 a53:=isAgg169
 z53:=sizeOf169
 v53:=zeroValue169
 t55:=underlying39
 a55:=isAgg39
 z55:=sizeOf39
 v55:=zeroValue39
 t66:=underlying188
 a66:=isAgg188
 z66:=sizeOf188
 v66:=zeroValue188
 t70:=underlying192
 a70:=isAgg192
 z70:=sizeOf192
 v70:=zeroValue192
 t76:=underlying212
 a76:=isAgg212
 z76:=sizeOf212
 v76:=zeroValue212
 t77:=underlying213
 a77:=isAgg213
 z77:=sizeOf213
 v77:=zeroValue213 }
def Tryz.Aw3:Go.Shelf.Ren:=⟨fun|6=>138|15=>86|14=>163|28=>127|29=>128|20=>183|21=>184|22=>185|23=>186|24=>187|25=>188|26=>189|27=>190|46=>195|47=>154|48=>155|49=>196|50=>197|57=>199|n=>n,fun|22=>93|24=>143|25=>180|3=>3|39=>137|0=>0|53=>169|55=>39|4=>4|46=>162|45=>161|50=>166|5=>5|9=>9|66=>188|70=>192|76=>212|77=>213|n=>n,fun|n=>n⟩
theorem Tryz.Aaq:Go.Proofs.SlLaysF0.n6 prog Tryz.Aw3:={
 mixed:=by kernel_rfl
 f6:=⟨f138.name,by decide,func138.trans (Blc some (by kernel_rfl))⟩
 f14:=⟨f163.name,by decide,func163.trans (Blc some (by kernel_rfl))⟩
 f15:=func86.trans (Blc some (by kernel_rfl))
 f20:=⟨f183.name,by decide,func183.trans (Blc some (by kernel_rfl))⟩
 f21:=⟨f184.name,by decide,func184.trans (Blc some (by kernel_rfl))⟩
 f22:=⟨f185.name,by decide,func185.trans (Blc some (by kernel_rfl))⟩
 f23:=⟨f186.name,by decide,func186.trans (Blc some (by kernel_rfl))⟩
 f24:=⟨f187.name,by decide,func187.trans (Blc some (by kernel_rfl))⟩
 f25:=⟨f188.name,by decide,func188.trans (Blc some (by kernel_rfl))⟩
 f26:=⟨f189.name,by decide,func189.trans (Blc some (by kernel_rfl))⟩
 f27:=⟨f190.name,by decide,func190.trans (Blc some (by kernel_rfl))⟩
 f28:=func127.trans (Blc some (by kernel_rfl))
 f29:=func128.trans (Blc some (by kernel_rfl))
 f46:=⟨f195.name,by decide,func195.trans (Blc some (by kernel_rfl))⟩
 f47:=func154.trans (Blc some (by kernel_rfl))
 f48:=func155.trans (Blc some (by kernel_rfl))
 f49:=⟨f196.name,by decide,func196.trans (Blc some (by kernel_rfl))⟩
 f50:=⟨f197.name,by decide,func197.trans (Blc some (by kernel_rfl))⟩
 f57:=⟨f199.name,by decide,func199.trans (Blc some (by kernel_rfl))⟩
 t0:=underlying0
 a0:=isAgg0
 z0:=sizeOf0
 v0:=zeroValue0
 t3:=underlying3
 a3:=isAgg3
 z3:=sizeOf3
 v3:=zeroValue3
 t4:=underlying4
 a4:=isAgg4
 z4:=sizeOf4
 v4:=zeroValue4
 t5:=underlying5
 a5:=isAgg5
 z5:=sizeOf5
 v5:=zeroValue5
 t9:=underlying9
 a9:=isAgg9
 z9:=sizeOf9
 v9:=zeroValue9
 t22:=underlying93
 a22:=isAgg93
 z22:=sizeOf93
 v22:=zeroValue93
 t25:=underlying180
 a25:=isAgg180
 z25:=sizeOf180
 v25:=zeroValue180
 t39:=underlying137
 a39:=isAgg137
 z39:=sizeOf137
 v39:=zeroValue137
 t45:=underlying161
 a45:=isAgg161
 z45:=sizeOf161
 v45:=zeroValue161
 t46:=underlying162
 a46:=isAgg162
 z46:=sizeOf162
 v46:=zeroValue162
 t50:=underlying166
 a50:=isAgg166
 z50:=sizeOf166
 v50:=zeroValue166
 t53:=underlying169
 a53:=isAgg169
 z53:=sizeOf169
 v53:=zeroValue169
 t55:=underlying39
 a55:=isAgg39
 z55:=sizeOf39
 v55:=zeroValue39
 t66:=underlying188
 a66:=isAgg188
 z66:=sizeOf188
 v66:=zeroValue188
 t70:=underlying192
 a70:=isAgg192
 z70:=sizeOf192
 v70:=zeroValue192
 t76:=underlying212
 a76:=isAgg212
 z76:=sizeOf212
 v76:=zeroValue212
 t77:=underlying213
 a77:=isAgg213
 z77:=sizeOf213
 v77:=zeroValue213 }
def Tryz.Qs:Go.Shelf.Ren:=⟨fun|14=>140|20=>164|21=>165|22=>166|23=>167|24=>168|25=>169|26=>170|27=>171|46=>191|47=>154|48=>155|49=>192|50=>193|15=>86|57=>198|28=>127|29=>128|n=>n,fun|24=>95|22=>25|3=>3|25=>148|4=>4|0=>0|46=>162|45=>161|50=>166|66=>188|39=>137|55=>39|70=>192|76=>212|77=>213|53=>169|5=>5|9=>9|n=>n,fun|n=>n⟩
theorem Tryz.Ajc:Go.Proofs.SlLaysF0.n14 prog Tryz.Qs:={
 mixed:=by kernel_rfl
 f14:=⟨f140.name,by decide,func140.trans (Blc some (by kernel_rfl))⟩
 f15:=func86.trans (Blc some (by kernel_rfl))
 f20:=⟨f164.name,by decide,func164.trans (Blc some (by kernel_rfl))⟩
 f21:=⟨f165.name,by decide,func165.trans (Blc some (by kernel_rfl))⟩
 f22:=⟨f166.name,by decide,func166.trans (Blc some (by kernel_rfl))⟩
 f23:=⟨f167.name,by decide,func167.trans (Blc some (by kernel_rfl))⟩
 f24:=⟨f168.name,by decide,func168.trans (Blc some (by kernel_rfl))⟩
 f25:=⟨f169.name,by decide,func169.trans (Blc some (by kernel_rfl))⟩
 f26:=⟨f170.name,by decide,func170.trans (Blc some (by kernel_rfl))⟩
 f27:=⟨f171.name,by decide,func171.trans (Blc some (by kernel_rfl))⟩
 f28:=func127.trans (Blc some (by kernel_rfl))
 f29:=func128.trans (Blc some (by kernel_rfl))
 f46:=⟨f191.name,by decide,func191.trans (Blc some (by kernel_rfl))⟩
 f47:=func154.trans (Blc some (by kernel_rfl))
 f48:=func155.trans (Blc some (by kernel_rfl))
 f49:=⟨f192.name,by decide,func192.trans (Blc some (by kernel_rfl))⟩
 f50:=⟨f193.name,by decide,func193.trans (Blc some (by kernel_rfl))⟩
 f57:=⟨f198.name,by decide,func198.trans (Blc some (by kernel_rfl))⟩
 t0:=underlying0
 a0:=isAgg0
 z0:=sizeOf0
 v0:=zeroValue0
 t3:=underlying3
 a3:=isAgg3
 z3:=sizeOf3
 v3:=zeroValue3
 t4:=underlying4
 a4:=isAgg4
 z4:=sizeOf4
 v4:=zeroValue4
 t5:=underlying5
 a5:=isAgg5
 z5:=sizeOf5
 v5:=zeroValue5
 t9:=underlying9
 a9:=isAgg9
 z9:=sizeOf9
 v9:=zeroValue9
 t22:=underlying25
 a22:=isAgg25
 z22:=sizeOf25
 v22:=zeroValue25
 t25:=underlying148
 a25:=isAgg148
 z25:=sizeOf148
 v25:=zeroValue148
 t39:=underlying137
 a39:=isAgg137
 z39:=sizeOf137
 v39:=zeroValue137
 t45:=underlying161
 a45:=isAgg161
 z45:=sizeOf161
 v45:=zeroValue161
 t46:=underlying162
 a46:=isAgg162
 z46:=sizeOf162
 v46:=zeroValue162
 t50:=underlying166
 a50:=isAgg166
 z50:=sizeOf166
 v50:=zeroValue166
 t53:=underlying169
 a53:=isAgg169
 z53:=sizeOf169
 v53:=zeroValue169
 t55:=underlying39
 a55:=isAgg39
 z55:=sizeOf39
 v55:=zeroValue39
 t66:=underlying188
 a66:=isAgg188
 z66:=sizeOf188
 v66:=zeroValue188
 t70:=underlying192
 a70:=isAgg192
 z70:=sizeOf192
 v70:=zeroValue192
 t76:=underlying212
 a76:=isAgg212
 z76:=sizeOf212
 v76:=zeroValue212
 t77:=underlying213
 a77:=isAgg213
 z77:=sizeOf213
 v77:=zeroValue213 }
def Tryz.Aln:Go.Shelf.Ren:=⟨fun|6=>79|15=>86|14=>115|28=>127|29=>128|20=>117|21=>145|22=>146|23=>147|24=>148|25=>149|26=>150|27=>151|46=>176|47=>154|48=>155|49=>177|50=>178|57=>194|n=>n,fun|22=>27|24=>44|25=>79|3=>3|39=>137|0=>0|53=>169|55=>39|4=>4|46=>162|45=>161|50=>166|5=>5|9=>9|66=>188|70=>192|76=>212|77=>213|n=>n,fun|n=>n⟩
theorem Tryz.B4s:Go.Proofs.SlLaysF0.n6 prog Tryz.Aln:={
 mixed:=by kernel_rfl
 f6:=⟨f79.name,by decide,func79.trans (Blc some (by kernel_rfl))⟩
 f14:=⟨f115.name,by decide,func115.trans (Blc some (by kernel_rfl))⟩
 f15:=func86.trans (Blc some (by kernel_rfl))
 f20:=⟨f117.name,by decide,func117.trans (Blc some (by kernel_rfl))⟩
 f21:=⟨f145.name,by decide,func145.trans (Blc some (by kernel_rfl))⟩
 f22:=⟨f146.name,by decide,func146.trans (Blc some (by kernel_rfl))⟩
 f23:=⟨f147.name,by decide,func147.trans (Blc some (by kernel_rfl))⟩
 f24:=⟨f148.name,by decide,func148.trans (Blc some (by kernel_rfl))⟩
 f25:=⟨f149.name,by decide,func149.trans (Blc some (by kernel_rfl))⟩
 f26:=⟨f150.name,by decide,func150.trans (Blc some (by kernel_rfl))⟩
 f27:=⟨f151.name,by decide,func151.trans (Blc some (by kernel_rfl))⟩
 f28:=func127.trans (Blc some (by kernel_rfl))
 f29:=func128.trans (Blc some (by kernel_rfl))
 f46:=⟨f176.name,by decide,func176.trans (Blc some (by kernel_rfl))⟩
 f47:=func154.trans (Blc some (by kernel_rfl))
 f48:=func155.trans (Blc some (by kernel_rfl))
 f49:=⟨f177.name,by decide,func177.trans (Blc some (by kernel_rfl))⟩
 f50:=⟨f178.name,by decide,func178.trans (Blc some (by kernel_rfl))⟩
 f57:=⟨f194.name,by decide,func194.trans (Blc some (by kernel_rfl))⟩
 t0:=underlying0
 a0:=isAgg0
 z0:=sizeOf0
 v0:=zeroValue0
 t3:=underlying3
 a3:=isAgg3
 z3:=sizeOf3
 v3:=zeroValue3
 t4:=underlying4
 a4:=isAgg4
 z4:=sizeOf4
 v4:=zeroValue4
 t5:=underlying5
 a5:=isAgg5
 z5:=sizeOf5
 v5:=zeroValue5
 t9:=underlying9
 a9:=isAgg9
 z9:=sizeOf9
 v9:=zeroValue9
 t22:=underlying27
 a22:=isAgg27
 z22:=sizeOf27
 v22:=zeroValue27
 t25:=underlying79
 a25:=isAgg79
 z25:=sizeOf79
 v25:=zeroValue79
 t39:=underlying137
 a39:=isAgg137
 z39:=sizeOf137
 v39:=zeroValue137
 t45:=underlying161
 a45:=isAgg161
 z45:=sizeOf161
 v45:=zeroValue161
 t46:=underlying162
 a46:=isAgg162
 z46:=sizeOf162
 v46:=zeroValue162
 t50:=underlying166
 a50:=isAgg166
 z50:=sizeOf166
 v50:=zeroValue166
 t53:=underlying169
 a53:=isAgg169
 z53:=sizeOf169
 v53:=zeroValue169
 t55:=underlying39
 a55:=isAgg39
 z55:=sizeOf39
 v55:=zeroValue39
 t66:=underlying188
 a66:=isAgg188
 z66:=sizeOf188
 v66:=zeroValue188
 t70:=underlying192
 a70:=isAgg192
 z70:=sizeOf192
 v70:=zeroValue192
 t76:=underlying212
 a76:=isAgg212
 z76:=sizeOf212
 v76:=zeroValue212
 t77:=underlying213
 a77:=isAgg213
 z77:=sizeOf213
 v77:=zeroValue213 }
def Tryz.Sw:Go.Shelf.Ren:=⟨fun|14=>85|20=>119|21=>120|22=>121|23=>122|24=>123|25=>124|26=>125|27=>126|46=>153|47=>154|48=>155|49=>156|50=>157|15=>86|57=>180|28=>127|29=>128|n=>n,fun|24=>41|22=>42|3=>3|25=>69|4=>4|0=>0|46=>162|45=>161|50=>166|66=>188|39=>137|55=>39|70=>192|76=>212|77=>213|53=>169|5=>5|9=>9|n=>n,fun|n=>n⟩
theorem Tryz.As5:Go.Proofs.SlLaysF0.n14 prog Tryz.Sw:={
 mixed:=by kernel_rfl
 f14:=⟨f85.name,by decide,func85.trans (Blc some (by kernel_rfl))⟩
 f15:=func86.trans (Blc some (by kernel_rfl))
 f20:=⟨f119.name,by decide,func119.trans (Blc some (by kernel_rfl))⟩
 f21:=⟨f120.name,by decide,func120.trans (Blc some (by kernel_rfl))⟩
 f22:=⟨f121.name,by decide,func121.trans (Blc some (by kernel_rfl))⟩
 f23:=⟨f122.name,by decide,func122.trans (Blc some (by kernel_rfl))⟩
 f24:=⟨f123.name,by decide,func123.trans (Blc some (by kernel_rfl))⟩
 f25:=⟨f124.name,by decide,func124.trans (Blc some (by kernel_rfl))⟩
 f26:=⟨f125.name,by decide,func125.trans (Blc some (by kernel_rfl))⟩
 f27:=⟨f126.name,by decide,func126.trans (Blc some (by kernel_rfl))⟩
 f28:=func127.trans (Blc some (by kernel_rfl))
 f29:=func128.trans (Blc some (by kernel_rfl))
 f46:=⟨f153.name,by decide,func153.trans (Blc some (by kernel_rfl))⟩
 f47:=func154.trans (Blc some (by kernel_rfl))
 f48:=func155.trans (Blc some (by kernel_rfl))
 f49:=⟨f156.name,by decide,func156.trans (Blc some (by kernel_rfl))⟩
 f50:=⟨f157.name,by decide,func157.trans (Blc some (by kernel_rfl))⟩
 f57:=⟨f180.name,by decide,func180.trans (Blc some (by kernel_rfl))⟩
 t0:=underlying0
 a0:=isAgg0
 z0:=sizeOf0
 v0:=zeroValue0
 t3:=underlying3
 a3:=isAgg3
 z3:=sizeOf3
 v3:=zeroValue3
 t4:=underlying4
 a4:=isAgg4
 z4:=sizeOf4
 v4:=zeroValue4
 t5:=underlying5
 a5:=isAgg5
 z5:=sizeOf5
 v5:=zeroValue5
 t9:=underlying9
 a9:=isAgg9
 z9:=sizeOf9
 v9:=zeroValue9
 t22:=underlying42
 a22:=isAgg42
 z22:=sizeOf42
 v22:=zeroValue42
 t25:=underlying69
 a25:=isAgg69
 z25:=sizeOf69
 v25:=zeroValue69
 t39:=underlying137
 a39:=isAgg137
 z39:=sizeOf137
 v39:=zeroValue137
 t45:=underlying161
 a45:=isAgg161
 z45:=sizeOf161
 v45:=zeroValue161
 t46:=underlying162
 a46:=isAgg162
 z46:=sizeOf162
 v46:=zeroValue162
 t50:=underlying166
 a50:=isAgg166
 z50:=sizeOf166
 v50:=zeroValue166
 t53:=underlying169
 a53:=isAgg169
 z53:=sizeOf169
 v53:=zeroValue169
 t55:=underlying39
 a55:=isAgg39
 z55:=sizeOf39
 v55:=zeroValue39
 t66:=underlying188
 a66:=isAgg188
 z66:=sizeOf188
 v66:=zeroValue188
 t70:=underlying192
 a70:=isAgg192
 z70:=sizeOf192
 v70:=zeroValue192
 t76:=underlying212
 a76:=isAgg212
 z76:=sizeOf212
 v76:=zeroValue212
 t77:=underlying213
 a77:=isAgg213
 z77:=sizeOf213
 v77:=zeroValue213 }
end Go.Proofs
namespace Go.Proofs.Xg
open Go Go.Xl Go.Ab Go.Proofs
theorem mixed:prog.follows .mixedOrders=true:=by kernel_rfl
@[reducible] def Af:Ty:=(.pair (.int .u16) (.int .u64))
@[reducible] def A5:Ty:=(.pair Af (.pair .u8 (.pair (.int .u64) (.pair .u8 (.pair .str (.sl Af))))))
@[reducible] def Bd:Ty:=(.pair (.int .u64) (.int .u64))
@[reducible] def B2:Ty:=(.pair (.int .u16) (.sl Bd))
def Er(N:Nat):C1 [(.int .u64)] (A3 (B6 [.bool])):=fun(x:Int)=>some (x != x)
def A8c(N:Nat):=D7 [] [] N 84 .lf [(.int .u64)] [.bool] (Er N) mixed func84 rfl (by decide) rfl (by kernel_rfl)
def C7(N:Nat):C1 [(.int .u64),(.int .u64)] (A3 (B6 [A0])):=fun(x C8:Int)=>Option.bind (Er N x) fun(y:Bool)=>Option.bind (Er N C8) fun(Bn:Bool)=>bif y then bif Bn then some 0 else some (-1)else
 bif Bn then some 1 else bif decide (x<C8)then some (-1)else bif decide (C8<x)then some 1 else some 0
def F5(N:Nat):=D7 [A8c N] [] N 36 .lf [(.int .u64),(.int .u64)] [A0] (C7 N) mixed func36 rfl (by decide) rfl (by kernel_rfl)
def I3(N:Nat):C1 [(.int .u16)] (A3 (B6 [.bool])):=fun(x:Int)=>some (x != x)
def A8d(N:Nat):=D7 [] [] N 105 .lf [(.int .u16)] [.bool] (I3 N) mixed func105 rfl (by decide) rfl (by kernel_rfl)
def Gp(N:Nat):C1 [(.int .u16),(.int .u16)] (A3 (B6 [A0])):=fun(x C8:Int)=>Option.bind (I3 N x) fun(y:Bool)=>Option.bind (I3 N C8) fun(Bn:Bool)=>bif y then bif Bn then some 0 else some (-1)else
 bif Bn then some 1 else bif decide (x<C8)then some (-1)else bif decide (C8<x)then some 1 else some 0
def J1(N:Nat):=D7 [A8d N] [] N 68 .lf [(.int .u16),(.int .u16)] [A0] (Gp N) mixed func68 rfl (by decide) rfl (by kernel_rfl)
def K0(N:Nat):C1 [Af,Af] (A3 (B6 [A0])):=fun(x C8:Bs3)=>Option.bind (Gp N x.1 C8.1) fun(y:Int)=>bif y != 0 then some y else Option.bind (C7 N x.2 C8.2) fun(y:Int)=>some y
theorem Anx(N:Nat):A0l prog [F5 N,J1 N] [] N f25 .lf [Af,Af] [A0]=K0 N:=by kernel_rfl
def Ru(N:Nat):Ga prog:=Alf 25 f25 _ [Af,Af] [A0] (K0 N) mixed func25 (.mk' func25 rfl (by decide)) rfl (Anx N)
def Mj(N:Nat):Oe [] (A3 (B6 (Tu Af [.s]))):=some []
def G3(N:Nat):A2 (Af:Ty).T→Nat→Oe [] (A3 (A2 (Af:Ty).T×Sn [.s])):=fun(l:Bsh) (n:Nat)=>bif decide ((↑n:Int)<2)then some (l,n)else iter (fun(rec:Bs7×Unit×Unit×A2 Bs3×Unit→A3 (A2 Bs3×Nat))
 (z:Bs7×Unit×Unit×A2 Bs3×Unit)=>bif decide (z.1.1<(↑n:Int))then bif decide (0≤z.1.1)&&decide (z.1.1<(↑n:Int))then z.2.2.2.1[0+z.1.1.toNat]?.bind fun(e:Bs3)=>bif decide (0≤i64.wrap (z.1.1-1))&&decide
 (i64.wrap (z.1.1-1)<(↑n:Int))then z.2.2.2.1[0+(i64.wrap (z.1.1-1)).toNat]?.bind fun(Cr:Bs3)=>bif e.1==Cr.1&&e.2==Cr.2 then bif Lq z.1.1 (↑n:Int) n then iter (fun(rec:Bsf×Unit×Unit×A2 Bs3×Unit→Option
 (A2 Bs3×Nat)) (B9:Bsf×Unit×Unit×A2 Bs3×Unit)=>bif decide (B9.1.2.1<(↑((↑n:Int).toNat-z.1.1.toNat):Int))then bif decide (0≤B9.1.2.1)&&decide (B9.1.2.1<(↑((↑n:Int).toNat-z.1.1.toNat):Int))then
 B9.2.2.2.1[0+z.1.1.toNat+B9.1.2.1.toNat]?.bind fun(e:Bs3)=>bif decide (0≤i64.wrap (B9.1.2.1-1))&&decide (i64.wrap (B9.1.2.1-1)<(↑((↑n:Int).toNat-z.1.1.toNat):Int))then
 B9.2.2.2.1[0+z.1.1.toNat+(i64.wrap (B9.1.2.1-1)).toNat]?.bind fun(e_2:Bs3)=>bif !(e.1==e_2.1&&e.2==e_2.2)then bif decide (0≤B9.1.2.1)&&decide (B9.1.2.1<(↑((↑n:Int).toNat-z.1.1.toNat):Int))then
 B9.2.2.2.1[0+z.1.1.toNat+B9.1.2.1.toNat]?.bind fun(e:Bs3)=>bif decide (0≤B9.1.1)&&decide (B9.1.1<(↑n:Int))then B9.2.2.2.1[0+B9.1.1.toNat]?.bind fun(e_3:Bs3)=>rec ((i64.wrap (B9.1.1+1),i64.wrap
 (B9.1.2.1+1),()),(),(),B9.2.2.2.1.set (0+B9.1.1.toNat) e,())else none else none else rec ((B9.1.1,i64.wrap (B9.1.2.1+1),()),(),(),B9.2.2.2.1,())else none else none else bif Lq B9.1.1 (↑n:Int) n then bif Lq 0
 B9.1.1 n then some (List.take (0+B9.1.1.toNat) B9.2.2.2.1,B9.1.1.toNat-0)else none else none) N ((z.1.1,1,()),(),(),z.2.2.2.1,())else none else rec ((i64.wrap (z.1.1+1),()),(),(),z.2.2.2.1,())else none else none
 else some (z.2.2.2.1,n)) N ((1,()),(),(),l,())
def Wp(N:Nat):=B1m [] [] N 113 (A1 (A1 (.seq (A1 (.blk (.loop ⟨[(3,.d A0)],[],[0],[],[],[(1,.arr Af)]⟩ (A1 (.seq (.blk (A1 (.cond (A1 (.seq (A1 (.blk (.loop ⟨[(3,.d A0),(5,.d A0)],[],[0,4],[],[],[(1,.arr Af)]⟩ .lf))) .lf)) .lf))) .lf))))) .lf))) (A1 (A1 (.seq (A1 (.blk (.loop ⟨[(3,.d A0)],[],[0],[],[],[]⟩ (A1 (.seq (.blk (A1 (.cond (A1 (.seq (A1 (.blk (.loop ⟨[(3,.d A0),(5,.d A0)],[],[0,4],[],[],[]⟩ .lf))) .lf)) .lf))) .lf))))) .lf))) Af [] [.s] (G3 N) (Mj N) mixed func113 rfl (by decide) rfl (by kernel_rfl) (by kernel_rfl)
def S9(N:Nat):C1 [Bd,Bd] (A3 (B6 [A0])):=fun(x C8:Bs3)=>Option.bind (C7 N x.1 C8.1) fun(y:Int)=>some y
theorem A6s(N:Nat):A0l prog [F5 N] [] N f139 .lf [Bd,Bd] [A0]=S9 N:=by kernel_rfl
def Alo(N:Nat):Ga prog:=Alf 139 f139 _ [Bd,Bd] [A0] (S9 N) mixed func139 (.mk' func139 rfl (by decide)) rfl (A6s N)
def Sa(N:Nat):C1 [B2,B2] (A3 (B6 [A0])):=fun(x C8:Bs6)=>Option.bind (Gp N x.1 C8.1) fun(y:Int)=>some y
theorem A6t(N:Nat):A0l prog [J1 N] [] N f103 .lf [B2,B2] [A0]=Sa N:=by kernel_rfl
def Alp(N:Nat):Ga prog:=Alf 103 f103 _ [B2,B2] [A0] (Sa N) mixed func103 (.mk' func103 rfl (by decide)) rfl (A6t N)
def Yb(N:Nat):C1 [A5,A5] (A3 (B6 [A0])):=fun(x C8:Bs3×UInt8×Int×UInt8×A2 UInt8×A2 Bs3)=>Option.bind (K0 N x.1 C8.1) fun(y:Int)=>some y
theorem Alq(N:Nat):A0l prog [Ru N] [] N f80 .lf [A5,A5] [A0]=Yb N:=by kernel_rfl
open Go.Sort Go.Shelf Go.RowKit Go.Lib
theorem Anz(N:Nat):Ad3 (Aig prog 107 Af) [.d (.sl Af)] (A7u Af 16) [] :=
 Av4 (own:=[5,7]) (N:=N) (an:=.lf) mixed func107 rfl (fun y r=>by kernel_rfl) (by kernel_rfl) (fun a cap=>by kernel_rfl)
def Zf(N:Nat):Ga prog:=Bj8 107 Af [.d (.sl Af)] (A7u Af 16) (.mk' func107 rfl (by decide)) (Anz N)
def G4(N:Nat):C1 [(.sl Af)] (A3 (B6 [(.sl Af)])):=Aii Af 16
def Wq(N:Nat):Ga prog:=Bd2 107 [(.sl Af)] [(.sl Af)] (G4 N) (.mk' func107 rfl (by decide)) (Arc (Anz N))
def Gy(x y:Int×Int):Int:=if x.1<y.1 then -1 else if y.1<x.1 then 1 else if x.2<y.2 then -1 else if y.2<x.2 then 1 else 0
theorem As6(N:Nat)(x y:Int×Int):K0 N x y=some (Gy x y):=by
 simp only[K0,Gp,C7,I3,Er,Gy,cond_eq_ite,Bkp]
 grind
theorem Aw4(x y:Int×Int):Lz prog 25 (A9 [.d (Af.xv x),.d (Af.xv y)]) X0 (.d (.sc (.int .i64 (Gy x y)))) X0 :=
 (Vm (Γ:=[F5 0,J1 0]) (own:=[]) (N:=0) (an:=.lf) (args:=[Af,Af]) (res:=[.int .i64]) mixed func25 rfl) x y _ ((Bq6 (Bq6 (Anx 0) x) y).trans (As6 0 x y))
theorem Ti(x y:Int×Int):ltOf Gy x y=decide (x.1<y.1∨x.1=y.1∧x.2<y.2):=by
 unfold ltOf Gy
 grind
theorem Qt:SWO (ltOf Gy) where
 irrefl x:=by rw[Ti];simp
 trans x y z h1 h2:=by rw[Ti]at *;simp at *;omega
 ntrans x y z h1 h2:=by rw[Ti]at *;simp at *;omega
theorem A58(x y:Int×Int)(h1:ltOf Gy x y=false)(h2:ltOf Gy y x=false):x=y:=by rw[Ti]at *;simp at *;obtain⟨a,b⟩:=x;obtain⟨c,d⟩:=y;simp at *;omega
theorem B4t:Af.Plain:=⟨fun x=>rfl⟩
def Dm(d:A2 (Int×Int)):A2 (Int×Int):=d.mergeSort fun x y=>!(ltOf Gy) y x
theorem B4u:Ana prog 112 25 Af Dm :=
 All Tryz.Bc1 (by kernel_rfl) B4t rfl isAgg41 sizeOf41 (.mk' func112 rfl (by decide)) Gy Qt A58 (.mk' func25 rfl (by decide)) Aw4
def Vw(N:Nat):Ga prog:=mkSort B4u
def Af2(x y:Int×Int):Int:=if x.1<y.1 then -1 else if y.1<x.1 then 1 else 0
theorem Bc2(N:Nat)(x y:Int×Int):S9 N x y=some (Af2 x y):=by
 simp only[S9,C7,Er,Af2,cond_eq_ite,Bkp]
 grind
theorem B4v(x y:Int×Int):Lz prog 139 (A9 [.d (Bd.xv x),.d (Bd.xv y)]) X0 (.d (.sc (.int .i64 (Af2 x y)))) X0 :=
 (Vm (Γ:=[F5 0]) (own:=[]) (N:=0) (an:=.lf) (args:=[Bd,Bd]) (res:=[.int .i64]) mixed func139 rfl) x y _ ((Bq6 (Bq6 (A6s 0) x) y).trans (Bc2 0 x y))
theorem As7(x y:Int×Int):ltOf Af2 x y=decide (x.1<y.1):=by
 unfold ltOf Af2
 grind
theorem B2a:SWO (ltOf Af2) where
 irrefl x:=by rw[As7];simp
 trans x y z h1 h2:=by rw[As7]at *;simp at *;omega
 ntrans x y z h1 h2:=by rw[As7]at *;simp at *;omega
theorem B4w:Bd.Plain:=⟨fun x=>rfl⟩
def Dn(d:Bsh):A2 Bs3:=B4l Bd (ltOf Af2) d
theorem B4x:Ana prog 138 139 Bd Dn :=
 Azi Tryz.Aaq (by kernel_rfl) B4w rfl isAgg143 sizeOf143 (.mk' func138 rfl (by decide)) Af2 B2a (.mk' func139 rfl (by decide)) B4v
def Vx(N:Nat):Ga prog:=mkSort B4x
theorem Ug(d:A2 (Int×Int)):(Dn d).Perm d∧(Dn d).Pairwise (fun x y=>x.1≤y.1):=by obtain⟨h1,h2⟩:=Ann (T:=Bd) B2a d;refine⟨h1,h2.imp fun {x y} h=>?_⟩;rw[As7]at h;simpa using h
def Tj(x y:Int×A2 (Int×Int)):Int:=if x.1<y.1 then -1 else if y.1<x.1 then 1 else 0
theorem Bc3(N:Nat)(x y:Int×A2 (Int×Int)):Sa N x y=some (Tj x y):=by
 simp only[Sa,Gp,I3,Tj,cond_eq_ite,Bkp]
 grind
theorem B4y(x y:Int×A2 (Int×Int)):Lz prog 103 (A9 [.d (B2.xv x),.d (B2.xv y)]) X0 (.d (.sc (.int .i64 (Tj x y)))) X0 :=
 (Vm (Γ:=[J1 0]) (own:=[]) (N:=0) (an:=.lf) (args:=[B2,B2]) (res:=[.int .i64]) mixed func103 rfl) x y _ ((Bq6 (Bq6 (A6t 0) x) y).trans (Bc3 0 x y))
theorem A59(x y:Int×A2 (Int×Int)):ltOf Tj x y=decide (x.1<y.1):=by
 unfold ltOf Tj
 grind
theorem Zg:SWO (ltOf Tj) where
 irrefl x:=by rw[A59];simp
 trans x y z h1 h2:=by rw[A59]at *;simp at *;omega
 ntrans x y z h1 h2:=by rw[A59]at *;simp at *;omega
def Ox(d:A2 (Int×A2 (Int×Int))):A2 (Int×A2 (Int×Int)):=A1c Tj d
def A39(d:A2 (Int×A2 (Int×Int))):Bool:=Tw Tj d
set_option maxHeartbeats 2000000 in
theorem Azn:B95 prog Tryz.Qs 102 where
 L:=Tryz.Ajc
 none:=by
  intro p cap fv w;have L:=Tryz.Ajc;have mixed:=L.mixed;have e14:∀args w,(callFunc 140 args).run prog w = .ok (.enter 140 args) w:=L.f14.enters rfl;have e15:∀args w,(callFunc 86 args).run prog w = .ok (.enter 86 args) w:=enters_of L.f15 (by kernel_rfl) rfl;have hp:=fun lim W=>AnyF.pdqsortCmpFunc_none (P:=prog) (ρ:=Tryz.Qs) L p cap lim fv W
  have hl:∀W,Calls prog (Tryz.Qs.f 15) #[.int .u64 0] W fun e w'=>e = .returned (.int .i64 (Lib.bitLen 0:Nat))∧w'=W:=fun W=>by
   have h:=Any.bits_Len (Br6 (P:=prog) (ρ:=Tryz.Qs) { L with }) 0 W (by omega) (by omega);exact h
  change ∀lim W,Calls prog 140 _ W _ at hp;change ∀W,Calls prog 86 _ W _ at hl;have t0:=underlying0;have t3:=underlying3;have a3:=isAgg3;have z3:=sizeOf3;have v3:=zeroValue3;have t39:=underlying137;have a39:=isAgg137;have z39:=sizeOf137;have v39:=zeroValue137;have t22:=underlying26;have a22:=isAgg26;have z22:=sizeOf26;have v22:=zeroValue26
  go_enter func102,ntmps102
  go_wp2_with (first|(go_at_fn (86);refine(hl _).mono ?_;rintro e w' ⟨rfl,rfl⟩)|(go_at_fn (140);refine(hp _ _).mono ?_;rintro e w' ⟨rfl,rfl⟩))
  go_end0
  exact⟨rfl,rfl⟩
 some:=by
  intro p n lim cap q fv w Q hpv hn hl hp;subst hpv;have L:=Tryz.Ajc;have mixed:=L.mixed;have e14:∀args w,(callFunc 140 args).run prog w = .ok (.enter 140 args) w:=L.f14.enters rfl;have e15:∀args w,(callFunc 86 args).run prog w = .ok (.enter 86 args) w:=enters_of L.f15 (by kernel_rfl) rfl;change Calls prog 140 _ w _ at hp;change Calls prog 86 _ w _ at hl;have wr:u64.wrap (n:Int)=n:=by simp[IntKind.wrap,IntKind.bits,IntKind.signed];omega
  have t0:=underlying0;have t3:=underlying3;have a3:=isAgg3;have z3:=sizeOf3;have v3:=zeroValue3;have t39:=underlying137;have a39:=isAgg137;have z39:=sizeOf137;have v39:=zeroValue137;have t22:=underlying26;have a22:=isAgg26;have z22:=sizeOf26;have v22:=zeroValue26
  go_enter func102,ntmps102
  go_wp2_with (first|(go_at_fn (86);refine hl.mono ?_;rintro e w' ⟨rfl,rfl⟩)|(go_at_fn (140);refine hp.mono ?_;rintro e w' ⟨rfl,hq⟩))
  go_end0
  exact⟨rfl,hq⟩
theorem Azo:A86 prog 102 103 B2 Tj A39 Ox :=
 Aey (T:=B2) Azn rfl isAgg95 sizeOf95 (.mk' func102 rfl (by decide)) Tj Zg (.mk' func103 rfl (by decide)) B4y
def Vy(N:Nat):Ga prog:=Arz Azo
def Bi(d:A2 (Int×Int)):A2 (Int×Int):=A1c Gy d
def Jd(d:A2 (Int×Int)):Bool:=Tw Gy d
set_option maxHeartbeats 2000000 in
theorem B4z:B95 prog Tryz.Sw 38 where
 L:=Tryz.As5
 none:=by
  intro p cap fv w;have L:=Tryz.As5;have mixed:=L.mixed;have e14:∀args w,(callFunc 85 args).run prog w = .ok (.enter 85 args) w:=L.f14.enters rfl;have e15:∀args w,(callFunc 86 args).run prog w = .ok (.enter 86 args) w:=enters_of L.f15 (by kernel_rfl) rfl;have hp:=fun lim W=>AnyF.pdqsortCmpFunc_none (P:=prog) (ρ:=Tryz.Sw) L p cap lim fv W
  have hl:∀W,Calls prog (Tryz.Sw.f 15) #[.int .u64 0] W fun e w'=>e = .returned (.int .i64 (Lib.bitLen 0:Nat))∧w'=W:=fun W=>by
   have h:=Any.bits_Len (Br6 (P:=prog) (ρ:=Tryz.Sw) { L with }) 0 W (by omega) (by omega);exact h
  change ∀lim W,Calls prog 85 _ W _ at hp;change ∀W,Calls prog 86 _ W _ at hl;have t0:=underlying0;have t3:=underlying3;have a3:=isAgg3;have z3:=sizeOf3;have v3:=zeroValue3;have t39:=underlying137;have a39:=isAgg137;have z39:=sizeOf137;have v39:=zeroValue137;have t22:=underlying46;have a22:=isAgg46;have z22:=sizeOf46;have v22:=zeroValue46
  go_enter func38,ntmps38
  go_wp2_with (first|(go_at_fn (86);refine(hl _).mono ?_;rintro e w' ⟨rfl,rfl⟩)|(go_at_fn (85);refine(hp _ _).mono ?_;rintro e w' ⟨rfl,rfl⟩))
  go_end0
  exact⟨rfl,rfl⟩
 some:=by
  intro p n lim cap q fv w Q hpv hn hl hp;subst hpv;have L:=Tryz.As5;have mixed:=L.mixed;have e14:∀args w,(callFunc 85 args).run prog w = .ok (.enter 85 args) w:=L.f14.enters rfl;have e15:∀args w,(callFunc 86 args).run prog w = .ok (.enter 86 args) w:=enters_of L.f15 (by kernel_rfl) rfl;change Calls prog 85 _ w _ at hp;change Calls prog 86 _ w _ at hl;have wr:u64.wrap (n:Int)=n:=by simp[IntKind.wrap,IntKind.bits,IntKind.signed];omega
  have t0:=underlying0;have t3:=underlying3;have a3:=isAgg3;have z3:=sizeOf3;have v3:=zeroValue3;have t39:=underlying137;have a39:=isAgg137;have z39:=sizeOf137;have v39:=zeroValue137;have t22:=underlying46;have a22:=isAgg46;have z22:=sizeOf46;have v22:=zeroValue46
  go_enter func38,ntmps38
  go_wp2_with (first|(go_at_fn (86);refine hl.mono ?_;rintro e w' ⟨rfl,rfl⟩)|(go_at_fn (85);refine hp.mono ?_;rintro e w' ⟨rfl,hq⟩))
  go_end0
  exact⟨rfl,hq⟩
theorem B50:A86 prog 38 25 Af Gy Jd Bi :=
 Aey (T:=Af) B4z rfl isAgg41 sizeOf41 (.mk' func38 rfl (by decide)) Gy Qt (.mk' func25 rfl (by decide)) Aw4
def Nk(N:Nat):Ga prog:=Arz B50
def Qu(x y:(Int×Int)×UInt8×Int×UInt8×A2 UInt8×A2 (Int×Int)):Int:=Gy x.1 y.1
theorem Bc4(N:Nat)(x y:(Int×Int)×UInt8×Int×UInt8×A2 UInt8×A2 (Int×Int)):Yb N x y=some (Qu x y):=by simp only[Yb,As6,Bkp];rfl
theorem B51(x y:(Int×Int)×UInt8×Int×UInt8×A2 UInt8×A2 (Int×Int)):Lz prog 80 (A9 [.d (A5.xv x),.d (A5.xv y)]) X0 (.d (.sc (.int .i64 (Qu x y)))) X0 :=
 (Vm (Γ:=[Ru 0]) (own:=[]) (N:=0) (an:=.lf) (args:=[A5,A5]) (res:=[.int .i64]) mixed func80 rfl) x y _ ((Bq6 (Bq6 (Alq 0) x) y).trans (Bc4 0 x y))
theorem Nh:SWO (ltOf Qu) where
 irrefl x:=Qt.irrefl _
 trans x y z:=Qt.trans _ _ _
 ntrans x y z:=Qt.ntrans _ _ _
def Ai(d:A2 ((Int×Int)×UInt8×Int×UInt8×A2 UInt8×A2 (Int×Int))):A2 ((Int×Int)×UInt8×Int×UInt8×A2 UInt8×A2 (Int×Int)):=A1c Qu d
def Cs(d:A2 ((Int×Int)×UInt8×Int×UInt8×A2 UInt8×A2 (Int×Int))):Bool:=Tw Qu d
theorem Aw5:A86 prog 79 80 A5 Qu Cs Ai :=
 Azj (T:=A5) Tryz.B4s (by kernel_rfl) rfl isAgg44 sizeOf44 (.mk' func79 rfl (by decide)) Qu Nh (.mk' func80 rfl (by decide)) B51
def Bb(N:Nat):Ga prog:=Arz Aw5
end Go.Proofs.Xg
