import Derived.Test.YtoafaodmkmfkpaaGreatZe
import Derived.Test.YtoafaodmkmfkpaaGreatZd
import Derived.KernelRfl
import Derived.Test.YtoafaodmkmfkpaaGreatZa
set_option linter.all false
set_option maxRecDepth 100000
open Go.IntKind (i64 u64 u16)
open Go.Proofs.Tryz
noncomputable section
namespace Go.Proofs.Xg
open Go Go.Xl Go.Ab Go.Proofs Go.Sort
variable(N:Nat)
def Bbd(d:Int×Int):T3 N d=some (decide (0<d.1)&&(decide (0<d.2)&&decide (d.2≤281474976710655))):=by simp only[T3,cond_eq_ite];by_cases a1:0<d.1<;>by_cases a2:0<d.2<;>simp[a1,a2]
def B18(t:A6 UInt8)(hN:1000000<N):∃b,Vr N t=some b:=by
 unfold Vr;by_cases h:60<t.length
 ·have:decide ((60:Int)<(t.length:Int))=true:=by simp;omega
  rw[this];exact⟨_,rfl⟩
 ·have:decide ((60:Int)<(t.length:Int))=false:=by simp;omega
  rw[this,Bnc];refine Qr Yz 0 t.length (by omega) ?_ ?_ N (by omega)
  ·rintro rec k _ hk ⟨r,hr⟩;simp only[Yz]at hr;simp only[dec_lt,Bnq hk,Bna,B0,Cb hk,Bnb,Ac (show k+1<9223372036854775808 by omega),hr];cases decide (t[k]<32)<;>cases decide (126<t[k])<;>exact⟨_,rfl⟩
  ·intro rec;simp only[dec_lt,Bnt (Boy _),Bnc];exact⟨_,rfl⟩
def Atb(l:A6 (Int×Int))(hl:l.length≤1000)(hN:1000000<N):∃b,Ru N l=some b:=by
 unfold Ru;refine Qr Yz 0 l.length (by omega) ?_ ?_ N (by omega)
 ·rintro rec k _ hk ⟨r,hr⟩;simp only[Yz]at hr;simp only[dec_lt,Bnq hk,Bna];by_cases h0:0<k
  ·have hk1:k-1<l.length:=by omega
   have:decide ((0:Int)<(k:Int))=true:=by simp;omega
   simp only[this,Bna,C4 h0 (show k<9223372036854775808 by omega),B0,Cb hk,Cb hk1,Bnb,Asi,Ac (show k+1<9223372036854775808 by omega),hr];cases decide (0≤L0 l[k-1] l[k])<;>exact⟨_,rfl⟩
  ·have:decide ((0:Int)<(k:Int))=false:=by simp;omega
   simp only[this,Bnc,Ac (show k+1<9223372036854775808 by omega),hr];exact⟨_,rfl⟩
 ·intro rec;simp only[dec_lt,Bnt (Boy _),Bnc];exact⟨_,rfl⟩
def B19(e:Ev)(he:smE e)(hN:1000000<N):∃b,Jh N e=some b:=by
 unfold Jh A24 Zi;simp only[Bnb,Bbd,Ar];have tail:∃b,(bif decide ((256:Int)<(e.2.2.2.2.2.length:Int))then some false
   else Option.bind (Ru N e.2.2.2.2.2) fun(y:Bool)=>bif !y then some false
    else iter (fun(rec:(Int×Unit)×Unit×Unit×Unit→A7 Bool) (z:(Int×Unit)×Unit×Unit×Unit) =>
     bif decide (z.fst.fst<(e.2.2.2.2.2.length:Int)) then
      (at? e.2.2.2.2.2 z.fst.fst).bind fun(d:Int×Int) =>
       bif !(decide (0<d.1)&&(decide (0<d.2)&&decide (d.2≤281474976710655)))then some false
       else bif d.fst==e.1.fst&&d.snd==e.1.snd then some false else rec ((i64.wrap (z.fst.fst+1),()),(),(),())
     else some true) N ((0,()),(),(),()))=some b:=by
  by_cases h:256<e.2.2.2.2.2.length
  ·have:decide ((256:Int)<(e.2.2.2.2.2.length:Int))=true:=by simp;omega
   rw[this];exact⟨_,rfl⟩
  ·have:decide ((256:Int)<(e.2.2.2.2.2.length:Int))=false:=by simp;omega
   obtain⟨b,hb⟩:=Atb N e.2.2.2.2.2 (by omega) hN;rw[this,Bnc,hb,Bnb];cases b with
   |false=>exact⟨_,rfl⟩
   |true =>
    rw[Bp8,Bnc];refine Qr Yz 0 e.2.2.2.2.2.length (by omega) ?_ ?_ N (by omega)
    ·rintro rec k _ hk ⟨r,hr⟩;simp only[Yz]at hr;simp only[dec_lt,Bnq hk,Bna,B0,Cb hk,Bnb,Ac (show k+1<9223372036854775808 by omega),hr];generalize (decide (0<e.2.2.2.2.2[k].1)&&(decide (0<e.2.2.2.2.2[k].2)&&decide (e.2.2.2.2.2[k].2≤281474976710655)))=b1;generalize (e.2.2.2.2.2[k].fst==e.1.fst&&e.2.2.2.2.2[k].snd==e.1.snd)=b2;cases b1<;>cases b2<;>exact⟨_,rfl⟩
    ·intro rec;simp only[dec_lt,Bnt (Boy _),Bnc];exact⟨_,rfl⟩
 obtain⟨bt,ht⟩:=B18 N e.2.2.2.2.1 hN;obtain⟨b0,h0⟩:=tail;have hf:∃b,Vq N e.2.2.2.1=some b:=by unfold Vq;cases decide (1≤e.2.2.2.1)<;>exact⟨_,rfl⟩
 obtain⟨bf,hf⟩:=hf;rw[ht,hf,h0];simp only[Bnb];generalize (!(decide (0<(u16.wrap (e.2.2.1.fdiv 281474976710656)))&&_))=c1;cases c1 with
 |true=>exact⟨_,rfl⟩
 |false =>simp only[Bnc,Bnb,Bp8];generalize (!(decide (0<e.1.1)&&_))=c2;cases c2<;>cases(e.2.1==1)<;>cases(e.2.1==2)<;>cases bf<;>cases bt<;>cases(e.2.2.2.1 != 0)<;>cases(e.2.2.2.2.1 != [])<;>exact⟨_,rfl⟩
def B1a(c:A6 Part)(d:Int×Int)(hc:Sm c)(hN:1000000000000<N):A68 N c d=some (hasB c d):=by
 unfold A68 hasB;by_cases h0:0<d.1
 ·have hlen:(tl c d.1).length≤Pc.W8 c:=Pc.Aof c d.1;have Bk8:=hc.W8;obtain⟨es,M0,h1,_,_,_,h2⟩:=Ax7 N c hc hN;rw[Bnq h0,Bna];unfold A8y;rw[h1];simp only[Bnb];have e:=h2 d.1 h0;have e':(B27 (.int .u16) Bn.sl d.1 es).getD []=tl c d.1:=e;rw[e',norm_eq N _ (by omega) hN];simp only[Bnb];have hn:=Ac4 (tl c d.1);rw[Be2 N _ _ (by omega) hN,(U7 _).2];rfl
 ·rw[Bnt h0];rfl
def Bbe(l:A6 (Int×Int))(c:A6 Part)(b:Bool)(hl:l.length≤1000000)(hc:Sm c)(hN:1000000000000<N):Vp N l c b=some (H6 (l.filter fun d=>hasB c d==b)):=by
 unfold Vp;have e0:=foldl_filter (fun d=>hasB c d==b) l [];rw[Hy l (fun a x=>cond (hasB c x==b) (a++[x]) a) [] (fun a=>some (H6 a)) ?_ ?_ N (by omega),e0]
 ·rfl
 ·intro rec k a hk ha;have hal:a.length≤k:=by rw[ha,foldl_filter,Bou];have:=Bov (fun d=>hasB c d==b) (l.take k);rw[Bof]at this;omega
  have hf:Au (a.length + [l[k]].length) 16=true:=fit (by simp;omega) (by simp;omega);simp only[dec_lt,Bnq hk,Bna,B0,Cb hk,Bnb,B1a N c _ hc hN,hf,Ac (show k+1<9223372036854775808 by omega)];cases(hasB c l[k]==b)<;>rfl
 ·intro rec;have hal:(l.foldl (fun a x=>cond (hasB c x==b) (a++[x]) a) []).length≤l.length:=by rw[foldl_filter,Bou];exact Bov _ _
  generalize l.foldl (fun a x=>cond (hasB c x==b) (a++[x]) a) []=q at *;simp only[dec_lt,Bnt (Boy _),Bnc];rw[Akv N q (by omega) (by omega)];rfl
def Al8(a b:A6 D8)(hl:a.length≤1000000000)(hN:1000000000000<N):∃r,Hc N a b=some r:=by
 unfold Hc;by_cases h:a.length=b.length
 ·have e:((a.length:Int) != (b.length:Int))=false:=by simp[h]
  rw[e,Bnc];refine Qr Yz 0 a.length (by omega) ?_ ?_ N (by omega)
  ·rintro rec k _ hk ⟨r,hr⟩;simp only[Yz]at hr;have hk2:k<b.length:=by omega
   simp only[dec_lt,Bnq hk,Bna,B0,Cb hk,Cb hk2,Bnb,Ac (show k+1<9223372036854775808 by omega),hr];generalize (!(a[k].fst==b[k].fst&&a[k].snd==b[k].snd))=c;cases c<;>exact⟨_,rfl⟩
  ·intro rec;simp only[dec_lt,Bnt (Boy _),Bnc];exact⟨_,rfl⟩
 ·have e:((a.length:Int) != (b.length:Int))=true:=by simp;omega
  rw[e];exact⟨_,rfl⟩
def B1b(a b:A6 Part)(ha:Sm a)(hN:1000000000000<N):∃r,Abv N a b=some r:=by
 unfold Abv Ed;have hl:=ha.len;by_cases h:a.length=b.length
 ·have e:((a.length:Int) != (b.length:Int))=false:=by simp[h]
  rw[e,Bnc]
  suffices H:∃r,iter (fun(rec:(Int×Unit)×Unit×Unit×Unit→A7 ((Bool×Unit)×Unit×Unit×Unit)) (z:(Int×Unit)×Unit×Unit×Unit) =>
    bif decide (z.fst.fst<(a.length:Int)) then
     (at? a z.fst.fst).bind fun(e:Part)=>(at? b z.fst.fst).bind fun(Dt:Part) =>Option.bind (Xb N e Dt) fun(y:Bool) =>bif !y then some ((false,()),(),(),())else rec ((i64.wrap (z.fst.fst+1),()),(),(),())
    else some ((true,()),(),(),())) N ((0,()),(),(),())=some r by
   obtain⟨r,hr⟩:=H;refine⟨r.1.1,?_⟩;exact(Bo7 (fun o=>Option.bind o fun y:(Bool×Unit)×Unit×Unit×Unit=>some y.fst.fst) hr)
  refine Qr Yz 0 a.length (by omega) ?_ ?_ N (by omega)
  ·rintro rec k _ hk ⟨r,hr⟩;simp only[Yz]at hr;have hk2:k<b.length:=by omega
   have hq:∃q,Xb N a[k] b[k]=some q:=by unfold Xb;obtain⟨q,hq⟩:=Al8 N a[k].2 b[k].2 (by have:=At6 (Bp5 hk);have:=ha.W8;omega) hN;rw[hq];cases(a[k].1==b[k].1)<;>exact⟨_,rfl⟩
   obtain⟨q,hq⟩:=hq;simp only[dec_lt,Bnq hk,Bna,B0,Cb hk,Cb hk2,Bnb,Ac (show k+1<9223372036854775808 by omega),hr,hq];cases q<;>exact⟨_,rfl⟩
  ·intro rec;simp only[dec_lt,Bnt (Boy _),Bnc];exact⟨_,rfl⟩
 ·have e:((a.length:Int) != (b.length:Int))=true:=by simp;omega
  rw[e];exact⟨false,rfl⟩
def Atc(c:A6 Part)(hc:Sm c)(hN:1000000000000<N):∃r,Nl N c=some r:=by unfold Nl;obtain⟨r,hr⟩:=B1b N c (Pc.Awk c) hc hN;rw[Axb N c hc hN,Bnb,hr];exact⟨_,rfl⟩
abbrev B6s:Type:=A6 (Nat×(Int×Int)×Ev)×Nat
def B1c(m:Aeh)(e:Ev):B6s:=match m with
 |none=>(N8 (kt:=Al) (vt:=A8) e.1 e 0 [],Ry (kt:=Al) (vt:=A8) e.1 [] 0)
 |some y=>(N8 (kt:=Al) (vt:=A8) e.1 e y.2 y.1,Ry (kt:=Al) (vt:=A8) e.1 y.1 y.2)
def Al9(e:Ev)(y:B6s)(he:smE e):Lw N e y=some (((),()),(),(),B1c (some y) e,()):=by unfold Lw;rw[copy_eq N e he];rfl
def Ala(e:Ev)(he:smE e):Lx N e=some (((),()),(),(),B1c none e,()):=by unfold Lx;rw[copy_eq N e he];rfl
theorem A51(e:Ev)(c:Nat):∀(es:EsB) (x:Nat×(Int×Int)×Ev),x∈N8 (kt:=Al) (vt:=A8) e.1 e c es→x.2=(e.1,e)∨x∈es
 |[],x,h=>by simp[N8]at h;subst h;exact .inl rfl
 |y::r,x,h=>by
  simp only[N8]at h;cases hb:Al.eqv e.1 y.2.1 with
  |true =>
   rw[hb,Bna]at h;rcases Bnd.1 h with h|h
   ·subst h;exact .inl rfl
   ·exact .inr (Bnl _ h)
  |false =>
   rw[hb,Bnc]at h;rcases Bnd.1 h with h|h
   ·subst h;exact .inr (by simp)
   ·rcases A51 e c r x h with h|h
    ·exact .inl h
    ·exact .inr (Bnl _ h)
theorem WfM.none(n:Nat):WfM n none:=⟨by simp,by simp[U8],by simp[U8],by simp[U8]⟩
variable{n k:Nat}{m:Aeh}{e:Ev}{x L:A6 Ev}{J2 c:Int}
def WfM.up(h:WfM n m):WfM (n+1) m:=⟨h.wf,h.key,h.sm,by have:=h.len;omega⟩
def WfM.mono(h:WfM n m)(hk:n≤k):WfM k m:=⟨h.wf,h.key,h.sm,by have:=h.len;omega⟩
def WfM.add(h:WfM n m)(he:smE e):WfM (n+1) (some (B1c m e)):=by
 have mem:∀x∈(B1c m e).1,x.2=(e.1,e)∨x∈U8 m:=by
  intro x hx;cases m with
  |none=>exact(A51 e 0 [] x hx)
  |some y=>exact(A51 e y.2 y.1 x hx)
 refine⟨?_,?_,?_,?_⟩
 ·intro y hy;cases hy;cases m with
  |none=>exact WfE.put (kt:=Al) (vt:=A8) rfl (WfE.nil 0) e.1 e
  |some y=>exact WfE.put (kt:=Al) (vt:=A8) rfl (h.wf y rfl) e.1 e
 ·intro x hx;rcases mem x hx with h1|h1
  ·rw[h1]
  ·exact h.key x h1
 ·intro x hx;rcases mem x hx with h1|h1
  ·rw[h1];exact he
  ·exact h.sm x h1
 ·have hl:=h.len;cases m with
  |none =>have:=Abm (kt:=Al) (vt:=A8) e.1 e 0 [];show(N8 (kt:=Al) (vt:=A8) e.1 e 0 []).length≤n+1;simp at this;omega
  |some y =>have:=Abm (kt:=Al) (vt:=A8) e.1 e y.2 y.1;show(N8 (kt:=Al) (vt:=A8) e.1 e y.2 y.1).length≤n+1;have hl':y.1.length≤n:=hl;omega
def Bbf(he:(e.2.1==1)=true)(h:∀x∈U8 m,(x.2.2.2.1==1)=true):∀x∈U8 (some (B1c m e)),(x.2.2.2.1==1)=true:=by
 intro x hx;have:x.2=(e.1,e)∨x∈U8 m:=by
  cases m with
  |none=>exact(A51 e 0 [] x hx)
  |some y=>exact(A51 e y.2 y.1 x hx)
 rcases this with h1|h1
 ·rw[h1];exact he
 ·exact h x h1
abbrev StF:Type:=((Int×Unit)×((A6 Part×Unit×Unit×Unit)×Unit)×Unit×B6s×B6s×Unit) ⊕ ((Int×Unit)×((A6 Part×Unit×Unit×Unit)×Unit)×Unit×B6s×Unit) ⊕
 ((Int×Unit)×((A6 Part×Unit×Unit×Unit)×Unit)×Unit×B6s×Unit) ⊕ ((Int×Unit)×((A6 Part×Unit×Unit×Unit)×Unit)×Unit×Unit)
def Axk(k:Int)(c:A6 Part):Aeh→Aeh→StF
 |some a,some b=>.inl ((k,()),((c,(),(),()),()),(),a,b,())
 |none,some b=>.inr (.inl ((k,()),((c,(),(),()),()),(),b,()))
 |some a,none=>.inr (.inr (.inl ((k,()),((c,(),(),()),()),(),a,())))
 |none,none=>.inr (.inr (.inr ((k,()),((c,(),(),()),()),(),())))
abbrev Be7:Type:=Unit×A7 BkC×Int×Unit
def QF(r:Be7):Prop:=r.2.1=none∨∃x,r.2.1=some x∧Ac7 x
def QF.no:QF ((),none,1,()):=.inl rfl
def Atd{P:A7 Be7→Prop}(N:Nat)(l:A6 Ev)(k:Nat)(hk:k<l.length)(hl:l.length≤30)(hs:∀e∈l,smE e)(hN:1000000000000<N)(K:A7 Be7)(hK:∃r,K=some r∧QF r) :
  ∃r,(Option.bind (Jh N l[k]) fun(y:Bool) =>
   bif !y then some ((),none,1,())
   else
    bif decide (0<(k:Int)) then
     (at? l (i64.wrap ((k:Int)-1))).bind fun(Dt:Ev) =>
      Option.bind (Kh N Dt.fst l[k].fst) fun(y:Int) =>
       bif decide (0≤y)then some ((),none,1,())
       else bif l[k].snd.fst==1 then Option.bind (Dp N l l[k].fst) fun(y:Bool)=>bif y then some ((),none,1,())else K
       else K
    else bif l[k].snd.fst==1 then Option.bind (Dp N l l[k].fst) fun(y:Bool)=>bif y then some ((),none,1,())else K
     else K)=some r∧QF r:=by
 obtain⟨g,hg⟩:=B19 N l[k] (hs _ (Bp5 hk)) (by omega);rw[hg,Bnb];cases g with
 |false=>exact⟨_,rfl,.no⟩
 |true =>
  have Bn4 : ∃ r, (bif l[k].snd.fst == 1 then Option.bind (Dp N l l[k].fst) fun (y : Bool) => bif y then some ((), none, 1, ()) else K
     else K)=some r∧QF r:=by
   cases(l[k].2.1==1) with
   |false=>exact hK
   |true =>
    rw[Bna,Be1 N l _ (by omega) hs (by omega),Bnb];cases dead l l[k].1 with
    |true=>exact⟨_,rfl,.no⟩
    |false=>exact hK
  rw[Bp8,Bnc];by_cases h0:0<k
  ·have hk1:k-1<l.length:=by omega
   have:decide ((0:Int)<(k:Int))=true:=by simp;omega
   rw[this,Bna,C4 h0 (by omega),B0,Cb hk1,Bnb,Asi,Bnb];cases decide (0≤L0 l[k-1].1 l[k].1) with
   |true=>exact⟨_,rfl,.no⟩
   |false=>exact Bn4
  ·have:decide ((0:Int)<(k:Int))=false:=by simp;omega
   rw[this,Bnc];exact Bn4
def Be8(c:A6 Part)(l:A6 Ev)(hc:Sm c)(hl:l.length≤30)(hs:∀e∈l,smE e)(hN:1000000000000<N)(x:BkC)(hx:Ac7 x) :
  ∃r,(Option.bind (Nl N c) fun(Kv:Bool) =>
   bif !Kv then some ((),none,1,())
   else
    Option.bind (Ji N l) fun(y_4:A6 (Int×Int)) =>
     Option.bind (Lr N y_4 c) fun(y:A6 (Int×Int)) =>
      bif decide (0<(y.length:Int))then some ((),none,1,())
      else some (((),some x,0,()):Be7))=some r∧QF r:=by
 obtain⟨g,hg⟩:=Atc N c hc hN;rw[hg,Bnb];cases g with
 |false=>exact⟨_,rfl,.no⟩
 |true =>
  have h1:=Ac3 hs;have h2:=A50 (l.flatMap dsE);unfold Lr;rw[Bp8,Bnc,Be0 N l (by omega) hs (by omega),Bnb,Bbe N _ c false (by omega) hc hN,Bnb,Bnb];cases decide ((0:Int)<((H6 ((H6 (l.flatMap dsE)).filter fun d=>hasB c d==false)).length:Int)) with
  |true=>exact⟨_,rfl,.no⟩
  |false=>exact⟨_,rfl,.inr ⟨x,rfl,hx⟩⟩
def B6t(c:A6 Part)(l:A6 Ev)(hc:Sm c)(hl:l.length≤30)(hs:∀e∈l,smE e)(hN:1000000000000<N):∃r,Yr N c l=some r∧QF r:=by
 unfold Yr;rw[Axb N c hc hN,Bnb];refine Dn (Q:=QF) (fun m z=>∃(k:Nat) (d:A6 Part) (lv tb:Aeh),z=Axk (k:Int) d lv tb∧k≤l.length∧m=l.length-k∧WfM k lv∧WfM k tb∧∀e∈U8 lv,(e.2.2.2.1==1)=true) ?_ N l.length _ ⟨0,Pc.Awk c,none,none,rfl,by omega,by omega,.none 0,.none 0,by simp[U8]⟩ (by omega);rintro m z rec ⟨k,d,lv,tb,rfl,hk,rfl,h1,h2,h3⟩ ih;by_cases I1:k<l.length
 ·have he:=hs _ (Bp5 I1);have goL:(l[k].2.1==1)=true→∃r,rec (Axk (((k+1:Nat):Int)) d (some (B1c lv l[k])) tb)=some r∧QF r:=fun hkd=>ih (l.length-(k+1)) _ (by omega) ⟨k+1,d,_,_,rfl,by omega,rfl,h1.add he,h2.up,Bbf hkd h3⟩
  have goT:∃r,rec (Axk (((k+1:Nat):Int)) d lv (some (B1c tb l[k])))=some r∧QF r:=ih (l.length-(k+1)) _ (by omega) ⟨k+1,d,_,_,rfl,by omega,rfl,h1.up,h2.add he,h3⟩;cases lv with
  |none =>
   cases tb with
   |none =>
    simp only[Axk,Rf,dec_lt,Bnq I1,Bna,B0,Cb I1,Bnb,Ar,Ala N _ he,Ac (show k+1<9223372036854775808 by omega)]at goL goT⊢;refine Atd (P:=fun _=>True) N l k I1 hl hs hN _ ?_;cases hkd:(l[k].2.1==1) with
    |true=>exact goL hkd
    |false=>exact goT
   |some b =>
    simp only[Axk,Rf,dec_lt,Bnq I1,Bna,B0,Cb I1,Bnb,Ar,Ala N _ he,Al9 N _ _ he,Ac (show k+1<9223372036854775808 by omega)]at goL goT⊢;refine Atd (P:=fun _=>True) N l k I1 hl hs hN _ ?_;cases hkd:(l[k].2.1==1) with
    |true=>exact goL hkd
    |false=>exact goT
  |some a =>
   cases tb with
   |none =>
    simp only[Axk,Rf,dec_lt,Bnq I1,Bna,B0,Cb I1,Bnb,Ar,Ala N _ he,Al9 N _ _ he,Ac (show k+1<9223372036854775808 by omega)]at goL goT⊢;refine Atd (P:=fun _=>True) N l k I1 hl hs hN _ ?_;cases hkd:(l[k].2.1==1) with
    |true=>exact goL hkd
    |false=>exact goT
   |some b =>
    simp only[Axk,Rf,dec_lt,Bnq I1,Bna,B0,Cb I1,Bnb,Ar,Al9 N _ _ he,Ac (show k+1<9223372036854775808 by omega)]at goL goT⊢;refine Atd (P:=fun _=>True) N l k I1 hl hs hN _ ?_;cases hkd:(l[k].2.1==1) with
    |true=>exact goL hkd
    |false=>exact goT
 ·have:k=l.length:=by omega
  subst this;have hx:Ac7 (d,lv,tb,()):=⟨h1.mono (by omega),h2.mono (by omega),h3⟩;have:=Be8 N c l hc hl hs hN _ hx;cases lv<;>cases tb<;>(simp only[Axk,Rf,dec_lt,Bnt I1,Bnc];exact this)
def Be9{σ R:Type}{f:(σ→A7 R)→σ→A7 R}(st:Nat→σ)(G:Nat→A7 R)(a n:Nat)(han:a≤n)
  (hs:∀(rec:σ→A7 R) (k:Nat),a≤k→k<n→rec (st (k+1))=G (k+1)→f rec (st k)=G k) (he:∀rec,f rec (st n)=G n) (N:Nat) (hN:n<N):iter f N (st a)=G a:=by
 have h:=Dn (f:=f) (Q:=fun _=>True);clear h;have key:∀(m k:Nat),a≤k→k≤n→n-k<m→iter f m (st k)=G k:=by
  intro m;induction m with
  |zero=>intro k _ _ h;omega
  |succ m ih =>
   intro k h1 h2 h3;simp only[iter];by_cases hk:k<n
   ·exact hs _ k h1 hk (ih (k+1) (by omega) (by omega) (by omega))
   ·have:k=n:=by omega
    subst this;exact he _
 exact key N a (Bno _) han (by omega)
def A6i{σ R:Type}{f:(σ→A7 R)→σ→A7 R}(st:Nat→σ)(r:A7 R)(a n:Nat)(han:a≤n)
  (hs:∀(rec:σ→A7 R) (k:Nat),a≤k→k<n→f rec (st k)=rec (st (k+1))) (he:∀rec,f rec (st n)=r) (N:Nat) (hN:n<N):iter f N (st a)=r :=
 Be9 st (fun _=>r) a n han (fun rec k h1 h2 h=>(hs rec k h1 h2).trans h) he N hN
def G2{α:Type}{l:A6 α}(h:k<l.length):l.take (k+1)=l.take k++[l[k]]:=by rw[Bp9,Bng h];rfl
structure Tot{α:Type}(lt:α→α→Bool):Prop where
 asymm:∀x y,lt x y=true→lt y x=false
 trans:∀ {x y z},lt x y=true→lt y z=true→lt x z=true
 total:∀x y,lt x y=false→lt y x=false→x=y
section
variable{α:Type}{lt:α→α→Bool}
def Alb(lt:α→α→Bool)(d:α)(l:A6 α):A6 α:=l.filter (fun x=>lt x d)++[d]++l.filter (fun x=>lt d x)
def Axl(h:Tot lt)(d:α)(l:A6 α):(Alb lt d l).length≤l.length+1:=by
 unfold Alb;have:∀l:A6 α,(l.filter (fun x=>lt x d)).length+(l.filter (fun x=>lt d x)).length≤l.length:=by
  intro l;induction l with
  |nil=>simp
  |cons x r ih =>
   simp only[Bq0];cases h1:lt x d with
   |true=>rw[h.asymm _ _ h1];simp;omega
   |false=>cases lt d x<;>simp<;>omega
 have:=this l;simp;omega
def Bbg(h:Tot lt)(d x:α)(l:A6 α):x∈Alb lt d l↔x=d∨x∈l:=by
 unfold Alb;simp only[Bnk,Bo9,Bnw];constructor
 ·rintro ((⟨h,_⟩|h)|⟨h,_⟩)
  ·exact .inr h
  ·exact .inl h
  ·exact .inr h
 ·rintro (h0|h0)
  ·exact .inl (.inr h0)
  ·cases h1:lt x d with
   |true=>exact .inl (.inl ⟨h0,rfl⟩)
   |false =>
    cases h2:lt d x with
    |true=>exact .inr ⟨h0,rfl⟩
    |false=>exact .inl (.inr (h.total _ _ h1 h2))
def Bbh(h:Tot lt)(d:α)(l:A6 α)(hl:Li lt l):Li lt (Alb lt d l):=by
 unfold Alb Li;rw[Bqx,Bq4,Bta,Bod];refine⟨Br9 _ hl,⟨fun y hy=>(Bo9.1 hy).2,Br9 _ hl⟩,?_⟩;intro a ha b hb;have h1:=(Bo9.1 ha).2;rcases Bnd.1 hb with rfl|hb
 ·exact h1
 ·exact h.trans h1 (Bo9.1 hb).2
def Ag5(lt:α→α→Bool)(l:A6 α):A6 α:=l.foldl (fun q d=>Alb lt d q) []
theorem Yu(h:Tot lt):∀(l q:A6 α),Li lt q→Li lt (l.foldl (fun q d=>Alb lt d q) q)∧(∀x,x∈l.foldl (fun q d=>Alb lt d q) q↔x∈q∨x∈l)∧(l.foldl (fun q d=>Alb lt d q) q).length≤q.length+l.length
 |[],q,hq=>⟨hq,by simp,by simp⟩
 |d::r,q,hq=>by
  obtain⟨h1,h2,h3⟩:=Yu h r (Alb lt d q) (Bbh h d q hq);refine⟨h1,fun x=>?_,?_⟩
  ·rw[Bp1,h2,Bbg h];simp;constructor<;>rintro (h|h)<;>grind
  ·rw[Bp1];have:=Axl h d q;simp;omega
def Aos(h:Tot lt)(l:A6 α):Li lt (Ag5 lt l):=(Yu h l [] (by simp[Li])).1
def Aot(h:Tot lt)(l:A6 α)(x:α):x∈Ag5 lt l↔x∈l:=by have:=(Yu h l [] (by simp[Li])).2.1 x;simpa[Ag5]using this
def Aek(h:Tot lt)(l:A6 α):(Ag5 lt l).length≤l.length:=by have:=(Yu h l [] (by simp[Li])).2.2;simpa[Ag5]using this
variable[DecidableEq α]
theorem A52{p x:α}:∀ {l:A6 α},(x=p∨x∈Jv p l)↔(x=p∨x∈l)
 |[]=>by simp[Jv]
 |y::r=>by
  simp only[Jv];by_cases hy:y=p
  ·subst hy;rw[Bo3 rfl,A52 (l:=r)];simp
  ·rw[Bnv hy];have:=A52 (p:=y) (x:=x) (l:=r);simp only[Bnd];rw[this]
theorem A53(h:Tot lt):∀(p:α) (l:A6 α),(p::l).Pairwise (fun a b=>lt b a=false)→Li lt (p::Jv p l)
 |p,[],h0=>by simp[Jv,Li]
 |p,y::r,h0=>by
  have h':=h0;simp only[Bod,Bnd]at h';simp only[Jv];by_cases hy:y=p
  ·subst hy;rw[Bo3 rfl];exact A53 h y r (by simp only[Bod];exact⟨fun a ha=>h'.1 a (.inr ha),h'.2.2⟩)
  ·rw[Bnv hy];have ih:=A53 h y r (by simp only[Bod];exact h'.2);have hpy:lt p y=true:=by
    cases hh:lt p y with
    |true=>rfl
    |false=>exact absurd (h.total _ _ (h'.1 y (.inl rfl)) hh) hy
   unfold Li at *;rw[Bod];refine⟨fun a ha=>?_,ih⟩;rcases Bnd.1 ha with rfl|ha
   ·exact hpy
   ·exact h.trans hpy ((Bod.1 ih).1 a ha)
def Aou(h:Tot lt){l s:A6 α}(hp:s.Perm l)(hs:s.Pairwise (fun a b=>lt b a=false)):comp s=Ag5 lt l:=by
 have hm:∀x,x∈comp s↔x∈l:=by
  intro x;rw[← hp.mem_iff];cases s with
  |nil=>simp[comp]
  |cons p r=>simp only[comp,Bnd];exact A52
 refine Li.ext h.asymm ?_ (Aos h l) fun x=>by rw[hm,Aot h]
 cases s with
 |nil=>simp[comp,Li]
 |cons p r=>exact A53 h p r hs
end
def Ac9:Tot (fun x y:Int=>decide (x<y)):=⟨fun x y h=>by simp at *;omega,fun h h'=>by simp at *;omega,fun x y h h'=>by simp at *;omega⟩
def B6u(l:A6 (A6 UInt8))(r:A6 (A6 UInt8)×Nat):Prop:=r.1.take r.2=comp l∧r.2≤r.1.length
def Axm(l:A6 (A6 UInt8))(hb:l.length<4611686018427387904)(hN:l.length<N):∃r,Du N l l.length=some r∧B6u l r:=by
 unfold Du;simp only[cond_eq_ite];by_cases h2:((l.length:Nat):Int)<2
 ·rw[Bo3 (by simpa using h2)];refine⟨_,rfl,?_,Bno _⟩;have:l=l.take 1:=by rw[Bpg (by omega)]
  rw[Boh,this,A0y]
 ·rw[Bnv (by simpa using h2)];refine Dn (fun n z=>∃k:Nat,z=(((k:Int),()),(),(),l,())∧1≤k∧k≤l.length∧n=l.length-k∧comp (l.take k)=l.take k) ?_ N (l.length-1) _ ⟨1,rfl,by omega,by omega,rfl,A0y l⟩ (by omega);rintro n z rec ⟨k,rfl,k1,k2,hn,hc⟩ ih;simp only;by_cases hk:k<l.length
  ·have e1:i64.wrap ((k:Int)-1)=((k-1:Nat):Int):=C4 (by omega) (by omega);have e2:i64.wrap ((k:Int)+1)=((k+1:Nat):Int):=Ac (by omega);simp only[e1,e2,Ct,Bog,B7 hk,B7 (show k-1<l.length by omega),Bnb];rw[Bo3 (by simp;omega),Bo3 (by simp;omega),Bo3 (by simp;omega)];have Ag3:=Kk (l:=l) (m:=k) (by omega) (B7 (show k-1<l.length by omega)) (B7 hk);by_cases he:l[k]=l[k-1]
   ·rw[Bo3 (by simpa using he),Bo3 (by simp[Ew];omega)];refine Dn (fun n z=>∃(i q:Nat) (c:A6 (A6 UInt8)),z=(((i:Int),(q:Int),()),(),(),c,())∧1≤q∧k+q≤l.length∧i+1≤k+q∧c.length=l.length ∧
     (∀j,i≤j→c[j]? = l[j]?)∧c.take i=comp (l.take (k+q))∧n=l.length-(k+q)) ?_ N (l.length-(k+1)) _
     ⟨k,1,l,rfl,by omega,by omega,by omega,rfl,fun _ _=>rfl,by rw[Ag3,Bo3 he,hc],rfl⟩ (by omega)
    rintro n z rec ⟨i,q,c,rfl,q1,q2,q3,hcl,hcj,hct,hn⟩ ih';simp only;by_cases hq:k+q<l.length
    ·have f1:i64.wrap ((q:Int)-1)=((q-1:Nat):Int):=C4 (by omega) (by omega);have f2:i64.wrap ((q:Int)+1)=((q+1:Nat):Int):=Ac (by omega);have f3:i64.wrap ((i:Int)+1)=((i+1:Nat):Int):=Ac (by omega);have g1:c[k+q]? = some l[k+q]:=by rw[hcj _ (by omega),B7 hq]
     have g2:c[k+(q-1)]? = some l[k+(q-1)]:=by rw[hcj _ (by omega),B7 (by omega)]
     have g3:c[i]? = some (c[i]'(by omega)):=B7 (by omega);simp only[f1,f2,f3,Ct,g1,g2,g3,Bnb];rw[Bo3 (by simp;omega),Bo3 (by simp;omega),Bo3 (by simp;omega)];have hs:=Kk (l:=l) (m:=k+q) (a:=l[k+(q-1)]) (by omega) (by rw[show k+q-1=k+(q-1) by omega];exact B7 _) (B7 hq);by_cases hne:l[k+q]=l[k+(q-1)]
     ·rw[Bnv (by simpa using hne)];refine ih' (l.length-(k+(q+1))) _ (by omega) ⟨i,q+1,c,rfl,by omega,by omega,by omega,hcl,hcj,?_,rfl⟩;rw[hct,← Bqa,hs,Bo3 hne]
     ·rw[Bo3 (by simpa using hne),Bo3 (by simp;omega),Bo3 (by simp;omega)];refine ih' (l.length-(k+(q+1))) _ (by omega) ⟨i+1,q+1,c.set i l[k+q],rfl,by omega,by omega,by omega,by simpa using hcl,?_,?_,rfl⟩
      ·intro j hj;rw[Brw (by omega)];exact hcj j (by omega)
      ·rw[← Bqa,hs,Bnv hne,← hct,Bp9,Bs4 (Bno _),Brl (by omega)];rfl
    ·rw[Bnv (by simp;omega),Bo3 (by simp[Ew];omega),Bo3 (by simp[Ew];omega)];refine⟨_,rfl,?_,?_⟩
     ·have:k+q=l.length:=by omega
      rw[this,Boh]at hct;simp only[Ct,Bpy];rw[← hct,Bt2,Btj]
     ·simp only[Ct,Bpy,Bof];omega
   ·rw[Bnv (by simpa using he)];refine ih (l.length-(k+1)) _ (by omega) ⟨k+1,rfl,by omega,by omega,rfl,?_⟩;rw[Ag3,Bnv he,hc,Bp9,B7 hk];rfl
  ·rw[Bnv (by simp;omega)];refine⟨_,rfl,?_,Bno _⟩;have:k=l.length:=by omega
   subst this;rw[Boh]at hc⊢;exact hc.symm
def B6v(l:A6 (Int))(r:A6 (Int)×Nat):Prop:=r.1.take r.2=comp l∧r.2≤r.1.length
def Axn(l:A6 (Int))(hb:l.length<4611686018427387904)(hN:l.length<N):∃r,Dv N l l.length=some r∧B6v l r:=by
 unfold Dv;simp only[cond_eq_ite];by_cases h2:((l.length:Nat):Int)<2
 ·rw[Bo3 (by simpa using h2)];refine⟨_,rfl,?_,Bno _⟩;have:l=l.take 1:=by rw[Bpg (by omega)]
  rw[Boh,this,A0y]
 ·rw[Bnv (by simpa using h2)];refine Dn (fun n z=>∃k:Nat,z=(((k:Int),()),(),(),l,())∧1≤k∧k≤l.length∧n=l.length-k∧comp (l.take k)=l.take k) ?_ N (l.length-1) _ ⟨1,rfl,by omega,by omega,rfl,A0y l⟩ (by omega);rintro n z rec ⟨k,rfl,k1,k2,hn,hc⟩ ih;simp only;by_cases hk:k<l.length
  ·have e1:i64.wrap ((k:Int)-1)=((k-1:Nat):Int):=C4 (by omega) (by omega);have e2:i64.wrap ((k:Int)+1)=((k+1:Nat):Int):=Ac (by omega);simp only[e1,e2,Ct,Bog,B7 hk,B7 (show k-1<l.length by omega),Bnb];rw[Bo3 (by simp;omega),Bo3 (by simp;omega),Bo3 (by simp;omega)];have Ag3:=Kk (l:=l) (m:=k) (by omega) (B7 (show k-1<l.length by omega)) (B7 hk);by_cases he:l[k]=l[k-1]
   ·rw[Bo3 (by simpa using he),Bo3 (by simp[Ew];omega)];refine Dn (fun n z=>∃(i q:Nat) (c:A6 (Int)),z=(((i:Int),(q:Int),()),(),(),c,())∧1≤q∧k+q≤l.length∧i+1≤k+q∧c.length=l.length ∧
     (∀j,i≤j→c[j]? = l[j]?)∧c.take i=comp (l.take (k+q))∧n=l.length-(k+q)) ?_ N (l.length-(k+1)) _
     ⟨k,1,l,rfl,by omega,by omega,by omega,rfl,fun _ _=>rfl,by rw[Ag3,Bo3 he,hc],rfl⟩ (by omega)
    rintro n z rec ⟨i,q,c,rfl,q1,q2,q3,hcl,hcj,hct,hn⟩ ih';simp only;by_cases hq:k+q<l.length
    ·have f1:i64.wrap ((q:Int)-1)=((q-1:Nat):Int):=C4 (by omega) (by omega);have f2:i64.wrap ((q:Int)+1)=((q+1:Nat):Int):=Ac (by omega);have f3:i64.wrap ((i:Int)+1)=((i+1:Nat):Int):=Ac (by omega);have g1:c[k+q]? = some l[k+q]:=by rw[hcj _ (by omega),B7 hq]
     have g2:c[k+(q-1)]? = some l[k+(q-1)]:=by rw[hcj _ (by omega),B7 (by omega)]
     have g3:c[i]? = some (c[i]'(by omega)):=B7 (by omega);simp only[f1,f2,f3,Ct,g1,g2,g3,Bnb];rw[Bo3 (by simp;omega),Bo3 (by simp;omega),Bo3 (by simp;omega)];have hs:=Kk (l:=l) (m:=k+q) (a:=l[k+(q-1)]) (by omega) (by rw[show k+q-1=k+(q-1) by omega];exact B7 _) (B7 hq);by_cases hne:l[k+q]=l[k+(q-1)]
     ·rw[Bnv (by simpa using hne)];refine ih' (l.length-(k+(q+1))) _ (by omega) ⟨i,q+1,c,rfl,by omega,by omega,by omega,hcl,hcj,?_,rfl⟩;rw[hct,← Bqa,hs,Bo3 hne]
     ·rw[Bo3 (by simpa using hne),Bo3 (by simp;omega),Bo3 (by simp;omega)];refine ih' (l.length-(k+(q+1))) _ (by omega) ⟨i+1,q+1,c.set i l[k+q],rfl,by omega,by omega,by omega,by simpa using hcl,?_,?_,rfl⟩
      ·intro j hj;rw[Brw (by omega)];exact hcj j (by omega)
      ·rw[← Bqa,hs,Bnv hne,← hct,Bp9,Bs4 (Bno _),Brl (by omega)];rfl
    ·rw[Bnv (by simp;omega),Bo3 (by simp[Ew];omega),Bo3 (by simp[Ew];omega)];refine⟨_,rfl,?_,?_⟩
     ·have:k+q=l.length:=by omega
      rw[this,Boh]at hct;simp only[Ct,Bpy];rw[← hct,Bt2,Btj]
     ·simp only[Ct,Bpy,Bof];omega
   ·rw[Bnv (by simpa using he)];refine ih (l.length-(k+1)) _ (by omega) ⟨k+1,rfl,by omega,by omega,rfl,?_⟩;rw[Ag3,Bnv he,hc,Bp9,B7 hk];rfl
  ·rw[Bnv (by simp;omega)];refine⟨_,rfl,?_,Bno _⟩;have:k=l.length:=by omega
   subst this;rw[Boh]at hc⊢;exact hc.symm
abbrev Vl:=(Int×Int)×A6 UInt8
def ahd(a b:Vl):Bool:=decide (b.1.2<a.1.2)||(decide (a.1.2=b.1.2)&&decide (b.1.1<a.1.1))
def A9d:A6 Vl→Vl
 |[]=>((0,0),[])
 |a::r=>r.foldl (fun c e=>cond (ahd e c) e c) a
def B6w{l:A6 Vl}(e:Vl)(h:l≠[]):A9d (l++[e])=cond (ahd e (A9d l)) e (A9d l):=by
 cases l with
 |nil=>exact absurd rfl h
 |cons a r=>simp[A9d,Bsd]
def Bea{α:Type}{l:A6 α}(h1:1≤k)(h2:k<l.length):l.take k≠[]:=by intro h;have:=Bo7 List.length h;rw[Bof,Bpj]at this;omega
theorem Bbi(a b:Int):C0 N a b=some (if a<b then -1 else if b<a then 1 else 0):=by
 simp only[C0,Bp,cond_eq_ite,Bnb]
 grind
theorem Bbj(a b:Int):D2 N a b=some (if a<b then -1 else if b<a then 1 else 0):=by
 simp only[D2,Gj,cond_eq_ite,Bnb]
 grind
def or_eq(a b:Int)(hN:10<N):Vu N [a,b]=some (if a≠0 then a else b):=by
 unfold Vu;obtain⟨M,rfl⟩:∃M,N=M+3:=⟨N-3,by omega⟩;have e1:i64.wrap (0+1)=1:=by decide
 have e2:i64.wrap (1+1)=2:=by decide
 simp only[iter,e1,e2];by_cases h:a=0
 ·by_cases h':b=0
  ·simp[h,h',at?]
  ·have:(b != 0)=true:=by simpa using h'
   simp[h,at?,this]
 ·have:(a != 0)=true:=by simpa using h
  simp[h,at?,this]
theorem B1d(a b:Vl)(hN:10<N):∃v,O2 N a b=some v∧decide (0<v)=ahd a b:=by
 unfold O2;simp only[Bbi,Bbj,or_eq N _ _ hN,Bnb];refine⟨_,rfl,?_⟩;unfold ahd;rw[Box];simp only[Bpk,Bpc,Boo]
 grind
def B6x(x:A6 Vl)(hx:x.length≤1000)(hN:1000<N):Vv N x=some (A9d x,!x.isEmpty):=by
 unfold Vv;cases x with
 |nil=>rfl
 |cons a r =>
  generalize hxx:a::r=x at *;have Ud:1≤x.length:=by subst hxx;simp
  have h0:((x.length:Int)==0)=false:=by rw[Bqp];omega
  have e0:x[0]? = some a:=by subst hxx;rfl
  have e1:A9d (x.take 1)=a:=by subst hxx;rfl
  have hne:(!x.isEmpty)=true:=by subst hxx;rfl
  rw[hne];simp only[h0,Bnc];have hm:Eh N x=some (((),()),((A9d x,()),()),(),()):=by
   unfold Eh Ar;have h1:decide ((x.length:Int)<1)=false:=by simp;omega
   simp only[h1,Bnc,e0,Bnb];have:=A6i (fun k:Nat=>((((k:Int),()),((A9d (x.take k),()),()),(),()):(Int×Unit)×((Vl×Unit)×Unit)×Unit×Unit)) (some ((((),()),((A9d x,()),()),(),()):(Unit×Unit)×((Vl×Unit)×Unit)×Unit×Unit)) 1 x.length Ud
    (f := fun rec z => bif decide (z.fst.fst < (x.length : Int)) then
       (at? x z.fst.fst).bind fun(e:(Int×Int)×A6 UInt8) =>
        Option.bind (O2 N e z.snd.fst.fst.fst) fun(B9:Int) =>
         bif decide (0<B9) then
          (at? x z.fst.fst).bind fun(e:(Int×Int)×A6 UInt8) =>rec ((i64.wrap (z.fst.fst+1),()),((e,()),()),(),())
         else rec ((i64.wrap (z.fst.fst+1),()),((z.snd.fst.fst.fst,()),()),(),())
      else some (((),()),((z.snd.fst.fst.fst,()),()),(),())) ?_ ?_ N (by omega)
   ·rw[e1]at this;exact this
   ·intro rec k h1 h2;obtain⟨v,hv,hv'⟩:=B1d N x[k] (A9d (x.take k)) (by omega);simp only[dec_lt,Bnq h2,Bna,B0,Cb h2,Bnb,hv,hv',Ac (show k+1<9223372036854775808 by omega),G2 h2,B6w _ (Bea h1 h2)];cases ahd x[k] (A9d (x.take k))<;>rfl
   ·intro rec;simp only[dec_lt,Bnt (Boy _),Bnc,Boh]
  rw[hm];rfl
def Ah2:Tot Op.bytesLess where
 asymm x y h:=by rw[Xu.S.Rk]at *;simp only[Bpk,Bpr]at *;exact List.lt_asymm h
 trans {x y z} h h':=by rw[Xu.S.Rk]at *;simp only[Bpk]at *;exact List.lt_trans h h'
 total x y h h':=by rw[Xu.S.Rk]at *;simp only[Bpr]at *;exact List.le_antisymm h' h
def Axo{α:Type}{lt:α→α→Bool}(h:Tot lt)(l:A6 α):(l.mergeSort (fun x y=>!lt y x)).Pairwise (fun a b=>lt b a=false):=by
 have:=Brf (le:=fun x y=>!lt y x) (by
  intro a b c h1 h2;simp only[Bqq]at *;cases hc:lt c a with
  |false=>rfl
  |true =>
   cases hb:lt b c with
   |true=>rw[h.trans hb hc]at h1;cases h1
   |false=>have:=h.total b c hb h2;subst this;rw[hc]at h1;cases h1) (by
  intro a b;cases hab:lt b a with
  |false=>simp
  |true=>simp[h.asymm b a hab]) l
 refine this.imp ?_;intro a b h;simpa using h
def B6y(x:A6 Vl):A6 (A6 UInt8):=Ag5 Op.bytesLess (x.map (·.2))
def Bbk(x:A6 Vl)(hx:x.length≤1000)(h0:x≠[])(hN:1000000000000<N):∃q:A6 (A6 UInt8)×Nat,U6 N x=some (some q)∧q.1.take q.2=B6y x∧q.2≤q.1.length:=by
 have Ud:1≤x.length:=by cases x with|nil=>exact absurd rfl h0|cons a r=>simp
 have hsl:(Xu.S.srt (x.map (·.2))).length=(x.map (·.2)).length:=by simp[Xu.S.srt]
 obtain⟨q,hq,h1,h2⟩:=Axm N (Xu.S.srt (x.map (·.2))) (by rw[hsl,Bo1];omega) (by rw[hsl,Bo1];omega);rw[hsl]at hq;refine⟨q,?_,?_,h2⟩
 ·unfold U6;refine A6i (fun k:Nat=>((((k:Int),()),(),((match k with|0=>none|j+1=>some ((x.take (j+1)).map (·.2),j+1)),()),()):(Int×Unit)×Unit×(A7 (A6 (A6 UInt8)×Nat)×Unit)×Unit)) (some (some q)) 0 x.length (by omega) ?_ ?_ N (by omega)
  ·intro rec k _ h2;cases k with
   |zero =>simp only[A9,dec_lt,Bnq h2,Bna,B0,Cb h2,Bnb,Ac (show 0+1<9223372036854775808 by omega),G2 h2,List.take_zero,Bou,Bnh,Bo8,Bnx,Bpj]
   |succ j =>
    have hl:((x.take (j+1)).map (·.2)).length=j+1:=by rw[Bo1,Bof];omega
    have hb:((x.take (j+1)).map (·.2)).length.beq (j+1)=true:=by rw[hl];simp
    have hf:Au (j+1+(0+1)) 16=true:=fit (by omega) (by omega);simp only[A9,dec_lt,Bnq h2,Bna,B0,Cb h2,Bnb,Ac (show j+1+1<9223372036854775808 by omega),hb,hf,G2 h2,Bo4,Bnh,Bo8,Bnx,Bpj]
  ·intro rec;cases hxl:x.length with
   |zero=>omega
   |succ j =>
    have e:x.take (j+1)=x:=by rw[← hxl,Boh]
    have e2:Xu.Eu N (x.map (·.2)) (j+1)=some (Xu.S.srt (x.map (·.2)),()):=by have:=Xu.S.Vj N (x.map (·.2)) (by rw[Bo1];omega) hN;rw[Bo1,hxl]at this;exact this
    rw[Bo1,hxl]at hq;simp only[A9,dec_lt,Bnt (Boy _),Bnc,e,e2,Bnb,hq]
 ·rw[h1];exact Aou Ah2 (Brg _ _) (Axo Ah2 _)
def B6z(N n:Nat)(w:Vl)(l:A6 (A6 UInt8))(hn:n≤l.length)(hl:n≤1000000)(hN:1000000<N) :
  ∃i:Int,De N n w l=some ((i,()),(),(),())∧((i = -1∧(l.take n).filter (fun e=>!(e==w.2))=l.take n)∨∃m:Nat,i=(m:Int)∧m<n∧(l.take (m+1)).filter (fun e=>!(e==w.2))=l.take m):=by
 unfold De;have key:=Dn (σ:=(Int×Unit)×Unit×Unit×Unit) (R:=(Int×Unit)×Unit×Unit×Unit)
  (Q:=fun r=>∃i:Int,r=((i,()),(),(),())∧((i = -1∧(l.take n).filter (fun e=>!(e==w.2))=l.take n)∨∃m:Nat,i=(m:Int)∧m<n∧(l.take (m+1)).filter (fun e=>!(e==w.2))=l.take m))
  (f:=fun(rec:(Int×Unit)×Unit×Unit×Unit→A7 ((Int×Unit)×Unit×Unit×Unit)) (z:(Int×Unit)×Unit×Unit×Unit) =>
   bif decide (z.fst.fst<(↑n:Int)) then
    bif decide (0≤z.fst.fst)&&decide (z.fst.fst<(↑n:Int)) then
     l[0+z.fst.fst.toNat]?.bind fun(e:A6 UInt8) =>
      Option.bind (Ly N e w) fun(y:(Bool×Unit)×Unit×Unit×Unit) =>
       bif y.fst.fst then some ((z.fst.fst,()),(),(),())
       else rec ((i64.wrap (z.fst.fst+1),()),(),(),())
    else none
   else some ((-1,()),(),(),()))
  (fun m z=>∃k:Nat,z=(((k:Int),()),(),(),())∧k≤n∧m=n-k∧(l.take k).filter (fun e=>!(e==w.2))=l.take k) ?_ N n ((((0:Nat):Int),()),(),(),()) ?_ (by omega)
 ·obtain⟨r,h1,i,rfl,h2⟩:=key;exact⟨i,h1,h2⟩
 ·rintro m z rec ⟨k,rfl,h1,h2,h3⟩ ih;by_cases hk:k<n
  ·have I1:k<l.length:=by omega
   have hb:decide (0≤(k:Int))=true:=by simp
   simp only[dec_lt,Bnq hk,Bna,hb,Bpe,Ct,Bog,Cb I1,Bnb,Ly,Ac (show k+1<9223372036854775808 by omega)];cases he:(l[k]==w.2) with
   |true =>refine⟨_,rfl,_,rfl,.inr ⟨k,rfl,hk,?_⟩⟩;rw[G2 I1,Bpm,h3];simp[he]
   |false =>refine ih (n-(k+1)) _ (by omega) ⟨k+1,rfl,by omega,rfl,?_⟩;rw[G2 I1,Bpm,h3];simp[he]
  ·have:k=n:=by omega
   subst this;simp only[dec_lt,Bnt hk,Bnc];exact⟨_,rfl,_,rfl,.inl ⟨rfl,h3⟩⟩
 ·exact⟨0,rfl,Bq9 _,rfl,by simp⟩
def B1e(N n:Nat)(w:Vl)(l:A6 (A6 UInt8))(hn:n≤l.length)(hl:n≤1000000)(hN:1000000<N) :
  ∃(m:Nat) (c:A6 (A6 UInt8)),D7 N n w l=some ((m,()),(),(),c,())∧m≤c.length∧c.take m=(l.take n).filter (fun e=>!(e==w.2)):=by
 obtain⟨i,hi,hc⟩:=B6z N n w l hn hl hN;unfold D7;simp only[hi,Bnb];rcases hc with ⟨rfl,h⟩|⟨i0,rfl,hi0,h⟩
 ·exact⟨n,l,rfl,hn,h.symm⟩
 ·have hb:((i0:Int) == -1)=false:=by rw[Bqp];omega
  simp only[hb,Bnc];rw[Ac (show i0+1<9223372036854775808 by omega)];have key:=Dn (σ:=(Int×Int×Unit)×Unit×Unit×A6 (A6 UInt8)×Unit) (R:=(Nat×Unit)×Unit×Unit×A6 (A6 UInt8)×Unit)
   (Q:=fun r=>∃(m:Nat) (c:A6 (A6 UInt8)),r=((m,()),(),(),c,())∧m≤c.length∧c.take m=(l.take n).filter (fun e=>!(e==w.2)))
   (f:=fun rec z =>
     bif decide (z.fst.snd.fst<(↑n:Int)) then
      bif decide (0≤z.fst.snd.fst)&&decide (z.fst.snd.fst<(↑n:Int)) then
       z.snd.snd.snd.fst[0+z.fst.snd.fst.toNat]?.bind fun(e:A6 UInt8) =>
        Option.bind (Ly N e w) fun(y:(Bool×Unit)×Unit×Unit×Unit) =>
         bif !y.fst.fst then
          bif decide (0≤z.fst.fst)&&decide (z.fst.fst<(↑n:Int)) then
           z.snd.snd.snd.fst[0+z.fst.fst.toNat]?.bind fun(Dt:A6 UInt8) =>
            rec
             ((i64.wrap (z.fst.fst+1),i64.wrap (z.fst.snd.fst+1),()),(),(),
              z.snd.snd.snd.fst.set (0+z.fst.fst.toNat) e,())
          else none
         else rec ((z.fst.fst,i64.wrap (z.fst.snd.fst+1),()),(),(),z.snd.snd.snd.fst,())
      else none
     else
      bif Ew z.fst.fst (↑n:Int) n then
       bif Ew 0 z.fst.fst n then
        some ((z.fst.fst.toNat-0,()),(),(),List.take (0+z.fst.fst.toNat) z.snd.snd.snd.fst,())
       else none
      else none)
   (fun r z=>∃(a j:Nat) (c:A6 (A6 UInt8)),z=(((a:Int),(j:Int),()),(),(),c,())∧a<j∧j≤n∧r=n-j∧c.length=l.length∧(∀t,j≤t→c[t]? = l[t]?)∧c.take a=(l.take j).filter (fun e=>!(e==w.2))) ?_ N (n-(i0+1)) (((i0:Int),((i0+1:Nat):Int),()),(),(),l,()) ?_ (by omega)
  ·obtain⟨r,h1,m,c,rfl,h2⟩:=key;exact⟨m,c,h1,h2⟩
  ·rintro r z rec ⟨a,j,c,rfl,haj,hjn,rfl,hcl,hct,hca⟩ ih;by_cases hj:j<n
   ·have hjl:j<l.length:=by omega
    have hb1:decide (0≤(j:Int))=true:=by simp
    have hb2:decide (0≤(a:Int))=true:=by simp
    have han:a<n:=by omega
    have hcj:c[j]? = some l[j]:=by rw[hct _ (Bno _),Cb hjl]
    have hac:a<c.length:=by omega
    simp only[dec_lt,Bnq hj,Bnq han,Bna,hb1,hb2,Bpe,Ct,Bog,hcj,Cb hac,Bnb,Ly,Ac (show j+1<9223372036854775808 by omega),Ac (show a+1<9223372036854775808 by omega)];cases he:(l[j]==w.2) with
    |true =>simp only[Bp8,Bnc];refine ih (n-(j+1)) _ (by omega) ⟨a,j+1,c,rfl,by omega,by omega,rfl,hcl,fun t ht=>hct t (by omega),?_⟩;rw[G2 hjl,Bpm,hca];simp[he]
    |false =>
     simp only[Bpf,Bna];refine ih (n-(j+1)) _ (by omega) ⟨a+1,j+1,c.set a l[j],rfl,by omega,by omega,rfl,by simpa using hcl,fun t ht=>?_,?_⟩
     ·rw[Brw (by omega)];exact hct t (by omega)
     ·rw[G2 hjl,Bpm,← hca,Bp9,Bs4 (Bno _),Brl hac];simp[he]
   ·have:j=n:=by omega
    subst this;have hb1:Ew (a:Int) (j:Int) j=true:=by simp[Ew];omega
    have hb2:Ew 0 (a:Int) j=true:=by simp[Ew];omega
    simp only[dec_lt,Bnt hj,Bnc,hb1,hb2,Bna,Ct,Bog,Bpy];refine⟨_,rfl,_,_,rfl,?_,?_⟩
    ·rw[Bof];omega
    ·rw[Bt2,Btj,hca]
  ·exact⟨i0,i0+1,l,rfl,by omega,by omega,rfl,rfl,fun _ _=>rfl,h.symm⟩
abbrev Ln:=UInt8×A6 UInt8×A6 (A6 UInt8)
def Alc(r:UInt8)(x:A6 Vl):Ln:=cond x.isEmpty (0,[],[]) (r,(A9d x).2,(B6y x).filter (fun e=>!(e==(A9d x).2)))
def Beb(r:UInt8)(x:A6 Vl)(hx:x.length≤1000)(hN:1000000000000<N):A29 N r x=some (Alc r x):=by
 unfold A29;rw[B6x N x hx (by omega)];simp only[Bnb];by_cases h0:x=[]
 ·subst h0;rfl
 ·have he:x.isEmpty=false:=by cases x with|nil=>exact absurd rfl h0|cons a r=>rfl
  obtain⟨q,hq,q1,q2⟩:=Bbk N x hx h0 hN;have hle:(B6y x).length≤1000:=by have:=Aek Ah2 (x.map (·.2));rw[Bo1]at this;unfold B6y;omega
  have hq2:q.2≤1000:=by have:=Bo7 List.length q1;rw[Bof]at this;omega
  obtain⟨m,c,hd,d1,d2⟩:=B1e N q.2 (A9d x) q.1 q2 (by omega) (by omega);have hb:(0+m).ble c.length=true:=by simp only[Buc];omega
  simp only[he,Bpf,Bp8,Bnc,hq,Bnb,A9,hd,hb,Bna,Bqk,d2,q1,Alc]
def A7m(J2:Int)(r:UInt8)(e:Ev):Bool:=e.2.1==1&&(e.2.2.1==J2&&e.2.2.2.1==r)
def Bbl(e:Ev):Vl:=(e.1,e.2.2.2.2.1)
def Iq(x:A6 Ev)(J2:Int)(r:UInt8):A6 Vl:=(x.filter (A7m J2 r)).map Bbl
def Ael(x:A6 Ev)(J2:Int)(r:UInt8):(Iq x J2 r).length≤x.length:=by unfold Iq;rw[Bo1];exact Bov _ _
def Ald(k:Nat):A6 UInt8:=(List.range k).map UInt8.ofNat
def T5(x:A6 Ev)(J2:Int)(k:Nat):A6 UInt8:=(Ald k).filter (fun r=>!(Iq x J2 r).isEmpty)
def Axp(x:A6 Ev)(J2:Int)(k:Nat):(T5 x J2 k).length≤k:=by unfold T5;have:=Bov (fun r=>!(Iq x J2 r).isEmpty) (Ald k);simpa[Ald]using this
abbrev Cd:=Int×A6 Ln
def P6(x:A6 Ev)(J2:Int):A6 Ln:=(T5 x J2 256).map fun r=>Alc r (Iq x J2 r)
def Cu(x:A6 Ev)(J2:Int):Cd×Bool:=cond (P6 x J2).isEmpty ((0,[]),false) ((J2,P6 x J2),true)
def B1s(h:k<256):Age (IntKind.u8.wrap (k:Int))=UInt8.ofNat k:=by have:IntKind.u8.wrap (k:Int)=(k:Int):=IntWalk.u8_in _ (by omega);rw[this];unfold Age;congr 1;omega
def Bbm{α:Type}(l:A6 α):((l.length:Int)==0)=l.isEmpty:=by
 cases l with
 |nil=>rfl
 |cons a r=>rw[Bqp.2];rfl;simp only[Bnx];omega
section
variable{kt vt:Ty}
theorem Zl(hk:kt.key=true)(a a':kt.T)(v:List vt.T)(f:Bool)(c:Nat)[DecidableEq kt.T]:∀es:J1 kt vt,Q3 a' (Hk a v f c (Ko a es))=if a'=a then some (Qo a es c,f,v)else Q3 a' es
 |[]=>by
  by_cases h:a'=a
  ·subst h;simp[Ko,Hk,Q3,Qo,(Ty.Gp kt a' a' hk).2 rfl]
  ·have:kt.eqv a' a=false:=by rw[Bqz];exact fun hh=>h ((Ty.Gp kt a' a hk).1 hh)
   simp[Ko,Hk,Q3,this,h]
 |e::r=>by
  cases he:kt.eqv a e.2.1 with
  |true =>
   have e1:=(Ty.Gp kt _ _ hk).1 he;simp only[Ko,he,Bna,Hk,Q3];by_cases h:a'=a
   ·subst h;simp[Qo,Q3,he,(Ty.Gp kt a' a' hk).2 rfl]
   ·have:kt.eqv a' a=false:=by rw[Bqz];exact fun hh=>h ((Ty.Gp kt a' a hk).1 hh)
    rw[← e1];simp[this,h]
  |false =>
   have ih:=Zl hk a a' v f c r;simp only[Ko,he,Bnc,Hk,Q3];rw[ih];by_cases h:a'=a
   ·subst h;simp[he,Qo,Q3]
   ·simp[h]
theorem Axq(a:kt.T):∀es:J1 kt vt,Sf a (P8 es)=(Q3 a es).map (·.2.2)
 |[]=>rfl
 |e::r=>by
  have ih:=Axq a r;simp only[P8,Bnh,Sf,Q3]at ih⊢;cases kt.eqv a e.2.1 with
  |true=>rfl
  |false=>exact ih
theorem Zm(hk:kt.key=true)(a:kt.T)(v:List vt.T)(f:Bool)(c:Nat)[DecidableEq kt.T]:∀es:J1 kt vt,(Hk a v f c (Ko a es)).map (·.2.1)=if a∈es.map (·.2.1)then es.map (·.2.1)else es.map (·.2.1)++[a]
 |[]=>by simp[Ko,Hk]
 |e::r=>by
  cases he:kt.eqv a e.2.1 with
  |true =>
   have e1:=(Ty.Gp kt _ _ hk).1 he;have hm:a∈(e::r).map (·.2.1):=by rw[Bnh,← e1];exact Bnm
   rw[Bo3 hm];simp only[Ko,he,Bna,Hk,Bnh];exact Bo7 (· :: _) e1
  |false =>
   have ih:=Zm hk a v f c r;have hne:¬a=e.2.1:=fun hh=>by rw[(Ty.Gp kt a e.2.1 hk).2 hh]at he;cases he
   simp only[Ko,he,Bnc,Hk,Bnh,ih,Bnd];by_cases h:a∈r.map (·.2.1)
   ·rw[Bo3 h,Bo3 (.inr h)]
   ·rw[Bnv h,Bnv (by rintro (h'|h');exact hne h';exact h h')];rfl
end
abbrev Es8:=J1 .u8 C8
def Ale(x:A6 Ev)(e:Ev)(J2:Int)(r:UInt8):Iq (x++[e]) J2 r=Iq x J2 r++cond (A7m J2 r e) [Bbl e] []:=by unfold Iq;rw[Bpm,Bo4];cases h:A7m J2 r e<;>simp[h]
structure A2j(x:List Ev)(J2:Int)(es:Es8):Prop where
 flag:∀r:UInt8,A7b (kt:=.u8) r es=true
 val:∀r:UInt8,A83 (kt:=.u8) r es=Iq x J2 r
 nd:(es.map (·.2.1)).Nodup
 key:∀r:UInt8,r∈es.map (·.2.1)↔Iq x J2 r≠[]
variable{es:Es8}
def A2j.skip(h:A2j x J2 es)(he:∀r,A7m J2 r e=false):A2j (x++[e]) J2 es:=by
 have:∀r,Iq (x++[e]) J2 r=Iq x J2 r:=fun r=>by rw[Ale,he r];simp
 exact⟨h.flag,fun r=>by rw[this];exact h.val r,h.nd,fun r=>by rw[this];exact h.key r⟩
def A2j.put(h:A2j x J2 es){r0:UInt8}(he:∀r,A7m J2 r e=decide (r=r0))(c:Nat):A2j (x++[e]) J2 (Hk (kt:=.u8) (vt:=C8) r0 (A83 (kt:=.u8) r0 es++[Bbl e]) true c (Ko (kt:=.u8) r0 es)):=by
 have hv:∀r,Iq (x++[e]) J2 r=if r=r0 then Iq x J2 r++[Bbl e]else Iq x J2 r:=fun r=>by
  rw[Ale,he r];by_cases hr:r=r0<;>simp[hr]
 refine⟨fun r=>?_,fun r=>?_,?_,fun r=>?_⟩
 ·unfold A7b;rw[Zl rfl];by_cases hr:r=r0
  ·rw[Bo3 hr]
  ·rw[Bnv hr];exact h.flag r
 ·rw[hv];unfold A83;rw[Zl rfl];by_cases hr:r=r0
  ·subst hr;rw[Bo3 rfl,Bo3 rfl,← h.val r];rfl
  ·rw[Bnv hr,Bnv hr,← h.val r];rfl
 ·rw[Zm rfl];split
  ·exact h.nd
  ·rename_i hn;rw[Brb];exact⟨h.nd,by simp,fun a ha b hb=>by simp at hb;subst hb;rintro rfl;exact hn ha⟩
 ·rw[Zm rfl,hv];by_cases hr:r=r0
  ·subst hr;rw[Bo3 rfl];split<;>simp_all
  ·rw[Bnv hr,← h.key r];split
   ·rfl
   ·simp[hr]
def Bbn(k:Nat)(h:k≤256):(Ald k).Pairwise (fun x y=>x<y):=by unfold Ald;rw[Bra];refine(List.pairwise_lt_range (n:=k)).imp_of_mem ?_;intro a b ha hb hab;rw[Bse]at ha hb;rw[Bq8,Bs7,Bs7];omega
def Axr(r:UInt8):r∈Ald 256:=by unfold Ald;rw[Bnp];refine⟨r.toNat,Bse.2 r.toNat_lt,?_⟩;simp
def A2j.keys(h:A2j x J2 es):Ac0 (P8 es)=T5 x J2 256:=by
 unfold Ac0;have hs:(T5 x J2 256).Pairwise (fun x y=>x<y):=(Bbn 256 (Bno _)).filter _;refine Afz ?_ (hs.imp fun {a b} hab=>UInt8.le_of_lt hab);rw[show(P8 es).map (fun e=>e.2.1)=es.map (·.2.1)from Aai es];refine(Bsl h.nd (hs.imp fun {a b} hab=>UInt8.ne_of_lt hab)).2 fun r=>?_
 rw[h.key r];unfold T5;rw[Bo9];simp[Axr]
def A2j.get(h:A2j x J2 es)(r:UInt8):(B27 .u8 C8.sl r (Agh .u8 C8 es)).getD []=Iq x J2 r:=by rw[← h.val r];show(Sf r (P8 es)).getD []=_;rw[Axq];unfold A83;cases Q3 (kt:=.u8) (vt:=C8) r es<;>rfl
def B70(h:A2j x J2 es):es.length=(T5 x J2 256).length:=by rw[← h.keys];unfold Ac0;rw[(A6a _).length_eq,Bo1];simp[P8]
def Ah3(x:A6 Ev)(J2:Int)(hx:x.length≤1000)(hN:1000000000000<N):H5 N x J2=some (Cu x J2):=by
 unfold H5;refine Asb ?_;refine Dn (Q:=fun r=>r=Cu x J2) (fun m z=>∃(k:Nat) (es:Es8) (M0:Nat),z=(((k:Int),()),(),(),(es,M0),())∧k≤x.length∧m=x.length-k∧A2j (x.take k) J2 es) ?_ N x.length _ ⟨0,[],0,rfl,by omega,by omega,⟨fun _=>rfl,fun _=>rfl,by simp,fun r=>by simp[Iq]⟩⟩ (by omega);rintro m z rec ⟨k,es,M0,rfl,hk,rfl,hm⟩ ih;by_cases I1:k<x.length
 ·simp only[dec_lt,Bnq I1,Bna,B0,Cb I1,Bnb,Ac (show k+1<9223372036854775808 by omega)];cases h1:x[k].2.1==1 with
  |false =>
   simp only[Bnc];refine ih (x.length-(k+1)) _ (by omega) ⟨k+1,es,M0,rfl,by omega,rfl,?_⟩;rw[G2 I1];exact hm.skip fun r=>by simp[A7m,h1]
  |true =>
   cases h2:x[k].2.2.1==J2 with
   |false =>
    simp only[Bnc,Bna];refine ih (x.length-(k+1)) _ (by omega) ⟨k+1,es,M0,rfl,by omega,rfl,?_⟩;rw[G2 I1];exact hm.skip fun r=>by simp[A7m,h2]
   |true =>
    have e1:Aqv .u8 C8 x[k].2.2.2.1 es=true:=hm.flag _;have e2:(Af3 .u8 C8 x[k].2.2.2.1 es).length≤k:=by rw[show Af3 .u8 C8 x[k].2.2.2.1 es=Iq (x.take k) J2 x[k].2.2.2.1 from hm.val _];have:=Ael (x.take k) J2 x[k].2.2.2.1;rw[Bof]at this;omega
    have hf:Au ((Af3 .u8 C8 x[k].2.2.2.1 es).length+(0+1)) 32=true:=fit (by omega) (by omega);simp only[Bna,e1,Bnx,Bpj,hf];refine ih (x.length-(k+1)) _ (by omega) ⟨k+1,_,_,rfl,by omega,rfl,?_⟩;rw[G2 I1];refine hm.put (e:=x[k]) (r0:=x[k].2.2.2.1) (fun r=>?_) M0;simp only[A7m,h1,h2,Bqb];rw[Box];simp only[Brv,Bpk];exact eq_comm
 ·have:k=x.length:=by omega
  subst this;rw[Boh]at hm;have hlen:(Agh .u8 C8 es).length=(T5 x J2 256).length:=by rw[← B70 hm];simp[P8]
  have hle:(T5 x J2 256).length≤256:=Axp x J2 256;have hb:(Agh .u8 C8 es).length.ble 1000000000=true:=by rw[Buc,hlen];omega
  have hks:Ac0 (Agh .u8 C8 es)=T5 x J2 256:=hm.keys;simp only[dec_lt,Bnt I1,Bnc,hb,Bna,hks];rw[hlen,Bbm];cases hh:(T5 x J2 256).isEmpty with
  |true =>
   have:T5 x J2 256=[]:=by simpa using hh
   refine⟨_,rfl,?_⟩;simp[Cu,P6,this]
  |false =>
   simp only[Bnc];refine⟨Cu x J2,?_,rfl⟩;have hc:Cu x J2=((J2,P6 x J2),true):=by
    have:(P6 x J2).isEmpty=false:=by
     unfold P6;cases hq:T5 x J2 256 with
     |nil=>rw[hq]at hh;cases hh
     |cons a r=>rfl
    simp only[Cu,this,Bnc]
   rw[hc];refine A6i (fun k:Nat=>((((k:Int),()),((J2,((T5 x J2 256).take k).map (fun r=>Alc r (Iq x J2 r)),()),()),(),()):(Int×Unit)×((Int×A6 Ln×Unit)×Unit)×Unit×Unit)) _ 0 (T5 x J2 256).length (by omega) ?_ ?_ N (by omega)
   ·intro rec k _ h2;have hl:(((T5 x J2 256).take k).map (fun r=>Alc r (Iq x J2 r))).length≤k:=by rw[Bo1,Bof];omega
    have hv:=Ael x J2 (T5 x J2 256)[k];rw[G2 h2,Bo4];generalize ((T5 x J2 256).take k).map (fun r=>Alc r (Iq x J2 r))=A at *;have hf2:Au (A.length+(0+1)) 48=true:=fit (by omega) (by omega);have hg:=hm.get (T5 x J2 256)[k];simp only[dec_lt,Bnq h2,Bna,B0,Cb h2,Bnb,Ac (show k+1<9223372036854775808 by omega),hg,Beb N _ _ (show(Iq x J2 (T5 x J2 256)[k]).length≤1000 by omega) hN,Bnx,Bpj,hf2,Bnh,Bo8]
   ·intro rec;simp only[dec_lt,Bnt (Boy _),Bnc,Boh,P6]
abbrev ltI(x y:Int):Bool:=decide (x<y)
def Aca(x:A6 Ev):A6 Int:=(x.filter (fun e=>e.2.1==1)).map (·.2.2.1)
def Jy(x:A6 Ev):A6 Int:=Ag5 ltI (Aca x)
def B71(x:A6 Ev)(e:Ev):Aca (x++[e])=Aca x++cond (e.2.1==1) [e.2.2.1] []:=by unfold Aca;rw[Bpm,Bo4];cases h:e.2.1==1<;>simp[h]
def Alf(x:A6 Ev):(Aca x).length≤x.length:=by unfold Aca;rw[Bo1];exact Bov _ _
def Aem(x:A6 Ev):(Jy x).length≤x.length:=Bop (Aek Ac9 _) (Alf x)
def E4(x:A6 Ev):A6 Cd:=(Jy x).map fun c=>(Cu x c).1
theorem foldl_map'{X Y:Type}(h:X→Y):∀(l:A6 X) (a:A6 Y),l.foldl (fun a x=>a++[h x]) a=a++l.map h
 |[],a=>by simp
 |x::r,a=>by
  simp only[Bp1,Bnh];rw[foldl_map' h r];simp
def Bec(hN:0<N):Xu.Zg (El:=Int) N=some ():=by unfold Xu.Zg Xu.A0l;rw[Bk3,Bnb];obtain⟨M,rfl⟩:∃M,N=M+1:=⟨N-1,by omega⟩;unfold Xu.J6;simp only[iter];rfl
def Bbo(c:A6 Int):A7 (A6 Int×Nat):=match c with
 |[]=>none
 |a::r=>some (a::r,(a::r).length)
def B3m(x:A6 Ev)(hx:x.length≤1000)(hN:1000000000000<N):L5 N x=some (E4 x):=by
 have hsl:(Xu.U.srt (Aca x)).length=(Aca x).length:=by simp[Xu.U.srt]
 have hcl:=Alf x;obtain⟨q,hq,h1,h2⟩:=Axn N (Xu.U.srt (Aca x)) (by rw[hsl];omega) (by rw[hsl];omega);rw[hsl]at hq;have h1:q.1.take q.2=Jy x:=by rw[h1];exact Aou Ac9 (Brg _ _) (Axo Ac9 _)
 have hc:=Aem x;have hcv:(Jy x).length=q.2:=by rw[← h1,Bof];omega
 unfold L5;refine A6i (fun k:Nat=>((((k:Int),()),(),(Bbo (Aca (x.take k)),()),()):(Int×Unit)×Unit×(A7 (A6 Int×Nat)×Unit)×Unit)) (some (E4 x)) 0 x.length (by omega) ?_ ?_ N (by omega)
 ·intro rec k _ hk;have hl:=Alf (x.take k);rw[Bof]at hl;rw[G2 hk,B71];generalize Aca (x.take k)=c at *;cases c with
  |nil =>simp only[Bbo,A9,dec_lt,Bnq hk,Bna,B0,Cb hk,Bnb,Ac (show k+1<9223372036854775808 by omega)];cases x[k].2.1==1<;>rfl
  |cons a r =>
   have hb:(a::r).length.beq (a::r).length=true:=by simp
   have hf:Au ((a::r).length + [x[k].2.2.1].length) 8=true:=fit (by simp only[Bnx,Bpj]at *;omega) (by simp only[Bnx,Bpj]at *;omega);simp only[Bbo,A9,dec_lt,Bnq hk,Bna,B0,Cb hk,Bnb,Ac (show k+1<9223372036854775808 by omega),hb,hf];cases x[k].2.1==1 with
   |true =>simp only[Bna,Bpw,Bp4,Bnx,Bpj]
   |false=>simp only[Bnc,Bom]
 ·intro rec;rw[Boh];cases hcc:Aca x with
  |nil =>
   simp only[Bbo,A9,dec_lt,Bnt (Boy _),Bnc,Bec N (by omega),Ft,Bnb];have:E4 x=[]:=by unfold E4 Jy;rw[hcc];rfl
   rw[this];obtain⟨M,rfl⟩:∃M,N=M+1:=⟨N-1,by omega⟩;simp only[iter];rfl
  |cons a r =>
   have B83:Xu.Et N (a::r) (a::r).length=some (Xu.U.srt (a::r),()):=Xu.U.Vj N (a::r) (by rw[← hcc];omega) hN;rw[hcc]at hq;have hb:(0+q.2).ble q.1.length=true:=by rw[Buc];omega
   simp only[Bbo,A9,dec_lt,Bnt (Boy _),Bnc,B83,hq,Bnb,hb,Bna,Bqk,h1];simp only[← hcv];have hq:E4 x=[]++(Jy x).map (fun c=>(Cu x c).1):=rfl;rw[hq,← foldl_map'];refine Hy (Jy x) (fun a c=>a++[(Cu x c).1]) [] (fun a=>some a) ?_ ?_ N (by omega)
   ·intro rec k a hk ha;have hal:a.length≤k:=by rw[ha,foldl_map',Bou,Bo1,Bof];omega
    have hf:Au (a.length+(0+1)) 32=true:=fit (by omega) (by omega);simp only[dec_lt,Bnq hk,Bna,B0,Cb hk,Bnb,Ac (show k+1<9223372036854775808 by omega),Ah3 N x _ hx hN,Bnx,Bpj,hf]
   ·intro rec;simp only[dec_lt,Bnt (Boy _),Bnc]
def Acb{α:Type}[BEq α][LawfulBEq α](a:α):(a != a)=false:=by simp
def B72(l:A6 (A6 UInt8))(hl:l.length≤100000)(hN:1000000<N):Jm N l l=some true:=by
 unfold Jm;simp only[Acb,Bnc];refine A6i (fun k:Nat=>((((k:Int),()),(),(),()):(Int×Unit)×Unit×Unit×Unit)) (some true) 0 l.length (by omega) ?_ ?_ N (by omega)
 ·intro rec k _ hk;simp only[dec_lt,Bnq hk,Bna,B0,Cb hk,Bnb,Ac (show k+1<9223372036854775808 by omega),Acb,Bnc]
 ·intro rec;simp only[dec_lt,Bnt (Boy _),Bnc]
def B73(l:A6 Ln)(hl:l.length≤100000)(hs:∀e∈l,e.2.2.length≤100000)(hN:1000000<N):Jn N l l=some true:=by
 unfold Jn;simp only[Acb,Bnc];refine A6i (fun k:Nat=>((((k:Int),()),(),(),()):(Int×Unit)×Unit×Unit×Unit)) (some true) 0 l.length (by omega) ?_ ?_ N (by omega)
 ·intro rec k _ hk;simp only[dec_lt,Bnq hk,Bna,B0,Cb hk,Bnb,Ac (show k+1<9223372036854775808 by omega),Acb,Bnc,B72 N _ (hs _ (Bp5 hk)) hN,Bp8]
 ·intro rec;simp only[dec_lt,Bnt (Boy _),Bnc]
structure SmC(c:Cd):Prop where
 len:c.2.length≤100000
 txt:∀e∈c.2,e.2.2.length≤100000
def Axs(c:Cd)(hc:SmC c)(hN:1000000<N):Di N c c=some true:=by unfold Di;simp only[Bt5,Bna,B73 N c.2 hc.len hc.txt hN,Bnb]
def Bbp(x:A6 Vl):(B6y x).length≤x.length:=by have:=Aek Ah2 (x.map (·.2));rw[Bo1]at this;exact this
def Bbq(x:A6 Ev)(J2:Int)(hx:x.length≤1000):SmC (Cu x J2).1:=by
 unfold Cu;cases(P6 x J2).isEmpty with
 |true=>exact⟨by simp,by simp⟩
 |false =>
  simp only[Bnc];refine⟨?_,?_⟩
  ·unfold P6;rw[Bo1];have:=Axp x J2 256;omega
  ·intro e he;unfold P6 at he;obtain⟨r,_,rfl⟩:=Bnp.1 he;unfold Alc;cases(Iq x J2 r).isEmpty with
   |true=>simp
   |false =>simp only[Bnc];have h1:=Bov (fun e=>!(e==(A9d (Iq x J2 r)).2)) (B6y (Iq x J2 r));have h2:=Bbp (Iq x J2 r);have h3:=Ael x J2 r;omega
def Bbr(x:A6 Ev)(hx:x.length≤1000):∀c∈E4 x,SmC c:=by intro c hc;obtain⟨i,_,rfl⟩:=Bnp.1 hc;exact Bbq x i hx
def Ate:Cu [((1,1),1,5,1,[97],[]),((2,1),1,5,1,[98],[])] 5=((5,[(1,[98],[[97]])]),true):=by decide
def Atf(hN:1000000000000<N):Ba N=some true:=by unfold Ba;rw[Ah3 N _ _ (by decide) hN,Ate];simp only[Bnb,Bna];rw[Axs N _ ⟨by simp,by simp⟩ (by omega)];rfl
def B74(N n:Nat)(w:Int)(l:A6 Ev)(hn:n≤l.length)(hl:n≤1000000)(hN:1000000<N) :
  ∃i:Int,Dd N n w l=some ((i,()),(),(),())∧((i = -1∧(l.take n).filter (fun e=>!(e.2.2.1 != w))=l.take n)∨∃m:Nat,i=(m:Int)∧m<n∧(l.take (m+1)).filter (fun e=>!(e.2.2.1 != w))=l.take m):=by
 unfold Dd;have key:=Dn (σ:=(Int×Unit)×Unit×Unit×Unit) (R:=(Int×Unit)×Unit×Unit×Unit)
  (Q:=fun r=>∃i:Int,r=((i,()),(),(),())∧((i = -1∧(l.take n).filter (fun e=>!(e.2.2.1 != w))=l.take n)∨∃m:Nat,i=(m:Int)∧m<n∧(l.take (m+1)).filter (fun e=>!(e.2.2.1 != w))=l.take m))
  (f:=fun(rec:(Int×Unit)×Unit×Unit×Unit→A7 ((Int×Unit)×Unit×Unit×Unit)) (z:(Int×Unit)×Unit×Unit×Unit) =>
   bif decide (z.fst.fst<(↑n:Int)) then
    bif decide (0≤z.fst.fst)&&decide (z.fst.fst<(↑n:Int)) then
     l[0+z.fst.fst.toNat]?.bind fun(e:Ev) =>
      Option.bind (Fb N e w) fun(y:(Bool×Unit)×Unit×Unit×Unit) =>
       bif y.fst.fst then some ((z.fst.fst,()),(),(),())
       else rec ((i64.wrap (z.fst.fst+1),()),(),(),())
    else none
   else some ((-1,()),(),(),()))
  (fun m z=>∃k:Nat,z=(((k:Int),()),(),(),())∧k≤n∧m=n-k∧(l.take k).filter (fun e=>!(e.2.2.1 != w))=l.take k) ?_ N n ((((0:Nat):Int),()),(),(),()) ?_ (by omega)
 ·obtain⟨r,h1,i,rfl,h2⟩:=key;exact⟨i,h1,h2⟩
 ·rintro m z rec ⟨k,rfl,h1,h2,h3⟩ ih;by_cases hk:k<n
  ·have I1:k<l.length:=by omega
   have hb:decide (0≤(k:Int))=true:=by simp
   simp only[dec_lt,Bnq hk,Bna,hb,Bpe,Ct,Bog,Cb I1,Bnb,Fb,Ac (show k+1<9223372036854775808 by omega)];cases he:(l[k].2.2.1 != w) with
   |true =>refine⟨_,rfl,_,rfl,.inr ⟨k,rfl,hk,?_⟩⟩;rw[G2 I1,Bpm,h3];simp[he]
   |false =>refine ih (n-(k+1)) _ (by omega) ⟨k+1,rfl,by omega,rfl,?_⟩;rw[G2 I1,Bpm,h3];simp[he]
  ·have:k=n:=by omega
   subst this;simp only[dec_lt,Bnt hk,Bnc];exact⟨_,rfl,_,rfl,.inl ⟨rfl,h3⟩⟩
 ·exact⟨0,rfl,Bq9 _,rfl,by simp⟩
def B1f(N n:Nat)(w:Int)(l:A6 Ev)(hn:n≤l.length)(hl:n≤1000000)(hN:1000000<N) :
  ∃(m:Nat) (c:A6 Ev),B4 N n w l=some ((m,()),(),(),c,())∧m≤c.length∧c.take m=(l.take n).filter (fun e=>!(e.2.2.1 != w)):=by
 obtain⟨i,hi,hc⟩:=B74 N n w l hn hl hN;unfold B4;simp only[hi,Bnb];rcases hc with ⟨rfl,h⟩|⟨i0,rfl,hi0,h⟩
 ·exact⟨n,l,rfl,hn,h.symm⟩
 ·have hb:((i0:Int) == -1)=false:=by rw[Bqp];omega
  simp only[hb,Bnc];rw[Ac (show i0+1<9223372036854775808 by omega)];have key:=Dn (σ:=(Int×Int×Unit)×Unit×Unit×A6 Ev×Unit) (R:=(Nat×Unit)×Unit×Unit×A6 Ev×Unit)
   (Q:=fun r=>∃(m:Nat) (c:A6 Ev),r=((m,()),(),(),c,())∧m≤c.length∧c.take m=(l.take n).filter (fun e=>!(e.2.2.1 != w)))
   (f:=fun rec z =>
     bif decide (z.fst.snd.fst<(↑n:Int)) then
      bif decide (0≤z.fst.snd.fst)&&decide (z.fst.snd.fst<(↑n:Int)) then
       z.snd.snd.snd.fst[0+z.fst.snd.fst.toNat]?.bind fun(e:Ev) =>
        Option.bind (Fb N e w) fun(y:(Bool×Unit)×Unit×Unit×Unit) =>
         bif !y.fst.fst then
          bif decide (0≤z.fst.fst)&&decide (z.fst.fst<(↑n:Int)) then
           z.snd.snd.snd.fst[0+z.fst.fst.toNat]?.bind fun(Dt:Ev) =>
            rec
             ((i64.wrap (z.fst.fst+1),i64.wrap (z.fst.snd.fst+1),()),(),(),
              z.snd.snd.snd.fst.set (0+z.fst.fst.toNat) e,())
          else none
         else rec ((z.fst.fst,i64.wrap (z.fst.snd.fst+1),()),(),(),z.snd.snd.snd.fst,())
      else none
     else
      bif Ew z.fst.fst (↑n:Int) n then
       bif Ew 0 z.fst.fst n then
        some ((z.fst.fst.toNat-0,()),(),(),List.take (0+z.fst.fst.toNat) z.snd.snd.snd.fst,())
       else none
      else none)
   (fun r z=>∃(a j:Nat) (c:A6 Ev),z=(((a:Int),(j:Int),()),(),(),c,())∧a<j∧j≤n∧r=n-j∧c.length=l.length∧(∀t,j≤t→c[t]? = l[t]?)∧c.take a=(l.take j).filter (fun e=>!(e.2.2.1 != w))) ?_ N (n-(i0+1)) (((i0:Int),((i0+1:Nat):Int),()),(),(),l,()) ?_ (by omega)
  ·obtain⟨r,h1,m,c,rfl,h2⟩:=key;exact⟨m,c,h1,h2⟩
  ·rintro r z rec ⟨a,j,c,rfl,haj,hjn,rfl,hcl,hct,hca⟩ ih;by_cases hj:j<n
   ·have hjl:j<l.length:=by omega
    have hb1:decide (0≤(j:Int))=true:=by simp
    have hb2:decide (0≤(a:Int))=true:=by simp
    have han:a<n:=by omega
    have hcj:c[j]? = some l[j]:=by rw[hct _ (Bno _),Cb hjl]
    have hac:a<c.length:=by omega
    simp only[dec_lt,Bnq hj,Bnq han,Bna,hb1,hb2,Bpe,Ct,Bog,hcj,Cb hac,Bnb,Fb,Ac (show j+1<9223372036854775808 by omega),Ac (show a+1<9223372036854775808 by omega)];cases he:(l[j].2.2.1 != w) with
    |true =>simp only[Bp8,Bnc];refine ih (n-(j+1)) _ (by omega) ⟨a,j+1,c,rfl,by omega,by omega,rfl,hcl,fun t ht=>hct t (by omega),?_⟩;rw[G2 hjl,Bpm,hca];simp[he]
    |false =>
     simp only[Bpf,Bna];refine ih (n-(j+1)) _ (by omega) ⟨a+1,j+1,c.set a l[j],rfl,by omega,by omega,rfl,by simpa using hcl,fun t ht=>?_,?_⟩
     ·rw[Brw (by omega)];exact hct t (by omega)
     ·rw[G2 hjl,Bpm,← hca,Bp9,Bs4 (Bno _),Brl hac];simp[he]
   ·have:j=n:=by omega
    subst this;have hb1:Ew (a:Int) (j:Int) j=true:=by simp[Ew];omega
    have hb2:Ew 0 (a:Int) j=true:=by simp[Ew];omega
    simp only[dec_lt,Bnt hj,Bnc,hb1,hb2,Bna,Ct,Bog,Bpy];refine⟨_,rfl,_,_,rfl,?_,?_⟩
    ·rw[Bof];omega
    ·rw[Bt2,Btj,hca]
  ·exact⟨i0,i0+1,l,rfl,by omega,by omega,rfl,rfl,fun _ _=>rfl,h.symm⟩
def Yv(w:Int)(hN:1000000<N):As N [] w=some (([],()),(),(),()):=by unfold As Fg;obtain⟨M,rfl⟩:∃M,N=M+1:=⟨N-1,by omega⟩;rfl
def B3n(L:A6 Ev)(w:Int)(hL:L.length≤1000)(hN:1000000<N){R:Type}(g:A6 Ev→R) :
  (A9 (owE L) (Option.bind (As N [] w) fun(y:(A6 Ev×Unit)×Unit×Unit×Unit)=>some (g y.fst.fst))
   fun(z:A6 Ev×Nat)=>Option.bind (B4 N z.snd w z.fst) fun(y:(Nat×Unit)×Unit×Unit×A6 Ev×Unit) =>
    bif bif (0+y.fst.fst).ble y.snd.snd.snd.fst.length then true else false then some (g (List.take y.fst.fst (List.drop 0 y.snd.snd.snd.fst)))else none)=some (g (L.filter fun e=>e.2.2.1==w)):=by
 cases L with
 |nil=>simp only[owE,A9,Yv N w hN,Bnb,Btk]
 |cons a r =>
  obtain⟨m,c,h1,h2,h3⟩:=B1f N (a::r).length w (a::r) (Bno _) (by omega) hN;have hb:(0+m).ble c.length=true:=Bp0 (by omega);simp only[owE,A9,h1,Bnb,hb,Bna,Bqk];have e:(fun e:Ev=>!(e.2.2.1 != w))=fun e:Ev=>e.2.2.1==w:=by funext e;cases h:(e.2.2.1==w)<;>simp[bne,h]
  rw[h3,Boh,e]
def Bbs(es:A6 (Nat×(Int×Int)×Ev)):(Xs es).length=es.length:=by unfold Xs;rw[(Ib On _).1.length_eq];simp
def A6j{x:BkC}(h:Ac7 x):(Kl x).length≤30:=by unfold Kl;rw[Bbs];exact h.live.len
def B1g{x:BkC}(h:Ac7 x):∀e∈Kl x,(e.2.1==1)=true:=by intro e he;have:=(Ib On ((U8 x.2.1).map (·.2.2))).1.mem_iff.1 he;obtain⟨y,hy,rfl⟩:=Bnp.1 this;exact h.edit y hy
def of_eq(w:Int)(x:BkC)(h:Ac7 x)(hN:1000000<N):Rv N w x=some ((x,()),(Kl x).filter (fun e=>e.2.2.1==w),()):=by
 have hlen:=A6j h;obtain⟨c,lv,tb,u⟩:=x;have hl:=h.live;unfold Rv O0 Ny Nw Nu;cases lv with
 |none =>
  have e0:Kl (c,none,tb,u)=[]:=Al4;rw[e0];cases tb with
  |none=>simp only[A9,Al3 N hN,Bnb,Yv N w hN,Btk]
  |some b=>simp only[A9,Al3 N hN,Bnb,Yv N w hN,Btk]
 |some a =>
  have e0:Kl (c,some a,tb,u)=Xs a.1:=rfl;rw[e0]at hlen⊢;have ow:∀L:A6 Ev,(A9 (owE L) (some ((),(),((none:A7 (A6 Ev×Nat)),()),())) fun(y:A6 Ev×Nat)=>some ((),(),(some y,()),()))=some ((),(),(owE L,()),()):=by intro L;cases L<;>rfl
  cases tb with
  |none =>
   simp only[A9,(hl.list N hN).2,Bnb];have:=B3n N (Xs a.1) w (by omega) hN (fun r=>((((c,some a,(none:Aeh),()):BkC),()),r,()));cases hL:Xs a.1 with
   |nil=>rw[hL]at this;exact this
   |cons q r=>rw[hL]at this;exact this
  |some b =>
   simp only[A9,(hl.list N hN).2,Bnb];have:=B3n N (Xs a.1) w (by omega) hN (fun r=>((((c,some a,some b,()):BkC),()),r,()));cases hL:Xs a.1 with
   |nil=>rw[hL]at this;exact this
   |cons q r=>rw[hL]at this;exact this
def get_eq(w:Int)(x:BkC)(h:Ac7 x)(hN:1000000000000<N):Xr N w x=some ((x,()),(Cu (Kl x) w).1,(Cu (Kl x) w).2,()):=by
 have hlen:=A6j h;obtain⟨c,lv,tb,u⟩:=x;have hl:=h.live;have A10:=Ah3 N (Kl (c,lv,tb,u)) w (by omega) hN;unfold Xr H3 H2 Gz Gy;cases lv with
 |none =>
  have e0:Kl (c,none,tb,u)=[]:=Al4;rw[e0]at A10⊢;cases tb with
  |none=>simp only[A9,A6h N (by omega:1000000<N),Bnb,A10]
  |some b=>simp only[A9,A6h N (by omega:1000000<N),Bnb,A10]
 |some a =>
  have e0:Kl (c,some a,tb,u)=Xs a.1:=rfl;rw[e0]at A10⊢;cases tb with
  |none=>simp only[A9,(hl.list N (by omega)).1,Bnb,A10]
  |some b=>simp only[A9,(hl.list N (by omega)).1,Bnb,A10]
def all_eq(x:BkC)(h:Ac7 x)(hN:1000000000000<N):A2a N x=some ((x,()),E4 (Kl x),()):=by
 have hlen:=A6j h;obtain⟨c,lv,tb,u⟩:=x;have hl:=h.live;have A10:=B3m N (Kl (c,lv,tb,u)) (by omega) hN;unfold A2a H3 H2 Gz Gy;cases lv with
 |none =>
  have e0:Kl (c,none,tb,u)=[]:=Al4;rw[e0]at A10⊢;cases tb with
  |none=>simp only[A9,A6h N (by omega:1000000<N),Bnb,A10]
  |some b=>simp only[A9,A6h N (by omega:1000000<N),Bnb,A10]
 |some a =>
  have e0:Kl (c,some a,tb,u)=Xs a.1:=rfl;rw[e0]at A10⊢;cases tb with
  |none=>simp only[A9,(hl.list N (by omega)).1,Bnb,A10]
  |some b=>simp only[A9,(hl.list N (by omega)).1,Bnb,A10]
def A54(w:Int)(hN:1000000000000<N):Jo N w=some ((),(Cu [] w).1,(Cu [] w).2,()):=by unfold Jo F1;simp only[Bnb,Ah3 N [] w (by simp) hN]
def A55(hN:1000000000000<N):Gr N=some ((),E4 [],()):=by unfold Gr F1;simp only[Bnb,B3m N [] (by simp) hN]
def Bed(w:Int)(hN:1000000000000<N):Oo N w=some ((),[],()):=by unfold Oo F1;simp only[Bnb,Yv N w (by omega)]
def Atg:(Cu L c).2=true↔∃e∈L,(e.2.1==1)=true∧e.2.2.1=c:=by
 have key:(P6 L c).isEmpty=false↔∃e∈L,(e.2.1==1)=true∧e.2.2.1=c:=by
  have h1:(P6 L c).isEmpty=(T5 L c 256).isEmpty:=by unfold P6;cases T5 L c 256<;>rfl
  rw[h1];constructor
  ·intro h;cases hh:T5 L c 256 with
   |nil=>rw[hh]at h;cases h
   |cons r q =>
    have hr:r∈T5 L c 256:=by rw[hh];simp
    obtain⟨_,h2⟩:=Bo9.1 hr;cases hv:Iq L c r with
    |nil=>rw[hv]at h2;simp at h2
    |cons v vs =>
     have:v∈Iq L c r:=by rw[hv];simp
     unfold Iq at this;obtain⟨e,he,_⟩:=Bnp.1 this;obtain⟨he1,he2⟩:=Bo9.1 he;unfold A7m at he2;simp only[Boo,Brv]at he2;exact⟨e,he1,by simp[he2.1],he2.2.1⟩
  ·rintro ⟨e,he,h2,h3⟩;have hm:e.2.2.2.1∈T5 L c 256:=by
    unfold T5;refine Bo9.2 ⟨Axr _,?_⟩;have:Bbl e∈Iq L c e.2.2.2.1:=Bnp.2 ⟨e,Bo9.2 ⟨he,by simp[A7m,h2,h3]⟩,rfl⟩;cases hv:Iq L c e.2.2.2.1 with
    |nil=>rw[hv]at this;simp at this
    |cons v vs=>rfl
   cases hh:T5 L c 256 with
   |nil=>rw[hh]at hm;simp at hm
   |cons r q=>rfl
 unfold Cu;cases h:(P6 L c).isEmpty with
 |true =>
  simp only[Bna];constructor
  ·intro hh;cases hh
  ·intro hh;rw[key.2 hh]at h;cases h
 |false=>simp only[Bnc,true_iff];exact key.1 h
def Bbt(h:(Cu L c).2=true):(Cu L c).1.1=c:=by
 unfold Cu at *;cases hl:(P6 L c).isEmpty with
 |true=>rw[hl]at h;cases h
 |false=>rfl
def Bee(h:(Cu L c).2=false):(Cu L c).1.2=[]:=by
 unfold Cu at *;cases hl:(P6 L c).isEmpty with
 |true=>rfl
 |false=>rw[hl]at h;cases h
def Alg:c∈Jy L↔(Cu L c).2=true:=by
 rw[Atg];unfold Jy;rw[Aot Ac9];unfold Aca;rw[Bnp];constructor
 ·rintro ⟨e,he,rfl⟩;obtain⟨h1,h2⟩:=Bo9.1 he;exact⟨e,h1,h2,rfl⟩
 ·rintro ⟨e,h1,h2,h3⟩;exact⟨e,Bo9.2 ⟨h1,h2⟩,h3⟩
def Axt(L:A6 Ev):(Jy L).Pairwise (· < ·):=(Aos Ac9 (Aca L)).imp fun {a b} h=>by simpa using h
def Alh(h:k<(E4 L).length):∃c,(Jy L)[k]? = some c∧(E4 L)[k]=(Cu L c).1∧(E4 L)[k].1=c∧(Cu L c).2=true:=by
 have hl:k<(Jy L).length:=by simpa[E4]using h
 have e:(E4 L)[k]=(Cu L (Jy L)[k]).1:=by simp[E4]
 have hc:=Alg.1 (Bp5 hl);exact⟨(Jy L)[k],Cb hl,e,by rw[e];exact Bbt hc,hc⟩
def cnt(L:A6 Ev)(w:Int)(k:Nat):Nat:=(((Jy L).take k).filter fun c=>c==w).length
def Bbu(L:A6 Ev)(w:Int)(h:k<(Jy L).length):cnt L w (k+1)=cnt L w k+if (Jy L)[k]=w then 1 else 0:=by unfold cnt;rw[Bp9,Cb h,Bpm,Bp4];by_cases hw:(Jy L)[k]=w<;>simp[hw]
def Bhl(L:A6 Ev)(w:Int)(k:Nat):cnt L w k≤k:=by unfold cnt;have:=Bov (fun c:Int=>c==w) ((Jy L).take k);rw[Bof]at this;omega
def Bef(L:A6 Ev)(w:Int):((cnt L w (Jy L).length:Int)==1)=(Cu L w).2:=by
 unfold cnt;rw[Boh];have nd:(Jy L).Nodup:=(Axt L).imp fun {a b} h=>by omega
 have key:∀l:A6 Int,l.Nodup→(l.filter fun c=>c==w).length=if w∈l then 1 else 0:=by
  intro l;induction l with
  |nil=>intro _;rfl
  |cons a l ih =>
   intro hn;rw[Boi]at hn;have i:=ih hn.2;by_cases ha:a=w
   ·subst ha;rw[Bnv hn.1]at i;simp[i]
   ·have:¬w=a:=fun h=>ha h.symm
    simp[ha,this,i]
 rw[key _ nd];by_cases hw:w∈Jy L
 ·rw[Bo3 hw,Alg.1 hw];rfl
 ·rw[Bnv hw];cases hc:(Cu L w).2 with
  |false=>rfl
  |true=>exact absurd (Alg.2 hc) hw
def Axu:E4 []=[]:=rfl
def Axv(w:Int):(Cu [] w).2=false:=by
 cases h:(Cu [] w).2 with
 |false=>rfl
 |true=>obtain⟨e,he,_⟩:=Atg.1 h;simp at he
def Bhm(L:A6 Ev)(w:Int)(h:∀e∈L,(e.2.1==1)=true):decide ((0:Int)<((L.filter fun e=>e.2.2.1==w).length:Int))=(Cu L w).2:=by
 rw[Box,Atg,Bpk];constructor
 ·intro hp;cases hf:L.filter fun e=>e.2.2.1==w with
  |nil=>rw[hf]at hp;simp at hp
  |cons a r =>
   have:a∈L.filter fun e=>e.2.2.1==w:=by rw[hf];simp
   obtain⟨h1,h2⟩:=Bo9.1 this;exact⟨a,h1,h a h1,by simpa using h2⟩
 ·rintro ⟨e,h1,_,h3⟩;have:e∈L.filter fun e=>e.2.2.1==w:=Bo9.2 ⟨h1,by simp[h3]⟩
  have:=Bs8 this;omega
def B1h(b:Bool):(b==b)=true:=by cases b<;>rfl
def B3o(hN:1000000000000<N)(L:A6 Ev)(w:Int)(ofl:A6 Ev)(hof:decide ((0:Int)<(ofl.length:Int))=(Cu L w).2) :
  (Option.bind (Jo N w) fun(Lo:Unit×Cd×Bool×Unit) =>
   bif (Cu L w).2==decide ((0:Int)<(ofl.length:Int)) then
    bif (Cu L w).2==((cnt L w (Jy L).length:Int)==1) then
     bif (Cu L w).2 then
      bif !Lo.snd.snd.fst then
       Option.bind (Gr N) fun(y:Unit×A6 Cd×Unit)=>bif (y.snd.fst.length:Int)==0 then Option.bind (Ba N) fun(y:Bool)=>some y else some false
      else some false
     else
      bif ((Cu L w).1.snd.length:Int)==0 then
       bif !Lo.snd.snd.fst then
        Option.bind (Gr N) fun(y:Unit×A6 Cd×Unit)=>bif (y.snd.fst.length:Int)==0 then Option.bind (Ba N) fun(y:Bool)=>some y else some false
       else some false
      else some false
    else some false
   else some false)=some true:=by
 rw[A54 N w hN,Bnb,hof,Bef,B1h,Axv,A55 N hN,Axu];cases hc:(Cu L w).2 with
 |true=>simp only[Bna,Bpf,Bnb,Atf N hN];rfl
 |false =>rw[Bee hc];simp only[Bna,Bnc,Bpf,Bnb,Atf N hN];rfl
def Bbv(hk:k<(E4 L).length)(h0:0<k)(hk1:k-1<(E4 L).length):decide ((E4 L)[k].1≤(E4 L)[k-1].1)=false:=by obtain⟨c,c1,_,c3,_⟩:=Alh hk;obtain⟨d,d1,_,d3,_⟩:=Alh hk1;obtain⟨l1,rfl⟩:=Bnj.1 c1;obtain⟨l2,rfl⟩:=Bnj.1 d1;have:=Bp6.1 (Axt L) (k-1) k l2 l1 (by omega);rw[c3,d3];simp;omega
def B3p{σ:Type}(N:Nat)(hN:1000000000000<N)(L:A6 Ev)(hL:L.length≤30)(w:Int)(mk:Int→Int→σ)(fin:Int→A7 Bool)(A9g:fin (cnt L w (Jy L).length:Int)=some true)
  {f:(σ→A7 Bool)→σ→A7 Bool}
  (hs:∀(rec:σ→A7 Bool) (n k:Nat),n≤k→k<(E4 L).length→f rec (mk (n:Int) (k:Int))=Option.bind ((E4 L)[k]?) fun(e:Cd) =>
   bif !(Cu L e.1).2 then some false
   else Option.bind ((E4 L)[k]?) fun(e2:Cd)=>Option.bind (Di N (Cu L e.1).1 e2) fun(y:Bool) =>
    bif !y then some false
    else bif decide ((0:Int)<(k:Int)) then
      Option.bind (at? (E4 L) (i64.wrap ((k:Int)-1))) fun(e3:Cd)=>Option.bind ((E4 L)[k]?) fun(e4:Cd) =>
       bif decide (e4.1≤e3.1)then some false
       else Option.bind ((E4 L)[k]?) fun(e5:Cd)=>bif e5.1==w then rec (mk ((n+1:Nat):Int) ((k+1:Nat):Int))else rec (mk (n:Int) ((k+1:Nat):Int))
     else Option.bind ((E4 L)[k]?) fun(e5:Cd)=>bif e5.1==w then rec (mk ((n+1:Nat):Int) ((k+1:Nat):Int))else rec (mk (n:Int) ((k+1:Nat):Int)))
  (he:∀(rec:σ→A7 Bool) (n:Nat),f rec (mk (n:Int) ((E4 L).length:Int))=fin (n:Int)):iter f N (mk 0 0)=some true:=by
 have hll:(E4 L).length=(Jy L).length:=by simp[E4]
 have hlen:(E4 L).length≤30:=by rw[hll];exact Bop (Aem L) hL
 refine iter_eq (f:=f) (G:=fun _=>some true) (fun m z=>∃k:Nat,z=mk (cnt L w k:Int) (k:Int)∧k≤(E4 L).length∧m=(E4 L).length-k) ?_ N (E4 L).length (mk 0 0) ⟨0,rfl,by omega,by omega⟩ (by omega);rintro m z rec ⟨k,rfl,hk,rfl⟩ ih;by_cases I1:k<(E4 L).length
 ·obtain⟨c,c1,c2,c3,c4⟩:=Alh I1;have hkc:k<(Jy L).length:=by omega
  have hcc:(Jy L)[k]=c:=by rw[Cb hkc]at c1;exact Br6 c1
  have G3:SmC (E4 L)[k]:=Bbr L (by omega) _ (Bp5 I1);have Tg:=Bbu L w hkc;rw[hcc]at Tg;have Amv:Di N (Cu L c).1 (Cu L c).1=some true:=by rw[← c2];exact Axs N _ G3 (by omega)
  have go:(bif (E4 L)[k].1==w then rec (mk ((cnt L w k+1:Nat):Int) ((k+1:Nat):Int))else rec (mk (cnt L w k:Int) ((k+1:Nat):Int)))=some true:=by
   have i1:=ih ((E4 L).length-(k+1)) (mk (cnt L w (k+1):Int) ((k+1:Nat):Int)) (by omega) ⟨k+1,rfl,by omega,rfl⟩;rw[c3];by_cases hw:c=w
   ·rw[Bo3 hw]at Tg;have hb:(c==w)=true:=by simpa using hw
    rw[hb,Bna,← Tg];exact i1
   ·rw[Bnv hw]at Tg;have hb:(c==w)=false:=by simpa using hw
    rw[hb,Bnc];rw[Tg,Br0]at i1;exact i1
  rw[hs rec (cnt L w k) k (Bhl L w k) I1,Cb I1];simp only[Bnb,c3,c4,Bp8,Bnc];rw[c2,Amv];simp only[Bnb,Bp8,Bnc];rw[c3]at go;by_cases h0:0<k
  ·have hk1:k-1<(E4 L).length:=by omega
   have hd:decide ((0:Int)<(k:Int))=true:=by simp;omega
   have la:=Bbv I1 h0 hk1;rw[c3]at la;rw[hd,Bna,C4 h0 (by omega),B0,Cb hk1,Bnb,la,Bnc];exact go
  ·have hd:decide ((0:Int)<(k:Int))=false:=by simp;omega
   rw[hd,Bnc];exact go
 ·have hkk:k=(E4 L).length:=by omega
  rw[hkk,he];rw[hll];exact A9g
def viewBook_true(hN:1000000000000<N)(l:A6 Axj)(w:Int):He N l w=some true:=by
 unfold He;rcases B17 N l hN with h|⟨h,hl,he⟩
 ·rw[h,Bnb];have:((0:Int)==0)=true:=rfl;rw[this,Bna,Atf N hN];rfl
 ·rw[h,Bnb];have:((1:Int)==0)=false:=rfl;rw[this,Bnc];obtain⟨x,hx,hb⟩:=B6r N l hl he hN;obtain⟨⟨u,o,n,u2⟩,hr,hq⟩:=B6t N x.1 x.2 (hb.sm (by omega)) (by have:=hb.len;omega) (fun e h=>B15 (hb.evs e h)) hN;rw[hx,Bnb,hr,Bnb];have w1:∀k:Nat,k≤100→i64.wrap ((k:Int)+1)=((k+1:Nat):Int):=fun k hk=>Ac (by omega)
  cases o with
  |none =>
   simp only[A9,A54 N _ hN,A55 N hN,Bed N _ hN,Bnb];refine B3p (L:=[]) N hN (by simp) w (fun n k=>((n,k,()),(),(),())) (fun n=>(bif (Cu [] w).2==decide ((0:Int)<(([]:A6 Ev).length:Int)) then
    bif (Cu [] w).2==(n==1) then
     bif (Cu [] w).2 then
      bif !(Cu [] w).2 then
       bif ((E4 []).length:Int)==0 then Option.bind (Ba N) fun(y:Bool)=>some y else some false
      else some false
     else
      bif ((Cu [] w).1.snd.length:Int)==0 then
       bif !(Cu [] w).2 then
        bif ((E4 []).length:Int)==0 then Option.bind (Ba N) fun(y:Bool)=>some y else some false
       else some false
      else some false
    else some false
   else some false)) ?_ ?_ ?_
   ·have:=B3o N hN [] w [] (by rw[Axv];rfl);simp only[A54 N _ hN,A55 N hN,Bnb]at this;exact this
   ·intro rec n k hnk hk;exact absurd hk (by simp[Axu])
   ·intro rec n;rfl
  |some b =>
   have hg:Ac7 b:=by
    rcases hq with hq|⟨x,h1,h2⟩
    ·cases hq
    ·cases h1;exact h2
   have hlen:=A6j hg;have hgo:=get_eq N;simp only[A9,A54 N _ hN,A55 N hN,get_eq N w b hg hN,all_eq N b hg hN,Bnb];refine B3p (L:=Kl b) N hN hlen w (fun n k=>((n,k,()),(),(),b,())) (fun n=>(bif (Cu (Kl b) w).2==decide ((0:Int)<(((Kl b).filter fun e=>e.2.2.1==w).length:Int)) then
    bif (Cu (Kl b) w).2==(n==1) then
     bif (Cu (Kl b) w).2 then
      bif !(Cu [] w).2 then
       bif ((E4 []).length:Int)==0 then Option.bind (Ba N) fun(y:Bool)=>some y else some false
      else some false
     else
      bif ((Cu (Kl b) w).1.snd.length:Int)==0 then
       bif !(Cu [] w).2 then
        bif ((E4 []).length:Int)==0 then Option.bind (Ba N) fun(y:Bool)=>some y else some false
       else some false
      else some false
    else some false
   else some false)) ?_ ?_ ?_
   ·have:=B3o N hN (Kl b) w _ (Bhm (Kl b) w (B1g hg));simp only[A54 N _ hN,A55 N hN,Bnb]at this;exact this
   ·intro rec n k hnk hk;have hkb:(E4 (Kl b)).length≤30:=by
     have:(E4 (Kl b)).length=(Jy (Kl b)).length:=by simp[E4]
     have:=Aem (Kl b);omega
    have wk:=w1 k (by omega);have wn:=w1 n (by omega);simp only[dec_lt,Bnq hk,Bna,B0,Cb hk,Bnb,get_eq N _ b hg hN,wk,wn]
   ·intro rec n;simp only[dec_lt,Bnt (Boy _),Bnc,of_eq N w b hg (by omega),Bnb]
end Go.Proofs.Xg
