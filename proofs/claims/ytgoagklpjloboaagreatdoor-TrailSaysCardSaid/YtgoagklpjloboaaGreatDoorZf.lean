import Derived.Test.YtgoagklpjloboaaGreatDoorZe
import Derived.Test.YtgoagklpjloboaaGreatDoorZd
import Derived.Test.YtgoagklpjloboaaGreatDoorZa
set_option linter.all false
set_option maxRecDepth 100000
open Go.IntKind (i64 u64 u16)
open Go.Proofs.Tryz
noncomputable section
namespace Go.Proofs.Xg
open Go Go.Xl Go.Ab Go.Proofs Go.Sort
def Am6(m:Tw)(e:Ev):Jh:=match m with
 |none=>(Mm (kt:=Ag) (vt:=tEvent) e.1 e 0 [],Rt (kt:=Ag) (vt:=tEvent) e.1 [] 0)
 |some y=>(Mm (kt:=Ag) (vt:=tEvent) e.1 e y.2 y.1,Rt (kt:=Ag) (vt:=tEvent) e.1 y.1 y.2)
variable(N:Nat){m:Tw}{e:Ev}
def Bcs(e:Ev)(y:Jh)(he:smE e):Vn N e y=some (((),()),(),(),Am6 (some y) e,()):=by unfold Vn;rw[copy_eq N e he];rfl
def Bct(e:Ev)(he:smE e):Vo N e=some (((),()),(),(),Am6 none e,()):=by unfold Vo;rw[copy_eq N e he];rfl
def Bj4{R:Type}(N:Nat)(e:Ev)(he:smE e)(m:Tw)(k:Jh→A3 R):adE N e m k=k (Am6 m e):=by
 cases m with
 |none=>simp only[adE,A6,Bct N e he,Bow]
 |some y=>simp only[adE,A6,Bcs N e y he,Bow]
theorem Ayr{e:Ev}(c:Nat):∀ {es:A2 (Nat×(Int×Int)×Ev)},(∀x∈es,x.2.1≠e.1)→Mm (kt:=Ag) (vt:=tEvent) e.1 e c es=es++[(c,e.1,e)]
 |[],_=>rfl
 |y::r,h=>by
  have hb:Ag.eqv e.1 y.2.1=false:=B1e (kt:=Ag) rfl (Brl (h y Bp6));simp only[Mm];rw[hb,Box,Ayr c fun x hx=>h x (Bp5 _ hx)];rfl
def Ays(h:∀x∈Ce m,x.2.1≠e.1):∃c,(Am6 m e).1=Ce m++[(c,e.1,e)]:=by
 cases m with
 |none=>exact⟨0,rfl⟩
 |some y=>exact⟨y.2,Ayr y.2 h⟩
theorem WfM.none(n:Nat):WfM n none:=⟨by simp,by simp[Ce],by simp[Ce],by simp[Ce]⟩
variable{n k Iq:Nat}{l L:A2 Ev}{x:Int}{o:A2 (Int×Int)}
def WfM.mono(h:WfM n m)(hk:n≤k):WfM k m:=⟨h.wf,h.key,h.sm,by have:=h.len;omega⟩
def WfM.add(h:WfM n m)(he:smE e)(hn:∀x∈Ce m,x.2.1≠e.1):WfM (n+1) (some (Am6 m e)):=by
 obtain⟨c,hc⟩:=Ays hn;have mem:∀x∈(Am6 m e).1,x.2=(e.1,e)∨x∈Ce m:=by
  intro x hx;rw[hc]at hx;rcases Bp4.1 hx with hx|hx
  ·exact .inr hx
  ·simp at hx;subst hx;exact .inl rfl
 refine⟨?_,?_,?_,?_⟩
 ·intro y hy;cases hy;cases m with
  |none=>exact WfE.put (kt:=Ag) (vt:=tEvent) rfl (WfE.nil 0) e.1 e
  |some y=>exact WfE.put (kt:=Ag) (vt:=tEvent) rfl (h.wf y rfl) e.1 e
 ·intro x hx;rcases mem x hx with h1|h1
  ·rw[h1]
  ·exact h.key x h1
 ·intro x hx;rcases mem x hx with h1|h1
  ·rw[h1];exact he
  ·exact h.sm x h1
 ·show(Am6 m e).1.length≤n+1;rw[hc];have:=h.len;simp;omega
def Bj5(l:A2 Ev)(e:Ev)(hl:l.length≤100)(hs:∀e∈l,smE e)(hN:10000<N)(h:e.2.1=1→dead l e.1=false)(K:A3 Anm):kdE N l e K=K:=by
 unfold kdE;cases hk:(e.2.1==1) with
 |false=>rfl
 |true=>rw[Bov,Bfp N l _ hl hs hN,h (by simpa using hk)];rfl
def Bj6(h:l.Pairwise fun a b=>ltE a b=true)(hk:k<l.length):∀e∈l.take k,e.1≠l[k].1:=by intro e he h1;obtain⟨i,hi,rfl⟩:=Bv0 he;rw[Bq1]at hi;rw[List.getElem_take]at h1;have:=Bqk.1 h i k (by omega) hk (by omega);unfold ltE at this;rw[h1]at this;exact absurd this (by have:=Bfs.irrefl l[k];unfold ltE at this;simp[this])
def Bg4(x:Bk)(hb:BdB 20 x)(hN:1000000000000<N) :
  ∃y:BkC,Tx N (Pc.Kg x.1) x.2=some ((),some y,0,())∧WfM 20 y.2.1∧WfM 20 y.2.2.1∧Cz (Ce y.2.1)=x.2.filter (fun e=>e.2.1==1)∧Cz (Ce y.2.2.1)=x.2.filter fun e=>!(e.2.1==1):=by
 have Ej:=(hb.sm (by omega)).can;have hlen:=hb.len;have hs:∀e∈x.2,smE e:=fun e he=>Auh (hb.evs e he)
 suffices H:∃r:Anm,Tx N (Pc.Kg x.1) x.2=some r∧∃y:BkC,r=((),some y,0,())∧WfM 20 y.2.1∧WfM 20 y.2.2.1∧Cz (Ce y.2.1)=x.2.filter (fun e=>e.2.1==1)∧Cz (Ce y.2.2.1)=x.2.filter fun e=>!(e.2.1==1) by obtain⟨r,h1,y,rfl,h2⟩:=H;exact⟨y,h1,h2⟩
 unfold Tx;rw[Aye N _ Ej hN,Bow];refine Gy (Q:=fun r:Anm=>∃y:BkC,r=((),some y,0,())∧WfM 20 y.2.1∧WfM 20 y.2.2.1∧Cz (Ce y.2.1)=x.2.filter (fun e=>e.2.1==1)∧Cz (Ce y.2.2.1)=x.2.filter fun e=>!(e.2.1==1))
  (fun m z=>∃(k:Nat) (d:A2 Part) (lv tb:Tw),z=B1n (k:Int) d lv tb∧k≤x.2.length∧m=x.2.length-k∧WfM k lv∧WfM k tb∧Cz (Ce lv)=(x.2.take k).filter (fun e=>e.2.1==1)∧Cz (Ce tb)=(x.2.take k).filter fun e=>!(e.2.1==1)) ?_ N x.2.length _
  ⟨0,Pc.Kg (Pc.Kg x.1),none,none,rfl,by omega,by omega,.none 0,.none 0,rfl,rfl⟩ (by omega)
 rintro m z rec ⟨k,d,lv,tb,rfl,hk,rfl,h1,h2,h3,h4⟩ ih;have hst : ∀ {f : (StF → A3 Anm) → StF → A3 Anm}, (f = fun rec z => Vc z (fun z => stF N (Pc.Kg x.1) x.2 rec z.1.1 z.2.1.1.1 (some z.2.2.2.1) (some z.2.2.2.2.1)) fun z =>
    Vc z (fun z=>stF N (Pc.Kg x.1) x.2 rec z.1.1 z.2.1.1.1 none (some z.2.2.2.1)) fun z =>
     Vc z (fun z=>stF N (Pc.Kg x.1) x.2 rec z.1.1 z.2.1.1.1 (some z.2.2.2.1) none) fun z=>stF N (Pc.Kg x.1) x.2 rec z.1.1 z.2.1.1.1 none none)→f rec (B1n (k:Int) d lv tb)=stF N (Pc.Kg x.1) x.2 rec (k:Int) d lv tb:=by
  rintro f rfl;cases lv<;>cases tb<;>rfl
 rw[hst rfl];unfold stF;by_cases Gv:k<x.2.length
 ·have he:=hs _ (Bqi Gv);have hg:=hb.B82 _ (Bqi Gv);have Blx:x.2[k].2.1=1→dead x.2 x.2[k].1=false:=by intro h;unfold dead;rw[List.any_eq_false];intro b Fp;simpa using hb.live _ (Bqi Gv) h b Fp
  have tk:x.2.take (k+1)=x.2.take k++[x.2[k]]:=by rw[Bqu,C0 Gv];rfl
  have key:∀(m:Tw) (p:Ev→Bool),WfM k m→Cz (Ce m)=(x.2.take k).filter p→∀y∈Ce m,y.2.1≠x.2[k].1:=by intro m p hm hv y hy;have:y.2.2∈Cz (Ce m):=Bpe (f:=(·.2.2)) hy;rw[hv]at this;rw[hm.key y hy];exact Bj6 hb.asc Gv _ (Bpv.1 this).1
  have Bly:∀(m:Tw),(∀y∈Ce m,y.2.1≠x.2[k].1)→Cz (Ce (some (Am6 m x.2[k])))=Cz (Ce m)++[x.2[k]]:=by intro m hm;obtain⟨c,hc⟩:=Ays hm;show Cz (Am6 m x.2[k]).1=_;rw[hc];simp[Cz]
  simp only[dec_lt,Bp7 Gv,Bov,Aq,C0 Gv,Bow,Bn,Bh1 N _ (hb.evs _ (Bqi Gv)) (show 1000000<N by omega),hg,Br2,Box,Bj4 N _ he,Bj5 N x.2 x.2[k] (by omega) hs (by omega) Blx,Ad (show k+1<9223372036854775808 by omega)];have go:∃r,(bif x.2[k].2.1==1 then rec (B1n ((k+1:Nat):Int) d (some (Am6 lv x.2[k])) tb)else rec (B1n ((k+1:Nat):Int) d lv (some (Am6 tb x.2[k]))))=some r∧∃y:BkC,r=((),some y,0,())∧WfM 20 y.2.1∧WfM 20 y.2.2.1∧Cz (Ce y.2.1)=x.2.filter (fun e=>e.2.1==1)∧Cz (Ce y.2.2.1)=x.2.filter fun e=>!(e.2.1==1):=by
   have kl:=key lv _ h1 h3;have kt:=key tb _ h2 h4;cases hkd:(x.2[k].2.1==1) with
   |true=>exact ih (x.2.length-(k+1)) _ (by omega) ⟨k+1,d,_,tb,rfl,by omega,rfl,h1.add he kl,h2.mono (by omega),by rw[Bly lv kl,tk,Brb,h3];simp[hkd],by rw[tk,Brb,h4];simp[hkd]⟩
   |false=>exact ih (x.2.length-(k+1)) _ (by omega) ⟨k+1,d,lv,_,rfl,by omega,rfl,h1.mono (by omega),h2.add he kt,by rw[tk,Brb,h3];simp[hkd],by rw[Bly tb kt,tk,Brb,h4];simp[hkd]⟩
  by_cases h0:0<k
  ·have hk1:k-1<x.2.length:=by omega
   have hz:decide ((0:Int)<(k:Int))=true:=by simp;omega
   have Aui:=Bqk.1 hb.asc (k-1) k hk1 Gv (by omega);have hc:decide (0≤Du x.2[k-1].1 x.2[k].1)=false:=by unfold ltE ltOf at Aui;simp at Aui⊢;omega
   rw[hz,Bov,Ln h0 (by omega),Aq,C0 hk1,Bow,Ato,Bow,hc,Box];exact go
  ·have hz:decide ((0:Int)<(k:Int))=false:=by simp;omega
   rw[hz,Box];exact go
 ·have:k=x.2.length:=by omega
  subst this;rw[Bpy]at h3 h4;have f1:=Aco hs;have f2:=A5d (x.2.flatMap dsE);have hno:(Gs (x.2.flatMap dsE)).filter (fun d=>hasB (Pc.Kg x.1) d==false)=[]:=by rw[Bw5];intro d hd;obtain⟨e,he,hde⟩:=List.mem_flatMap.1 (((Y1 _).2 d).1 hd);rw[B50,hb.seen e he d hde];simp
  have Bnt:Gs []=[]:=by rw[Zp];rfl
  simp only[dec_lt,Bp9 Gv,Box];unfold A21;rw[Ayn N _ (hb.sm (by omega)) hN,Bow,Br2,Box,Bfo N x.2 (by omega) hs (by omega),Bow,Bcr N _ _ false (by omega) Ej hN,Bow,Bow,hno,Bnt];exact⟨_,rfl,(d,lv,tb,()),rfl,h1.mono (by omega),h2.mono (by omega),h3,h4⟩
def B2f{x:Bk}(hb:BdB 20 x){y:BkC}(w1:WfM 20 y.2.1)(w2:WfM 20 y.2.2.1)(v1:Cz (Ce y.2.1)=x.2.filter fun e=>e.2.1==1)(v2:Cz (Ce y.2.2.1)=x.2.filter fun e=>!(e.2.1==1)) :
  Acu y∧Gt y=x.2.filter (fun e=>e.2.1==1)∧Ayh y=x.2.filter (fun e=>e.2.1==2)∧Bfu y=x.2:=by
 have hd:K8 Cn x.2=true:=Qi.2 (hb.asc.imp fun {a b} h=>.inl h);have Blz:∀ {l:A2 Ev},l.Pairwise (fun a b=>ltE a b=true)→l.Pairwise fun a b=>ltOf Cn b a=false:=fun h=>h.imp fun {a b} h=>Aep K9 a b h
 have va:∀a b:A2 (Nat×(Int×Int)×Ev),Cz (a++b)=Cz a++Cz b:=fun a b=>Bpn ..
 have hp:(Cz (Ce y.2.1++Ce y.2.2.1)).Perm x.2:=by rw[va,v1,v2];exact List.filter_append_perm _ _
 have one:∀p:Ev→Bool,Lo Cn (x.2.filter p)=x.2.filter p:=fun p =>(Qj K9 (Qi.2 ((hb.asc.filter p).imp fun {a b} h=>.inl h)) (.refl _) (Blz (hb.asc.filter p))).symm
 refine⟨⟨w1,w2,W5 hp hd⟩,?_,?_,?_⟩
 ·unfold Gt Aa1;rw[v1,one]
 ·unfold Ayh Aa1;rw[v2,one];refine List.filter_congr fun e he=>?_
  rcases B27 (hb.B82 e he)with h|h<;>rw[h]<;>rfl
 ·unfold Bfu Aa1;exact(Qj K9 (W5 hp hd) hp.symm (Blz hb.asc)).symm
def cfN(x y:Ev):Int:=if x.1.2<y.1.2 then -1 else if y.1.2<x.1.2 then 1 else 0
def ltN(x y:Ev):Bool:=decide (cfN x y<0)
def eqN(x y:Ev):Bool:=x.1.2==y.1.2
theorem Aul(x y:Ev):ltN x y=decide (x.1.2<y.1.2):=by
 unfold ltN cfN
 grind
def Bm0:LO ltN eqN where
 asymm x y h:=by simp only[Aul,Bsf,Bug]at *;omega
 ntrans x y z h1 h2:=by simp only[Aul,Bug]at *;omega
 eq_def x y:=by simp only[Aul,eqN];rw[Bqq];simp;omega
theorem Bj7(x y:Ev):Ri N x y=some (cfN x y):=by
 simp only[Ri,By,Em,cfN,cond_eq_ite,Bow]
 grind
theorem Aa2{α:Type}{lt:α→α→Bool}{x:α}:∀ {p q:A2 α},(∀y∈p,lt x y=false)→(∀y∈q,lt x y=true)→N2 lt x (p++q)=p++x::q
 |[],[],_,_=>rfl
 |[],y::q,_,h=>by
  simp only[Bpx];exact Se (h y Bp6)
 |y::p,q,h,h'=>by
  simp only[Br1];rw[W2 (h y Bp6),Aa2 (fun z hz=>h z (Bp5 _ hz)) h']
def Bcu{α:Type}(pre:A2 α)(x y:α)(S:A2 α):((pre++y::x::S).set (pre.length+1) y).set pre.length x=pre++x::y::S:=by
 rw[Bwg _ _ (by omega),Bwg _ _ (by omega)];have:pre.length+1-pre.length=1:=by omega
 rw[this,Bwl];rfl
def B52{α:Type}(pre:A2 α)(y:α)(S:A2 α):(pre++y::S)[pre.length]? = some y:=by simp
def Bcv{α:Type}(pre:A2 α)(y x:α)(S:A2 α):(pre++y::x::S)[pre.length+1]? = some x:=by
 rw[Brs (by omega)];have:pre.length+1-pre.length=1:=by omega
 rw[this];rfl
def Acy(l:A2 Ev)(a b:Nat)(hab:a≤b)(hb:b≤l.length)(hl:l.length<4611686018427387904)(hN:l.length<N) :
  As N l l.length a b=some (l.take a++Fg ltN ((l.take b).drop a)++l.drop b,()):=by
 unfold As;have e0:i64.wrap ((a:Int)+1)=((a+1:Nat):Int):=Ad (by omega);rw[e0];refine Atg ?_;refine Gy (Q:=fun r=>r=(l.take a++Fg ltN ((l.take b).drop a)++l.drop b,())) (fun n z=>∃(i:Nat) (arr:A2 Ev),z=(((i:Int),()),(),(),arr,())∧a+1≤i∧i≤b+1∧n=b-i ∧
  arr=l.take a++Fg ltN ((l.take (min i b)).drop a)++l.drop (min i b)) ?_ N (b-(a+1)) _ ⟨a+1,l,rfl,Bpa _,by omega,rfl,?_⟩ (by omega)
 ·rintro n z rec ⟨i,arr,rfl,hi1,hi2,rfl,Amg⟩ ih;simp only[dec_lt];by_cases hib:i<b
  ·rw[Bp7 hib,Bov];have hil:i<l.length:=by omega
   have hm:min i b=i:=by omega
   rw[hm]at Amg;have hP:((l.take (i+1)).drop a)=((l.take i).drop a)++[l[i]]:=by rw[Bqu,C0 hil,Bsl (by simp;omega)];rfl
   have Bm1:l.drop i=l[i]::l.drop (i+1):=Bqe hil;have Aui:=B78 Bm0 ((l.take i).drop a);have hPl:(Fg ltN ((l.take i).drop a)).length=i-a:=by rw[O0];simp;omega
   have hA:(l.take a).length=a:=by simp;omega
   have next:∀Cc,Cc=l.take a++N2 ltN l[i] (Fg ltN ((l.take i).drop a))++l.drop (i+1)→∃r,rec ((i64.wrap ((i:Int)+1),()),(),(),Cc,())=some r∧r=(l.take a++Fg ltN ((l.take b).drop a)++l.drop b,()):=by
    intro Cc he;rw[Ad (by omega)];refine ih (b-(i+1)) _ (by omega) ⟨i+1,Cc,rfl,by omega,by omega,rfl,?_⟩;have Uc:min (i+1) b=i+1:=by omega
    rw[Uc,hP,A97,he]
   generalize Fg ltN ((l.take i).drop a)=P at *;generalize l[i]=x at *;refine Gy (Q:=fun r=>r=(l.take a++Fg ltN ((l.take b).drop a)++l.drop b,())) (fun m z=>∃p q:A2 Ev,P=p++q∧(∀y∈q,ltN x y=true)∧z=((((a+p.length:Nat):Int),()),(),(),l.take a++p++x::(q++l.drop (i+1)),())∧m=p.length) ?_ N (i-a) _
    ⟨P,[],by simp,by simp,by rw[Amg,Bm1,hPl];simp;omega,by rw[hPl]⟩ (by omega)
   rintro m z1 Blt ⟨p,q,hpq,hq,rfl,rfl⟩ ih1;simp only[dec_lt];rcases Buq p with rfl|⟨p',y,rfl⟩
   ·rw[Bp9 (by simp),Box];refine next _ ?_
    rw[hpq,Aa2 (by simp) hq];simp
   ·rw[List.concat_eq_append]at *;have hlen:(p'++[y]).length=p'.length+1:=by simp
    have hpl:p'.length+1+q.length=i-a:=by rw[← hPl,hpq];simp;omega
    have hj:a+(p'.length+1)<l.length:=by omega
    have Aia:l.take a++(p'++[y])++x::(q++l.drop (i+1))=(l.take a++p')++y::x::(q++l.drop (i+1)):=by simp
    have Bol:(l.take a++p').length=a+p'.length:=by simp;omega
    have w1:i64.wrap (((a+(p'.length+1):Nat):Int)-1)=((a+p'.length:Nat):Int):=by rw[Ln (by omega) (by omega)];congr 1
    rw[hlen,Aia];generalize hpg:l.take a++p'=pre at *;have g1:(pre++y::x::(q++l.drop (i+1)))[0+(((a+(p'.length+1):Nat):Int)).toNat]? = some x:=by rw[Ec,Bq7,show a+(p'.length+1)=pre.length+1 by omega];exact Bcv _ _ _ _
    have g2:(pre++y::x::(q++l.drop (i+1)))[0+(((a+p'.length:Nat):Int)).toNat]? = some y:=by rw[Ec,Bq7,show a+p'.length=pre.length by omega];exact B52 _ _ _
    have c1:decide (a<a+(p'.length+1))=true:=by simp
    have c2:decide ((0:Int)≤((a+(p'.length+1):Nat):Int))=true:=Bp7 (Bva _);have c3:decide (a+(p'.length+1)<l.length)=true:=by simpa using hj
    have c4:decide ((0:Int)≤((a+p'.length:Nat):Int))=true:=Bp7 (Bva _);have c5:decide (a+p'.length<l.length)=true:=by simp;omega
    simp only[w1,dec_lt,c1,c2,c3,c4,c5,Bqo,Bov,g1,g2,Bow,Bj7];cases Bg:ltN x y with
    |true =>
     have hc:decide (cfN x y<0)=true:=Bg;rw[hc,Bov];have g3:((pre++y::x::(q++l.drop (i+1))).set (0+(((a+(p'.length+1):Nat):Int)).toNat) y)[0+(((a+p'.length:Nat):Int)).toNat]? = some y:=by rw[Ec,Ec,Bq7,Bq7,Bux (by omega),show a+p'.length=pre.length by omega];exact B52 _ _ _
     rw[g3,Bow];have hs:((pre++y::x::(q++l.drop (i+1))).set (0+(((a+(p'.length+1):Nat):Int)).toNat) y).set (0+(((a+p'.length:Nat):Int)).toNat) x=pre++x::y::(q++l.drop (i+1)):=by rw[Ec,Ec,Bq7,Bq7,show a+(p'.length+1)=pre.length+1 by omega,show a+p'.length=pre.length by omega];exact Bcu _ _ _ _
     rw[hs];refine ih1 p'.length _ (by simp) ⟨p',y::q,by rw[hpq];simp,?_,by rw[hpg];rfl,rfl⟩;intro z hz;rcases Boz.1 hz with rfl|hz
     ·exact Bg
     ·exact hq z hz
    |false =>
     have hc:decide (cfN x y<0)=false:=Bg;rw[hc,Box];refine next _ ?_
     rw[hpq,Aa2 ?_ hq]
     ·rw[← hpg];simp
     ·intro z hz;rcases Bp4.1 hz with hz|hz
      ·rw[hpq]at Aui;have:ltN y z=false:=by have h1:=(Bqr.1 Aui).1;exact(Bqr.1 h1).2.2 z hz y (by simp)
       exact Bm0.ntrans _ _ _ Bg this
      ·rw[Bpg.1 hz];exact Bg
  ·rw[Bp9 hib,Box];have hm:min i b=b:=by omega
   rw[hm]at Amg;exact⟨_,rfl,by rw[Amg]⟩
 ·by_cases h:a<b
  ·have hm:min (a+1) b=a+1:=by omega
   have ha:a<l.length:=by omega
   rw[hm];have:((l.take (a+1)).drop a)=[l[a]]:=by rw[Bqu,C0 ha,Bsl (by simp;omega)];simp
   rw[this];have h2:l.drop a=l[a]::l.drop (a+1):=Bqe ha;have h3:Fg ltN [l[a]]=[l[a]]:=rfl;rw[h3,Bru,Bup,← h2,Bra]
  ·have hm:min (a+1) b=b:=by omega
   have:b=a:=by omega
   subst this;rw[hm];have:(l.take b).drop b=[]:=by simp
   rw[this];have h3:Fg ltN ([]:A2 Ev)=[]:=rfl;rw[h3,Bq0,Bra]
def Ano(l:A2 Ev)(hl:l.length<4611686018427387904)(hN:l.length<N) :
  As N l l.length 0 l.length=some (Fg ltN l,()):=by
 have:=Acy N l 0 l.length (Brw _) (Bpa _) hl hN;simpa using this
def B88(l:A2 Ev)(h20:l.length≤20)(hN:30<N):Ei N l l.length l.length=some (Fg ltN l,()):=by
 unfold Ei;have e1:∀M,iter (fun(rec:(Int×Unit)×Unit×Unit×A2 Ev×Unit→A3 (A2 Ev×Unit)) (z:(Int×Unit)×Unit×Unit×A2 Ev×Unit) =>
   bif decide (z.fst.fst<(l.length:Int)) then
    iter (fun(rec_1:(Int×Int×Unit)×Unit×Unit×A2 Ev×Unit→A3 (A2 Ev×Unit)) (Ea:(Int×Int×Unit)×Unit×Unit×A2 Ev×Unit) =>
      bif decide (Ea.fst.snd.fst≤(l.length:Int))then none
      else bif decide (i64.wrap (Ea.fst.fst+z.fst.fst)<(l.length:Int))then none
       else rec ((i64.wrap (z.fst.fst*2),()),(),(),Ea.snd.snd.snd.fst,()))
     N ((0,i64.wrap (2*z.fst.fst),()),(),(),z.snd.snd.snd.fst,())
   else some (z.snd.snd.snd.fst,())) (N-3+1+1+1) ((20,()),(),(),M,())=some (M,()):=by
  intro M;simp only[iter];rw[Bp9 (by omega),Box]
 rw[show N=N-3+1+1+1 by omega]at e1⊢;have hi:=O0 (lt:=ltN) l;have Bj8:=Ano (N-3+1+1+1) l (by omega) (by omega);by_cases h:l.length=20
 ·have e2:i64.wrap (20+20)=40:=by decide
  have Bcw:=Acy (N-3+1+1+1) (Fg ltN l) 20 20 (Bpa _) (by omega) (by omega) (by omega);rw[hi,h]at Bcw;rw[h]at Bj8;have e3:(Fg ltN l).take 20++Fg ltN (((Fg ltN l).take 20).drop 20)++(Fg ltN l).drop 20=Fg ltN l:=by
   have:((Fg ltN l).take 20).drop 20=[]:=by simp
   rw[this];show _++[]++_=_;rw[Bq0,Bra]
  rw[e3]at Bcw;rw[h]at e1⊢;simp only[iter];rw[Bp7 (by decide),Bov];simp only[iter]at e1;have Bm2:As (N-3+1+1+1) l 20 0 20=some (Fg ltN l,()):=Bj8;have Bj9:As (N-3+1+1+1) (Fg ltN l) 20 20 20=some (Fg ltN l,()):=Bcw;have c1:decide ((40:Int)≤((20:Nat):Int))=false:=by decide
  have c2:(((20:Nat):Int))=(20:Int):=rfl;simp only[c2]at *;rw[Bm2];simp only[Bow,e2,c1,Box,Bj9];exact e1 _
 ·simp only[iter];simp only[iter]at e1;rw[Bp9 (by omega),Box];rw[Bj8];simp only[Bow];exact e1 _
def Anp(l:A2 Ev)(h20:l.length≤20)(hN:30<N):C9 N l l.length=some (Fg ltN l,()):=by unfold C9;rw[B88 N l h20 hN];rfl
def A6p{α:Type}{l:A2 α}(h:k<l.length):l.take (k+1)=l.take k++[l[k]]:=by rw[Bqu,C0 h];rfl
def B89(N n:Nat)(w:Int)(l:A2 Ev)(hn:n≤l.length)(hl:n≤1000000)(hN:1000000<N) :
  ∃i:Int,Cu N n w l=some ((i,()),(),(),())∧((i = -1∧(l.take n).filter (fun e=>!(e.2.2.1 != w))=l.take n)∨∃m:Nat,i=(m:Int)∧m<n∧(l.take (m+1)).filter (fun e=>!(e.2.2.1 != w))=l.take m):=by
 unfold Cu;have key:=Gy (σ:=(Int×Unit)×Unit×Unit×Unit) (R:=(Int×Unit)×Unit×Unit×Unit)
  (Q:=fun r=>∃i:Int,r=((i,()),(),(),())∧((i = -1∧(l.take n).filter (fun e=>!(e.2.2.1 != w))=l.take n)∨∃m:Nat,i=(m:Int)∧m<n∧(l.take (m+1)).filter (fun e=>!(e.2.2.1 != w))=l.take m))
  (f:=fun(rec:(Int×Unit)×Unit×Unit×Unit→A3 ((Int×Unit)×Unit×Unit×Unit)) (z:(Int×Unit)×Unit×Unit×Unit) =>
   bif decide (z.fst.fst<(↑n:Int)) then
    bif decide (0≤z.fst.fst)&&decide (z.fst.fst<(↑n:Int)) then
     l[0+z.fst.fst.toNat]?.bind fun(e:Ev) =>
      Option.bind (Ey N e w) fun(y:(Bool×Unit)×Unit×Unit×Unit) =>
       bif y.fst.fst then some ((z.fst.fst,()),(),(),())
       else rec ((i64.wrap (z.fst.fst+1),()),(),(),())
    else none
   else some ((-1,()),(),(),()))
  (fun m z=>∃k:Nat,z=(((k:Int),()),(),(),())∧k≤n∧m=n-k∧(l.take k).filter (fun e=>!(e.2.2.1 != w))=l.take k) ?_ N n ((((0:Nat):Int),()),(),(),()) ?_ (by omega)
 ·obtain⟨r,h1,i,rfl,h2⟩:=key;exact⟨i,h1,h2⟩
 ·rintro m z rec ⟨k,rfl,h1,h2,h3⟩ ih;by_cases hk:k<n
  ·have Gv:k<l.length:=by omega
   have hb:decide (0≤(k:Int))=true:=by simp
   simp only[dec_lt,Bp7 hk,Bov,hb,Bqo,Ec,Bq7,C0 Gv,Bow,Ey,Ad (show k+1<9223372036854775808 by omega)];cases he:(l[k].2.2.1 != w) with
   |true =>refine⟨_,rfl,_,rfl,.inr ⟨k,rfl,hk,?_⟩⟩;rw[A6p Gv,Brb,h3];simp[he]
   |false =>refine ih (n-(k+1)) _ (by omega) ⟨k+1,rfl,by omega,rfl,?_⟩;rw[A6p Gv,Brb,h3];simp[he]
  ·have:k=n:=by omega
   subst this;simp only[dec_lt,Bp9 hk,Box];exact⟨_,rfl,_,rfl,.inl ⟨rfl,h3⟩⟩
 ·exact⟨0,rfl,Brw _,rfl,by simp⟩
def B2g(N n:Nat)(w:Int)(l:A2 Ev)(hn:n≤l.length)(hl:n≤1000000)(hN:1000000<N) :
  ∃(m:Nat) (c:A2 Ev),Co N n w l=some ((m,()),(),(),c,())∧(n=l.length→m=c.length)∧c.take m=(l.take n).filter (fun e=>!(e.2.2.1 != w)):=by
 obtain⟨i,hi,hc⟩:=B89 N n w l hn hl hN;unfold Co;simp only[hi,Bow];rcases hc with ⟨rfl,h⟩|⟨i0,rfl,hi0,h⟩
 ·exact⟨n,l,rfl,id,h.symm⟩
 ·have hb:((i0:Int) == -1)=false:=by rw[Bsb];omega
  simp only[hb,Box];rw[Ad (show i0+1<9223372036854775808 by omega)];have key:=Gy (σ:=(Int×Int×Unit)×Unit×Unit×A2 Ev×Unit) (R:=(Nat×Unit)×Unit×Unit×A2 Ev×Unit)
   (Q:=fun r=>∃(m:Nat) (c:A2 Ev),r=((m,()),(),(),c,())∧(n=l.length→m=c.length)∧c.take m=(l.take n).filter (fun e=>!(e.2.2.1 != w)))
   (f:=fun rec z =>
     bif decide (z.fst.snd.fst<(↑n:Int)) then
      bif decide (0≤z.fst.snd.fst)&&decide (z.fst.snd.fst<(↑n:Int)) then
       z.snd.snd.snd.fst[0+z.fst.snd.fst.toNat]?.bind fun(e:Ev) =>
        Option.bind (Ey N e w) fun(y:(Bool×Unit)×Unit×Unit×Unit) =>
         bif !y.fst.fst then
          bif decide (0≤z.fst.fst)&&decide (z.fst.fst<(↑n:Int)) then
           z.snd.snd.snd.fst[0+z.fst.fst.toNat]?.bind fun(Mn:Ev) =>
            rec
             ((i64.wrap (z.fst.fst+1),i64.wrap (z.fst.snd.fst+1),()),(),(),
              z.snd.snd.snd.fst.set (0+z.fst.fst.toNat) e,())
          else none
         else rec ((z.fst.fst,i64.wrap (z.fst.snd.fst+1),()),(),(),z.snd.snd.snd.fst,())
      else none
     else
      bif Fb z.fst.fst (↑n:Int) n then
       bif Fb 0 z.fst.fst n then
        some ((z.fst.fst.toNat-0,()),(),(),List.take (0+z.fst.fst.toNat) z.snd.snd.snd.fst,())
       else none
      else none)
   (fun r z=>∃(a j:Nat) (c:A2 Ev),z=(((a:Int),(j:Int),()),(),(),c,())∧a<j∧j≤n∧r=n-j∧c.length=l.length∧(∀t,j≤t→c[t]? = l[t]?)∧c.take a=(l.take j).filter (fun e=>!(e.2.2.1 != w))) ?_ N (n-(i0+1)) (((i0:Int),((i0+1:Nat):Int),()),(),(),l,()) ?_ (by omega)
  ·obtain⟨r,h1,m,c,rfl,h2⟩:=key;exact⟨m,c,h1,h2⟩
  ·rintro r z rec ⟨a,j,c,rfl,haj,hjn,rfl,hcl,hct,hca⟩ ih;by_cases hj:j<n
   ·have hjl:j<l.length:=by omega
    have hb1:decide (0≤(j:Int))=true:=by simp
    have hb2:decide (0≤(a:Int))=true:=by simp
    have han:a<n:=by omega
    have hcj:c[j]? = some l[j]:=by rw[hct _ (Bpa _),C0 hjl]
    have hac:a<c.length:=by omega
    simp only[dec_lt,Bp7 hj,Bp7 han,Bov,hb1,hb2,Bqo,Ec,Bq7,hcj,C0 hac,Bow,Ey,Ad (show j+1<9223372036854775808 by omega),Ad (show a+1<9223372036854775808 by omega)];cases he:(l[j].2.2.1 != w) with
    |true =>simp only[Br2,Box];refine ih (n-(j+1)) _ (by omega) ⟨a,j+1,c,rfl,by omega,by omega,rfl,hcl,fun t ht=>hct t (by omega),?_⟩;rw[A6p hjl,Brb,hca];simp[he]
    |false =>
     simp only[Brm,Bov];refine ih (n-(j+1)) _ (by omega) ⟨a+1,j+1,c.set a l[j],rfl,by omega,by omega,rfl,by simpa using hcl,fun t ht=>?_,?_⟩
     ·rw[Bux (by omega)];exact hct t (by omega)
     ·rw[A6p hjl,Brb,← hca,Bqu,List.take_set_of_le (Bpa _),Bw7 hac];simp[he]
   ·have:j=n:=by omega
    subst this;have hb1:Fb (a:Int) (j:Int) j=true:=by simp[Fb];omega
    have hb2:Fb 0 (a:Int) j=true:=by simp[Fb];omega
    simp only[dec_lt,Bp9 hj,Box,hb1,hb2,Bov,Ec,Bq7,Bs3];refine⟨_,rfl,_,_,rfl,?_,?_⟩
    ·intro _;rw[Bq1];omega
    ·rw[List.take_take,Nat.min_self,hca]
  ·exact⟨i0,i0+1,l,rfl,by omega,by omega,rfl,rfl,fun _ _=>rfl,h.symm⟩
def mk(c:UInt8):Bool:=c==34||c==92
def B8a(c:UInt8):Rj N c=some (mk c):=by unfold Rj mk;cases c==34<;>rfl
def Bnu(h:n<1000000):Ao (n+1) 1=true:=fit (by omega) (by omega)
def one{L:A2 UInt8}(hk:k<L.length):List.take (k+1-k) (List.drop k L)=[L[k]]:=by rw[Bvu,Bqe hk];rfl
def Bnv(h:k<n)(hn:n<1000000):Fb (k:Int) ((k+1:Nat):Int) n=true:=by simp[Fb];omega
def qs:A2 UInt8→A2 UInt8
 |[]=>[]
 |c::r=>(if mk c then [92,c]else [c])++qs r
def quo(l:A2 UInt8):A2 UInt8:=34::qs l++[34]
theorem B2h:∀(a b:A2 UInt8),qs (a++b)=qs a++qs b
 |[],b=>rfl
 |c::r,b=>by simp only[Br1,qs,B2h r b,Bru]
theorem Af4:∀(l:A2 UInt8),(qs l).length≤2*l.length
 |[]=>by simp[qs]
 |c::r=>by
  have:=Af4 r;simp only[qs,Bq2,Bpk];split<;>simp<;>omega
def A0v(y:UInt8)(b:Bool)(l:A2 UInt8)(h:l.length<1000000):B3 N y b l=some ((false,()),((false,l++[y],()),()),(),()):=by unfold B3 D3;cases b<;>simp[Bnu h]
def Af5(b:Bool)(l:A2 UInt8)(h:l.length<1000000):Cv N b l=some ((l,()),((b,l,()),()),(),()):=by
 unfold Cv;cases l with
 |nil=>rfl
 |cons a r =>simp only[Dd];rw[show((((a::r).length:Nat):Int)==(((a::r).length:Nat):Int))=true by simp,Bov,Bp7 (by omega),Bov]
def Am7{l:A2 UInt8}(hk:k<l.length):l.take (k+1)=l.take k++[l[k]]:=by rw[Bqu,Bpd hk];rfl
def Bcx(l:A2 UInt8)(hl:l.length≤10000)(hN:1000000<N):Tb N l=some (quo l):=by
 unfold Tb;simp only[Bn];rw[A0v N 34 true [] (by simp),Bow];simp only[Bpx];have hb:∀k,(34::qs (l.take k)).length≤20001:=fun k=>by
  have:=Af4 (l.take k);rw[Bq1]at this;simp only[Bpk];omega
 refine iter_eq (G:=fun _=>some (quo l)) (fun n z=>∃k:Nat,z=(((k:Int),()),((false,34::qs (l.take k),()),()),(),())∧k≤l.length∧n=l.length-k) ?_ N l.length _ ⟨0,rfl,by omega,rfl⟩ (by omega);rintro n z rec ⟨k,rfl,h1,h2⟩ ih;dsimp only;by_cases hk:k<l.length
 ·rw[Bp7 (by omega),Bov];simp only[Aq,Bpd hk,Bow,B8a];have hbk:=hb k;rw[A0v N 92 false _ (by omega),Bow,Ad (by omega)];have e:34::qs (l.take (k+1))=34::qs (l.take k)++(if mk l[k]then [92,l[k]]else [l[k]]):=by rw[Am7 hk,B2h];simp[qs]
  have hr:rec (((((k+1:Nat):Int)),()),((false,34::qs (l.take (k+1)),()),()),(),())=some (quo l):=ih (l.length-(k+1)) _ (by omega) ⟨k+1,rfl,by omega,rfl⟩;rw[e]at hr;cases hm:mk l[k] with
  |true =>rw[hm,Bq6 rfl]at hr;simp only[Bov];rw[A0v N _ false _ (by simp at hbk⊢;omega),Bow];simpa using hr
  |false =>rw[hm,Bpp (by simp)]at hr;simp only[Box];rw[A0v N _ false _ (by omega),Bow];exact hr
 ·have:k=l.length:=by omega
  subst this;have hbk:=hb l.length;rw[Bp9 (by omega),Box,A0v N 34 false _ (by omega),Bow,Af5 N false _ (by simp at hbk⊢;omega),Bow,Bpy];rfl
def Ayt(l:A2 UInt8)(hl:l.length≤10000)(hN:1000000<N):Jb N l=some (quo l):=by
 unfold Jb;have hb:∀k,(34::qs (l.take k)).length≤20001:=fun k=>by
  have:=Af4 (l.take k);rw[Bq1]at this;simp only[Bpk];omega
 refine iter_eq (G:=fun _=>some (quo l)) (fun n z=>∃k:Nat,z=((34::qs (l.take k),(k:Int),()),(),(),())∧k≤l.length∧n=l.length-k) ?_ N l.length _ ⟨0,rfl,by omega,rfl⟩ (by omega);rintro n z rec ⟨k,rfl,h1,h2⟩ ih;dsimp only;have hbk:=hb k;by_cases hk:k<l.length
 ·rw[Bp7 (by omega),Bov];simp only[Aq,Bpd hk,Bow,Bn];have e:34::qs (l.take (k+1))=34::qs (l.take k)++(if mk l[k]then [92,l[k]]else [l[k]]):=by rw[Am7 hk,B2h];simp[qs]
  have hr:rec ((34::qs (l.take (k+1)),((k+1:Nat):Int),()),(),(),())=some (quo l):=ih (l.length-(k+1)) _ (by omega) ⟨k+1,rfl,by omega,rfl⟩;rw[e]at hr;rw[Ad (by omega),Bnv hk (by omega),Bov,Brp,Brp,one hk];rw[Bp7 (show(34::qs (l.take k)).length+1≤4611686018427387904 by omega),Bov];have h2:decide ((34::qs (l.take k)++[92]).length + [l[k]].length≤4611686018427387904)=true:=by simp at hbk⊢;omega
  have h3:decide ((34::qs (l.take k)).length + [l[k]].length≤4611686018427387904)=true:=by simp at hbk⊢;omega
  unfold mk at hr;generalize hc:l[k]=c at hr;rw[hc]at h2 h3;by_cases h34:c=34
  ·rw[show(c==34)=true by simpa using h34]at hr⊢;simp only[Bov,h2,Bool.true_or,Brg]at hr⊢;simpa using hr
  ·rw[show(c==34)=false by simpa using h34]at hr⊢;by_cases h92:c=92
   ·rw[show(c==92)=true by simpa using h92]at hr⊢;simp only[Bov,Box,h2,Bool.or_true,Brg]at hr⊢;simpa using hr
   ·rw[show(c==92)=false by simpa using h92]at hr⊢;simp only[Bov,Box,h3,Bt2]at hr⊢;simpa using hr
 ·have:k=l.length:=by omega
  subst this;rw[Bp9 (by omega),Box,Bp7 (by omega),Bov,Bpy];rfl
def B53(y:A2 UInt8)(b:Bool)(l:A2 UInt8)(h:l.length+y.length<1000000):Bc N y b l=some (((y.length:Int),false,()),((false,l++y,()),()),(),()):=by unfold Bc D3;have hf:Ao (l.length+y.length) 1=true:=fit (by omega) (by omega);cases b<;>simp[hf]
def Bcy(N a:Nat)(h:a≤1000000):Gf N (a:Int)=some ((),((false,[],()),()),(),()):=by
 unfold Gf Gn;have h1:decide ((a:Int)<0)=false:=by simp
 have h2:decide ((0:Int)≤(a:Int))=true:=by simp
 have h3:decide ((a:Int)≤140737488355328)=true:=by simp;omega
 simp only[Bow,Bn,h1,h2,h3,Bov,Box];cases decide ((0:Int)<(a:Int))<;>rfl
def Acz:A2 (A2 UInt8)→A2 UInt8
 |[]=>[]
 |a::r=>a++r.flatMap fun s=>32::s
theorem Apw(b:Nat):∀(l:A2 (A2 UInt8)),(∀s∈l,s.length≤b)→(l.flatMap fun s=>32::s).length≤l.length*(b+1)
 |[],_=>by simp
 |s::r,h=>by
  have h1:=Apw b r fun x hx=>h x (Bp5 _ hx)
  have h2:=h s Bp6;simp only[Btv,Bq2,Bpk,Br5,Nat.one_mul]at h1⊢;omega
def join_eq(a:A2 UInt8)(r:A2 (A2 UInt8))(h1:1≤r.length)(h2:r.length≤10)(hs:∀s∈a::r,s.length≤1000)(hN:1000000<N) :
  Ka N (a::r).length [32] (a::r)=some ((Acz (a::r),()),(),(),()):=by
 unfold Ka jnL;have hn:(a::r).length=r.length+1:=rfl;have e0:((((a::r).length:Nat):Int)==0)=false:=Bsb.2 (by rw[hn];omega);have e1:((((a::r).length:Nat):Int)==1)=false:=Bsb.2 (by rw[hn];omega);have w:i64.wrap ((((a::r).length:Nat):Int)-1)=(r.length:Int):=by rw[Ln (by simp) (by rw[hn];omega)];simp
 have e2:((r.length:Int)==0)=false:=Bsb.2 (by omega);have e3:decide ((0:Int)<(([32]:A2 UInt8).length:Int))=true:=rfl;have e4:decide (i64.wrap (Int.tdiv 9223372036854775807 (r.length:Int))≤(([32]:A2 UInt8).length:Int))=false:=by
  have:r.length=1∨r.length=2∨r.length=3∨r.length=4∨r.length=5∨r.length=6∨r.length=7∨r.length=8∨r.length=9∨r.length=10:=by omega
  rcases this with h|h|h|h|h|h|h|h|h|h<;>rw[h]<;>decide +kernel
 have e5:i64.wrap (0+i64.wrap ((([32]:A2 UInt8).length:Int)*(r.length:Int)))=(r.length:Int):=by
  have:r.length=1∨r.length=2∨r.length=3∨r.length=4∨r.length=5∨r.length=6∨r.length=7∨r.length=8∨r.length=9∨r.length=10:=by omega
  rcases this with h|h|h|h|h|h|h|h|h|h<;>rw[h]<;>decide +kernel
 simp only[e0,e1,w,e2,e3,e4,e5,Bov,Box];refine iter_eq (G:=fun _=>some ((Acz (a::r),()),(),(),())) (fun m z=>∃(k c:Nat),z=(((c:Int),(k:Int),()),(),(),())∧k≤(a::r).length∧m=(a::r).length-k∧c≤10+1000*k) ?_ N (a::r).length _ ⟨0,r.length,rfl,by omega,by omega,by omega⟩ (by rw[hn];omega);rintro m z rec ⟨k,c,rfl,hk,rfl,hc⟩ ih;by_cases Gv:k<(a::r).length
 ·have hsl:=hs _ (Bqi Gv);have g1:(a::r)[0+(k:Int).toNat]? = some (a::r)[k]:=by rw[Brp,Bq7];exact C0 Gv
  have g2:decide ((0:Int)≤(k:Int))=true:=by simp
  have g3:decide (i64.wrap (9223372036854775807-(c:Int))<(((a::r)[k].length:Nat):Int))=false:=by rw[hn]at Gv;rw[Bsk _ (by omega)];simp;omega
  have g4:i64.wrap ((c:Int)+(((a::r)[k].length:Nat):Int))=((c+(a::r)[k].length:Nat):Int):=by rw[hn]at Gv;rw[Bsk _ (by omega)];simp
  simp only[dec_lt,Bp7 Gv,g2,Bqo,Bov,g1,Bow,g3,Box,g4,Ad (show k+1<9223372036854775808 by rw[hn]at Gv;omega)];exact ih ((a::r).length-(k+1)) _ (by omega) ⟨k+1,_,rfl,by omega,rfl,by omega⟩
 ·have Lb:k=(a::r).length:=by omega
  have hcl:c≤1000000:=by rw[Lb,hn]at hc;omega
  have c1:Fb 1 (((a::r).length:Nat):Int) (a::r).length=true:=by rw[hn];simp[Fb];omega
  have z0:decide ((0:Int)<(((a::r).length:Nat):Int))=true:=by simp
  have a0:(a::r)[0]? = some a:=rfl;have hal:=hs a Bp6;have tn:((((a::r).length:Nat):Int).toNat-1)=r.length:=by simp
  simp only[dec_lt,Bp9 Gv,Box,Bcy N c hcl,Bow,z0,Bov,a0,B53 N a false [] (by simp;omega),c1,tn,Bpx];refine iter_eq (G:=fun _=>some ((Acz (a::r),()),(),(),())) (fun m z=>∃k:Nat,z=(((k:Int),()),((false,a++(r.take k).flatMap (fun s=>32::s),()),()),(),())∧k≤r.length∧m=r.length-k) ?_ N r.length _ ⟨0,by simp,by omega,by omega⟩ (by omega);rintro m z rec ⟨k,rfl,hk,rfl⟩ ih;have hfl:((r.take k).flatMap fun s=>32::s).length≤20000:=by
   have:=Apw 1000 (r.take k) fun s Gu=>hs s (Bp5 _ (Btg Gu))
   rw[Bq1]at this;have:min k r.length≤10:=by omega
   omega
  by_cases Gv:k<r.length
  ·have g1:(a::r)[1+(k:Int).toNat]? = some r[k]:=by rw[Brp,Bsy,Bvv];exact C0 Gv
   have g2:decide ((0:Int)≤(k:Int))=true:=by simp
   have hsl:=hs _ (Bp5 _ (Bqi Gv));have tk:r.take (k+1)=r.take k++[r[k]]:=by rw[Bqu,C0 Gv];rfl
   simp only[dec_lt,Bp7 Gv,g2,Bqo,Bov,g1,Bow,B53 N [32] false (a++(r.take k).flatMap fun s=>32::s) (by simp;simp at hfl;omega),B53 N r[k] false (a++((r.take k).flatMap fun s=>32::s)++[32]) (by simp;simp at hfl;omega),Ad (show k+1<9223372036854775808 by omega)];refine ih (r.length-(k+1)) _ (by omega) ⟨k+1,?_,by omega,rfl⟩;rw[tk,List.flatMap_append];simp
  ·have:k=r.length:=by omega
   subst this;simp only[dec_lt,Bp9 Gv,Box,Af5 N false (a++(r.take r.length).flatMap fun s=>32::s) (by rw[Bq2];omega),Bow];rw[Bpy];rfl
def T5:A2 (A2 UInt8):=[[110,97,109,101],[112,104,111,110,101],[109,97,105,108],[116,111,119,110],[110,111,116,101]]
def nm(f:UInt8):A2 UInt8:=if f=1 then [110,97,109,101]else if f=2 then [112,104,111,110,101]else if f=3 then [109,97,105,108]else if f=4 then [116,111,119,110]else if f=5 then [110,111,116,101]else []
def Af6(d:Int×Int):A2 UInt8:=dec d.1.toNat++[46]++dec d.2.toNat
def Bcz:∀f:UInt8,1≤f→f≤5→O5 0 f T5=some (nm f):=by
 intro f h1 h5;have h:∀k<6,1≤k→O5 0 (UInt8.ofNat k) T5=some (nm (UInt8.ofNat k)):=by decide +kernel
 have:=h f.toNat (by have:=Bty.1 h5;exact Nat.lt_succ_of_le this) (Bty.1 h1)
 rwa [UInt8.ofNat_toNat]at this
def Bg5(f:UInt8)(h1:1≤f)(h5:f≤5):O5 N f T5=some (nm f):=Bcz f h1 h5
def B2i(f:UInt8):K0 N f=some (nm f):=by
 unfold K0 nm;simp only[cond_eq_ite,Btr]
 repeat (split;rfl)
 rfl
def B2j(f:UInt8):(nm f).length≤5:=by
 unfold nm
 repeat' split
 all_goals simp
def Bd0:∀k<257,Kc 2000000000000 ((k:Nat):Int) tab0=some (dec k):=by decide +kernel
def B2k{d:Int×Int}(h:gd d=true)(hd:d.1<65536):∃a n:Nat,d=((a:Int),(n:Int))∧a<65536∧n<18446744073709551616:=by
 have h:0<d.1∧0<d.2∧d.2≤281474976710655:=by simpa[gd]using h
 obtain⟨x,y⟩:=d;simp only at h hd;exact⟨x.toNat,y.toNat,by rw[Int.toNat_of_nonneg (by omega),Int.toNat_of_nonneg (by omega)],by omega,by omega⟩
def Am8{a:Nat}(ha:a<65536)(hn:n<18446744073709551616):(Af6 ((a:Int),(n:Int))).length≤41:=by have h1:=Pp a (by omega);have h2:=Pp n hn;simp[Af6];omega
def B2l(N a n:Nat)(ha:a<65536)(hn:n<18446744073709551616)(hN:30≤N):Xs N ((a:Int),(n:Int)) tab0=some (Af6 ((a:Int),(n:Int))):=by have h1:=Pp a (by omega);have h2:=Pp n hn;unfold Xs Af6;simp only[Bc8 (show a<18446744073709551616 by omega),Aev N a (by omega) hN,Aev N n hn hN,Bow,Brp];rw[Bp7 (by simp;omega),Bov,Bp7 (by simp;omega),Bov]
def Anq(N a n:Nat)(ha:a<65536)(hn:n<18446744073709551616)(hN:30≤N):Jz N ((a:Int),(n:Int))=some (Af6 ((a:Int),(n:Int))):=by have h1:=Pp a (by omega);have h2:=Pp n hn;unfold Jz Af6;simp only[Bc8 (show a<18446744073709551616 by omega),Td N a (by omega) (by omega),Td N n hn (by omega),Bow,Brp];rw[Bp7 (by omega),Bov,Bp7 (by simp;omega),Bov]
def A7x(e:Ev):A2 UInt8:=bif Jn e then
  bif e.2.1==1 then Acz [Af6 e.1,[101,100,105,116],dec e.2.2.1.toNat,nm e.2.2.2.1,quo e.2.2.2.2.1,dec e.2.2.2.2.2.length]
  else Acz [Af6 e.1,[100,101,108,101,116,101],dec e.2.2.1.toNat,dec e.2.2.2.2.2.length]
 else []
def A5e(h:Jn e=true):gd e.1=true∧e.2.2.2.2.2.length≤256∧(e.2.1=1→(1≤e.2.2.2.1∧e.2.2.2.1≤5)∧e.2.2.2.2.1.length≤60):=by refine⟨Apu h,by simp[Jn,Ayk]at h;exact h.2.2.1,fun h1=>?_⟩;simp[Jn,Alw,h1,tx]at h;exact⟨⟨h.1.2.2.1.1,h.1.2.2.1.2⟩,h.1.2.2.2.1⟩
def B54(e:Ev)(he:SmE e)(hN:N=2000000000000):L8 N e T5 tab0=some (A7x e):=by
 unfold L8 A7x;rw[Bh1 N e he (by omega),Bow];cases hg:Jn e with
 |false=>rfl
 |true =>
  obtain⟨hd,hk,ht⟩:=A5e hg;obtain⟨a,n,hdn,ha,hn⟩:=B2k hd he.inn.dev;obtain⟨v,hv⟩:=Btq he.inn.Bcp;have hv2:v<18446744073709551616:=by have:=he.inn.Bcq;omega
  have Qp:Kc N (e.2.2.2.2.2.length:Int) tab0=some (dec e.2.2.2.2.2.length):=by rw[hN];exact Bd0 _ (by omega)
  have l1:=Am8 ha hn;have l2:=Pp v hv2;have l3:=Pp e.2.2.2.2.2.length (by omega);rw[Br2,Box,hdn,hv,B2l N a n ha hn (by omega),Bow,Aev N v hv2 (by omega),Bow,Bov];simp only[Bn,Brp];cases h1:(e.2.1==1) with
  |true =>
   obtain⟨⟨f1,f5⟩,ht⟩:=ht (by simpa using h1);have l4:=B2j e.2.2.2.1;have l5:(quo e.2.2.2.2.1).length≤122:=by have:=Af4 e.2.2.2.2.1;simp[quo];omega
   rw[Bov,Bov,Bg5 N _ f1 f5,Bow,Bcx N _ (by omega) (by omega),Bow];have hf:Ao (3 + [nm e.2.2.2.1,quo e.2.2.2.2.1].length + [dec e.2.2.2.2.2.length].length) 16=true:=fit (by simp) (by simp);simp only[A6,Qp,Bow,hf,Bov];have hb:([Af6 ((a:Int),(n:Int)),[100,101,108,101,116,101],dec v].set 1 [101,100,105,116]++[nm e.2.2.2.1,quo e.2.2.2.2.1]).length.beq (3 + [nm e.2.2.2.1,quo e.2.2.2.2.1].length)=true:=rfl;rw[hb,Bov];have:=join_eq N (Af6 ((a:Int),(n:Int))) [[101,100,105,116],dec v,nm e.2.2.2.1,quo e.2.2.2.2.1,dec e.2.2.2.2.2.length] (by simp) (by simp) (by
    intro s hs;simp at hs;rcases hs with rfl|rfl|rfl|rfl|rfl|rfl
    ·omega
    ·simp
    ·omega
    ·omega
    ·omega
    ·omega) (by omega)
   exact(Bpj (fun o=>Option.bind o fun y:(A2 UInt8×Unit)×Unit×Unit×Unit=>some y.fst.fst) this)
  |false =>
   rw[Box,Box];have hf:Ao (3 + [dec e.2.2.2.2.2.length].length) 16=true:=fit (by simp) (by simp);simp only[A6,Qp,Bow,hf,Bov];have hb:([Af6 ((a:Int),(n:Int)),[100,101,108,101,116,101],dec v]).length.beq 3=true:=rfl;rw[hb,Bov];have:=join_eq N (Af6 ((a:Int),(n:Int))) [[100,101,108,101,116,101],dec v,dec e.2.2.2.2.2.length] (by simp) (by simp) (by
    intro s hs;simp at hs;rcases hs with rfl|rfl|rfl|rfl
    ·omega
    ·simp
    ·omega
    ·omega) (by omega)
   exact(Bpj (fun o=>Option.bind o fun y:(A2 UInt8×Unit)×Unit×Unit×Unit=>some y.fst.fst) this)
def Am9(e:Ev)(he:SmE e)(hN:1000000<N):Hi N e=some (A7x e):=by
 unfold Hi A7x;rw[B29 N e he (by omega),Bow];cases hg:Jn e with
 |false=>rfl
 |true =>
  obtain⟨hd,hk,ht⟩:=A5e hg;obtain⟨a,n,hdn,ha,hn⟩:=B2k hd he.inn.dev;obtain⟨v,hv⟩:=Btq he.inn.Bcp;have hv2:v<18446744073709551616:=by have:=he.inn.Bcq;omega
  have l1:=Am8 ha hn;have l2:=Pp v hv2;have l3:=Pp e.2.2.2.2.2.length (by omega);have l4:=B2j e.2.2.2.1;rw[Br2,Box,hdn,hv,Anq N a n ha hn (by omega),Bow,Bov];generalize Af6 ((a:Int),(n:Int))=D at *;simp only[Bn,Brp,Bc8 (show e.2.2.2.2.2.length<18446744073709551616 by omega),Td N v hv2 (by omega),Td N e.2.2.2.2.2.length (by omega) (by omega),Bow,B2i];generalize dec v=A at *;generalize dec e.2.2.2.2.2.length=B at *;cases h1:(e.2.1==1) with
  |true =>
   obtain⟨⟨f1,f5⟩,ht⟩:=ht (by simpa using h1);have l5:(quo e.2.2.2.2.1).length≤122:=by have:=Af4 e.2.2.2.2.1;simp[quo];omega
   rw[Ayt N _ (by omega) (by omega)];generalize quo e.2.2.2.2.1=Q at *;generalize nm e.2.2.2.1=M at *;simp only[Bow,Bov];rw[Bp7 (by omega),Bov,Bp7 (by simp;omega),Bov,Bp7 (by simp;omega),Bov,Bp7 (by simp;omega),Bov,Bp7 (by simp;omega),Bov,Bp7 (by simp;omega),Bov,Bp7 (by simp;omega),Bov,Bp7 (by simp;omega),Bov];simp[Acz]
  |false =>simp only[Bow,Box];rw[Bp7 (by omega),Bov,Bp7 (by simp;omega),Bov,Bp7 (by simp;omega),Bov,Bp7 (by simp;omega),Bov];simp[Acz]
def Af7(he:SmE e):(A7x e).length≤1000:=by
 unfold A7x;cases hg:Jn e with
 |false=>simp
 |true =>
  obtain⟨hd,hk,ht⟩:=A5e hg;obtain⟨a,n,hdn,ha,hn⟩:=B2k hd he.inn.dev;obtain⟨v,hv⟩:=Btq he.inn.Bcp;have hv2:v<18446744073709551616:=by have:=he.inn.Bcq;omega
  have l1:=Am8 ha hn;have l2:=Pp v hv2;have l3:=Pp e.2.2.2.2.2.length (by omega);have l4:=B2j e.2.2.2.1;rw[hdn,hv,Bov,Brp];cases h1:(e.2.1==1) with
  |true =>
   obtain⟨_,ht⟩:=ht (by simpa using h1);have l5:(quo e.2.2.2.2.1).length≤122:=by have:=Af4 e.2.2.2.2.1;simp[quo];omega
   simp[Acz];omega
  |false=>simp[Acz];omega
def Bd1(hN:0<N):C6 N=some ():=by
 have h1:Bl N 0 0=some ():=by
  unfold Bl;have e:i64.wrap (0+1)=1:=by decide
  rw[e];obtain⟨M,rfl⟩:∃M,N=M+1:=⟨N-1,by omega⟩;simp only[iter];rfl
 unfold C6;have h2:E8 N 0=some ():=by unfold E8;obtain⟨M,rfl⟩:∃M,N=M+1:=⟨N-1,by omega⟩;simp only[iter];rw[Bp9 (by decide),Box];rw[h1];simp only[Bow];rw[Bp9 (by decide),Box]
 rw[h2];rfl
def M6(L:A2 Ev)(w:Int):A2 Ev:=Fg ltN (L.filter fun e=>e.2.2.1==w)
def Bg6(w:Int)(hN:1000000<N):Cp N w=some ((),(),(none,()),()):=by unfold Cp F7;obtain⟨M,rfl⟩:∃M,N=M+1:=⟨N-1,by omega⟩;rfl
def ofL(L:A2 Ev)(w:Int):A3 (A2 Ev×Nat):=match L with
 |[]=>none
 |a::r=>some ((a::r).filter (fun e=>e.2.2.1==w),((a::r).filter fun e=>e.2.2.1==w).length)
def Bd2(L:A2 Ev)(w:Int)(hL:L.length≤1000)(hN:1000000<N):dfO N w (owE L)=some ((),(),(ofL L w,()),()):=by
 unfold dfO;cases L with
 |nil=>simp only[owE,A6,Bg6 N w hN,Bow,ofL,ow1]
 |cons a r =>
  obtain⟨m,c,h1,h2,h3⟩:=B2g N (a::r).length w (a::r) (Bpa _) (by omega) hN;have hm:=h2 rfl;subst hm;rw[Bpy,Bpy]at h3;have e:(fun e:Ev=>!(e.2.2.1 != w))=fun e:Ev=>e.2.2.1==w:=by funext e;cases h:(e.2.2.1==w)<;>simp[bne,h]
  rw[e]at h3;simp only[owE,A6,h1,Bow,ofL,h3]
def Su{x:BkC}(h:Acu x):(Gt x).length≤20:=by unfold Gt Aa1;rw[(G6 K9 _).1.length_eq,A5c];exact h.live.len
def Bd3(L:A2 Ev)(w:Int)(hL:L.length≤20)(hN:1000000<N){R:Type}(k:A2 Ev→A3 R):trO N ((),(),(ofL L w,()),()) k=k (M6 L w):=by
 unfold trO;cases L with
 |nil=>simp only[ofL,A6,Bd1 N (by omega),Bow];rfl
 |cons a r =>have hf:=Bq9 (fun e:Ev=>e.2.2.1==w) (a::r);have hl:=O0 (lt:=ltN) ((a::r).filter fun e=>e.2.2.1==w);simp only[ofL,A6];rw[Anp N _ (by omega) (by omega)];have hb:(0+((a::r).filter fun e=>e.2.2.1==w).length).ble (Fg ltN ((a::r).filter fun e=>e.2.2.1==w)).length=true:=Bqd (by omega);simp only[Bow,hb,Bov,Brr];rw[← hl,Bpy];rfl
section
variable(N:Nat)(x:BkC)(h:Acu x)(hN:1000000<N)
include h hN
def Ayu:B4p N x.1 x.2.1 x.2.2.1=some ((Gt x,()),(),(),()):=by
 have hl:=h.live;have hd:=h.dl;obtain⟨c,lv,tb,u⟩:=x;unfold B4p A4s Gt Nb N9 N7 N5;cases lv with
 |none=>cases tb<;>simp only[A6,(Bcl N hN).1,Bow,Ce,Acs,li1]
 |some a=>cases tb<;>simp only[A6,(B4w N hl hd hN).1,Bow,Ce,li1]
def Bd4:Bc6 N x.1 x.2.1 x.2.2.1=some ((Ayh x,()),(),(),()):=by
 have hl:=h.B4v;have hd:=h.dt;obtain⟨c,lv,tb,u⟩:=x;unfold Bc6 A4s Ayh M5 M3 M0 Ly;cases tb with
 |none=>cases lv<;>simp only[A6,(Bcl N hN).1,Bow,Ce,Acs,li1]
 |some a=>cases lv<;>simp only[A6,(B4w N hl hd hN).1,Bow,Ce,li1]
def B55:Bfd N x.1 x.2.1 x.2.2.1=some ((Bfu x,()),(),(),()):=by
 have hl:=h.live;have ht:=h.B4v;have hd:=h.Bnr;obtain⟨c,lv,tb,u⟩:=x;unfold Bfd A4s Bfu Ot Oo Om Oj;cases lv with
 |none =>
  cases tb with
  |none=>simp only[A6,B21 N hN,Bow,Ce,Bq0,Acs,li1]
  |some b =>simp only[Ce,Bpx]at hd;simp only[A6,B23 N ht hd hN,Bow,Ce,Bpx,li1]
 |some a =>
  cases tb with
  |none =>simp only[Ce,Bq0]at hd;simp only[A6,B22 N hl hd hN,Bow,Ce,Bq0,li1]
  |some b=>simp only[A6,B24 N hl ht hd hN,Bow,Ce,li1]
def Bd5(w:Int):ofO N w x.1 x.2.1 x.2.2.1=some ((),(),(ofL (Gt x) w,()),()):=by
 have hlen:=Su h;have hl:=h.live;have hd:=h.dl;obtain⟨c,lv,tb,u⟩:=x;have ow:∀L:A2 Ev,ow1 (owE L)=some ((),(),(owE L,()),()):=by intro L;cases L<;>rfl
 have d0:=Bd2 N [] w (by simp) hN;have o0:ow1 none=some ((),(),(none,()),()):=rfl;unfold ofO A4s L7 L6 L5 L4 Nk Ni Ng Nd;cases lv with
 |none =>have e0:Gt (c,none,tb,u)=[]:=Acs;rw[e0];simp only[owE]at d0;cases tb<;>simp only[A6,(Bcl N hN).2,Bow,o0,d0]
 |some a =>have e0:Gt (c,some a,tb,u)=Aa1 a.1:=rfl;rw[e0]at hlen⊢;cases tb<;>simp only[A6,(B4w N hl hd hN).2,Bow,ow,Bd2 N (Aa1 a.1) w (by omega) hN]
def B2m(w:Int):Qb N w x=some ((x,()),M6 (Gt x) w,()):=by unfold Qb;rw[Tc,Bd5 N x h hN w,Bow,Bd3 N _ w (Su h) hN]
def Bja(w:Int):trC N w x.1 x.2.1 x.2.2.1=some ((M6 (Gt x) w,()),(),(),()):=by
 have hb:=Bd5 N x h hN w;have ht:=fun k=>Bd3 (R:=LiR) N (Gt x) w (Su h) hN k
 obtain⟨c,lv,tb,u⟩:=x;unfold ofO A4s at hb;unfold trC A4s Y0 Xy Xw Xu;cases lv<;>cases tb<;>(simp only[A6]at hb⊢;rw[hb,Bow,ht])
end
def Af8(L:A2 Ev):Nat:=(L.map fun e=>e.2.2.2.2.2.length).sum
def B8b(L:A2 Ev)(e:Ev):Af8 (L++[e])=Af8 L+e.2.2.2.2.2.length:=by simp[Af8]
theorem B56:∀ {L:A2 Ev},(∀e∈L,smE e)→Af8 L≤5000*L.length
 |[],_=>by simp[Af8]
 |e::r,h=>by
  have h1:=B56 (L:=r) fun x hx=>h x (Bp5 _ hx)
  have h2:e.2.2.2.2.2.length≤5000:=h e Bp6;simp only[Af8,Bp3,Bwj,Bpk]at h1⊢;omega
def Y2{α:Type}{l:A2 α}(h:k<l.length):l.take (k+1)=l.take k++[l[k]]:=by rw[Bqu,C0 h];rfl
def Bd6{R:Type}(N:Nat)(L:A2 Ev)(hL:L.length≤1000)(hs:∀e∈L,smE e)(hN:1000000<N)(k:Int→A3 R):lpW N L k=k (Af8 L:Int):=by
 unfold lpW;refine iter_eq (G:=fun _=>k (Af8 L:Int)) (fun m z=>∃j:Nat,z=(((Af8 (L.take j):Int),(j:Int),()),(),(),())∧j≤L.length∧m=L.length-j) ?_ N L.length _ ⟨0,rfl,by omega,by omega⟩ (by omega);rintro m z rec ⟨j,rfl,hj,rfl⟩ ih;have hb:=B56 (Aua hs j);rw[Bq1]at hb;by_cases hjl:j<L.length
 ·have h2:L[j].2.2.2.2.2.length≤5000:=hs _ (Bqi hjl);have w:i64.wrap ((Af8 (L.take j):Int)+(L[j].2.2.2.2.2.length:Int))=(Af8 (L.take (j+1)):Int):=by rw[Y2 hjl,B8b,Bsk _ (by omega)];omega
  simp only[dec_lt,Bp7 hjl,Bov,Aq,C0 hjl,Bow,w,Ad (show j+1<9223372036854775808 by omega)];exact ih (L.length-(j+1)) _ (by omega) ⟨j+1,rfl,by omega,rfl⟩
 ·have:j=L.length:=by omega
  subst this;simp only[dec_lt,Bp9 hjl,Box,Bpy]
def V5(L:A2 Ev):A2 UInt8:=L.flatMap fun e=>A7x e++[10]
def Ama(L:A2 Ev)(e:Ev):V5 (L++[e])=V5 L++A7x e++[10]:=by simp[V5]
theorem Amb:∀ {L:A2 Ev},(∀e∈L,SmE e)→(V5 L).length≤1001*L.length
 |[],_=>by simp[V5]
 |e::r,h=>by
  have h1:=Amb (L:=r) fun x hx=>h x (Bp5 _ hx)
  have h2:=Af7 (h e Bp6);simp only[V5,Btv,Bq2,Bpk,Bs2]at h1⊢;omega
def Bjb{R:Type}(N:Nat)(L:A2 Ev)(hL:L.length≤100)(hs:∀e∈L,SmE e)(hN:N=2000000000000)(k:A2 UInt8→A3 R):lpT N T5 tab0 L ((true,[],()),()) k=k (V5 L):=by
 unfold lpT;refine iter_eq (G:=fun _=>k (V5 L)) (fun m z=>∃(j:Nat) (b:Bool),z=(((j:Int),()),((b,V5 (L.take j),()),()),(),())∧j≤L.length∧m=L.length-j) ?_ N L.length _ ⟨0,true,rfl,by omega,by omega⟩ (by omega);rintro m z rec ⟨j,b,rfl,hj,rfl⟩ ih;have hb:=Amb (L:=L.take j) fun e he=>hs e (Btg he)
 rw[Bq1]at hb;by_cases hjl:j<L.length
 ·have he:=hs _ (Bqi hjl);have h2:=Af7 he;simp only[dec_lt,Bp7 hjl,Bov,Aq,C0 hjl,Bow,B54 N _ he hN,B53 N (A7x L[j]) b (V5 (L.take j)) (by omega),A0v N 10 false (V5 (L.take j)++A7x L[j]) (by rw[Bq2];omega),Ad (show j+1<9223372036854775808 by omega)];exact ih (L.length-(j+1)) _ (by omega) ⟨j+1,false,by rw[Y2 hjl,Ama],by omega,rfl⟩
 ·have:j=L.length:=by omega
  subst this;rw[Bpy]at hb;simp only[dec_lt,Bp9 hjl,Box,Bpy,Af5 N b (V5 L) (by omega),Bow]
def B8c(x:BkC)(h:Acu x)(hN:1000000<N)(w:Int) :
  ∃e ok,Ig N w x=some ((x,()),e,ok,())∧(M6 (Gt x) w=[]∧ok=false∧e.2.1=0∨M6 (Gt x) w≠[]∧ok=true∧(M6 (Gt x) w)[(M6 (Gt x) w).length-1]? = some e):=by
 have hlen:(M6 (Gt x) w).length≤20:=by unfold M6;rw[O0];exact Bqf (Bq9 _ _) (Su h)
 unfold Ig;rw[Tc,Bja N x h hN w,Bow];dsimp only;generalize M6 (Gt x) w=T at *;cases T with
 |nil=>exact⟨_,false,rfl,.inl ⟨rfl,rfl,rfl⟩⟩
 |cons a r =>have e0:((((a::r).length:Nat):Int)==0)=false:=Bsb.2 (by rw[Bpk];omega);have e1:i64.wrap ((((a::r).length:Nat):Int)-1)=(((a::r).length-1:Nat):Int):=Ln (by simp) (by omega);have hg:=C0 (show(a::r).length-1<(a::r).length by simp);rw[e0,Box,e1,Aq,hg,Bow];exact⟨_,true,rfl,.inr ⟨List.cons_ne_nil _ _,rfl,rfl⟩⟩
abbrev EsN:Type:=G0 (.int .u16) (.int .u64)
def owD(g:A2 (Int×Int)):A3 (A2 (Int×Int)×Nat):=match g with
 |[]=>none
 |a::r=>some (a::r,(a::r).length)
def Bd7:(Ty.int .u16).key=true:=rfl
variable{es:EsN}
def Ayv(h:WfE es Iq):K8 Du (es.map (·.2))=true:=by
 rw[Qi,Bse];have h1:(es.map (·.2.1)).Pairwise (·≠·):=h.keys;rw[Bse]at h1;refine h1.imp ?_;intro a b hab;cases h3:ltOf Du a.2 b.2 with
 |true=>exact .inl rfl
 |false =>
  cases h4:ltOf Du b.2 a.2 with
  |true=>exact .inr rfl
  |false=>exact absurd (Bpj Prod.fst (A6g _ _ h3 h4)) hab
def mkD(es:A2 (Nat×Int×Int)):A2 (Int×Int):=Lo Du (es.map (·.2))
def Bjc{R:Type}(N:Nat)(es:EsN)(Iq:Nat)(hw:WfE es Iq)(hl:es.length≤1000)(hN:1000000<N)(k:OwD→A3 R)(r:R)(hr:∀d:A2 (Int×Int),d.Perm (es.map (·.2))→k (owD d)=some r):lpD N (es,Iq) k=some r:=by
 unfold lpD;refine B1f (es:=es) hw.born (fun d z=>z=((),(),(owD (d.map (·.2)),()),(Iq,d.map (·.1),Iq),())) _ ?_ N (by omega) rfl;rintro rec d z hd rfl ih;have hold:A6w Iq Iq es=true:=Atj hw.lt hw.lt;have hdl:=hd.len;have step:∀e∈Cb (d.map (·.1)) es,P5 (d.map (·.1)++[e.1])=some (d.map (·.1),e.1)∧A1v (.int .u16) (.int .u64) e.1 es=some e:=by intro e he;have hm:=(X2.1 he).1;exact⟨A2b _ _,A6n hw.born hm⟩
 have seen:∀e:Nat×Int×Int,d.map (·.1)++[e.1]=(d++[e]).map (·.1):=fun e=>by simp
 have sap:∀e:Nat×Int×Int,(d++[e]).map (·.2)=d.map (·.2)++[e.2]:=fun e=>by simp
 have Acr:Cb (d.map (·.1)) es=[]→k (owD (d.map (·.2)))=some r:=fun hn=>hr _ ((hd.all hw.born hn).map _)
 have hpl:(d.map (·.2)).length≤1000:=by rw[Bpl];omega
 generalize hp:d.map (·.2)=p at *;cases p with
 |nil =>
  simp only[owD,A6,hold,Bov,Bsx]at Acr⊢;by_cases hn:Cb (d.map (·.1)) es=[]
  ·rw[hn,Vx];exact Acr hn
  ·refine A03 hn fun e he=>?_
   obtain⟨s1,s2⟩:=step e he;simp only[s1,s2];refine ih e he _ ?_;rw[sap,seen];rfl
 |cons q0 qs =>
  simp only[owD,A6,hold,Bov,Bsx]at Acr⊢;by_cases hn:Cb (d.map (·.1)) es=[]
  ·rw[hn,Vx];exact Acr hn
  ·refine A03 hn fun e he=>?_
   obtain⟨s1,s2⟩:=step e he;have Ad3:Ao ((q0::qs).length + [e.2].length) 16=true:=fit (by simp only[Bs5];omega) (by simp only[Bs5];omega);simp only[s1,s2,Ad3,Bov];refine ih e he _ ?_;rw[sap,seen];simp[owD]
def Bg7{R:Type}{g l:A2 (Int×Int)}(hd:K8 Du l=true)(hp:g.Perm l)(hl:l.length≤10000)(k:A2 (Int×Int)→R):B1u k (owD g)=some (k (Lo Du l)):=by
 have Alq:A9g g=true:=W5 hp hd;have hs:Ra g=Lo Du l:=by obtain⟨p,s⟩:=G6 T9 g;exact Qj T9 hd (p.trans hp) s
 have hsl:(Lo Du l).length=g.length:=by rw[← hs];exact(G6 T9 g).1.length_eq
 have hgl:=hp.length_eq;cases g with
 |nil =>have:l=[]:=Bve.1 hp;rw[this,A0u];rfl
 |cons q0 qs =>have B1z:Nat.ble (q0::qs).length (q0::qs).length=true:=Bqd (Bpa _);have Alp:Nat.ble (q0::qs).length 4611686018427387903=true:=Bqd (by omega);have Ayc:Nat.ble (0+(q0::qs).length) (Lo Du l).length=true:=Bqd (by omega);simp only[B1u,owD,A6];rw[B1z,Bov,Alp,Bov,Bpy,Bst,Alq,Bov,hs,Bq0,Ayc];simp only[Bov,Brr];rw[← hsl,Bpy]
def U5(L:A2 Ev)(d:Int):Nat:=(L.filter fun e=>e.1.1==d).length
def Af9(L:A2 Ev)(e:Ev)(d:Int):U5 (L++[e]) d=U5 L d+if e.1.1=d then 1 else 0:=by
 unfold U5;rw[Brb,Bq2];by_cases h:e.1.1=d
 ·simp[h]
 ·simp[h]
def B57(L:A2 Ev)(d:Int):U5 L d≤L.length:=Bq9 _ _
structure Mi(L:List Ev)(o:List (Int×Int)):Prop where
 asc:o.Pairwise fun a b=>a.1<b.1
 mem:∀d c,(d,c)∈o↔c=(U5 L d:Int)∧0<U5 L d
theorem Mi.ext{a b:A2 (Int×Int)}(ha:Mi L a)(hb:Mi L b):a=b:=by
 have h:∀x,x∈a↔x∈b:=fun x=>by rw[show x=(x.1,x.2)from rfl,ha.mem,hb.mem]
 have hx:∀ {a:A2 (Int×Int)},a.Pairwise (fun a b=>a.1<b.1)→Sd (fun a b:Int×Int=>decide (a.1<b.1)) a:=fun h=>h.imp fun {a b} h=>by simpa using h
 exact Sd.ext (fun x y h=>by simp at h⊢;omega) (hx ha.asc) (hx hb.asc) h
def Bd8{R:Type}(N:Nat)(L:A2 Ev)(hL:L.length≤1000)(hN:1000000<N)(k:MkM→A3 R)(r:R)
  (hr:∀(es:EsN) (Iq:Nat),WfE es Iq→es.length≤L.length→(∀d,Ml (kt:=.int .u16) (vt:=.int .u64) d es=if U5 L d=0 then none else some (U5 L d:Int))→k (es,Iq)=some r):lpM N L k=some r:=by
 unfold lpM;refine iter_eq (G:=fun _=>some r) (fun q z=>∃(j:Nat) (es:EsN) (Iq:Nat),z=(((j:Int),()),(),(),(es,Iq),())∧j≤L.length∧q=L.length-j∧WfE es Iq∧es.length≤j ∧
  ∀d,Ml (kt:=.int .u16) (vt:=.int .u64) d es=if U5 (L.take j) d=0 then none else some (U5 (L.take j) d:Int)) ?_ N L.length _ ⟨0,[],0,rfl,by omega,by omega,WfE.nil 0,by simp,fun d=>rfl⟩ (by omega)
 rintro q z rec ⟨j,es,Iq,rfl,hj,rfl,hw,hlen,hm⟩ ih;by_cases hjl:j<L.length
 ·have hle:=B57 (L.take j) L[j].1.1;rw[Bq1]at hle;have hg:(Ml (kt:=.int .u16) (vt:=.int .u64) L[j].1.1 es).getD 0=(U5 (L.take j) L[j].1.1:Int):=by
   rw[hm];split
   ·rename_i h;rw[h];rfl
   ·rfl
  have hwr:u64.wrap ((U5 (L.take j) L[j].1.1:Int)+1)=(U5 (L.take j) L[j].1.1:Int)+1:=Ss (by omega) (by omega);simp only[dec_lt,Bp7 hjl,Bov,Aq,C0 hjl,Bow,Ad (show j+1<9223372036854775808 by omega),B3h,B3g,Awg,hg,hwr];refine ih (L.length-(j+1)) _ (by omega) ⟨j+1,_,_,rfl,by omega,rfl,hw.put Bd7 _ _,?_,fun d=>?_⟩
  ·have:=Aki (kt:=.int .u16) (vt:=.int .u64) L[j].1.1 ((U5 (L.take j) L[j].1.1:Int)+1) Iq es;omega
  ·rw[Axl Bd7,Y2 hjl,Af9,hm];by_cases hd:L[j].1.1=d
   ·subst hd;simp
   ·have hd':¬d=L[j].1.1:=fun h=>hd h.symm
    simp[hd,hd']
 ·have:j=L.length:=by omega
  subst this;rw[Bpy]at hm;simp only[dec_lt,Bp9 hjl,Box];exact hr es Iq hw hlen hm
def Bd9(hw:WfE es Iq)(hm:∀d,Ml (kt:=.int .u16) (vt:=.int .u64) d es=if U5 L d=0 then none else some (U5 L d:Int)):Mi L (mkD es):=by
 obtain⟨p,s⟩:=G6 T9 (es.map (·.2));have hs:=T4 p (Ayv hw) s;have Oy:∀d c,(d,c)∈mkD es↔c=(U5 L d:Int)∧0<U5 L d:=by
  intro d c;have e1:(d,c)∈mkD es↔∃i,(i,d,c)∈es:=by
   unfold mkD;rw[p.mem_iff,Bpc];constructor
   ·rintro ⟨⟨i,d',c'⟩,h1,h2⟩;cases h2;exact⟨i,h1⟩
   ·rintro ⟨i,h⟩;exact⟨(i,d,c),h,rfl⟩
  have e2:(∃i,(i,d,c)∈es)↔Ml (kt:=.int .u16) (vt:=.int .u64) d es=some c:=(A4j (kt:=.int .u16) (vt:=.int .u64) Bd7 hw.keys).symm;rw[e1,e2,hm];by_cases h0:U5 L d=0
  ·simp[h0]
  ·rw[Bpp h0];constructor
   ·intro h;exact⟨(Brf h).symm,by omega⟩
   ·rintro ⟨h,_⟩;rw[h]
 refine⟨?_,Oy⟩;have hand:=Bwe.1 hs;refine hand.imp ?_;rintro a b ⟨ha,hb,hab⟩;rw[Q1]at hab;have ha':=(Oy a.1 a.2).1 ha;have Fp:=(Oy b.1 b.2).1 hb;by_cases h:a.1=b.1
 ·have hc:=ha'.1.trans ((Bpj (fun d=>(U5 L d:Int)) h).trans Fp.1.symm);simp[h,hc]at hab
 ·simp at hab;omega
def B8d(x:BkC)(h:Acu x)(hN:1000000<N):∃m:A2 (Int×Int),Gq N x=some ((x,()),m,())∧Mi (Gt x) m:=by
 have hlen:=Su h
 suffices H:∃r,Gq N x=some r∧∃m,r=((x,()),m,())∧Mi (Gt x) m by obtain⟨_,h1,m,rfl,h2⟩:=H;exact⟨m,h1,h2⟩
 unfold Gq;rw[Tc,Ayu N x h hN,Bow];dsimp only
 suffices H:∃m,lpM N (Gt x) (fun m=>lpD N m (B1u fun l=>(((x.1,x.2.1,x.2.2.1,()),()),l,())))=some ((((x.1,x.2.1,x.2.2.1,()):BkC),()),m,())∧Mi (Gt x) m by obtain⟨m,h1,h2⟩:=H;exact⟨_,h1,m,rfl,h2⟩
 have key:∀(es:EsN) (Iq:Nat),WfE es Iq→es.length≤(Gt x).length→(∀d,Ml (kt:=.int .u16) (vt:=.int .u64) d es=if U5 (Gt x) d=0 then none else some (U5 (Gt x) d:Int)) →
   lpD N (es,Iq) (B1u fun l=>((((x.1,x.2.1,x.2.2.1,()):BkC),()),l,()))=some ((((x.1,x.2.1,x.2.2.1,()):BkC),()),mkD es,())∧Mi (Gt x) (mkD es):=fun es Iq hw hl hm =>
  ⟨Bjc N es Iq hw (by omega) hN _ _ fun d hd=>Bg7 (Ayv hw) hd (by rw[Bpl];omega) _,Bd9 hw hm⟩
 obtain⟨m,hm⟩:∃m,Mi (Gt x) m:=by
  apply Btf;intro hno;have h3:=Bd8 (R:=Unit) N (Gt x) (by omega) hN (fun _=>none) () fun es Iq hw hl Uc=>absurd ⟨mkD es,Bd9 hw Uc⟩ hno
  exact absurd (B4q h3) (by rintro ⟨_,h⟩;cases h)
 exact⟨m,Bd8 N (Gt x) (by omega) hN _ _ fun es Iq hw hl Uc=>by
  obtain⟨h1,h2⟩:=key es Iq hw hl Uc;rw[h1,h2.ext hm],hm⟩
def B2n(x:Bk)(hl:x.2.length≤1000)(hN:10000<N):Jc N x=some (x.2.filter fun e=>e.2.1==2):=by unfold Jc;rw[B51 N x.2 2 hl hN];rfl
def B2o(x:Bk)(hL:x.2.length≤1000)(hs:∀e∈x.2,smE e)(hN:1000000<N):Nl N x=some (Af8 x.2:Int) :=
 Bd6 N x.2 hL hs hN some
def B8e(x:Bk)(hL:x.2.length≤100)(hs:∀e∈x.2,SmE e)(hN:1000000<N):K1 N x=some (V5 x.2):=by
 unfold K1;refine iter_eq (G:=fun _=>some (V5 x.2)) (fun m z=>∃j:Nat,z=((V5 (x.2.take j),(j:Int),()),(),(),())∧j≤x.2.length∧m=x.2.length-j) ?_ N x.2.length _ ⟨0,rfl,by omega,by omega⟩ (by omega);rintro m z rec ⟨j,rfl,hj,rfl⟩ ih;have hb:=Amb (L:=x.2.take j) fun e he=>hs e (Btg he)
 rw[Bq1]at hb;by_cases hjl:j<x.2.length
 ·have he:=hs _ (Bqi hjl);have h2:=Af7 he;simp only[dec_lt,Bp7 hjl,Bov,Aq,C0 hjl,Bow,Am9 N _ he hN,Ad (show j+1<9223372036854775808 by omega)];rw[Bp7 (by omega),Bov,Bp7 (by rw[Bq2];omega),Bov];exact ih (x.2.length-(j+1)) _ (by omega) ⟨j+1,by rw[Y2 hjl,Ama],by omega,rfl⟩
 ·have:j=x.2.length:=by omega
  subst this;simp only[dec_lt,Bp9 hjl,Box,Bpy]
def Agl(a:A2 (Int×Int))(ha:a.length≤5000)(hN:1000000<N):Hg N a a=some true:=by
 unfold Hg;have e:((a.length:Int) != (a.length:Int))=false:=by simp
 rw[e,Box];refine Nz a.length (fun _=>some true) 0 ?_ ?_ N (by omega)
 ·intro rec k _ hk hr;simp only[dec_lt,Bp7 hk,Bov,Aq,C0 hk,Bow,Ad (show k+1<9223372036854775808 by omega),hr,Bs4,Bqo,Br2,Box]
 ·intro rec k hk;simp only[dec_lt,Bp9 (show ¬k<a.length by omega),Box]
def Agm(x:Ev)(hx:smE x)(hN:1000000<N):Hh N x x=some true:=by unfold Hh;simp only[Bs4,Bqo,Bov,Agl N _ hx hN,Bow]
def B2p(l:A2 Ev)(hl:l.length≤1000)(hs:∀e∈l,smE e)(hN:1000000<N):La N l l=some true:=by
 unfold La;have e:((l.length:Int) != (l.length:Int))=false:=by simp
 rw[e,Box];refine Nz l.length (fun _=>some true) 0 ?_ ?_ N (by omega)
 ·intro rec k _ hk hr;simp only[dec_lt,Bp7 hk,Bov,Aq,C0 hk,Bow,Ad (show k+1<9223372036854775808 by omega),hr,Agm N _ (hs _ (Bqi hk)) hN,Br2,Box]
 ·intro rec k hk;simp only[dec_lt,Bp9 (show ¬k<l.length by omega),Box]
def Bg8(x:Bk)(w:Int)(hl:x.2.length≤1000)(hN:10000<N):Mg N x w=some ((x.2.filter fun e=>e.2.1==1).filter fun e=>e.2.2.1==w):=by
 unfold Mg;have e0:=foldl_filter (fun e:Ev=>e.2.1==1&&e.2.2.1==w) x.2 [];rw[Fl x.2 (fun a x=>cond (x.2.1==1&&x.2.2.1==w) (a++[x]) a) [] (fun a=>some a) ?_ ?_ N (by omega),e0,List.filter_filter,Bpx]
 ·refine Bpj some (List.filter_congr fun e _=>?_);exact Bwi _ _
 ·intro rec j a hj ha;have hal:a.length≤j:=by rw[ha,foldl_filter,Bpx];exact Sr _ _ _
  have hf:Ao (a.length + [x.2[j]].length) 80=true:=fit (by simp;omega) (by simp;omega);simp only[dec_lt,Bp7 hj,Bov,Aq,C0 hj,Bow,hf,Ad (show j+1<9223372036854775808 by omega)];cases(x.2[j].2.1==1)<;>cases(x.2[j].2.2.1==w)<;>rfl
 ·intro rec;simp only[dec_lt,Bp9 (Bri _),Box]
def ltX(x y:Ev):Bool:=decide (x.1.2<y.1.2)||(y.1.2==x.1.2&&decide (x.1.1<y.1.1))
def Bda(x y:Ev):Gr N x y=some (ltX y x):=by unfold Gr ltX;cases decide (y.1.2<x.1.2)<;>cases(x.1.2==y.1.2)<;>rfl
def Bjd(l out:A2 Ev)(j:Nat)(hj:j<l.length)(ho:out.length≤100)(hN:1000000<N)(K:A2 Ev→A3 (A2 Ev)){f:((A2 Ev×Bool×Int×Unit)×Unit×Unit×Unit→A3 (A2 Ev))→(A2 Ev×Bool×Int×Unit)×Unit×Unit×Unit→A3 (A2 Ev)}
  (hf:∀rec z,f rec z=bif decide (z.1.2.2.1<(out.length:Int)) then
    Bn (fun(y:(A2 Ev×Bool×Unit)×Unit×Unit×Unit)=>(at? out z.1.2.2.1).bind fun(e:Ev)=>bif Ao (y.1.1.length + [e].length) 80 then rec ((y.1.1++[e],y.1.2.1,i64.wrap (z.1.2.2.1+1),()),(),(),())else none)
     fun k=>bif !z.1.2.1 then (at? out z.1.2.2.1).bind fun(e:Ev)=>(at? l (j:Int)).bind fun(Mn:Ev)=>Option.bind (Gr N e Mn) fun(y:Bool) =>
       bif y then (at? l (j:Int)).bind fun(e:Ev)=>bif Ao (z.1.1.length + [e].length) 80 then k ((z.1.1++[e],true,()),(),(),())else none
       else k ((z.1.1,z.1.2.1,()),(),(),())
      else k ((z.1.1,z.1.2.1,()),(),(),())
   else
    bif !z.1.2.1 then (at? l (j:Int)).bind fun(e:Ev)=>bif Ao (z.1.1.length + [e].length) 80 then K (z.1.1++[e])else none
    else K z.1.1) :
  iter f N (([],false,0,()),(),(),())=K (N2 ltX l[j] out):=by
 refine iter_eq (G:=fun _=>K (N2 ltX l[j] out)) (fun m z=>∃(k:Nat) (q:A2 Ev) (done:Bool),z=((q,done,(k:Int),()),(),(),())∧k≤out.length∧m=out.length-k∧q.length≤k+1 ∧
  N2 ltX l[j] out=q++cond done (out.drop k) (N2 ltX l[j] (out.drop k))) ?_ N out.length _ ⟨0,[],false,rfl,by omega,by omega,by simp,rfl⟩ (by omega)
 rintro m z rec ⟨k,q,done,rfl,hk,rfl,hq,hT⟩ ih;rw[hf];by_cases Gv:k<out.length
 ·have hd:out.drop k=out[k]::out.drop (k+1):=Bqe Gv;rw[hd]at hT;have hf1:∀q':A2 Ev,q'.length≤200→Ao (q'.length + [out[k]].length) 80=true:=fun q' h=>fit (by simp;omega) (by simp;omega)
  have hf2:Ao (q.length + [l[j]].length) 80=true:=fit (by simp;omega) (by simp;omega);simp only[dec_lt,Bp7 Gv,Bov,Aq,C0 Gv,C0 hj,Bow,Bn,Bda,Ad (show k+1<9223372036854775808 by omega),hf2];cases done with
  |true =>
   simp only[Bov]at hT;simp only[Br2,Box,hf1 q (by omega),Bov];have hq':q.length+1≤k+1+1:=by omega
   refine ih (out.length-(k+1)) _ (by omega) ⟨k+1,q++[out[k]],true,rfl,by omega,rfl,by simpa using hq',by rw[hT];simp⟩
  |false =>
   simp only[Box]at hT;simp only[Brm,Bov];have hql:q.length≤k:=by have h1:=Bpj List.length hT;rw[Z1,Bq2,Z1,← hd,Bvt]at h1;omega
   cases Bg:ltX l[j] out[k] with
   |true =>rw[Se Bg]at hT;simp only[Bov,hf1 (q++[l[j]]) (by simp;omega)];exact ih (out.length-(k+1)) _ (by omega) ⟨k+1,q++[l[j]]++[out[k]],true,rfl,by omega,rfl,by simp;omega,by rw[hT];simp⟩
   |false =>rw[W2 Bg]at hT;simp only[Box,hf1 q (by omega),Bov];exact ih (out.length-(k+1)) _ (by omega) ⟨k+1,q++[out[k]],false,rfl,by omega,rfl,by simp;omega,by rw[hT];simp⟩
 ·have hd:out.drop k=[]:=Bs0 (by omega);rw[hd]at hT;have hf2:Ao (q.length + [l[j]].length) 80=true:=fit (by simp;omega) (by simp;omega);simp only[dec_lt,Bp9 Gv,Box,Aq,C0 hj,Bow,hf2,Bov];cases done with
  |true=>simp only[Br2,Box];rw[hT];simp
  |false=>simp only[Brm,Bov];rw[hT];simp[N2]
def B2q(x:Bk)(w:Int)(hl:x.2.length≤90)(hN:1000000<N):H3 N x w=some (Fg ltX ((x.2.filter fun e=>e.2.1==1).filter fun e=>e.2.2.1==w)):=by
 unfold H3;rw[Bg8 N x w (by omega) (by omega),Bow];have hll:((x.2.filter fun e=>e.2.1==1).filter fun e=>e.2.2.1==w).length≤90:=Bqf (Bq9 _ _) (Bqf (Bq9 _ _) hl);generalize (x.2.filter fun e=>e.2.1==1).filter (fun e=>e.2.2.1==w)=l at *;refine(Fl l (fun a e=>N2 ltX e a) [] (fun a=>some a) ?_ ?_ N (by omega)).trans rfl
 ·intro rec j a hj ha;have hal:a.length≤90:=by have:a=Fg ltX (l.take j):=ha;rw[this,O0,Bq1];omega
  dsimp only;rw[dec_lt,Bp7 hj,Bov];exact Bjd N l a j hj (by omega) hN (fun q=>rec ((q,((j+1:Nat):Int),()),(),(),())) fun Bom z=>by rw[Ad (show j+1<9223372036854775808 by omega)]
 ·intro rec;simp only[dec_lt,Bp9 (Bri _),Box]
theorem Amc{α:Type}{lt lt':α→α→Bool}{x:α}:∀ {l:A2 α},(∀y∈l,lt x y=lt' x y)→N2 lt x l=N2 lt' x l
 |[],_=>rfl
 |y::r,h=>by
  have h1:=h y Bp6;cases hx:lt x y with
  |true=>rw[Se hx,Se (h1▸hx)]
  |false=>rw[W2 hx,W2 (h1▸hx),Amc fun z hz=>h z (Bp5 _ hz)]
def Ayw:∀ {l:A2 Ev},l.Pairwise (fun a b=>ltE a b=true)→Fg ltX l=Fg ltN l:=by
 have key:∀n,∀l:A2 Ev,l.length=n→l.Pairwise (fun a b=>ltE a b=true)→Fg ltX l=Fg ltN l:=by
  intro n;induction n with
  |zero=>intro l hl _;rw[Brt.1 hl];rfl
  |succ n ih =>
   intro l hl hp;rcases Fi l with rfl|⟨o,e,rfl⟩
   ·rfl
   ·rw[A97,A97,ih o (by simpa using hl) (Bqr.1 hp).1];refine Amc fun y hy=>?_
    have hye:ltE y e=true:=(Bqr.1 hp).2.2 y ((Ape o).1 hy) e (by simp);unfold ltE at hye;rw[Q1]at hye;rw[Aul];unfold ltX;by_cases h:e.1.2<y.1.2
    ·simp[h]
    ·simp at hye;by_cases h2:y.1.2=e.1.2
     ·simp[h2];omega
     ·simp[h,h2]
 intro l h;exact key _ l rfl h
def Bg9(x:Bk)(w:Int)(hb:BdB 20 x)(hN:1000000<N):H3 N x w=some (M6 (x.2.filter fun e=>e.2.1==1) w):=by rw[B2q N x w (by have:=hb.len;omega) hN,Ayw ((hb.asc.filter _).filter _)];rfl
def Amd{d:Int}(h:0<U5 L d):∃e∈L,e.1.1=d:=by obtain⟨e,he⟩:=List.length_pos_iff_exists_mem.1 h;obtain⟨h1,h2⟩:=Bpv.1 he;exact⟨e,h1,by simpa using h2⟩
def Mi.nil:Mi [] []:=⟨by simp,fun d c=>by simp[U5]⟩
def Mi.new(h:Mi L o)(hle:∀f∈L,f.1.1≤e.1.1)(hn:∀p∈o,p.1≠e.1.1):Mi (L++[e]) (o++[(e.1.1,1)]):=by
 have h0:U5 L e.1.1=0:=by apply Btf;intro h0;exact hn _ ((h.mem e.1.1 (U5 L e.1.1:Int)).2 ⟨rfl,by omega⟩) rfl
 refine⟨Bqr.2 ⟨h.asc,by simp,fun p hp q hq=>?_⟩,fun d c=>?_⟩
 ·simp at hq;subst hq;obtain⟨_,h2⟩:=(h.mem p.1 p.2).1 hp;obtain⟨f,hf,he⟩:=Amd h2;have:=hle f hf;have:=hn p hp;show p.1<e.1.1;omega
 ·rw[Bp4,h.mem,Af9];by_cases hd:e.1.1=d
  ·subst hd;simp[h0]
  ·simp[hd];intro h1;exact absurd h1.symm hd
def Mi.more{p:Int×Int}(h:Mi L (o++[p]))(hp:p.1=e.1.1):Mi (L++[e]) (o++[(p.1,p.2+1)]):=by
 obtain⟨a1,a2,a3⟩:=Bqr.1 h.asc;have hpm:=(h.mem p.1 p.2).1 (by simp);refine⟨Bqr.2 ⟨a1,by simp,fun q hq r hr=>by simp at hr;subst hr;exact a3 q hq p (by simp)⟩,fun d c=>?_⟩;have hm:=h.mem d c;rw[Bp4,Bpg]at hm;rw[Bp4,Bpg,Af9];by_cases hd:e.1.1=d
 ·subst hd;rw[Bq6 rfl];have hno:(e.1.1,c)∉o:=fun hq=>by have:=a3 _ hq p (by simp);rw[hp]at this;exact absurd this (Int.lt_irrefl _)
  rw[hp]at hpm;constructor
  ·rintro (h1|h1)
   ·exact absurd h1 hno
   ·have:=Bpj Prod.snd h1;simp only at this;exact⟨by rw[this,hpm.1];omega,by omega⟩
  ·rintro ⟨h1,h2⟩;exact .inr (by rw[h1,hp];rw[hpm.1];simp)
 ·rw[Bpp hd,Bs7,← hm];have n1:((d,c)=(p.1,p.2+1))↔False:=⟨fun h1=>hd (by rw[← hp];exact(Bpj Prod.fst h1).symm),False.elim⟩;have n2:((d,c)=p)↔False:=⟨fun h1=>hd (by rw[← hp,← h1]),False.elim⟩;rw[n1,n2]
def Mi.len(h:Mi L o):o.length≤L.length:=by
 have h1:(o.map (·.1)).Nodup:=by rw[List.Nodup,Bse];exact h.asc.imp fun {a b} h=>by omega
 have h2:∀d∈o.map (·.1),d∈L.map (·.1.1):=by intro d hd;obtain⟨p,hp,rfl⟩:=Bpc.1 hd;obtain⟨f,hf,he⟩:=Amd ((h.mem p.1 p.2).1 hp).2;exact Bpc.2 ⟨f,hf,he⟩
 have:=Pc.Aes h1 h2;simpa using this
def Bje(h:l.Pairwise fun a b=>ltE a b=true)(hk:k<l.length):∀f∈l.take k,f.1.1≤l[k].1.1:=by intro f hf;obtain⟨i,hi,rfl⟩:=Bv0 hf;rw[Bq1]at hi;rw[List.getElem_take];have:=Bqk.1 h i k (by omega) hk (by omega);unfold ltE at this;rw[Q1]at this;simp at this;omega
def Ayx(x:Bk)(hb:BdB 20 x)(hN:1000000<N):∃m,Io N x=some m∧Mi (x.2.filter fun e=>e.2.1==1) m:=by
 have hl:=hb.len;unfold Io;rw[Af3 N x (by omega) (by omega),Bow];have hll:(x.2.filter fun e=>e.2.1==1).length≤20:=Bqf (Bq9 _ _) hl;have Aui:(x.2.filter fun e=>e.2.1==1).Pairwise fun a b=>ltE a b=true:=hb.asc.filter _
 generalize (x.2.filter fun e=>e.2.1==1)=l at *;refine Gy (Q:=fun m=>Mi l m) (fun m z=>∃(k:Nat) (o:A2 (Int×Int)),z=(((k:Int),()),(),(owD o,()),())∧k≤l.length∧m=l.length-k∧Mi (l.take k) o) ?_ N l.length _ ⟨0,[],rfl,by omega,by omega,.nil⟩ (by omega);rintro m z rec ⟨k,o,rfl,hk,rfl,ho⟩ ih;have hol:=ho.len;rw[Bq1]at hol;by_cases Gv:k<l.length
 ·have hle:=Bje Aui Gv;have tk:=Y2 Gv;have go:∀o':A2 (Int×Int),Mi (l.take (k+1)) o'→∃r,rec ((((k+1:Nat):Int),()),(),(owD o',()),())=some r∧Mi l r:=fun o' h=>ih (l.length-(k+1)) _ (by omega) ⟨k+1,o',rfl,by omega,rfl,h⟩
  rcases Fi o with rfl|⟨q,p,rfl⟩
  ·simp only[owD,A6,dec_lt,Bp7 Gv,Bov,Aq,C0 Gv,Bow,Ad (show k+1<9223372036854775808 by omega)];refine go [(l[k].1.1,1)] ?_;rw[tk];exact ho.new hle (by simp)
  ·have how:owD (q++[p])=some (q++[p],(q++[p]).length):=by cases q<;>rfl
   have hn:(q++[p]).length=q.length+1:=by simp
   have hw:i64.wrap ((((q++[p]).length:Nat):Int)-1)=(q.length:Int):=by rw[hn,Ln (by omega) (by omega)];simp
   have h0:decide ((0:Int)≤(q.length:Int))=true:=by simp
   have h1:decide ((q.length:Int)<(((q++[p]).length:Nat):Int))=true:=Bp7 (by rw[hn];omega);have hg:(q++[p])[0+(q.length:Int).toNat]? = some p:=by simp
   rw[how];simp only[A6,dec_lt,Bp7 Gv,Bov,Aq,C0 Gv,Bow,Ad (show k+1<9223372036854775808 by omega),hw,h0,h1,Bqo,hg];have hpm:=(ho.mem p.1 p.2).1 (by simp);have hcl:=B57 (l.take k) p.1;rw[Bq1]at hcl;cases hd:(p.1==l[k].1.1) with
   |true =>
    have hd':p.1=l[k].1.1:=by simpa using hd
    have hwu:u64.wrap (p.2+1)=p.2+1:=Ss (by omega) (by omega);have Zt:(q++[p]).set (0+(q.length:Int).toNat) (p.1,p.2+1)=q++[(p.1,p.2+1)]:=by simp
    rw[Bov,hwu,Zt,hn];have:=go (q++[(p.1,p.2+1)]) (by rw[tk];exact ho.more hd');have Bjf:owD (q++[(p.1,p.2+1)])=some (q++[(p.1,p.2+1)],q.length+1):=by cases q<;>simp[owD]
    rwa [Bjf]at this
   |false =>
    have hd':p.1≠l[k].1.1:=by simpa using hd
    have hf:Ao ((q++[p]).length + [(l[k].1.1,(1:Nat))].length) 16=true:=fit (by simp;omega) (by simp;omega);rw[Box,Bsx,Bov,hf,Bov];have Bg:∀r∈q++[p],r.1≠l[k].1.1:=by
     intro r hr he;obtain⟨f,hf',hfe⟩:=Amd hpm.2;have h2:=hle f hf';rcases Bp4.1 hr with h3|h3
     ·have h4:=(Bqr.1 ho.asc).2.2 r h3 p (by simp);omega
     ·simp at h3;rw[h3]at he;exact hd' he
    have:=go (q++[p]++[(l[k].1.1,1)]) (by rw[tk];exact ho.new hle Bg);have Bjf:owD (q++[p]++[(l[k].1.1,(1:Int))])=some (q++[p]++[(l[k].1.1,1)],(q++[p]).length + [(l[k].1.1,(1:Nat))].length):=by cases q<;>simp[owD]
    rwa [Bjf]at this
 ·have:k=l.length:=by omega
  subst this;rw[Bpy]at ho;rcases Fi o with rfl|⟨q,p,rfl⟩
  ·simp only[owD,A6,dec_lt,Bp9 Gv,Box];exact⟨[],rfl,ho⟩
  ·have how:owD (q++[p])=some (q++[p],(q++[p]).length):=by cases q<;>rfl
   have Fp:(0+(q++[p]).length).ble (q++[p]).length=true:=Bqd (by omega);rw[how];simp only[A6,dec_lt,Bp9 Gv,Box,Fp,Bov,Brr,Bpy];exact⟨_,rfl,ho⟩
def Bga:Di 2000000000000 T5 tab0=some true:=by kernel_rfl
def trailSays_true(hN':N=2000000000000)(l:A2 Am5)(w:Int)(e:Ev)(hi:∀a∈l,InE a.2.1∧Vr a.2.2)(he:InE e):Gg N l w e T5 tab0=some true:=by
 have hN:1000000000000<N:=by omega
 have hN6:1000000<N:=by omega
 have hW:Di N T5 tab0=some true:=by rw[hN'];exact Bga
 unfold Gg;rcases B2e N l hi hN with h|⟨h,hl,ha⟩
 ·rw[h,Bow];have:((0:Int)==0)=true:=rfl;rw[this,Bov,hW];rfl
 ·obtain⟨b,hb1,hb2⟩:=Blw N e he (by omega);have h10:((1:Int)==0)=false:=rfl;rw[h,Bow,h10,Box,hb1,Bow];cases b with
  |false=>rw[Brm,Bov,hW];rfl
  |true =>
   have hes:=hb2 rfl;rw[Br2,Box];obtain⟨x,hx,hb⟩:=B87 N l hl ha hN;have hxl:=hb.len;have hcl:=hb.cl;have hct:=hb.ct;have Ej:∀f∈x.2,smE f:=fun f hf=>Auh (hb.evs f hf)
   obtain⟨z,hz,w1,w2,v1,v2⟩:=Bg4 N x hb hN;obtain⟨hg,hL,hT,hA⟩:=B2f hb w1 w2 v1 v2;rw[hx,Bow,B81 N x.1 (by omega) (hb.sm (by omega)) hb.dev hN,Bow,hz,Bow];simp only[A6];unfold tsB;obtain⟨la,ok,hla,hlc⟩:=B8c N z hg hN6 w;have h00:((0:Int) != 0)=false:=rfl;have htl:(M6 (Gt z) w).length≤20:=by unfold M6;rw[O0];exact Bqf (Bq9 _ _) (Su hg)
   have hts:∀f∈M6 (Gt z) w,smE f:=by intro f hf;unfold M6 at hf;have:=(Bpv.1 ((Ape _).1 hf)).1;rw[hL]at this;exact Ej f (Bpv.1 this).1
   rw[Bg9 N x w hb hN6,← hL,Bow,hla,Bow,h00,Box,B2m N z hg hN6 w,Bow,B2p N _ (by omega) hts hN6,Bow,Br2,Box];have tail:tsT N x e T5 tab0 z=some true:=by
    unfold tsT;obtain⟨m,hm,hmc⟩:=B8d N z hg hN6;obtain⟨m',Uc,Bm3⟩:=Ayx N x hb hN6;rw[← hL]at Bm3;have hmm:m=m':=hmc.ext Bm3;subst hmm;have hml:=hmc.len;have hll:=Su hg;have hWt:Ih N z=some ((z,()),((Gt z).length:Int),((Ayh z).length:Int),(Af8 x.2:Int),()):=by unfold Ih;rw[Tc,B55 N z hg hN6,Bow,hA,Bd6 N x.2 (by omega) Ej hN6,Ayu N z hg hN6,Bow,Bd4 N z hg hN6,Bow]
    have hTx:L9 N T5 tab0 z=some ((z,()),V5 x.2,()):=by unfold L9;rw[Tc];simp only[Bn];rw[B55 N z hg hN6,Bow,hA,Bjb N x.2 (by omega) hb.evs hN']
    rw[hWt,Bow,hm,Bow,Uc,Bow,Agl N m (by omega) hN6,Bow,Bov,B54 N e hes hN',Bow,Am9 N e hes hN6,Bow,Bs4,Bov,
     hTx,Bow,B8e N x (by omega) hb.evs hN6,Bow,Bs4,Bov,Af3 N x (by omega) (by omega),Bow,← hL,Bs4,Bov,
     B2n N x (by omega) (by omega),Bow,← hT,Bs4,Bov,B2o N x (by omega) Ej hN6,Bow,Bs4,Bov,hW]
    rfl
   rcases hlc with ⟨h1,h2,h3⟩|⟨h1,h2,h3⟩
   ·have hk:(la.2.1 != 0)=false:=by rw[h3];rfl
    rw[h1,h2];simp only[Bs2,hk,tail,Brm,Bov,Box];rfl
   ·have hlp:=Bsp.2 h1;have hd:decide ((0:Int)<((M6 (Gt z) w).length:Int))=true:=by simp;omega
    have hw:i64.wrap (((M6 (Gt z) w).length:Int)-1)=(((M6 (Gt z) w).length-1:Nat):Int):=Ln hlp (by omega);have hls:smE la:=hts la (Bpu h3);rw[h2,hd];simp only[Br2,Bov,Box,hw,Aq,h3,Bow,Agm N la hls hN6,tail,Bs4]
def wf_u64(h:(Lit.int .u64 x).wf=true):0≤x∧x<18446744073709551616:=by
 have:0≤x∧x≤18446744073709551615:=by simpa[Lit.wf,IntKind.wrap,IntKind.bits,IntKind.signed,IntKind.min,IntKind.max]using h
 omega
def wf_u16(h:(Lit.int .u16 x).wf=true):0≤x∧x<65536:=by
 have:0≤x∧x≤65535:=by simpa[Lit.wf,IntKind.wrap,IntKind.bits,IntKind.signed,IntKind.min,IntKind.max]using h
 omega
def in_ev(h:tEvent.In e):InE e:=⟨(wf_u64 h.2.2.1).1,(wf_u64 h.2.2.1).2,(wf_u16 h.1.1).2⟩
def in_acts{l:A2 Am5}(h:(Ty.sl tepitaphlaw18Act).In l):∀a∈l,InE a.2.1∧Vr a.2.2:=fun a ha =>
 have h2:=h.2 a ha
 ⟨in_ev h2.2.1,fun p hp=>(wf_u16 (h2.2.2.2 p hp).1).1⟩
end Go.Proofs.Xg
