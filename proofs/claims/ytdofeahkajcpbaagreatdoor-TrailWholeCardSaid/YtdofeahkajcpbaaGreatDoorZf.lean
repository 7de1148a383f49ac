import Derived.Test.YtdofeahkajcpbaaGreatDoorZe
import Derived.Test.YtdofeahkajcpbaaGreatDoorZa
set_option linter.unusedVariables false
set_option linter.unusedSimpArgs false
set_option maxRecDepth 100000
open Go.IntKind (i64 u64 u16)
noncomputable section
namespace Go.Proofs.Xg
open Go Go.Xl Go.Ab Go.Proofs Go.Sort
abbrev EsN:Type:=Fa (.int .u16) (.int .u64)
def Alz(es:A2 (Nat×Int×Int)):Int:=(es.map (·.2.2)).sum
def owD(g:A2 (Int×Int)):A3 (A2 (Int×Int)×Nat):=match g with
 |[]=>none
 |a::r=>some (a::r,(a::r).length)
theorem Bi2:(Ty.int .u16).key=true:=rfl
theorem B2g(a v:Int)(c:Nat):∀es:EsN,Alz (Jx (kt:=.int .u16) (vt:=.int .u64) a v c es)=Alz es-(Nn (kt:=.int .u16) (vt:=.int .u64) a es).getD 0+v
 |[]=>by simp[Jx,Nn,Alz]
 |e::r=>by
  have ih:=B2g a v c r;simp only[Jx,Nn,Alz]at ih⊢;cases he:(Ty.int .u16).eqv a e.2.1 with
  |true=>simp only[Bkn,Bkv,Bow,Boe];omega
  |false=>simp only[Bko,Bkv,Bow];omega
theorem B9y(a:Int):∀es:EsN,(∀e∈es,(0:Int)≤e.2.2)→0≤(Nn (kt:=.int .u16) (vt:=.int .u64) a es).getD 0∧(Nn (kt:=.int .u16) (vt:=.int .u64) a es).getD 0≤Alz es
 |[],_=>by simp[Nn,Alz]
 |e::r,h=>by
  have ih:=B9y a r fun x hx=>h x (Bkx _ hx)
  have h0:=h e Bkz;have i2:(0:Int)≤(r.map (·.2.2)).sum:=Int.le_trans ih.1 ih.2;have i1:(Nn (kt:=.int .u16) (vt:=.int .u64) a r).getD 0≤(r.map (·.2.2)).sum:=ih.2;simp only[Nn,Alz];cases he:(Ty.int .u16).eqv a e.2.1 with
  |true =>simp only[Bkn,Bkv,Bow,Boe];exact⟨h0,Int.le_add_of_nonneg_right i2⟩
  |false =>simp only[Bko,Bkv,Bow];exact⟨ih.1,Int.le_trans i1 (Int.le_add_of_nonneg_left h0)⟩
theorem Akg(a v:Int)(c:Nat)(hv:0≤v):∀es:EsN,(∀e∈es,(0:Int)≤e.2.2)→∀e∈(Jx (kt:=.int .u16) (vt:=.int .u64) a v c es),(0:Int)≤e.2.2
 |[],_,e,he=>by simp[Jx]at he;subst he;exact hv
 |x::r,h,e,he=>by
  simp only[Jx]at he;cases hq:(Ty.int .u16).eqv a x.2.1 with
  |true =>
   rw[hq,Bkn]at he;rcases Bkq.1 he with rfl|he
   ·exact hv
   ·exact h e (Bkx _ he)
  |false =>
   rw[hq,Bko]at he;rcases Bkq.1 he with rfl|he
   ·exact h _ Bkz
   ·exact Akg a v c hv r (fun y hy=>h y (Bkx _ hy)) e he
theorem Awt{es:EsN}{Ih:Nat}(h:WfE es Ih):Tw Gy (es.map (·.2))=true:=by
 rw[Ux,Bo8];have h1:(es.map (·.2.1)).Pairwise (·≠·):=h.keys;rw[Bo8]at h1;refine h1.imp ?_;intro a b hab;cases h3:ltOf Gy a.2 b.2 with
 |true=>exact .inl rfl
 |false =>
  cases h4:ltOf Gy b.2 a.2 with
  |true=>exact .inr rfl
  |false=>exact absurd (Blc Prod.fst (A58 _ _ h3 h4)) hab
theorem B9z{l l':A2 Int}(h:l.Perm l'):l.sum=l'.sum:=by
 induction h with
 |nil=>rfl
 |cons x _ ih=>simp[ih]
 |swap x y l=>simp only[Bow];omega
 |trans _ _ i1 i2=>exact i1.trans i2
def mkD(es:A2 (Nat×Int×Int)):A2 (Int×Int):=A1c Gy (es.map (·.2))
theorem Bcj(es:A2 (Nat×Int×Int)):((mkD es).map (·.2)).sum=Alz es:=by unfold mkD Alz;have h:=(Ep Qt (es.map (·.2))).1;have h2:=B9z (h.map (·.2));rw[h2,Bnh];rfl
theorem B5l(N:Nat)(es:EsN)(Ih:Nat)(hw:WfE es Ih)(hl:es.length≤1000)(hN:1000000<N){R:Type}(g:A2 (Int×Int)→R) :
  iter (fun(rec:Unit×Unit×(A3 (A2 (Int×Int)×Nat)×Unit)×(Nat×A2 Nat×Nat)×Unit→A3 R) (B9:Unit×Unit×(A3 (A2 (Int×Int)×Nat)×Unit)×(Nat×A2 Nat×Nat)×Unit) =>
   A4 B9.snd.snd.fst.fst
    (bif Io B9.snd.snd.snd.fst.fst B9.snd.snd.snd.fst.snd.snd es then
     Ef (B4 B9.snd.snd.snd.fst.snd.fst es) (some (g [])) fun(e:Nat×Int×Int) =>
      bif Ih.beq Ih then
       A4 (Dg (B9.snd.snd.snd.fst.snd.fst++[e.fst])) none fun(p:A2 Nat×Nat) =>A4 (Cx (Ty.int u16) (Ty.int u64) p.snd es) none fun(Cr:Nat×Int×Int) =>rec ((),(),(some ([Cr.snd],[Cr.snd].length),()),(B9.snd.snd.snd.fst.fst,B9.snd.snd.snd.fst.snd.fst++[e.fst],Ih),())
      else none
    else none)
    fun(y:A2 (Int×Int)×Nat) =>
    bif Io B9.snd.snd.snd.fst.fst B9.snd.snd.snd.fst.snd.snd es then
     Ef (B4 B9.snd.snd.snd.fst.snd.fst es)
      (bif y.snd.ble y.fst.length then
       bif y.snd.ble 4611686018427387903 then
        bif Jd (List.take y.snd y.fst) then
         bif bif (0+y.snd).ble (Bi (List.take y.snd y.fst)++List.drop y.snd y.fst).length then true else false then
          some (g (List.take y.snd (List.drop 0 (Bi (List.take y.snd y.fst)++List.drop y.snd y.fst))))
         else none
        else none
       else none
      else none)
      fun(e:Nat×Int×Int) =>
      bif Ih.beq Ih then
       A4 (Dg (B9.snd.snd.snd.fst.snd.fst++[e.fst])) none fun(p:A2 Nat×Nat) =>
        A4 (Cx (Ty.int u16) (Ty.int u64) p.snd es) none fun(Cr:Nat×Int×Int) =>
         bif y.fst.length.beq y.snd then
          bif Aw (y.snd + [Cr.snd].length) 16 then
           rec ((),(),(some (y.fst++[Cr.snd],y.snd + [Cr.snd].length),()),(B9.snd.snd.snd.fst.fst,B9.snd.snd.snd.fst.snd.fst++[e.fst],Ih),())
          else none
         else none
      else none
    else none) N ((),(),(none,()),(Ih,[],Ih),())=some (g (mkD es)):=by
 refine As0 (es:=es) hw.born (fun d z=>z=((),(),(owD (d.map (·.2)),()),(Ih,d.map (·.1),Ih),())) _ ?_ N (by omega) rfl;rintro rec d z hd rfl ih;have hold:Io Ih Ih es=true:=Ag2 hw.lt hw.lt;have hdl:=hd.len;have step:∀e∈B4 (d.map (·.1)) es,Dg (d.map (·.1)++[e.1])=some (d.map (·.1),e.1)∧Cx (.int .u16) (.int .u64) e.1 es=some e:=by intro e he;have hm:=(Rr.1 he).1;exact⟨We _ _,Zq hw.born hm⟩
 have seen:∀e:Nat×Int×Int,d.map (·.1)++[e.1]=(d++[e]).map (·.1):=fun e=>by simp
 have hpl:(d.map (·.2)).length=d.length:=by simp
 cases hp:d.map (·.2) with
 |nil =>
  have hd0:d=[]:=by simpa using hp
  simp only[owD,A4,hold,Bkn,Bob];by_cases hn:B4 (d.map (·.1)) es=[]
  ·rw[hn,Pt];have Hp:=hd.all hw.born hn;rw[hd0]at Hp;have:es=[]:=Bqy.1 Hp;rw[this];simp only[mkD,Bll,Zr]
  ·refine Si hn fun e he=>?_
   obtain⟨s1,s2⟩:=step e he;simp only[s1,s2];refine ih e he _ ?_;rw[hd0];rfl
 |cons q0 qs =>
  have e1:(q0::qs).length≤1000:=by rw[← hp];omega
  simp only[owD,A4,hold,Bkn,Bob];have B00:Nat.ble (q0::qs).length (q0::qs).length=true:=Bm3 (Bl1 _);have Ak6:Nat.ble (q0::qs).length 4611686018427387903=true:=Bm3 (by omega);by_cases hn:B4 (d.map (·.1)) es=[]
  ·have Hp:(d.map (·.2)).Perm (es.map (·.2)):=(hd.all hw.born hn).map _;rw[hp]at Hp;have Ak7:Jd (q0::qs)=true:=A5g Hp (Awt hw);have hs:Bi (q0::qs)=mkD es:=by obtain⟨p,s⟩:=Ep Qt (q0::qs);exact Uy Qt (Awt hw) (p.trans Hp) s
   have hsl:(mkD es).length=(q0::qs).length:=by rw[← hs];exact(Ep Qt (q0::qs)).1.length_eq
   rw[hn,Pt,B00,Bkn,Ak6,Bkn,Bm4,Bof,Ak7,Bkn,hs,Blt];have Awf:Nat.ble (0+(q0::qs).length) (mkD es).length=true:=Bm3 (by omega);rw[Awf];simp only[Bkn,Bo6];rw[← hsl,Bm4]
  ·refine Si hn fun e he=>?_
   obtain⟨s1,s2⟩:=step e he;have A6y:Aw ((q0::qs).length + [e.2].length) 16=true:=fit (by simp only[Bn9];omega) (by simp only[Bn9];omega);simp only[s1,s2,A6y,Bkn];refine ih e he _ ?_;rw[Ble,hp,seen];simp[owD]
structure Bck(n:Nat)(m:List (Int×Int)):Prop where
 sum:(m.map (·.2)).sum=(n:Int)
 pos:∀d∈m,0≤d.2
 len:m.length≤n
theorem T3(N:Nat)(L:A2 Ev)(hL:L.length≤1000)(hN:1000000<N){R:Type}(g:A2 (Int×Int)→R) :
  ∃m,iter (fun(rec:(Int×Unit)×Unit×Unit×(A2 (Nat×Int×Int)×Nat)×Unit→A3 R) (z:(Int×Unit)×Unit×Unit×(A2 (Nat×Int×Int)×Nat)×Unit) =>
   bif decide (z.fst.fst<(L.length:Int)) then
    (at? L z.fst.fst).bind fun(e:Ev) =>
     rec ((i64.wrap (z.fst.fst+1),()),(),(),
      (A6l (Ty.int u16) (Ty.int u64) e.fst.fst (u64.wrap ((A6k (Ty.int u16) (Ty.int u64) e.fst.fst z.snd.snd.snd.fst.fst).getD 0+1)) z.snd.snd.snd.fst.snd z.snd.snd.snd.fst.fst,
       A2m (Ty.int u16) (Ty.int u64) e.fst.fst z.snd.snd.snd.fst.fst z.snd.snd.snd.fst.snd),())
   else
    iter (fun(rec:Unit×Unit×(A3 (A2 (Int×Int)×Nat)×Unit)×(Nat×A2 Nat×Nat)×Unit→A3 R) (B9:Unit×Unit×(A3 (A2 (Int×Int)×Nat)×Unit)×(Nat×A2 Nat×Nat)×Unit) =>
     A4 B9.snd.snd.fst.fst
      (bif Io B9.snd.snd.snd.fst.fst B9.snd.snd.snd.fst.snd.snd z.snd.snd.snd.fst.fst then
       Ef (B4 B9.snd.snd.snd.fst.snd.fst z.snd.snd.snd.fst.fst) (some (g [])) fun(e:Nat×Int×Int) =>
        bif z.snd.snd.snd.fst.snd.beq z.snd.snd.snd.fst.snd then
         A4 (Dg (B9.snd.snd.snd.fst.snd.fst++[e.fst])) none fun(p:A2 Nat×Nat) =>A4 (Cx (Ty.int u16) (Ty.int u64) p.snd z.snd.snd.snd.fst.fst) none fun(Cr:Nat×Int×Int) =>rec ((),(),(some ([Cr.snd],[Cr.snd].length),()),(B9.snd.snd.snd.fst.fst,B9.snd.snd.snd.fst.snd.fst++[e.fst],z.snd.snd.snd.fst.snd),())
        else none
      else none)
      fun(y:A2 (Int×Int)×Nat) =>
      bif Io B9.snd.snd.snd.fst.fst B9.snd.snd.snd.fst.snd.snd z.snd.snd.snd.fst.fst then
       Ef (B4 B9.snd.snd.snd.fst.snd.fst z.snd.snd.snd.fst.fst)
        (bif y.snd.ble y.fst.length then
         bif y.snd.ble 4611686018427387903 then
          bif Jd (List.take y.snd y.fst) then
           bif bif (0+y.snd).ble (Bi (List.take y.snd y.fst)++List.drop y.snd y.fst).length then true else false then
            some (g (List.take y.snd (List.drop 0 (Bi (List.take y.snd y.fst)++List.drop y.snd y.fst))))
           else none
          else none
         else none
        else none)
        fun(e:Nat×Int×Int) =>
        bif z.snd.snd.snd.fst.snd.beq z.snd.snd.snd.fst.snd then
         A4 (Dg (B9.snd.snd.snd.fst.snd.fst++[e.fst])) none fun(p:A2 Nat×Nat) =>
          A4 (Cx (Ty.int u16) (Ty.int u64) p.snd z.snd.snd.snd.fst.fst) none fun(Cr:Nat×Int×Int) =>
           bif y.fst.length.beq y.snd then
            bif Aw (y.snd + [Cr.snd].length) 16 then
             rec ((),(),(some (y.fst++[Cr.snd],y.snd + [Cr.snd].length),()),(B9.snd.snd.snd.fst.fst,B9.snd.snd.snd.fst.snd.fst++[e.fst],z.snd.snd.snd.fst.snd),())
            else none
           else none
        else none
      else none) N ((),(),(none,()),(z.snd.snd.snd.fst.snd,[],z.snd.snd.snd.fst.snd),()))
   N ((0,()),(),(),([],0),())=some (g m)∧Bck L.length m:=by
 suffices H:∃r,iter (fun(rec:(Int×Unit)×Unit×Unit×(A2 (Nat×Int×Int)×Nat)×Unit→A3 R) (z:(Int×Unit)×Unit×Unit×(A2 (Nat×Int×Int)×Nat)×Unit) =>
   bif decide (z.fst.fst<(L.length:Int)) then
    (at? L z.fst.fst).bind fun(e:Ev) =>
     rec ((i64.wrap (z.fst.fst+1),()),(),(),
      (A6l (Ty.int u16) (Ty.int u64) e.fst.fst (u64.wrap ((A6k (Ty.int u16) (Ty.int u64) e.fst.fst z.snd.snd.snd.fst.fst).getD 0+1)) z.snd.snd.snd.fst.snd z.snd.snd.snd.fst.fst,
       A2m (Ty.int u16) (Ty.int u64) e.fst.fst z.snd.snd.snd.fst.fst z.snd.snd.snd.fst.snd),())
   else
    iter (fun(rec:Unit×Unit×(A3 (A2 (Int×Int)×Nat)×Unit)×(Nat×A2 Nat×Nat)×Unit→A3 R) (B9:Unit×Unit×(A3 (A2 (Int×Int)×Nat)×Unit)×(Nat×A2 Nat×Nat)×Unit) =>
     A4 B9.snd.snd.fst.fst
      (bif Io B9.snd.snd.snd.fst.fst B9.snd.snd.snd.fst.snd.snd z.snd.snd.snd.fst.fst then
       Ef (B4 B9.snd.snd.snd.fst.snd.fst z.snd.snd.snd.fst.fst) (some (g [])) fun(e:Nat×Int×Int) =>
        bif z.snd.snd.snd.fst.snd.beq z.snd.snd.snd.fst.snd then
         A4 (Dg (B9.snd.snd.snd.fst.snd.fst++[e.fst])) none fun(p:A2 Nat×Nat) =>A4 (Cx (Ty.int u16) (Ty.int u64) p.snd z.snd.snd.snd.fst.fst) none fun(Cr:Nat×Int×Int) =>rec ((),(),(some ([Cr.snd],[Cr.snd].length),()),(B9.snd.snd.snd.fst.fst,B9.snd.snd.snd.fst.snd.fst++[e.fst],z.snd.snd.snd.fst.snd),())
        else none
      else none)
      fun(y:A2 (Int×Int)×Nat) =>
      bif Io B9.snd.snd.snd.fst.fst B9.snd.snd.snd.fst.snd.snd z.snd.snd.snd.fst.fst then
       Ef (B4 B9.snd.snd.snd.fst.snd.fst z.snd.snd.snd.fst.fst)
        (bif y.snd.ble y.fst.length then
         bif y.snd.ble 4611686018427387903 then
          bif Jd (List.take y.snd y.fst) then
           bif bif (0+y.snd).ble (Bi (List.take y.snd y.fst)++List.drop y.snd y.fst).length then true else false then
            some (g (List.take y.snd (List.drop 0 (Bi (List.take y.snd y.fst)++List.drop y.snd y.fst))))
           else none
          else none
         else none
        else none)
        fun(e:Nat×Int×Int) =>
        bif z.snd.snd.snd.fst.snd.beq z.snd.snd.snd.fst.snd then
         A4 (Dg (B9.snd.snd.snd.fst.snd.fst++[e.fst])) none fun(p:A2 Nat×Nat) =>
          A4 (Cx (Ty.int u16) (Ty.int u64) p.snd z.snd.snd.snd.fst.fst) none fun(Cr:Nat×Int×Int) =>
           bif y.fst.length.beq y.snd then
            bif Aw (y.snd + [Cr.snd].length) 16 then
             rec ((),(),(some (y.fst++[Cr.snd],y.snd + [Cr.snd].length),()),(B9.snd.snd.snd.fst.fst,B9.snd.snd.snd.fst.snd.fst++[e.fst],z.snd.snd.snd.fst.snd),())
            else none
           else none
        else none
      else none) N ((),(),(none,()),(z.snd.snd.snd.fst.snd,[],z.snd.snd.snd.fst.snd),()))
   N ((0,()),(),(),([],0),())=some r∧∃m,r=g m∧Bck L.length m by
  obtain⟨r,h1,m,rfl,h2⟩:=H;exact⟨m,h1,h2⟩
 refine G2 (Q:=fun r=>∃m,r=g m∧Bck L.length m)
  (fun q z=>∃(k:Nat) (es:EsN) (Ih:Nat),z=(((k:Int),()),(),(),(es,Ih),())∧k≤L.length∧q=L.length-k∧WfE es Ih∧(∀e∈es,(0:Int)≤e.2.2)∧Alz es=(k:Int)∧es.length≤k) ?_ N L.length _ ⟨0,[],0,rfl,by omega,by omega,.nil 0,by simp,rfl,by simp⟩ (by omega)
 rintro q z rec ⟨k,es,Ih,rfl,hk,rfl,hw,hp,Bfi,hlen⟩ ih;by_cases Im:k<L.length
 ·have hg:=B9y L[k].1.1 es hp;rw[Bfi]at hg;obtain⟨q,hq,g1,g2⟩:∃q:Int,(Nn (kt:=.int .u16) (vt:=.int .u64) L[k].1.1 es).getD 0=q∧0≤q∧q≤(k:Int):=⟨_,rfl,hg.1,hg.2⟩;have hwr:u64.wrap (q+1)=q+1:=Uz (by omega) (by omega);simp only[dec_lt,Bl6 Im,Bkn,B8,Ci Im,Bkp,Ah (show k+1<9223372036854775808 by omega),A6l,A6k,A2m,hq,hwr];refine ih (L.length-(k+1)) _ (by omega) ⟨k+1,_,_,rfl,by omega,rfl,hw.put Bi2 _ _,Akg _ _ _ (show 0≤q+1 by omega) es hp,?_,?_⟩
  ·rw[B2g,Bfi,hq];have:((k+1:Nat):Int)=(k:Int)+1:=by omega
   rw[this];show(k:Int)-q+(q+1)=k+1;omega
  ·have:=A37 (kt:=.int .u16) (vt:=.int .u64) L[k].1.1 (q+1) Ih es;omega
 ·have hkk:k=L.length:=by omega
  simp only[dec_lt,Bl4 Im,Bko];refine⟨_,B5l N es Ih hw (by omega) hN g,mkD es,rfl,?_⟩;have Hp:=(Ep Qt (es.map (·.2))).1;refine⟨by rw[Bcj,Bfi,hkk],?_,?_⟩
  ·intro d hd;have:=Hp.mem_iff.1 hd;obtain⟨e,he,rfl⟩:=Bl2.1 this;exact hp e he
  ·unfold mkD;rw[Hp.length_eq,Blb];omega
theorem B5m(N:Nat)(x:BkC)(h:Abn x)(hN:1000000<N):∃m:A2 (Int×Int),R3 N x=some ((x,()),m,())∧Bck (A1d x).length m:=by
 have hlen:=Adv h;obtain⟨c,lv,tb,u⟩:=x;have hl:=h.live;unfold R3 Mu Ms Mq Mo;cases lv with
 |none =>
  have e0:A1d (c,none,tb,u)=[]:=Abm;rw[e0];cases tb with
  |none =>obtain⟨m,h1,h2⟩:=T3 N [] (by simp) hN (fun m=>((((c,none,none,()):BkC),()),m,()));exact⟨m,by simp only[A4,A5h N hN,Bkp];exact h1,h2⟩
  |some b =>obtain⟨m,h1,h2⟩:=T3 N [] (by simp) hN (fun m=>((((c,none,some b,()):BkC),()),m,()));exact⟨m,by simp only[A4,A5h N hN,Bkp];exact h1,h2⟩
 |some a =>
  have e0:A1d (c,some a,tb,u)=Un a.1:=rfl;rw[e0]at hlen⊢;cases tb with
  |none =>obtain⟨m,h1,h2⟩:=T3 N (Un a.1) (by omega) hN (fun m=>((((c,some a,none,()):BkC),()),m,()));exact⟨m,by simp only[A4,(hl.list N hN).1,Bkp];exact h1,h2⟩
  |some b =>obtain⟨m,h1,h2⟩:=T3 N (Un a.1) (by omega) hN (fun m=>((((c,some a,some b,()):BkC),()),m,()));exact⟨m,by simp only[A4,(hl.list N hN).1,Bkp];exact h1,h2⟩
theorem Ao8(N:Nat):Ic N=some (([],()),(),(),()):=rfl
theorem Af6(N:Nat)(hN:1000000<N):Hv N=some ((),[],()):=by unfold Hv;obtain⟨m,h1,h2⟩:=T3 N [] (by simp) hN (fun m=>((),m,()));have:m=[]:=Bok (by have:=h2.len;simpa using this);subst this;rw[Ao8,Bkp];exact h1
theorem Asv(N:Nat)(w:Int)(hN:1000000<N):Ky N w=some ((),[],()):=by unfold Ky Qy Nv;simp only[Bkp,A4,A5i N w hN,Aws N (by omega)]
theorem Af7(N:Nat)(w:Int)(hN:1000000<N):K3 N w=some ((),((0,0),0,0,0,[],[]),false,()):=by unfold K3;rw[Asv N w hN];rfl
theorem Af8(N:Nat)(hN:1000000<N):K4 N=some ((),0,0,0,()):=by unfold K4;obtain⟨M,rfl⟩:∃M,N=M+1:=⟨N-1,by omega⟩;rfl
theorem Ao9(N:Nat)(hN:1000000<N)(a:A2 (A2 UInt8))(b:A2 Int):N3 N a b=some ((),[],()):=by unfold N3;obtain⟨M,rfl⟩:∃M,N=M+1:=⟨N-1,by omega⟩;rfl
theorem Awu(N:Nat)(a b:A2 (Int×Int))(ha:a.length≤5000)(hN:1000000<N):∃r,Ju N a b=some r∧(a=b→r=true):=by
 unfold Ju;by_cases hl:a.length=b.length
 ·have:((a.length:Int) != (b.length:Int))=false:=by simp[hl]
  rw[this,Bko];refine G2 (Q:=fun r=>a=b→r=true) (fun m z=>∃k:Nat,z=(((k:Int),()),(),(),())∧k≤a.length∧m=a.length-k) ?_ N a.length _ ⟨0,rfl,by omega,by omega⟩ (by omega);rintro m z rec ⟨k,rfl,hk,rfl⟩ ih;by_cases Im:k<a.length
  ·have hkb:k<b.length:=by omega
   simp only[dec_lt,Bl6 Im,Bkn,B8,Ci Im,Ci hkb,Bkp,Ah (show k+1<9223372036854775808 by omega)];cases hs:(a[k].fst==b[k].fst&&a[k].snd==b[k].snd) with
   |true =>simp only[Bn7,Bko];exact ih (a.length-(k+1)) _ (by omega) ⟨k+1,rfl,by omega,rfl⟩
   |false =>simp only[Bno,Bkn];refine⟨_,rfl,fun hab=>?_⟩;subst hab;simp at hs
  ·simp only[dec_lt,Bl4 Im,Bko];exact⟨_,rfl,fun _=>rfl⟩
 ·have:((a.length:Int) != (b.length:Int))=true:=by simp;omega
  rw[this,Bkn];exact⟨_,rfl,fun h=>absurd (Blc List.length h) hl⟩
theorem Awv(N:Nat)(x y:Ev)(hx:smE x)(hN:1000000<N):∃r,Hg N x y=some r∧(x=y→r=true):=by
 unfold Hg;obtain⟨r,h1,h2⟩:=Awu N x.2.2.2.2.2 y.2.2.2.2.2 hx hN;rw[h1];simp only[Bkp];by_cases hxy:x=y
 ·subst hxy;refine⟨r,by simp,fun _=>h2 rfl⟩
 ·generalize (x.fst.fst==y.fst.fst&&x.fst.snd==y.fst.snd)=b1;generalize (x.snd.fst==y.snd.fst)=b2;generalize (x.snd.snd.fst==y.snd.snd.fst)=b3;generalize (x.snd.snd.snd.fst==y.snd.snd.snd.fst)=b4;generalize (x.snd.snd.snd.snd.fst==y.snd.snd.snd.snd.fst)=b5;cases b1<;>cases b2<;>cases b3<;>cases b4<;>cases b5<;>exact⟨_,rfl,fun h=>absurd h hxy⟩
theorem Aww(N:Nat)(c:A2 Part)(h1:c.length≤400000)(h2:Pc.T6 c≤400000)(hN:1000000000000<N):∃r,Jt N c=some r∧Sm r:=by
 unfold Jt;rw[Awj N c [] (by simp;omega) ⟨by omega,by omega⟩ .nil hN,Bkp];have l1:=A14 c [];have l2:=A15 c [];refine⟨_,rfl,?_⟩;unfold Yi at l1 l2;have e0:Pc.T6 ([]:A2 Part)=0:=by simp[Pc.T6]
 exact⟨by simp at l1⊢;omega,by rw[e0]at l2;omega⟩
theorem Ba0{x:BkC}(h:Abn x):∀e∈A1d x,smE e:=by intro e he;have:=(Ep Nh ((Oq x.2.1).map (·.2.2))).1.mem_iff.1 he;obtain⟨y,hy,rfl⟩:=Bl2.1 this;exact h.live.sm y hy
theorem B0e{L:A2 Ev}{w:Int}{k:Nat}(h:k<(Ny L w).length):(Ny L w)[k].2.2.1=w:=by have hm:(Ny L w)[k]∈Ny L w:=Bmc h;unfold Ny at hm;have:=(Blu.1 ((Anr (lt:=Yj) _).1 hm)).2;simp only[Bp8]at this;exact this
theorem Akh{L:A2 Ev}{w:Int}{e:Ev}:e∈Ny L w↔e∈L∧e.2.2.1=w:=by unfold Ny;rw[Anr,Blu];simp
theorem B0f{L:A2 Ev}{w:Int}{k:Nat}(h0:0<k)(h:k<(Ny L w).length):decide ((Ny L w)[k].1.2<(Ny L w)[k-1].1.2)=false:=by have ha:=Anq Bfe (L.filter fun e=>e.2.2.1==w);have:=Bmg.1 ha (k-1) k (by unfold Ny at h;omega) h (by omega);rw[Asu]at this;exact this
theorem B0g(L:A2 Ev)(w:Int):(Ny L w).length≤L.length:=by unfold Ny;rw[Ud];exact Bmf _ _
theorem A8x:∀l:A2 (Int×Int),(∀d∈l,0≤d.2)→0≤(l.map (·.2)).sum
 |[],_=>by simp
 |a::r,h=>by
  have h1:=h a Bkz;have h2:=A8x r fun d hd=>h d (Bkx _ hd)
  simp only[Bkv,Bow];omega
theorem Aoa{x:Int}(h:0≤x)(h':x≤1000):i64.wrap x=x:=by rw[Bre];omega
theorem trailWhole_true(N:Nat)(hN':N=2000000000000)(l:A2 Awq):G5 N l tabNames tabPow=some true:=by
 have hN:1000000000000<N:=by omega
 have hW:Dq N tabNames tabPow=some true:=by rw[hN'];exact Bc5
 unfold G5;rcases B06 N l hN with h|⟨h,hl,he⟩
 ·rw[h,Bkp];have:((0:Int)==0)=true:=rfl;rw[this,Bkn,hW];rfl
 ·rw[h,Bkp];have:((1:Int)==0)=false:=rfl;rw[this,Bko];obtain⟨x,hx,hb⟩:=B5g N l hl he hN;have hcl:=hb.cl;have hct:=hb.ct;obtain⟨c,hc,Q2⟩:=Aww N x.1 (by omega) (by omega) hN;obtain⟨⟨u,o,n,u2⟩,hr,hq⟩:=B5i N c x.2 Q2 hb.len (fun e h=>B04 (hb.evs e h)) hN;rw[hx,Bkp,hc,Bkp,hr,Bkp];have hNs:1000000<N:=by omega
  cases o with
  |none =>
   simp only[A4,Ao8,Bkp];obtain⟨M,hM⟩:∃M,N=M+1:=⟨N-1,by omega⟩;have it0:∀ {σ R:Type} (f:(σ→A3 R)→σ→A3 R) (z:σ),iter f N z=f (iter f M) z:=by intro σ R f z;rw[hM];rfl
   rw[it0];simp only[Bns,Af6 N hNs,Af7 N 5 hNs,Af8 N hNs,Asv N 5 hNs,Ao9 N hNs,Bkp];rw[show decide ((0:Int)<((0:Nat):Int))=false from rfl,Bko,it0];rw[show decide ((0:Int)<((0:Nat):Int))=false from rfl,Bko,hW];rfl
  |some b =>
   have hg:Abn b:=by
    rcases hq with hq|⟨y,h1,h2⟩
    ·cases hq
    ·cases h1;exact h2
   have hlen:=Adv hg;have Ek:=Ba0 hg;simp only[A4,Bcd N b hg hNs,Bkp];generalize hL:A1d b=L at *;refine iter_eq (G:=fun _=>some true) (fun m z=>∃k:Nat,z=(((k:Int),()),(),(),b,())∧k≤L.length∧m=L.length-k) ?_ N L.length _ ⟨0,rfl,by omega,by omega⟩ (by omega);rintro m z rec ⟨k,rfl,hk,rfl⟩ ih;by_cases Im:k<L.length
   ·have hof:=B0d N L[k].2.2.1 b hg hNs;rw[hL]at hof;have hT:=B0g L L[k].2.2.1;simp only[dec_lt,Bl6 Im,Bkn,B8,Ci Im,Bkp,hof,Ah (show k+1<9223372036854775808 by omega)];have next:=ih (L.length-(k+1)) ((((k+1:Nat):Int),()),(),(),b,()) (by omega) ⟨k+1,rfl,by omega,rfl⟩
    generalize hTT:Ny L L[k].2.2.1=T at *;refine iter_eq (G:=fun _=>some true) (fun m z=>∃(has:Bool) (j:Nat),z=((has,(j:Int),()),(),(),b,())∧j≤T.length∧m=T.length-j∧(has=false→∀(i:Nat) (hi:i<T.length),i<j→T[i]≠L[k])) ?_ N T.length _ ⟨false,0,rfl,by omega,by omega,fun _ _ _ hi=>absurd hi (Brj _)⟩ (by omega);rintro m z Bcc ⟨has,j,rfl,hj,rfl,B5b⟩ ih1;by_cases hjl:j<T.length
    ·have Bjl:(T[j].2.2.1 != L[k].2.2.1)=false:=by subst hTT;rw[B0e hjl];simp
     have Bjm:smE T[j]:=by subst hTT;exact Ek _ (Akh.1 (Bmc hjl)).1
     have asc:∀h0:0<j,decide (T[j].1.2<T[j-1].1.2)=false:=by intro h0;subst hTT;exact B0f h0 hjl
     have go:∀Bcl:Bool,(Bcl=false→∀(i:Nat) (hi:i<T.length),i<j+1→T[i]≠L[k])→Bcc ((Bcl,((j+1:Nat):Int),()),(),(),b,())=some true :=
      fun Bcl hh=>ih1 (T.length-(j+1)) _ (by omega) ⟨Bcl,j+1,rfl,by omega,rfl,hh⟩
     simp only[dec_lt,Bl6 hjl,Bkn,B8,Ci hjl,Bkp,Bjl,Bko,Ah (show j+1<9223372036854775808 by omega)];have h0d:decide ((0:Int)<(j:Int))=decide (0<j):=by simp
     cases has with
     |true =>
      simp only[Bkn];by_cases h0:0<j
      ·have hj1:j-1<T.length:=by omega
       rw[h0d,Bl6 h0,Bkn,Oi h0 (by omega),B8,Ci hj1,Bkp];simp only[asc h0,Bko];exact go true (by intro h;cases h)
      ·rw[h0d,Bl4 h0,Bko];exact go true (by intro h;cases h)
     |false =>
      obtain⟨r,h1,h2⟩:=Awv N T[j] L[k] Bjm hNs;simp only[Bko,h1,Bkp];have hh:r=false→∀(i:Nat) (hi:i<T.length),i<j+1→T[i]≠L[k]:=by
       intro hr i hi hij he;by_cases Bjn:i<j
       ·exact B5b rfl i hi Bjn he
       ·have:i=j:=by omega
        subst this;rw[h2 he]at hr;cases hr
      by_cases h0:0<j
      ·have hj1:j-1<T.length:=by omega
       rw[h0d,Bl6 h0,Bkn,Oi h0 (by omega),B8,Ci hj1,Bkp];simp only[asc h0,Bko];exact go r hh
      ·rw[h0d,Bl4 h0,Bko];exact go r hh
    ·have hjj:j=T.length:=by omega
     have A5m:L[k]∈T:=by subst hTT;exact Akh.2 ⟨Bmc Im,rfl⟩
     have ht:has=true:=by
      cases has with
      |true=>rfl
      |false =>obtain⟨i,hi,he⟩:=List.getElem_of_mem A5m;exact absurd he (B5b rfl i hi (by omega))
     subst ht;simp only[dec_lt,Bl4 hjl,Bko,Bn7];exact next
   ·have hkk:k=L.length:=by omega
    obtain⟨m,hm,hmk⟩:=B5m N b hg hNs;rw[hL]at hmk;simp only[dec_lt,Bl4 Im,Bko,hm,Bkp,Af7 N 5 hNs,Af8 N hNs,Asv N 5 hNs,Af6 N hNs,Ao9 N hNs];have hml:=hmk.len;have Bi3:∀i,i≤m.length→0≤((m.take i).map (·.2)).sum∧((m.take i).map (·.2)).sum≤(L.length:Int):=by
     intro i _;have e:(m.map (fun d:Int×Int=>d.2)).sum=((m.take i).map (·.2)).sum+((m.drop i).map (·.2)).sum:=by rw[← List.sum_append,← Ble,Bmt]
     have h1:=A8x (m.take i) fun d hd=>hmk.pos d (Bqi hd)
     have h2:=A8x (m.drop i) fun d hd=>hmk.pos d (List.mem_of_mem_drop hd)
     have h3:=hmk.sum;omega
    refine iter_eq (G:=fun _=>some true) (fun q z=>∃i:Nat,z=((((m.take i).map (·.2)).sum,(i:Int),()),(),(),b,())∧i≤m.length∧q=m.length-i) ?_ N m.length _ ⟨0,rfl,by omega,by omega⟩ (by omega);rintro q z rec ⟨i,rfl,hi,rfl⟩ ih;by_cases him:i<m.length
    ·have e:((m.take (i+1)).map (·.2)).sum=((m.take i).map (·.2)).sum+m[i].2:=by rw[Zs him,Ble,List.sum_append];simp
     have s1:=Bi3 i (by omega);have s2:=Bi3 (i+1) (by omega);have p:=hmk.pos m[i] (Bmc him);have w1:i64.wrap m[i].2=m[i].2:=Aoa p (by omega);have w2:i64.wrap (((m.take i).map (·.2)).sum+m[i].2)=((m.take (i+1)).map (·.2)).sum:=by rw[e];exact Aoa (by omega) (by omega)
     simp only[dec_lt,Bl6 him,Bkn,B8,Ci him,Bkp,Ah (show i+1<9223372036854775808 by omega),w1,w2];exact ih (m.length-(i+1)) _ (by omega) ⟨i+1,rfl,by omega,rfl⟩
    ·have:i=m.length:=by omega
     subst this;simp only[dec_lt,Bl4 him,Bko,Bm4,hmk.sum,hW,Bkp];simp;rfl
end Go.Proofs.Xg
