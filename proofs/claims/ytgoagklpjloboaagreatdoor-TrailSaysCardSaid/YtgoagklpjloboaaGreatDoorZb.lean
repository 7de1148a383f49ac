import Derived.Test.YtgoagklpjloboaaGreatDoorZa
import Derived.Laws.CopyRow
import Derived.Below
import Derived.ProofKit
import Derived.Sort.Grow
import Derived.Shelf.GgSortFunc.InsertionK
import Derived.Shelf.SlSortCmp.NoneTotal
import Derived.Lib.Builder
import Derived.LaidEqlPtr
import Derived.MapKept
import Derived.WideKeyRuns
set_option linter.all false
open Go.IntKind (i64 u64 u16)
noncomputable section
namespace Go.Ab
def A2g(l:A2 UInt8):A2 (A2 D):=l.map fun c=>[.sc (.int .u8 ((c.toNat:Nat):Int))]
variable{P:Program}{l:A2 UInt8}{fs:A2 (A2 D)}{sz i len cap n k L:Nat}
def A85(l:A2 UInt8)(w:World):(Builtin.firstCells 1 l.length (.string ⟨l.toArray⟩)).run P w = .ok (l.map fun c=>Value.int .u8 ((c.toNat:Nat):Int)).toArray w:=by
 have h:((⟨l.toArray⟩:ByteArray).extract 0 l.length).data=l.toArray:=by rw[Bw1];simp
 simp[Builtin.firstCells]
variable{g:Gh}{w w':World}{Boo:A2 Value}{z v:Value}
def Bdk{vx:Value}(hs1:sz=1)(hfs:fs=A2g l)(h:RD g.γ w (.bs l) vx) :
  vx = .string ⟨l.toArray⟩∧(∀(i:Nat) cs,fs[i]? = some cs→cs.length=sz)∧∃Boo:A2 Value,Boo.length=fs.length*sz ∧
   (∀w':World,(∀b k,k<g.γ b→w'.cell? ⟨b,k,none⟩=w.cell? ⟨b,k,none⟩)→(Builtin.firstCells sz fs.length (.string ⟨l.toArray⟩)).run P w' = .ok Boo.toArray w') ∧
   ∀(p q:Nat) cs c v,fs[p]? = some cs→cs[q]? = some c→Boo[p*sz+q]? = some v→RD g.γ w c v:=by
 subst hs1;subst hfs;have hlen:(A2g l).length=l.length:=by rw[A2g,Bpl]
 refine⟨by cases h;rfl,?_,l.map fun c=>Value.int .u8 ((c.toNat:Nat):Int),by rw[Bpl,hlen,Buj],?_,?_⟩
 ·intro i cs Rq;rw[A2g,Bp1,Bp8]at Rq;obtain⟨c,_,rfl⟩:=Rq;rfl
 ·intro w' _;rw[hlen];exact A85 l w'
 ·intro p q cs c v hp hq hv;rw[A2g,Bp1,Bp8]at hp;obtain⟨d,hd,rfl⟩:=hp;cases q with
  |succ q=>simp at hq
  |zero =>simp at hq;subst hq;rw[Buj,Bs7,Bp1,hd]at hv;simp at hv;subst hv;exact .sc _
variable{ts:Array TypeId}{t e u:TypeId}
def Np{ty:TypeId}{i:TypeInfo}(h0:ts[0]? = some t)(h1:ts[1]? = some u)(hu:P.underlying u=some .string)
  (ht:P.underlying t=some (.slice e)) (hi:P.info? e=some i)
  {base:A3 Addr}    (hl:n=l.length) (hx:(Builtin.firstCells i.size n (.string ⟨l.toArray⟩)).run P w = .ok Boo.toArray w) (Fz:len+n≤cap)
  (hst:(base=none∧w'=w)∨∃a,base=some a∧(storeCells (a.add (len*i.size)) Boo).run P w = .ok () w') :
  (Builtin.append_ ts ty #[.slice base len cap,.string ⟨l.toArray⟩]).run P w = .ok (.slice base (len+n) cap) w':=by
 have hz:(⟨l.toArray⟩:ByteArray).size=n:=by rw[hl];show l.toArray.size=_;simp
 rcases hst with ⟨rfl,rfl⟩|⟨a,rfl,hst⟩
 ·simp[Builtin.append_,h0,h1,Bpb ht,Bpb hu,sizeOf,typeInfo,hi,Builtin.lenOf,hz,Fz,hx]
 ·simp[Builtin.append_,h0,h1,Bpb ht,Bpb hu,sizeOf,typeInfo,hi,Builtin.lenOf,hz,Fz,hx,hst]
def Aam{ty:TypeId}{i:TypeInfo}(h0:ts[0]? = some t)(h1:ts[1]? = some u)(hu:P.underlying u=some .string)
  (ht:P.underlying t=some (.slice e)) (hi:P.info? e=some i) (hz:i.zero=some z)
  {base:A3 Addr}   {olds:A2 Value} (hl:n=l.length) (hx:(Builtin.firstCells i.size n (.string ⟨l.toArray⟩)).run P w.drew = .ok Boo.toArray w.drew)
  (ho:(Builtin.firstCells i.size len (.slice base len cap)).run P w.drew = .ok olds.toArray w.drew) (Fz:¬len+n≤cap)
  (h63:((len+n:Nat):Int)≤9223372036854775807) (h48:(len+n)*i.bytes≤140737488355328) :
  (Builtin.append_ ts ty #[.slice base len cap,.string ⟨l.toArray⟩]).run P w =
   .ok (.slice (some ⟨w.heap.size,0,none⟩) (len+n) (grownCap w (len+n) cap e))
    (w.drew.alloc (.cells (olds.toArray++Boo.toArray++Builtin.zeroCells z.cells (grownCap w (len+n) cap e-(len+n))) e)):=by
 have hzz:(⟨l.toArray⟩:ByteArray).size=n:=by rw[hl];show l.toArray.size=_;simp
 have Bh7:¬(9223372036854775807<((len:Int)+(n:Int))):=by omega
 have Ad3:=growslice_fits (need:=len+n) (old:=cap) (by omega) h48;have Bh8:¬(281474976710656<Builtin.nextslicecap (len+n) cap*i.bytes):=by omega
 simp[Builtin.append_,h0,h1,Bpb ht,Bpb hu,sizeOf,typeInfo,zeroValue,hi,hz,Builtin.lenOf,hzz,Fz,Bh7,Bh8,Question.forced,hx,ho,Go.newRow,grownCap];congr 2;apply Array.ext';simp[Bru]
section
variable{P:Program}{o:Oper}{X:A5}
def Ams{ty:A3 TypeId}{s x:Operand}{es:A2 (A2 D)}{i:TypeInfo}(m:Nat)
  (ho:o.op = .call { callee:=.builtin .append,args:=#[s,x],argTypes:=ts }) (h0:ts[0]? = some t) (h1:ts[1]? = some u) (hu:P.underlying u=some .string)
  (ht:P.underlying t=some (.slice e)) (hi:P.info? e=some i) (hz:i.zero=some z) (hzs:z.cells.size=sz) (Hc:i.size=sz) (hs1:i.size=1) (hfs:fs=A2g l) (hn:n∈X.live) (hm:m∉X.live.filter (· != n)) (hX:B1 [m] X=true)
  (Iw:∀cs∈fs,∀c∈cs,A0z c=true) (Zu:(es.length+fs.length)*i.bytes≤140737488355328) (hlen:es.length+fs.length≤4611686018427387904)
  (hty:∀e',ty=some e'→e'=e) :
  Bi P o [(s,.Be n sz es ty),(x,.d (.bs l))] X ⟨X.objs,m::X.live.filter (· != n)⟩ [m] (.Be m sz (es++fs) ty):=by
 subst Hc;intro nm Ej B g w a hr Au next Q Ek
 have e1:=Is Au;have e2:=Y4 Au;simp only at e1 e2;unfold Oper.wp;have Cg:∀r,(Builtin.append_ ts o.type #[a.eval s,a.eval x]).run P w=r→(execOp a.eval o).run P w=r.andThen fun v w'=>.ok (.value v) w':=by intro r hr';simp only[execOp,ho,resolve];simp[invoke,builtin,hr']
 generalize a.eval s=vs at e1 Cg;generalize a.eval x=vx at e2 Cg;cases e1 with
 |Be _ _ _ _ _ e1 Aa3 =>
 cases e2 with
 |d _ _ e2 =>
 obtain⟨base,cap,rfl,U9,hbn,Bh9,olds,hol,Aut,hoc⟩:=e1.A0y (P:=P) hr.Ip;obtain⟨rfl,A7y,Boo,hnl,A3d,hnc⟩:=Bdk (P:=P) (g:=g) hs1 hfs e2;have hfl:fs.length=l.length:=by rw[hfs,A2g,Bpl]
 have Zv:=Ry Bh9 A7y;have Ga:∃ob,g.β n=some ob:=Bps.1 ((hr.live n).1 hn);obtain⟨ob,Ga⟩:=Ga;obtain⟨hr1,ht1⟩:=hr.Ah5 n;have Ahs:∀v∈Boo,v.oneCell'=true:=by
  intro v hv;obtain⟨k,hk⟩:=Br9.1 hv;have Bhb:k<fs.length*i.size:=by have:=(Bp2.1 hk).1;omega
  obtain⟨p,q,cs,c,rfl,hp,hq⟩:=A34 A7y Bhb;exact Aa7 (hnc p q cs c v hp hq hk) (Iw cs (Bpu hp) c (Bpu hq))
 by_cases Fz:es.length+fs.length≤cap
 ·
  have same:fs=[]→(Builtin.append_ ts o.type #[.slice base es.length cap,.string ⟨l.toArray⟩]).run P w = .ok (.slice base es.length cap) w →
    base=none →
    Oper.upon P o a next Q ((execOp a.eval o).run P w):=by
   intro hf hrn B8q;obtain⟨hr2,Wb⟩:=hr1.Ps (m:=m) hm none hX (by simp);rw[Cg _ hrn];subst hf;simp only[Bq0]at *;refine Ek _ w _ hr2 (ht1.trans Wb) (.Be m i.size es ty _ (e1.mono (ht1.trans Wb).le) ?_);subst B8q;trivial
  cases hb:base with
  |none =>
   have h0':cap=0:=hbn hb;have hf:fs=[]:=by cases fs with
    |nil=>rfl
    |cons _ _=>simp at Fz;omega
   have hrn:=Np (hl:=hfl) (P:=P) (w:=w) (w':=w) (ty:=o.type) h0 h1 hu ht hi (base:=base) (A3d w fun _ _ _=>rfl) Fz (.inl ⟨hb,rfl⟩);subst hb;refine same hf ?_ rfl;rw[hrn];subst hf;rfl
  |some b0 =>
   subst hb;obtain⟨b,off,sp⟩:=b0;obtain⟨hsp,htp⟩:=Aa3 ob Ga;simp only at hsp;subst hsp;by_cases hfe:fs=[]
   ·subst hfe;have hn0:Boo=[]:=by simpa using hnl
    subst hn0;have hrn:=Np (hl:=hfl) (P:=P) (w:=w) (w':=w) (ty:=o.type) h0 h1 hu ht hi (base:=some ⟨b,off,none⟩) (A3d w fun _ _ _=>rfl) Fz (.inr ⟨_,rfl,rfl⟩);obtain⟨No,hγ,Wc,Aht⟩:=htp
    ·
     subst No;obtain⟨hr2,Wb⟩:=hr1.Ps (m:=m) hm (some b) hX (by
      intro b' Fp;cases Fp;refine⟨hr.C7 n b Ga,hr.C3 n b Ga,fun k p hk=>hr.Ba n b k p Ga hk,fun n' Ke=>?_,hr.eta.A7i Ga⟩;by_cases he:n'=n
      ·subst he;simp[Ac]at Ke
      ·simp only[Ae _ _ he]at Ke;exact he (hr.Bw n' n b Ke Ga))
     rw[Cg _ hrn];simp only[Bq0]at Ek;refine Ek _ w _ hr2 (ht1.trans Wb) (.Be m i.size es ty _ (e1.mono (ht1.trans Wb).le) ?_)
     ·intro ob' No;simp only[Ac,Bp0]at No;exact⟨rfl,No.symm,hγ,Wc,Aht⟩
   ·have A35:0<fs.length:=Bsp.2 hfe;obtain⟨No,hγ,Wc,Aht⟩:=htp;subst No;simp only at hγ Wc;have B5c:=hr.C7 n b Ga;have Bos:(es.length+fs.length)*i.size=es.length*i.size+fs.length*i.size:=Br5 _ _ _;have Bjq:(es.length+fs.length)*i.size≤cap*i.size:=Bqw _ Fz;have Bor:fs.length*i.size=0∨∃arr T fr,w.heap[b]? = some (.cells arr T fr)∧off+cap*i.size≤arr.size:=by
     rcases Br8 (fs.length*i.size)with h|h
     ·exact .inl h
     ·right;have Ahu:=Wc (off+cap*i.size-1) (by omega) (by omega);obtain⟨v,hv⟩:=Bps.1 Ahu.1;unfold World.cell? at hv;simp only at hv;split at hv
      ·rename_i arr T fr hh;refine⟨arr,T,fr,hh,?_⟩;simp at hv;have:=(Bpo.1 hv).1;omega
      ·cases hv
    rcases Bor with Bot|⟨arr,T,fr,Bor,Qd⟩
    ·
     have hn0:Boo=[]:=Brt.1 (by omega);subst hn0;have hrn:=Np (hl:=hfl) (P:=P) (w:=w) (w':=w) (ty:=o.type) h0 h1 hu ht hi (base:=some ⟨b,off,none⟩) (A3d w fun _ _ _=>rfl) Fz (.inr ⟨_,rfl,rfl⟩);obtain⟨hr2,Wb⟩:=hr1.Ps (m:=m) hm (some b) hX (by
      intro b' Fp;cases Fp;refine⟨hr.C7 n b Ga,hr.C3 n b Ga,fun k p hk=>hr.Ba n b k p Ga hk,fun n' Ke=>?_,hr.eta.A7i Ga⟩;by_cases he:n'=n
      ·subst he;simp[Ac]at Ke
      ·simp only[Ae _ _ he]at Ke;exact he (hr.Bw n' n b Ke Ga))
     rw[Cg _ hrn];refine Ek _ w _ hr2 (ht1.trans Wb) (.Be m i.size _ ty _ ?_ ?_)
     ·refine .Ox Bq2.symm (by simp only;omega) Fz Zv ?_;intro p q cs c v hp hq hv;have h2:q<cs.length:=(Bp2.1 hq).1;rw[Zv p cs hp]at h2;have:i.size=0:=by
       rcases Nat.mul_eq_zero.1 Bot with h|h
       ·omega
       ·exact h
      omega
     ·intro ob' No;simp only[Ac,Bp0]at No;refine⟨rfl,No.symm,?_,?_,Aht⟩
      ·simp only;omega
      ·intro p h3 h4;exact Wc p (by simp only at h3;omega) h4
    ·obtain⟨w',Cc,hst,Fp,Gu,hp',hz',Y5,M9⟩:=Ld (P:=P) (off:=off+es.length*i.size) Boo 0 w arr Bor Ahs (by omega) (by
      intro j h3 h4;exact(Wc j (by omega) (by omega)).2)
     have hrn:=Np (hl:=hfl) (P:=P) (w:=w) (w':=w') (ty:=o.type) h0 h1 hu ht hi (base:=some ⟨b,off,none⟩) (A3d w fun _ _ _=>rfl) Fz (.inr ⟨_,rfl,by rw[addr_add];exact hst⟩);simp only[Bs7]at hp';have Auu:∀k,k<off+es.length*i.size→w'.cell? ⟨b,k,none⟩=w.cell? ⟨b,k,none⟩:=by intro k hk;rw[B6 Fp,B6 Bor,hp' k,Bpp (by omega)]
     have Az4:∀k,k<off+(es.length+fs.length)*i.size→(w'.cell? ⟨b,k,none⟩).isSome:=by
      intro k hk;rw[B6 Fp];have:k<Cc.size:=by omega
      simp[this]
     obtain⟨hr2,Wb⟩:=hr1.raise (w':=w') (b:=b) (n:=off+(es.length+fs.length)*i.size) B5c (hr.C3 n b Ga) (fun k p hk=>hr.Ba n b k p Ga hk) (by
      intro n' Ke;by_cases he:n'=n
      ·subst he;simp[Ac]at Ke
      ·simp only[Ae _ _ he]at Ke;exact he (hr.Bw n' n b Ke Ga)) (hr.eta.A7i Ga) hz' M9 Y5 (by intro k hk;exact Auu k (by simp only at hk;omega)) (by simp only;omega) Az4 (by
      intro s hs0;simp only[World.shape?,Bor]at hs0;simp only[World.shape?,Fp,Gu];exact hs0)
     obtain⟨hr3,ht3⟩:=hr2.Ps (m:=m) hm (some b) hX (by
      intro b' Fp;cases Fp;refine⟨by rw[hz'];exact B5c,hr.C3 n b Ga,fun k p hk=>hr.Ba n b k p Ga hk,fun n' Ke=>?_,hr.eta.A7i Ga⟩;by_cases he:n'=n
      ·subst he;simp[Ac]at Ke
      ·simp only[Ae _ _ he]at Ke;exact he (hr.Bw n' n b Ke Ga))
     have hT:=(ht1.trans Wb).trans ht3;rw[Cg _ hrn];refine Ek _ w' _ hr3 hT (.Be m i.size _ ty _ ?_ ?_)
     ·refine .Ox Bq2.symm (by simp only[Ac];omega) Fz Zv ?_;intro p q cs c v hp hq hv;have h2:q<cs.length:=(Bp2.1 hq).1;rw[Zv p cs hp]at h2;rw[Bqh]at hp;split at hp
      ·rename_i A7z;have Bg:=Sv A7z h2;rw[Auu _ (by omega)]at hv;have hold:=Aut w fun _ _ _=>rfl
       cases e1 with
       |nil=>simp at hp
       |sl _ _ _ _ _ _ _ _ _ _ hc =>exact(hc p cs q c v hp hq (by rw[Bs6];exact hv)).mono hT.le
      ·rename_i Bhc;have A7z:p-es.length<fs.length:=by have:=(Bp2.1 hp).1;omega
       have Bg:=Sv A7z h2;have hpq:p*i.size+q=es.length*i.size+((p-es.length)*i.size+q):=by
        have:p=es.length+(p-es.length):=by omega
        conv=>lhs;rw[this,Br5]
        omega
       rw[B6 Fp,hp',Bq6 (by omega)]at hv;refine(hnc (p-es.length) q cs c v hp hq ?_).mono hT.le;rw[← hv];congr 1;omega
     ·intro ob' No;simp only[Ac,Bp0]at No;refine⟨rfl,No.symm,by simp only[Ac],?_,?_⟩
      rotate_left
      ·intro e1 he1;obtain⟨h1,c,h2⟩:=Aht e1 he1;refine⟨h1,Cc.size,?_⟩;simp only[World.shape?,Bor]at h2;simp only[World.shape?,Fp];simp only[Bp0,Bpm]at h2;rw[h2.1]
      intro p h3 h4;simp only at h3 h4;have h5:=Wc p (by omega) h4;refine⟨?_,?_⟩
      ·rw[B6 Fp];have:p<Cc.size:=by omega
       simp[this]
      ·have:=h5.2;simp only[World.frozen?,Bor]at this;simp only[World.frozen?,Fp];exact this
 ·
  obtain⟨A36,htd⟩:=hr1.drew;have hdc:∀b k,k<g.γ b→(w.drew).cell? ⟨b,k,none⟩=w.cell? ⟨b,k,none⟩:=fun _ _ _=>rfl
  have hrn:=Aam (hl:=hfl) (P:=P) (w:=w) (ty:=o.type) h0 h1 hu ht hi hz (A3d w.drew hdc) (Aut w.drew hdc) Fz (by omega) Zu;have hge:=Bv3 w (es.length+fs.length) cap e;generalize grownCap w (es.length+fs.length) cap e=nc at hrn hge;have Bos:(es.length+fs.length)*i.size=es.length*i.size+fs.length*i.size:=Br5 _ _ _;have Amg:(olds.toArray++Boo.toArray++Builtin.zeroCells z.cells (nc-(es.length+fs.length))).size=nc*i.size:=by simp only[Btb,Brn,Bue,hol,hnl,hzs];rw[← Bos,← Br5];congr 1;omega
  have Bhd:(es.length+fs.length)*i.size≤nc*i.size:=Bqw _ hge;generalize Aa8:olds.toArray++Boo.toArray++Builtin.zeroCells z.cells (nc-(es.length+fs.length))=arr at hrn Amg;obtain⟨hr2,Wb⟩:=A36.newRow arr e ((es.length+fs.length)*i.size) (by omega);obtain⟨hr3,ht3⟩:=hr2.Ps (m:=m) hm (some w.drew.heap.size) hX (by
   intro b' Fp;cases Fp;refine⟨by simp,.inl A36.base,fun k p hk=>?_,fun n' Ke=>?_,A36.eta.ltN (Bpa _)⟩
   ·have:=Et (A36.objs k p hk);simp only at this⊢;omega
   ·have:=A36.C7 n' _ Ke;omega)
  have hT:=((ht1.trans htd).trans Wb).trans ht3;rw[Cg _ hrn];have Ahv:∀k,(w.drew.alloc (.cells arr e)).cell? ⟨w.drew.heap.size,k,none⟩=arr[k]?:=fun k=>B6 (Bs1 w.drew (.cells arr e)) k
  refine Ek _ _ _ hr3 hT (.Be m i.size _ ty _ ?_ ?_)
  ·have hww:w.heap.size=w.drew.heap.size:=rfl;rw[hww];refine .Ox Bq2.symm (by simp only[Ac];omega) hge Zv ?_;intro p q cs c v hp hq hv;have h2:q<cs.length:=(Bp2.1 hq).1;rw[Zv p cs hp]at h2;rw[Bq7,Ahv,← Aa8]at hv;rw[Bqh]at hp;split at hp
   ·rename_i A7z;have Bg:=Sv A7z h2;rw[Bv6,Brh (by simp;omega)]at hv;exact(hoc p q cs c v hp hq (by simpa using hv)).mono hT.le
   ·rename_i Bhc;have A7z:p-es.length<fs.length:=by have:=(Bp2.1 hp).1;omega
    have Bg:=Sv A7z h2;have hpq:p*i.size+q=es.length*i.size+((p-es.length)*i.size+q):=by
     have:p=es.length+(p-es.length):=by omega
     conv=>lhs;rw[this,Br5]
     omega
    rw[Brh (by simp;omega),Bso (by simp;omega)]at hv;refine(hnc (p-es.length) q cs c v hp hq ?_).mono hT.le;rw[← hv];simp only[Brn,Bsg];congr 1;omega
  ·intro ob' No;simp only[Ac,Bp0]at No;subst No;have hww:w.heap.size=w.drew.heap.size:=rfl;refine⟨rfl,by rw[hww],by rw[hww];simp only[Ac,Bq7],?_,?_⟩
   rotate_left
   ·intro e1 he1;rw[hty e1 he1];refine⟨rfl,arr.size,?_⟩;have:=Bs1 w.drew (.cells arr e);simp only[World.shape?];rw[hww,this]
   intro p h3 h4;simp only[Bq7]at h3 h4;rw[hww];refine⟨by rw[Ahv];simp;omega,?_⟩;exact frozen_of_row _ _ _ arr e (Bs1 w.drew (.cells arr e))
end
variable{ty:A3 TypeId}{s x:Operand}{B:B8}{X X':A5}
def Kh.sub{g':Gh}(h:Kh B g w X)
  (hη:∀L i b,(g'.β L).isSome→g'.η L i=some b→(g.β L).isSome∧g.η L i=some b) (hs:w.heap.size≤w'.heap.size)
  (Aa3:∀n b,g'.β n=some (some b)→g.β n=some (some b))
  (A2l:∀k o,X'.objs.lookup k=some o→∃o',X.objs.lookup k=some o'∧g'.ρ k=g.ρ k):Kh B g' w' X':=by
 refine⟨?_,?_,?_,?_,?_⟩
 ·intro L L' i i' b hL hL' hb Fp;obtain⟨a1,a2⟩:=hη L i b hL hb;obtain⟨a3,a4⟩:=hη L' i' b hL' Fp;exact h.inj L L' i i' b a1 a3 a2 a4
 ·intro L i b n hL hb hn;obtain⟨a1,a2⟩:=hη L i b hL hb;exact h.Be L i b n a1 a2 (Aa3 n b hn)
 ·intro L i b k o hL hb hk he;obtain⟨a1,a2⟩:=hη L i b hL hb;obtain⟨o',h1,h2⟩:=A2l k o hk;exact h.obj L i b k o' a1 a2 h1 (he.trans h2)
 ·intro L i b hL hb;obtain⟨a1,a2⟩:=hη L i b hL hb;exact h.new L i b a1 a2
 ·intro L i b hL hb;obtain⟨a1,a2⟩:=hη L i b hL hb;exact Bqv (h.lt L i b a1 a2) hs
def Zx(k L:Nat)(X:A5):Prop:=∀j o,j≠k→X.objs.lookup j=some o→F4 [L] o=true
variable{o o':Ob}
def Yj{l:A2 (Nat×Ob)}(hk:l.lookup k=some o){j:Nat}{p:Ob}(hj:(setObj k o' l).lookup j=some p):∃q,l.lookup j=some q:=by
 rw[Ax]at hj;split at hj
 ·rename_i he;subst he;exact⟨o,hk⟩
 ·exact⟨p,hj⟩
def HR.B97{nm:A2 Nat}(h:HR nm B g w X)(hk:X.objs.lookup k=some o)(Qe:Zx k L X)(e:Nat→A3 Nat)
  (hE:Kh B { g with η:=O6 g.η L e } w ⟨setObj k o' X.objs,X.live⟩)
  (A32:Trans [L] g w { g with η:=O6 g.η L e } w→Bv { g with η:=O6 g.η L e } w (g.ρ k) o') :
  HR nm B { g with η:=O6 g.η L e } w ⟨setObj k o' X.objs,X.live⟩∧Trans [L] g w { g with η:=O6 g.η L e } w:=by
 have ht:Trans [L] g w { g with η:=O6 g.η L e } w:=⟨.refl _ _,fun _ _=>rfl,fun n ob _ he=>⟨he,fun _ _=>⟨rfl,rfl⟩⟩,fun L' hL' _=>⟨Ae _ _ (by simpa using hL'),fun _ _ _=>⟨rfl,rfl⟩⟩⟩;have Mr:∀j p,(setObj k o' X.objs).lookup j=some p→∃q,X.objs.lookup j=some q:=fun j p hj=>Yj hk hj
 refine⟨⟨?_,h.Ip,h.base,h.io,h.le,h.frame,?_,?_,?_,?_,h.live,h.Bw,?_,h.C3,h.C7,hE⟩,ht⟩
 ·intro j hj;obtain⟨h1,h2⟩:=h.D4 j hj;refine⟨h1,?_⟩;simp only[Ax];split
  ·rfl
  ·exact h2
 ·intro j p hj;simp only[Ax]at hj;split at hj
  ·rename_i he;cases hj;subst he;exact A32 ht
  ·rename_i he;exact(h.objs j p hj).D4 ht rfl (.inr (Qe j p he hj))
 ·intro j p hj;obtain⟨q,hq⟩:=Mr j p hj;exact h.Fq j q hq
 ·intro j j' p p' hj Gb he;obtain⟨q,hq⟩:=Mr j p hj;obtain⟨q',hq'⟩:=Mr j' p' Gb;exact h.Br j j' q q' hq hq' he
 ·intro j p hj;obtain⟨q,hq⟩:=Mr j p hj;exact h.Ca j q hq
 ·intro n b j p hn hj;obtain⟨q,hq⟩:=Mr j p hj;exact h.Ba n b j q hn hq
def Ad0.eta{e:Nat→A3 Nat}(h:Ad0 g w L i sz v)(he:e i=g.η L i):Ad0 { g with η:=O6 g.η L e } w L i sz v:=by
 unfold Ad0 at h⊢;split at h
 ·exact⟨h.1,by simp only[Ac,he];exact h.2.1,h.2.2⟩
 ·trivial
abbrev B98:Type:=Nat×Value×Bool×A2 (A2 D)
abbrev B5j:Type:=A2 B98
def Av7(l l':B5j):Prop:=l'.length=l.length∧∀(j:Nat) (x':B98),l'[j]? = some x'→∃x:B98,l[j]? = some x∧x'.1=x.1∧x'.2.1=x.2.1∧x'.2.2.2=x.2.2.2
variable{l':B5j}
def Av7.Aqr{l:B5j}(h:Av7 l l'):l'.map (·.1)=l.map (·.1):=by
 apply Bsc;intro i;rw[Bp1,Bp1];by_cases hi:i<l'.length
 ·obtain⟨x,h1,h2,_⟩:=h.2 i l'[i] (by simp[hi]);rw[h1,Bpd hi];simp[h2]
 ·rw[Bqz (by omega),Bqz (by have:=h.1;omega)]
def HR.Bk2{nm:A2 Nat}(h:HR nm B g w X){c:Nat}{l:B5j}(hk:X.objs.lookup k=some (.Cf L sz l c))(Qe:Zx k L X)
  (hs:Av7 l l') (hl':∀(j:Nat) (x' x:B98),l'[j]? = some x'→l[j]? = some x→x'.2.2.1=true→x.2.2.1=true∧x.1≠i) :
  HR nm B { g with η:=O6 g.η L (O6 (g.η L) i none) } w ⟨setObj k (.Cf L sz l' c) X.objs,X.live⟩∧Trans [L] g w { g with η:=O6 g.η L (O6 (g.η L) i none) } w:=by
 refine h.B97 hk Qe _ (h.eta.sub ?_ (Bpa _) (fun n b hn=>hn) ?_) ?_
 ·intro L' i' b hL hb;refine⟨hL,?_⟩;simp only at hb;by_cases he:L'=L
  ·subst he;rw[Ac]at hb;by_cases hi:i'=i
   ·subst hi;rw[Ac]at hb;cases hb
   ·rwa [Ae _ _ hi]at hb
  ·rwa [Ae _ _ he]at hb
 ·intro j o hj;obtain⟨q,hq⟩:=Yj hk hj;exact⟨q,hq,rfl⟩
 ·intro ht;have h0:=h.objs k _ hk;cases h0 with
  |Cf _ _ _ _ es h1 h2 h3 h4 h5 =>
   refine .Cf L sz l' c es h1 (hs.1.trans h2) ?_ ?_ (by rw[hs.Aqr];exact h5)
   ·intro j x' e hx he;obtain⟨x,hx0,a1,a2,a3⟩:=hs.2 j x' hx;obtain⟨b1,b2,b3,b4⟩:=h3 j x e hx0 he;refine⟨b1.trans a1.symm,b2.trans a2.symm,by rw[a3];exact b3,fun hf hL=>?_⟩;obtain⟨c1,c2⟩:=hl' j x' x hx hx0 hf;rw[a1];exact(b4 c1 hL).eta (Ae _ _ c2)
   ·intro p hp;have:p.1∈l.map (·.1):=by rw[← hs.Aqr];exact Bpe (f:=(·.1)) hp
    obtain⟨q,hq,he⟩:=Bpc.1 this;rw[← he];exact h4 q hq
def Bk3(B:B8)(g:Gh)(w:World)(X:A5)(b:Nat):Prop :=
 b<w.heap.size∧(B.n0≤b∨B.allowed b)∧(∀k o,X.objs.lookup k=some o→b≠g.ρ k)∧(∀n,g.β n≠some (some b))∧∀L i,(g.β L).isSome→g.η L i≠some b
def HR.Bk4{nm:A2 Nat}(h:HR nm B g w X){c:Nat}{ob:A3 Nat}{l:B5j}(hk:X.objs.lookup k=some (.Cf L sz l c))(Qe:Zx k L X)
  (hb:∀b,ob=some b→Bk3 B g w X b)
  (hs:Av7 l l') (hl':∀(j:Nat) (x' x:B98),l'[j]? = some x'→l[j]? = some x→x'.2.2.1=true→(x.2.2.1=true∧x.1≠i)∨(x.1=i∧∀C2 e,w.heap[g.ρ k]? = some (.map C2 c)→C2[j]? = some e→Ad0 { g with η:=O6 g.η L (O6 (g.η L) i ob) } w L i sz e.val)) :
  HR nm B { g with η:=O6 g.η L (O6 (g.η L) i ob) } w ⟨setObj k (.Cf L sz l' c) X.objs,X.live⟩∧Trans [L] g w { g with η:=O6 g.η L (O6 (g.η L) i ob) } w:=by
 have old:∀L' i' b,O6 g.η L (O6 (g.η L) i ob) L' i'=some b→(L'=L∧i'=i∧ob=some b)∨(¬(L'=L∧i'=i)∧g.η L' i'=some b):=by
  intro L' i' b he;by_cases hL:L'=L
  ·subst hL;rw[Ac]at he;by_cases hi:i'=i
   ·subst hi;rw[Ac]at he;exact .inl ⟨rfl,rfl,he⟩
   ·rw[Ae _ _ hi]at he;exact .inr ⟨fun hh=>hi hh.2,he⟩
  ·rw[Ae _ _ hL]at he;exact .inr ⟨fun hh=>hL hh.1,he⟩
 refine h.B97 hk Qe _ ⟨?_,?_,?_,?_,?_⟩ ?_
 ·intro L1 L2 i1 i2 b h1 h2 e1 e2;rcases old L1 i1 b e1 with ⟨a1,a2,a3⟩|⟨a1,a2⟩<;>rcases old L2 i2 b e2 with ⟨c1,c2,c3⟩|⟨c1,c2⟩
  ·exact⟨a1.trans c1.symm,a2.trans c2.symm⟩
  ·exact((hb b a3).2.2.2.2 L2 i2 h2 c2).elim
  ·exact((hb b c3).2.2.2.2 L1 i1 h1 a2).elim
  ·exact h.eta.inj L1 L2 i1 i2 b h1 h2 a2 c2
 ·intro L1 i1 b n h1 e1 hn;rcases old L1 i1 b e1 with ⟨a1,a2,a3⟩|⟨a1,a2⟩
  ·exact(hb b a3).2.2.2.1 n hn
  ·exact h.eta.Be L1 i1 b n h1 a2 hn
 ·intro L1 i1 b j o h1 e1 hj;obtain⟨q,hq⟩:=Yj hk hj;rcases old L1 i1 b e1 with ⟨a1,a2,a3⟩|⟨a1,a2⟩
  ·exact(hb b a3).2.2.1 j q hq
  ·exact h.eta.obj L1 i1 b j q h1 a2 hq
 ·intro L1 i1 b h1 e1;rcases old L1 i1 b e1 with ⟨a1,a2,a3⟩|⟨a1,a2⟩
  ·exact(hb b a3).2.1
  ·exact h.eta.new L1 i1 b h1 a2
 ·intro L1 i1 b h1 e1;rcases old L1 i1 b e1 with ⟨a1,a2,a3⟩|⟨a1,a2⟩
  ·exact(hb b a3).1
  ·exact h.eta.lt L1 i1 b h1 a2
 ·intro ht;have h0:=h.objs k _ hk;cases h0 with
  |Cf _ _ _ _ es h1 h2 h3 h4 h5 =>
   refine .Cf L sz l' c es h1 (hs.1.trans h2) ?_ ?_ (by rw[hs.Aqr];exact h5)
   ·intro j x' e hx he;obtain⟨x,hx0,a1,a2,a3⟩:=hs.2 j x' hx;obtain⟨b1,b2,b3,b4⟩:=h3 j x e hx0 he;refine⟨b1.trans a1.symm,b2.trans a2.symm,by rw[a3];exact b3,fun hf hL=>?_⟩;rw[a1];rcases hl' j x' x hx hx0 hf with ⟨c1,c2⟩|⟨c1,c2⟩
    ·exact(b4 c1 hL).eta (Ae _ _ c2)
    ·rw[c1];exact c2 es e h1 he
   ·intro p hp;have:p.1∈l.map (·.1):=by rw[← hs.Aqr];exact Bpe (f:=(·.1)) hp
    obtain⟨q,hq,he⟩:=Bpc.1 this;rw[← he];exact h4 q hq
def Ud(sz:Nat)(l:B5j):A2 (Nat×Value×D):=l.map fun e=>(e.1,e.2.1,.sl sz e.2.2.2)
def HR.plain{nm:A2 Nat}(h:HR nm B g w X)(Bk5:X'.live=X.live)(Vu:∀k,(X.objs.lookup k).isSome→(X'.objs.lookup k).isSome)
  (Ga:∀k o',X'.objs.lookup k=some o'→X.objs.lookup k=some o'∨∃L sz l c,X.objs.lookup k=some (.Cf L sz l c)∧o' = .map (Ud sz l) c):HR nm B g w X':=by
 have Mr:∀j p,X'.objs.lookup j=some p→∃q,X.objs.lookup j=some q:=by intro j p hj;rcases Ga j p hj with h1|⟨L,sz,l,c,h1,_⟩<;>exact⟨_,h1⟩
 refine⟨?_,h.Ip,h.base,h.io,h.le,h.frame,?_,?_,?_,?_,by rw[Bk5];exact h.live,h.Bw,?_,h.C3,h.C7,h.eta.same (Bpa _) fun j p hj=>Mr j p hj⟩
 ·intro j hj;obtain⟨h1,h2⟩:=h.D4 j hj;exact⟨h1,Vu j h2⟩
 ·intro j p hj;rcases Ga j p hj with h1|⟨L,sz,l,c,h1,rfl⟩
  ·exact h.objs j p h1
  ·have h0:=h.objs j _ h1;cases h0 with
   |Cf _ _ _ _ es a1 a2 a3 a4 a5 =>
    refine .map _ c es a1 (by simpa[Ud]using a2) ?_ ?_ ?_
    ·intro i x e hx he;simp only[Ud,Bp1,Bp8]at hx;obtain⟨y,hy,rfl⟩:=hx;obtain⟨b1,b2,b3,_⟩:=a3 i y e hy he;exact⟨b1,b2,b3⟩
    ·intro q hq;simp only[Ud,Bpc]at hq;obtain⟨y,hy,rfl⟩:=hq;exact a4 y hy
    ·simpa[Ud,Brv,Bsd]using a5
 ·intro j p hj;obtain⟨q,hq⟩:=Mr j p hj;exact h.Fq j q hq
 ·intro j j' p p' hj Gb he;obtain⟨q,hq⟩:=Mr j p hj;obtain⟨q',hq'⟩:=Mr j' p' Gb;exact h.Br j j' q q' hq hq' he
 ·intro j p hj;obtain⟨q,hq⟩:=Mr j p hj;exact h.Ca j q hq
 ·intro n b j p hn hj;obtain⟨q,hq⟩:=Mr j p hj;exact h.Ba n b j q hn hq
section
variable{P:Program}{o:Oper}{X:A5}
end
open Go.RowKit
def Qt(w:World)(b:Nat):Nat :=
 match w.heap[b]? with
 |some (.cells c _ _)=>c.size
 |_=>0
def full(w:World):Gh:={ γ:=Qt w,β:=fun _=>none,ρ:=fun _=>0 }
def B2w(w:World):HR [] (B8.of (full w) w X0) (full w) w X0:=by
 refine⟨by simp,?_,Bpa _,⟨rfl,rfl,rfl,Bpa _⟩,.refl _ _,fun _ _ _=>⟨rfl,rfl⟩,by simp[X0],by simp[X0],by simp[X0],by simp[X0],by simp[X0,full],by simp[full],by simp[full],by simp[full],by simp[full],.off fun _=>rfl⟩;intro b i hi;simp only[full,Qt]at hi;split at hi
 ·rename_i c T fr h;rw[B6 h];simp[hi]
 ·omega
inductive RAs(g:Gh)(w:World):List AV→List Value→Prop
 |nil:RAs g w [] []
 |cons {x:AV} {v:Value} {r:List AV} {rs:List Value}:RA g w x v→RAs g w r rs→RAs g w (x::r) (v::rs)
def RAs.get{l:A2 AV}{vs:A2 Value}(h:RAs g w l vs):l.length=vs.length∧∀(i:Nat) x v,l[i]? = some x→vs[i]? = some v→RA g w x v:=by
 induction h with
 |nil=>exact⟨rfl,by simp⟩
 |cons h _ ih =>
  refine⟨by simp[ih.1],?_⟩;intro i x u hx hu;cases i with
  |zero=>simp at hx hu;subst hx;subst hu;exact h
  |succ i=>exact ih.2 i x u (by simpa using hx) (by simpa using hu)
def Av8{b:Nat}(h:w.cell? ⟨b,i,none⟩=some v):i<Qt w b:=by
 unfold World.cell? at h;unfold Qt;simp only at h;split at h
 ·rename_i c T fr hh;rw[hh];simp at h;exact(Bpo.1 h).1
 ·cases h
open Go.Sort Go.Proofs
section
variable{P:Program}{o:Oper}{X:A5}
def Hl{α:Type}{enc:α→A2 Value}(hk:∀x,(enc x).length=sz)(l:A2 α):(l.map enc).flatten.length=l.length*sz:=by
 induction l with
 |nil=>simp
 |cons x r ih=>simp only[Bp3,Bqt,Bq2,ih,hk,Bpk,Brj];omega
theorem Anz{α:Type}{sz:Nat}{enc:α→A2 Value}(hk:∀x,(enc x).length=sz):∀(l:A2 α) (j:Nat),(l.map enc).flatten[j]? = (l[j/sz]?).bind fun x=>(enc x)[j % sz]?
 |[],j=>by simp
 |x::r,j=>by
  have h0:=hk x;simp only[Bp3,Bqt,Bqh];by_cases hj:j<(enc x).length
  ·rw[Bq6 hj,Nat.div_eq_of_lt (by omega),Bvp (by omega)];simp
  ·rw[Bpp hj,Anz hk r,h0];by_cases hz:sz=0
   ·subst hz;simp;have:∀y,enc y=[]:=fun y=>Bts (hk y)
    cases r<;>simp[this]
   ·have hle:sz≤j:=by omega
    rw[← Nat.sub_add_cancel hle];simp only[Bsu,Nat.add_mod_right,Nat.add_div_right _ (by omega:0<sz)];simp
def Ada{α:Type}[Inhabited α]{enc:α→A2 Value}(hk:∀x,(enc x).length=sz)(l:A2 α)(j:Nat)(hj:j<l.length*sz):(l.map enc).flatten[j]? = some (flatK enc sz l.toArray)[j]!:=by
 have hs:0<sz:=by
  rcases Br8 sz with h|h
  ·rw[h]at hj;omega
  ·exact h
 have h1:j/sz<l.length:=by rw[Btx hs];exact hj
 have h2:j % sz<sz:=Btz _ hs;rw[Anz hk,get_flatK enc sz _ _ (by simpa using hj)];have e1:l[j/sz]? = some l[j/sz]:=Bpd h1;have e2:l.toArray[j/sz]! = l[j/sz]:=by rw[Bud _ _ (by simpa using h1)];simp
 rw[e1,e2];simp only[Bow];have h3:j % sz<(enc l[j/sz]).length:=by rw[hk];exact h2
 rw[Bus,Bpd h3];rfl
def Bge{u:Value}(h:RA g w (.d (.sc v)) u):u=v:=by
 cases h with
 |d _ _ h=>cases h;rfl
variable{f c:FuncId}
def B99{α:Type}[Inhabited α]{enc:α→A2 Value}(hk:∀x,(enc x).length=sz){l:A2 α}(φ:A2 α→A2 α)
  (ho:o.op = .call { callee:=.value (.func f),args:=#[s,x],argTypes:=ts }) (hf:Ed P f) (Mk:X.objs.lookup k=some (.cells ((l.map enc).flatten.map fun v=>.d (.sc v)) ty)) (hlen:len≤l.length) (hφ:∀d,(φ d).length=d.length)
  (hN:∀p cap w,Calls P f #[.slice p 0 cap,.func (.func c) #[] #[]] w fun e w'=>e = .returned (.tuple #[])∧w'=w)
  (hC:∀blk cap w,HoldsK enc sz w blk 0 (l.take len).toArray→blk<w.heap.size→Calls P f #[.slice (some ⟨blk,0,none⟩) len cap,.func (.func c) #[] #[]] w fun e w'=>e = .returned (.tuple #[])∧∃n os,w'=sortWorldK enc sz w blk 0 n (φ (l.take len)).toArray os) :
  Bi P o [(s,.osl k 0 len sz),(x,.F1 c [])] X ⟨setObj k (.cells (((φ (l.take len)++l.drop len).map enc).flatten.map fun v=>.d (.sc v)) ty) X.objs,X.live⟩ [] (.F2 []):=by
 intro nm Ej B g w a hr Au next Q Ek
 have e1:=Is Au;have e2:=Au (x,.F1 c []) (by simp);simp only at e1 e2;obtain⟨cap,q,U9,hv,hq,T,c',hsh,hc⟩:=e1.Sw;generalize hfv:a.eval x=fv at e2;cases e2 with
 |F1 _ _ vs hl0 _ =>
 have Pk:vs=#[]:=by apply Bqm;rw[← hl0];rfl
 subst Pk;unfold Oper.wp;have Cg:(execOp a.eval o).run P w = .ok (.enter f #[.slice (some ⟨g.ρ k,q,none⟩) len cap,.func (.func c) #[] #[]]) w:=by
  have h1:(execOp a.eval o).run P w = .ok (.enter f (#[s,x].map a.eval)) w:=by simp only[execOp,ho,resolve];simp[Act.eval,Deferred.ofValue,invoke,D0 hf]
  rw[h1];have h2:#[s,x].map a.eval=#[.slice (some ⟨g.ρ k,q,none⟩) len cap,.func (.func c) #[] #[]]:=by
   have h3:#[s,x].map a.eval=#[a.eval s,a.eval x]:=by simp only[Bul,Bp3,Bpz]
   rw[h3,hv,hfv]
  rw[h2]
 rw[Cg];cases hr.objs k _ Mk with
 |cells _ _ arr T' hb hl hcc hty =>
 have hval:∀(j:Nat) (v:Value),(l.map enc).flatten[j]? = some v→arr[j]? = some v:=by
  intro j v hj;have Bg:j<arr.size:=by have:=(Bp2.1 hj).1;rw[Bpl]at hl;omega
  have hr':=hcc j (.d (.sc v)) arr[j] (by rw[Bp1,hj];rfl) (by simp[Bg]);rw[← Bge hr'];simp[Bg]
 have Hc:(l.map enc).flatten.length=l.length*sz:=Hl hk l;have Aqs:l.length*sz≤arr.size:=by rw[← Hc];rw[Bpl]at hl;exact hl
 by_cases B9a:len=0
 ·subst B9a;refine(hN _ _ _).mono ?_;rintro e w' ⟨rfl,rfl⟩;have he:φ (l.take 0)++l.drop 0=l:=by have:φ (l.take 0)=[]:=Bts (by rw[hφ];simp);rw[this];simp
  rw[he]at Ek;obtain⟨hw1,hw2⟩:=hr.write Mk (w':=w') (o':=.cells ((l.map enc).flatten.map fun v=>.d (.sc v)) ty) rfl ⟨rfl,rfl,rfl,Bpa _⟩ (fun _ _=>rfl) (fun _=>.cells _ _ arr T' hb hl hcc hty) (fun s h=>h);exact Ek g w' _ hw1 hw2 (.F2 _ _ rfl (by simp))
 ·have hq0:q=0:=hq.resolve_left (by omega);subst hq0;have Bor:g.ρ k<w.heap.size:=Et (hr.objs k _ Mk);have hd:(l.take len).length=len:=by simp;omega
  have hH:HoldsK enc sz w (g.ρ k) 0 (l.take len).toArray:=by
   intro j hj;have Gb:j<len*sz:=by rw[size_flatK]at hj;simpa[Nat.min_eq_left hlen]using hj
   have hfl:((l.take len).map enc).flatten[j]? = (l.map enc).flatten[j]?:=by
    have:(l.map enc).flatten=((l.take len).map enc).flatten++((l.drop len).map enc).flatten:=by rw[← Bsq,← Bpn,Bra]
    rw[this,Bs9 (by rw[Hl hk,hd];exact Gb)]
   have:=Ada hk (l.take len) j (by rw[hd];exact Gb);rw[hfl]at this;have h3:=hval j _ this;constructor
   ·rw[B6 hb,Bq7,h3];rfl
   ·simp[World.frozen?,hb]
  refine(hC _ cap w hH Bor).mono ?_;rintro e w' ⟨rfl,n,os,rfl⟩;generalize hd':(φ (l.take len)).toArray=d';have B5k:d'.size=len:=by rw[← hd'];simp[hφ,hd]
  have Aan:(φ (l.take len)++l.drop len).length=l.length:=by simp[hφ];omega
  let Cc:=putCells id 0 (flatK enc sz d') arr;have Fp:(putRowK enc sz (Sort.ahead w n) (g.ρ k) 0 d').heap[g.ρ k]? = some (.cells Cc T' (0,0)):=by simp only[putRowK,putRow,mapBlock,Bql,But,hb];simp[onCells,Cc]
  have Aia:Cc.size=arr.size:=by simp[Cc,putCells]
  have Pt:∀j (hj:j<arr.size),Cc[j]? = some (if j<len*sz then (flatK enc sz d')[j]! else arr[j]):=by intro j hj;simp only[Cc,putCells,Bw9,Bpq hj,Bq8,size_flatK,B5k,Brw,Bum,Bq7,Bs3,id]
  have hwr:HR nm B g (putRowK enc sz (Sort.ahead w n) (g.ρ k) 0 d') ⟨setObj k (.cells (((φ (l.take len)++l.drop len).map enc).flatten.map fun v=>.d (.sc v)) ty) X.objs,X.live⟩∧Trans [] g w g (putRowK enc sz (Sort.ahead w n) (g.ρ k) 0 d'):=by
   refine hr.write Mk (by simp[putRowK]) ⟨rfl,rfl,rfl,by simp[putRowK]⟩ (fun b B9b=>?_) (fun _=>?_) (fun s hs=>?_)
   ·simp only[putRowK,putRow,mapBlock,Bql,But];rw[Bpp (Brl B9b)]
   ·refine .cells _ _ Cc T' Fp (by rw[Aia];simp only[Bpl];rw[Hl hk,Aan];exact Aqs) ?_ hty;intro j y v hy hv';rw[Bp1,Bp8]at hy;obtain⟨u,hu,rfl⟩:=hy;have Bde:j<l.length*sz:=by have:=(Bp2.1 hu).1;rw[Hl hk,Aan]at this;exact this
    have hja:j<arr.size:=by omega
    rw[Pt j hja]at hv';simp only[Bp0]at hv';rw[Bpn,Bsq]at hu;have hl1:((φ (l.take len)).map enc).flatten.length=len*sz:=by rw[Hl hk,hφ,hd]
    rw[Bqh,hl1]at hu;by_cases hj:j<len*sz
    ·rw[Bq6 hj]at hu hv';rw[Ada hk _ _ (by rw[hφ,hd];exact hj),hd']at hu;simp only[Bp0]at hu;rw[← hv',hu];exact .d _ _ (.sc _)
    ·rw[Bpp hj]at hu hv';have h4:(l.map enc).flatten[j]? = some u:=by
      have:(l.map enc).flatten=((l.take len).map enc).flatten++((l.drop len).map enc).flatten:=by rw[← Bsq,← Bpn,Bra]
      rw[this,Brs (by rw[Hl hk,hd];omega),Hl hk,hd];exact hu
     have h5:=hval j u h4;rw[Bpq hja]at h5;simp only[Bp0]at h5;rw[← hv',h5];exact .d _ _ (.sc _)
   ·simp only[World.shape?,hb]at hs;simp only[World.shape?,Fp,Aia];exact hs
  obtain⟨h6,h7⟩:=hwr;have Av9:HR nm B g (sortWorldK enc sz w (g.ρ k) 0 n d' os) _∧Trans [] g (putRowK enc sz (Sort.ahead w n) (g.ρ k) 0 d') g (sortWorldK enc sz w (g.ρ k) 0 n d' os) :=
   h6.grow (by simp[sortWorldK]) (fun b hbl=>heap_grow_old _ _ hbl) ⟨rfl,rfl,rfl,Bpa _⟩
  exact Ek g _ _ Av9.1 (h7.trans Av9.2) (.F2 _ _ rfl (by simp))
def Afi(ho:o.op = .call { callee:=.value (.func f),args:=#[s,x],argTypes:=ts })(hf:Ed P f)
  (hN:∀p cap w,Calls P f #[.slice p 0 cap,.func (.func c) #[] #[]] w fun e w'=>e = .returned (.tuple #[])∧w'=w) :
  Bi P o [(s,.d (.sl sz [])),(x,.F1 c [])] X X [] (.F2 []):=by
 intro nm Ej B g w a hr Au next Q Ek
 have e1:=Is Au;have e2:=Au (x,.F1 c []) (by simp);simp only at e1 e2;have hv:∃p cap,a.eval s = .slice p 0 cap:=by
  generalize a.eval s=v at e1;cases e1 with
  |d _ _ h =>
   cases h with
   |nil=>exact⟨_,_,rfl⟩
   |sl _ _ b off len cap hl=>subst hl;exact⟨_,_,rfl⟩
 obtain⟨p,cap,hv⟩:=hv;generalize hfv:a.eval x=fv at e2;cases e2 with
 |F1 _ _ vs hl0 _ =>
 have Pk:vs=#[]:=by apply Bqm;rw[← hl0];rfl
 subst Pk;unfold Oper.wp;have Cg:(execOp a.eval o).run P w = .ok (.enter f #[.slice p 0 cap,.func (.func c) #[] #[]]) w:=by
  have h1:(execOp a.eval o).run P w = .ok (.enter f (#[s,x].map a.eval)) w:=by simp only[execOp,ho,resolve];simp[Act.eval,Deferred.ofValue,invoke,D0 hf]
  rw[h1];have h2:#[s,x].map a.eval=#[.slice p 0 cap,.func (.func c) #[] #[]]:=by
   have h3:#[s,x].map a.eval=#[a.eval s,a.eval x]:=by simp only[Bul,Bp3,Bpz]
   rw[h3,hv,hfv]
  rw[h2]
 rw[Cg];refine(hN _ _ _).mono ?_;rintro e w' ⟨rfl,rfl⟩;exact Ek g w' _ hr (.refl _ _ _) (.F2 _ _ rfl (by simp))
def Mj.grown{args:A2 AV}{rv:Value}(h:Mj P f args X0 (.d (.sc rv)) X0){vs:Array Value}(hl:args.length=vs.size)
  (ha:∀(i:Nat) x v,args[i]? = some x→vs[i]? = some v→RA (full w) w x v) :
  Calls P f vs w fun e w'=>e = .returned rv∧∃q os',w'=Sort.grow (w.drewN q) os':=by
 refine(h (full w) w vs (B2w w) hl ha).mono ?_;rintro e w' ⟨g',v,rfl,hr,h1⟩;rw[Bge hr];refine⟨rfl,w'.drawn-w.drawn,w'.heap.extract w.heap.size w'.heap.size,?_⟩;have hna:∀b,¬(B8.of (full w) w X0).allowed b:=by
  rintro b (⟨k,o,hk,_⟩|⟨n,hn⟩)
  ·simp[X0]at hk
  ·simp[full]at hn
 have hb:w.heap.size≤w'.heap.size:=h1.base;have Bgf:w'.heap=w.heap++w'.heap.extract w.heap.size w'.heap.size:=by
  apply Array.ext_getElem?;intro b;rw[Bsv];split
  ·rename_i Bg;exact(h1.frame b Bg (hna b)).1
  ·rename_i hge;simp only[Bt4];split
   ·congr 1;omega
   ·rw[Bs8];omega
 have hio:=h1.io;have hd:w.drawn+(w'.drawn-w.drawn)=w'.drawn:=Nat.add_sub_cancel' hio.2.2.2;obtain⟨hp,tp,dr,os,ou⟩:=w';obtain⟨hp0,tp0,dr0,os0,ou0⟩:=w;simp only at Bgf hd⊢;obtain⟨i1,i2,i3,_⟩:=hio;change os=os0 at i1;change ou=ou0 at i2;change tp=tp0 at i3;subst i1 i2 i3;unfold Sort.grow World.drewN;simp only[hd];rw[← Bgf]
end
section
variable{P:Program}{o:Oper}{X:A5}
def B9c(hs:∀b i,i<g.γ b→(w.cell? ⟨b,i,none⟩).isSome)(hc:∀b,g.γ b≠0→w'.heap[b]? = w.heap[b]?)(hsh:∀b s,w.shape? b=some s→w'.shape? b=some s):LeD g.γ w (full w').γ w':=by
 refine⟨fun b=>?_,fun b i hi=>Ov (hc b (by omega)) i none,hsh⟩;rcases Br8 (g.γ b)with h0|h0
 ·omega
 ·have h1:=hs b (g.γ b-1) (by omega);have h2:=hc b (by omega);simp only[full,Qt,h2];unfold World.cell? at h1;split at h1
  ·rename_i c T fr he;simp only at he;rw[he];simp only[Option.isSome_none,Bqs,Bre]at h1;have:=(Bps.1 h1);obtain⟨v,hv⟩:=this;have:=(Bpo.1 hv).1;show g.γ b≤c.size;omega
  ·simp at h1
abbrev El{τ:Type}(ds:τ→A2 D)(sz:Nat)(g:Gh)(w:World):Type:={ p:τ×A2 Value // p.2.length=sz∧∀(i:Nat) d v,(ds p.1)[i]? = some d→p.2[i]? = some v→RD g.γ w d v }
def Ava(P:Program)(f c:FuncId)(sz:Nat):Prop :=
 ∀(α:Type) [Inhabited α] (enc:α→A2 Value),(∀x,(enc x).length=sz)→(∀x,∀v∈enc x,v.oneCell'=true)→∀(cf:α→α→Int),SWO (ltOf cf)→∀(blk cap:Nat) (d:Array α) (w:World),
  CmpLays P c #[] enc sz cf blk 0 d.size w→HoldsK enc sz w blk 0 d→blk<w.heap.size→d.size<4611686018427387904 →
  Calls P f #[.slice (some ⟨blk,0,none⟩) d.size cap,.func (.func c) #[] #[]] w fun e w'=>e = .returned (.tuple #[])∧∃d' n os,PermIn 0 d.size d d'∧SortedIn (ltOf cf) 0 d.size d'∧w'=sortWorldK enc sz w blk 0 n d' os
theorem B2x{τ:Type}{ds:τ→A2 D}{sz:Nat}(hk:∀x,(ds x).length=sz){g:Gh}{w:World}{l:A2 τ}{arr:Array Value}(hl:l.length*sz≤arr.size)
  (hcc:∀(j:Nat) d v,(l.map ds).flatten[j]? = some d→arr[j]? = some v→RD g.γ w d v):∀n,n≤l.length→∃row:A2 (El ds sz g w),row.length=n∧row.map (·.1.1)=l.take n∧∀j,j<n*sz→(row.map (·.1.2)).flatten[j]? = arr[j]?
 |0,_=>⟨[],rfl,by simp,by simp⟩
 |n+1,hn=>by
  obtain⟨row,r1,r2,r3⟩:=B2x hk hl hcc n (by omega);have hln:n<l.length:=by omega
  have hle:n*sz+sz≤arr.size:=by have:=Bqw sz hn;rw[Brj]at this;omega
  let vs:A2 Value:=(arr.toList.drop (n*sz)).take sz;have hvl:vs.length=sz:=by simp[vs];omega
  have hv:∀i,i<sz→vs[i]? = arr[n*sz+i]?:=by intro i hi;simp[vs,hi,Bqn]
  have Aai:∀i,i<sz→(l.map ds).flatten[n*sz+i]? = (ds l[n])[i]?:=by
   intro i hi;have h0:=Hl (enc:=fun x=>(ds x).map fun _=>undef) (sz:=sz) (by simp[hk]);have key:∀(m:A2 τ) (n:Nat) (hn:n<m.length),(m.map ds).flatten[n*sz+i]? = (ds m[n])[i]?:=by
    intro m;induction m with
    |nil=>intro n hn;simp at hn
    |cons x m ih =>
     intro n hn;simp only[Bp3,Bqt,Bqh,hk];cases n with
     |zero=>rw[Bq6 (by omega)];simp
     |succ n =>rw[Bpp (by rw[Brj];omega),show(n+1)*sz+i-sz=n*sz+i by rw[Brj];omega,ih n (by simpa using hn)];simp
   exact key l n hln
  have hel:∀(i:Nat) d v,(ds l[n])[i]? = some d→vs[i]? = some v→RD g.γ w d v:=by
   intro i d v hd hvv;have hi:i<sz:=by have:=(Bp2.1 hd).1;simp only[hk]at this;exact this
   refine hcc (n*sz+i) d v ?_ ?_
   ·rw[Aai i hi];exact hd
   ·rw[← hv i hi];exact hvv
  refine⟨row++[⟨(l[n],vs),hvl,hel⟩],by rw[Bq2,r1];rfl,?_,?_⟩
  ·rw[Bpn,r2,Bqu,Bpd hln];rfl
  ·intro j hj;have hlen:(row.map (·.1.2)).flatten.length=n*sz:=by have:=Hl (enc:=fun x:El ds sz g w=>x.1.2) (sz:=sz) (fun x=>x.2.1) row;rw[r1]at this;exact this
   rw[Bpn,Bsq,Bqh,hlen];split
   ·rename_i h;exact r3 j h
   ·rename_i h;rw[Brj]at hj;have:=hv (j-n*sz) (by omega);simp only[Bp3,Bpz,Bqt,List.flatten_nil,Bq0];rw[this,show n*sz+(j-n*sz)=j by omega]
def B9d{τ:Type}{f c:FuncId}{ds:τ→A2 D}(hk:∀x,(ds x).length=sz)(Iw:∀x,∀d∈ds x,A0z d=true){l:A2 τ}{cf:τ→τ→Int}(φ:A2 τ)
  (ho:o.op = .call { callee:=.value (.func f),args:=#[s,x],argTypes:=ts }) (hf:Ed P f) (Mk:X.objs.lookup k=some (.cells ((l.map ds).flatten.map .d) ty)) (hlen:len≤l.length) (Zu:len<4611686018427387904)
  (hφ:∀r:A2 τ,r.Perm (l.take len)→r.Pairwise (fun x y=>ltOf cf y x=false)→r=φ)
  (hN:∀p cap w,Calls P f #[.slice p 0 cap,.func (.func c) #[] #[]] w fun e w'=>e = .returned (.tuple #[])∧w'=w)
  (hO:SWO (ltOf cf)) (hc:∀x y,Mj P c [.d (.agg (ds x)),.d (.agg (ds y))] X0 (.d (.sc (.int .i64 (cf x y)))) X0) (hS:Ava P f c sz) :
  Bi P o [(s,.osl k 0 len sz),(x,.F1 c [])] X ⟨setObj k (.cells (((φ++l.drop len).map ds).flatten.map .d) ty) X.objs,X.live⟩ [] (.F2 []):=by
 intro nm Ej B g w a hr Au next Q Ek
 have e1:=Is Au;have e2:=Au (x,.F1 c []) (by simp);simp only at e1 e2;obtain⟨cap,q,U9,hv,hq,T,c',hsh,Rq⟩:=e1.Sw;generalize hfv:a.eval x=fv at e2;cases e2 with
 |F1 _ _ vs hl0 _ =>
 have Pk:vs=#[]:=by apply Bqm;rw[← hl0];rfl
 subst Pk;unfold Oper.wp;have Cg:(execOp a.eval o).run P w = .ok (.enter f #[.slice (some ⟨g.ρ k,q,none⟩) len cap,.func (.func c) #[] #[]]) w:=by
  have h1:(execOp a.eval o).run P w = .ok (.enter f (#[s,x].map a.eval)) w:=by simp only[execOp,ho,resolve];simp[Act.eval,Deferred.ofValue,invoke,D0 hf]
  rw[h1];have h2:#[s,x].map a.eval=#[.slice (some ⟨g.ρ k,q,none⟩) len cap,.func (.func c) #[] #[]]:=by
   have h3:#[s,x].map a.eval=#[a.eval s,a.eval x]:=by simp only[Bul,Bp3,Bpz]
   rw[h3,hv,hfv]
  rw[h2]
 rw[Cg];cases hr.objs k _ Mk with
 |cells _ _ arr T' hb hl hcc hty =>
 rw[Bpl]at hl;have hfl:∀m:A2 τ,(m.map ds).flatten.length=m.length*sz:=by
  intro m;induction m with
  |nil=>simp
  |cons x m ih=>simp only[Bp3,Bqt,Bq2,ih,hk,Bpk,Brj];omega
 have Aqs:l.length*sz≤arr.size:=by rw[← hfl];exact hl
 have Bk6:∀(j:Nat) d v,(l.map ds).flatten[j]? = some d→arr[j]? = some v→RD g.γ w d v:=by
  intro j d v hd hvv;have:=hcc j (.d d) v (by rw[Bp1,hd];rfl) hvv;cases this with
  |d _ _ h=>exact h
 have hd:(l.take len).length=len:=by simp;omega
 by_cases B9a:len=0
 ·subst B9a;refine(hN _ _ _).mono ?_;rintro e w' ⟨rfl,rfl⟩;have he:φ++l.drop 0=l:=by rw[← hφ [] (by simp) (by simp)];simp
  rw[he]at Ek;obtain⟨hw1,hw2⟩:=hr.write Mk (w':=w') (o':=.cells ((l.map ds).flatten.map .d) ty) rfl ⟨rfl,rfl,rfl,Bpa _⟩ (fun _ _=>rfl) (fun _=>.cells _ _ arr T' hb (by rw[Bpl];exact hl) hcc hty) (fun s h=>h);exact Ek g w' _ hw1 hw2 (.F2 _ _ rfl (by simp))
 ·have hq0:q=0:=hq.resolve_left (by omega);subst hq0;have Bor:g.ρ k<w.heap.size:=Et (hr.objs k _ Mk);obtain⟨row,r1,r2,r3⟩:=B2x (g:=g) (w:=w) hk Aqs Bk6 len hlen;let enc:El ds sz g w→A2 Value:=fun p=>p.1.2
  have hek:∀p,(enc p).length=sz:=fun p=>p.2.1
  have Bk7:∀p,∀v∈enc p,v.oneCell'=true:=by
   intro p v hvm;obtain⟨i,hi,rfl⟩:=List.mem_iff_getElem.1 hvm;have hi2:i<(ds p.1.1).length:=by rw[hk,← p.2.1];exact hi
   exact Aa7 (p.2.2 i _ _ (Bpd hi2) (Bpd hi)) (Iw _ _ (Bqi hi2))
  have hne:row≠[]:=by intro h;rw[h]at r1;simp at r1;omega
  letI:Inhabited (El ds sz g w):=⟨row.head hne⟩;let cf':El ds sz g w→El ds sz g w→Int:=fun p q=>cf p.1.1 q.1.1
  have Bg:∀p q,ltOf cf' p q=ltOf cf p.1.1 q.1.1:=fun _ _=>rfl
  have hO':SWO (ltOf cf'):=⟨fun x=>hO.irrefl _,fun x y z=>hO.trans _ _ _,fun x y z=>hO.ntrans _ _ _⟩;have hrs:row.toArray.size=len:=by simp[r1]
  have hH:HoldsK enc sz w (g.ρ k) 0 row.toArray:=by
   intro j hj;have Gb:j<len*sz:=by rw[size_flatK,hrs]at hj;exact hj
   have h1:=Ada hek row j (by rw[r1];exact Gb);have h2:=r3 j Gb;have h3:arr[j]? = some (flatK enc sz row.toArray)[j]!:=by rw[← h2];exact h1
   constructor
   ·rw[B6 hb,Bq7,h3];rfl
   ·simp[World.frozen?,hb]
  have Bhm:∀m dk os (hdk:dk.size=row.toArray.size),(∀b,g.γ b≠0→(sortWorldK enc sz w (g.ρ k) 0 m dk os).heap[b]? = w.heap[b]?)∧∀b s,w.shape? b=some s→(sortWorldK enc sz w (g.ρ k) 0 m dk os).shape? b=some s:=by
   intro m dk os hdk;have hold:∀b,b<w.heap.size→(sortWorldK enc sz w (g.ρ k) 0 m dk os).heap[b]? = (putRowK enc sz (Sort.ahead w m) (g.ρ k) 0 dk).heap[b]?:=by intro b hbl;exact heap_grow_old _ _ (by simpa[putRowK]using hbl)
   have Y5:∀b,b≠g.ρ k→(putRowK enc sz (Sort.ahead w m) (g.ρ k) 0 dk).heap[b]? = w.heap[b]?:=by intro b B9b;simp only[putRowK,putRow,mapBlock,Bql,But];rw[Bpp (Brl B9b)]
   refine⟨fun b hγ=>?_,fun b s hs=>?_⟩
   ·have hbl:=γ_lt hr (show 0<g.γ b by omega);rw[hold b hbl,Y5 b (by rintro rfl;exact hγ (hr.Fq k _ Mk))]
   ·have hbl:b<w.heap.size:=by
     rcases Brq b w.heap.size with h|h
     ·exact h
     ·simp[World.shape?,Bs8 h]at hs
    by_cases hbk:b=g.ρ k
    ·subst hbk;have Fp:(putRowK enc sz (Sort.ahead w m) (g.ρ k) 0 dk).heap[g.ρ k]? = some (.cells (putCells id 0 (flatK enc sz dk) arr) T' (0,0)):=by simp only[putRowK,putRow,mapBlock,Bql,But,hb];simp[onCells]
     simp only[World.shape?,hb]at hs;simp only[World.shape?,hold _ hbl,Fp];simpa[putCells]using hs
    ·simp only[World.shape?,hold b hbl,Y5 b hbk]at hs⊢;exact hs
  have Avb:CmpLays P c #[] enc sz cf' (g.ρ k) 0 row.toArray.size w:=by
   intro m os dk hdk p q;obtain⟨w1,w2⟩:=Bhm m dk os hdk;have hle:=B9c (w':=sortWorldK enc sz w (g.ρ k) 0 m dk os) hr.Ip w1 w2;have Ua:∀p:El ds sz g w,RA (full (sortWorldK enc sz w (g.ρ k) 0 m dk os)) (sortWorldK enc sz w (g.ρ k) 0 m dk os) (.d (.agg (ds p.1.1))) (.agg (enc p).toArray):=by intro p;refine .d _ _ (.agg _ _ (by simp[enc,hk,p.2.1]) ?_);intro i d v hdd hvv;exact(p.2.2 i d v hdd (by simpa[enc]using hvv)).mono hle
   have:=(hc p.1.1 q.1.1).grown (w:=sortWorldK enc sz w (g.ρ k) 0 m dk os) (vs:=#[.agg (enc p).toArray,.agg (enc q).toArray]) rfl (by
    intro i z v hz hvv
    match i with
    |0=>simp at hz hvv;subst hz;subst hvv;exact Ua p
    |1=>simp at hz hvv;subst hz;subst hvv;exact Ua q
    |n+2=>simp at hz)
   simpa using this
  have Us:=hS (El ds sz g w) enc hek Bk7 cf' hO' (g.ρ k) cap row.toArray w Avb hH Bor (by rw[hrs];exact Zu);rw[hrs]at Us;refine Us.mono ?_;rintro e w' ⟨rfl,d',n,os,Afj,Bk8,rfl⟩;obtain⟨p1,_,p3⟩:=Afj;rw[hrs]at p1;have B5k:d'.size=len:=p1;have hpm:d'.toList.Perm row:=by
   have h4:d'.extract 0 len=d':=by rw[← B5k];simp
   have h5:row.toArray.extract 0 len=row.toArray:=by rw[← hrs];simp
   rw[h4,h5]at p3;simpa using p3
  have Bk9:d'.toList.map (·.1.1)=φ:=by
   refine hφ _ ?_ ?_
   ·rw[← r2];exact hpm.map _
   ·rw[Bse,Bqk];intro i j hi hj hij;have M9:i<d'.size:=by simpa using hi
    have Gb:j<d'.size:=by simpa using hj
    have:=Bk8 i j (Brw _) hij (by omega);rw[Bud d' i M9,Bud d' j Gb]at this;simpa[Bg]using this
  let Cc:=putCells id 0 (flatK enc sz d') arr;have Fp:(putRowK enc sz (Sort.ahead w n) (g.ρ k) 0 d').heap[g.ρ k]? = some (.cells Cc T' (0,0)):=by simp only[putRowK,putRow,mapBlock,Bql,But,hb];simp[onCells,Cc]
  have Aia:Cc.size=arr.size:=by simp[Cc,putCells]
  have Pt:∀j (hj:j<arr.size),Cc[j]? = some (if j<len*sz then (flatK enc sz d')[j]! else arr[j]):=by intro j hj;simp only[Cc,putCells,Bw9,Bpq hj,Bq8,size_flatK,B5k,Brw,Bum,Bq7,Bs3,id]
  have B9e:φ.length=len:=by rw[← Bk9];simp[B5k]
  have Aan:(φ++l.drop len).length=l.length:=by simp[B9e];omega
  have hwr:HR nm B g (putRowK enc sz (Sort.ahead w n) (g.ρ k) 0 d') ⟨setObj k (.cells (((φ++l.drop len).map ds).flatten.map .d) ty) X.objs,X.live⟩∧Trans [] g w g (putRowK enc sz (Sort.ahead w n) (g.ρ k) 0 d'):=by
   refine hr.write Mk (by simp[putRowK]) ⟨rfl,rfl,rfl,by simp[putRowK]⟩ (fun b B9b=>?_) (fun htr=>?_) (fun s hs=>?_)
   ·simp only[putRowK,putRow,mapBlock,Bql,But];rw[Bpp (Brl B9b)]
   ·refine .cells _ _ Cc T' Fp (by rw[Aia,Bpl,hfl,Aan];exact Aqs) ?_ hty;intro j y v hy hv';rw[Bp1,Bp8]at hy;obtain⟨u,hu,rfl⟩:=hy;have Bde:j<l.length*sz:=by have:=(Bp2.1 hu).1;rw[hfl,Aan]at this;exact this
    have hja:j<arr.size:=by omega
    rw[Pt j hja]at hv';simp only[Bp0]at hv';rw[Bpn,Bsq,Bqh,hfl,B9e]at hu;refine .d _ _ (RD.mono ?_ htr.le);by_cases hj:j<len*sz
    ·rw[Bq6 hj]at hu hv';have hs0:0<sz:=by
      rcases Br8 sz with h|h
      ·rw[h]at hj;omega
      ·exact h
     have hq1:j/sz<len:=by rw[Btx hs0];exact hj
     have hq2:j % sz<sz:=Btz _ hs0;have hq3:j/sz<d'.size:=by omega
     rw[get_flatK enc sz _ _ (by rw[B5k];exact hj),Bud d' _ hq3]at hv';have hel:=d'[j/sz].2;have Bmk:φ[j/sz]? = some d'[j/sz].1.1:=by rw[← Bk9,Bp1,Br7,Bpq hq3];rfl
     have hu2:(φ.map ds).flatten[j]? = (ds d'[j/sz].1.1)[j % sz]?:=by
      have key:∀(m:A2 τ) (j:Nat),(m.map ds).flatten[j]? = (m[j/sz]?).bind fun x=>(ds x)[j % sz]?:=by
       intro m;induction m with
       |nil=>intro j;simp
       |cons x m ih =>
        intro j;simp only[Bp3,Bqt,Bqh,hk];split
        ·rename_i h;rw[Nat.div_eq_of_lt h,Bvp h];simp
        ·rename_i h;rw[ih,← Nat.sub_add_cancel (show sz≤j by omega)];simp only[Bsu,Nat.add_mod_right,Nat.add_div_right _ hs0];simp
      rw[key,Bmk];rfl
     rw[hu2]at hu;have hq4:j % sz<(enc d'[j/sz]).length:=by rw[hek];exact hq2
     rw[Bus,Bpd hq4]at hv';refine hel.2 (j % sz) u v hu ?_;rw[← hv'];exact Bpd hq4
    ·rw[Bpp hj]at hu hv';have h4:(l.map ds).flatten[j]? = some u:=by
      have:(l.map ds).flatten=((l.take len).map ds).flatten++((l.drop len).map ds).flatten:=by rw[← Bsq,← Bpn,Bra]
      rw[this,Brs (by rw[hfl,hd];omega),hfl,hd];exact hu
     refine Bk6 j u v h4 ?_;rw[Bpq hja,hv']
   ·simp only[World.shape?,hb]at hs;simp only[World.shape?,Fp,Aia];exact hs
  obtain⟨h6,h7⟩:=hwr;have Av9:HR nm B g (sortWorldK enc sz w (g.ρ k) 0 n d' os) _∧Trans [] g (putRowK enc sz (Sort.ahead w n) (g.ρ k) 0 d') g (sortWorldK enc sz w (g.ρ k) 0 n d' os) :=
   h6.grow (by simp[sortWorldK]) (fun b hbl=>heap_grow_old _ _ hbl) ⟨rfl,rfl,rfl,Bpa _⟩
  exact Ek g _ _ Av9.1 (h7.trans Av9.2) (.F2 _ _ rfl (by simp))
end
def B9f(P:Program)(f:FuncId)(t:TypeId):Prop :=
 ∀(b n:Nat) (arr:Array Value) (T:TypeId) (w:World),w.heap[b]? = some (.cells arr T (0,0))→arr[1]? = some (.slice none 0 0)→n≤140737488355328 →
  Calls P f #[.pointer (some ⟨b,0,none⟩),.int .i64 n] w fun e w'=>e = .returned (.tuple #[])∧∃cs:Array Value,n≤cs.size ∧
   w'=((w.setCell ⟨b,1,none⟩ (.slice (some ⟨w.heap.size,0,none⟩) 0 cs.size)).alloc (.cells cs t)).drew.drew.drew
variable{c f:FuncId}
def Bdl{o:Oper}{m:Nat}{c0:AV}
  (ho:o.op = .call { callee:=.value (.func f),args:=#[s,x],argTypes:=ts }) (hf:Ed P f) (hC:B9f P f t) (hn:n≤140737488355328)
  (hk:X.objs.lookup k=some (.cells [c0,.d (.sc (.slice none 0 0))] ty)) (hm:m∉X.live) (hX:B1 [m] X=true) :
  Bi P o [(s,.ptr k 0),(x,.d (.sc (.int .i64 n)))] X ⟨setObj k (.cells [c0,.Be m 1 [] (some t)] ty) X.objs,m::X.live⟩ [m] (.F2 []):=by
 intro nm Ej B g w a hr Au next Q Ek
 have e1:=(Is Au).Ko;have e2:=(Y4 Au).Ap;simp only at e1 e2;unfold Oper.wp;have Cg:(execOp a.eval o).run P w = .ok (.enter f #[.pointer (some ⟨g.ρ k,0,none⟩),.int .i64 n]) w:=by
  have h1:(execOp a.eval o).run P w = .ok (.enter f (#[s,x].map a.eval)) w:=by simp only[execOp,ho,resolve];simp[Act.eval,Deferred.ofValue,invoke,D0 hf]
  rw[h1];have h3:#[s,x].map a.eval=#[a.eval s,a.eval x]:=by simp only[Bul,Bp3,Bpz]
  rw[h3,e1,e2]
 rw[Cg];cases hr.objs k _ hk with
 |cells _ _ arr T hb hlen hc hty =>
 have Hc:2≤arr.size:=by simpa using hlen
 have h1:arr[1]? = some (.slice none 0 0):=by rw[Bpq (by omega)];have:=hc 1 _ _ rfl (Bpq (by omega));rw[this.Ap]
 refine(hC (g.ρ k) n arr T w hb h1 hn).mono ?_;rintro e w' ⟨rfl,cs,Rq,rfl⟩;have Bg:g.ρ k<w.heap.size:=Et (hr.objs k _ hk);generalize hv:Value.slice (some ⟨w.heap.size,0,none⟩) 0 cs.size=v;let wA:World:=(w.alloc (.cells cs t)).drew.drew.drew;have hAs:wA.heap.size=w.heap.size+1:=by simp[wA]
 have Bgg:∀b,b<w.heap.size→wA.heap[b]? = w.heap[b]?:=fun b hb=>Ow w _ hb
 have Bka:wA.heap[w.heap.size]? = some (.cells cs t (0,0)):=by show(w.heap.push (.cells cs t))[w.heap.size]? = _;rw[Array.getElem?_push_size]
 have B8n:((w.setCell ⟨g.ρ k,1,none⟩ v).alloc (.cells cs t)).drew.drew.drew=wA.setCell ⟨g.ρ k,1,none⟩ v:=by
  have:(w.setCell ⟨g.ρ k,1,none⟩ v).alloc (.cells cs t)=(w.alloc (.cells cs t)).setCell ⟨g.ρ k,1,none⟩ v:=by
   unfold World.setCell World.alloc;simp only;congr 1;apply Array.ext_getElem?;intro i;rw[Btm,Bql,Bql,Btm,Array.size_modify];by_cases hi:i=w.heap.size
   ·subst hi;have:¬g.ρ k=w.heap.size:=by omega
    simp[this]
   ·simp[hi]
  rw[this];rfl
 rw[B8n];obtain⟨hr1,ht1⟩:=hr.grow (w':=wA) (by omega) Bgg ⟨rfl,rfl,rfl,by show w.drawn≤w.drawn+1+1+1;omega⟩;have hγ:g.γ w.heap.size=0:=by
  rcases Br8 (g.γ w.heap.size)with h|h
  ·exact h
  ·exact absurd (γ_lt hr h) (Bri _)
 obtain⟨hr2,Wb⟩:=hr1.Ps hm (some w.heap.size) hX (by
  intro b hb;cases hb;refine⟨by omega,.inl hr.base,?_,?_,?_⟩
  ·intro j ob hj he;have:=Et (hr.objs j ob hj);omega
  ·intro q hq;have:=hr.C7 q _ hq;omega
  ·intro L i hL he;have:=hr.eta.lt L i _ hL he;omega)
 let g2:Gh:={ g with β:=O6 g.β m (some (some w.heap.size)),η:=O6 g.η m fun _=>none };have hbA:wA.heap[g.ρ k]? = some (.cells arr T (0,0)):=(Bgg _ Bg).trans hb;have Zt:(wA.setCell ⟨g.ρ k,1,none⟩ v).heap[g.ρ k]? = some (.cells (arr.setIfInBounds 1 v) T (0,0)):=by simp[World.setCell,Bql,hbA]
 have Y5:∀b,b≠g.ρ k→(wA.setCell ⟨g.ρ k,1,none⟩ v).heap[b]? = wA.heap[b]?:=by intro b hb;simp[World.setCell,Bql,Brl hb]
 obtain⟨hr3,ht3⟩:=hr2.write (w':=wA.setCell ⟨g.ρ k,1,none⟩ v) (k:=k) hk (o':=.cells [c0,.Be m 1 [] (some t)] ty) (by simp[World.setCell]) ⟨rfl,rfl,rfl,Bpa _⟩ Y5 (by
  intro ht';refine .cells _ ty (arr.setIfInBounds 1 v) T Zt (by simpa using Hc) ?_ hty;intro i z u hz hu
  match i,hz with
  |0,hz =>
   cases hz;have hf0:Z5 [m] c0:=by
    rcases Hj hX hk with h|h
    ·cases h
    ·simp only[F4,Bq,Bq4]at h;exact Pj h.1
   rw[Array.getElem?_setIfInBounds_ne (by omega)]at hu;exact((((hc 0 _ _ rfl hu).mono ht1 (.nil _)).mono Wb hf0)).mono ht' (.nil _)
  |1,hz =>
   cases hz;have hu':u=v:=by rw[Array.getElem?_setIfInBounds_self_of_lt (by omega)]at hu;exact(Brf hu).symm
   rw[hu',← hv];refine .Be _ _ _ _ _ (.sl 1 [] w.heap.size 0 0 cs.size rfl (by simp) (by simp) (by simp) (by simp)) ?_;intro ob Ga;have:ob=some w.heap.size:=by simp only[Ac]at Ga;exact(Brf Ga).symm
   subst this;have hnb:(wA.setCell ⟨g.ρ k,1,none⟩ v).heap[w.heap.size]? = some (.cells cs t (0,0)):=(Y5 _ (by omega)).trans Bka;rw[hv];refine⟨rfl,rfl,by simpa using hγ,?_,?_⟩
   ·intro j _ hj;refine⟨?_,Lib.frozen_of_heap hnb j⟩;rw[Bvq hnb];have Gb:j<cs.size:=by simpa using hj
    rw[Bpq Gb];rfl
   ·intro e he;cases he;exact⟨rfl,cs.size,by simp only[World.shape?,hnb]⟩
  |i+2,hz=>simp at hz) (by
  intro s' Gu;simp only[World.shape?,hbA]at Gu;simp only[World.shape?,Zt];simpa using Gu)
 exact Ek g2 _ _ hr3 (by simpa using(ht1.trans Wb).trans ht3) (.F2 _ _ rfl (by simp))
end Go.Ab
namespace Go.Xl
open Go.Ab
inductive Ty where
 |int (k:IntKind)
 |u8
 |bool
 |str
 |sl (t:Ty)
 |unit
 |pair (a b:Ty)
 |st1 (a:Ty)
 |tab (a:Ty)
 |err
 |ic (t:TypeId) (k:IntKind)
 |ptr
@[reducible] def Ty.T:Ty→Type
 |.int _=>Int
 |.u8=>UInt8
 |.bool=>Bool
 |.str=>A2 UInt8
 |.sl t=>List t.T
 |.unit=>Unit
 |.pair a b=>a.T×b.T
 |.st1 a=>a.T
 |.tab a=>List a.T
 |.err=>Bool
 |.ic _ _=>A3 Int
 |.ptr=>Unit
def Le:IntKind→IntKind→Bool
 |.i8,.i8|.i16,.i16|.i32,.i32|.i64,.i64|.u8,.u8|.u16,.u16|.u32,.u32|.u64,.u64=>true
 |_,_=>false
def Hd{a b:IntKind}(h:Le a b=true):a=b:=by cases a<;>cases b<;>first|rfl|(simp[Le]at h)
def Ty.Jm:Ty→Ty→Bool
 |.int k,.int k'=>Le k k'
 |.u8,.u8=>true
 |.bool,.bool=>true
 |.str,.str=>true
 |.sl a,.sl b=>a.Jm b
 |.unit,.unit=>true
 |.pair a b,.pair c d=>cond (a.Jm c) (b.Jm d) false
 |.st1 a,.st1 b=>a.Jm b
 |.tab a,.tab b=>a.Jm b
 |.err,.err=>true
 |.ic t k,.ic t' k'=>cond (Nat.beq t t') (Le k k') false
 |.ptr,.ptr=>true
 |_,_=>false
def Ty.Am:∀ {a b:Ty},a.Jm b=true→a=b:=by
 intro a;induction a with
 |int k=>intro b h;cases b<;>simp[Ty.Jm]at h;rw[Hd h]
 |u8=>intro b h;cases b<;>simp[Ty.Jm]at h;rfl
 |bool=>intro b h;cases b<;>simp[Ty.Jm]at h;rfl
 |str=>intro b h;cases b<;>simp[Ty.Jm]at h;rfl
 |sl t ih=>intro b h;cases b<;>simp[Ty.Jm]at h;rw[ih h]
 |unit=>intro b h;cases b<;>simp[Ty.Jm]at h;rfl
 |pair x y ihx ihy=>intro b h;cases b<;>simp[Ty.Jm]at h;rw[ihx h.1,ihy h.2]
 |st1 t ih=>intro b h;cases b<;>simp[Ty.Jm]at h;rw[ih h]
 |tab t ih=>intro b h;cases b<;>simp[Ty.Jm]at h;rw[ih h]
 |err=>intro b h;cases b<;>simp[Ty.Jm]at h;rfl
 |ptr=>intro b h;cases b<;>simp[Ty.Jm]at h;rfl
 |ic t k =>
  intro b h;cases b with
  |ic t' k' =>
   simp only[Ty.Jm]at h;cases hb:Nat.beq t t' with
   |false=>simp[hb]at h
   |true=>simp only[hb,Bov]at h;rw[Boy hb,Hd h]
  |_=>simp[Ty.Jm]at h
def Ty.size:Ty→Nat
 |.unit=>0
 |.pair a b=>a.size+b.size
 |.st1 a=>a.size
 |_=>1
inductive XD where
 |i (k:IntKind) (n:Int)
 |u8 (b:UInt8)
 |b (b:Bool)
 |s (l:List UInt8)
 |v (v:Value)
 |agg (cs:List XD)
 |sl (t:Ty) (l:List t.T)
 |ep (cs:List XD)
 |pa (t:Ty) (l:List t.T)
 |er (b:Bool)
 |pp
 |ic (t:TypeId) (k:IntKind) (x:Option Int)
 |ag (t:Ty) (l:List t.T)
def Ty.enc:(t:Ty)→t.T→A2 XD
 |.int k,n=>[.i k n]
 |.u8,x=>[.u8 x]
 |.bool,x=>[.b x]
 |.str,x=>[.s x]
 |.sl t,l=>[.sl t l]
 |.unit,_=>[]
 |.pair a b,x=>a.enc x.1++b.enc x.2
 |.st1 a,x=>a.enc x
 |.tab t,l=>[.pa t l]
 |.err,b=>[.er b]
 |.ic t k,x=>[.ic t k x]
 |.ptr,_=>[.pp]
def Ty.xv:(t:Ty)→t.T→XD
 |.int k,n=>.i k n
 |.u8,x=>.u8 x
 |.bool,x=>.b x
 |.str,x=>.s x
 |.sl t,l=>.sl t l
 |.unit,_=>.agg []
 |.pair a b,x=>.agg (a.enc x.1++b.enc x.2)
 |.st1 a,x=>.agg (a.enc x)
 |.tab t,l=>.pa t l
 |.err,b=>.er b
 |.ic t k,x=>.ic t k x
 |.ptr,_=>.pp
def Aqt(v:Value):Prop:=∃a,v = .pointer a
def isIface(v:Value):Prop:=∃t u,v = .iface t u
def erD(b:Bool):D:=cond b (.any isIface) (.sc .nilIface)
def Bdm(b:Bool):A0z (erD b)=true:=by cases b<;>rfl
def icV(t:TypeId)(k:IntKind):A3 Int→Value
 |none=>.nilIface
 |some n=>.iface t (.int k n)
def Bdn(t:TypeId)(k:IntKind)(x:A3 Int):(icV t k x).oneCell'=true:=by cases x<;>rfl
def Ty.ds:(t:Ty)→t.T→A2 D
 |.int k,n=>[.int k n]
 |.u8,x=>[.sc (.int .u8 (x.toNat:Int))]
 |.bool,x=>[.bool x]
 |.str,x=>[.bs x]
 |.sl t,l=>[.sl t.size (l.map t.ds)]
 |.unit,_=>[]
 |.pair a b,x=>a.ds x.1++b.ds x.2
 |.st1 a,x=>a.ds x
 |.tab t,l=>[.ep ((l.map t.ds).flatten)]
 |.err,b=>[erD b]
 |.ic t k,x=>[.sc (icV t k x)]
 |.ptr,_=>[.any Aqt]
def XD.isAgg:XD→Bool
 |.agg _=>true
 |.ag _ _=>true
 |_=>false
mutual
def XD.d:XD→D
 |.i k n=>.int k n
 |.u8 x=>.sc (.int .u8 (x.toNat:Int))
 |.b x=>.bool x
 |.s l=>.bs l
 |.v u=>.sc u
 |.agg cs=>.agg (D1 cs)
 |.sl t l=>.sl t.size (l.map t.ds)
 |.ep cs=>.ep (D1 cs)
 |.pa t l=>.ep ((l.map t.ds).flatten)
 |.er b=>erD b
 |.ic t k x=>.sc (icV t k x)
 |.pp=>.any Aqt
 |.ag t l=>.agg ((l.map t.ds).flatten)
def D1:List XD→List D
 |[]=>[]
 |x::r=>x.d::D1 r
end
def He(l:A2 XD):D1 l=l.map XD.d:=by
 induction l with
 |nil=>rfl
 |cons x r ih=>simp[D1,ih]
def Yk(a b:A2 XD):D1 (a++b)=D1 a++D1 b:=by simp[He]
def Gj(l:A2 XD):(D1 l).length=l.length:=by simp[He]
theorem Ty.Mu:∀(t:Ty) (x:t.T),D1 (t.enc x)=t.ds x
 |.int k,n=>rfl
 |.u8,x=>rfl
 |.bool,x=>rfl
 |.str,x=>rfl
 |.sl t,l=>rfl
 |.unit,_=>rfl
 |.pair a b,x=>by simp only[Ty.enc,Ty.ds,Yk,Ty.Mu a,Ty.Mu b]
 |.st1 a,x=>by simp only[Ty.enc,Ty.ds,Ty.Mu a]
 |.tab t,l=>rfl
 |.err,b=>rfl
 |.ic t k,x=>rfl
 |.ptr,_=>rfl
theorem Ty.Cj:∀(t:Ty) (x:t.T),(t.ds x).length=t.size
 |.int k,n=>rfl
 |.u8,x=>rfl
 |.bool,x=>rfl
 |.str,x=>rfl
 |.sl t,l=>rfl
 |.unit,_=>rfl
 |.pair a b,x=>by simp only[Ty.ds,Ty.size,Bq2,Ty.Cj a,Ty.Cj b]
 |.st1 a,x=>by simp only[Ty.ds,Ty.size,Ty.Cj a]
 |.tab t,l=>rfl
 |.err,b=>rfl
 |.ic t k,x=>rfl
 |.ptr,_=>rfl
def Ty.A86(t:Ty)(x:t.T):(t.enc x).length=t.size:=by rw[← Gj,Ty.Mu,Ty.Cj]
theorem Ty.Wg:∀(t:Ty) (x:t.T),∀c∈t.ds x,A0z c=true
 |.int k,n=>by simp[Ty.ds,A0z,Value.oneCell']
 |.u8,x=>by simp[Ty.ds,A0z,Value.oneCell']
 |.bool,x=>by simp[Ty.ds,A0z,Value.oneCell']
 |.str,x=>by simp[Ty.ds,A0z,Value.oneCell']
 |.sl t,l=>by simp[Ty.ds,A0z]
 |.unit,_=>by simp[Ty.ds]
 |.pair a b,x=>by
  intro c hc;simp only[Ty.ds,Bp4]at hc;rcases hc with h|h
  ·exact Ty.Wg a _ c h
  ·exact Ty.Wg b _ c h
 |.st1 a,x=>by simp only[Ty.ds];exact Ty.Wg a x
 |.tab t,l=>by simp[Ty.ds,A0z]
 |.err,b=>by simp only[Ty.ds,Bpg];rintro c rfl;exact Bdm b
 |.ic t k,x=>by simp only[Ty.ds,Bpg];rintro c rfl;exact Bdn t k x
 |.ptr,_=>by simp only[Ty.ds,Bpg];rintro c rfl;rfl
def DLe(x y:D):Prop:=∀(γ:Nat→Nat) (w:World) (v:Value),RD γ w x v→RD γ w y v
def DLe.refl(x:D):DLe x x:=fun _ _ _ h=>h
inductive Lw:List D→List D→Prop
 |nil:Lw [] []
 |cons {x y:D} {r s:List D}:DLe x y→Lw r s→Lw (x::r) (y::s)
theorem Lw.refl:∀(l:A2 D),Lw l l
 |[]=>.nil
 |x::r=>.cons (.refl x) (Lw.refl r)
variable{b ok:Bool}{c:A2 D}{k j n sz off fo len m clock:Nat}{cs r xs:A2 XD}{t e s t' pt it:TypeId}{F live:A2 Nat}{ty kt:Ty}{γ:Nat→Nat}{w:World}{fs:A2 (A2 D)}{h:Int}{u zv:Value}
def Lw.append{a b d:A2 D}(h:Lw a b)(h':Lw c d):Lw (a++c) (b++d):=by
 induction h with
 |nil=>exact h'
 |cons h1 _ ih=>exact .cons h1 ih
theorem Lw.length{a b:A2 D}(h:Lw a b):a.length=b.length:=by
 induction h with
 |nil=>rfl
 |cons _ _ ih=>simp[ih]
def Lw.get{a b:A2 D}(h:Lw a b):∀ {i:Nat} {y:D},b[i]? = some y→∃x,a[i]? = some x∧DLe x y:=by
 induction h with
 |nil=>intro i y hy;simp at hy
 |cons h1 _ ih =>
  intro i y hy;cases i with
  |zero=>simp at hy;subst hy;exact⟨_,rfl,h1⟩
  |succ i=>simp at hy;simpa using ih hy
theorem Lw.agg{a b:A2 D}(h:Lw a b):DLe (.agg a) (.agg b):=by
 intro γ w v hr;cases hr with
 |agg _ vs hl hc =>
  refine .agg b vs (h.length▸hl) fun i c u hb hu=>?_
  obtain⟨x,hx,hle⟩:=h.get hb;exact hle _ _ _ (hc i x u hx hu)
def DLe.Bkb(sz:Nat)(a:Addr)(cap:Nat):DLe (.sc (.slice (some a) 0 cap)) (.sl sz []):=by intro γ w v h;cases h;exact .nil sz (some a) cap (by simp)
theorem DLe.nil(sz:Nat):DLe (.sc (.slice none 0 0)) (.sl sz []):=by intro γ w v hr;cases hr;exact .nil sz none 0 fun _=>rfl
def Bdo(k:IntKind):A2 XD→A3 (Int×A2 XD)
 |.i k' n::r=>cond (Le k' k) (some (n,r)) none
 |.u8 x::r=>cond (Le .u8 k) (some (((x.toNat:Nat):Int),r)) none
 |_=>none
def B2y:A2 XD→A3 (UInt8×A2 XD)
 |.u8 x::r=>some (x,r)
 |_=>none
def Bdp:A2 XD→A3 (Bool×A2 XD)
 |.b x::r=>some (x,r)
 |_=>none
def Bdq:A2 XD→A3 (A2 UInt8×A2 XD)
 |.s x::r=>some (x,r)
 |_=>none
def Bdr(t:Ty):A2 XD→A3 (List t.T×A2 XD)
 |.sl t' l::r=>if h:t'.Jm t=true then some (Ty.Am h▸l,r)else none
 |.v (.slice none 0 0)::r=>some ([],r)
 |.v (.slice (some _) 0 _)::r=>some ([],r)
 |_=>none
def Bds(t:Ty):A2 XD→A3 (List t.T×A2 XD)
 |.pa t' l::r=>if h:t'.Jm t=true then some (Ty.Am h▸l,r)else none
 |_=>none
def Bdt:A2 XD→A3 (Bool×A2 XD)
 |.er b::r=>some (b,r)
 |.ic t k x::r=>some (x.isSome,r)
 |.v .nilIface::r=>some (false,r)
 |_=>none
def B2z(t:TypeId)(k:IntKind):A2 XD→A3 (A3 Int×A2 XD)
 |.ic t' k' x::r=>cond (Nat.beq t' t) (cond (Le k' k) (some (x,r)) none) none
 |.v .nilIface::r=>some (none,r)
 |_=>none
def Bdu:A2 XD→A3 (Unit×A2 XD)
 |.pp::r=>some ((),r)
 |.v (.pointer _)::r=>some ((),r)
 |_=>none
def Ty.dec:(t:Ty)→A2 XD→A3 (t.T×A2 XD)
 |.int k=>Bdo k
 |.u8=>B2y
 |.bool=>Bdp
 |.str=>Bdq
 |.sl t=>Bdr t
 |.unit=>fun r=>some ((),r)
 |.pair a b=>fun cs=>match a.dec cs with
  |some p=>match b.dec p.2 with
   |some q=>some ((p.1,q.1),q.2)
   |none=>none
  |none=>none
 |.st1 a=>a.dec
 |.tab t=>Bds t
 |.err=>Bdt
 |.ic t k=>B2z t k
 |.ptr=>Bdu
def B5l{k:IntKind}{x:Int}(h:Bdo k cs=some (x,r)):∃ds,D1 cs=ds++D1 r∧Lw ds [.int k x]:=by
 unfold Bdo at h;split at h
 ·rename_i k' n r';cases hk:Le k' k<;>simp[hk]at h;have:=Hd hk;subst this;obtain⟨rfl,rfl⟩:=h;exact⟨[_],by simp[D1,XD.d],.refl _⟩
 ·rename_i x' r';cases hk:Le .u8 k<;>simp[hk]at h;have:=Hd hk;subst this;obtain⟨rfl,rfl⟩:=h;exact⟨[_],by simp[D1,XD.d],.refl _⟩
 ·cases h
def Azj{x:UInt8}(h:B2y cs=some (x,r)):∃ds,D1 cs=ds++D1 r∧Lw ds (Ty.u8.ds x):=by
 unfold B2y at h;split at h
 ·cases h;exact⟨[_],by simp[D1,XD.d],.refl _⟩
 ·cases h
def B5m{x:Bool}(h:Bdp cs=some (x,r)):∃ds,D1 cs=ds++D1 r∧Lw ds (Ty.bool.ds x):=by
 unfold Bdp at h;split at h
 ·cases h;exact⟨[_],by simp[D1,XD.d],.refl _⟩
 ·cases h
def B5n{x:A2 UInt8}(h:Bdq cs=some (x,r)):∃ds,D1 cs=ds++D1 r∧Lw ds (Ty.str.ds x):=by
 unfold Bdq at h;split at h
 ·cases h;exact⟨[_],by simp[D1,XD.d],.refl _⟩
 ·cases h
def B5o{t:Ty}{x:List t.T}(h:Bdr t cs=some (x,r)):∃ds,D1 cs=ds++D1 r∧Lw ds (Ty.ds (.sl t) x):=by
 unfold Bdr at h;split at h
 ·rename_i t' l r';split at h
  ·rename_i ht;simp only[Bp0,Bpm]at h;obtain⟨rfl,rfl⟩:=h;have e:=Ty.Am ht;subst e;exact⟨[_],by simp[D1,XD.d],.refl _⟩
  ·cases h
 ·cases h;exact⟨[_],by simp[D1,XD.d],.cons (.nil _) .nil⟩
 ·cases h;exact⟨[_],rfl,.cons (.Bkb _ _ _) .nil⟩
 ·cases h
def B5p{t:Ty}{x:List t.T}(h:Bds t cs=some (x,r)):∃ds,D1 cs=ds++D1 r∧Lw ds (Ty.ds (.tab t) x):=by
 unfold Bds at h;split at h
 ·rename_i t' l r';split at h
  ·rename_i ht;simp only[Bp0,Bpm]at h;obtain⟨rfl,rfl⟩:=h;have e:=Ty.Am ht;subst e;exact⟨[_],by simp[D1,XD.d],.refl _⟩
  ·cases h
 ·cases h
def B5q{x:Bool}(h:Bdt cs=some (x,r)):∃ds,D1 cs=ds++D1 r∧Lw ds (Ty.err.ds x):=by
 unfold Bdt at h;split at h
 ·cases h;exact⟨[_],rfl,.refl _⟩
 ·rename_i t k x r;cases h;refine⟨[_],rfl,.cons ?_ .nil⟩;intro γ w v hr;cases hr;cases x with
  |none=>exact .sc _
  |some n=>exact .any _ _ ⟨t,_,rfl⟩ rfl
 ·cases h;exact⟨[_],rfl,.refl _⟩
 ·cases h
def Azk{k:IntKind}{x:A3 Int}(h:B2z t k cs=some (x,r)):∃ds,D1 cs=ds++D1 r∧Lw ds ((Ty.ic t k).ds x):=by
 unfold B2z at h;split at h
 ·rename_i t' k' y r';cases hb:Nat.beq t' t with
  |false=>simp[hb]at h
  |true =>
   cases hk:Le k' k with
   |false=>simp[hb,hk]at h
   |true =>simp only[hb,hk,Bov,Bp0,Bpm]at h;obtain⟨rfl,rfl⟩:=h;rw[Boy hb,Hd hk];exact⟨[_],rfl,.refl _⟩
 ·cases h;exact⟨[_],rfl,.refl _⟩
 ·cases h
def B5r{x:Unit}(h:Bdu cs=some (x,r)):∃ds,D1 cs=ds++D1 r∧Lw ds (Ty.ptr.ds x):=by
 unfold Bdu at h;split at h
 ·cases h;exact⟨[_],rfl,.refl _⟩
 ·rename_i a r';cases h;refine⟨[_],rfl,.cons ?_ .nil⟩;intro γ w v hr;cases hr;exact .any _ _ ⟨a,rfl⟩ rfl
 ·cases h
def Ty.Wh:∀(t:Ty) {cs:A2 XD} {x:t.T} {r:A2 XD},t.dec cs=some (x,r)→∃ds,D1 cs=ds++D1 r∧Lw ds (t.ds x):=by
 intro t;induction t with
 |int k=>intro cs x r h;exact B5l h
 |u8=>intro cs x r h;exact Azj h
 |bool=>intro cs x r h;exact B5m h
 |str=>intro cs x r h;exact B5n h
 |sl t ih=>intro cs x r h;exact B5o h
 |unit =>intro cs x r h;simp[Ty.dec]at h;exact⟨[],by simp[h],.nil⟩
 |pair a b iha ihb =>
  intro cs x r h;unfold Ty.dec at h;split at h
  ·rename_i p hp;split at h
   ·rename_i q hq;cases h;obtain⟨d1,h1,l1⟩:=iha (x:=p.1) (r:=p.2) hp;obtain⟨d2,h2,l2⟩:=ihb (x:=q.1) (r:=q.2) hq;exact⟨d1++d2,by rw[h1,h2];simp,by simpa[Ty.ds]using l1.append l2⟩
   ·cases h
  ·cases h
 |st1 a iha =>intro cs x r h;exact iha h
 |tab t ih=>intro cs x r h;exact B5p h
 |err=>intro cs x r h;exact B5q h
 |ic t k=>intro cs x r h;exact Azk h
 |ptr=>intro cs x r h;exact B5r h
def XD.cells:XD→A2 XD
 |.agg cs=>cs
 |.ag t l=>(l.map t.enc).flatten
 |x=>[x]
theorem Avc(t:Ty):∀(l:List t.T),D1 ((l.map t.enc).flatten)=(l.map t.ds).flatten
 |[]=>rfl
 |x::r=>by rw[Bp3,Bqt,Yk,Avc t r,t.Mu];rfl
def XD.Bgh{x:XD}(h:x.isAgg=true):x.d = .agg (D1 x.cells):=by
 cases x with
 |agg cs=>rfl
 |ag t l=>simp only[XD.d,XD.cells,Avc]
 |_=>simp[XD.isAgg]at h
def Ty.agg:Ty→Bool
 |.unit=>true
 |.pair _ _=>true
 |.st1 _=>true
 |_=>false
def Ty.A87(t:Ty)(x:XD):Option t.T :=
 cond (cond t.agg x.isAgg (cond x.isAgg false true)) (match t.dec x.cells with
  |some (y,[])=>some y
  |_=>none) none
def Ty.dv(t:Ty)(x:t.T):D:=(t.xv x).d
def Ty.A14(t:Ty)(x:t.T)(h:t.agg=true):t.dv x = .agg (t.ds x):=by cases t<;>simp[Ty.agg]at h<;>simp[Ty.dv,Ty.xv,XD.d,D1,Ty.ds,Yk,Ty.Mu]
def Ty.A15(t:Ty)(x:t.T)(h:t.agg=false):t.ds x=[t.dv x]:=by cases t<;>simp[Ty.agg]at h<;>rfl
def Ty.Nq(t:Ty){x:XD}{y:t.T}(h:t.A87 x=some y):DLe x.d (t.dv y):=by
 unfold Ty.A87 at h;cases ht:t.agg with
 |true =>
  simp only[ht,Bov]at h;cases hx:x.isAgg with
  |false=>simp[hx]at h
  |true =>
   simp only[hx,Bov]at h;split at h
   ·rename_i y' hd;cases h;obtain⟨ds,h1,h2⟩:=t.Wh hd;rw[t.A14 _ ht,XD.Bgh hx];simp only[D1,Bq0]at h1;rw[h1];exact h2.agg
   ·cases h
 |false =>
  simp only[ht,Box]at h;cases hx:x.isAgg with
  |true=>simp[hx]at h
  |false =>
   simp only[hx,Box,Bov]at h;have hc:x.cells=[x]:=by cases x<;>first|rfl|(simp[XD.isAgg]at hx)
   rw[hc]at h;split at h
   ·rename_i y' hd;cases h;obtain⟨ds,h1,h2⟩:=t.Wh hd;rw[t.A15 _ ht]at h2;simp only[D1,Bq0]at h1;subst h1;cases h2 with
    |cons h3 _=>exact h3
   ·cases h
inductive XV where
 |d (x:XD)
 |nm (k:Nat) (p:PK)
 |Be (n:Nat) (t:Ty) (l:List t.T) (ty:Option TypeId)
 |F2 (l:List XV)
 |agg (l:List XV)
 |F1 (f:Nat) (Jd:List XV)
 |os (k:Nat) (t:Ty) (a len:Nat)
 |el (k:Nat) (t:Ty) (i fo:Nat)
 |Vs (n e:Nat) (x:UInt8) (l:List UInt8)
mutual
def XV.a:XV→AV
 |.d x=>.d x.d
 |.nm k p=>.nm k p
 |.Be n t l ty=>.Be n t.size (l.map t.ds) ty
 |.F2 l=>.F2 (A7 l)
 |.agg l=>.agg (A7 l)
 |.F1 f l=>.F1 f (A7 l)
 |.os k t a len=>.nm k (.s (a*t.size) len t.size)
 |.el k t i fo=>.nm k (.p (i*t.size+fo))
 |.Vs n e x l=>.Vs n e (A3c (x::l))
def A7:List XV→List AV
 |[]=>[]
 |x::r=>x.a::A7 r
end
def Qu(l:A2 XV):A7 l=l.map XV.a:=by
 induction l with
 |nil=>rfl
 |cons x r ih=>simp[A7,ih]
def Ah(l:A2 XV):(A7 l).length=l.length:=by simp[Qu]
def Lf(l:A2 XV)(i:Nat):(A7 l)[i]? = (l[i]?).map XV.a:=by simp[Qu]
def Dc(a b:A2 XV):A7 (a++b)=A7 a++A7 b:=by simp[Qu]
def A2n:D→Value
 |.sc v=>v
 |.agg cs=>.agg (B30 cs).toArray
 |_=>undef
where B30:A2 D→A2 Value
 |[]=>[]
 |x::r=>A2n x::B30 r
inductive Sh where
 |nil
 |d (t:Ty) (r:Sh)
 |m (kt vt:Ty) (r:Sh)
 |s (a:Sh) (ty:Option TypeId) (r:Sh)
 |z (a:Sh) (ty:Option TypeId) (r:Sh)
@[reducible] def Sh.T:Sh→Type
 |.nil=>Unit
 |.d t r=>t.T×r.T
 |.m kt vt r=>A3 (A2 (Nat×kt.T×vt.T)×Nat)×r.T
 |.s a _ r=>a.T×r.T
 |.z a _ r=>Option a.T×r.T
def Sh.Jm:Sh→Sh→Bool
 |.nil,.nil=>true
 |.d t r,.d t' r'=>cond (t.Jm t') (r.Jm r') false
 |.m k v r,.m k' v' r'=>cond (k.Jm k') (cond (v.Jm v') (r.Jm r') false) false
 |.s a ty r,.s a' Y8 r'=>cond (a.Jm a') (cond (ty==Y8) (r.Jm r') false) false
 |.z a ty r,.z a' Y8 r'=>cond (a.Jm a') (cond (ty==Y8) (r.Jm r') false) false
 |_,_=>false
theorem Sh.Am:∀ {a b:Sh},a.Jm b=true→a=b:=by
 have cc:∀ {a b:Bool},cond a b false=true→a=true∧b=true:=by intro a b h;cases a<;>first|exact⟨rfl,h⟩|cases h
 intro a;induction a with
 |nil=>intro b h;cases b<;>first|rfl|cases h
 |d t r ih =>
  intro b h;cases b<;>first|(cases h;done)|skip
  obtain⟨h1,h2⟩:=cc h;rw[Ty.Am h1,ih h2]
 |m k v r ih =>
  intro b h;cases b<;>first|(cases h;done)|skip
  obtain⟨h1,h2⟩:=cc h;obtain⟨h2,h3⟩:=cc h2;rw[Ty.Am h1,Ty.Am h2,ih h3]
 |s a ty r ih1 ih2 =>
  intro b h;cases b<;>first|(cases h;done)|skip
  obtain⟨h1,h2⟩:=cc h;obtain⟨h2,h3⟩:=cc h2;rw[ih1 h1,eq_of_beq h2,ih2 h3]
 |z a ty r ih1 ih2 =>
  intro b h;cases b<;>first|(cases h;done)|skip
  obtain⟨h1,h2⟩:=cc h;obtain⟨h2,h3⟩:=cc h2;rw[ih1 h1,eq_of_beq h2,ih2 h3]
def H0:Nat:=1000000000000000000
def Fj(h i:Nat):Nat:=H0+(h*1000+i)
def Qv(h i:Nat):H0≤Fj h i:=Nat.le_add_right _ _
inductive A9 where
 |cells (cs:List XV) (ty:Option TypeId)
 |arr (t:Ty) (l:List t.T)
 |Vt (s:List UInt8) (pos:Nat)
 |map (kt vt:Ty) (es:List (Nat×kt.T×vt.T)) (clock:Nat)
 |Jo (m since:Nat) (seen:List Nat) (last:Nat)
 |Dl
 |bts (e:TypeId) (l:List UInt8)
 |Cf (L:Nat) (kt vt:Ty) (es:List (Nat×kt.T×Bool×List vt.T)) (clock:Nat)
 |abs (h:Nat) (S:Sh) (ty:Option TypeId) (x:S.T)
def Sh.cells(h:Nat):(i:Nat)→(S:Sh)→S.T→A2 XV
 |_,.nil,_=>[]
 |i,.d t r,x=>(t.enc x.1).map .d++r.cells h (i+1) x.2
 |i,.m _ _ r,x=>(match x.1 with
  |none=>.d (.v (.map none))
  |some _=>.nm (Fj h i) .m)::r.cells h (i+1) x.2
 |i,.s _ _ r,x=>.nm (Fj h i) (.p 0)::r.cells h (i+1) x.2
 |i,.z _ _ r,x=>(match x.1 with
  |none=>.d (.v (.pointer none))
  |some _=>.nm (Fj h i) (.p 0))::r.cells h (i+1) x.2
def B9g(kt vt:Ty)(es:A2 (Nat×kt.T×vt.T))(clock:Nat):Ob:=.map (es.map fun e=>(e.1,A2n (kt.dv e.2.1),vt.dv e.2.2)) clock
def Sh.C1(h:Nat):(i:Nat)→(S:Sh)→S.T→A2 (Nat×Ob)
 |_,.nil,_=>[]
 |i,.d _ r,x=>r.C1 h (i+1) x.2
 |i,.m kt vt r,x=>(match x.1 with
  |none=>[]
  |some y=>[(Fj h i,B9g kt vt y.1 y.2)])++r.C1 h (i+1) x.2
 |i,.s a ty r,x=>((Fj h i,.cells (A7 (a.cells (Fj h i) 0 x.1)) ty)::a.C1 (Fj h i) 0 x.1)++r.C1 h (i+1) x.2
 |i,.z a ty r,x=>(match x.1 with
  |none=>[]
  |some y=>(Fj h i,.cells (A7 (a.cells (Fj h i) 0 y)) ty)::a.C1 (Fj h i) 0 y)++r.C1 h (i+1) x.2
theorem Sh.Nr:∀(S:Sh) (h i:Nat) (x:S.T) (p:Nat×Ob),p∈S.C1 h i x→H0≤p.1
 |.nil,h,i,x,p,hp=>by simp[Sh.C1]at hp
 |.d t r,h,i,x,p,hp=>Sh.Nr r h (i+1) x.2 p hp
 |.m kt vt r,h,i,x,p,hp=>by
  rcases Bp4.1 hp with hp|hp
  ·split at hp
   ·cases hp
   ·rw[Bpg]at hp;subst hp;exact Qv _ _
  ·exact Sh.Nr r h (i+1) x.2 p hp
 |.s a ty r,h,i,x,p,hp=>by
  rcases Bp4.1 hp with hp|hp
  ·rcases Boz.1 hp with rfl|hp
   ·exact Qv _ _
   ·exact Sh.Nr a _ 0 x.1 p hp
  ·exact Sh.Nr r h (i+1) x.2 p hp
 |.z a ty r,h,i,x,p,hp=>by
  rcases Bp4.1 hp with hp|hp
  ·split at hp
   ·cases hp
   ·rename_i y _;rcases Boz.1 hp with rfl|hp
    ·exact Qv _ _
    ·exact Sh.Nr a _ 0 y p hp
  ·exact Sh.Nr r h (i+1) x.2 p hp
def A9.o:A9→Ob
 |.cells cs ty=>.cells (A7 cs) ty
 |.arr t l=>.cells ((l.map t.ds).flatten.map .d) none
 |.Vt s pos=>.Vt ⟨s.toArray⟩ pos
 |.map kt vt es clock=>.map (es.map fun e=>(e.1,A2n (kt.dv e.2.1),vt.dv e.2.2)) clock
 |.Jo m since seen last=>.Jo m since seen.toArray last
 |.Dl=>.Dl
 |.bts e l=>.cells ((Dy l).flatten.map .d) (some e)
 |.Cf L kt vt es clock=>.Cf L vt.size (es.map fun e=>(e.1,A2n (kt.dv e.2.1),e.2.2.1,e.2.2.2.map vt.ds)) clock
 |.abs h S ty x=>.cells (A7 (S.cells h 0 x)) ty
def A9.C1:A9→A2 (Nat×Ob)
 |.abs h S _ x=>S.C1 h 0 x
 |_=>[]
def A9.plain:A9→Bool
 |.abs _ _ _ _=>false
 |_=>true
def A9.H6{o:A9}(h:o.plain=true):o.C1=[]:=by cases o<;>first|rfl|cases h
variable{p:Nat×Ob}{l:A2 (Nat×A9)}{v:XV}{res:AV}{o1:Ob}
theorem A9.Nr{o:A9}(h:p∈o.C1):H0≤p.1:=by
 cases o with
 |abs h' S ty x=>exact S.Nr _ _ _ _ h
 |_=>cases h
theorem P1(F:A2 Nat):∀(l:A2 D),Bq F (l.map .d)=true
 |[]=>rfl
 |x::r=>by simp only[Bp3,Bq,Gi,P1 F r,Bqo]
def A3e(F:A2 Nat)(t:Ty)(u:List t.T):F4 F (A9.arr t u).o=true:=P1 F _
def inl(k:Nat)(l:A2 Nat):Bool :=
 List.rec (motive:=fun _=>Bool) false (fun j _ ih=>Bool.rec (motive:=fun _=>Bool) ih true (Nat.beq j k)) l
def B31(k:Nat):inl k []=false:=rfl
def Avd(k j:Nat)(r:A2 Nat):inl k (j::r)=cond (Nat.beq j k) true (inl k r):=by unfold inl;cases h:Nat.beq j k<;>simp[h]
def Cx(k:Nat)(l:A2 Nat):inl k l=true↔k∈l:=by
 induction l with
 |nil=>simp[B31]
 |cons j r ih =>
  simp only[Avd,Boz];cases h:Nat.beq j k with
  |true=>simp[Boy h]
  |false =>have:j≠k:=Brd h;simp[ih,Brl this]
def Y9:A2 Nat→Bool
 |[]=>true
 |k::r=>cond (Nat.ble H0 k) false (Y9 r)
theorem Qw:∀ {l:A2 Nat},Y9 l=true→∀k∈l,k<H0
 |[],_,k,hk=>by simp at hk
 |j::r,h,k,hk=>by
  simp only[Y9]at h;cases hb:Nat.ble H0 j with
  |true=>simp[hb]at h
  |false =>
   simp only[hb,Box]at h;rcases Boz.1 hk with rfl|hk
   ·exact Nat.lt_of_not_le fun hle=>by rw[Bqd hle]at hb;cases hb
   ·exact Qw h k hk
def Adb(h:Y9 F=true)(a i:Nat):F.contains (Fj a i)=false:=by
 cases hc:F.contains (Fj a i) with
 |false=>rfl
 |true=>have:=Qw h _ (Bqc.1 hc);have:=Qv a i;omega
theorem A3f{F:A2 Nat}:∀ {a b:A2 AV},Bq F a=true→Bq F b=true→Bq F (a++b)=true
 |[],b,_,h=>h
 |x::r,b,h,h'=>by
  simp only[Bq,Bq4,Br1]at h⊢;exact⟨h.1,A3f h.2 h'⟩
def Wi(l:A2 XD):A7 (l.map .d)=(l.map XD.d).map .d:=by simp[Qu,XV.a]
theorem Sh.Ku(hF:Y9 F=true):∀(S:Sh) (h i:Nat) (x:S.T),Bq F (A7 (S.cells h i x))=true
 |.nil,h,i,x=>rfl
 |.d t r,h,i,x=>by
  simp only[Sh.cells,Dc,Wi];exact A3f (P1 _ _) (Sh.Ku hF r h (i+1) x.2)
 |.m kt vt r,h,i,x=>by
  simp only[Sh.cells,A7,Bq,Sh.Ku hF r h (i+1) x.2,Bro];split
  ·rfl
  ·simp only[XV.a,Gi,Adb hF,Brm]
 |.s a ty r,h,i,x=>by
  simp only[Sh.cells,A7,Bq,Sh.Ku hF r h (i+1) x.2,Bro,XV.a,Gi,Adb hF,Brm]
 |.z a ty r,h,i,x=>by
  simp only[Sh.cells,A7,Bq,Sh.Ku hF r h (i+1) x.2,Bro];split
  ·rfl
  ·simp only[XV.a,Gi,Adb hF,Brm]
theorem Sh.Ns(hF:Y9 F=true):∀(S:Sh) (h i:Nat) (x:S.T) (p:Nat×Ob),p∈S.C1 h i x→F4 F p.2=true
 |.nil,h,i,x,p,hp=>by simp[Sh.C1]at hp
 |.d t r,h,i,x,p,hp=>Sh.Ns hF r h (i+1) x.2 p hp
 |.m kt vt r,h,i,x,p,hp=>by
  rcases Bp4.1 hp with hp|hp
  ·split at hp
   ·cases hp
   ·rw[Bpg]at hp;subst hp;rfl
  ·exact Sh.Ns hF r h (i+1) x.2 p hp
 |.s a ty r,h,i,x,p,hp=>by
  rcases Bp4.1 hp with hp|hp
  ·rcases Boz.1 hp with rfl|hp
   ·exact Sh.Ku hF a _ _ _
   ·exact Sh.Ns hF a _ 0 x.1 p hp
  ·exact Sh.Ns hF r h (i+1) x.2 p hp
 |.z a ty r,h,i,x,p,hp=>by
  rcases Bp4.1 hp with hp|hp
  ·split at hp
   ·cases hp
   ·rename_i y _;rcases Boz.1 hp with rfl|hp
    ·exact Sh.Ku hF a _ _ _
    ·exact Sh.Ns hF a _ 0 y p hp
  ·exact Sh.Ns hF r h (i+1) x.2 p hp
def Fk(F:A2 Nat):A2 (Nat×A9)→Bool
 |[]=>true
 |p::r=>cond (match p.2 with
  |.cells cs _=>Bq F (A7 cs)
  |.Jo m _ _ _=>cond (inl m F) false true
  |.Cf m _ _ _ _=>cond (inl m F) false true
  |.abs _ _ _ _=>cond (inl p.1 F) false (Y9 F)
  |_=>true) (Fk F r) false
structure Af where
 env:List (Nat×XV)
 objs:List (Nat×A9)
 live:List Nat
 wl:List Nat
 ol:List Nat
def Ds(l:A2 (Nat×XV)):A2 (Nat×AV):=l.map fun p=>(p.1,p.2.a)
def Dn(l:A2 (Nat×A9)):A2 (Nat×Ob):=l.map fun p=>(p.1,p.2.o)
def Dp:A2 (Nat×A9)→A2 (Nat×Ob)
 |[]=>[]
 |p::r=>p.2.C1++Dp r
def A4(l:A2 (Nat×A9)):A2 (Nat×Ob):=Dn l++Dp l
theorem Ao0:∀ {l:A2 (Nat×A9)} {p:Nat×Ob},p∈Dp l→H0≤p.1
 |[],p,h=>by simp[Dp]at h
 |q::r,p,h=>by
  rcases Bp4.1 h with h|h
  ·exact A9.Nr h
  ·exact Ao0 h
def Amt(a b:A2 (Nat×A9)):Dp (a++b)=Dp a++Dp b:=by
 induction a with
 |nil=>rfl
 |cons p r ih=>simp[Dp,ih]
def Aib(a b:A2 (Nat×A9)):Dn (a++b)=Dn a++Dn b:=Bpn
def Dt:A2 (Nat×A9)→Bool
 |[]=>true
 |p::r=>cond p.2.plain (Dt r) false
theorem Wj:∀ {l:A2 (Nat×A9)},Dt l=true→Dp l=[]
 |[],_=>rfl
 |p::r,h=>by
  simp only[Dt]at h;cases hp:p.2.plain with
  |false=>simp[hp]at h
  |true=>simp only[hp,Bov]at h;simp only[Dp,A9.H6 hp,Wj h,Bq0]
def A3g(h:Dt l=true):A4 l=l.map fun p=>(p.1,p.2.o):=by unfold A4 Dn;rw[Wj h,Bq0]
def Bhn{a b:A2 (Nat×A9)}(h:Dt a=true):A4 (a++b)=A4 a++A4 b:=by unfold A4;rw[Aib,Amt,Wj h,Bq0,Bpx,Bru]
theorem Gw:∀ {l:A2 (Nat×A9)},Dt l=true→∀p∈l,p.2.plain=true
 |[],_,p,hp=>by simp at hp
 |q::r,h,p,hp=>by
  simp only[Dt]at h;cases hq:q.2.plain with
  |false=>simp[hq]at h
  |true =>
   simp only[hq,Bov]at h;rcases Boz.1 hp with rfl|hp
   ·exact hq
   ·exact Gw h p hp
def Ave(h:∀p∈l,p.2.plain=true):Dt l=true:=by
 induction l with
 |nil=>rfl
 |cons q r ih=>simp only[Dt,h q Bp6,Bov];exact ih fun p hp=>h p (Bp5 _ hp)
def Af.X(st:Af):A5:=⟨A4 st.objs,st.live⟩
def Af.im(st:Af):St:=⟨Ds st.env,st.X⟩
def V7:∀ {l:A2 (Nat×A9)},Fk F l=true→B1 F ⟨A4 l,live⟩=true:=by
 intro l h;unfold B1;rw[Br3];right;rw[Bqb]
 suffices hh:(∀p∈Dn l,F4 F p.2=true)∧∀p∈Dp l,F4 F p.2=true by
  intro p hp;rcases Bp4.1 hp with hp|hp
  ·exact hh.1 p hp
  ·exact hh.2 p hp
 induction l with
 |nil=>exact⟨by simp[Dn],by simp[Dp]⟩
 |cons p r ih =>
  simp only[Fk]at h;have hs:F4 F p.2.o=true∧(∀q∈p.2.C1,F4 F q.2=true)∧Fk F r=true:=by
   have Afk:∀q∈([]:A2 (Nat×Ob)),F4 F q.2=true:=by simp
   cases ho:p.2 with
   |cells cs ty =>
    rw[ho]at h;simp only at h;cases hx:Bq F (A7 cs) with
    |false=>simp[hx]at h
    |true=>simp only[hx,Bov]at h;exact⟨hx,Afk,h⟩
   |arr t l =>rw[ho]at h;simp only[Bov]at h;exact⟨A3e F t l,Afk,h⟩
   |Vt s pos=>rw[ho]at h;exact⟨rfl,Afk,h⟩
   |map kt vt es c=>rw[ho]at h;exact⟨rfl,Afk,h⟩
   |Dl=>rw[ho]at h;exact⟨rfl,Afk,h⟩
   |bts e l=>rw[ho]at h;exact⟨P1 F _,Afk,h⟩
   |abs h' S ty x =>
    rw[ho]at h;simp only at h;cases hi:inl p.1 F with
    |true=>simp[hi]at h
    |false =>
    simp only[hi,Box]at h;cases hF:Y9 F with
    |false=>simp[hF]at h
    |true=>simp only[hF,Bov]at h;exact⟨S.Ku hF _ _ _,S.Ns hF _ _ _,h⟩
   |Cf m kt vt es c =>
    rw[ho]at h;simp only at h;cases hm:inl m F with
    |true=>simp[hm]at h
    |false =>
     simp only[hm,Box,Bov]at h;refine⟨?_,Afk,h⟩;show(!F.contains m)=true;cases hc:F.contains m with
     |false=>rfl
     |true=>rw[(Cx m F).2 (Bqc.1 hc)]at hm;cases hm
   |Jo m since seen last =>
    rw[ho]at h;simp only at h;cases hm:inl m F with
    |true=>simp[hm]at h
    |false =>
     simp only[hm,Box,Bov]at h;refine⟨?_,Afk,h⟩;show(!F.contains m)=true;cases hc:F.contains m with
     |false=>rfl
     |true=>rw[(Cx m F).2 (Bqc.1 hc)]at hm;cases hm
  obtain⟨i1,i2⟩:=ih hs.2.2;refine⟨fun q hq=>?_,fun q hq=>?_⟩
  ·rcases Boz.1 hq with rfl|hq
   ·exact hs.1
   ·exact i1 q hq
  ·rcases Bp4.1 hq with hq|hq
   ·exact hs.2.1 q hq
   ·exact i2 q hq
def Iv(F:A2 Nat)(st:Af):Bool:=Fk F st.objs
variable{st:Af}
def Nt(h:Iv F st=true):B1 F st.X=true:=V7 h
def nbF{a b:Nat}(h:a≠b):Nat.beq a b=false:=by
 cases hh:Nat.beq a b with
 |false=>rfl
 |true=>exact absurd (Boy hh) h
def nbS(a b:Nat):Nat.beq a b=(b==a):=by
 by_cases h:a=b
 ·subst h;simp
 ·rw[nbF h];symm;simpa using Brl h
def lk{α:Type}(k:Nat)(l:A2 (Nat×α)):A3 α :=
 List.rec (motive:=fun _=>A3 α) none (fun p _ ih=>Bool.rec (motive:=fun _=>A3 α) ih (some p.2) (Nat.beq p.1 k)) l
def Azl{α:Type}(k:Nat):lk k ([]:A2 (Nat×α))=none:=rfl
def F9{α:Type}(k:Nat)(p:Nat×α)(r:A2 (Nat×α)):lk k (p::r)=cond (Nat.beq p.1 k) (some p.2) (lk k r):=by unfold lk;cases h:Nat.beq p.1 k<;>simp[h]
def Avf{α:Type}(k:Nat)(l:A2 (Nat×α)):lk k l=l.lookup k:=by
 induction l with
 |nil=>rfl
 |cons p r ih =>obtain⟨j,x⟩:=p;rw[Bqa];simp only[F9,ih];rw[nbS];cases k==j<;>rfl
def A88(l:A2 (Nat×XV))(k:Nat):(Ds l).lookup k=(lk k l).map XV.a:=by
 induction l with
 |nil=>rfl
 |cons p r ih =>
  obtain⟨j,x⟩:=p;simp only[Ds,Bp3,Bqa]at ih⊢;rw[Avf]at ih⊢;rw[Bqa];cases k==j with
  |true=>rfl
  |false=>simpa[Ds]using ih
inductive Cs(k:Nat):Nat→Prop
 |here (i:Nat) (hi:i<1000):Cs k (Fj k i)
 |deep {m:Nat} (i:Nat) (hi:i<1000) (h:Cs k m):Cs k (Fj m i)
def Gx{a b i:Nat}(hi:i<1000)(hj:j<1000)(h:Fj a i=Fj b j):a=b∧i=j:=by unfold Fj at h;omega
def Cs.ge(h:Cs k n):H0≤n:=by cases h<;>exact Qv _ _
def Cs.one{k':Nat}(h:Cs k n)(h':Cs k' n)(hk:k<H0)(Lb:k'<H0):k=k':=by
 induction h with
 |here i hi =>
  generalize hn:Fj k i=n at h';cases h' with
  |here j hj=>exact(Gx hi hj hn).1
  |deep j hj h2=>have:=(Gx hi hj hn).1;subst this;have:=h2.ge;omega
 |deep i hi h1 ih =>
  rename_i m;generalize hn:Fj m i=n at h';cases h' with
  |here j hj=>have:=(Gx hi hj hn).1;subst this;have:=h1.ge;omega
  |deep j hj h2=>have:=(Gx hi hj hn).1;subst this;exact ih h2
def Cs.trans{a b:Nat}(h:Cs a b)(h':Cs b n):Cs a n:=by
 induction h' with
 |here i hi=>exact .deep i hi h
 |deep i hi _ ih=>exact .deep i hi ih
def Sh.small:Sh→Nat→Bool
 |.nil,_=>true
 |.d _ r,i=>cond (Nat.blt i 1000) (r.small (i+1)) false
 |.m _ _ r,i=>cond (Nat.blt i 1000) (r.small (i+1)) false
 |.s a _ r,i=>cond (Nat.blt i 1000) (cond (a.small 0) (r.small (i+1)) false) false
 |.z a _ r,i=>cond (Nat.blt i 1000) (cond (a.small 0) (r.small (i+1)) false) false
def Ai{a:Bool}(h:cond a b false=true):a=true∧b=true:=by cases a<;>first|exact⟨rfl,h⟩|cases h
theorem Sh.Ck:∀(S:Sh) (h i:Nat) (x:S.T) (p:Nat×Ob),S.small i=true→p∈S.C1 h i x→Cs h p.1
 |.nil,h,i,x,p,hs,hp=>by simp[Sh.C1]at hp
 |.d t r,h,i,x,p,hs,hp=>Sh.Ck r h (i+1) x.2 p (Ai hs).2 hp
 |.m kt vt r,h,i,x,p,hs,hp=>by
  have hi:i<1000:=by simpa[Bqx] using(Ai hs).1
  rcases Bp4.1 hp with hp|hp
  ·split at hp
   ·cases hp
   ·rw[Bpg]at hp;subst hp;exact .here i hi
  ·exact Sh.Ck r h (i+1) x.2 p (Ai hs).2 hp
 |.s a ty r,h,i,x,p,hs,hp=>by
  have hi:i<1000:=by simpa[Bqx] using(Ai hs).1
  have h2:=Ai (Ai hs).2;rcases Bp4.1 hp with hp|hp
  ·rcases Boz.1 hp with rfl|hp
   ·exact .here i hi
   ·exact(Cs.here i hi).trans (Sh.Ck a _ 0 x.1 p h2.1 hp)
  ·exact Sh.Ck r h (i+1) x.2 p h2.2 hp
 |.z a ty r,h,i,x,p,hs,hp=>by
  have hi:i<1000:=by simpa[Bqx] using(Ai hs).1
  have h2:=Ai (Ai hs).2;rcases Bp4.1 hp with hp|hp
  ·split at hp
   ·cases hp
   ·rename_i y _;rcases Boz.1 hp with rfl|hp
    ·exact .here i hi
    ·exact(Cs.here i hi).trans (Sh.Ck a _ 0 y p h2.1 hp)
  ·exact Sh.Ck r h (i+1) x.2 p h2.2 hp
def A7l(k:Nat):A2 (Nat×A9)→Bool
 |[]=>false
 |p::r=>cond p.2.plain (A7l k r) (cond (Nat.beq p.1 k) true (A7l k r))
theorem A5k{k:Nat}:∀ {l:A2 (Nat×A9)} {p:Nat×A9},p∈l→p.2.plain=false→p.1=k→A7l k l=true
 |[],p,h,_,_=>by simp at h
 |q::r,p,h,hp,hk=>by
  simp only[A7l];rcases Boz.1 h with rfl|h
  ·rw[hp,hk];simp
  ·rw[A5k h hp hk];cases q.2.plain<;>simp
def A9.tagged(k:Nat):A9→Bool
 |.abs h S _ _=>cond (Nat.beq h k) (S.small 0) false
 |_=>true
def A9.Adc{o:A9}(h:o.tagged k=true)(hp:p∈o.C1):Cs k p.1:=by
 cases o with
 |abs h' S ty x =>have:=Ai h;rw[← Boy this.1];exact S.Ck _ 0 x p this.2 hp
 |_=>cases hp
def Aao:A2 (Nat×A9)→Bool
 |[]=>true
 |p::r=>cond p.2.plain (Aao r) (cond (p.2.tagged p.1) (cond (A7l p.1 r) false (Aao r)) false)
def P2(l:A2 (Nat×A9)):Bool:=cond (Dt l) true (cond (Y9 (l.map (·.1))) (Aao l) false)
def Fs{l:A2 (Nat×Ob)}{o:Ob}(h:l.lookup k=some o):(k,o)∈l:=by
 induction l with
 |nil=>cases h
 |cons p r ih =>
  obtain⟨j,x⟩:=p;rw[Bqa]at h;cases hb:k==j with
  |true =>rw[hb]at h;simp only[Bp0]at h;rw[eq_of_beq hb,h];exact Bp6
  |false=>rw[hb]at h;exact Bp5 _ (ih h)
theorem Qx:∀ {l:A2 (Nat×A9)},Aao l=true→∀p∈l,p.2.tagged p.1=true
 |[],_,p,hp=>by simp at hp
 |q::r,h,p,hp=>by
  simp only[Aao]at h;cases hq:q.2.plain with
  |true =>
   simp only[hq,Bov]at h;rcases Boz.1 hp with rfl|hp
   ·revert hq;cases p.2<;>intro hq<;>first|rfl|cases hq
   ·exact Qx h p hp
  |false =>
   simp only[hq,Box]at h;obtain⟨h1,h2⟩:=Ai h;rcases Boz.1 hp with rfl|hp
   ·exact h1
   ·cases ha:A7l q.1 r with
    |true=>simp[ha]at h2
    |false=>simp only[ha,Box]at h2;exact Qx h2 p hp
theorem Ao1{j:Nat}{o:Ob}:∀ {l:A2 (Nat×A9)},Aao l=true→(∀p∈l,p.1<H0)→∀p∈l,p.2.C1.lookup j=some o→(Dp l).lookup j=some o
 |[],_,_,p,hp,_=>by simp at hp
 |q::r,h,hl,p,hp,ho=>by
  simp only[Dp,Br0];rcases Boz.1 hp with rfl|hp'
  ·rw[ho];rfl
  ·have hr:Aao r=true∧(q.2.plain=false→A7l q.1 r=false):=by
    simp only[Aao]at h;cases hq:q.2.plain with
    |true=>simp only[hq,Bov]at h;exact⟨h,by simp⟩
    |false =>
     simp only[hq,Box]at h;have h2:=(Ai h).2;cases ha:A7l q.1 r with
     |true=>simp[ha]at h2
     |false=>simp only[ha,Box]at h2;exact⟨h2,fun _=>rfl⟩
   have ih:=Ao1 hr.1 (fun p hp=>hl p (Bp5 _ hp)) p hp' ho;cases hq:q.2.C1.lookup j with
   |none=>exact ih
   |some o' =>
    exfalso;have hqp:q.2.plain=false:=by
     cases hh:q.2.plain with
     |false=>rfl
     |true=>rw[A9.H6 hh]at hq;cases hq
    have hpp:p.2.plain=false:=by
     cases hh:p.2.plain with
     |false=>rfl
     |true=>rw[A9.H6 hh]at ho;cases ho
    have u1:=A9.Adc (Qx h q Bp6) (Fs hq);have u2:=A9.Adc (Qx h p hp) (Fs ho);have e:=u1.one u2 (hl q Bp6) (hl p hp);have:=A5k hp' hpp e.symm;rw[hr.2 hqp]at this;cases this
def Kv(h:P2 l=true):Dt l=true∨(Aao l=true∧∀p∈l,p.1<H0):=by
 unfold P2 at h;cases hn:Dt l with
 |true=>exact .inl rfl
 |false =>simp only[hn,Box]at h;obtain⟨h1,h2⟩:=Ai h;exact .inr ⟨h2,fun p hp=>Qw h1 _ (Bpe (f:=(·.1)) hp)⟩
theorem Avg{j:Nat}{o:Ob}:∀ {l:A2 (Nat×A9)},(Dp l).lookup j=some o→∃p∈l,p.2.C1.lookup j=some o
 |[],h=>by cases h
 |q::r,h=>by
  simp only[Dp,Br0]at h;cases hq:q.2.C1.lookup j with
  |some o'=>rw[hq]at h;exact⟨q,Bp6,by rw[hq];exact h⟩
  |none =>rw[hq]at h;obtain⟨p,hp,h2⟩:=Avg h;exact⟨p,Bp5 _ hp,h2⟩
def Wk(l:A2 (Nat×A9))(k:Nat):(Dn l).lookup k=(lk k l).map A9.o:=by
 induction l with
 |nil=>rfl
 |cons p r ih =>
  obtain⟨j,x⟩:=p;simp only[Dn,Bp3,Bqa]at ih⊢;rw[Avf]at ih⊢;rw[Bqa];cases k==j with
  |true=>rfl
  |false=>simpa[Dn]using ih
def Hy{y:A9}(h:lk k l=some y):(A4 l).lookup k=some y.o:=by unfold A4;rw[Br0,Wk,h];rfl
def Wl{l:A2 (Nat×Ob)}(h:∀p∈l,p.1≠k):l.lookup k=none:=by
 induction l with
 |nil=>rfl
 |cons p r ih =>
  obtain⟨j,x⟩:=p;rw[Bqa];have:(k==j)=false:=by simpa using(h (j,x) Bp6).symm
  rw[this];exact ih fun q hq=>h q (Bp5 _ hq)
def B9h(hk:k<H0):(A4 l).lookup k=(lk k l).map A9.o:=by
 unfold A4;rw[Br0,Wk];cases lk k l with
 |some y=>rfl
 |none =>simp only[Bt6,Bt3];exact Wl fun p hp he=>by have:=Ao0 hp;omega
def Bdv(h:Dt l=true)(k:Nat):(A4 l).lookup k=(lk k l).map A9.o:=by rw[← Wk];unfold A4;rw[Wj h,Bq0]
def A3h{o:Ob}(h:(A4 l).lookup k=some o):(∃y,lk k l=some y∧o=y.o)∨∃p∈l,p.2.C1.lookup k=some o:=by
 unfold A4 at h;rw[Br0,Wk]at h;cases hl:lk k l with
 |some y=>rw[hl]at h;simp only[Bq8,Bsw,Bp0]at h;exact .inl ⟨y,rfl,h.symm⟩
 |none=>rw[hl]at h;exact .inr (Avg h)
def Ade(h:P2 l=true){p:Nat×A9}(hp:p∈l){o:Ob}(ho:p.2.C1.lookup k=some o):(A4 l).lookup k=some o:=by
 rcases Kv h with h1|⟨h1,h2⟩
 ·rw[A9.H6 (Gw h1 p hp)]at ho;cases ho
 ·unfold A4;rw[Br0];have hk:H0≤k:=A9.Nr (Fs ho);have:(Dn l).lookup k=none:=by
   refine Wl fun q hq he=>?_
   obtain⟨z,hz,rfl⟩:=Bpc.1 hq;have:=h2 z hz;simp only at he;omega
  rw[this,Bt3];exact Ao1 h1 h2 p hp ho
def Avh{a:Bool}(h:cond a b false=true):b=true:=by cases a<;>first|exact h|cases h
def Aic{a:Bool}(h:cond a b false=true):a=true∧b=true:=by cases a<;>first|exact⟨rfl,h⟩|cases h
def Bdw(h:lk k l=none)(hf:Fk [k] l=true):(A4 l).lookup k=none:=by
 unfold A4;rw[Br0,Wk,h];simp only[Bt6,Bt3];refine Wl ?_;clear h;induction l with
 |nil=>simp[Dp]
 |cons q r ih =>
  simp only[Fk]at hf;have:(∀p∈q.2.C1,p.1≠k)∧Fk [k] r=true:=by
   cases ho:q.2 with
   |abs h' S ty x =>
    rw[ho]at hf;simp only at hf;cases hi:inl q.1 [k] with
    |true=>simp[hi]at hf
    |false =>
    simp only[hi,Box]at hf;cases hF:Y9 [k] with
    |false=>simp[hF]at hf
    |true =>simp only[hF,Bov]at hf;exact⟨fun p hp he=>by have h1:=A9.Nr hp;have h2:=Qw hF k (by simp);omega,hf⟩
   |_=>exact⟨by simp[A9.C1],Avh hf⟩
  intro p hp;rcases Bp4.1 hp with hp|hp
  ·exact this.1 p hp
  ·exact ih this.2 p hp
def Lg(k:Nat)(o:A9)(l:A2 (Nat×A9)):A2 (Nat×A9) :=
 List.rec (motive:=fun _=>A2 (Nat×A9)) [(k,o)] (fun p r ih=>Bool.rec (motive:=fun _=>A2 (Nat×A9)) (p::ih) ((k,o)::r) (Nat.beq p.1 k)) l
def Aap(k:Nat)(o:A9):Lg k o []=[(k,o)]:=rfl
def S6(k:Nat)(o:A9)(p:Nat×A9)(r:A2 (Nat×A9)):Lg k o (p::r)=cond (Nat.beq p.1 k) ((k,o)::r) (p::Lg k o r):=by unfold Lg;cases h:Nat.beq p.1 k<;>simp[h]
def Yl(k:Nat)(o:A9)(l:A2 (Nat×A9)):Bool :=
 match lk k l with
 |some y=>cond y.plain o.plain false
 |none=>false
def K4{o y:A9}(h:lk k l=some y)(hy:y.plain=true)(ho:o.plain=true):Yl k o l=true:=by unfold Yl;rw[h];simp only[hy,ho,Bov]
def V8{o:A9}(hp:Yl k o l=true):A4 (Lg k o l)=Ab.setObj k o.o (A4 l):=by
 have key:∀(t:A2 (Nat×Ob)),Dn (Lg k o l)++t=Ab.setObj k o.o (Dn l++t)∧Dp (Lg k o l)=Dp l:=by
  intro t;induction l with
  |nil=>simp[Yl,Azl]at hp
  |cons p r ih =>
   obtain⟨j,x⟩:=p;simp only[S6];cases h:Nat.beq j k with
   |true =>
    have e:=Boy h;subst e;have:x.plain=true∧o.plain=true:=by
     simp only[Yl,F9,Bsx,Bov]at hp;cases hx:x.plain with
     |false=>simp[hx]at hp
     |true=>simp only[hx,Bov]at hp;exact⟨rfl,hp⟩
    refine⟨by simp[Dn,Ab.setObj],by simp[Dp,A9.H6 this.1,A9.H6 this.2]⟩
   |false =>
    have hne:j≠k:=Brd h;have hp':Yl k o r=true:=by simpa[Yl,F9,h]using hp
    obtain⟨i1,i2⟩:=ih hp';refine⟨?_,by simp[Dp,i2]⟩;simp only[Box,Dn,Bp3,Br1,Ab.setObj,hne,Bre]at i1⊢;rw[i1]
 unfold A4;rw[(key (Dp (Lg k o l))).1,(key []).2]
def Azm(k:Nat)(o:A9)(l:A2 (Nat×A9)):Dn (Lg k o l)=Ab.setObj k o.o (Dn l):=by
 induction l with
 |nil=>rfl
 |cons p r ih =>
  obtain⟨j,x⟩:=p;simp only[S6,Dn,Bp3,Ab.setObj];cases h:Nat.beq j k with
  |true=>simp[Boy h]
  |false =>have:j≠k:=Brd h;simp[this];exact ih
theorem A89{k:Nat}{o:A9}(ho:o.plain=true):∀ {l:A2 (Nat×A9)},Dt l=true→Dt (Lg k o l)=true
 |[],_=>by simp[Aap,Dt,ho]
 |p::r,h=>by
  simp only[S6];obtain⟨h1,h2⟩:=Ai (a:=p.2.plain) (b:=Dt r) h;cases hb:Nat.beq p.1 k with
  |true=>simp only[Bov,Dt,ho,h2]
  |false=>simp only[Box,Dt,h1,Bov];exact A89 ho h2
def Aaq(h:Dt l=true):A4 l=Dn l:=by unfold A4;rw[Wj h,Bq0]
def B9i{o:A9}(ho:o.plain=true)(h:Dt l=true):A4 (Lg k o l)=Ab.setObj k o.o (A4 l):=by rw[Aaq h,Aaq (A89 ho h),Azm]
def Avi{p:Nat×A9}(h:Dt (p::l)=true):A4 (p::l)=(p.1,p.2.o)::A4 l:=by obtain⟨h1,h2⟩:=Ai (a:=p.2.plain) (b:=Dt l) h;rw[Aaq h,Aaq h2];rfl
def Aqu{o:A9}(l:A2 (Nat×A9)):lk k (Lg k o l)=some o:=by
 induction l with
 |nil=>simp[Aap,F9,Azl]
 |cons p r ih =>
  obtain⟨i,x⟩:=p;simp only[S6];cases hi:Nat.beq i k with
  |true=>simp[F9]
  |false=>simp[F9,hi,ih]
def Nu(k:Nat)(o:A9)(l:A2 (Nat×A9))(j:Nat)(h:j≠k):lk j (Lg k o l)=lk j l:=by
 induction l with
 |nil =>have:Nat.beq k j=false:=nbF (Brl h);simp[Aap,F9,Azl,this]
 |cons p r ih =>
  obtain⟨i,x⟩:=p;simp only[S6];cases hi:Nat.beq i k with
  |true =>have e:=Boy hi;subst e;have:Nat.beq i j=false:=nbF (Brl h);simp[F9,this]
  |false=>simp[F9,ih]
def B9j(dst:A3 Tmp)(x:XV)(env:A2 (Nat×XV)):A2 (Nat×XV) :=
 match dst with
 |some d=>(d,x)::env
 |none=>env
def B9k(dst:A3 Tmp)(x:XV)(env:A2 (Nat×XV)):Ds (B9j dst x env)=Dm dst x.a (Ds env):=by cases dst<;>rfl
def Bdx(dst:A3 Tmp)(wl:A2 Nat):A2 Nat :=
 match dst with
 |some d=>d::wl
 |none=>wl
def Wm:Value→XD
 |.int .u8 n=>cond (decide (0≤n∧n<256)) (.u8 (UInt8.ofNat n.toNat)) (.v (.int .u8 n))
 |.int k n=>.i k n
 |.bool b=>.b b
 |.string s=>.s s.data.toList
 |v=>.v v
def A3i(v:Value):(Wm v).d = .sc v:=by
 unfold Wm;split
 ·rename_i n;by_cases h:0≤n∧n<256
  ·simp only[h,Bw2,Bov,XD.d,and_self];congr 2;have:(UInt8.ofNat n.toNat).toNat=n.toNat:=by rw[Bv9];omega
   rw[this];omega
  ·simp only[h,decide_false,Box,XD.d]
 ·rfl
 ·rfl
 ·rename_i s;simp only[XD.d,D.bs]
 ·rfl
def Av(st:Af):Operand→A3 XV
 |.tmp t=>cond (Nat.blt t GB) (lk t st.env) none
 |.const v=>some (.d (Wm v))
 |.func f=>some (.F1 f [])
 |.global k=>lk (GB+k) st.env
def Dq{t:Nat}(h:Av st (.tmp t)=some v):t<GB∧lk t st.env=some v:=by
 simp only[Av]at h;cases hb:Nat.blt t GB with
 |false=>simp[hb]at h
 |true=>exact⟨by simpa[Bqx]using hb,by simpa[hb]using h⟩
def Z8{t:Nat}{y:AV}(h:lk t st.env=some v)(hle:∀(g:Gh) (w:World) (u:Value),RA g w v.a u→RA g w y u):Has st.im.env t y :=
 .le _ _ (by show(Ds st.env).lookup t=some v.a;rw[A88,h];rfl) hle
def B32{t:Nat}(h:lk t st.env=some v):Has st.im.env t v.a :=
 .eq _ (by show(Ds st.env).lookup t=some v.a;rw[A88,h];rfl)
variable{x y:Operand}{g:Gh}{lo hi mx:A3 Operand}{r1 r2:A2 (Operand×XV)}
def Aj(h:Av st x=some v):Dx st.im x v.a:=by
 cases x with
 |tmp t=>exact .tmp t _ (Dq h).1 (B32 (Dq h).2)
 |const u =>
  simp only[Av,Bp0]at h;subst h;simp only[XV.a,A3i];exact .const _ _ fun _ _=>.sc _
 |func f =>simp only[Av,Bp0]at h;subst h;exact .func f
 |global k=>exact .Ahj k _ (B32 h)
def Ya(x y:AV):Prop:=∀(g:Gh) (w:World) (v:Value),RA g w x v→RA g w y v
def Ya.refl(x:AV):Ya x x:=fun _ _ _ h=>h
theorem Ya.d{x y:D}(h:DLe x y):Ya (.d x) (.d y):=by
 intro g w v hr;cases hr with
 |d _ _ hr=>exact .d _ _ (h _ _ _ hr)
theorem Ya.Be(n sz:Nat)(es:A2 (A2 D))(ty:A3 TypeId):Ya (.Be n sz es ty) (.d (.sl sz es)):=by
 intro g w v hr;cases hr with
 |Be _ _ _ _ _ h _=>exact .d _ _ h
def Aqv{a:XD}{y:D}(h:Av st x=some (.d a))(hle:DLe a.d y):Dx st.im x (.d y):=by
 cases x with
 |tmp t=>exact .tmp t _ (Dq h).1 (Z8 (Dq h).2 (Ya.d hle))
 |const u =>
  simp only[Av,Bp0,XV.d.injEq]at h;subst h;rw[A3i]at hle;exact .const _ _ fun γ w=>hle γ w u (.sc u)
 |func f=>simp[Av]at h
 |global k=>exact .Ahj k _ (Z8 h (Ya.d hle))
def B5s{t:Ty}{l:List t.T}{ty:A3 TypeId}(h:Av st x=some (.Be n t l ty)):Dx st.im x (.d (.sl t.size (l.map t.ds))):=by
 cases x with
 |tmp t=>exact .tmp t _ (Dq h).1 (Z8 (Dq h).2 (Ya.Be _ _ _ _))
 |const u=>simp[Av]at h
 |func f=>simp[Av]at h
 |global k=>exact .Ahj k _ (Z8 h (Ya.Be _ _ _ _))
def XV.asD:XV→A3 XD
 |.d x=>some x
 |.Be n t l ty=>some (.sl t l)
 |_=>none
def xd(st:Af)(x:Operand):A3 XD :=
 match Av st x with
 |some v=>v.asD
 |none=>none
def Aar{a:XD}{y:D}(h:xd st x=some a)(hle:DLe a.d y):Dx st.im x (.d y):=by
 unfold xd at h;split at h
 ·rename_i v hv;cases v with
  |d u=>simp only[XV.asD,Bp0]at h;subst h;exact Aqv hv hle
  |Be n t l ty =>
   simp only[XV.asD,Bp0]at h;subst h;have:=B5s hv;cases x with
   |tmp i=>exact .tmp i _ (Dq hv).1 (Z8 (Dq hv).2 fun g w v hr=>Ya.d hle g w v (Ya.Be _ _ _ _ g w v hr))
   |const u=>simp[Av]at hv
   |func f=>simp[Av]at hv
   |global k=>exact .Ahj k _ (Z8 hv fun g w v hr=>Ya.d hle g w v (Ya.Be _ _ _ _ g w v hr))
  |_=>simp[XV.asD]at h
 ·cases h
def A2h{a:XD}(h:xd st x=some a):Dx st.im x (.d a.d):=Aar h (.refl _)
def Pv{objs:A2 (Nat×A9)}{y:A9}(h:lk k objs=some y):(A4 objs).lookup k=some y.o:=by exact Hy h
inductive Amu where
 |none
 |look (ks:List Nat)
 |put (k:Nat) (c:A9)
 |all
 |lab
 |O7 (k:Nat) (c:A9)
 |new (os:List (Nat×A9))
structure Out where
 Ur:Amu
 res:XV
 rd:List (Operand×XV)
 objs:List (Nat×A9)
 live:List Nat
 F:List Nat
 ol:List Nat
def Ay(l:A2 (Operand×XV)):A2 (Operand×AV):=l.map fun p=>(p.1,p.2.a)
def Out.X(out:Out):A5:=⟨A4 out.objs,out.live⟩
structure Bp(P:Program)(o:Oper)(st:Af)(out:Out):Prop where
 Rr:∀p∈Ay out.rd,Dx st.im p.1 p.2
 op:match out.Ur with
  |.none=>out.objs=st.objs∧out.live=st.live∧out.F=[]∧∀X,Bi P o (Ay out.rd) X X [] out.res.a
  |.look ks=>out.objs=st.objs∧out.live=st.live∧out.F=[]∧∀X:A5,(∀k∈ks,X.objs.lookup k=st.X.objs.lookup k)→Bi P o (Ay out.rd) X X [] out.res.a
  |.put k c=>(Yl k c st.objs=true∧out.objs=Lg k c st.objs)∧out.live=st.live∧out.F=[]∧∀X:A5,X.objs.lookup k=st.X.objs.lookup k→Bi P o (Ay out.rd) X ⟨Ab.setObj k c.o X.objs,X.live⟩ [] out.res.a
  |.all=>Bi P o (Ay out.rd) st.X out.X out.F out.res.a
  |.lab=>out.objs=st.objs∧Bi P o (Ay out.rd) st.X out.X out.F out.res.a
  |.O7 k c=>(Yl k c st.objs=true∧out.objs=Lg k c st.objs)∧Bi P o (Ay out.rd) st.X out.X out.F out.res.a
  |.new os=>(Dt os=true∧out.objs=os++st.objs)∧Bi P o (Ay out.rd) st.X out.X out.F out.res.a
 ol:∀k x,k∉out.ol→lk k out.objs=some x→lk k st.objs=some x
def B0(st:Af)(res:XV)(rd:A2 (Operand×XV)):Out:=⟨.none,res,rd,st.objs,st.live,[],[]⟩
variable{P:Program}
def Aa{o:Oper}{res:XV}{rd:A2 (Operand×XV)}(hs:∀p∈Ay rd,Dx st.im p.1 p.2)(h:∀X,Bi P o (Ay rd) X X [] res.a):Bp P o st (B0 st res rd) :=
 ⟨hs,⟨rfl,rfl,rfl,h⟩,fun _ _ _ h=>h⟩
def A3j{a:XD}(h:xd st x=some a):∀p∈Ay [(x,.d a)],Dx st.im p.1 p.2:=by intro p hp;simp only[Ay,Bp3,Bpz,Bpg]at hp;subst hp;exact A2h h
def Avj{a b:XD}(h:xd st x=some a)(h':xd st y=some b):∀p∈Ay [(x,.d a),(y,.d b)],Dx st.im p.1 p.2:=by
 intro p hp;simp only[Ay,Bp3,Bpz,Boz,Bpt,Bqy]at hp;rcases hp with rfl|rfl
 ·exact A2h h
 ·exact A2h h'
def at?{α:Type}(l:A2 α):Int→A3 α
 |.ofNat n=>l[n]?
 |.negSucc _=>none
def Aas{α:Type}{l:A2 α}{n:Int}{x:α}(h:at? l n=some x):0≤n∧l[n.toNat]? = some x:=by
 cases n with
 |ofNat m=>exact⟨Bva m,h⟩
 |negSucc m=>cases h
def Wn(n:Int):UInt8:=UInt8.ofNat (n % 256).toNat
def A5l(n:Int):((Wn n).toNat:Int)=IntKind.u8.wrap n:=by unfold Wn IntKind.wrap;rw[Bv9];simp[IntKind.bits,IntKind.signed];omega
def Bho(op:BinOp)(k:IntKind)(a b:Int):A3 XD :=
 match op with
 |.add=>some (.i k (k.wrap (a+b)))
 |.sub=>some (.i k (k.wrap (a-b)))
 |.mul=>some (.i k (k.wrap (a*b)))
 |.eql=>some (.b (a==b))
 |.neq=>some (.b (a != b))
 |.lss=>some (.b (decide (a<b)))
 |.leq=>some (.b (decide (a≤b)))
 |.gtr=>some (.b (decide (b<a)))
 |.geq=>some (.b (decide (b≤a)))
 |.and=>some (.i k (bits .and k a b))
 |.or=>some (.i k (bits .or k a b))
 |.xor=>some (.i k (bits .xor k a b))
 |_=>none
variable{op:BinOp}
def B9l{k:IntKind}{a b:Int}{x:XD}(h:Bho op k a b=some x):∃v,x.d = .sc v∧Ahn op k a b=some v:=by cases op<;>simp[Bho]at h<;>subst h<;>exact⟨_,rfl,rfl⟩
def Bgi(op:BinOp)(a b:UInt8):A3 XD :=
 match op with
 |.add=>some (.u8 (a+b))
 |.sub=>some (.u8 (a-b))
 |.mul=>some (.u8 (a*b))
 |.eql=>some (.b (a==b))
 |.neq=>some (.b (a != b))
 |.lss=>some (.b (decide (a<b)))
 |.leq=>some (.b (decide (a≤b)))
 |.gtr=>some (.b (decide (b<a)))
 |.geq=>some (.b (decide (b≤a)))
 |.and=>some (.u8 (Wn (bits .and .u8 (a.toNat:Int) (b.toNat:Int))))
 |.or=>some (.u8 (Wn (bits .or .u8 (a.toNat:Int) (b.toNat:Int))))
 |.xor=>some (.u8 (Wn (bits .xor .u8 (a.toNat:Int) (b.toNat:Int))))
 |_=>none
def Zy(k:IntKind)(n:Int):k.wrap (k.wrap n)=k.wrap n:=by unfold IntKind.wrap;cases k<;>simp[IntKind.bits,IntKind.signed]<;>(try split)<;>(try split)<;>omega
section
variable{P:Program}{R:Type}
def Fa(P:Program)(t:TypeId):A3 (TypeId×Nat×Nat) :=
 match P.underlying t with
 |some (.slice e) =>
  match P.info? e with
  |some i=>cond (match i.zero with|some z=>Nat.beq z.cells.size i.size|none=>false) (some (e,i.size,i.bytes)) none
  |none=>none
 |_=>none
def C4{t e bytes:Nat}(h:Fa P t=some (e,sz,bytes)):Pu P t e sz bytes:=by
 unfold Fa at h;split at h
 ·rename_i e' ht;split at h
  ·rename_i i hi;cases hz:i.zero with
   |none=>simp[hz]at h
   |some z =>
    simp only[hz]at h;cases hb:Nat.beq z.cells.size i.size with
    |false=>simp[hb]at h
    |true =>simp only[hb,Bov,Bp0,Bpm]at h;obtain⟨rfl,rfl,rfl⟩:=h;exact⟨ht,i,z,hi,rfl,rfl,hz,Boy hb⟩
  ·cases h
 ·cases h
def tyI(P:Program)(t:TypeId):A3 (Bool×Nat) :=
 match P.underlying t,P.info? t with
 |some d,some i=>some (Aa5 d,i.size)
 |_,_=>none
def Ym{agg:Bool}(h:tyI P t=some (agg,sz)):TyI P t agg sz:=by
 unfold tyI at h;split at h
 ·rename_i d i hd hi;cases h;exact⟨⟨d,hd,rfl⟩,⟨i,hi,rfl⟩⟩
 ·cases h
def Aqw(P:Program)(s n:Nat):A3 (Nat×Nat×Bool) :=
 match P.underlying s with
 |some (.struct fs) =>
  match fs[n]? with
  |some f =>
   match tyI P f.type with
   |some (agg,sz)=>cond (Nat.beq sz 0) none (some (f.offset,sz,agg))
   |none=>none
  |none=>none
 |_=>none
def A3k{s:Nat}{agg:Bool}(h:Aqw P s n=some (off,sz,agg)):Aho P s n off sz agg:=by
 unfold Aqw at h;split at h
 ·rename_i fs hfs;split at h
  ·rename_i f hf;split at h
   ·rename_i ag sz' ht;cases hz:Nat.beq sz' 0 with
    |true=>simp[hz]at h
    |false =>simp only[hz,Box,Bp0,Bpm]at h;obtain⟨rfl,rfl,rfl⟩:=h;exact⟨⟨fs,f,hfs,hf,rfl,Ym ht⟩,Brd hz⟩
   ·cases h
  ·cases h
 ·cases h
def Avk(st:Af)(x:Operand)(K:Out→A3 R):A3 R :=
 match Av st x with
 |some v=>K (B0 st v [(x,v)])
 |none=>none
def Cy(h:Av st x=some v):∀p∈Ay [(x,v)],Dx st.im p.1 p.2:=by intro p hp;simp only[Ay,Bp3,Bpz,Bpg]at hp;subst hp;exact Aj h
def Aid{o:Oper}{K:Out→A3 R}{r:R}(ho:o.op = .move x∨o.op = .assign x)(h:Avk st x K=some r):∃out,K out=some r∧Bp P o st out:=by
 unfold Avk at h;split at h
 ·rename_i v hv;refine⟨_,h,Aa (Cy hv) fun X=>?_⟩;rcases ho with ho|ho
  ·exact Bdc ho
  ·exact B5b ho
 ·cases h
def B9m(st:Af)(c x y:Operand)(K:Out→A3 R):A3 R :=
 match Av st c with
 |some (.d (.b b)) =>
  cond b (match Av st x with|some v=>K (B0 st v [(c,.d (.b true)),(x,v)])|none=>none)
   (match Av st y with|some v=>K (B0 st v [(c,.d (.b false)),(y,v)])|none=>none)
 |_=>none
def B9n{o:Oper}{c:Operand}{K:Out→A3 R}{r:R}(ho:o.op = .pick c x y)(h:B9m st c x y K=some r):∃out,K out=some r∧Bp P o st out:=by
 unfold B9m at h;split at h
 ·rename_i b hb;cases b with
  |true =>
   simp only[Bov]at h;split at h
   ·rename_i v hv;refine⟨_,h,Aa ?_ fun X=>Apy ho⟩;intro p hp;simp only[Ay,Bp3,Bpz,Boz,Bpt,Bqy]at hp;rcases hp with rfl|rfl
    ·exact Aj hb
    ·exact Aj hv
   ·cases h
  |false =>
   simp only[Box]at h;split at h
   ·rename_i v hv;refine⟨_,h,Aa ?_ fun X=>Ame ho⟩;intro p hp;simp only[Ay,Bp3,Bpz,Boz,Bpt,Bqy]at hp;rcases hp with rfl|rfl
    ·exact Aj hb
    ·exact Aj hv
   ·cases h
 ·cases h
end
section
variable{P:Program}{o:Oper}{X:A5}
def Bhp{k j:IntKind}{a b:Int}(ho:o.op = .binOp .shl t x y t')(hb:0≤b) :
  Bi P o [(x,.d (.int k a)),(y,.d (.int j b))] X X [] (.d (.int k (k.wrap (a*2 ^ (min b.toNat k.bits))))) :=
 .quiet fun _ _ g w ac _ Au=>by
  have h1:=(Is Au).Ap;have h2:=(Y4 Au).Ap;simp only at h1 h2;refine⟨_,?_,.H4 _ _ _⟩;have hg:eqGuard .shl t x y (.int k a) (.int j b)=pure ():=rfl;simp only[execOp,ho,h1,h2,hg];simp[binOp,Op.shift,show ¬b<0 by omega]
def Bhq{k j:IntKind}{a b:Int}(ho:o.op = .binOp .shr t x y t')(hb:0≤b) :
  Bi P o [(x,.d (.int k a)),(y,.d (.int j b))] X X [] (.d (.int k (a.fdiv (2 ^ (min b.toNat k.bits))))) :=
 .quiet fun _ _ g w ac _ Au=>by
  have h1:=(Is Au).Ap;have h2:=(Y4 Au).Ap;simp only at h1 h2;refine⟨_,?_,.H4 _ _ _⟩;have hg:eqGuard .shr t x y (.int k a) (.int j b)=pure ():=rfl;simp only[execOp,ho,h1,h2,hg];simp[binOp,Op.shift,show ¬b<0 by omega]
def B5t{k:IntKind}{a b:Int}(ho:o.op = .binOp .andNot t x y t') :
  Bi P o [(x,.d (.int k a)),(y,.d (.int k b))] X X [] (.d (.int k (bits .andNot k a b))) :=
 .quiet fun _ _ g w ac _ Au=>by
  have h1:=(Is Au).Ap;have h2:=(Y4 Au).Ap;simp only at h1 h2;refine⟨_,?_,.H4 _ _ _⟩;have hg:eqGuard .andNot t x y (.int k a) (.int k b)=pure ():=rfl;simp only[execOp,ho,h1,h2,hg];simp[binOp,Op.intBits,bits]
def Bhr(op:BinOp)(a b:A2 UInt8):A3 Bool :=
 match op with
 |.eql=>some (a==b)
 |.neq=>some (a != b)
 |.lss=>some (Op.bytesLess a b)
 |.leq=>some (Op.bytesLess a b||a==b)
 |.gtr=>some (!(Op.bytesLess a b||a==b))
 |.geq=>some (!(Op.bytesLess a b))
 |_=>none
def Bdy{a b:A2 UInt8}{c:Bool}(ho:o.op = .binOp op t x y t')(hc:Bhr op a b=some c) :
  Bi P o [(x,.d (.bs a)),(y,.d (.bs b))] X X [] (.d (.bool c)) :=
 .quiet fun _ _ g w ac _ Au=>by
  have h1:=(Is Au).Ap;have h2:=(Y4 Au).Ap;simp only at h1 h2;refine⟨_,?_,.H4 _ _ _⟩;have e1:(⟨a.toArray⟩:ByteArray).toList=a:=by simp[Buy]
  have e2:(⟨b.toArray⟩:ByteArray).toList=b:=by simp[Buy]
  cases op<;>simp only[Bhr,Bp0,reduceCtorEq]at hc<;>subst hc <;>
   simp[execOp,ho,h1,h2,eqGuard,binOp,Op.stringOp,e1,e2,bne]
def eqS(P:Program):Nat→TypeId→A2 XD→A2 XD→A3 Bool
 |0,_,_,_=>none
 |d+1,t,xs,ys =>
  match P.underlying t with
  |some (.int _) =>
   match xs,ys with
   |[.i k a],[.i k' b]=>cond (Le k k') (some (a==b)) none
   |[.u8 a],[.u8 b]=>some (a==b)
   |[.u8 a],[.i .u8 b]=>some (((a.toNat:Nat):Int)==b)
   |[.i .u8 a],[.u8 b]=>some (a==((b.toNat:Nat):Int))
   |_,_=>none
  |some .bool =>
   match xs,ys with
   |[.b a],[.b b]=>some (a==b)
   |_,_=>none
  |some .string =>
   match xs,ys with
   |[.s a],[.s b]=>some (a==b)
   |_,_=>none
  |some (.struct fs)=>cond (P.stoodInHeld t) none (Azn P (eqS P d) xs ys fs.toList)
  |_=>none
where
 Azn (P:Program) (rec:TypeId→A2 XD→A2 XD→A3 Bool) (xs ys:A2 XD):A2 Field→A3 Bool
 |[]=>some true
 |f::fs =>
  match tyI P f.type with
  |some (_,sz) =>
   cond (decide (f.name = "_")) none (match rec f.type ((xs.drop f.offset).take sz) ((ys.drop f.offset).take sz) with
    |some a=>match fs with
     |[]=>some a
     |_=>match Azn P rec xs ys fs with
      |some b=>some (a&&b)
      |none=>none
    |none=>none)
  |none=>none
def VR(γ:Nat→Nat)(w:World)(xs:A2 XD)(vs:Array Value):Prop :=
 xs.length=vs.size∧∀(i:Nat) x v,xs[i]? = some x→vs[i]? = some v→RD γ w x.d v
def Kp(agg:Bool)(vs:Array Value):Value:=if agg then .agg vs else vs.getD 0 undef
def VR.sub{vs:Array Value}(h:VR γ w xs vs)(off sz:Nat):VR γ w ((xs.drop off).take sz) (vs.extract off (off+sz)):=by
 refine⟨by simp[h.1];omega,?_⟩;intro i x v hx hv;rw[Bqj]at hx;split at hx
 ·rw[Bqn]at hx;rw[Bt4]at hv;split at hv
  ·exact h.2 _ x v hx hv
  ·cases hv
 ·cases hx
def Wo{agg:Bool}(ht:TyI P t agg sz)(vs:Array Value)(off:Nat)(w:World)(h1:agg=false→off<vs.size∧0<sz) :
  (part t vs off).run P w = .ok (Kp agg (vs.extract off (off+sz))) w:=by
 unfold part;rw[Bq5,A5f ht,Bpr];cases agg with
 |true=>simp[ht.Zr,Kp]
 |false =>
  obtain⟨h0,h2⟩:=h1 rfl;have:0<min (off+sz) vs.size-off:=by omega
  simp[h0,Kp,Array.getD,this]
theorem Aqx{γ:Nat→Nat}{w:World}:∀(d:Nat) (t:TypeId) (xs ys:A2 XD) (b:Bool) (vs us:Array Value) (e:Nat) (dd:TypeDesc),eqS P d t xs ys=some b→P.underlying t=some dd→VR γ w xs vs→VR γ w ys us →
  (Op.equalIn (d+e) t (Kp (Aa5 dd) vs) (Kp (Aa5 dd) us)).run P w = .ok b w
 |0,t,xs,ys,b,vs,us,e,dd,h,hd,hx,hy=>by simp[eqS]at h
 |d+1,t,xs,ys,b,vs,us,e,dd,h,hd,hx,hy=>by
  have one:∀ {xs:A2 XD} {vs:Array Value} {x:XD},VR γ w xs vs→xs=[x]→∃v,vs=#[v]∧RD γ w x.d v:=by
   intro xs vs x h he;subst he;obtain⟨h1,h2⟩:=h;have:vs.size=1:=by simpa using h1.symm
   refine⟨vs[0],?_,h2 0 x _ rfl (by simp[this])⟩;apply Array.ext
   ·simp[this]
   ·intro i h1 h2;have:i=0:=by simp at h2;omega
    subst this;rfl
  have A2i:∀ {v u:Value},RD γ w (.sc u) v→v=u:=by intro v u h;cases h;rfl
  unfold eqS at h;rw[show d+1+e=(d+e)+1 by omega];rw[hd]at h;cases dd with
  |int k0 =>
   simp only[Aa5,Kp];simp only at h;split at h
   ·rename_i k a k' b';cases hk:Le k k'<;>simp[hk]at h;have:=Hd hk;subst this;subst h;obtain⟨v,rfl,hv⟩:=one hx rfl;obtain⟨u,rfl,hu⟩:=one hy rfl;have:=A2i hv;subst this;have:=A2i hu;subst this;simpa using Bu9 w (d+e) t k k0 a b' hd
   ·rename_i a b';simp at h;subst h;obtain⟨v,rfl,hv⟩:=one hx rfl;obtain⟨u,rfl,hu⟩:=one hy rfl;have:=A2i hv;subst this;have:=A2i hu;subst this;have e1:=Bu9 (P:=P) w (d+e) t .u8 k0 (a.toNat:Int) (b'.toNat:Int) hd;have e2:(((a.toNat:Nat):Int)==((b'.toNat:Nat):Int))=(a==b'):=by rw[Bqq];simp only[Btr];exact Aqn
    rw[e2]at e1;simpa using e1
   ·rename_i a b';simp at h;subst h;obtain⟨v,rfl,hv⟩:=one hx rfl;obtain⟨u,rfl,hu⟩:=one hy rfl;have:=A2i hv;subst this;have:=A2i hu;subst this;simpa using Bu9 (P:=P) w (d+e) t .u8 k0 (a.toNat:Int) b' hd
   ·rename_i a b';simp at h;subst h;obtain⟨v,rfl,hv⟩:=one hx rfl;obtain⟨u,rfl,hu⟩:=one hy rfl;have:=A2i hv;subst this;have:=A2i hu;subst this;simpa using Bu9 (P:=P) w (d+e) t .u8 k0 a (b'.toNat:Int) hd
   ·cases h
  |bool =>
   simp only[Aa5,Kp];simp only at h;split at h
   ·rename_i a b';simp at h;subst h;obtain⟨v,rfl,hv⟩:=one hx rfl;obtain⟨u,rfl,hu⟩:=one hy rfl;have:=A2i hv;subst this;have:=A2i hu;subst this;simpa using run_equalIn_bool' (P:=P) w (d+e) t a b' hd
   ·cases h
  |string =>
   simp only[Aa5,Kp];simp only at h;split at h
   ·rename_i a b';simp at h;subst h;obtain⟨v,rfl,hv⟩:=one hx rfl;obtain⟨u,rfl,hu⟩:=one hy rfl;have:=A2i hv;subst this;have:=A2i hu;subst this;have:=run_equalIn_string (P:=P) w (d+e) t ⟨a.toArray⟩ ⟨b'.toArray⟩ hd;simp only[Buy]at this;simpa using this
   ·cases h
  |struct fs =>
   simp only[Aa5,Kp];simp only at h;cases hs:P.stoodInHeld t with
   |true=>simp[hs]at h
   |false =>
    simp only[hs,Box]at h;have hf:P.fieldsOf t=fs:=by simp[Program.fieldsOf,hd]
    have:=run_equalIn_agg (P:=P) w (d+e) t vs us (by rw[hf];exact hd) hs;rw[hf]at this;simp only[Brg];rw[this];clear this hf hd hs;generalize fs.toList=fl at h;induction fl generalizing b with
    |nil=>simp[eqS.Azn]at h;subst h;rfl
    |cons f fl ih =>
     unfold eqS.Azn at h;split at h
     ·rename_i ag sz Aht;have hT:=Ym Aht
      by_cases hn : f.name = "_"
      ·simp[hn]at h
      ·simp only[hn,decide_false,Box]at h;split at h
       ·rename_i a ha;obtain⟨⟨d1,hd1,hag⟩,_⟩:=id hT;have key:=Aqx d f.type _ _ a _ _ e d1 ha hd1 (hx.sub f.offset sz) (hy.sub f.offset sz);rw[hag]at key;have Vu:∀ {zs:A2 XD} {ws:Array Value},VR γ w zs ws→(∃q,(zs.drop f.offset).take sz=q∧q≠[])→f.offset<ws.size∧0<sz:=by
         intro zs ws hz ⟨q,hq,hne⟩;have:0<((zs.drop f.offset).take sz).length:=by rw[hq];exact Bsp.2 hne
         simp at this;rw[← hz.1];omega
        have hne:ag=false→((xs.drop f.offset).take sz≠[])∧((ys.drop f.offset).take sz≠[]):=by
         intro hg;subst hg;refine⟨fun h0=>?_,fun h0=>?_⟩
         ·rw[h0]at ha;cases d with
          |zero=>simp[eqS]at ha
          |succ d =>unfold eqS at ha;rw[hd1]at ha;cases d1<;>simp[Aa5]at hag<;>simp at ha
         ·rw[h0]at ha;cases d with
          |zero=>simp[eqS]at ha
          |succ d =>
           unfold eqS at ha;rw[hd1]at ha;cases d1<;>simp[Aa5]at hag<;>simp at ha
           all_goals (split at ha<;>simp_all)
        have p1:=Wo hT vs f.offset w (fun hg=>Vu hx ⟨_,rfl,(hne hg).1⟩);have p2:=Wo hT us f.offset w (fun hg=>Vu hy ⟨_,rfl,(hne hg).2⟩);simp only[Op.eqFields,ne_eq,hn,not_false_eq_true,Brg,Bq5,p1,p2,Bpr,key];split at h
        ·cases h;cases b<;>simp[Op.eqFields]
        ·rename_i hfl;split at h
         ·rename_i b2 hb2;cases h;have:=ih b2 hb2;cases a with
          |true=>simpa using this
          |false=>simp
         ·cases h
       ·cases h
     ·cases h
  |_=>simp at h
def B9o{ys:A2 XD}(hop:op = .eql∨op = .neq)(ho:o.op = .binOp op t x y t')(hb:eqS P 9 t xs ys=some b)
  (ht:(P.underlying t).map Aa5=some true) (hm:P.eqGuardType P.depth t=false) :
  Bi P o [(x,.d (.agg (D1 xs))),(y,.d (.agg (D1 ys)))] X X [] (.d (.bool (if op = .eql then b else !b))) :=
 .quiet fun _ _ g w ac _ Au=>by
  have h1:=Is Au;have h2:=Y4 Au;simp only at h1 h2;have ag:∀ {zs:A2 XD} {v:Value},RA g w (.d (.agg (D1 zs))) v→∃vs,v = .agg vs∧VR g.γ w zs vs:=by
   intro zs v h;cases h with
   |d _ _ h =>
    cases h with
    |agg _ vs hl hc =>refine⟨vs,rfl,by simpa[Gj]using hl,fun i x u hx hu=>hc i x.d u ?_ hu⟩;rw[He,Bp1,hx];rfl
  obtain⟨vs,hv,hvr⟩:=ag h1;obtain⟨us,hu,hur⟩:=ag h2;obtain⟨dd,hd,hag⟩:=Bp8.1 ht;have key:=Aqx (P:=P) (w:=w) 9 t xs ys b vs us 9991 dd hb hd hvr hur;rw[hag]at key;simp only[Kp,Brg]at key;refine⟨_,?_,.H4 _ _ _⟩;rcases hop with rfl|rfl
  ·simp only[execOp,ho,hv,hu];simp[run_eqGuard_agg (P:=P) w .eql t x y vs us hm,run_eql_struct,key]
  ·simp only[execOp,ho,hv,hu];simp[run_eqGuard_agg (P:=P) w .neq t x y vs us hm,run_neq_struct,key]
end
section
variable{P:Program}{R:Type}
def Bdz(k:IntKind)(n:Int):XD :=
 match k with
 |.u8=>.u8 (Wn n)
 |k=>.i k n
def Ao2(k:IntKind)(n:Int)(h:k = .u8→IntKind.u8.wrap n=n):(Bdz k n).d = .int k n:=by
 unfold Bdz;split
 ·simp only[XD.d];rw[A5l,h rfl]
 ·rfl
def Azo(op:BinOp)(k:IntKind)(a b:Int)(K:XD→A3 R):A3 R :=
 match op with
 |.quo=>cond (b==0) none (K (.i k (k.wrap (a.tdiv b))))
 |.rem=>cond (b==0) none (K (.i k (a.tmod b)))
 |.andNot=>K (.i k (bits .andNot k a b))
 |op=>match Bho op k a b with
  |some x=>K x
  |none=>none
def Aqy(op:BinOp)(a b:UInt8)(K:XD→A3 R):A3 R :=
 match op with
 |.quo=>cond (b==0) none (K (.u8 (a/b)))
 |.rem=>cond (b==0) none (K (.u8 (a % b)))
 |op=>match Bgi op a b with
  |some x=>K x
  |none=>none
def Adf(op:BinOp)(k:IntKind)(a b:Int)(K:XD→A3 R):A3 R :=
 match op with
 |.shl=>cond (decide (0≤b)) (K (Bdz k (k.wrap (a*2 ^ (min b.toNat k.bits))))) none
 |.shr=>cond (decide (0≤b)) (match k with
  |.u8=>none
  |k=>K (.i k (a.fdiv (2 ^ (min b.toNat k.bits))))) none
 |_=>none
def Yn:BinOp→Bool
 |.shl|.shr=>true
 |_=>false
def Bkc(op:BinOp)(a b:A2 UInt8)(K:XD→A3 R):A3 R :=
 match op with
 |.add=>cond (decide (a.length+b.length≤4611686018427387904)) (K (.s (a++b))) none
 |op=>match Bhr op a b with
  |some c=>K (.b c)
  |none=>none
def B9p(P:Program)(op:BinOp)(t:TypeId)(xs ys:A2 XD)(K:XD→A3 R):A3 R :=
 match eqS P 9 t xs ys,P.underlying t with
 |some b,some (.struct _)=>cond (P.eqGuardType P.depth t) none (match op with
  |.eql=>K (.b b)
  |.neq=>K (.b (!b))
  |_=>none)
 |_,_=>none
def Bkd(P:Program)(op:BinOp)(t:TypeId)(a b:Bool)(K:XD→A3 R):A3 R :=
 match P.underlying t with
 |some .bool=>match op with
  |.eql=>K (.b (a==b))
  |.neq=>K (.b (!(a==b)))
  |_=>none
 |_=>none
def Bhs(P:Program)(op:BinOp)(t:TypeId)(x y:XD)(K:XD→A3 R):A3 R :=
 match x,y with
 |.i k a,.i k' b=>cond (Yn op) (Adf op k a b K) (cond (Le k k') (Azo op k a b K) none)
 |.i k a,.u8 b=>cond (Yn op) (Adf op k a (b.toNat:Int) K) none
 |.u8 a,.i k b=>cond (Yn op) (Adf op .u8 (a.toNat:Int) b K) none
 |.u8 a,.u8 b=>cond (Yn op) (Adf op .u8 (a.toNat:Int) (b.toNat:Int) K) (Aqy op a b K)
 |.s a,.s b=>Bkc op a b K
 |.b a,.b b=>Bkd P op t a b K
 |.agg xs,.agg ys=>B9p P op t xs ys K
 |_,_=>none
def A5m{o:Oper}{k j:IntKind}{a b:Int}{K:XD→A3 R}{r:R}(ho:o.op = .binOp op t x y t')(h:Adf op k a b K=some r) :
  ∃z,K z=some r∧∀X,Bi P o [(x,.d (.int k a)),(y,.d (.int j b))] X X [] (.d z.d):=by
 unfold Adf at h;split at h
 ·by_cases hb:0≤b
  ·simp only[hb,Bw2,Bov]at h;refine⟨_,h,fun X=>?_⟩;rw[Ao2 k _ (fun hk=>by subst hk;exact Zy _ _)];exact Bhp ho hb
  ·simp[hb]at h
 ·by_cases hb:0≤b
  ·simp only[hb,Bw2,Bov]at h;split at h
   ·cases h
   ·exact⟨_,h,fun X=>Bhq ho hb⟩
  ·simp[hb]at h
 ·cases h
def B5u{o:Oper}{k:IntKind}{a b:Int}{K:XD→A3 R}{r:R}(ho:o.op = .binOp op t x y t')(h:Azo op k a b K=some r) :
  ∃z,K z=some r∧∀X,Bi P o [(x,.d (.int k a)),(y,.d (.int k b))] X X [] (.d z.d):=by
 unfold Azo at h;split at h
 ·by_cases hb:b=0
  ·simp[hb]at h
  ·have:(b==0)=false:=by simpa using hb
   simp only[this,Box]at h;exact⟨_,h,fun X=>B8y ho hb rfl⟩
 ·by_cases hb:b=0
  ·simp[hb]at h
  ·have:(b==0)=false:=by simpa using hb
   simp only[this,Box]at h;exact⟨_,h,fun X=>B8x ho hb rfl⟩
 ·exact⟨_,h,fun X=>B5t ho⟩
 ·split at h
  ·rename_i z hz;obtain⟨v,hv,hr⟩:=B9l hz;refine⟨z,h,fun X=>?_⟩;rw[hv];exact B8l ho hr
  ·cases h
def Be0(b:UInt8):IntKind.u8.wrap (b.toNat:Int)=(b.toNat:Int):=by have:=b.toNat_lt;unfold IntKind.wrap;simp[IntKind.bits,IntKind.signed];omega
def B9q{o:Oper}{a b:UInt8}{K:XD→A3 R}{r:R}(ho:o.op = .binOp op t x y t')(h:Aqy op a b K=some r) :
  ∃z,K z=some r∧∀X,Bi P o [(x,.d (.int .u8 (a.toNat:Int))),(y,.d (.int .u8 (b.toNat:Int)))] X X [] (.d z.d):=by
 have ha:=a.toNat_lt;have hb:=b.toNat_lt;unfold Aqy at h;split at h
 ·by_cases hb:b=0
  ·simp[hb]at h
  ·have Fp:(b==0)=false:=by simpa using hb
   simp only[Fp,Box]at h;refine⟨_,h,fun X=>?_⟩;have h0:((b.toNat:Nat):Int)≠0:=by intro h0;apply hb;apply Bvy.1;simpa using h0
   refine B8y ho h0 ?_;rw[show(((a/b:UInt8).toNat:Nat):Int)=((a.toNat:Nat):Int).tdiv ((b.toNat:Nat):Int) by rw[UInt8.toNat_div];rfl];have:(((a/b:UInt8).toNat:Nat):Int)=((a.toNat:Nat):Int).tdiv ((b.toNat:Nat):Int):=by rw[UInt8.toNat_div];rfl
   rw[← this];exact Be0 _
 ·by_cases hb:b=0
  ·simp[hb]at h
  ·have Fp:(b==0)=false:=by simpa using hb
   simp only[Fp,Box]at h;refine⟨_,h,fun X=>?_⟩;have h0:((b.toNat:Nat):Int)≠0:=by intro h0;apply hb;apply Bvy.1;simpa using h0
   exact B8x ho h0 (by rw[UInt8.toNat_mod];rfl)
 ·split at h
  ·rename_i z hz;refine⟨z,h,fun X=>?_⟩;have mk:∀ {v:Value},Ahn op .u8 (a.toNat:Int) (b.toNat:Int)=some v→z.d = .sc v→Bi P o [(x,.d (.int .u8 (a.toNat:Int))),(y,.d (.int .u8 (b.toNat:Int)))] X X [] (.d z.d):=by intro v h1 h2;rw[h2];exact B8l ho h1
   unfold Bgi at hz;split at hz<;>simp only[Bp0,reduceCtorEq]at hz<;>subst hz
   ·refine mk rfl ?_;simp only[XD.d];congr 2
   ·refine mk rfl ?_;simp only[XD.d];congr 2;rw[UInt8.toNat_sub];unfold IntKind.wrap;simp[IntKind.bits,IntKind.signed];omega
   ·refine mk rfl ?_;simp only[XD.d];congr 2
   ·refine mk rfl ?_;simp only[XD.d,D.bool];congr 2;rw[Bqq];simp only[Btr];exact Aqn.symm
   ·refine mk rfl ?_;simp only[XD.d,D.bool];congr 2;rw[Bqq];simp only[bne_iff_ne,ne_eq];exact not_congr Aqn.symm
   ·refine mk rfl ?_;simp only[XD.d,D.bool];congr 2;rw[Bqq];simp[Bwa]
   ·refine mk rfl ?_;simp only[XD.d,D.bool];congr 2;rw[Bqq];simp[Bty]
   ·refine mk rfl ?_;simp only[XD.d,D.bool];congr 2;rw[Bqq];simp[Bwa]
   ·refine mk rfl ?_;simp only[XD.d,D.bool];congr 2;rw[Bqq];simp[Bty]
   ·refine mk rfl ?_;simp only[XD.d];congr 2;rw[A5l];unfold bits;exact Zy _ _
   ·refine mk rfl ?_;simp only[XD.d];congr 2;rw[A5l];unfold bits;exact Zy _ _
   ·refine mk rfl ?_;simp only[XD.d];congr 2;rw[A5l];unfold bits;exact Zy _ _
  ·cases h
def Be1{o:Oper}{a b:XD}{K:XD→A3 R}{r:R}(ho:o.op = .binOp op t x y t')(h:Bhs P op t a b K=some r) :
  ∃z,K z=some r∧∀X,Bi P o [(x,.d a.d),(y,.d b.d)] X X [] (.d z.d):=by
 unfold Bhs at h;split at h
 ·rename_i k a k' b;cases hs:Yn op with
  |true=>simp only[hs,Bov]at h;exact A5m ho h
  |false =>
   simp only[hs,Box]at h;cases hk:Le k k' with
   |false=>simp[hk]at h
   |true =>have:=Hd hk;subst this;simp only[hk,Bov]at h;exact B5u ho h
 ·cases hs:Yn op with
  |true=>simp only[hs,Bov]at h;exact A5m ho h
  |false=>simp[hs]at h
 ·cases hs:Yn op with
  |true=>simp only[hs,Bov]at h;exact A5m ho h
  |false=>simp[hs]at h
 ·cases hs:Yn op with
  |true=>simp only[hs,Bov]at h;exact A5m ho h
  |false=>simp only[hs,Box]at h;exact B9q ho h
 ·rename_i a b;unfold Bkc at h;split at h
  ·by_cases hl:a.length+b.length≤4611686018427387904
   ·simp only[hl,Bw2,Bov]at h;exact⟨_,h,fun X=>B96 ho hl⟩
   ·simp[hl]at h
  ·split at h
   ·rename_i c hc;exact⟨_,h,fun X=>Bdy ho hc⟩
   ·cases h
 ·unfold Bkd at h;split at h
  ·rename_i ht;split at h
   ·exact⟨_,h,fun X=>Aup ho ht⟩
   ·exact⟨_,h,fun X=>Auq ho ht⟩
   ·cases h
  ·cases h
 ·unfold B9p at h;split at h
  ·rename_i b fs hb ht;cases hm:P.eqGuardType P.depth t with
   |true=>simp[hm]at h
   |false =>
    simp only[hm,Box]at h;have hag:(P.underlying t).map Aa5=some true:=by rw[ht];rfl
    split at h
    ·refine⟨_,h,fun X=>?_⟩;exact B9o (X:=X) (.inl rfl) ho hb hag hm
    ·refine⟨_,h,fun X=>?_⟩;exact B9o (X:=X) (.inr rfl) ho hb hag hm
    ·cases h
  ·cases h
 ·cases h
end
section
variable{P:Program}{R:Type}
def Bhu(P:Program)(st:Af)(op:BinOp)(t:TypeId)(x y:Operand)(K:Out→A3 R):A3 R :=
 match xd st x,xd st y with
 |some a,some b=>Bhs P op t a b fun z=>K (B0 st (.d z) [(x,.d a),(y,.d b)])
 |_,_=>none
def Be2{o:Oper}{K:Out→A3 R}{r:R}(ho:o.op = .binOp op t x y t')(h:Bhu P st op t x y K=some r):∃out,K out=some r∧Bp P o st out:=by
 unfold Bhu at h;split at h
 ·rename_i a b ha hb;obtain⟨z,hz,hop⟩:=Be1 ho h;exact⟨_,hz,Aa (Avj ha hb) hop⟩
 ·cases h
def xUn(st:Af)(op:UnOp)(x:Operand)(K:Out→A3 R):A3 R :=
 match op,xd st x with
 |.not,some (.b b)=>K (B0 st (.d (.b (!b))) [(x,.d (.b b))])
 |.neg,some (.i k n)=>K (B0 st (.d (.i k (k.wrap (0-n)))) [(x,.d (.i k n))])
 |_,_=>none
def Bhv{o:Oper}{k:IntKind}{n:Int}{X:A5}(ho:o.op = .unOp .neg t x):Bi P o [(x,.d (.int k n))] X X [] (.d (.int k (k.wrap (0-n)))) :=
 .quiet fun _ _ g w ac _ Au=>by
  have h1:=(Is Au).Ap;simp only at h1;refine⟨_,?_,.H4 _ _ _⟩;simp[execOp,ho,h1,Op.unary,Op.intArith]
def Bhw{o:Oper}{op:UnOp}{K:Out→A3 R}{r:R}(ho:o.op = .unOp op t x)(h:xUn st op x K=some r):∃out,K out=some r∧Bp P o st out:=by
 unfold xUn at h;split at h
 ·rename_i b hb;exact⟨_,h,Aa (A3j hb) fun X=>Bh2 ho⟩
 ·rename_i k n hb;exact⟨_,h,Aa (A3j hb) fun X=>Bhv ho⟩
 ·cases h
def B9r(P:Program)(st:Af)(s d:TypeId)(x:Operand)(K:Out→A3 R):A3 R :=
 match xd st x,P.underlying s,P.underlying d with
 |some (.i j n),some _,some (.int k)=>K (B0 st (.d (Bdz k (k.wrap n))) [(x,.d (.i j n))])
 |some (.u8 b),some _,some (.int k) =>
  K (B0 st (.d (match k with
   |.u8=>.u8 b
   |.i8=>.i .i8 (IntKind.i8.wrap (b.toNat:Int))
   |k=>.i k (b.toNat:Int))) [(x,.d (.u8 b))])
 |some (.sl .u8 l),some (.slice e),some .string =>
  match P.underlying e with
  |some (.int .u8)=>K (B0 st (.d (.s l)) [(x,.d (.sl .u8 l))])
  |_=>none
 |some (.s l),some .string,some .string=>K (B0 st (.d (.s l)) [(x,.d (.s l))])
 |_,_,_=>none
def u8_in(b:UInt8)(k:IntKind)(h:k≠.i8):k.wrap (b.toNat:Int)=(b.toNat:Int):=by have:=b.toNat_lt;unfold IntKind.wrap;cases k<;>simp[IntKind.bits,IntKind.signed]at h⊢<;>(try split)<;>omega
def Avl{o:Oper}{d:TypeId}{l:A2 UInt8}{X:A5}(ho:o.op = .convert s d x)(hs:P.underlying s=some .string)(hd:P.underlying d=some .string):Bi P o [(x,.d (.bs l))] X X [] (.d (.bs l)) :=
 .quiet fun _ _ g w ac _ Au=>by
  have h1:=(Is Au).Ap;simp only at h1;refine⟨_,?_,.H4 _ _ _⟩;simp[execOp,ho,h1,convert,Bpb hs,Bpb hd]
def B9s{o:Oper}{d:TypeId}{K:Out→A3 R}{r:R}(ho:o.op = .convert s d x)(h:B9r P st s d x K=some r):∃out,K out=some r∧Bp P o st out:=by
 unfold B9r at h;split at h
 ·rename_i j n sd k hx hs hd;refine⟨_,h,Aa (A3j hx) fun X=>?_⟩;simp only[XV.a];rw[Ao2 k _ (fun hk=>by subst hk;exact Zy _ _)];exact Afa ho (by rw[hs];rfl) hd
 ·rename_i b sd k hx hs hd;refine⟨_,h,Aa (A3j hx) fun X=>?_⟩;have:=Afa (P:=P) (X:=X) (j:=.u8) (k:=k) (n:=(b.toNat:Int)) ho (by rw[hs];rfl) hd;simp only[XV.a];split
  ·rw[u8_in b _ (by decide)]at this;exact this
  ·exact this
  ·rw[u8_in b _ (by assumption)]at this;exact this
 ·rename_i l e hx hs hd;split at h
  ·rename_i he;refine⟨_,h,Aa (A3j hx) fun X=>?_⟩;have:=Ai7 (P:=P) (X:=X) (l:=l) ho hs he hd;exact this
  ·cases h
 ·rename_i l hx hs hd;exact⟨_,h,Aa (A3j hx) fun X=>Avl ho hs hd⟩
 ·cases h
def Aie(st:Af)(x:Operand)(i:Nat)(K:Out→A3 R):A3 R :=
 match Av st x with
 |some (.F2 l) =>
  match l[i]? with
  |some v=>K (B0 st v [(x,.F2 l)])
  |none=>none
 |_=>none
def Avm{o:Oper}{i:Nat}{K:Out→A3 R}{r:R}(ho:o.op = .extract x i)(h:Aie st x i K=some r):∃out,K out=some r∧Bp P o st out:=by
 unfold Aie at h;split at h
 ·rename_i l hl;split at h
  ·rename_i v hv;exact⟨_,h,Aa (Cy hl) fun X=>Az3 ho (by rw[Lf,hv];rfl)⟩
  ·cases h
 ·cases h
def Bhx(st:Af)(x:Operand)(K:Out→A3 R):A3 R :=
 match Av st x with
 |some (.nm k (.p off))=>K (B0 st (.nm k (.p off)) [(x,.nm k (.p off))])
 |some (.d (.ep cs))=>K (B0 st (.d (.ep cs)) [(x,.d (.ep cs))])
 |_=>none
def Aif{o:Oper}{cs:A2 D}{X:A5}(ho:o.op = .nilCheck x):Bi P o [(x,.d (.ep cs))] X X [] (.d (.ep cs)) :=
 .quiet fun _ _ g w ac _ Au=>by
  have h1:=Is Au;simp only at h1;cases h1 with
  |d _ _ h =>
   generalize hv:ac.eval x=v at h;have h':=h;cases h with
   |ep _ b off h1 h2 =>refine⟨_,?_,.d _ _ h'⟩;simp[execOp,ho,hv]
def Be3{o:Oper}{K:Out→A3 R}{r:R}(ho:o.op = .nilCheck x)(h:Bhx st x K=some r):∃out,K out=some r∧Bp P o st out:=by
 unfold Bhx at h;split at h
 ·rename_i k off hx;exact⟨_,h,Aa (Cy hx) fun X=>Agr ho⟩
 ·rename_i cs hx;exact⟨_,h,Aa (Cy hx) fun X=>Aif ho⟩
 ·cases h
end
section
variable{P:Program}{R:Type}
def A3l:A2 XV→A3 (A2 XD)
 |[]=>some []
 |.d x::r=>match A3l r with
  |some l=>some (x::l)
  |none=>none
 |_::_=>none
def Avn(cs:A2 XV):XV :=
 match A3l cs with
 |some ds=>.d (.agg ds)
 |none=>.agg cs
theorem B9t:∀(cs:A2 XV),Ahl (A7 cs)=(A3l cs).map D1
 |[]=>rfl
 |x::r=>by
  cases x with
  |d x =>simp only[A7,XV.a,Ahl,A3l,B9t r];cases A3l r<;>rfl
  |_=>simp[A7,XV.a,Ahl,A3l]
theorem Ao3:∀ {cs:A2 XV} {ds:A2 XD},A3l cs=some ds→cs=ds.map .d
 |[],ds,h=>by simp[A3l]at h;subst h;rfl
 |x::r,ds,h=>by
  cases x with
  |d x =>
   simp only[A3l]at h;split at h
   ·rename_i l hl;cases h;rw[Ao3 hl];rfl
   ·cases h
  |_=>simp[A3l]at h
def Aqz(cs:A2 XV):(Avn cs).a=Yf (A7 cs):=by unfold Avn Yf;rw[B9t];cases A3l cs<;>rfl
def XV.cells:XV→A2 XV
 |.d x=>x.cells.map .d
 |.agg cs=>cs
 |x=>[x]
def Be4(x:XD):x.d.cells=D1 x.cells:=by
 cases hx:x.isAgg with
 |true=>rw[XD.Bgh hx];rfl
 |false=>cases x<;>first|rfl|(simp[XD.isAgg]at hx;done)|(rename_i b;cases b<;>rfl)
def Ao4(l:A2 XD):A7 (l.map .d)=(D1 l).map .d:=by simp[Qu,He,XV.a]
def A5n(x:XV):x.a.cells=A7 x.cells:=by
 cases x with
 |d x=>simp only[XV.a,AV.cells,XV.cells,Be4,Ao4]
 |_=>rfl
def B33(P:Program)(st:Af)(t:TypeId)(x:Operand)(K:Out→A3 R):A3 R :=
 match Av st x,tyI P t with
 |some (.el k t i fo),some (agg,sz) =>
  match lk k st.objs with
  |some (.arr u l) =>
   if h:u.Jm t=true then
    cond agg (cond (Nat.ble (fo+sz) t.size) (Option.bind ((Ty.Am h▸l:List t.T)[i]?) fun e=>K ⟨.look [k],.d (.agg (((t.enc e).drop fo).take sz)),[(x,.el k t i fo)],st.objs,st.live,[],[]⟩) none)
     (cond (Nat.beq sz 1) (Option.bind ((Ty.Am h▸l:List t.T)[i]?) fun e=>match (t.enc e)[fo]? with
      |some v=>K ⟨.look [k],.d v,[(x,.el k t i fo)],st.objs,st.live,[],[]⟩
      |none=>none) none)
   else none
  |_=>none
 |some (.nm k (.p off)),some (agg,sz) =>
  match lk k st.objs with
  |some (.cells cs ty) =>
   cond agg (cond (Nat.ble (off+sz) cs.length) (K ⟨.look [k],Avn ((cs.drop off).take sz),[(x,.nm k (.p off))],st.objs,st.live,[],[]⟩) none)
    (cond (Nat.beq sz 1) (match cs[off]? with
     |some v=>K ⟨.look [k],v,[(x,.nm k (.p off))],st.objs,st.live,[],[]⟩
     |none=>none) none)
  |_=>none
 |some (.d (.pa ty l)),some (agg,sz) =>cond agg (cond (Nat.beq (l.length*ty.size) sz) (K (B0 st (.d (.ag ty l)) [(x,.d (.pa ty l))])) none) none
 |some (.d (.ep cs)),some (agg,sz) =>
  cond agg (cond (Nat.ble sz cs.length) (K (B0 st (.d (.agg (cs.take sz))) [(x,.d (.ep cs))])) none)
   (cond (Nat.beq sz 1) (match cs with
    |c::r=>K (B0 st (.d c) [(x,.d (.ep (c::r)))])
    |[]=>none) none)
 |_,_=>none
def Ao5{cs:A2 XV}{ty:A3 TypeId}(h:lk k st.objs=some (.cells cs ty)):st.X.objs.lookup k=some (.cells (A7 cs) ty):=by show(A4 st.objs).lookup k=_;exact Hy h
def A5o(l:A2 XD)(n:Nat):D1 (l.take n)=(D1 l).take n:=by simp[He,Bsj]
def A5p(l:A2 XV)(n:Nat):A7 (l.take n)=(A7 l).take n:=by simp[Qu,Bsj]
def A5q(l:A2 XV)(n:Nat):A7 (l.drop n)=(A7 l).drop n:=by simp[Qu,Bt0]
def A5r(l:A2 XD)(n:Nat):D1 (l.drop n)=(D1 l).drop n:=by simp[He,Bt0]
def Aat(t:Ty)(l:List t.T):∀(i:Nat) cs,(l.map t.ds)[i]? = some cs→cs.length=t.size:=by intro i cs h;rw[Bp1,Bp8]at h;obtain⟨x,_,rfl⟩:=h;exact t.Cj x
def B5v(l:A2 D):Ahl (l.map .d)=some l:=by
 induction l with
 |nil=>rfl
 |cons x r ih=>simp[Ahl,ih]
def B5w(l:A2 D):Yf (l.map .d) = .d (.agg l):=by unfold Yf;rw[B5v]
def Bgj(hs:∀(i:Nat) cs,fs[i]? = some cs→cs.length=sz){p:Nat}(hp:fs[p]? = some c)(h:fo+n≤c.length) :
  p*sz+fo+n≤(fs.flatten.map AV.d).length:=by
 rw[Bpl,Hs fs hs];have h1:p<fs.length:=(Bp2.1 hp).1;have h2:=hs p c hp;have h3:(p+1)*sz≤fs.length*sz:=Bqw sz h1;rw[Brj]at h3;omega
def Be5(hs:∀(i:Nat) cs,fs[i]? = some cs→cs.length=sz){p:Nat}(hp:fs[p]? = some c)(h:fo+n≤c.length) :
  ((fs.flatten.map AV.d).drop (p*sz+fo)).take n=((c.drop fo).take n).map .d:=by
 rw[← Bt0,← Bsj];congr 1;apply Bsc;intro i;simp only[Bqj,Bqn];split
 ·rename_i hi;have Bg:fo+i<c.length:=by omega
  rw[show p*sz+fo+i=p*sz+(fo+i) by omega,A5j fs hs p (fo+i) c c[fo+i] hp (by simp[Bg])];simp[Bg]
 ·rfl
def Avo{o:Oper}{K:Out→A3 R}{r:R}(ho:o.op = .load t x)(h:B33 P st t x K=some r):∃out,K out=some r∧Bp P o st out:=by
 unfold B33 at h;split at h
 ·rename_i k u i fo agg sz hx ht;have hT:=Ym ht;split at h
  ·rename_i u' l hk;split at h
   ·rename_i he;have e0:=Ty.Am he;subst e0;have Lb:st.X.objs.lookup k=some (.cells ((l.map u'.ds).flatten.map .d) none):=by show(A4 st.objs).lookup k=_;exact Hy hk
    have Hc:=Aat u' l;cases agg with
    |true =>
     simp only[Bov]at h;cases hb:Nat.ble (fo+sz) u'.size with
     |false=>simp[hb]at h
     |true =>
      simp only[hb,Bov]at h;have hle:=Bpf hb;obtain⟨e,he1,h⟩:=Bq3.1 h;have hp:(l.map u'.ds)[i]? = some (u'.ds e):=by rw[Bp1,he1];rfl
      refine⟨_,h,⟨Cy hx,⟨rfl,rfl,rfl,fun X hX=>?_⟩,fun _ _ _ h=>h⟩⟩;refine Yg ho (.agg sz _ none _ hT ((hX k Bp6).trans Lb) (Bgj Hc hp (by rw[Ty.Cj];exact hle)) ?_);rw[Be5 Hc hp (by rw[Ty.Cj];exact hle),B5w];simp only[XV.a,XD.d,A5o,A5r,Ty.Mu]
    |false =>
     simp only[Box]at h;cases hb:Nat.beq sz 1 with
     |false=>simp[hb]at h
     |true =>
      have:=Boy hb;subst this;simp only[hb,Bov]at h;obtain⟨e,he1,h⟩:=Bq3.1 h;have hp:(l.map u'.ds)[i]? = some (u'.ds e):=by rw[Bp1,he1];rfl
      split at h
      ·rename_i v hv;refine⟨_,h,⟨Cy hx,⟨rfl,rfl,rfl,fun X hX=>?_⟩,fun _ _ _ h=>h⟩⟩;refine Yg ho (.one _ none _ hT ((hX k Bp6).trans Lb) ?_);rw[Bp1,A5j _ Hc i fo (u'.ds e) v.d hp (by rw[← Ty.Mu,He,Bp1,hv];rfl)];rfl
      ·cases h
   ·cases h
  ·cases h
 ·rename_i k off agg sz hx ht;have hT:=Ym ht;split at h
  ·rename_i cs ty hk;have Lb:=Ao5 hk;cases agg with
   |true =>
    simp only[Bov]at h;cases hb:Nat.ble (off+sz) cs.length with
    |false=>simp[hb]at h
    |true =>simp only[hb,Bov]at h;refine⟨_,h,⟨Cy hx,⟨rfl,rfl,rfl,fun X hX=>?_⟩,fun _ _ _ h=>h⟩⟩;refine Yg ho (.agg sz (A7 cs) ty _ hT ((hX k Bp6).trans Lb) (by rw[Ah];exact Bpf hb) ?_);rw[Aqz,A5p,A5q]
   |false =>
    simp only[Box]at h;cases hb:Nat.beq sz 1 with
    |false=>simp[hb]at h
    |true =>
     have:=Boy hb;subst this;simp only[hb,Bov]at h;split at h
     ·rename_i v hv;refine⟨_,h,⟨Cy hx,⟨rfl,rfl,rfl,fun X hX=>?_⟩,fun _ _ _ h=>h⟩⟩;exact Yg ho (.one (A7 cs) ty _ hT ((hX k Bp6).trans Lb) (by rw[Lf,hv];rfl))
     ·cases h
  ·cases h
 ·rename_i ty l agg sz hx ht;have hT:=Ym ht;cases agg with
  |false=>simp at h
  |true =>
   simp only[Bov]at h;cases hb:Nat.beq (l.length*ty.size) sz with
   |false=>simp[hb]at h
   |true =>
    simp only[hb,Bov]at h;have e:=Boy hb;refine⟨_,h,Aa (Cy hx) fun X=>?_⟩;have hlen:((l.map ty.ds).flatten).length=l.length*ty.size:=by
     rw[List.length_flatten,Brv];have:(List.length∘ty.ds)=fun _=>ty.size:=by funext y;exact ty.Cj y
     rw[this];simp[List.map_const']
    have:=Afb (P:=P) (X:=X) (cs:=(l.map ty.ds).flatten) ho hT (by omega) trivial;rw[Brc (by omega)]at this;exact this
 ·rename_i cs agg sz hx ht;have hT:=Ym ht;cases agg with
  |true =>
   simp only[Bov]at h;cases hb:Nat.ble sz cs.length with
   |false=>simp[hb]at h
   |true =>simp only[hb,Bov]at h;refine⟨_,h,Aa (Cy hx) fun X=>?_⟩;have:=Afb (P:=P) (X:=X) (cs:=D1 cs) ho hT (by rw[Gj];exact Bpf hb) trivial;rw[← A5o]at this;exact this
  |false =>
   simp only[Box]at h;cases hb:Nat.beq sz 1 with
   |false=>simp[hb]at h
   |true =>
    have:=Boy hb;subst this;simp only[hb,Bov]at h;split at h
    ·exact⟨_,h,Aa (Cy hx) fun X=>Afc ho hT⟩
    ·cases h
 ·cases h
def B9u:XV→Bool
 |.d (.v u)=>u.oneCell'
 |.d (.agg _)=>false
 |.d (.ag _ _)=>false
 |.F2 _=>false
 |.agg _=>false
 |_=>true
def Bhy{x:XV}(h:B9u x=true):Aur x.a=true:=by
 cases x with
 |d x=>cases x<;>first|rfl|(simp[B9u]at h;done)|exact h|(rename_i b;cases b<;>rfl)
 |_=>first|rfl|(simp[B9u]at h)
def Aau:A2 XV→Bool
 |[]=>true
 |x::r=>cond (B9u x) (Aau r) false
theorem Ah9:∀ {l:A2 XV},Aau l=true→(A7 l).all Aur=true
 |[],_=>rfl
 |x::r,h=>by
  simp only[Aau]at h;cases hx:B9u x with
  |false=>simp[hx]at h
  |true =>simp only[hx,Bov]at h;simp only[A7,Bt9,Bhy hx,Ah9 h,Bqo]
def Sy:XV→Bool
 |.d (.v (.agg _))=>false
 |_=>true
def A5s{x:XV}(h:Sy x=true):A6q x.a=true:=by
 cases x with
 |d x =>
  cases x with
  |v u=>cases u<;>first|rfl|(simp[Sy]at h)
  |er b=>cases b<;>rfl
  |ic t k z=>cases z<;>rfl
  |_=>rfl
 |_=>rfl
def Aav(cs:A2 XV)(off:Nat)(vs:A2 XV):A2 XV:=cs.take off++vs++cs.drop (off+vs.length)
def Ao6(cs:A2 XV)(off:Nat)(vs:A2 XV):A7 (Aav cs off vs)=W8 (A7 cs) off (A7 vs):=by simp[Aav,W8,Dc,A5p,A5q,Ah]
theorem A3m{sz:Nat}:∀(fs:A2 (A2 D)),(∀(i:Nat) cs,fs[i]? = some cs→cs.length=sz)→∀(p:Nat) (c:A2 D) (fo:Nat) (vs:A2 D),fs[p]? = some c→fo+vs.length≤sz →
  fs.flatten.take (p*sz+fo)++vs++fs.flatten.drop (p*sz+fo+vs.length)=(fs.set p (c.take fo++vs++c.drop (fo+vs.length))).flatten
 |[],_,p,c,fo,vs,hp,_=>by simp at hp
 |a::r,hs,p,c,fo,vs,hp,hle=>by
  have ha:=hs 0 a rfl;cases p with
  |zero =>simp only[Bto,Bp0]at hp;subst hp;simp only[Bqt,Bsh,Bq7,List.set_cons_zero];rw[Btt (by omega),Bsl (by omega)];simp[Bru]
  |succ p =>
   have ih:=A3m r (fun i cs hi=>hs (i+1) cs (by simpa using hi)) p c fo vs (by simpa using hp) hle;simp only[Bqt,List.set_cons_succ];rw[← ih,Brj];have e1:p*sz+sz+fo=a.length+(p*sz+fo):=by omega
   have e2:p*sz+sz+fo+vs.length=a.length+(p*sz+fo+vs.length):=by omega
   rw[e1,Bvb,show a.length+(p*sz+fo)+vs.length=a.length+(p*sz+fo+vs.length) by omega,List.drop_length_add_append];simp[Bru]
def HR.Bhz{nm:A2 Nat}{B:B8}{objs:A2 (Nat×Ob)}{o2:Ob}(h:HR nm B g w ⟨Ab.setObj k o1 objs,live⟩)(hle:∀b,Bv g w b o1→Bv g w b o2) :
  HR nm B g w ⟨Ab.setObj k o2 objs,live⟩:=by
 have hl:∀j o,(Ab.setObj k o2 objs).lookup j=some o→∃p,(Ab.setObj k o1 objs).lookup j=some p∧∀b,Bv g w b p→Bv g w b o:=by
  intro j o hj;rw[Ax]at hj⊢;split at hj
  ·cases hj;rw[Bq6 ‹_›];exact⟨o1,rfl,hle⟩
  ·rw[Bpp ‹_›];exact⟨o,hj,fun _ h=>h⟩
 refine⟨?_,h.Ip,h.base,h.io,h.le,h.frame,?_,?_,?_,?_,h.live,h.Bw,?_,h.C3,h.C7,h.eta.same (Bpa _) fun j o hj=>let ⟨p,hp,_⟩:=hl j o hj;⟨p,hp⟩⟩
 ·intro j hj;refine⟨(h.D4 j hj).1,?_⟩;have:=(h.D4 j hj).2;simp only[Ax]at this⊢;split
  ·rfl
  ·rw[Bpp ‹_›]at this;exact this
 ·intro j o hj;obtain⟨p,hp,hq⟩:=hl j o hj;exact hq _ (h.objs j p hp)
 ·intro j o hj;obtain⟨p,hp,_⟩:=hl j o hj;exact h.Fq j p hp
 ·intro j j' o o' hj Gb he;obtain⟨p,hp,_⟩:=hl j o hj;obtain⟨q,hq,_⟩:=hl j' o' Gb;exact h.Br j j' p q hp hq he
 ·intro j o hj;obtain⟨p,hp,_⟩:=hl j o hj;exact h.Ca j p hp
 ·intro n b j o hn hj;obtain⟨p,hp,_⟩:=hl j o hj;exact h.Ba n b j p hn hp
theorem Bi.Bhz{o:Oper}{rd:A2 (Operand×AV)}{X:A5}{o2:Ob}(h:Bi P o rd X ⟨Ab.setObj k o1 X.objs,X.live⟩ [] res)(hle:∀g w b,Bv g w b o1→Bv g w b o2) :
  Bi P o rd X ⟨Ab.setObj k o2 X.objs,X.live⟩ [] res:=by
 intro nm Ej B g w a hr Au next Q hn
 exact h nm Ej B g w a hr Au next Q fun g' w' v h1 h2 h3=>hn g' w' v (HR.Bhz h1 (hle g' w')) h2 h3
def Bv.Be6{b:Nat}{l l':A2 D}{ty:A3 TypeId}(h:Bv g w b (.cells (l.map .d) ty))(hle:Lw l l'):Bv g w b (.cells (l'.map .d) ty):=by
 cases h with
 |cells _ _ arr T h1 h2 h3 h4 =>refine .cells _ ty arr T h1 (by simpa[hle.length]using h2) ?_ h4;intro i x v hx hv;rw[Bp1,Bp8]at hx;obtain⟨y,hy,rfl⟩:=hx;obtain⟨z,hz,hzy⟩:=hle.get hy;exact Ya.d hzy g w v (h3 i (.d z) v (by rw[Bp1,hz];rfl) hv)
theorem Lw.A3m:∀(fs:A2 (A2 D)) (p:Nat) (c c':A2 D),Lw c c'→Lw (fs.set p c).flatten (fs.set p c').flatten
 |[],p,c,c',_=>by simpa using Lw.nil
 |a::r,0,c,c',h=>by simpa using h.append (.refl _)
 |a::r,p+1,c,c',h=>by simpa using(Lw.refl a).append (Lw.A3m r p c c' h)
def Ar0(cs:A2 XD)(off:Nat)(vs:A2 XD):A2 XD:=cs.take off++vs++cs.drop (off+vs.length)
def Azp(P:Program)(st:Af)(t:TypeId)(x y:Operand)(K:Out→A3 R):A3 R :=
 match Av st x,Av st y,tyI P t with
 |some (.el k u i fo),some v,some (agg,sz) =>
  match lk k st.objs,A3l v.cells with
  |some (.arr u' l),some vs =>
   if h:u'.Jm u=true then
    cond (Nat.beq v.cells.length sz) (cond (Aau v.cells) (cond (Sy v) (cond (Nat.ble (fo+sz) u.size)
     (Option.bind ((Ty.Am h▸l:List u.T)[i]?) fun e=>match u.dec (Ar0 (u.enc e) fo vs) with
      |some (e',[])=>K ⟨.put k (.arr u ((Ty.Am h▸l:List u.T).set i e')),.d (.v undef),[(x,.el k u i fo),(y,v)],Lg k (.arr u ((Ty.Am h▸l:List u.T).set i e')) st.objs,st.live,[],[k]⟩
      |_=>none) none) none) none) none
   else none
  |_,_=>none
 |some (.nm k (.p off)),some v,some (agg,sz) =>
  match lk k st.objs with
  |some (.cells cs ty) =>
   cond (Nat.beq v.cells.length sz) (cond (Aau v.cells) (cond (Sy v) (cond (Nat.ble (off+sz) cs.length)
    (K ⟨.put k (.cells (Aav cs off v.cells) ty),.d (.v undef),[(x,.nm k (.p off)),(y,v)],Lg k (.cells (Aav cs off v.cells) ty) st.objs,st.live,[],[k]⟩) none) none) none) none
  |_=>none
 |_,_,_=>none
def B9v{a b:XV}(h:Av st x=some a)(h':Av st y=some b):∀p∈Ay [(x,a),(y,b)],Dx st.im p.1 p.2:=by
 intro p hp;simp only[Ay,Bp3,Bpz,Boz,Bpt,Bqy]at hp;rcases hp with rfl|rfl
 ·exact Aj h
 ·exact Aj h'
def B5x{o:Oper}{K:Out→A3 R}{r:R}(ho:o.op = .store t x y)(h:Azp P st t x y K=some r):∃out,K out=some r∧Bp P o st out:=by
 unfold Azp at h;split at h
 ·rename_i k u i fo v agg sz hx hy ht;have hT:=Ym ht;split at h
  ·rename_i u' l vs hk Pk;split at h
   ·rename_i he;have e0:=Ty.Am he;subst e0;cases h1:Nat.beq v.cells.length sz with
    |false=>simp[h1]at h
    |true =>
    cases h2:Aau v.cells with
    |false=>simp[h1,h2]at h
    |true =>
    cases h3:Sy v with
    |false=>simp[h1,h2,h3]at h
    |true =>
    cases h4:Nat.ble (fo+sz) u'.size with
    |false=>simp[h1,h2,h3,h4]at h
    |true =>
     simp only[h1,h2,h3,h4,Bov]at h;have e1:=Boy h1;have hle:=Bpf h4;obtain⟨e,he1,h⟩:=Bq3.1 h;split at h
     ·rename_i e' Bi0;have Lb:st.X.objs.lookup k=some (.cells ((l.map u'.ds).flatten.map .d) none):=by show(A4 st.objs).lookup k=_;exact Hy hk
      have Hc:=Aat u' l;have hp:(l.map u'.ds)[i]? = some (u'.ds e):=by rw[Bp1,he1];rfl
      have hm:=Ao3 Pk;have hvl:vs.length=sz:=by rw[← e1,hm];simp
      have hca:v.a.cells=(D1 vs).map .d:=by rw[A5n,hm,Ao4]
      obtain⟨zs,hz,Bml⟩:=u'.Wh Bi0;simp only[D1,Bq0]at hz;subst hz;refine⟨_,h,⟨B9v hx hy,⟨⟨K4 hk rfl rfl,rfl⟩,rfl,rfl,fun X hX=>?_⟩,fun j z hj hz=>?_⟩⟩
      ·have:=Aus (P:=P) (X:=X) (x:=x) (y:=y) (v:=v.a) (k:=k) (off:=i*u'.size+fo) (cs:=(l.map u'.ds).flatten.map .d) (ty:=none) ho hT (hX.trans Lb)
        (by rw[hca];simp[Gj,hvl]) (by rw[A5n];exact Ah9 h2) (A5s h3) (Bgj Hc hp (by rw[Ty.Cj];exact hle))
       refine Bi.Bhz this ?_;intro g w b Ga;have e2:W8 ((l.map u'.ds).flatten.map AV.d) (i*u'.size+fo) v.a.cells=((l.map u'.ds).set i (D1 (Ar0 (u'.enc e) fo vs))).flatten.map AV.d:=by rw[hca,W8,← Bsj,Bpl,← Bt0,← Bpn,← Bpn,A3m _ Hc i (u'.ds e) fo (D1 vs) hp (by rw[Gj];omega)];simp only[Ar0,Yk,A5o,A5r,Ty.Mu,Gj]
       rw[e2]at Ga;have:=Bv.Be6 Ga (Lw.A3m (l.map u'.ds) i _ _ Bml);show Bv g w b (.cells (((l.set i e').map u'.ds).flatten.map .d) none);rw[List.map_set];exact this
      ·rw[Nu _ _ _ _ (by simpa using hj)]at hz;exact hz
     ·cases h
   ·cases h
  ·cases h
 ·rename_i k off v agg sz hx hy ht;have hT:=Ym ht;split at h
  ·rename_i cs ty hk;cases h1:Nat.beq v.cells.length sz with
   |false=>simp[h1]at h
   |true =>
    cases h2:Aau v.cells with
    |false=>simp[h1,h2]at h
    |true =>
     cases h3:Sy v with
     |false=>simp[h1,h2,h3]at h
     |true =>
      cases h4:Nat.ble (off+sz) cs.length with
      |false=>simp[h1,h2,h3,h4]at h
      |true =>
       simp only[h1,h2,h3,h4,Bov]at h;have e1:=Boy h1;refine⟨_,h,⟨B9v hx hy,⟨⟨K4 hk rfl rfl,rfl⟩,rfl,rfl,fun X hX=>?_⟩,fun j z hj hz=>?_⟩⟩
       ·have hc:=A5n v;have:=Aus (P:=P) (X:=X) (x:=x) (y:=y) (v:=v.a) (cs:=A7 cs) (ty:=ty) ho hT (hX.trans (Ao5 hk)) (by rw[hc,Ah];exact e1) (by rw[hc];exact Ah9 h2)
         (A5s h3) (by rw[Ah];exact Bpf h4)
        rw[hc,← Ao6]at this;exact this
       ·rw[Nu _ _ _ _ (by simpa using hj)]at hz;exact hz
  ·cases h
 ·cases h
end
section
variable{P:Program}{R:Type}
def newName(o:Oper):A3 Nat :=
 match o.dst with
 |some d=>some (1000+d)
 |none=>none
def fresh(k:Nat)(st:Af):Bool :=
 match lk k st.objs with
 |some _=>false
 |none=>Iv [k] st
def B9w(k:Nat)(st:Af):Prop:=lk k st.objs=none∧Fk [k] st.objs=true
def Tg(h:fresh k st=true):B9w k st∧B1 [k] st.X=true:=by
 unfold fresh at h;split at h
 ·cases h
 ·exact⟨⟨‹_›,h⟩,Nt h⟩
def Th(h:B9w k st):st.X.objs.lookup k=none:=Bdw h.1 h.2
def zeroOf(P:Program)(t:TypeId):A3 (A2 XV) :=
 match P.info? t with
 |some i=>match i.zero with
  |some z=>some (z.cells.toList.map fun v=>.d (Wm v))
  |none=>none
 |none=>none
theorem Ar1:∀(l:A2 Value),W9 (A7 (l.map fun v=>XV.d (Wm v))) l
 |[]=>.nil
 |v::r=>by
  simp only[Bp3,A7,XV.a,A3i];exact .sc v (Ar1 r)
def Avp{cs:A2 XV}(h:zeroOf P t=some cs):Ahq P t (A7 cs):=by
 unfold zeroOf at h;split at h
 ·rename_i i hi;split at h
  ·rename_i z hz;cases h;exact⟨⟨i,z,hi,hz,Ar1 _⟩⟩
  ·cases h
 ·cases h
def Azq(P:Program)(st:Af)(o:Oper)(t:TypeId)(K:Out→A3 R):A3 R :=
 match newName o,zeroOf P t with
 |some k,some cs=>cond (fresh k st) (K ⟨.new [(k,.cells cs (some t))],.nm k (.p 0),[],(k,.cells cs (some t))::st.objs,st.live,[k],[k]⟩) none
 |_,_=>none
def Dz{α:Type}{x:α}{l:A2 (Nat×α)}(h:j≠k):lk j ((k,x)::l)=lk j l:=by simp[F9,nbF (Brl h)]
def B5y{o:Oper}{K:Out→A3 R}{r:R}(ho:o.op = .alloc t)(h:Azq P st o t K=some r):∃out,K out=some r∧Bp P o st out:=by
 unfold Azq at h;split at h
 ·rename_i k cs hk hz;cases hf:fresh k st with
  |false=>simp[hf]at h
  |true =>
   simp only[hf,Bov]at h;obtain⟨h1,h2⟩:=Tg hf;refine⟨_,h,⟨by simp[Ay],?_,fun j z hj hz=>?_⟩⟩
   ·exact⟨⟨rfl,rfl⟩,B2u k ho (Avp hz) (Th h1) h2⟩
   ·rw[Dz (by simpa using hj)]at hz;exact hz
 ·cases h
def Bi1(st:Af)(o:Oper)(t:TypeId)(x:Operand)(K:Out→A3 R):A3 R :=
 match newName o,Av st x with
 |some k,some v=>cond (fresh k st) (cond (Bq [k] (A7 v.cells)) (cond (Sy v)
   (K ⟨.new [(k,.cells v.cells (some t))],.nm k (.p 0),[(x,v)],(k,.cells v.cells (some t))::st.objs,st.live,[k],[k]⟩) none) none) none
 |_,_=>none
def Be7{o:Oper}{K:Out→A3 R}{r:R}(ho:o.op = .box t x)(h:Bi1 st o t x K=some r):∃out,K out=some r∧Bp P o st out:=by
 unfold Bi1 at h;split at h
 ·rename_i k v hk hv;cases hf:fresh k st with
  |false=>simp[hf]at h
  |true =>
   cases ha:Bq [k] (A7 v.cells) with
   |false=>simp[hf,ha]at h
   |true =>
    cases hn:Sy v with
    |false=>simp[hf,ha,hn]at h
    |true =>
     simp only[hf,ha,hn,Bov]at h;obtain⟨h1,h2⟩:=Tg hf;refine⟨_,h,⟨Cy hv,?_,fun j z hj hz=>?_⟩⟩
     ·have:=Bh4 (P:=P) (X:=st.X) (x:=x) (v:=v.a) k ho (Th h1) h2 (by rw[A5n];exact ha) (A5s hn);rw[A5n]at this;exact⟨⟨rfl,rfl⟩,this⟩
     ·rw[Dz (by simpa using hj)]at hz;exact hz
 ·cases h
def Bx(st:Af):A2 Operand→A3 (A2 XV)
 |[]=>some []
 |x::r=>match Av st x,Bx st r with
  |some v,some l=>some (v::l)
  |_,_=>none
theorem Hz{st:Af}:∀ {l:A2 Operand} {vs:A2 XV},Bx st l=some vs→vs.length=l.length
 |[],vs,h=>by simp[Bx]at h;subst h;rfl
 |x::r,vs,h=>by
  unfold Bx at h;split at h
  ·rename_i v l hv hl;cases h;simp[Hz hl]
  ·cases h
theorem Yo{st:Af}:∀ {l:A2 Operand} {vs:A2 XV},Bx st l=some vs→∀p∈Ay (l.zip vs),Dx st.im p.1 p.2
 |[],vs,h=>by simp[Ay]
 |x::r,vs,h=>by
  unfold Bx at h;split at h
  ·rename_i v l hv hl;cases h;intro p hp;simp only[Ay,Brx,Bp3,Boz]at hp;rcases hp with rfl|hp
   ·exact Aj hv
   ·exact Yo hl p hp
  ·cases h
def J0(l:A2 Operand)(vs:A2 XV):Ay (l.zip vs)=l.zip (A7 vs):=by
 induction l generalizing vs with
 |nil=>rfl
 |cons x r ih =>
  cases vs with
  |nil=>rfl
  |cons v vs=>simp only[Ay,Brx,Bp3,A7]at ih⊢;rw[ih]
def A5t(P:Program)(t:TypeId):A3 (A2 (Nat×Nat)) :=
 match P.underlying t with
 |some (.struct fs)=>Aaw P fs.toList
 |_=>none
where
 Aaw (P:Program):A2 Field→A3 (A2 (Nat×Nat))
 |[]=>some []
 |f::r=>match P.info? f.type,Aaw P r with
  |some i,some l=>some ((f.offset,i.size)::l)
  |_,_=>none
theorem Aax:∀ {fs:A2 Field} {pl:A2 (Nat×Nat)},A5t.Aaw P fs=some pl→fs.map (fun f=>(f.offset,(P.info? f.type).map (·.size)))=pl.map fun p=>(p.1,some p.2)
 |[],pl,h=>by simp[A5t.Aaw]at h;subst h;rfl
 |f::r,pl,h=>by
  unfold A5t.Aaw at h;split at h
  ·rename_i i l hi hl;cases h;simp[Aax hl,hi]
  ·cases h
def B5z{pl:A2 (Nat×Nat)}(h:A5t P t=some pl):B2s P t pl:=by
 unfold A5t at h;split at h
 ·rename_i fs hfs;exact⟨⟨fs,hfs,Aax h⟩⟩
 ·cases h
def Ao7(pl:A2 (Nat×Nat)):A2 XV→A2 (Nat×XV)→A3 (A2 XV)
 |cs,[]=>some cs
 |cs,p::r =>
  match pl[p.1]? with
  |none=>none
  |some (off,sz)=>cond (Nat.beq p.2.cells.length sz) (cond (Nat.ble (off+sz) cs.length) (Ao7 pl (Aav cs off p.2.cells) r) none) none
theorem Ar2{pl:A2 (Nat×Nat)}:∀ {Bon:A2 (Nat×XV)} {cs out:A2 XV},Ao7 pl cs Bon=some out →
  Yh (fun i=>pl[i]?) (A7 cs) (Bon.map fun p=>(p.1,p.2.a))=some (A7 out)
 |[],cs,out,h=>by simp[Ao7]at h;subst h;rfl
 |p::r,cs,out,h=>by
  unfold Ao7 at h;split at h
  ·cases h
  ·rename_i off sz hp;cases h1:Nat.beq p.2.cells.length sz with
   |false=>simp[h1]at h
   |true =>
    cases h2:Nat.ble (off+sz) cs.length with
    |false=>simp[h1,h2]at h
    |true =>simp only[h1,h2,Bov]at h;have e1:=Boy h1;have e2:=Bpf h2;simp only[Bp3,Yh,hp,A5n,Ah];rw[Bq6 ⟨e1,by rw[e1];exact e2⟩,← Ao6];exact Ar2 h
def S7:A2 XV→Bool
 |[]=>true
 |x::r=>cond (Sy x) (S7 r) false
theorem A3n:∀ {l:A2 XV},S7 l=true→(A7 l).all A6q=true
 |[],_=>rfl
 |x::r,h=>by
  simp only[S7]at h;cases hx:Sy x with
  |false=>simp[hx]at h
  |true =>simp only[hx,Bov]at h;simp only[A7,Bt9,A5s hx,A3n h,Bqo]
def Azr(P:Program)(st:Af)(t:TypeId)(Bon:Array (Nat×Operand))(K:Out→A3 R):A3 R :=
 match A5t P t,zeroOf P t,Bx st (Bon.toList.map (·.2)) with
 |some pl,some zs,some vs =>
  cond (S7 vs) (match Ao7 pl zs ((Bon.toList.map (·.1)).zip vs) with
   |some out=>K (B0 st (Avn out) ((Bon.toList.map (·.2)).zip vs))
   |none=>none) none
 |_,_,_=>none
def Bgk(l:A2 Nat)(vs:A2 XV):(l.zip vs).map (fun p=>(p.1,p.2.a))=l.zip (A7 vs):=by
 induction l generalizing vs with
 |nil=>rfl
 |cons x r ih=>cases vs with
  |nil=>rfl
  |cons v vs=>simp[A7,ih]
variable{Bon:Array (Nat×Operand)}
def B60{o:Oper}{K:Out→A3 R}{r:R}(ho:o.op = .build t Bon)(h:Azr P st t Bon K=some r):∃out,K out=some r∧Bp P o st out:=by
 unfold Azr at h;split at h
 ·rename_i pl zs vs hpl hz Pk;cases hn:S7 vs with
  |false=>simp[hn]at h
  |true =>
   simp only[hn,Bov]at h;split at h
   ·rename_i out Agv;refine⟨_,h,Aa (Yo Pk) fun X=>?_⟩;have hl:=Hz Pk;have hf:=Ar2 Agv;rw[Bgk]at hf;have:=B8p (P:=P) (X:=X) (xs:=A7 vs) ho (B5z hpl) (Avp hz) (by rw[Ah,hl];simp) (A3n hn) hf;rw[J0,Aqz];exact this
   ·cases h
 ·cases h
def Avq(P:Program):Nat→TypeId→A3 Ty
 |0,_=>none
 |d+1,t =>
  match P.underlying t with
  |some (.int .u8)=>some .u8
  |some (.int k)=>some (.int k)
  |some .bool=>some .bool
  |some .string=>some .str
  |some (.slice e)=>match Avq P d e with
   |some a=>some (.sl a)
   |none=>none
  |some (.struct fs)=>match Bke P (Avq P d) fs.toList with
   |some []=>some .unit
   |some [a]=>some (.st1 a)
   |some (a::b::r)=>some (.pair a (B34 b r))
   |none=>none
  |some (.array n e)=>match Avq P d e with
   |some a=>match n with
    |0=>some .unit
    |1=>some (.st1 a)
    |n+2=>some (Bkf a (n+1))
   |none=>none
  |_=>none
where
 Bke (P:Program) (rec:TypeId→A3 Ty):A2 Field→A3 (A2 Ty)
 |[]=>some []
 |f::r=>match rec f.type,Bke P rec r with
  |some a,some l=>some (a::l)
  |_,_=>none
 B34:Ty→A2 Ty→Ty
 |a,[]=>a
 |a,b::r=>.pair a (B34 b r)
 Bkf (a:Ty):Nat→Ty
 |0=>a
 |n+1=>.pair a (Bkf a n)
def A8a(t:Ty):A2 XV→A3 (List t.T)
 |[]=>some []
 |.d x::r=>match t.A87 x,A8a t r with
  |some y,some l=>some (y::l)
  |_,_=>none
 |.Be n u l ty::r=>match t.A87 (.sl u l),A8a t r with
  |some y,some l=>some (y::l)
  |_,_=>none
 |_::_=>none
def A16:Nat→A2 Nat→Bool
 |_,[]=>true
 |k,j::r=>cond (Nat.beq j k) (A16 (k+1) r) false
theorem A8b:∀ {k:Nat} {l:A2 Nat},A16 k l=true→l=List.range' k l.length
 |_,[],_=>rfl
 |k,j::r,h=>by
  simp only[A16]at h;cases hj:Nat.beq j k with
  |false=>simp[hj]at h
  |true =>simp only[hj,Bov]at h;have:=Boy hj;subst this;simp only[Bpk,Bth];rw[← A8b h]
def Aay(t:Ty)(st:Af):A2 Operand→List t.T→Prop
 |[],[]=>True
 |x::r,y::l=>Dx st.im x (.d (t.dv y))∧Aay t st r l
 |_,_=>False
theorem Yp{t:Ty}{st:Af}:∀ {ops:A2 Operand} {vs:A2 XV} {l:List t.T},Bx st ops=some vs→A8a t vs=some l→Aay t st ops l
 |[],vs,l,h,h'=>by
  simp[Bx]at h;subst h;simp[A8a]at h';subst h';trivial
 |x::r,vs,l,h,h'=>by
  unfold Bx at h;split at h
  ·rename_i v vs' hv Pk;cases h;unfold A8a at h';split at h'
   ·rename_i heq;cases heq
   ·rename_i heq;cases heq;split at h'
    ·rename_i y l' hy hl;cases h';exact⟨Aqv hv (t.Nq hy),Yp Pk hl⟩
    ·cases h'
   ·rename_i heq;cases heq;split at h'
    ·rename_i y l' hy hl;cases h';refine⟨Aar (a:=.sl _ _) (by simp[xd,hv,XV.asD]) (t.Nq hy),Yp Pk hl⟩
    ·cases h'
   ·cases h'
  ·cases h
theorem A17{t:Ty}{st:Af}:∀ {ops:A2 Operand} {l:List t.T},Aay t st ops l→ops.length=l.length
 |[],[],_=>rfl
 |x::r,y::l,h=>by simp[A17 h.2]
 |[],_::_,h=>h.elim
 |_::_,[],h=>h.elim
theorem Z9{t:Ty}{st:Af}:∀ {ops:A2 Operand} {l:List t.T},Aay t st ops l→∀p∈ops.zip (l.map fun y=>AV.d (t.dv y)),Dx st.im p.1 p.2
 |[],[],_=>by simp
 |x::r,y::l,h=>by
  intro p hp;simp only[Bp3,Brx,Boz]at hp;rcases hp with rfl|hp
  ·exact h.1
  ·exact Z9 h.2 p hp
 |[],_::_,h=>h.elim
 |_::_,[],h=>h.elim
def Aaz(t:Ty)(x:t.T):(t.dv x).cells=t.ds x:=by
 cases h:t.agg with
 |true=>rw[t.A14 x h];rfl
 |false =>rw[t.A15 x h];cases t<;>simp[Ty.agg]at h<;>first|rfl|(change Bool at x;cases x<;>rfl)|(rename_i a b;change A3 Int at x;cases x<;>rfl)
def B35(t:Ty)(x:t.T):A6q (.d (t.dv x))=true:=by cases t<;>first|rfl|(change Bool at x;cases x<;>rfl)|(rename_i a b;change A3 Int at x;cases x<;>rfl)
def Aig(t:Ty):A2 Operand→List t.T→A2 (Operand×XV)
 |x::r,y::l=>(x,.d (t.xv y))::Aig t r l
 |_,_=>[]
theorem Ab0(t:Ty):∀(ops:A2 Operand) (l:List t.T),Ay (Aig t ops l)=ops.zip (l.map fun y=>AV.d (t.dv y))
 |[],l=>by simp[Aig,Ay]
 |x::r,[]=>by simp[Aig,Ay]
 |x::r,y::l=>by
  have:=Ab0 t r l;simp only[Ay]at this;simp only[Aig,Ay,Bp3,Brx,this];rfl
def A3o(P:Program)(st:Af)(t:TypeId)(n:Nat)(Bon:Array (Nat×Operand))(K:Out→A3 R):A3 R :=
 match Fa P t with
 |some (e,sz,bytes) =>
  match Avq P 9 e,Bx st (Bon.toList.map (·.2)) with
  |some ty,some vs =>
   match A8a ty vs with
   |some l=>cond (Nat.beq ty.size sz) (cond (Nat.beq vs.length n) (cond (A16 0 (Bon.toList.map (·.1))) (cond (Nat.ble (n*sz) 16777216)
     (K (B0 st (.d (.sl ty l)) (Aig ty (Bon.toList.map (·.2)) l))) none) none) none) none
   |none=>none
  |_,_=>none
 |none=>none
def Aih{o:Oper}{K:Out→A3 R}{r:R}(ho:o.op = .buildSlice t n Bon)(h:A3o P st t n Bon K=some r):∃out,K out=some r∧Bp P o st out:=by
 unfold A3o at h;split at h
 ·rename_i e sz bytes hsl;split at h
  ·rename_i ty vs hty Pk;split at h
   ·rename_i l hl;cases h1:Nat.beq ty.size sz with
    |false=>simp[h1]at h
    |true =>
    cases h2:Nat.beq vs.length n with
    |false=>simp[h1,h2]at h
    |true =>
    cases h3:A16 0 (Bon.toList.map (·.1)) with
    |false=>simp[h1,h2,h3]at h
    |true =>
    cases h4:Nat.ble (n*sz) 16777216 with
    |false=>simp[h1,h2,h3,h4]at h
    |true =>
     simp only[h1,h2,h3,h4,Bov]at h;have e1:=Boy h1;have e2:=Boy h2;have hto:=Yp Pk hl;have hlen:=A17 hto;have hvl:=Hz Pk;refine⟨_,h,Aa (by rw[Ab0];exact Z9 hto) fun X=>?_⟩;have:=Aqe (P:=P) (X:=X) (xs:=l.map ty.dv) ho (C4 hsl) (by simp;omega) (by
      rw[A8b h3,Buu];congr 1;simp at hvl hlen⊢;omega) (by
      rw[Bqb];intro x hx;obtain⟨y,_,rfl⟩:=Bpc.1 hx;simp only[B35,Aaz,Ty.Cj,e1,Bsn,Bs4]) (Bpf h4)
     rw[Ab0];simp only[Brv]at this;have e3:(List.map (D.cells∘ty.dv) l)=l.map ty.ds:=by apply List.map_congr_left;intro y _;exact Aaz ty y
     rw[e3]at this;show Bi P o _ X X [] (.d (.sl ty.size (l.map ty.ds)));rw[e1];exact this
   ·cases h
  ·cases h
 ·cases h
end
section
variable{P:Program}{R:Type}
def A8c(P:Program)(st:Af)(s:TypeId)(x:Operand)(n:Nat)(K:Out→A3 R):A3 R :=
 match Av st x,Aqw P s n with
 |some (.nm k (.p off)),some (fo,_,_)=>K (B0 st (.nm k (.p (off+fo))) [(x,.nm k (.p off))])
 |some (.el k t i o),some (fo,_,_)=>K (B0 st (.el k t i (o+fo)) [(x,.el k t i o)])
 |some (.d (.ep cs)),some (fo,_,_)=>cond (Nat.ble fo cs.length) (K (B0 st (.d (.ep (cs.drop fo))) [(x,.d (.ep cs))])) none
 |_,_=>none
def Amv{o:Oper}{K:Out→A3 R}{r:R}(ho:o.op = .fieldAddr s x n)(h:A8c P st s x n K=some r):∃out,K out=some r∧Bp P o st out:=by
 unfold A8c at h;split at h
 ·rename_i k off fo sz ag hx hf;exact⟨_,h,Aa (Cy hx) fun X=>Zs ho (A3k hf)⟩
 ·rename_i k t i o' fo sz ag hx hf;refine⟨_,h,Aa (Cy hx) fun X=>?_⟩;have:=Zs (P:=P) (X:=X) (k:=k) (off:=i*t.size+o') ho (A3k hf);rw[Bs6]at this;exact this
 ·rename_i cs fo sz ag hx hf;cases hb:Nat.ble fo cs.length with
  |false=>simp[hb]at h
  |true =>simp only[hb,Bov]at h;refine⟨_,h,Aa (Cy hx) fun X=>?_⟩;have:=Agq (P:=P) (X:=X) (cs:=D1 cs) ho (A3k hf) (by rw[Gj];exact Bpf hb);rw[← A5r]at this;exact this
 ·cases h
def Azs(P:Program)(st:Af)(s:TypeId)(x:Operand)(n:Nat)(K:Out→A3 R):A3 R :=
 match Av st x,Aqw P s n with
 |some (.d (.agg cs)),some (fo,sz,true)=>cond (Nat.ble (fo+sz) cs.length) (K (B0 st (.d (.agg ((cs.drop fo).take sz))) [(x,.d (.agg cs))])) none
 |some (.d (.agg cs)),some (fo,1,false)=>match cs[fo]? with
  |some c=>K (B0 st (.d c) [(x,.d (.agg cs))])
  |none=>none
 |_,_=>none
def B61{o:Oper}{K:Out→A3 R}{r:R}(ho:o.op = .field s x n)(h:Azs P st s x n K=some r):∃out,K out=some r∧Bp P o st out:=by
 unfold Azs at h;split at h
 ·rename_i cs fo sz hx hf;cases hb:Nat.ble (fo+sz) cs.length with
  |false=>simp[hb]at h
  |true =>simp only[hb,Bov]at h;refine⟨_,h,Aa (Cy hx) fun X=>?_⟩;have:=Aq3 (P:=P) (X:=X) (cs:=D1 cs) ho (A3k hf) (by rw[Gj];exact Bpf hb);rw[← A5r,← A5o]at this;exact this
 ·rename_i cs fo hx hf;split at h
  ·rename_i c hc;exact⟨_,h,Aa (Cy hx) fun X=>Aq2 (cs:=D1 cs) ho (A3k hf) (by rw[He,Bp1,hc];rfl)⟩
  ·cases h
 ·cases h
def Amw(st:Af)(x:Operand):A3 Int :=
 match xd st x with
 |some (.i _ n)=>some n
 |some (.u8 b)=>some (b.toNat:Int)
 |_=>none
def Qf{n:Int}(h:Amw st x=some n):∃a k,xd st x=some a∧a.d = .int k n:=by
 unfold Amw at h;split at h
 ·rename_i k m ha;cases h;exact⟨_,k,ha,rfl⟩
 ·rename_i b ha;cases h;exact⟨_,.u8,ha,rfl⟩
 ·cases h
def inB(n:Int)(len:Nat):Bool:=decide (0≤n)&&decide (n<(len:Int))
def B36{n:Int}(h:inB n len=true):0≤n∧n<(len:Int):=by simpa[inB]using h
def A18(P:Program)(st:Af)(t:TypeId)(x y:Operand)(K:Out→A3 R):A3 R :=
 match xd st x,xd st y,Amw st y,Fa P t with
 |some (.sl ty l),some b,some n,some (_,sz,_)=>cond (Nat.beq ty.size sz) (Option.bind (at? l n) fun e=>K (B0 st (.d (.ep (ty.enc e))) [(x,.d (.sl ty l)),(y,.d b)])) none
 |_,_,_,_=>none
def Ar3{b:XD}(hx:Av st x=some v)(hy:xd st y=some b):∀p∈Ay [(x,v),(y,.d b)],Dx st.im p.1 p.2:=by
 intro p hp;simp only[Ay,Bp3,Bpz,Boz,Bpt,Bqy]at hp;rcases hp with rfl|rfl
 ·exact Aj hx
 ·exact A2h hy
def Aii(P:Program)(st:Af)(t:TypeId)(x y:Operand)(k:Nat)(ty:Ty)(a len:Nat)(K:Out→A3 R):A3 R :=
 match xd st y,Amw st y,Fa P t with
 |some b,some n,some (_,sz,_)=>cond (Nat.beq ty.size sz) (cond (inB n len) (K (B0 st (.el k ty (a+n.toNat) 0) [(x,.os k ty a len),(y,.d b)])) none) none
 |_,_,_=>none
def Avr{o:Oper}{a:Nat}{K:Out→A3 R}{r:R}(ho:o.op = .indexAddr t x y)(hx:Av st x=some (.os k ty a len))(h:Aii P st t x y k ty a len K=some r):∃out,K out=some r∧Bp P o st out:=by
 unfold Aii at h;split at h
 ·rename_i b n e0 sz by0 hy hn hsl;cases hb:Nat.beq ty.size sz with
  |false=>simp[hb]at h
  |true =>
  cases hc:inB n len with
  |false=>simp[hb,hc]at h
  |true =>simp only[hb,hc,Bov]at h;have e1:=Boy hb;subst e1;obtain⟨h0,h1⟩:=B36 hc;obtain⟨z,j,ha,had⟩:=Qf hn;rw[hy]at ha;cases ha;refine⟨_,h,Aa (Ar3 hx hy) fun X=>?_⟩;have:=Zw (P:=P) (X:=X) (x:=x) (y:=y) (j:=j) (i:=n) (k:=k) (off:=a*ty.size) (len:=len) ho (C4 hsl) h0 h1;show Bi P o [(x,.nm k (.s (a*ty.size) len ty.size)),(y,.d b.d)] X X [] (.nm k (.p ((a+n.toNat)*ty.size+0)));rw[had];rw[Bs7,Br5];exact this
 ·cases h
def A7m{o:Oper}{K:Out→A3 R}{r:R}(ho:o.op = .indexAddr t x y)(h:A18 P st t x y K=some r):∃out,K out=some r∧Bp P o st out:=by
 unfold A18 at h;split at h
 ·rename_i ty l b n e0 sz by0 hx hy hn hsl;cases hb:Nat.beq ty.size sz with
  |false=>simp[hb]at h
  |true =>simp only[hb,Bov]at h;have e1:=Boy hb;obtain⟨e,he,hK⟩:=Bq3.1 h;obtain⟨h0,h1⟩:=Aas he;obtain⟨a,k,ha,had⟩:=Qf hn;rw[hy]at ha;cases ha;refine⟨_,hK,Aa (Avj hx hy) fun X=>?_⟩;have:=Auy (P:=P) (X:=X) (x:=x) (y:=y) (k:=k) (i:=n) (es:=l.map ty.ds) (cs:=ty.ds e) ho (C4 hsl) h0 (by rw[Bp1,h1];rfl);show Bi P o [(x,.d (.sl ty.size (l.map ty.ds))),(y,.d b.d)] X X [] (.d (.ep (D1 (ty.enc e))));rw[had,Ty.Mu,e1];exact this
 ·cases h
def Aij(P:Program)(t:TypeId):A3 (TypeId×Nat×Nat) :=
 match P.underlying t with
 |some (.array n e)=>match P.info? e with
  |some i=>some (e,n,i.size)
  |none=>none
 |_=>none
def Aik{t e:Nat}(h:Aij P t=some (e,n,sz)):Bdj P t e n sz:=by
 unfold Aij at h;split at h
 ·rename_i n' e' ht;split at h
  ·rename_i i hi;cases h;exact⟨ht,i,hi,rfl⟩
  ·cases h
 ·cases h
def Adg(P:Program)(st:Af)(t:TypeId)(x y:Operand)(ty:Ty)(l:List ty.T)(K:Out→A3 R):A3 R :=
 match xd st y,Amw st y,Aij P t with
 |some b,some n,some (_,m,sz)=>cond (Nat.beq ty.size sz) (cond (Nat.ble l.length m) (Option.bind (at? l n) fun e=>K (B0 st (.d (.ep (ty.enc e))) [(x,.d (.pa ty l)),(y,.d b)])) none) none
 |_,_,_=>none
def Ar4{o:Oper}{l:List ty.T}{K:Out→A3 R}{r:R}(ho:o.op = .indexAddr t x y)(hx:Av st x=some (.d (.pa ty l)))(h:Adg P st t x y ty l K=some r):∃out,K out=some r∧Bp P o st out:=by
 unfold Adg at h;split at h
 ·rename_i b n e0 m sz hy hn har;cases hb:Nat.beq ty.size sz with
  |false=>simp[hb]at h
  |true =>
  cases hc:Nat.ble l.length m with
  |false=>simp[hb,hc]at h
  |true =>
   simp only[hb,hc,Bov]at h;have e1:=Boy hb;subst e1;obtain⟨e,he,hK⟩:=Bq3.1 h;obtain⟨h0,h1⟩:=Aas he;obtain⟨a,k,ha,had⟩:=Qf hn;rw[hy]at ha;cases ha;refine⟨_,hK,Aa (Ar3 hx hy) fun X=>?_⟩;have:=Ad8 (P:=P) (X:=X) (x:=x) (y:=y) (k:=k) (i:=n) (es:=l.map ty.ds) (cs:=ty.ds e) ho (Aik har) (by
    intro i cs hc;rw[Bp1,Bp8]at hc;obtain⟨z,_,rfl⟩:=hc;exact ty.Cj z) (by simpa using Bpf hc) h0 (by rw[Bp1,h1];rfl)
   show Bi P o [(x,.d (.ep (l.map ty.ds).flatten)),(y,.d b.d)] X X [] (.d (.ep (D1 (ty.enc e))));rw[had,Ty.Mu];exact this
 ·cases h
def Adh(P:Program)(st:Af)(t:TypeId)(x y:Operand)(k:Nat)(ty:Ty)(K:Out→A3 R):A3 R :=
 match xd st y,Amw st y,Aij P t with
 |some b,some n,some (_,m,sz)=>cond (Nat.beq ty.size sz) (cond (inB n m) (K (B0 st (.el k ty n.toNat 0) [(x,.nm k (.p 0)),(y,.d b)])) none) none
 |_,_,_=>none
def Ar5{o:Oper}{K:Out→A3 R}{r:R}(ho:o.op = .indexAddr t x y)(hx:Av st x=some (.nm k (.p 0)))(h:Adh P st t x y k ty K=some r):∃out,K out=some r∧Bp P o st out:=by
 unfold Adh at h;split at h
 ·rename_i b n e0 m sz hy hn har;cases hb:Nat.beq ty.size sz with
  |false=>simp[hb]at h
  |true =>
  cases hc:inB n m with
  |false=>simp[hb,hc]at h
  |true =>simp only[hb,hc,Bov]at h;have e1:=Boy hb;subst e1;obtain⟨h0,h1⟩:=B36 hc;obtain⟨z,j,ha,had⟩:=Qf hn;rw[hy]at ha;cases ha;refine⟨_,h,Aa (Ar3 hx hy) fun X=>?_⟩;have:=Aaj (P:=P) (X:=X) (x:=x) (y:=y) (k:=j) (i:=n) (j:=k) ho (Aik har) h0 h1;show Bi P o [(x,.nm k (.p 0)),(y,.d b.d)] X X [] (.nm k (.p (n.toNat*ty.size+0)));rw[had];rw[Bs7];exact this
 ·cases h
def Adi(P:Program)(st:Af)(t:TypeId)(x y:Operand)(K:Out→A3 R):A3 R :=
 match Av st x with
 |some (.os k ty a len)=>Aii P st t x y k ty a len K
 |some (.d (.pa ty l))=>Adg P st t x y ty l K
 |some (.nm k (.p 0))=>match lk k st.objs with
  |some (.arr ty _)=>Adh P st t x y k ty K
  |_=>A18 P st t x y K
 |_=>A18 P st t x y K
def Ar6{o:Oper}{K:Out→A3 R}{r:R}(ho:o.op = .indexAddr t x y)(h:Adi P st t x y K=some r):∃out,K out=some r∧Bp P o st out:=by
 unfold Adi at h;split at h
 ·rename_i k ty a len hx;exact Avr ho hx h
 ·rename_i ty l hx;exact Ar4 ho hx h
 ·rename_i k hx;split at h
  ·exact Ar5 ho hx h
  ·exact A7m ho h
 ·exact A7m ho h
def Avs{o:Oper}{X:A5}{k:IntKind}{i:Int}{ds:A2 D}{c:D}(ho:o.op = .index t x y)(ht:P.underlying t=some (.array n e))(he:TyI P e false 1)(h0:0≤i)(hn:i.toNat<n)(hc:ds[i.toNat]? = some c) :
  Bi P o [(x,.d (.agg ds)),(y,.d (.int k i))] X X [] (.d c) :=
 .quiet fun _ _ g w ac hr Au=>by
  have h1:=Is Au;have h2:=(Y4 Au).Ap;simp only at h1 h2;generalize hv:ac.eval x=v at h1;cases h1 with
  |d _ _ h1 =>
   cases h1 with
   |agg _ vs hl Rq =>
    obtain⟨u,hu⟩:∃u,vs[i.toNat]? = some u:=⟨_,Bpq (by have:=(Bp2.1 hc).1;omega)⟩;refine⟨u,?_,.d _ _ (Rq _ _ _ hc hu)⟩;obtain⟨⟨d,hd,hd2⟩,ii,hi,Hc⟩:=he;have M9:i<(n:Int):=by omega
    have hp:(part e vs i.toNat).run P w = .ok u w:=by
     have:=Wo (P:=P) (t:=e) (agg:=false) (sz:=1) ⟨⟨d,hd,hd2⟩,ii,hi,Hc⟩ vs i.toNat w (fun _=>⟨by have:=(Bpo.1 hu).1;exact this,by omega⟩);rw[this];obtain⟨Bg,rfl⟩:=Bpo.1 hu;congr 1;show(vs.extract i.toNat (i.toNat+1)).getD 0 undef=_;have h5:0<(vs.extract i.toNat (i.toNat+1)).size:=by simp;omega
     rw[Array.getD,dif_pos h5];simp
    simp only[execOp,ho,hv,h2];simp only[Instr.index,asIntOf];simp[Bpb ht,h0,M9,sizeOf,typeInfo,hi,Hc,hp]
def Azt(P:Program)(st:Af)(t:TypeId)(x y:Operand)(K:Out→A3 R):A3 R :=
 match xd st x,xd st y,Amw st y,P.underlying t with
 |some (.s l),some b,some n,some .string=>Option.bind (at? l n) fun c=>K (B0 st (.d (.u8 c)) [(x,.d (.s l)),(y,.d b)])
 |_,_,_,_=>none
def B62{o:Oper}{K:Out→A3 R}{r:R}(ho:o.op = .index t x y)(h:Azt P st t x y K=some r):∃out,K out=some r∧Bp P o st out:=by
 unfold Azt at h;split at h
 ·rename_i l b n hx hy hn ht;obtain⟨c,hc,hK⟩:=Bq3.1 h;obtain⟨h0,h1⟩:=Aas hc;obtain⟨a,k,ha,had⟩:=Qf hn;rw[hy]at ha;cases ha;refine⟨_,hK,Aa (Avj hx hy) fun X=>?_⟩;have Bg:n.toNat<l.length:=(Bp2.1 h1).1;have:=Azg (P:=P) (X:=X) (x:=x) (y:=y) (k:=k) (i:=n) (l:=l) ho ht h0 (by omega);show Bi P o [(x,.d (.bs l)),(y,.d b.d)] X X [] (.d (.sc (.int .u8 (c.toNat:Int))));rw[had];rw[Bsi,h1]at this;exact this
 ·cases h
def Ar7(P:Program)(st:Af)(t:TypeId)(x y:Operand)(K:Out→A3 R):A3 R :=
 match Av st x with
 |some (.d (.ag ty l))=>match xd st y,Amw st y,P.underlying t with
  |some b,some n,some (.array m e)=>match tyI P e with
   |some (agg,sz)=>cond agg none (cond (Nat.beq sz 1) (cond ty.agg none (cond (Nat.beq l.length m) (Option.bind (at? l n) fun z=>K (B0 st (.d (ty.xv z)) [(x,.d (.ag ty l)),(y,.d b)])) none)) none)
   |none=>none
  |_,_,_=>none
 |_=>Azt P st t x y K
theorem Avt(ty:Ty)(h:ty.agg=false):∀(l:List ty.T),(l.map ty.ds).flatten=l.map ty.dv
 |[]=>rfl
 |x::r=>by rw[Bp3,Bqt,Avt ty h r,ty.A15 x h];rfl
def Azu{o:Oper}{K:Out→A3 R}{r:R}(ho:o.op = .index t x y)(h:Ar7 P st t x y K=some r):∃out,K out=some r∧Bp P o st out:=by
 unfold Ar7 at h;split at h
 ·rename_i ty l hx;split at h
  ·rename_i b n m e hy hn ht;split at h
   ·rename_i agg sz he;cases agg with
    |true=>simp at h
    |false =>
    cases h1:Nat.beq sz 1 with
    |false=>simp[h1]at h
    |true =>
    cases h2:ty.agg with
    |true=>simp[h1,h2]at h
    |false =>
    cases h3:Nat.beq l.length m with
    |false=>simp[h1,h2,h3]at h
    |true =>
     simp only[h1,h2,h3,Bov,Box]at h;obtain⟨z,hz,hK⟩:=Bq3.1 h;obtain⟨h0,h4⟩:=Aas hz;obtain⟨a,k,ha,had⟩:=Qf hn;rw[hy]at ha;cases ha;have e1:=Boy h1;have e3:=Boy h3;subst e1;have hxd:xd st x=some (.ag ty l):=by unfold xd;rw[hx];rfl
     refine⟨_,hK,Aa (Avj hxd hy) fun X=>?_⟩;have Bg:n.toNat<l.length:=(Bp2.1 h4).1;have:=Avs (P:=P) (X:=X) (x:=x) (y:=y) (k:=k) (i:=n) (ds:=l.map ty.dv) (c:=ty.dv z) ho ht (Ym he) h0 (by omega) (by rw[Bp1,h4];rfl);rw[← Avt ty h2,← had]at this;exact this
   ·cases h
  ·cases h
 ·exact B62 ho h
def Fb(lo hi:Int)(len:Nat):Bool:=decide (0≤lo)&&decide (lo≤hi)&&decide (hi≤(len:Int))
def A5u{lo hi:Int}(h:Fb lo hi len=true):0≤lo∧lo≤hi∧hi≤(len:Int):=by simp only[Fb,Bq4,Bsf]at h;exact⟨h.1.1,h.1.2,h.2⟩
def A3p{α:Type}(lo hi:Int)(l:A2 α):A2 α:=(l.drop lo.toNat).take (hi.toNat-lo.toNat)
def Avu{o:Oper}{X:A5}{es:A2 (A2 D)}{l:Int}{rd:A2 (Operand×AV)}{i:TypeInfo}(ho:o.op = .slice t x lo hi none)(ht:P.underlying t=some (.slice e))
  (M9:P.info? e=some i) (Hc:i.size=sz) (h0:0≤l) (h1:l≤h) (h2:h≤es.length)
  (hlo:match lo with|some y=>∃k,(y,AV.d (.int k l))∈rd|none=>l=0) (hhi:match hi with|some y=>∃k,(y,AV.d (.int k h))∈rd|none=>h=es.length) :
  Bi P o ((x,.d (.sl sz es))::rd) X X [] (.d (.sl sz (A3p l h es))) :=
 .quiet fun _ _ g w ac _ Au=>by
  have h3:=Au (x,.d (.sl sz es)) Bp6;simp only at h3;generalize hx:ac.eval x=v at h3;have key:∃a len cap,v = .slice a len cap∧len=es.length∧len≤cap∧RD g.γ w (.sl sz (A3p l h es)) (.slice (if cap=l.toNat then a else a.map (·.add (l.toNat*sz))) (h.toNat-l.toNat) (cap-l.toNat)):=by
   cases h3 with
   |d _ _ h3 =>
    cases h3 with
    |nil _ a cap hn =>
     have hl:l=0:=by simp at h2;omega
     have hh:h=0:=by simp at h2;omega
     subst hl;subst hh;refine⟨a,0,cap,rfl,rfl,Brw _,?_⟩;have:A3p 0 0 ([]:A2 (A2 D))=[]:=rfl;rw[this];simp only[Int.toNat_zero,Bs3,Bsh];cases a with
     |none=>simp only[Bt6,ite_self];rw[hn rfl];exact .nil sz none 0 fun _=>rfl
     |some a=>simp only[Bq8];split<;>exact .nil sz _ cap (by simp)
    |sl _ _ b off len cap hlen hγ U9 Bmm hc =>
     refine⟨_,len,cap,rfl,hlen,by omega,?_⟩;have hln:(A3p l h es).length=h.toNat-l.toNat:=by simp[A3p];omega
     by_cases hz:h.toNat-l.toNat=0
     ·have:A3p l h es=[]:=Brt.1 (hln.trans hz);rw[this,hz];split
      ·exact .nil sz _ _ (by simp)
      ·exact .nil sz _ _ (by simp)
     ·have hne:¬cap=l.toNat:=by omega
      rw[Bpp hne];simp only[Bq8,addr_add];refine .sl sz _ b (off+l.toNat*sz) _ _ (by rw[hln]) ?_ (by rw[hln];omega) ?_ ?_
      ·have:l.toNat+(A3p l h es).length≤es.length:=by rw[hln];omega
       have h6:=Bqw sz this;rw[Br5]at h6;omega
      ·intro i cs Rq;simp only[A3p,Bqj,Bqn]at Rq;split at Rq
       ·exact Bmm _ cs Rq
       ·cases Rq
      ·intro i cs j c u Rq hj hu;simp only[A3p,Bqj,Bqn]at Rq;split at Rq
       ·refine hc (l.toNat+i) cs j c u Rq hj ?_;rw[show off+(l.toNat+i)*sz+j=off+l.toNat*sz+i*sz+j by rw[Br5];omega];exact hu
       ·cases Rq
  obtain⟨a,len,cap,rfl,hlen,U9,A36⟩:=key;refine⟨_,?_,.d _ _ A36⟩;have hsa:∀lo hi,(Instr.sliceAt t (.slice a len cap) lo hi none).run P w=(Instr.slice t (.slice a len cap) lo hi none).run P w:=by intro lo hi;simp[Instr.sliceAt,Bpb ht]
  simp only[execOp,ho,hx];have eh:∀y,hi=some y→∃k,ac.eval y = .int k h:=by intro y hy;subst hy;obtain⟨k,hk⟩:=hhi;exact⟨k,(Au _ (Bp5 _ hk)).Ap⟩
  have el:∀y,lo=some y→∃k,ac.eval y = .int k l:=by intro y hy;subst hy;obtain⟨k,hk⟩:=hlo;exact⟨k,(Au _ (Bp5 _ hk)).Ap⟩
  have bh:∀(y:Nat) (c:BoundsCode) (k:IntKind),h≤(y:Int)→(Instr.sliceBound (.int k h) y c).run P w = .ok h.toNat w:=by intro y c k hy;simp[Instr.sliceBound,asIntOf,show 0≤h by omega,hy]
  have bl:∀(y:Nat) (c:BoundsCode) (k:IntKind),l≤(y:Int)→(Instr.sliceBound (.int k l) y c).run P w = .ok l.toNat w:=by intro y c k hy;simp[Instr.sliceBound,asIntOf,h0,hy]
  have Qd:(sizeOf e).run P w = .ok sz w:=by rw[Ab.run_sizeOf M9,Hc]
  cases hi with
  |none =>
   simp only at hhi;subst hhi;have e5:((es.length:Nat):Int).toNat=len:=by omega
   cases lo with
   |none =>simp only at hlo;subst hlo;simp[hsa,Instr.slice,Instr.sliceBounds,Bpb ht,Qd,← hlen]
   |some y =>obtain⟨k,hk⟩:=el y rfl;have b1:=bl len .sliceB k (by omega);simp[hsa,Instr.slice,Instr.sliceBounds,Bpb ht,Qd,hk,b1,← hlen]
  |some y' =>
   obtain⟨k',Lb⟩:=eh y' rfl;have b2:=bh cap .sliceAcap k' (by omega);cases lo with
   |none =>simp only at hlo;subst hlo;simp[hsa,Instr.slice,Instr.sliceBounds,Bpb ht,Qd,Lb,b2]
   |some y =>obtain⟨k,hk⟩:=el y rfl;have b1:=bl h.toNat .sliceB k (by omega);simp[hsa,Instr.slice,Instr.sliceBounds,Bpb ht,Qd,hk,Lb,b1,b2]
end
section
variable{P:Program}{R:Type}
def P3(st:Af)(d:Int):A3 Operand→A3 (Int×A2 (Operand×XV))
 |none=>some (d,[])
 |some y=>match xd st y,Amw st y with
  |some b,some n=>some (n,[(y,.d b)])
  |_,_=>none
def Ht{d n:Int}{y:A3 Operand}{rd:A2 (Operand×XV)}(h:P3 st d y=some (n,rd)):(∀p∈Ay rd,Dx st.im p.1 p.2) ∧
  (match y with|some y=>∃k,(y,AV.d (.int k n))∈Ay rd|none=>n=d)∧(match y with|some y=>∃k,Ay rd=[(y,AV.d (.int k n))]|none=>rd=[]):=by
 cases y with
 |none=>cases h;exact⟨by simp[Ay],rfl,rfl⟩
 |some y =>
  unfold P3 at h;simp only at h;split at h
  ·rename_i b m hb hm;cases h;obtain⟨a,k,ha,had⟩:=Qf hm;rw[hb]at ha;cases ha;exact⟨A3j hb,⟨k,by simp[Ay,XV.a,had]⟩,⟨k,by simp[Ay,XV.a,had]⟩⟩
  ·cases h
def Azv{α:Type}(lo hi:A3 Operand)(l h:Int)(xs:A2 α):A2 α :=
 match lo,hi with
 |none,none=>xs
 |some _,none=>xs.drop l.toNat
 |none,some _=>xs.take h.toNat
 |some _,some _=>A3p l h xs
def Be8{α:Type}{l:Int}{xs:A2 α}(hlo:lo=none→l=0)(hhi:hi=none→h=xs.length)(h0:0≤l)(h2:h≤xs.length):Azv lo hi l h xs=A3p l h xs:=by
 cases lo with
 |none =>
  have:=hlo rfl;subst this;cases hi with
  |none=>have:=hhi rfl;subst this;simp[Azv,A3p]
  |some y=>simp[Azv,A3p]
 |some x =>
  cases hi with
  |none=>have:=hhi rfl;subst this;simp only[Azv,A3p,Brp];rw[Brc];simp
  |some y=>rfl
def Azw(P:Program)(st:Af)(t:TypeId)(x:Operand)(lo hi mx:A3 Operand)(K:Out→A3 R):A3 R :=
 match mx,xd st x with
 |none,some (.s s) =>
  match P.underlying t,P3 st 0 lo,P3 st s.length hi with
  |some .string,some (l,r1),some (h,r2)=>cond (Fb l h s.length) (K (B0 st (.d (.s (Azv lo hi l h s))) ((x,.d (.s s))::(r1++r2)))) none
  |_,_,_=>none
 |none,some (.sl ty s) =>
  match Fa P t,P3 st 0 lo,P3 st s.length hi with
  |some (_,sz,_),some (l,r1),some (h,r2)=>cond (Nat.beq ty.size sz) (cond (Fb l h s.length) (K (B0 st (.d (.sl ty (Azv lo hi l h s))) ((x,.d (.sl ty s))::(r1++r2)))) none) none
  |_,_,_=>none
 |_,_=>none
def Eu(a b:A2 (Operand×XV)):Ay (a++b)=Ay a++Ay b:=by simp[Ay]
def Avv{a:XD}(hx:xd st x=some a)(h1:∀p∈Ay r1,Dx st.im p.1 p.2)(h2:∀p∈Ay r2,Dx st.im p.1 p.2) :
  ∀p∈Ay ((x,.d a)::(r1++r2)),Dx st.im p.1 p.2:=by
 intro p hp;simp only[Ay,Bp3,Bpn,Boz,Bp4]at hp;rcases hp with rfl|hp|hp
 ·exact A2h hx
 ·exact h1 p hp
 ·exact h2 p hp
def Agw{o:Oper}{X:A5}{s:A2 UInt8}(ho:o.op = .slice t x none none none)(ht:P.underlying t=some .string) :
  Bi P o [(x,.d (.bs s))] X X [] (.d (.bs s)) :=
 .quiet fun _ _ g w ac _ Au=>by
  have e1:=(Is Au).Ap;simp only at e1;refine⟨_,?_,.H4 _ _ _⟩;simp only[execOp,ho,Bt6,e1];simp[Buc w t _ _ _ _ ht,Instr.slice,Bpb ht,Instr.sliceBounds]
def B63{o:Oper}{K:Out→A3 R}{r:R}(ho:o.op = .slice t x lo hi mx)(h:Azw P st t x lo hi mx K=some r):∃out,K out=some r∧Bp P o st out:=by
 unfold Azw at h;split at h
 ·rename_i s hx;split at h
  ·rename_i l r1 hh r2 ht hlo hhi;cases hc:Fb l hh s.length with
   |false=>simp[hc]at h
   |true =>
    simp only[hc,Bov]at h;obtain⟨c0,c1,c2⟩:=A5u hc;obtain⟨s1,m1,f1⟩:=Ht hlo;obtain⟨s2,m2,f2⟩:=Ht hhi;refine⟨_,h,Aa (Avv hx s1 s2) fun X=>?_⟩;cases lo with
    |none =>
     simp only at m1 f1;subst m1;subst f1;cases hi with
     |none =>simp only at m2 f2;subst m2;subst f2;exact Agw ho ht
     |some y =>obtain⟨k,hk⟩:=f2;have:=Amn (P:=P) (X:=X) (k:=k) ho ht c1 c2;simp only[Bpx];show Bi P o ((x,.d (.bs s))::Ay r2) X X [] _;rw[hk];exact this
    |some y0 =>
     obtain⟨k0,hk0⟩:=f1;cases hi with
     |none =>simp only at m2 f2;subst m2;subst f2;have:=Amm (P:=P) (X:=X) (k:=k0) ho ht c0 c1;simp only[Bq0];show Bi P o ((x,.d (.bs s))::Ay r1) X X [] _;rw[hk0];exact this
     |some y =>obtain⟨k,hk⟩:=f2;have:=Azh (P:=P) (X:=X) (k:=k0) (k':=k) ho ht c0 c1 c2;show Bi P o ((x,.d (.bs s))::Ay (r1++r2)) X X [] _;rw[Eu,hk0,hk];exact this
  ·cases h
 ·rename_i ty s hx;split at h
  ·rename_i e sz by0 l r1 hh r2 ht hlo hhi;cases hb:Nat.beq ty.size sz with
   |false=>simp[hb]at h
   |true =>
   cases hc:Fb l hh s.length with
   |false=>simp[hb,hc]at h
   |true =>
    simp only[hb,hc,Bov]at h;have e1:=Boy hb;obtain⟨c0,c1,c2⟩:=A5u hc;obtain⟨s1,m1,f1⟩:=Ht hlo;obtain⟨s2,m2,f2⟩:=Ht hhi;obtain⟨hu,i,z,M9,Gu,Fp,hz',Bmn⟩:=C4 ht;refine⟨_,h,Aa (Avv hx s1 s2) fun X=>?_⟩;have:=Avu (P:=P) (X:=X) (es:=s.map ty.ds) (rd:=Ay (r1++r2)) (l:=l) (h:=hh) ho hu M9 Gu c0 c1 (by simpa using c2) (by
     cases lo with
     |none=>exact m1
     |some y=>obtain⟨k,hk⟩:=m1;exact⟨k,by rw[Eu];exact Bpi _ hk⟩) (by
     cases hi with
     |none=>simpa using m2
     |some y=>obtain⟨k,hk⟩:=m2;exact⟨k,by rw[Eu];exact Bph _ hk⟩)
    show Bi P o ((x,.d (.sl ty.size (s.map ty.ds)))::Ay (r1++r2)) X X [] (.d (.sl ty.size ((Azv lo hi l hh s).map ty.ds)));rw[Be8 (by intro hl;subst hl;exact m1) (by intro hl;subst hl;exact m2) c0 c2];rw[e1];have e2:(A3p l hh s).map ty.ds=A3p l hh (s.map ty.ds):=by simp[A3p,Bsj,Bt0]
    rw[e2];exact this
  ·cases h
 ·cases h
def Bi2(P:Program)(st:Af)(ts:Array TypeId)(x:Operand)(K:Out→A3 R):A3 R :=
 match ts[0]? with
 |some t =>
  match xd st x,P.underlying t with
  |some (.s l),some .string=>K (B0 st (.d (.i .i64 (l.length:Int))) [(x,.d (.s l))])
  |some (.sl ty l),some (.slice _)=>K (B0 st (.d (.i .i64 (l.length:Int))) [(x,.d (.sl ty l))])
  |some (.v (.slice none 0 0)),some (.slice _)=>match Fa P t with
   |some _=>K (B0 st (.d (.i .i64 0)) [(x,.d (.v (.slice none 0 0)))])
   |none=>none
  |_,_=>none
 |none=>none
variable{ts:Array TypeId}
def Be9{o:Oper}{K:Out→A3 R}{r:R}(ho:o.op = .call { callee:=.builtin .len,args:=#[x],argTypes:=ts })(h:Bi2 P st ts x K=some r):∃out,K out=some r∧Bp P o st out:=by
 unfold Bi2 at h;split at h
 ·rename_i t ht0;split at h
  ·rename_i l hx ht;exact⟨_,h,Aa (A3j hx) fun X=>B95 ho ht0 ht⟩
  ·rename_i ty l e hx ht;refine⟨_,h,Aa (A3j hx) fun X=>?_⟩;have:=Aa6 (P:=P) (X:=X) (x:=x) (sz:=ty.size) (es:=l.map ty.ds) ho ht0 ht;rw[Bpl]at this;exact this
  ·rename_i e hx ht;split at h
   ·rename_i q hq;obtain⟨q1,q2,q3⟩:=q;exact⟨_,h,Aa (A3j hx) fun X=>Aze ho ht0 (C4 hq)⟩
   ·cases h
  ·cases h
 ·cases h
def Ar8(st:Af)(Bkg:Bool)(x y:Operand)(K:Out→A3 R):A3 R :=
 match xd st x,xd st y with
 |some (.i k a),some (.i k' b)=>cond (Le k k') (K (B0 st (.d (.i k (cond Bkg (if b<a then b else a) (if b>a then b else a)))) [(x,.d (.i k a)),(y,.d (.i k' b))])) none
 |_,_=>none
def Bea{o:Oper}{K:Out→A3 R}{r:R}(ho:o.op = .call { callee:=.builtin .max,args:=#[x,y],argTypes:=ts })(h:Ar8 st false x y K=some r):∃out,K out=some r∧Bp P o st out:=by
 unfold Ar8 at h;split at h
 ·rename_i k a k' b hx hy;cases hk:Le k k' with
  |false=>simp[hk]at h
  |true =>simp only[hk,Bov,Box]at h;have:=Hd hk;subst this;exact⟨_,h,Aa (Avj hx hy) fun X=>Bh3 ho⟩
 ·cases h
def Ail(o:Oper):A3 Nat :=
 match o.dst with
 |some d=>some (100000+d)
 |none=>none
def Ao(n bytes:Nat):Bool:=decide (n*bytes≤140737488355328)&&decide (n≤4611686018427387904)
def Zz{bytes:Nat}(h:Ao n bytes=true):n*bytes≤140737488355328∧n≤4611686018427387904:=by simpa[Ao]using h
def Qr(n:Nat)(l:A2 Nat):A2 Nat:=l.filter (· != n)
def Qy(m:Nat)(live:A2 Nat)(st:Af):Bool:=cond (inl m live) false (Iv [m] st)
def Vw(h:Qy m live st=true):m∉live∧B1 [m] st.X=true:=by
 unfold Qy at h;cases hm:inl m live with
 |true=>simp[hm]at h
 |false =>simp only[hm,Box]at h;refine⟨fun hh=>?_,Nt h⟩;rw[(Cx m live).2 hh]at hm;cases hm
def Aim(ty:A3 TypeId)(e:TypeId):Bool :=
 match ty with
 |none=>true
 |some t=>Nat.beq t e
def B9x{ty:A3 TypeId}(h:Aim ty e=true):(ty==none||ty==some e)=true:=by
 cases ty with
 |none=>rfl
 |some t=>simp only[Aim]at h;rw[Boy h];simp
def Ar9(P:Program)(st:Af)(o:Oper)(ts:Array TypeId)(s x:Operand)(K:Out→A3 R):A3 R :=
 match ts[0]?,ts[1]?,Ail o with
 |some t,some u,some m =>
  match Fa P t,Fa P u,Av st s,xd st x with
  |some (e,sz,bytes),some _,some (.Be n ty l oty),some (.sl Y8 l') =>
   if h:Y8.Jm ty=true then
    cond (Nat.beq ty.size sz) (cond (inl n st.live) (cond (Qy m (Qr n st.live) st) (cond (Aim oty e)
     (cond (Ao (l.length+l'.length) bytes) (K ⟨.lab,.Be m ty (l++(Ty.Am h▸l':List ty.T)) oty,[(s,.Be n ty l oty),(x,.d (.sl Y8 l'))],st.objs,m::Qr n st.live,[m],[]⟩) none) none) none) none) none
   else none
  |some (e,sz,bytes),some _,some (.d (.v (.slice none 0 0))),some (.sl ty l) =>
   cond (Nat.beq ty.size sz) (cond (Qy m st.live st)
     (cond (Ao l.length bytes) (K ⟨.lab,.Be m ty l (some e),[(s,.d (.v (.slice none 0 0))),(x,.d (.sl ty l))],st.objs,m::st.live,[m],[]⟩) none) none) none
  |_,_,_,_=>none
 |_,_,_=>none
def Azx{o:Oper}{s:Operand}{K:Out→A3 R}{r:R}(ho:o.op = .call { callee:=.builtin .append,args:=#[s,x],argTypes:=ts })(h:Ar9 P st o ts s x K=some r):∃out,K out=some r∧Bp P o st out:=by
 unfold Ar9 at h;split at h
 ·rename_i t u m ht hu hm;split at h
  ·rename_i e sz bytes q n ty l oty Y8 l' hsl hsu hs hx;split at h
   ·rename_i he;have e0:=Ty.Am he;subst e0;cases h1:Nat.beq Y8.size sz with
    |false=>simp[h1]at h
    |true =>
    cases h2:inl n st.live with
    |false=>simp[h1,h2]at h
    |true =>
    cases h3:Qy m (Qr n st.live) st with
    |false=>simp[h1,h2,h3]at h
    |true =>
    cases h4:Aim oty e with
    |false=>simp[h1,h2,h3,h4]at h
    |true =>
    cases h5:Ao (l.length+l'.length) bytes with
    |false=>simp[h1,h2,h3,h4,h5]at h
    |true =>
     simp only[h1,h2,h3,h4,h5,Bov]at h;have e1:=Boy h1;subst e1;obtain⟨f1,f2⟩:=Vw h3;obtain⟨b1,b2⟩:=Zz h5;obtain⟨q1,q2,q3⟩:=q;refine⟨_,h,⟨?_,?_,fun _ _ _ h=>h⟩⟩
     ·intro p hp;simp only[Ay,Bp3,Bpz,Boz,Bpt,Bqy]at hp;rcases hp with rfl|rfl
      ·exact Aj hs
      ·exact A2h hx
     ·have:=Av0 (P:=P) (X:=st.X) (s:=s) (x:=x) (n:=n) (es:=l.map Y8.ds) (fs:=l'.map Y8.ds) (ty:=oty) m ho ht hu (C4 hsu) (C4 hsl) ((Cx _ _).1 h2) f1 f2
       (by intro cs Rq c hc;obtain⟨y,_,rfl⟩:=Bpc.1 Rq;exact Y8.Wg y c hc) (by simpa using b1) (by simpa using b2) (B9x h4)
      rw[← Bpn]at this;exact⟨rfl,this⟩
   ·cases h
  ·rename_i e sz bytes q ty l hsl hsu hs hx;cases h1:Nat.beq ty.size sz with
   |false=>simp[h1]at h
   |true =>
   cases h3:Qy m st.live st with
   |false=>simp[h1,h3]at h
   |true =>
   cases h5:Ao l.length bytes with
   |false=>simp[h1,h3,h5]at h
   |true =>
    simp only[h1,h3,h5,Bov]at h;have e1:=Boy h1;subst e1;obtain⟨f1,f2⟩:=Vw h3;obtain⟨b1,b2⟩:=Zz h5;obtain⟨q1,q2,q3⟩:=q;refine⟨_,h,⟨?_,?_,fun _ _ _ h=>h⟩⟩
    ·intro p hp;simp only[Ay,Bp3,Bpz,Boz,Bpt,Bqy]at hp;rcases hp with rfl|rfl
     ·exact Aj hs
     ·exact A2h hx
    ·have := Aqj (P := P) (X := st.X) (s := s) (x := x) (fs := l.map ty.ds) (ty := some e) m ho ht hu (C4 hsu) (C4 hsl) f1 f2
       (by intro cs Rq c hc;obtain⟨y,_,rfl⟩:=Bpc.1 Rq;exact ty.Wg y c hc) (by simpa using b1) (by simpa using b2) (by simp)
     exact⟨rfl,this⟩
  ·cases h
 ·cases h
end
section
variable{P:Program}{R:Type}
def Ao8(hx:Av st x=some v)(h1:∀p∈Ay r1,Dx st.im p.1 p.2)(h2:∀p∈Ay r2,Dx st.im p.1 p.2) :
  ∀p∈Ay ((x,v)::(r1++r2)),Dx st.im p.1 p.2:=by
 intro p hp;simp only[Ay,Bp3,Bpn,Boz,Bp4]at hp;rcases hp with rfl|hp|hp
 ·exact Aj hx
 ·exact h1 p hp
 ·exact h2 p hp
def Ain(P:Program)(st:Af)(t:TypeId)(x:Operand)(lo hi:A3 Operand)(k:Nat)(ty:Ty)(a len:Nat)(K:Out→A3 R):A3 R :=
 match Fa P t,P3 st 0 lo,P3 st len hi with
 |some (_,sz,_),some (l,r1),some (h,r2)=>cond (Nat.beq ty.size sz) (cond (Fb l h len) (K (B0 st (.os k ty (a+l.toNat) (h.toNat-l.toNat)) ((x,.os k ty a len)::(r1++r2)))) none) none
 |_,_,_=>none
def Avw{o:Oper}{a:Nat}{K:Out→A3 R}{r:R}(ho:o.op = .slice t x lo hi none)(hx:Av st x=some (.os k ty a len))
  (h:Ain P st t x lo hi k ty a len K=some r):∃out,K out=some r∧Bp P o st out:=by
 unfold Ain at h;split at h
 ·rename_i e sz by0 l r1 hh r2 ht hlo hhi;cases hb:Nat.beq ty.size sz with
  |false=>simp[hb]at h
  |true =>
  cases hc:Fb l hh len with
  |false=>simp[hb,hc]at h
  |true =>
   simp only[hb,hc,Bov]at h;have e1:=Boy hb;subst e1;obtain⟨c0,c1,c2⟩:=A5u hc;obtain⟨s1,m1,f1⟩:=Ht hlo;obtain⟨s2,m2,f2⟩:=Ht hhi;obtain⟨hu,i,z,M9,Gu,Fp,hz',Bmn⟩:=C4 ht;refine⟨_,h,Aa (Ao8 hx s1 s2) fun X=>?_⟩;have:=Aqo (P:=P) (X:=X) (k:=k) (off:=a*ty.size) (len:=len) (rd:=Ay (r1++r2)) (l:=l) (h:=hh) ho hu M9 Gu c0 c1 c2 (by
    cases lo with
    |none=>exact m1
    |some y=>obtain⟨j,hj⟩:=m1;exact⟨j,by rw[Eu];exact Bpi _ hj⟩) (by
    cases hi with
    |none=>exact m2
    |some y=>obtain⟨j,hj⟩:=m2;exact⟨j,by rw[Eu];exact Bph _ hj⟩)
   show Bi P o ((x,.nm k (.s (a*ty.size) len ty.size))::Ay (r1++r2)) X X [] (.nm k (.s ((a+l.toNat)*ty.size) (hh.toNat-l.toNat) ty.size));rw[Br5];exact this
 ·cases h
def Adj(P:Program)(st:Af)(t:TypeId)(x:Operand)(lo hi mx:A3 Operand)(K:Out→A3 R):A3 R :=
 match mx,Av st x with
 |none,some (.os k ty a len)=>Ain P st t x lo hi k ty a len K
 |_,_=>Azw P st t x lo hi mx K
def Ara{o:Oper}{K:Out→A3 R}{r:R}(ho:o.op = .slice t x lo hi mx)(h:Adj P st t x lo hi mx K=some r):∃out,K out=some r∧Bp P o st out:=by
 unfold Adj at h;split at h
 ·rename_i k ty a len hx;exact Avw ho hx h
 ·exact B63 ho h
def Arb(P:Program)(st:Af)(ts:Array TypeId)(x:Operand)(K:Out→A3 R):A3 R :=
 match Av st x with
 |some (.os k ty a len)=>match ts[0]? with
  |some t=>match P.underlying t with
   |some (.slice _)=>K (B0 st (.d (.i .i64 (len:Int))) [(x,.os k ty a len)])
   |_=>none
  |none=>none
 |_=>Bi2 P st ts x K
variable{ts:Array TypeId}
def Azy{o:Oper}{K:Out→A3 R}{r:R}(ho:o.op = .call { callee:=.builtin .len,args:=#[x],argTypes:=ts })(h:Arb P st ts x K=some r):∃out,K out=some r∧Bp P o st out:=by
 unfold Arb at h;split at h
 ·rename_i k ty a len hx;split at h
  ·rename_i t ht0;split at h
   ·rename_i e ht;exact⟨_,h,Aa (Cy hx) fun X=>Ai8 ho ht0 ht⟩
   ·cases h
  ·cases h
 ·exact Be9 ho h
def D7(k:Nat):A2 (Nat×A9)→A2 (Nat×A9)
 |[]=>[]
 |p::r=>cond (Nat.beq p.1 k) (D7 k r) (p::D7 k r)
def H7(k:Nat):A2 (Nat×A9)→Bool
 |[]=>true
 |p::r=>cond p.2.plain (H7 k r) (cond (Nat.beq p.1 k) false (cond (Nat.ble H0 k) false (H7 k r)))
def Avx(k:Nat)(l:A2 (Nat×A9)):Dn (D7 k l)=(Dn l).filter (fun p=>p.1 != k):=by
 induction l with
 |nil=>rfl
 |cons p r ih =>
  simp only[D7];cases hb:Nat.beq p.1 k with
  |true =>have:=Boy hb;simp only[Bov,Dn,Bp3,Br4,this,Bvh,Bqs,Bre]at ih⊢;exact ih
  |false =>
   have h1:(p.1 != k)=true:=by simpa using Brd hb
   simp only[Box,Dn,Bp3,Br4,h1,Brg]at ih⊢;rw[ih]
theorem A8d{k:Nat}:∀ {l:A2 (Nat×A9)},H7 k l=true→Dp (D7 k l)=(Dp l).filter (fun p=>p.1 != k)
 |[],_=>rfl
 |p::r,h=>by
  simp only[H7]at h;simp only[D7];cases hp:p.2.plain with
  |true =>
   simp only[hp,Bov]at h;have ih:=A8d h;cases hb:Nat.beq p.1 k with
   |true=>simp only[Bov,Dp,A9.H6 hp,Bpx];exact ih
   |false=>simp only[Box,Dp,A9.H6 hp,Bpx];exact ih
  |false =>
   simp only[hp,Box]at h;cases hb:Nat.beq p.1 k with
   |true=>simp[hb]at h
   |false =>
    simp only[hb,Box]at h;cases hk:Nat.ble H0 k with
    |true=>simp[hk]at h
    |false =>
     simp only[hk,Box]at h;have ih:=A8d h;have Bg:k<H0:=Nat.lt_of_not_le fun hle=>by rw[Bqd hle]at hk;cases hk
     simp only[Box,Dp,Brb,ih];congr 1;symm;rw[List.filter_eq_self];intro q hq;have:=A9.Nr hq;have hne:q.1≠k:=by omega
     simpa using hne
def Qz(h:H7 k l=true):A4 (D7 k l)=(A4 l).filter (fun p=>p.1 != k):=by unfold A4;rw[Avx,A8d h,Brb]
theorem Ti{k:Nat}:∀ {l:A2 (Nat×A9)},Fk [k] l=true→H7 k l=true
 |[],_=>rfl
 |p::r,h=>by
  simp only[Fk]at h;have ih:=Ti (Avh h);simp only[H7,ih];cases hp:p.2 with
  |abs h' S ty x =>
   rw[hp]at h;simp only at h;cases hn:Nat.beq p.1 k with
   |true=>simp[Avd,B31,Boy hn]at h
   |false =>
    have:Y9 [k]=true:=by
     cases hl:Y9 [k] with
     |true=>rfl
     |false=>simp[hl]at h
    have:=Qw this k (by simp);have hb:Nat.ble H0 k=false:=by
     cases hb:Nat.ble H0 k with
     |false=>rfl
     |true=>have:=Bpf hb;omega
    simp[A9.plain,hb]
  |_=>simp[A9.plain]
theorem Afl{k m:Nat}:∀ {l:A2 (Nat×A9)},H7 m l=true→H7 m (D7 k l)=true
 |[],_=>rfl
 |p::r,h=>by
  simp only[H7]at h;simp only[D7];have:H7 m r=true:=by
   cases hp:p.2.plain with
   |true=>simpa[hp]using h
   |false =>
    simp only[hp,Box]at h;cases hb:Nat.beq p.1 m with
    |true=>simp[hb]at h
    |false =>
     simp only[hb,Box]at h;cases hk:Nat.ble H0 m with
     |true=>simp[hk]at h
     |false=>simpa[hk]using h
  have ih:=Afl (k:=k) this;cases hb:Nat.beq p.1 k with
  |true=>simpa using ih
  |false=>simp only[Box,H7,ih];simp only[this]at h;exact h
def Ab1(m k:Nat)(st:Af):Bool:=cond (Iv [m] st) (H7 k st.objs) false
def A3q(h:Ab1 m k st=true):Iv [m] st=true∧H7 k st.objs=true:=by
 unfold Ab1 at h;cases h1:Iv [m] st with
 |false=>simp[h1]at h
 |true=>exact⟨rfl,by simpa[h1]using h⟩
def Tj{x:A9}(h:lk j (D7 k l)=some x):lk j l=some x:=by
 induction l with
 |nil=>exact h
 |cons p r ih =>
  simp only[D7]at h;cases hb:Nat.beq p.1 k with
  |true =>
   simp only[hb,Bov]at h;have hj:j≠k:=by
    rintro rfl;have:∀(l:A2 (Nat×A9)),lk j (D7 j l)=none:=by
     intro l;induction l with
     |nil=>rfl
     |cons q s ih2 =>
      simp only[D7];cases hq:Nat.beq q.1 j with
      |true=>simpa using ih2
      |false=>simp[F9,hq];exact ih2
    rw[this]at h;cases h
   have:=Boy hb;simp only[F9];rw[this,nbF (Brl hj)];exact ih h
  |false =>
   simp only[hb,Box,F9]at h⊢;cases hq:Nat.beq p.1 j with
   |true=>simp only[hq,Bov]at h⊢;exact h
   |false=>simp only[hq,Box]at h⊢;exact ih h
def Bmo:A3 XV→Ty
 |some (.os _ ty _ _)=>ty
 |_=>.unit
def xdS(st:Af)(ty:Ty)(x:Operand):A3 XD :=
 match xd st x with
 |some (.v (.slice (some _) 0 _))=>some (.sl ty [])
 |r=>r
def B9y{a:XD}(h:xdS st ty x=some a):Dx st.im x (XV.d a).a:=by
 unfold xdS at h;split at h
 ·rename_i p c hx;cases h;exact Aar hx (.Bkb _ _ _)
 ·exact A2h h
def Arc(P:Program)(st:Af)(o:Oper)(ts:Array TypeId)(s x:Operand)(K:Out→A3 R):A3 R :=
 match ts[0]?,ts[1]?,newName o with
 |some t,some u,some m =>
  match Fa P t,Fa P u,Av st s,xdS st (Bmo (Av st s)) x with
  |some (e,sz,bytes),some _,some (.os k ty a len),some (.sl Y8 l') =>
   match lk k st.objs with
   |some (.arr tu l) =>
    if h:Y8.Jm ty=true then if h':tu.Jm ty=true then
     cond (Nat.beq ty.size sz) (cond (Nat.beq a 0) (cond (Nat.ble 1000 k) (cond (Nat.beq m k) none (cond (Ab1 m k st) (cond (Nat.beq l.length len) (cond (Ao (len+l'.length) bytes)
      (K ⟨.all,.os m ty 0 (len+l'.length),[(s,.os k ty a len),(x,.d (.sl Y8 l'))],(m,.arr ty ((Ty.Am h'▸l:List ty.T)++(Ty.Am h▸l':List ty.T)))::D7 m (D7 k st.objs),st.live,[m],[m,k]⟩) none) none) none)) none) none) none
    else none else none
   |_=>none
  |some (e,sz,bytes),some _,some (.d (.v (.slice none 0 0))),some (.sl ty l) =>
   match l with
   |[]=>none
   | y :: l => cond (Nat.beq ty.size sz) (cond (Iv [m] st) (cond (Nat.ble 1000 m) (cond (Ao (y :: l).length bytes)
      (K ⟨.all,.os m ty 0 (y::l).length,[(s,.d (.v (.slice none 0 0))),(x,.d (.sl ty (y::l)))],(m,.arr ty (y::l))::D7 m st.objs,st.live,[m],[m]⟩) none) none) none) none
  |_,_,_,_=>none
 |_,_,_=>none
def A19{o:Oper}(h:newName o=some m):1000≤m:=by
 unfold newName at h;split at h
 ·cases h;omega
 ·cases h
def Azz{o:Oper}{s:Operand}{K:Out→A3 R}{r:R}(ho:o.op = .call { callee:=.builtin .append,args:=#[s,x],argTypes:=ts })(h:Arc P st o ts s x K=some r):∃out,K out=some r∧Bp P o st out:=by
 unfold Arc at h;split at h
 ·rename_i t u m ht hu hm;split at h
  ·rename_i e sz bytes q k ty a len Y8 l' hsl hsu hs hx;split at h
   ·rename_i tu l hk;split at h
    ·rename_i he;split at h
     ·rename_i he';have e0:=Ty.Am he;subst e0;have e0':=Ty.Am he';subst e0';cases h1:Nat.beq tu.size sz with
      |false=>simp[h1]at h
      |true =>
      cases h2:Nat.beq a 0 with
      |false=>simp[h1,h2]at h
      |true =>
      cases h3:Nat.ble 1000 k with
      |false=>simp[h1,h2,h3]at h
      |true =>
      cases h4:Nat.beq m k with
      |true=>simp[h1,h2,h3,h4]at h
      |false =>
      cases h5:Ab1 m k st with
      |false=>simp[h1,h2,h3,h4,h5]at h
      |true =>
      cases h6:Nat.beq l.length len with
      |false=>simp[h1,h2,h3,h4,h5,h6]at h
      |true =>
      cases h7:Ao (len+l'.length) bytes with
      |false=>simp[h1,h2,h3,h4,h5,h6,h7]at h
      |true =>
       simp only[h1,h2,h3,h4,h5,h6,h7,Bov,Box]at h;have e1:=Boy h1;have e2:=Boy h2;have e6:=Boy h6;subst e1;subst e2;subst e6;obtain⟨b1,b2⟩:=Zz h7;obtain⟨q1,q2,q3⟩:=q;have Lb:st.X.objs.lookup k=some (.cells ((l.map tu.ds).flatten.map .d) none):=by show(A4 st.objs).lookup k=_;exact Hy hk
       refine⟨_,h,⟨?_,?_,fun j z hj hz=>?_⟩⟩
       ·intro p hp;simp only[Ay,Bp3,Bpz,Boz,Bpt,Bqy]at hp;rcases hp with rfl|rfl
        ·exact Aj hs
        ·exact B9y hx
       ·have:=Amp (P:=P) (X:=st.X) (s:=s) (x:=x) (k:=k) (len:=l.length) (cs:=(l.map tu.ds).flatten.map .d) (cty:=none) (fs:=l'.map tu.ds) m ho ht hu (C4 hsu) (C4 hsl) Lb
         (by rw[Bpl,Hs _ (Aat tu l)];simp) (Bpf h3) (A19 hm) (Brd h4) (Nt (A3q h5).1)
         (by
          rw[Bqb];intro y hy;obtain⟨d,hd,rfl⟩:=Bpc.1 hy;obtain⟨c,hc,hdc⟩:=List.mem_flatten.1 hd;obtain⟨v,_,rfl⟩:=Bpc.1 hc;have:=tu.Wg v d hdc;cases d<;>first|exact this|rfl)
         (by intro c hc d hd;obtain⟨v,_,rfl⟩:=Bpc.1 hc;exact tu.Wg v d hd) (by simpa using b1) (by simpa using b2)
        show Bi P o _ st.X ⟨A4 ((m,A9.arr tu (l++l'))::D7 m (D7 k st.objs)),st.live⟩ [m] _;have e3:A4 ((m,A9.arr tu (l++l'))::D7 m (D7 k st.objs))=(m,Ob.cells ((l.map tu.ds).flatten.map AV.d++(l'.map tu.ds).flatten.map AV.d) none)::(Ab.Aw m (Ab.Aw k st.X)).objs:=by rw[show A4 ((m,A9.arr tu (l++l'))::D7 m (D7 k st.objs))=(m,A9.o (.arr tu (l++l')))::A4 (D7 m (D7 k st.objs))from rfl,Qz (Afl (Ti (A3q h5).1)),Qz (A3q h5).2];simp only[A9.o,Bpn,Bsq,Ab.Aw];rfl
        rw[e3];simp only[Bpl]at this;have e4:Ay [(s,XV.os k tu 0 l.length),(x,XV.d (XD.sl tu l'))]=[(s,.osl k 0 l.length tu.size),(x,.d (.sl tu.size (l'.map tu.ds)))]:=by simp only[Ay,Bp3,Bpz,XV.a,Bsh];rfl
        rw[e4];have e5:(XV.os m tu 0 (l.length+l'.length)).a = .osl m 0 (l.length+l'.length) tu.size:=by simp only[XV.a,Bsh]
        rw[e5];exact this
       ·simp only[Boz,Bpt,Bqy,Bt5]at hj;rw[Dz hj.1]at hz;exact Tj (Tj hz)
     ·cases h
    ·cases h
   ·cases h
  ·rename_i e sz bytes q ty l hsl hsu hs hx;split at h
   ·cases h
   ·rename_i y l;cases h1:Nat.beq ty.size sz with
    |false=>simp[h1]at h
    |true =>
    cases h5:Iv [m] st with
    |false=>simp[h1,h5]at h
    |true =>
    cases h3:Nat.ble 1000 m with
    |false=>simp[h1,h5,h3]at h
    |true =>
    cases h7:Ao (y::l).length bytes with
    |false=>simp only[h1,h5,h3,h7,Bov,Box,reduceCtorEq]at h
    |true =>
     simp only[h1,h5,h3,h7,Bov]at h;have e1:=Boy h1;subst e1;obtain⟨b1,b2⟩:=Zz h7;obtain⟨q1,q2,q3⟩:=q;refine⟨_,h,⟨?_,?_,fun j z hj hz=>?_⟩⟩
     ·intro p hp;simp only[Ay,Bp3,Bpz,Boz,Bpt,Bqy]at hp;rcases hp with rfl|rfl
      ·exact Aj hs
      ·exact B9y hx
     ·have:=Aak (P:=P) (X:=st.X) (s:=s) (x:=x) (fs:=(y::l).map ty.ds) m ho ht hu (C4 hsu) (C4 hsl) (A19 hm) (Nt h5) (by simp)
       (by intro c hc d hd;obtain⟨v,_,rfl⟩:=Bpc.1 hc;exact ty.Wg v d hd) (by simpa using b1) (by simpa using b2)
      show Bi P o _ st.X ⟨A4 ((m,A9.arr ty (y::l))::D7 m st.objs),st.live⟩ [m] _;have e3:A4 ((m,A9.arr ty (y::l))::D7 m st.objs)=(m,Ob.cells (((y::l).map ty.ds).flatten.map AV.d) none)::(Ab.Aw m st.X).objs:=by rw[show A4 ((m,A9.arr ty (y::l))::D7 m st.objs)=(m,A9.o (.arr ty (y::l)))::A4 (D7 m st.objs)from rfl,Qz (Ti h5)];rfl
      rw[e3];have e4:Ay [(s,XV.d (.v (.slice none 0 0))),(x,XV.d (XD.sl ty (y::l)))]=[(s,.d (.sc (.slice none 0 0))),(x,.d (.sl ty.size ((y::l).map ty.ds)))]:=rfl;rw[e4];have e5:(XV.os m ty 0 (y::l).length).a = .osl m 0 (y::l).length ty.size:=by simp only[XV.a,Bsh]
      rw[e5];rw[Bpl]at this;exact this
     ·simp only[Boz,Bpt,Bqy]at hj;rw[Dz hj]at hz;exact Tj hz
  ·cases h
 ·cases h
def B00(P:Program)(st:Af)(ts:Array TypeId)(x:Operand)(K:Out→A3 R):A3 R :=
 match ts[0]?,Av st x with
 |some t,some (.os k ty a len) =>
  match Fa P t,lk k st.objs with
  |some (e,sz,_),some (.arr tu l) =>
   if h:tu.Jm ty=true then
    match zeroOf P e with
    |some zs=>cond (Nat.beq ty.size sz) (cond (Aau zs)
      (K ⟨.put k (.arr ty ((Ty.Am h▸l:List ty.T).take a)),.F2 [],[(x,.os k ty a len)],Lg k (.arr ty ((Ty.Am h▸l:List ty.T).take a)) st.objs,st.live,[],[k]⟩) none) none
    |none=>none
   else none
  |_,_=>none
 |some t,some (.d (.v (.slice none 0 0)))=>none
 |_,_=>none
theorem Aio{sz:Nat}:∀(fs:A2 (A2 D)),(∀(i:Nat) cs,fs[i]? = some cs→cs.length=sz)→∀a,fs.flatten.take (a*sz)=(fs.take a).flatten
 |[],_,a=>by simp
 |c::r,h,0=>by simp
 |c::r,h,a+1=>by
  have h0:=h 0 c rfl;have ih:=Aio r (fun i cs hi=>h (i+1) cs (by simpa using hi)) a;simp only[Bqt,Btn,Brj];rw[show a*sz+sz=c.length+a*sz by omega,Bvb,ih]
def B64{o:Oper}{K:Out→A3 R}{r:R}(ho:o.op = .call { callee:=.builtin .clear,args:=#[x],argTypes:=ts })(h:B00 P st ts x K=some r):∃out,K out=some r∧Bp P o st out:=by
 unfold B00 at h;split at h
 ·rename_i t k ty a len ht hx;split at h
  ·rename_i e sz bytes tu l hsl hk;split at h
   ·rename_i he;have e0:=Ty.Am he;subst e0;split at h
    ·rename_i zs hz;cases h1:Nat.beq tu.size sz with
     |false=>simp[h1]at h
     |true =>
     cases h2:Aau zs with
     |false=>simp[h1,h2]at h
     |true =>
      simp only[h1,h2,Bov]at h;have e1:=Boy h1;subst e1;have Lb:st.X.objs.lookup k=some (.cells ((l.map tu.ds).flatten.map .d) none):=by show(A4 st.objs).lookup k=_;exact Hy hk
      have Iw:∀z,(P.info? e).bind (·.zero)=some z→∀v∈z.cells.toList,v.oneCell'=true:=by
       intro z hzz v hv;unfold zeroOf at hz;split at hz
       ·rename_i i hi;split at hz
        ·rename_i z' hz';cases hz;have:z=z':=by rw[hi]at hzz;simp only[Bow,hz',Bp0]at hzz;exact hzz.symm
         subst this;have hall:=Ah9 h2;rw[Bqb]at hall;have:=hall (.d (.sc v)) (by
          rw[Qu,Bpc];exact⟨.d (Wm v),Bpc.2 ⟨v,hv,rfl⟩,by simp only[XV.a,A3i]⟩)
         exact this
        ·cases hz
       ·cases hz
      refine⟨_,h,⟨Cy hx,⟨⟨K4 hk rfl rfl,rfl⟩,rfl,rfl,fun X hX=>?_⟩,fun j z hj hz=>?_⟩⟩
      ·have:=Aqp (P:=P) (X:=X) (x:=x) (k:=k) (off:=a*tu.size) (len:=len) (cs:=(l.map tu.ds).flatten.map .d) (ty:=none) ho ht (C4 hsl) (hX.trans Lb) Iw;rw[← Bsj,Aio _ (Aat tu l),← Bsj]at this;exact this
      ·rw[Nu _ _ _ _ (by simpa using hj)]at hz;exact hz
    ·cases h
   ·cases h
  ·cases h
 ·cases h
 ·cases h
end
section
variable{P:Program}{R:Type}
def Aip:XV→A3 Bool
 |.d (.v (.slice none 0 0))=>some true
 |.d (.v (.slice (some _) _ _))=>some false
 |.d (.sl _ l)=>match l with
  |[]=>none
  |_::_=>some false
 |.os _ _ _ _=>some false
 |_=>none
def B65{x:XV}(h:Aip x=some b){v:Value}(hr:RA g w x.a v):∃p n c,v = .slice p n c∧p.isNone=b:=by
 unfold Aip at h;split at h
 ·cases h;cases hr with
  |d _ _ h=>cases h;exact⟨_,_,_,rfl,rfl⟩
 ·cases h;cases hr with
  |d _ _ h=>cases h;exact⟨_,_,_,rfl,rfl⟩
 ·split at h
  ·cases h
  ·cases h;cases hr with
   |d _ _ h=>cases h;exact⟨_,_,_,rfl,rfl⟩
 ·cases h;obtain⟨cap,o,_,hv,_⟩:=RA.Sw hr;exact⟨_,_,_,hv,rfl⟩
 ·cases h
def Aiq(ht:P.underlying t=some (.slice e))(p:A3 Addr)(n c:Nat)(w:World):(Op.equal t (.slice p n c) (.slice none 0 0)).run P w = .ok p.isNone w:=by
 have h:∀d:Nat,(Op.equalIn (d+1) t (.slice p n c) (.slice none 0 0)).run P w = .ok p.isNone w:=by intro d;cases p<;>simp[Op.equalIn,Bpb ht]
 exact h 9999
def Ao9{o:Oper}{X:A5}{op:BinOp}(neg:Bool)(ho:o.op = .binOp (cond neg .neq .eql) t x y t')(ht:P.underlying t=some (.slice e))(hb:Aip v=some b) :
  Bi P o [(x,v.a),(y,.d (.sc (.slice none 0 0)))] X X [] (.d (.sc (.bool (cond neg (!b) b)))) :=
 .quiet fun _ _ g w ac _ Au=>by
  have h1:=Is Au;have h2:=(Y4 Au).Ap;simp only at h1 h2;obtain⟨p,n,c,hv,hp⟩:=B65 hb h1;refine⟨_,?_,.H4 _ _ _⟩;simp only[execOp,ho,hv,h2];cases neg with
  |true =>
   have hg:∀p:A3 Addr,eqGuard .neq t x y (.slice p n c) (.slice none 0 0)=pure ():=fun _=>rfl
   simp[hg,binOp,Aiq ht,hp]
  |false =>
   have hg:∀p:A3 Addr,eqGuard .eql t x y (.slice p n c) (.slice none 0 0)=pure ():=fun _=>rfl
   simp[hg,binOp,Aiq ht,hp]
def Ard:Operand→Bool
 |.const (.slice none 0 0)=>true
 |_=>false
def B66(h:Ard x=true):x = .const (.slice none 0 0):=by
 unfold Ard at h;split at h
 ·rfl
 ·cases h
def Are(P:Program)(st:Af)(op:BinOp)(t:TypeId)(x y:Operand)(K:Out→A3 R):A3 R :=
 cond (Ard y) (match op with
  |.eql=>match Fa P t,Av st x with
   |some _,some v=>match Aip v with
    |some b=>K (B0 st (.d (.b b)) [(x,v),(y,.d (.v (.slice none 0 0)))])
    |none=>none
   |_,_=>none
  |.neq=>match Fa P t,Av st x with
   |some _,some v=>match Aip v with
    |some b=>K (B0 st (.d (.b (!b))) [(x,v),(y,.d (.v (.slice none 0 0)))])
    |none=>none
   |_,_=>none
  |_=>none) (Bhu P st op t x y K)
def B01{o:Oper}{K:Out→A3 R}{r:R}(ho:o.op = .binOp op t x y t')(h:Are P st op t x y K=some r):∃out,K out=some r∧Bp P o st out:=by
 unfold Are at h;cases hy:Ard y with
 |false=>simp only[hy,Box]at h;exact Be2 ho h
 |true =>
  have:=B66 hy;subst this;simp only[hy,Bov]at h;have Rr:∀v,Av st x=some v→∀p∈Ay [(x,v),(Operand.const (.slice none 0 0),XV.d (.v (.slice none 0 0)))],Dx st.im p.1 p.2:=by
   intro v hv p hp;simp only[Ay,Bp3,Bpz,Boz,Bpt,Bqy]at hp;rcases hp with rfl|rfl
   ·exact Aj hv
   ·exact .const _ _ fun _ _=>.sc _
  split at h
  ·split at h
   ·rename_i e v hs hv;split at h
    ·rename_i b hb;obtain⟨e1,e2,e3⟩:=e;refine⟨_,h,Aa (Rr v hv) fun X=>?_⟩;exact Ao9 (op:=.eql) false ho (C4 hs).und hb
    ·cases h
   ·cases h
  ·split at h
   ·rename_i e v hs hv;split at h
    ·rename_i b hb;obtain⟨e1,e2,e3⟩:=e;refine⟨_,h,Aa (Rr v hv) fun X=>?_⟩;exact Ao9 (op:=.neq) true ho (C4 hs).und hb
    ·cases h
   ·cases h
  ·cases h
def Adk(P:Program)(st:Af)(o:Oper)(t:TypeId)(n:Nat)(Bon:Array (Nat×Operand))(K:Out→A3 R):A3 R :=
 match Fa P t,newName o with
 |some (e,sz,bytes),some m =>
  match Avq P 9 e,Bx st (Bon.toList.map (·.2)) with
  |some ty,some vs =>
   match A8a ty vs with
   |some l=>cond (Nat.beq ty.size sz) (cond (Nat.beq vs.length n) (cond (A16 0 (Bon.toList.map (·.1))) (cond (Nat.ble (n*sz) 16777216) (cond (Iv [m] st)
     (K ⟨.all,.os m ty 0 n,Aig ty (Bon.toList.map (·.2)) l,(m,.arr ty l)::D7 m st.objs,st.live,[m],[m]⟩) none) none) none) none) none
   |none=>none
  |_,_=>none
 |_,_=>none
def Arf{o:Oper}{Bon:Array (Nat×Operand)}{K:Out→A3 R}{r:R}(ho:o.op = .buildSlice t n Bon)(h:Adk P st o t n Bon K=some r):∃out,K out=some r∧Bp P o st out:=by
 unfold Adk at h;split at h
 ·rename_i e sz bytes m hsl hm;split at h
  ·rename_i ty vs hty Pk;split at h
   ·rename_i l hl;cases h1:Nat.beq ty.size sz with
    |false=>simp[h1]at h
    |true =>
    cases h2:Nat.beq vs.length n with
    |false=>simp[h1,h2]at h
    |true =>
    cases h3:A16 0 (Bon.toList.map (·.1)) with
    |false=>simp[h1,h2,h3]at h
    |true =>
    cases h4:Nat.ble (n*sz) 16777216 with
    |false=>simp[h1,h2,h3,h4]at h
    |true =>
    cases h5:Iv [m] st with
    |false=>simp[h1,h2,h3,h4,h5]at h
    |true =>
     simp only[h1,h2,h3,h4,h5,Bov]at h;have e1:=Boy h1;have e2:=Boy h2;have hto:=Yp Pk hl;have hlen:=A17 hto;have hvl:=Hz Pk;refine⟨_,h,⟨by rw[Ab0];exact Z9 hto,?_,fun j z hj hz=>?_⟩⟩
     ·obtain⟨hu',i',z,hi,hs,hb,hz,hzs⟩:=C4 hsl;have:=Aal (P:=P) (X:=st.X) (xs:=l.map ty.dv) m ho hu' hi hz hs (by simp;omega) (by
       rw[A8b h3,Buu];congr 1;simp at hvl hlen⊢;omega) (by
       rw[Bqb];intro x hx;obtain⟨y,_,rfl⟩:=Bpc.1 hx;simp only[B35,Aaz,Ty.Cj,e1,Bsn,Bs4]) (Bpf h4) (A19 hm) (Nt h5)
      simp only[Brv]at this;have e3:(List.map (D.cells∘ty.dv) l)=l.map ty.ds:=by apply List.map_congr_left;intro y _;exact Aaz ty y
      rw[e3]at this;show Bi P o _ st.X ⟨A4 ((m,A9.arr ty l)::D7 m st.objs),st.live⟩ [m] _;have e4:A4 ((m,A9.arr ty l)::D7 m st.objs)=(m,Ob.cells ((l.map ty.ds).flatten.map AV.d) none)::(Ab.Aw m st.X).objs:=by rw[show A4 ((m,A9.arr ty l)::D7 m st.objs)=(m,A9.o (.arr ty l))::A4 (D7 m st.objs)from rfl,Qz (Ti h5)];rfl
      rw[e4,Ab0];have e5:(XV.os m ty 0 n).a = .osl m 0 n sz:=by simp only[XV.a,Bsh,e1]
      rw[e5];exact this
     ·simp only[Boz,Bpt,Bqy]at hj;rw[Dz hj]at hz;exact Tj hz
   ·cases h
  ·cases h
 ·cases h
end
section
variable{P:Program}{R:Type}
variable{ts:Array TypeId}
def B02{o:Oper}{X:A5}{e:Nat}(ho:o.op = .call { callee:=.builtin .cap,args:=#[x],argTypes:=ts })
  (h0:ts[0]? = some t) (ht:P.underlying t=some (.slice e)):Bi P o [(x,.d (.sc (.slice none 0 0)))] X X [] (.d (.sc (.int .i64 0))) :=
 .quiet fun _ _ g w a _ Au=>by
  have e1:=(Is Au).Ap;simp only at e1;refine⟨.int .i64 0,?_,.H4 _ _ _⟩;have:(Builtin.cap_ ts o.type #[.slice none 0 0]).run P w = .ok (goInt 0) w:=by simp[Builtin.cap_,h0,Bpb ht]
  simp only[execOp,ho,resolve];simp[invoke,builtin,e1,this,Result.andThen,goInt]
def Bi3(P:Program)(st:Af)(ts:Array TypeId)(x:Operand)(K:Out→A3 R):A3 R :=
 match ts[0]? with
 |some t=>match xd st x,P.underlying t with
  |some (.v (.slice none 0 0)),some (.slice _)=>K (B0 st (.d (.i .i64 0)) [(x,.d (.v (.slice none 0 0)))])
  |_,_=>none
 |none=>none
def Beb{o:Oper}{K:Out→A3 R}{r:R}(ho:o.op = .call { callee:=.builtin .cap,args:=#[x],argTypes:=ts })(h:Bi3 P st ts x K=some r):∃out,K out=some r∧Bp P o st out:=by
 unfold Bi3 at h;split at h
 ·rename_i t ht0;split at h
  ·rename_i e hx ht;exact⟨_,h,Aa (A3j hx) fun X=>B02 ho ht0 ht⟩
  ·cases h
 ·cases h
end
section
variable(P:Program){R:Type}
def Adl(st:Af)(o:Oper)(t:TypeId)(K:Out→A3 R):A3 R :=
 match Fa P t,Ail o with
 |some (e,sz,bytes),some m =>
  match Avq P 9 e with
  |some ty=>cond (Nat.beq ty.size sz) (cond (Qy m st.live st) (K ⟨.lab,.Be m ty [] (some e),[],st.objs,m::st.live,[m],[]⟩) none) none
  |none=>none
 |_,_=>none
def Ab2{α:Type}(n:Nat)(l:A2 α):Bool :=
 match n,l with
 |0,[]=>true
 |_,_=>false
variable{P}
def Arh{o:Oper}{Bon:Array (Nat×Operand)}{K:Out→A3 R}{r:R}(ho:o.op = .buildSlice t n Bon)(he:Ab2 n Bon.toList=true)(h:Adl P st o t K=some r):∃out,K out=some r∧Bp P o st out:=by
 have hn:n=0∧Bon=#[]:=by
  unfold Ab2 at he;split at he
  ·rename_i hp;exact⟨rfl,by apply Bqm;rw[← Brk,hp];rfl⟩
  ·cases he
 obtain⟨rfl,rfl⟩:=hn;unfold Adl at h;split at h
 ·rename_i e sz bytes m hsl hm;split at h
  ·rename_i ty hty;cases h1:Nat.beq ty.size sz with
   |false=>simp[h1]at h
   |true =>
   cases h3:Qy m st.live st with
   |false=>simp[h1,h3]at h
   |true =>simp only[h1,h3,Bov]at h;have e1:=Boy h1;subst e1;obtain⟨f1,f2⟩:=Vw h3;refine⟨_,h,⟨by simp[Ay],⟨rfl,?_⟩,fun _ _ _ h=>h⟩⟩;obtain⟨hu,i,z,hi,hs,_⟩:=C4 hsl;have:=A6s (P:=P) (X:=st.X) m ho hu hi f1 f2;rw[hs]at this;exact this
  ·cases h
 ·cases h
end
section
variable{P:Program}{R:Type}
def Avy:A2 Value→Bool
 |[]=>true
 |.int .u8 (.ofNat 0)::r=>Avy r
 |_::_=>false
theorem Avz:∀ {l:A2 Value},Avy l=true→A7 (l.map fun v=>XV.d (Wm v))=((List.replicate l.length (0:UInt8)).map Ty.u8.ds).flatten.map AV.d
 |[],_=>rfl
 |v::r,h=>by
  unfold Avy at h;split at h
  ·rename_i heq;cases heq
  ·rename_i r' heq;cases heq;have:=Avz (l:=r) h;simp only[Bp3,A7,Bpk,Buz,Bqt,Bpn,this];rfl
  ·cases h
def A8e(P:Program)(t:TypeId):A3 (A2 Value) :=
 match P.info? t with
 |some i=>match i.zero with
  |some z=>some z.cells.toList
  |none=>none
 |none=>none
def B9z{l:A2 Value}(h:A8e P t=some l):Ahq P t (A7 (l.map fun v=>XV.d (Wm v))):=by
 unfold A8e at h;split at h
 ·rename_i i hi;split at h
  ·rename_i z hz;cases h;exact⟨⟨i,z,hi,hz,Ar1 _⟩⟩
  ·cases h
 ·cases h
def Adm(P:Program)(st:Af)(o:Oper)(t:TypeId)(K:Out→A3 R):A3 R :=
 match newName o,A8e P t with
 |some k,some l=>cond (fresh k st) (cond (Avy l) (K ⟨.all,.nm k (.p 0),[],(k,.arr .u8 (List.replicate l.length (0:UInt8)))::st.objs,st.live,[k],[k]⟩) none) none
 |_,_=>none
def Ari{o:Oper}{K:Out→A3 R}{r:R}(ho:o.op = .alloc t)(h:Adm P st o t K=some r):∃out,K out=some r∧Bp P o st out:=by
 unfold Adm at h;split at h
 ·rename_i k l hk hz;cases hf:fresh k st with
  |false=>simp[hf]at h
  |true =>
  cases ha:Avy l with
  |false=>simp[hf,ha]at h
  |true =>
   simp only[hf,ha,Bov]at h;obtain⟨h1,h2⟩:=Tg hf;refine⟨_,h,⟨by simp[Ay],?_,fun j z hj hz=>?_⟩⟩
   ·have:=Av5 (P:=P) (X:=st.X) k ho (B9z hz) (Th h1) h2;rw[Avz ha]at this;exact this
   ·rw[Dz (by simpa using hj)]at hz;exact hz
 ·cases h
def Aoa(P:Program)(own:Bool)(st:Af)(o:Oper)(t:TypeId)(K:Out→A3 R):A3 R :=
 cond own (Adm P st o t K) (Azq P st o t K)
def Arj{own:Bool}{o:Oper}{K:Out→A3 R}{r:R}(ho:o.op = .alloc t)(h:Aoa P own st o t K=some r):∃out,K out=some r∧Bp P o st out:=by
 cases own with
 |true=>exact Ari ho h
 |false=>exact B5y ho h
def Adn(P:Program)(st:Af)(t:TypeId)(x:Operand)(lo hi:A3 Operand)(k:Nat)(ty:Ty)(cs:List ty.T)(K:Out→A3 R):A3 R :=
 match Aij P t with
 |some (_,n,sz)=>match P3 st 0 lo,P3 st n hi with
  |some (l,r1),some (h,r2)=>cond (Nat.beq ty.size sz) (cond (Nat.ble n cs.length) (cond (Fb l h n)
    (K ⟨.look [k],.os k ty l.toNat (h.toNat-l.toNat),(x,.nm k (.p 0))::(r1++r2),st.objs,st.live,[],[]⟩) none) none) none
  |_,_=>none
 |none=>none
def Ark{o:Oper}{cs:List ty.T}{K:Out→A3 R}{r:R}(ho:o.op = .slice t x lo hi none)(hx:Av st x=some (.nm k (.p 0)))
  (hk:lk k st.objs=some (.arr ty cs)) (h:Adn P st t x lo hi k ty cs K=some r):∃out,K out=some r∧Bp P o st out:=by
 unfold Adn at h;split at h
 ·rename_i e n sz hat;split at h
  ·rename_i l r1 hh r2 hlo hhi;cases hb:Nat.beq ty.size sz with
   |false=>simp[hb]at h
   |true =>
   cases hn:Nat.ble n cs.length with
   |false=>simp[hb,hn]at h
   |true =>
   cases hc:Fb l hh n with
   |false=>simp[hb,hn,hc]at h
   |true =>
    simp only[hb,hn,hc,Bov]at h;have e1:=Boy hb;subst e1;have Ke:=Bpf hn;obtain⟨c0,c1,c2⟩:=A5u hc;obtain⟨s1,m1,f1⟩:=Ht hlo;obtain⟨s2,m2,f2⟩:=Ht hhi;refine⟨_,h,⟨Ao8 hx s1 s2,⟨rfl,rfl,rfl,fun X hX=>?_⟩,fun _ _ _ h=>h⟩⟩;have hkX:X.objs.lookup k=some (.cells ((cs.map ty.ds).flatten.map .d) none):=by rw[hX k (by simp)];exact(by show(A4 st.objs).lookup k=_;exact Hy hk)
    have hlen:((cs.map ty.ds).flatten.map AV.d).length=cs.length*ty.size:=by
     rw[Bpl,Hs (sz:=ty.size) _ (by
      intro i c hc;rw[Bp1,Bp8]at hc;obtain⟨z,_,rfl⟩:=hc;exact ty.Cj z),Bpl]
    have:=Aqq (P:=P) (X:=X) (k:=k) (rd:=Ay (r1++r2)) (l:=l) (h:=hh) ho (Aik hat) hkX (by rw[hlen];exact Bqw _ Ke) c0 c1 c2 (by
     cases lo with
     |none=>exact m1
     |some y=>obtain⟨j,hj⟩:=m1;exact⟨j,by rw[Eu];exact Bpi _ hj⟩) (by
     cases hi with
     |none=>exact m2
     |some y=>obtain⟨j,hj⟩:=m2;exact⟨j,by rw[Eu];exact Bph _ hj⟩)
    exact this
  ·cases h
 ·cases h
def Ado(P:Program)(st:Af)(t:TypeId)(x:Operand)(lo hi mx:A3 Operand)(K:Out→A3 R):A3 R :=
 match mx,Av st x with
 |none,some (.nm k (.p 0))=>match lk k st.objs with
  |some (.arr ty cs)=>Adn P st t x lo hi k ty cs K
  |_=>none
 |_,_=>Adj P st t x lo hi mx K
def Arl{o:Oper}{K:Out→A3 R}{r:R}(ho:o.op = .slice t x lo hi mx)(h:Ado P st t x lo hi mx K=some r):∃out,K out=some r∧Bp P o st out:=by
 unfold Ado at h;split at h
 ·rename_i k hx;split at h
  ·rename_i ty cs hk;exact Ark ho hx hk h
  ·cases h
 ·exact Ara ho h
def Air(P:Program)(st:Af)(s d:TypeId)(x:Operand)(K:Out→A3 R):A3 R :=
 match Av st x with
 |some (.os k .u8 a len)=>match lk k st.objs with
  |some (.arr .u8 l)=>match P.underlying s,P.underlying d with
   |some (.slice e),some .string=>match P.underlying e with
    |some (.int .u8)=>cond (Nat.ble (a+len) l.length) (K ⟨.look [k],.d (.s ((l.drop a).take len)),[(x,.os k .u8 a len)],st.objs,st.live,[],[]⟩) none
    |_=>none
   |_,_=>none
  |_=>none
 |_=>B9r P st s d x K
def Aw0{o:Oper}{d:TypeId}{K:Out→A3 R}{r:R}(ho:o.op = .convert s d x)(h:Air P st s d x K=some r):∃out,K out=some r∧Bp P o st out:=by
 unfold Air at h;split at h
 ·rename_i k a len hx;split at h
  ·rename_i l hk;split at h
   ·rename_i e hs hd;split at h
    ·rename_i he;cases hb:Nat.ble (a+len) l.length with
     |false=>simp[hb]at h
     |true =>simp only[hb,Bov]at h;refine⟨_,h,⟨Cy hx,⟨rfl,rfl,rfl,fun X hX=>?_⟩,fun _ _ _ h=>h⟩⟩;exact A6t ho hs he hd (by rw[hX k (by simp)];exact(by show(A4 st.objs).lookup k=_;exact Hy hk)) (Bpf hb)
    ·cases h
   ·cases h
  ·cases h
 ·exact B9s ho h
end
open Go.Lib
def Dd{α β:Type}(l:A2 α)(a:β)(f:α→A2 α→β):β :=
 match l with
 |[]=>a
 |y::r=>f y r
section
variable{P:Program}{R:Type}
def A5v(P:Program)(t:TypeId):A3 TypeId :=
 match P.underlying t with
 |some (.pointer e)=>match P.info? e with
  |some i=>cond (Nat.beq i.size 0) none (some e)
  |none=>none
 |_=>none
def A1a(h:A5v P t=some e):P.underlying t=some (.pointer e)∧∃i,P.info? e=some i∧i.size≠0:=by
 unfold A5v at h;split at h
 ·rename_i e' ht;split at h
  ·rename_i i hi;cases hz:Nat.beq i.size 0 with
   |true=>simp[hz]at h
   |false =>simp only[hz,Box,Bp0]at h;subst h;exact⟨ht,i,hi,Brd hz⟩
  ·cases h
 ·cases h
def Arm:XV→A3 Bool
 |.nm _ (.p _)=>some false
 |.nm _ (.z b _)=>some b
 |.el _ _ _ _=>some false
 |.d (.v (.pointer none))=>some true
 |_=>none
def B67{x:XV}{v:Value}(h:Arm x=some b)(hr:RA g w x.a v):∃p,v = .pointer p∧p.isNone=b:=by
 unfold Arm at h;split at h
 ·cases h;simp only[XV.a]at hr;cases hr with
  |nm _ _ _ h=>exact⟨_,h,rfl⟩
 ·rename_i k b' off;cases h;simp only[XV.a]at hr;cases hr with
  |nm _ _ _ h =>
   cases b with
   |true=>exact⟨_,h,rfl⟩
   |false=>exact⟨_,h,rfl⟩
 ·cases h;simp only[XV.a]at hr;cases hr with
  |nm _ _ _ h=>exact⟨_,h,rfl⟩
 ·cases h;simp only[XV.a,XD.d]at hr;cases hr with
  |d _ _ h=>cases h;exact⟨_,rfl,rfl⟩
 ·cases h
def A3b(ht:P.underlying t=some (.pointer e))(p:A3 Addr)(w:World):(Op.equal t (.pointer p) (.pointer none)).run P w = .ok p.isNone w:=by
 have h:∀d:Nat,(Op.equalIn (d+1) t (.pointer p) (.pointer none)).run P w = .ok p.isNone w:=by intro d;cases p<;>simp[Op.equalIn,Bpb ht]
 exact h 9999
def Arn(ht:P.underlying t=some (.pointer e))(p:A3 Addr)(w:World):(Op.equal t (.pointer none) (.pointer p)).run P w = .ok p.isNone w:=by
 have h:∀d:Nat,(Op.equalIn (d+1) t (.pointer none) (.pointer p)).run P w = .ok p.isNone w:=by intro d;cases p<;>simp[Op.equalIn,Bpb ht]
 exact h 9999
def Tk(neg:Bool):BinOp:=cond neg .neq .eql
def Yq(neg:Bool)(t:TypeId)(x y:Operand)(p q:A3 Addr):eqGuard (Tk neg) t x y (.pointer p) (.pointer q)=pure ():=by cases neg<;>rfl
def B03{o:Oper}{X:A5}(neg:Bool)(ho:o.op = .binOp (Tk neg) t x y t')(ht:P.underlying t=some (.pointer e))(hb:Arm v=some b) :
  Bi P o [(x,v.a),(y,.d (.sc (.pointer none)))] X X [] (.d (.sc (.bool (cond neg (!b) b)))) :=
 .quiet fun _ _ g w ac _ Au=>by
  have h1:=Is Au;have h2:=(Y4 Au).Ap;simp only at h1 h2;obtain⟨p,hv,hp⟩:=B67 hb h1;refine⟨_,?_,.H4 _ _ _⟩;simp only[execOp,ho,hv,h2];rw[Yq];cases neg<;>simp[Tk,binOp,A3b ht,hp]
def Afm{o:Oper}{X:A5}{c:Bool}(neg:Bool)(ho:o.op = .binOp (Tk neg) t x y t')(ht:P.underlying t=some (.pointer e))(hi:∃i,P.info? e=some i)(hbc:b=false∨c=false) :
  Bi P o [(x,.nm k (.z b off)),(y,.nm k (.z c off))] X X [] (.d (.sc (.bool (cond neg (b||c) (!(b||c)))))) :=
 .quiet fun _ _ g w ac _ Au=>by
  obtain⟨i,hi⟩:=hi;have h1:=Is Au;have h2:=Y4 Au;simp only at h1 h2;have e1:ac.eval x=cond b (.pointer none) (.pointer (some ⟨g.ρ k,off,none⟩)):=by cases h1 with|nm _ _ _ h=>exact h
  have e2:ac.eval y=cond c (.pointer none) (.pointer (some ⟨g.ρ k,off,none⟩)):=by cases h2 with|nm _ _ _ h=>exact h
  refine⟨_,?_,.H4 _ _ _⟩;simp only[execOp,ho,e1,e2];have hs:=fun a=>run_eql_ptr_same (P:=P) w (tp:=t) a ht hi
  have hn:=fun a=>run_neq_ptr_same (P:=P) w (tp:=t) a ht hi
  cases b with
  |true =>
   rcases hbc with h|h
   ·cases h
   ·subst h;simp only[Bov,Box];rw[Yq];cases neg<;>simp[Tk,binOp,Arn ht]
  |false =>
   cases c with
   |true =>simp only[Bov,Box];rw[Yq];cases neg<;>simp[Tk,binOp,A3b ht]
   |false =>
    simp only[Box];rw[Yq];cases neg with
    |true=>simp[Tk,hn]
    |false=>simp[Tk,hs]
def B04:XV→A3 (Bool×Nat×Nat)
 |.nm k (.p off)=>some (false,k,off)
 |.nm k (.z b off)=>some (b,k,off)
 |_=>none
def B37{x:XV}(h:B04 x=some (b,k,off)):Ya x.a (.nm k (.z b off)):=by
 unfold B04 at h;split at h
 ·cases h;intro g w v hr;simp only[XV.a]at hr;cases hr with
  |nm _ _ _ h=>exact .nm _ _ _ h
 ·cases h;exact .refl _
 ·cases h
def Aro:XV→A3 Bool
 |.d (.er b)=>some (!b)
 |.d (.v .nilIface)=>some true
 |.d (.ic _ _ a)=>some a.isNone
 |_=>none
def B68{x:XV}{v:Value}(h:Aro x=some b)(hr:RA g w x.a v):(b=true→v = .nilIface)∧(b=false→∃t u,v = .iface t u):=by
 unfold Aro at h;split at h
 ·rename_i c;simp only[Bp0]at h;subst h;simp only[XV.a,XD.d]at hr;cases c with
  |true =>
   cases hr with
   |d _ _ h =>
    cases h with
    |any _ _ h1 h2=>exact⟨by simp,fun _=>h1⟩
  |false =>
   cases hr with
   |d _ _ h =>cases h;exact⟨fun _=>rfl,by simp⟩
 ·cases h;simp only[XV.a,XD.d]at hr;cases hr with
  |d _ _ h=>cases h;exact⟨fun _=>rfl,by simp⟩
 ·rename_i u k a;cases h;simp only[XV.a,XD.d]at hr;cases hr with
  |d _ _ h =>
   cases h;cases a with
   |none=>exact⟨fun _=>rfl,by simp[Option.isNone]⟩
   |some n=>exact⟨by simp[Option.isNone],fun _=>⟨u,_,rfl⟩⟩
 ·cases h
variable{ms:Array (String×TypeId)}{ts:Array TypeId}
def B05(ht:P.underlying t=some (.interface ms)){v:Value}(hv:(b=true→v = .nilIface)∧(b=false→∃t u,v = .iface t u))(w:World):(Op.equal t v .nilIface).run P w = .ok b w:=by
 have h:∀d:Nat,(Op.equalIn (d+1) t v .nilIface).run P w = .ok b w:=by
  intro d;cases b with
  |true=>rw[hv.1 rfl];simp[Op.equalIn,Bpb ht]
  |false =>obtain⟨t',u,rfl⟩:=hv.2 rfl;simp[Op.equalIn,Bpb ht]
 exact h 9999
def B06(neg:Bool)(t:TypeId)(x:Operand)(c:Value)(v:Value)(hv:(b=true→v = .nilIface)∧(b=false→∃t u,v = .iface t u)):eqGuard (Tk neg) t x (.const c) v .nilIface=pure ():=by
 cases b with
 |true=>rw[hv.1 rfl];cases neg<;>cases x<;>rfl
 |false=>obtain⟨t',u,rfl⟩:=hv.2 rfl;cases neg<;>rfl
def B69{o:Oper}{X:A5}{c:Value}(neg:Bool)(ho:o.op = .binOp (Tk neg) t x (.const c) t')(ht:P.underlying t=some (.interface ms))(hb:Aro v=some b) :
  Bi P o [(x,v.a),(.const c,.d (.sc .nilIface))] X X [] (.d (.sc (.bool (cond neg (!b) b)))) :=
 .quiet fun _ _ g w ac _ Au=>by
  have h1:=Is Au;have h2:=(Y4 Au).Ap;simp only at h1 h2;have hv:=B68 hb h1;refine⟨_,?_,.H4 _ _ _⟩;simp only[execOp,ho,h2];rw[B06 neg t x c _ hv];cases neg<;>simp[Tk,binOp,B05 ht hv]
def Aob:BinOp→A3 Bool
 |.eql=>some false
 |.neq=>some true
 |_=>none
def Ab3{neg:Bool}(h:Aob op=some neg):op=Tk neg:=by
 unfold Aob at h;split at h
 ·cases h;rfl
 ·cases h;rfl
 ·cases h
inductive Bmp where
 |ptr
 |iface
 |none
def Bi4:Operand→Bmp
 |.const (.pointer none)=>.ptr
 |.const .nilIface=>.iface
 |_=>.none
def Ba0(P:Program)(st:Af)(op:BinOp)(t:TypeId)(x y:Operand)(K:Out→A3 R):A3 R :=
 match Bi4 y with
 |.ptr=>match Aob op,A5v P t,Av st x with
  |some neg,some _,some v=>match Arm v with
   |some b=>K (B0 st (.d (.b (cond neg (!b) b))) [(x,v),(y,.d (.v (.pointer none)))])
   |none=>none
  |_,_,_=>none
 |.iface=>match Aob op,P.underlying t,Av st x with
  |some neg,some (.interface _),some v=>match Aro v with
   |some b=>K (B0 st (.d (.b (cond neg (!b) b))) [(x,v),(y,.d (.v .nilIface))])
   |none=>none
  |_,_,_=>none
 |.none=>match Aob op,A5v P t with
  |some neg,some _=>match Av st x,Av st y with
   |some v,some u=>match B04 v,B04 u with
    |some (b,k,off),some (c,k',Rs)=>cond (Nat.beq k k') (cond (Nat.beq off Rs) (cond b (cond c none
      (K (B0 st (.d (.b (cond neg true false))) [(x,.nm k (.z true off)),(y,.nm k (.z false off))])))
      (K (B0 st (.d (.b (cond neg c (!c)))) [(x,.nm k (.z false off)),(y,.nm k (.z c off))]))) none) none
    |_,_=>none
   |_,_=>none
  |_,_=>Are P st op t x y K
def Aw1{y:XV}(h:Av st x=some v)(hle:Ya v.a y.a)(hnc:B04 v≠none):Dx st.im x y.a:=by
 cases x with
 |tmp t=>exact .tmp t _ (Dq h).1 (Z8 (Dq h).2 hle)
 |const u =>simp only[Av,Bp0]at h;subst h;simp[B04]at hnc
 |func f =>simp only[Av,Bp0]at h;subst h;simp[B04]at hnc
 |global k=>exact .Ahj k _ (Z8 h hle)
def Ba1{o:Oper}{K:Out→A3 R}{r:R}(ho:o.op = .binOp op t x y t')(h:Ba0 P st op t x y K=some r):∃out,K out=some r∧Bp P o st out:=by
 unfold Ba0 at h;have Bgl:∀(c:Value),y = .const c→∀v,Av st x=some v→∀p∈Ay [(x,v),(y,XV.d (.v c))],Dx st.im p.1 p.2:=by
  intro c hy v hv p hp;simp only[Ay,Bp3,Bpz,Boz,Bpt,Bqy]at hp;rcases hp with rfl|rfl
  ·exact Aj hv
  ·rw[hy];exact .const _ _ fun _ _=>.sc _
 split at h
 ·rename_i hy;have hy:y = .const (.pointer none):=by unfold Bi4 at hy;split at hy<;>first|rfl|cases hy
  split at h
  ·rename_i neg e v hn he hv;split at h
   ·rename_i b hb;have:=Ab3 hn;subst this;exact⟨_,h,Aa (Bgl _ hy v hv) fun X=>B03 neg ho (A1a he).1 hb⟩
   ·cases h
  ·cases h
 ·rename_i hy;have hy:y = .const .nilIface:=by unfold Bi4 at hy;split at hy<;>first|rfl|cases hy
  split at h
  ·rename_i neg ms v hn he hv;split at h
   ·rename_i b hb;have:=Ab3 hn;subst this;subst hy;exact⟨_,h,Aa (Bgl _ rfl v hv) fun X=>B69 neg ho he hb⟩
   ·cases h
  ·cases h
 ·split at h
  ·rename_i neg e hn he;split at h
   ·rename_i v u hv hu;split at h
    ·rename_i b k off c k' Rs hpv hpu;cases h1:Nat.beq k k' with
     |false=>simp[h1]at h
     |true =>
     cases h2:Nat.beq off Rs with
     |false=>simp[h1,h2]at h
     |true =>
      have e1:=Boy h1;have e2:=Boy h2;subst e1;subst e2;have:=Ab3 hn;subst this;obtain⟨ht,i,hi,_⟩:=A1a he;have Rr:∀p∈Ay [(x,XV.nm k (.z b off)),(y,XV.nm k (.z c off))],Dx st.im p.1 p.2:=by
       intro p hp;simp only[Ay,Bp3,Bpz,Boz,Bpt,Bqy]at hp;rcases hp with rfl|rfl
       ·exact Aw1 hv (B37 hpv) (by rw[hpv];simp)
       ·exact Aw1 hu (B37 hpu) (by rw[hpu];simp)
      cases b with
      |true =>
       cases c with
       |true=>simp at h
       |false =>simp only[h1,h2,Bov,Box]at h;refine⟨_,h,Aa Rr fun X=>?_⟩;have:=Afm (X:=X) neg ho ht ⟨i,hi⟩ (k:=k) (off:=off) (b:=true) (c:=false) (.inr rfl);simp only[Bool.true_or,Br2]at this;exact this
      |false =>simp only[h1,h2,Bov,Box]at h;refine⟨_,h,Aa Rr fun X=>?_⟩;have:=Afm (X:=X) neg ho ht ⟨i,hi⟩ (k:=k) (off:=off) (b:=false) (c:=c) (.inl rfl);simp only[Bta]at this;exact this
    ·cases h
   ·cases h
  ·exact B01 ho h
def B07(P:Program)(st:Af)(s d:TypeId)(x:Operand)(K:Out→A3 R):A3 R :=
 match Av st x with
 |some (.nm k (.p off))=>match lk k st.objs with
  |some (.cells cs (some T))=>match P.underlying d with
   |some .unsafePointer=>match A5v P s with
    |some t=>cond (Nat.ble (off+1) cs.length) (K ⟨.look [k],.nm k (.p off),[(x,.nm k (.p off))],st.objs,st.live,[],[]⟩) none
    |none=>none
   |_=>match P.underlying s,A5v P d with
    |some .unsafePointer,some t=>cond (Nat.beq t T) (cond (Nat.beq off 0) (cond (Nat.beq (P.cellsOf T) cs.length) (cond (Nat.beq cs.length 0) none (K ⟨.look [k],.nm k (.p 0),[(x,.nm k (.p 0))],st.objs,st.live,[],[]⟩)) none) none) none
    |_,_=>none
  |_=>none
 |_=>Air P st s d x K
def B6a{o:Oper}{d:TypeId}{K:Out→A3 R}{r:R}(ho:o.op = .convert s d x)(h:B07 P st s d x K=some r):∃out,K out=some r∧Bp P o st out:=by
 unfold B07 at h;split at h
 ·rename_i k off hx;split at h
  ·rename_i cs T hk;have Mk:st.X.objs.lookup k=some (.cells (A7 cs) (some T)):=by show(A4 st.objs).lookup k=_;exact Hy hk
   split at h
   ·rename_i hd;split at h
    ·rename_i t ht;cases hb:Nat.ble (off+1) cs.length with
     |false=>simp[hb]at h
     |true =>simp only[hb,Bov]at h;obtain⟨h1,h2⟩:=A1a ht;refine⟨_,h,⟨Cy hx,⟨rfl,rfl,rfl,fun X hX=>?_⟩,fun _ _ _ h=>h⟩⟩;exact Amk ho (by rw[hX k (by simp)];exact Mk) (by rw[Ah];exact Bpf hb) h1 hd h2
    ·cases h
   ·split at h
    ·rename_i t hs ht;cases h1:Nat.beq t T with
     |false=>simp[h1]at h
     |true =>
     cases h2:Nat.beq off 0 with
     |false=>simp[h1,h2]at h
     |true =>
     cases h3:Nat.beq (P.cellsOf T) cs.length with
     |false=>simp[h1,h2,h3]at h
     |true =>
     cases h4:Nat.beq cs.length 0 with
     |true=>simp[h1,h2,h3,h4]at h
     |false =>simp only[h1,h2,h3,h4,Bov,Box]at h;have e1:=Boy h1;have e2:=Boy h2;subst e1;subst e2;obtain⟨g1,g2⟩:=A1a ht;refine⟨_,h,⟨Cy hx,⟨rfl,rfl,rfl,fun X hX=>?_⟩,fun _ _ _ h=>h⟩⟩;exact Agt ho (by rw[hX k (by simp)];exact Mk) hs g1 g2 (by rw[Ah];exact Boy h3) (by rw[Ah];exact Brd h4)
    ·cases h
  ·cases h
 ·exact Aw0 ho h
def A8f{o:Oper}{X:A5}{e e':Nat}(ho:o.op = .call { callee:=.builtin .unsafeSliceData,args:=#[x],argTypes:=ts })(hn:n∈X.live)(ht:P.underlying o.type=some (.pointer e')) :
  Bi P o [(x,.Be n 1 [] (some e))] X X [] (.d (.any Aqt)):=by
 intro nm Ej B g w a hr Au next Q Ek
 have h1:=Is Au;simp only at h1;obtain⟨ob,Ga⟩:=Bps.1 ((hr.live n).1 hn);have done:∀p w',(execOp a.eval o).run P w = .ok (.value (.pointer p)) w'→HR nm B g w' X→Trans [] g w g w'→o.wp P a w next Q:=by intro p w' Cg h2 h3;unfold Oper.wp;rw[Cg];exact Ek g w' _ h2 h3 (.d _ _ (.any _ _ ⟨p,rfl⟩ rfl))
 generalize hv:a.eval x=v at h1;cases h1 with
 |Be _ _ _ _ _ h1 h2 =>
  have hsl:∃ad len cap,v = .slice ad len cap:=by
   generalize hE:([]:A2 (A2 D))=E at h1;cases h1 with
   |nil=>exact⟨_,_,_,rfl⟩
   |sl=>exact⟨_,_,_,rfl⟩
  obtain⟨ad,len,cap,rfl⟩:=hsl;cases ad with
  |none =>refine done none w ?_ hr (.refl _ _ _);simp[execOp,ho,resolve,hv,invoke,builtin,run_unsafeSliceData_nil]
  |some ad =>
   obtain⟨_,_,_,_,h5⟩:=h2 ob Ga;obtain⟨_,c,h6⟩:=h5 e rfl;by_cases hc:cap=0
   ·subst hc;have hg:=hr.grow (w':=w.alloc (.view ad e')) (by simp) (fun b hb=>Ow w _ hb) ⟨rfl,rfl,rfl,Bpa _⟩;refine done (some ⟨w.heap.size,0,none⟩) _ ?_ hg.1 hg.2;simp[execOp,ho,resolve,hv,invoke,builtin,run_unsafeSliceData_zero w ts o.type e' ht ad len _ h6]
   ·refine done (some ad) w ?_ hr (.refl _ _ _);simp[execOp,ho,resolve,hv,invoke,builtin,run_unsafeSliceData_row w _ _ _ _ _ hc]
def A3r(w:World){ty:TypeId}(hp:P.underlying pt=some (.pointer e))(p:A3 Addr):(Builtin.unsafeString_ #[pt,it] ty #[.pointer p,.int .i64 0]).run P w = .ok (.string .empty) w:=by
 cases p with
 |none=>rfl
 |some a=>rfl
def Amx{o:Oper}{X:A5}(ho:o.op = .call { callee:=.builtin .unsafeString,args:=#[x,y],argTypes:=#[pt,it] })(hp:P.underlying pt=some (.pointer e)) :
  Bi P o [(x,.d (.any Aqt)),(y,.d (.sc (.int .i64 0)))] X X [] (.d (.sc (.string .empty))) :=
 .quiet fun _ _ g w ac hr Au=>by
  have h1:=Is Au;have h2:=(Y4 Au).Ap;simp only at h1 h2;have h3:∃p,ac.eval x = .pointer p:=by
   cases h1 with
   |d _ _ h=>cases h with
    |any _ _ h _=>exact h
  obtain⟨p,h3⟩:=h3;refine⟨.string .empty,?_,.H4 _ _ _⟩;simp[execOp,ho,resolve,h3,h2,invoke,builtin,A3r w hp]
def A8g(P:Program)(st:Af)(o:Oper)(x:Operand)(K:Out→A3 R):A3 R :=
 match Av st x with
 |some (.Be n .u8 l (some e))=>Dd l
   (match P.underlying o.type with
   |some (.pointer _)=>cond (inl n st.live) (K ⟨.lab,.d .pp,[(x,.Be n .u8 [] (some e))],st.objs,st.live,[],[]⟩) none
   |_=>none)
   fun a r=>K (B0 st (.Vs n e a r) [(x,.Be n .u8 (a::r) (some e))])
 |some (.d (.v (.slice none 0 0)))=>K (B0 st (.d (.v (.pointer none))) [(x,.d (.v (.slice none 0 0)))])
 |_=>none
def Amy{o:Oper}{K:Out→A3 R}{r:R}(ho:o.op = .call { callee:=.builtin .unsafeSliceData,args:=#[x],argTypes:=ts })(h:A8g P st o x K=some r):∃out,K out=some r∧Bp P o st out:=by
 unfold A8g at h;split at h
 ·rename_i n l e hx;cases l with
  |nil =>
   simp only[Dd]at h;split at h
   ·rename_i e' he;cases hb:inl n st.live with
    |false=>simp[hb]at h
    |true =>simp only[hb,Bov]at h;refine⟨_,h,⟨Cy hx,⟨rfl,?_⟩,fun _ _ _ h=>h⟩⟩;exact A8f ho ((Cx _ _).1 hb) he
   ·cases h
  |cons a l =>simp only[Dd]at h;exact⟨_,h,Aa (Cy hx) fun X=>Aqm (l:=a::l) ho (by simp)⟩
 ·rename_i hx;exact⟨_,h,Aa (Cy hx) fun X=>Ad6 ho⟩
 ·cases h
def Za(P:Program)(st:Af)(ts:Array TypeId)(x y:Operand)(K:Out→A3 R):A3 R :=
 match ts.toList with
 |[pt,it]=>match P.underlying pt with
  |some (.pointer e')=>match Av st x,xd st y with
   |some (.Vs n e a l),some (.i .i64 m)=>cond (m==(((a::l).length:Nat):Int)) (cond (inl n st.live) (cond (Nat.beq e' e) (cond (Nat.beq (P.cellsOf e) 1) (cond (decide ((a::l).length≤9223372036854775807))
     (K ⟨.lab,.d (.s (a::l)),[(x,.Vs n e a l),(y,.d (.i .i64 m))],st.objs,Qr n st.live,[],[]⟩) none) none) none) none) none
   |some (.d .pp),some (.i .i64 m)=>cond (m==0) (K (B0 st (.d (.s [])) [(x,.d .pp),(y,.d (.i .i64 m))])) none
   |some (.d (.v (.pointer none))),some (.i .i64 m)=>cond (m==0) (K (B0 st (.d (.s [])) [(x,.d (.v (.pointer none))),(y,.d (.i .i64 m))])) none
   |_,_=>none
  |_=>none
 |_=>none
def Arp{b:XD}(h:Av st x=some v)(h':xd st y=some b):∀p∈Ay [(x,v),(y,.d b)],Dx st.im p.1 p.2:=by
 intro p hp;simp only[Ay,Bp3,Bpz,Boz,Bpt,Bqy]at hp;rcases hp with rfl|rfl
 ·exact Aj h
 ·exact A2h h'
def Adp{o:Oper}{K:Out→A3 R}{r:R}(ho:o.op = .call { callee:=.builtin .unsafeString,args:=#[x,y],argTypes:=ts })(h:Za P st ts x y K=some r):∃out,K out=some r∧Bp P o st out:=by
 unfold Za at h;split at h
 ·rename_i pt it hts;have:ts=#[pt,it]:=Bvr.1 hts;subst this;split at h
  ·rename_i e' hp;split at h
   ·rename_i n e a l m hx hy;cases h1:(m==(((a::l).length:Nat):Int)) with
    |false=>simp only[h1,Box]at h;cases h
    |true =>
    cases h2:inl n st.live with
    |false=>simp[h2]at h
    |true =>
    cases h3:Nat.beq e' e with
    |false=>simp[h2,h3]at h
    |true =>
    cases h4:Nat.beq (P.cellsOf e) 1 with
    |false=>simp[h2,h3,h4]at h
    |true =>
    cases h5:decide ((a::l).length≤9223372036854775807) with
    |false=>simp only[h1,h2,h3,h4,h5,Bov,Box]at h;cases h
    |true =>simp only[h1,h2,h3,h4,h5,Bov]at h;have e1:=Boy h3;subst e1;have hm:=eq_of_beq h1;subst hm;refine⟨_,h,⟨Arp hx hy,⟨rfl,?_⟩,fun _ _ _ h=>h⟩⟩;exact B5h (l:=a::l) ho ((Cx _ _).1 h2) (by simp) hp (Boy h4) (Bte h5)
   ·rename_i m hx hy;cases h1:(m==0) with
    |false=>simp[h1]at h
    |true =>simp only[h1,Bov]at h;have hm:=eq_of_beq h1;subst hm;exact⟨_,h,Aa (Arp hx hy) fun X=>Amx ho hp⟩
   ·rename_i m hx hy;cases h1:(m==0) with
    |false=>simp[h1]at h
    |true =>simp only[h1,Bov]at h;have hm:=eq_of_beq h1;subst hm;exact⟨_,h,Aa (Arp hx hy) fun X=>Aml ho⟩
   ·cases h
  ·cases h
 ·cases h
end
section
variable{P:Program}{R:Type}
end
section
variable{P:Program}{R:Type}
def Bkh(P:Program)(t:TypeId):Bool :=
 match P.underlying t with
 |some d=>Aa5 d
 |none=>true
def B08(P:Program)(st:Af)(t:TypeId)(x:Operand)(ty:Ty)(l:List ty.T)(K:Out→A3 R):A3 R :=
 match tyI P t with
 |some (agg,sz)=>cond agg none (cond (Nat.beq sz 1) (cond ty.agg none (Dd l none fun z r=>K (B0 st (.d (ty.xv z)) [(x,.d (.pa ty (z::r)))]))) none)
 |none=>none
def B09(P:Program)(st:Af)(t:TypeId)(x:Operand)(K:Out→A3 R):A3 R :=
 match Av st x with
 |some (.d (.pa ty l))=>cond (Bkh P t) (B33 P st t x K) (B08 P st t x ty l K)
 |_=>B33 P st t x K
def B6b{o:Oper}{l:List ty.T}{K:Out→A3 R}{r:R}(ho:o.op = .load t x)(hx:Av st x=some (.d (.pa ty l)))(h:B08 P st t x ty l K=some r):∃out,K out=some r∧Bp P o st out:=by
 unfold B08 at h;split at h
 ·rename_i agg sz ht;cases ha0:agg with
  |true=>simp only[ha0,Bov]at h;cases h
  |false =>
  cases hs:Nat.beq sz 1 with
  |false=>simp only[ha0,hs,Box]at h;cases h
  |true =>
  cases ha:ty.agg with
  |true=>simp only[ha0,hs,ha,Box,Bov]at h;cases h
  |false =>
   simp only[ha0,hs,ha,Box,Bov]at h;have:=Boy hs;subst this;subst ha0;cases l with
   |nil=>simp only[Dd]at h;cases h
   |cons z r' =>
    simp only[Dd]at h;refine⟨_,h,Aa (Cy hx) fun X=>?_⟩;have:=Afc (P:=P) (X:=X) (x:=x) (c:=ty.dv z) (cs:=(r'.map ty.ds).flatten) ho (Ym ht);have e:(XV.d (.pa ty (z::r'))).a = .d (.ep (ty.dv z::(r'.map ty.ds).flatten)):=by show AV.d (.ep (((z::r').map ty.ds).flatten))=_;rw[Bp3,Bqt,ty.A15 z ha];rfl
    show Bi P o [(x,(XV.d (.pa ty (z::r'))).a)] X X [] _;rw[e];exact this
 ·cases h
def B6c{o:Oper}{K:Out→A3 R}{r:R}(ho:o.op = .load t x)(h:B09 P st t x K=some r):∃out,K out=some r∧Bp P o st out:=by
 unfold B09 at h;split at h
 ·rename_i ty l hx;cases ha:Bkh P t with
  |true=>simp only[ha,Bov]at h;exact Avo ho h
  |false=>simp only[ha,Box]at h;exact B6b ho hx h
 ·exact Avo ho h
end
section
variable{P:Program}{R:Type}
def Ais(P:Program)(e:TypeId)(ty:Ty):A3 (A2 Value×ty.T) :=
 match A8e P e with
 |some l=>match ty.dec (l.map Wm) with
  |some (x,[])=>some (l,x)
  |_=>none
 |none=>none
theorem Ait:∀(l:A2 Value),D1 (l.map Wm)=l.map D.sc
 |[]=>rfl
 |v::r=>by simp only[Bp3,D1,A3i,Ait r]
def Ba2{l:A2 Value}{x:ty.T}(h:Ais P e ty=some (l,x)):A8e P e=some l∧Lw (l.map D.sc) (ty.ds x):=by
 unfold Ais at h;split at h
 ·rename_i l' hl;split at h
  ·rename_i y hd;cases h;obtain⟨ds,h1,h2⟩:=Ty.Wh ty hd;simp only[D1,Bq0]at h1;rw[Ait]at h1;exact⟨hl,h1▸h2⟩
  ·cases h
 ·cases h
def Arq{l:A2 Value}(h:A8e P e=some l):∃i z,P.info? e=some i∧i.zero=some z∧z.cells.toList=l:=by
 unfold A8e at h;split at h
 ·rename_i i hi;split at h
  ·rename_i z hz;cases h;exact⟨i,z,hi,hz,rfl⟩
  ·cases h
 ·cases h
def A8h(P:Program)(st:Af)(ts:Array TypeId)(x y:Operand)(k:Nat)(e:TypeId)(l:A2 UInt8)(v:XV)(K:Out→A3 R):A3 R :=
 match ts.toList with
 |[pt,it]=>match P.underlying pt with
  |some (.pointer e')=>match xd st y with
   |some (.i .i64 m)=>cond (Nat.beq l.length 0) none (cond (m==((l.length:Nat):Int)) (cond (Nat.ble 1000 k) (cond (Nat.beq e' e) (cond (Nat.beq (P.cellsOf e) 1) (cond (cond (decide (l.length≤9223372036854775807)) (H7 k st.objs) false)
     (K ⟨.all,.d (.s l),[(x,v),(y,.d (.i .i64 m))],D7 k st.objs,st.live,[],[]⟩) none) none) none) none) none)
   |_=>none
  |_=>none
 |_=>none
variable{ts:Array TypeId}
def Amz{o:Oper}{l:A2 UInt8}{K:Out→A3 R}{r:R}(ho:o.op = .call { callee:=.builtin .unsafeString,args:=#[x,y],argTypes:=ts })(hx:Av st x=some v)(hv:v.a = .ptr k 0)
  (hk:lk k st.objs=some (.bts e l)) (h:A8h P st ts x y k e l v K=some r):∃out,K out=some r∧Bp P o st out:=by
 unfold A8h at h;split at h
 ·rename_i pt it hts;have:ts=#[pt,it]:=Bvr.1 hts;subst this;split at h
  ·rename_i e' hp;split at h
   ·rename_i m hy;cases h0:Nat.beq l.length 0 with
    |true=>simp only[h0,Bov]at h;cases h
    |false =>
    cases h1:(m==((l.length:Nat):Int)) with
    |false=>simp only[h0,h1,Box]at h;cases h
    |true =>
    cases h2:Nat.ble 1000 k with
    |false=>simp only[h0,h1,h2,Bov,Box]at h;cases h
    |true =>
    cases h3:Nat.beq e' e with
    |false=>simp only[h0,h1,h2,h3,Bov,Box]at h;cases h
    |true =>
    cases h4:Nat.beq (P.cellsOf e) 1 with
    |false=>simp only[h0,h1,h2,h3,h4,Bov,Box]at h;cases h
    |true =>
    cases h5:cond (decide (l.length≤9223372036854775807)) (H7 k st.objs) false with
    |false=>simp only[h0,h1,h2,h3,h4,h5,Bov,Box]at h;cases h
    |true =>
    simp only[h0,h1,h2,h3,h4,h5,Bov,Box]at h;have h6:H7 k st.objs=true∧decide (l.length≤9223372036854775807)=true:=by
     cases hd:decide (l.length≤9223372036854775807) with
     |false=>rw[hd]at h5;cases h5
     |true=>rw[hd]at h5;exact⟨h5,rfl⟩
    have e1:=Boy h3;subst e1;have hm:=eq_of_beq h1;subst hm;have Mk:st.X.objs.lookup k=some (A9.bts e' l).o:=by show(A4 st.objs).lookup k=_;exact Hy hk
    refine⟨_,h,⟨Arp hx hy,?_,fun j z _ hz=>Tj hz⟩⟩;have hop:=Amr (X:=st.X) ho Mk (Bpf h2) (by rintro rfl;simp at h0) hp (Boy h4) (Bte h6.2);have e2:Ab.Aw k st.X=⟨A4 (D7 k st.objs),st.live⟩:=by rw[Qz h6.1];rfl
    rw[e2]at hop;simp only[Ay,Bp3,Bpz,hv];exact hop
   ·cases h
  ·cases h
 ·cases h
def A3s(P:Program)(st:Af)(ts:Array TypeId)(x y:Operand)(K:Out→A3 R):A3 R :=
 match Av st x with
 |some (.el k .u8 0 0)=>match lk k st.objs with
  |some (.bts e l)=>A8h P st ts x y k e l (.el k .u8 0 0) K
  |_=>none
 |_=>Za P st ts x y K
def Aiu{o:Oper}{K:Out→A3 R}{r:R}(ho:o.op = .call { callee:=.builtin .unsafeString,args:=#[x,y],argTypes:=ts })(h:A3s P st ts x y K=some r):∃out,K out=some r∧Bp P o st out:=by
 unfold A3s at h;split at h
 ·rename_i k hx;split at h
  ·rename_i e l hk;exact Amz ho hx rfl hk h
  ·cases h
 ·exact Adp ho h
def Aha(P:Program)(e:TypeId):Bool :=
 match P.underlying e with
 |some (.int .u8)=>true
 |_=>false
def B0a(h:Aha P e=true):P.underlying e=some (.int .u8):=by
 unfold Aha at h;split at h
 ·assumption
 ·cases h
def B0b(P:Program)(st:Af)(s d:TypeId)(x:Operand)(K:Out→A3 R):A3 R :=
 match P.underlying s,P.underlying d with
 |some .string,some (.slice e)=>match xd st x with
  |some (.s l)=>cond (Aha P e) (K (B0 st (.d (.sl .u8 l)) [(x,.d (.s l))])) none
  |_=>none
 |_,_=>B07 P st s d x K
def B6d{o:Oper}{d:TypeId}{K:Out→A3 R}{r:R}(ho:o.op = .convert s d x)(h:B0b P st s d x K=some r):∃out,K out=some r∧Bp P o st out:=by
 unfold B0b at h;split at h
 ·rename_i e hs hd;split at h
  ·rename_i l hx;cases hb:Aha P e with
   |false=>simp only[hb,Box]at h;cases h
   |true =>
   simp only[hb,Bov]at h;refine⟨_,h,Aa ?_ fun X=>Agu ho hs hd (B0a hb)⟩;intro p hp;simp only[Ay,Bp3,Bpz,Boz,Bpt,Bqy]at hp;subst hp;exact A2h hx
  ·cases h
 ·exact B6a ho h
end
def Adq:A2 XV→A3 (A2 XD)
 |[]=>some []
 |x::r=>match x.asD,Adq r with
  |some y,some l=>some (y::l)
  |_,_=>none
def Ba3{x:XV}{y:XD}(h:x.asD=some y):Ya x.a (.d y.d):=by
 cases x with
 |d u=>simp only[XV.asD,Bp0]at h;subst h;exact .refl _
 |Be n t l ty=>simp only[XV.asD,Bp0]at h;subst h;exact Ya.Be _ _ _ _
 |_=>simp[XV.asD]at h
theorem Aiv:∀ {cs:A2 XV} {ds:A2 XD},Adq cs=some ds→cs.length=ds.length∧∀(i:Nat) x y,cs[i]? = some x→ds[i]? = some y→Ya x.a (.d y.d)
 |[],ds,h=>by simp[Adq]at h;subst h;exact⟨rfl,by simp⟩
 |x::r,ds,h=>by
  simp only[Adq]at h;split at h
  ·rename_i y l hy hl;cases h;obtain⟨h1,h2⟩:=Aiv hl;refine⟨by simp[h1],fun i a b ha hb=>?_⟩;cases i with
   |zero=>simp at ha hb;subst ha;subst hb;exact Ba3 hy
   |succ i=>exact h2 i a b (by simpa using ha) (by simpa using hb)
  ·cases h
def B38:XV→XV
 |.agg cs=>match Adq cs with
  |some ds=>.d (.agg ds)
  |none=>.agg cs
 |x=>x
def Aw2(x:XV):Ya x.a (B38 x).a:=by
 cases x with
 |agg cs =>
  simp only[B38];split
  ·rename_i ds hd;obtain⟨hl,hc⟩:=Aiv hd;intro g w v hr;simp only[XV.a,XD.d]at hr⊢;cases hr with
   |agg _ vs hl2 hx =>
    refine .d _ _ (.agg _ vs (by rw[Gj,← hl,← Ah];exact hl2) fun i c u hi hu=>?_);rw[He,Bp1,Bp8]at hi;obtain⟨y,hy,rfl⟩:=hi;have Bg:i<cs.length:=by rw[hl];exact(Bp2.1 hy).1
    have h1:=hc i cs[i] y (Bpd Bg) hy g w u (hx i cs[i].a u (by rw[Lf,Bpd Bg];rfl) hu);cases h1 with
    |d _ _ h=>exact h
  ·exact .refl _
 |_=>exact .refl _
def Out.tidy(out:Out):Out:={ out with res:=B38 out.res }
def A1b{o:Oper}{rd:A2 (Operand×AV)}{X X':A5}{Bki:AV}(h:Bi P o rd X X' F res)(hle:Ya res Bki):Bi P o rd X X' F Bki :=
 fun nm Ej B g w a hr Au next Q hn=>h nm Ej B g w a hr Au next Q fun g' w' v h1 h2 h3=>hn g' w' v h1 h2 (hle g' w' v h3)
theorem Bp.tidy{o:Oper}{out:Out}(h:Bp P o st out):Bp P o st out.tidy:=by
 refine⟨h.Rr,?_,h.ol⟩;have:=h.op;have hle:=Aw2 out.res;show match out.Ur with|.none=>_|.look ks=>_|.put k c=>_|.all=>_|.lab=>_|.O7 k c=>_|.new os=>_
 cases he:out.Ur with
 |none=>rw[he]at this;exact⟨this.1,this.2.1,this.2.2.1,fun X=>A1b (this.2.2.2 X) hle⟩
 |look ks=>rw[he]at this;exact⟨this.1,this.2.1,this.2.2.1,fun X hX=>A1b (this.2.2.2 X hX) hle⟩
 |put k c=>rw[he]at this;exact⟨this.1,this.2.1,this.2.2.1,fun X hX=>A1b (this.2.2.2 X hX) hle⟩
 |all=>rw[he]at this;exact A1b this hle
 |lab=>rw[he]at this;exact⟨this.1,A1b this.2 hle⟩
 |O7 k c=>rw[he]at this;exact⟨this.1,A1b this.2 hle⟩
 |new os=>rw[he]at this;exact⟨this.1,A1b this.2 hle⟩
section
variable{P:Program}{R:Type}
def Ba4(P:Program)(st:Af)(t:TypeId)(x:Operand)(K:Out→A3 R):A3 R:=B09 P st t x fun out=>K out.tidy
def B6e{o:Oper}{K:Out→A3 R}{r:R}(ho:o.op = .load t x)(h:Ba4 P st t x K=some r):∃out,K out=some r∧Bp P o st out:=by obtain⟨out,h1,h2⟩:=B6c ho h;exact⟨_,h1,h2.tidy⟩
end
section
variable{P:Program}{R:Type}
def Ahb(P:Program)(ts:Array TypeId):Bool :=
 match ts[1]? with
 |some u=>match P.underlying u with
  |some .string=>true
  |_=>false
 |none=>false
def Arr(P:Program)(st:Af)(o:Oper)(ts:Array TypeId)(s x:Operand)(K:Out→A3 R):A3 R :=
 match ts[0]?,Ail o with
 |some t,some m =>
  match Fa P t,Av st s,xd st x with
  |some (e,sz,bytes),some (.Be n .u8 l oty),some (.s l') =>
    cond (Nat.beq sz 1) (cond (inl n st.live) (cond (Qy m (Qr n st.live) st) (cond (Aim oty e)
     (cond (Ao (l.length+l'.length) bytes) (K ⟨.lab,.Be m .u8 (l++l') oty,[(s,.Be n .u8 l oty),(x,.d (.s l'))],st.objs,m::Qr n st.live,[m],[]⟩) none) none) none) none) none
  |_,_,_=>none
 |_,_=>none
def B0c{o:Oper}{ts:Array TypeId}{s:Operand}{K:Out→A3 R}{r:R}(ho:o.op = .call { callee:=.builtin .append,args:=#[s,x],argTypes:=ts })(hb:Ahb P ts=true)(h:Arr P st o ts s x K=some r):∃out,K out=some r∧Bp P o st out:=by
 have hu:∃u,ts[1]? = some u∧P.underlying u=some .string:=by
  unfold Ahb at hb;split at hb
  ·rename_i u h1;split at hb
   ·rename_i h2;exact⟨u,h1,h2⟩
   ·cases hb
  ·cases hb
 obtain⟨u,hu1,hu2⟩:=hu;unfold Arr at h;split at h
 ·rename_i t m ht hm;split at h
  ·rename_i e sz bytes n l oty l' hsl hs hx;cases h1:Nat.beq sz 1 with
   |false=>simp[h1]at h
   |true =>
   cases h2:inl n st.live with
   |false=>simp[h1,h2]at h
   |true =>
   cases h3:Qy m (Qr n st.live) st with
   |false=>simp[h1,h2,h3]at h
   |true =>
   cases h4:Aim oty e with
   |false=>simp[h1,h2,h3,h4]at h
   |true =>
   cases h5:Ao (l.length+l'.length) bytes with
   |false=>simp[h1,h2,h3,h4,h5]at h
   |true =>
    simp only[h1,h2,h3,h4,h5,Bov]at h;have e1:=Boy h1;subst e1;obtain⟨f1,f2⟩:=Vw h3;obtain⟨b1,b2⟩:=Zz h5;obtain⟨hte,i,z,hi,Hc,hby,hz,hzs⟩:=C4 hsl;have hty:∀e',oty=some e'→e'=e:=by intro e' he;subst he;simp only[Aim]at h4;exact Boy h4
    refine⟨_,h,⟨?_,?_,fun _ _ _ h=>h⟩⟩
    ·intro p hp;simp only[Ay,Bp3,Bpz,Boz,Bpt,Bqy]at hp;rcases hp with rfl|rfl
     ·exact Aj hs
     ·exact A2h hx
    ·have := Ams (P := P) (X := st.X) (s := s) (x := x) (n := n) (sz := 1) (es := l.map Ty.u8.ds) (fs := A2g l') (l := l') (ty := oty) m ho ht hu1 hu2 hte hi hz hzs Hc Hc rfl ((Cx _ _).1 h2) f1 f2
       (by intro cs Rq c hc;rw[A2g]at Rq;obtain⟨y,_,rfl⟩:=Bpc.1 Rq;exact Ty.u8.Wg y c hc) (by rw[A2g,Bpl,Bpl,hby];exact b1) (by rw[A2g,Bpl,Bpl];exact b2) hty
     have e:l.map Ty.u8.ds++A2g l'=(l++l').map Ty.u8.ds:=by rw[Bpn];rfl
     rw[e]at this;exact⟨rfl,this⟩
  ·cases h
 ·cases h
end
def Ty.eqv:(t:Ty)→t.T→t.T→Bool
 |.int _,a,b=>decide ((a:Int)=b)
 |.u8,a,b=>decide ((a:UInt8)=b)
 |.str,a,b=>decide ((a:A2 UInt8)=b)
 |.pair s t,a,b=>s.eqv a.1 b.1&&t.eqv a.2 b.2
 |.st1 t,a,b=>t.eqv a b
 |_,_,_=>false
def Ty.key:Ty→Bool
 |.int _=>true
 |.u8=>true
 |.str=>true
 |.pair s t=>cond s.key t.key false
 |.st1 t=>t.key
 |_=>false
theorem Ty.Jq:∀(t:Ty) (a b:t.T),t.key=true→(t.eqv a b=true↔a=b)
 |.int _,a,b,_=>by simp[Ty.eqv]
 |.u8,a,b,_=>by simp[Ty.eqv]
 |.str,a,b,_=>by simp[Ty.eqv]
 |.pair s t,a,b,h=>by
  simp only[Ty.key]at h;cases hs:s.key with
  |false=>simp[hs]at h
  |true =>simp only[hs,Bov]at h;simp only[Ty.eqv,Bq4,s.Jq _ _ hs,t.Jq _ _ h,Prod.ext_iff]
 |.st1 t,a,b,h=>t.Jq a b h
 |.bool,_,_,h=>by simp[Ty.key]at h
 |.sl _,_,_,h=>by simp[Ty.key]at h
 |.unit,_,_,h=>by simp[Ty.key]at h
 |.tab _,_,_,h=>by simp[Ty.key]at h
 |.err,_,_,h=>by simp[Ty.key]at h
 |.ic _ _,_,_,h=>by simp[Ty.key]at h
 |.ptr,_,_,h=>by simp[Ty.key]at h
def Ty.U6:(t:Ty)→t.T→A2 Value
 |.int k,a=>[.int k a]
 |.u8,a=>[.int .u8 (a.toNat:Int)]
 |.str,a=>[.string ⟨a.toArray⟩]
 |.pair s t,a=>s.U6 a.1++t.U6 a.2
 |.st1 t,a=>t.U6 a
 |_,_=>[]
theorem Ty.Zb:∀(t:Ty) (a:t.T),t.key=true→t.ds a=(t.U6 a).map .sc
 |.int _,a,_=>rfl
 |.u8,a,_=>rfl
 |.str,a,_=>rfl
 |.pair s t,a,h=>by
  simp only[Ty.key]at h;cases hs:s.key with
  |false=>simp[hs]at h
  |true =>simp only[hs,Bov]at h;simp only[Ty.ds,Ty.U6,s.Zb _ hs,t.Zb _ h,Bpn]
 |.st1 t,a,h=>by simp only[Ty.ds,Ty.U6];exact t.Zb a h
 |.bool,_,h=>by simp[Ty.key]at h
 |.sl _,_,h=>by simp[Ty.key]at h
 |.unit,_,h=>by simp[Ty.key]at h
 |.tab _,_,h=>by simp[Ty.key]at h
 |.err,_,h=>by simp[Ty.key]at h
 |.ic _ _,_,h=>by simp[Ty.key]at h
 |.ptr,_,h=>by simp[Ty.key]at h
theorem Ty.Ab4:∀(t:Ty) (a:t.T),∀v∈t.U6 a,v.oneCell'=true
 |.int _,a=>by simp[Ty.U6,Value.oneCell']
 |.u8,a=>by simp[Ty.U6,Value.oneCell']
 |.str,a=>by simp[Ty.U6,Value.oneCell']
 |.pair s t,a=>by
  intro v hv;simp only[Ty.U6,Bp4]at hv;rcases hv with h|h
  ·exact s.Ab4 _ v h
  ·exact t.Ab4 _ v h
 |.st1 t,a=>by simp only[Ty.U6];exact t.Ab4 a
 |.bool,_=>by simp[Ty.U6]
 |.sl _,_=>by simp[Ty.U6]
 |.unit,_=>by simp[Ty.U6]
 |.tab _,_=>by simp[Ty.U6]
 |.err,_=>by simp[Ty.U6]
 |.ic _ _,_=>by simp[Ty.U6]
 |.ptr,_=>by simp[Ty.U6]
def Ty.Eh(t:Ty)(a:t.T):Value:=if t.agg then .agg (t.U6 a).toArray else (t.U6 a).headD undef
theorem Aw3:∀l:A2 Value,A2n.B30 (l.map .sc)=l
 |[]=>rfl
 |v::r=>by simp[A2n.B30,A2n,Aw3 r]
def Ty.Ahc(t:Ty)(a:t.T)(h:t.key=true):A2n (t.dv a)=t.Eh a:=by
 unfold Ty.Eh;cases hg:t.agg with
 |true =>rw[t.A14 a hg,t.Zb a h];simp[A2n,Aw3]
 |false =>
  have h1:=t.A15 a hg;rw[t.Zb a h]at h1;cases hk:t.U6 a with
  |nil=>rw[hk]at h1;simp at h1
  |cons v r =>rw[hk]at h1;simp only[Bp3,Bt7]at h1;rw[← h1.1];rfl
def Ty.B39(t:Ty)(a:t.T)(h:t.key=true):RD γ w (t.dv a) (t.Eh a):=by
 unfold Ty.Eh;cases hg:t.agg with
 |true =>
  rw[t.A14 a hg,t.Zb a h];simp only[Brg];refine .agg _ _ (by simp) fun i c v hc hv=>?_
  rw[Bp1]at hc;rw[Bsg]at hv;rw[hv]at hc;simp at hc;subst hc;exact .sc _
 |false =>
  have h1:=t.A15 a hg;rw[t.Zb a h]at h1;cases hk:t.U6 a with
  |nil=>rw[hk]at h1;simp at h1
  |cons v r =>rw[hk]at h1;simp only[Bp3,Bt7]at h1;rw[← h1.1];exact .sc _
def Bkj{v:Value}(h:RD γ w (.sc u) v):v=u:=by cases h;rfl
def Ty.A3t{t:Ty}{a:t.T}{v:Value}(h:t.key=true)(hr:RD γ w (t.dv a) v):v=t.Eh a:=by
 unfold Ty.Eh;cases hg:t.agg with
 |true =>
  rw[t.A14 a hg,t.Zb a h]at hr;simp only[Brg];cases hr with
  |agg _ vs hl hc =>
   congr 1;apply Array.ext
   ·simpa using hl.symm
   ·intro i h1 h2;have h3:i<(t.U6 a).length:=by simpa using h2
    have:=Bkj (hc i (.sc (t.U6 a)[i]) vs[i] (by simp[h3]) (by simp[h1]));simpa using this
 |false =>
  have h1:=t.A15 a hg;rw[t.Zb a h]at h1;cases hk:t.U6 a with
  |nil=>rw[hk]at h1;simp at h1
  |cons u r =>rw[hk]at h1;simp only[Bp3,Bt7]at h1;rw[← h1.1]at hr;cases hr;rfl
section
variable{P:Program}
def Qg(P:Program)(t:TypeId)(kt:Ty):Bool :=
 match P.underlying t with
 |some (.int k)=>match kt with
  |.int k'=>Le k' k
  |.u8=>Le .u8 k
  |_=>false
 |some .string=>match kt with
  |.str=>true
  |_=>false
 |_=>false
def P4(P:Program):Nat→Ty→A2 Field→Bool
 | off, kt, [f] => cond (Nat.beq f.offset off) (cond (decide (f.name = "_")) false (cond (Qg P f.type kt) (match tyI P f.type with | some (ag, sz) => cond (Nat.beq sz 1) (!ag) false | none => false) false)) false
 |off,kt,f::g::r=>match kt with
  | .pair a b => cond (Nat.beq f.offset off) (cond (decide (f.name = "_")) false (cond (Qg P f.type a) (match tyI P f.type with | some (ag, sz) => cond (Nat.beq sz 1) (cond ag false (P4 P (off + 1) b (g :: r))) false | none => false) false)) false
  |_=>false
 |_,_,[]=>false
def Aiw(P:Program)(t:TypeId)(kt:Ty):Bool :=
 cond (Qg P t kt) true (match P.underlying t with
  |some (.struct fs)=>cond (P.stoodInHeld t) false (cond (P.eqGuardType P.depth t) false (match fs.toList with
   |[f]=>match kt with
    |.st1 a=>P4 P 0 a [f]
    |_=>false
   |l=>P4 P 0 kt l))
  |some (.array 2 e)=>match P.underlying e,tyI P e,kt with
   |some (.int k),some (false,1),.pair (.int k1) (.int k2)=>cond (Le k1 k) (Le k2 k) false
   |_,_,_=>false
  |_=>false)
def Nv(h:Qg P t kt=true):kt.key=true∧kt.agg=false:=by
 unfold Qg at h;split at h
 ·split at h<;>first|exact⟨rfl,rfl⟩|cases h
 ·split at h<;>first|exact⟨rfl,rfl⟩|cases h
 ·cases h
def A8i(h:Qg P t kt=true):kt.size=1:=by
 unfold Qg at h;split at h
 ·split at h<;>first|rfl|cases h
 ·split at h<;>first|rfl|cases h
 ·cases h
def Aoc(h:Qg P t kt=true)(d:Nat)(a b:kt.T):eqS P (d+1) t (kt.enc a) (kt.enc b)=some (kt.eqv a b):=by
 unfold Qg at h;split at h
 ·rename_i k hu;split at h
  ·rename_i k';have:=Hd h;subst this;simp only[eqS,hu,Ty.enc];rw[show Le k' k'=true by cases k'<;>rfl,Bov];simp[Ty.eqv,BEq.beq]
  ·simp only[eqS,hu,Ty.enc];simp[Ty.eqv,BEq.beq]
  ·cases h
 ·rename_i hu;split at h
  ·simp only[eqS,hu,Ty.enc,Ty.eqv];congr 1;rw[Bqq];simp
  ·cases h
 ·cases h
def Aix(h:kt.size=1)(a:kt.T):(kt.enc a).length=1:=by rw[Ty.A86,h]
theorem Aod(d:Nat):∀(fl:A2 Field) (off:Nat) (kt:Ty) (a b:kt.T) (xs ys:A2 XD),P4 P off kt fl=true→xs.drop off=kt.enc a→ys.drop off=kt.enc b →
  eqS.Azn P (eqS P (d+1)) xs ys fl=some (kt.eqv a b)
 |[],_,_,_,_,_,_,h,_,_=>by simp[P4]at h
 |[f],off,kt,a,b,xs,ys,h,hx,hy=>by
  simp only[P4]at h;cases h1:Nat.beq f.offset off with
  |false=>simp[h1]at h
  |true =>
  have e1:=Boy h1;simp only[h1,Bov]at h
  cases h2 : decide (f.name = "_") with
  |true=>simp[h2]at h
  |false =>
  simp only[h2,Box]at h;cases h3:Qg P f.type kt with
  |false=>simp[h3]at h
  |true =>
  simp only[h3,Bov]at h;split at h
  ·rename_i ag sz ht;cases h4:Nat.beq sz 1 with
   |false=>simp[h4]at h
   |true =>
   have e4:=Boy h4;subst e4;unfold eqS.Azn;have e5:(xs.drop off).take 1=kt.enc a:=by rw[hx,Brc (by rw[Aix (A8i h3)];exact Bpa _)]
   have e6:(ys.drop off).take 1=kt.enc b:=by rw[hy,Brc (by rw[Aix (A8i h3)];exact Bpa _)]
   simp only[ht,h2,Box,e1,e5,e6,Aoc h3]
  ·cases h
 |f::g::r,off,kt,a,b,xs,ys,h,hx,hy=>by
  cases kt with
  |pair s t =>
   simp only[P4]at h;cases h1:Nat.beq f.offset off with
   |false=>simp[h1]at h
   |true =>
   have e1:=Boy h1;simp only[h1,Bov]at h
   cases h2 : decide (f.name = "_") with
   |true=>simp[h2]at h
   |false =>
   simp only[h2,Box]at h;cases h3:Qg P f.type s with
   |false=>simp[h3]at h
   |true =>
   simp only[h3,Bov]at h;split at h
   ·rename_i ag sz ht;cases h4:Nat.beq sz 1 with
    |false=>simp[h4]at h
    |true =>
    have e4:=Boy h4;subst e4;simp only[h4,Bov]at h;cases ag with
    |true=>simp at h
    |false =>
    simp only[Box]at h;have hs1:=Aix (A8i h3);have e5:(xs.drop off).take 1=s.enc a.1:=by rw[hx,Ty.enc,Btt (by rw[hs1];exact Bpa _),Brc (by rw[hs1];exact Bpa _)]
    have e6:(ys.drop off).take 1=s.enc b.1:=by rw[hy,Ty.enc,Btt (by rw[hs1];exact Bpa _),Brc (by rw[hs1];exact Bpa _)]
    have d1:xs.drop (off+1)=t.enc a.2:=by rw[← Bwb,hx,Ty.enc,Bsl (by rw[hs1];exact Bpa _),Bw3 (by rw[hs1];exact Bpa _)];rfl
    have d2:ys.drop (off+1)=t.enc b.2:=by rw[← Bwb,hy,Ty.enc,Bsl (by rw[hs1];exact Bpa _),Bw3 (by rw[hs1];exact Bpa _)];rfl
    have ih:=Aod d (g::r) (off+1) t a.2 b.2 xs ys h d1 d2;unfold eqS.Azn;simp only[ht,h2,Box,e1,e5,e6,Aoc h3,ih,Ty.eqv]
   ·cases h
  |_=>simp[P4]at h
theorem Adr:∀(fl:A2 Field) (off:Nat) (kt:Ty),P4 P off kt fl=true→kt.key=true
 |[],_,_,h=>by simp[P4]at h
 |[f],off,kt,h=>by
  simp only[P4]at h;cases h1:Nat.beq f.offset off with
  |false=>simp[h1]at h
  |true =>
  simp only[h1,Bov]at h
  cases h2 : decide (f.name = "_") with
  |true=>simp[h2]at h
  |false =>
  simp only[h2,Box]at h;cases h3:Qg P f.type kt with
  |false=>simp[h3]at h
  |true=>exact(Nv h3).1
 |f::g::r,off,kt,h=>by
  cases kt with
  |pair s t =>
   simp only[P4]at h;cases h1:Nat.beq f.offset off with
   |false=>simp[h1]at h
   |true =>
   simp only[h1,Bov]at h
   cases h2 : decide (f.name = "_") with
   |true=>simp[h2]at h
   |false =>
   simp only[h2,Box]at h;cases h3:Qg P f.type s with
   |false=>simp[h3]at h
   |true =>
   simp only[h3,Bov]at h;split at h
   ·rename_i ag sz ht;cases h4:Nat.beq sz 1 with
    |false=>simp[h4]at h
    |true =>
    simp only[h4,Bov]at h;cases ag with
    |true=>simp at h
    |false =>
    simp only[Box]at h;simp only[Ty.key,(Nv h3).1,Bov];exact Adr (g::r) (off+1) t h
   ·cases h
  |_=>simp[P4]at h
end
section
variable{P:Program}
def A00(h:Qg P t kt=true)(a:kt.T):∃kd v,P.underlying t=some kd∧kt.U6 a=[v]∧MapKept.IsKey kd v∧(∀b:kt.T,∃u,kt.U6 b=[u]∧Instr.sameNow kd v u=some (kt.eqv a b)):=by
 unfold Qg at h;split at h
 ·rename_i k hu;split at h
  ·rename_i k';have:=Hd h;subst this;refine⟨_,_,hu,rfl,?_,fun b=>⟨_,rfl,?_⟩⟩
   ·simp[MapKept.IsKey]
   ·simp[Instr.sameNow,Ty.eqv,BEq.beq]
  ·have:=Hd h;subst this;refine⟨_,_,hu,rfl,?_,fun b=>⟨_,rfl,?_⟩⟩
   ·simp[MapKept.IsKey]
   ·simp only[Instr.sameNow,Ty.eqv,Brg];congr 1;rw[Bqq];simp only[Btr,Bsf];exact Aqn
  ·cases h
 ·rename_i hu;split at h
  ·refine⟨_,_,hu,rfl,?_,fun b=>⟨_,rfl,?_⟩⟩
   ·simp[MapKept.IsKey]
   ·simp only[Instr.sameNow,Ty.eqv];congr 1;rw[Bqq,MapKept.bytes_beq];simp
  ·cases h
 ·cases h
theorem Aiy(w:World):∀(fl:A2 Field) (off:Nat) (kt:Ty) (a:kt.T) (cs:Array Value),P4 P off kt fl=true→cs.toList.drop off=kt.U6 a →
  ∀ f ∈ fl, f.name ≠ "_" ∧ ∃ v kd, (part f.type cs f.offset).run P w = .ok v w ∧ P.underlying f.type = some kd ∧ MapKept.IsKey kd v
 |[],_,_,_,_,h,_=>by simp[P4]at h
 |[f],off,kt,a,cs,h,hx=>by
  simp only[P4]at h;cases h1:Nat.beq f.offset off with
  |false=>simp[h1]at h
  |true =>
  have e1:=Boy h1;simp only[h1,Bov]at h
  cases h2 : decide (f.name = "_") with
  |true=>simp[h2]at h
  |false =>
  simp only[h2,Box]at h;cases h3:Qg P f.type kt with
  |false=>simp[h3]at h
  |true =>
  simp only[h3,Bov]at h;split at h
  ·rename_i ag sz ht;cases h4:Nat.beq sz 1 with
   |false=>simp[h4]at h
   |true =>
   have e4:=Boy h4;subst e4;simp only[h4,Bov,Btc]at h;subst h;obtain⟨kd,v,k1,k2,k3,_⟩:=A00 h3 a;intro g hg;simp only[Bpg]at hg;subst hg;rw[k2]at hx;have Bg:off<cs.size:=by have:=Bpj List.length hx;simp at this;omega
   have hv:cs[off]=v:=by have:=Bqe (l:=cs.toList) (i:=off) (by simpa using Bg);rw[hx]at this;simpa using(Bwh this).1.symm
   refine⟨of_decide_eq_false h2,v,kd,?_,k1,k3⟩;have:=Wo (Ym ht) cs off w (fun _=>⟨Bg,by omega⟩);rw[e1,this];congr 1;simp[Kp,Array.getD,hv,show 0<min (off+1) cs.size-off by omega]
  ·cases h
 |f::g::r,off,kt,a,cs,h,hx=>by
  cases kt with
  |pair s t =>
   simp only[P4]at h;cases h1:Nat.beq f.offset off with
   |false=>simp[h1]at h
   |true =>
   have e1:=Boy h1;simp only[h1,Bov]at h
   cases h2 : decide (f.name = "_") with
   |true=>simp[h2]at h
   |false =>
   simp only[h2,Box]at h;cases h3:Qg P f.type s with
   |false=>simp[h3]at h
   |true =>
   simp only[h3,Bov]at h;split at h
   ·rename_i ag sz ht;cases h4:Nat.beq sz 1 with
    |false=>simp[h4]at h
    |true =>
    have e4:=Boy h4;subst e4;simp only[h4,Bov]at h;cases ag with
    |true=>simp at h
    |false =>
    simp only[Box]at h;obtain⟨kd,v,k1,k2,k3,_⟩:=A00 h3 a.1;rw[Ty.U6,k2]at hx;have Bg:off<cs.size:=by have:=Bpj List.length hx;simp at this;omega
    have hc:=Bqe (l:=cs.toList) (i:=off) (by simpa using Bg);rw[hx,Bup]at hc;have hv:cs[off]=v:=by simpa using(Bwh hc).1.symm
    intro q hq;rcases Boz.1 hq with rfl|hq
    ·refine⟨of_decide_eq_false h2,v,kd,?_,k1,k3⟩;have:=Wo (Ym ht) cs off w (fun _=>⟨Bg,by omega⟩);rw[e1,this];congr 1;simp[Kp,Array.getD,hv,show 0<min (off+1) cs.size-off by omega]
    ·exact Aiy w (g::r) (off+1) t a.2 cs h (Bwh hc).2.symm q hq
   ·cases h
  |_=>simp[P4]at h
inductive A2o(P:Program)(t:TypeId)(kt:Ty):Prop where
 |sc:Qg P t kt=true→A2o P t kt
 |st (fs:Array Field) (k:Ty) (e:kt.T=k.T):P.underlying t=some (.struct fs)→P.stoodInHeld t=false→P.eqGuardType P.depth t=false→P4 P 0 k fs.toList=true→kt.agg=true →
   (∀a:kt.T,kt.U6 a=k.U6 (cast e a))→(∀a:kt.T,kt.enc a=k.enc (cast e a))→(∀a b:kt.T,kt.eqv a b=k.eqv (cast e a) (cast e b))→kt.key=true→A2o P t kt
 |ar (e:TypeId) (k:IntKind):P.underlying t=some (.array 2 e)→P.underlying e=some (.int k)→TyI P e false 1→kt = .pair (.int k) (.int k)→A2o P t kt
def Ba5(h:Aiw P t kt=true):A2o P t kt:=by
 unfold Aiw at h;cases hs:Qg P t kt with
 |true=>exact .sc hs
 |false =>
  simp only[hs,Box]at h;split at h
  ·rename_i fs hu;cases h1:P.stoodInHeld t with
   |true=>simp[h1]at h
   |false =>
   cases h2:P.eqGuardType P.depth t with
   |true=>simp[h1,h2]at h
   |false =>
   simp only[h1,h2,Box]at h;split at h
   ·rename_i f hf;split at h
    ·rename_i a;exact .st fs a rfl hu h1 h2 (by rw[hf];exact h) rfl (fun _=>rfl) (fun _=>rfl) (fun _ _=>rfl) (by simp only[Ty.key];exact Adr _ _ _ h)
    ·cases h
   ·rename_i l hl;have hg:kt.agg=true:=by
     cases hfl:fs.toList with
     |nil=>rw[hfl]at h;simp[P4]at h
     |cons f r =>
      cases r with
      |nil=>exact absurd hfl (hl f)
      |cons g r =>rw[hfl]at h;cases kt<;>simp[P4]at h;rfl
    exact .st fs kt rfl hu h1 h2 h hg (fun _=>rfl) (fun _=>rfl) (fun _ _=>rfl) (Adr _ _ _ h)
  ·rename_i e hu;split at h
   ·rename_i k k1 k2 hk ht;cases h1:Le k1 k with
    |false=>simp[h1]at h
    |true =>simp only[h1,Bov]at h;have e1:=Hd h1;have e2:=Hd h;subst e1;subst e2;exact .ar e _ hu hk (Ym ht) rfl
   ·cases h
  ·cases h
theorem A2o.key(h:A2o P t kt):kt.key=true:=by
 cases h with
 |sc h=>exact(Nv h).1
 |st fs k e hu h1 h2 h3 hg hk he hq S8=>exact S8
 |ar e k hu hk ht h=>subst h;rfl
def Ads(ht:TyI P e false 1)(a b:Value)(w:World):(part e #[a,b] 0).run P w = .ok a w∧(part e #[a,b] 1).run P w = .ok b w:=by
 refine⟨?_,?_⟩
 ·have:=Wo ht #[a,b] 0 w (fun _=>⟨by simp,by simp⟩);rw[this];rfl
 ·have:=Wo ht #[a,b] 1 w (fun _=>⟨by simp,by simp⟩);rw[this];rfl
def A2o.check(h:A2o P t kt)(em:Bool)(n:Nat)(a:kt.T)(w:World):(Instr.checkKey em (n+2) t (kt.Eh a)).run P w = .ok () w:=by
 cases h with
 |sc h =>
  obtain⟨kd,v,k1,k2,k3,_⟩:=A00 h a;have:kt.Eh a=v:=by unfold Ty.Eh;rw[(Nv h).2,k2];rfl
  rw[this];exact Buv k1 k3 em (n+1)
 |st fs k e hu h1 h2 h3 hg hk he hq S8 =>
  have:kt.Eh a = .agg (k.U6 (cast e a)).toArray:=by unfold Ty.Eh;rw[hg,hk];rfl
  rw[this,show n+2=(n+1)+1 from rfl,Instr.checkKey];simp only[Bq5,Bpb hu,Bpr];rw[← Array.forIn_toList];have each:=Aiy (P:=P) w fs.toList 0 k (cast e a) (k.U6 (cast e a)).toArray h3 (by simp);generalize fs.toList=L at each;induction L with
  |nil=>simp
  |cons f L ih =>obtain⟨hn,v,kd,p1,k1,k3⟩:=each f (by simp);have p2:=Buv (w:=w) k1 k3 em n;simp only[Bvz,Bq5,hn,ne_eq,not_false_eq_true,Brg,Bpr,p1,p2,Bsm];exact ih (fun y hy=>each y (by simp[hy]))
 |ar e k hu hk ht h =>
  subst h;obtain⟨a1,a2⟩:=a;have e1:(Ty.pair (.int k) (.int k)).Eh (a1,a2) = .agg #[.int k a1,.int k a2]:=rfl;obtain⟨p1,p2⟩:=Ads ht (.int k a1) (.int k a2) w;have c1:∀x,(Instr.checkKey em (n+1) e (.int k x)).run P w = .ok () w:=fun x=>Buv (d:=.int k) hk (by simp[MapKept.IsKey]) em n
  have hs:(sizeOf e).run P w = .ok 1 w:=ht.Zr w;rw[e1,show n+2=(n+1)+1 from rfl,Instr.checkKey];simp only[Bq5,Bpb hu,Bpr];simp only[Bu7,Std.Legacy.Range.size,Bs3,Bsu,Nat.div_one,Bth,List.range'_zero,Bvz,List.forIn_nil];simp[hs,p1,p2,c1]
def K5(kt:Ty)(a:kt.T):List kt.T→A3 Nat
 |[]=>none
 |b::r=>if kt.eqv a b then some 0 else (K5 kt a r).map (· + 1)
theorem A1c{kt:Ty}{a:kt.T}:∀ {l:List kt.T} {i:Nat},K5 kt a l=some i→i<l.length
 |[],i,h=>by simp[K5]at h
 |b::r,i,h=>by
  simp only[K5]at h;split at h
  ·cases h;simp
  ·obtain⟨j,hj,rfl⟩:=Bp8.1 h;have:=A1c hj;simp;omega
theorem Ars{kt:Ty}{a:kt.T}(hk:kt.key=true):∀ {l:List kt.T} {i:Nat},K5 kt a l=some i→l[i]? = some a
 |[],i,h=>by simp[K5]at h
 |b::r,i,h=>by
  simp only[K5]at h;split at h
  ·rename_i hb;cases h;rw[(kt.Jq a b hk).1 hb];rfl
  ·obtain⟨j,hj,rfl⟩:=Bp8.1 h;simpa using Ars hk hj
theorem A2o.equal(h:A2o P t kt)(a b:kt.T)(w:World)(γ:Nat→Nat):kt.agg=true→(Op.equal t (kt.Eh a) (kt.Eh b)).run P w = .ok (kt.eqv a b) w:=by
 intro A6u;cases h with
 |sc h=>rw[(Nv h).2]at A6u;cases A6u
 |st fs k e hu h1 h2 h3 hg hk he hq S8 =>
  have hs:eqS P 2 t (kt.enc a) (kt.enc b)=some (kt.eqv a b):=by unfold eqS;rw[hu];simp only[h1,Box];rw[he,he,hq];exact Aod 0 fs.toList 0 k _ _ _ _ h3 rfl rfl
  have vr:∀c:kt.T,VR γ w (kt.enc c) (kt.U6 c).toArray:=fun c=>by
   have e1:=kt.Mu c;rw[kt.Zb c S8,He]at e1;have hl:=Bpj List.length e1;simp only[Bpl]at hl;refine⟨by simpa using hl,fun i x v hx hv=>?_⟩;have e2:=Bpj (·[i]?) e1;simp only[Bp1,hx,Bq8]at e2;rw[Bsg]at hv;rw[hv]at e2;simp only[Bq8,Bp0]at e2;rw[e2];exact .sc _
  have:=Aqx (P:=P) (γ:=γ) (w:=w) 2 t (kt.enc a) (kt.enc b) _ _ _ 9998 _ hs hu (vr a) (vr b);simp only[Aa5,Kp,Brg]at this;have kv:∀c:kt.T,kt.Eh c = .agg (kt.U6 c).toArray:=fun c=>by unfold Ty.Eh;rw[hg];rfl
  rw[kv,kv];exact this
 |ar e k hu hk ht h =>
  subst h;obtain⟨a1,a2⟩:=a;obtain⟨b1,b2⟩:=b;have e1:∀x y,(Ty.pair (.int k) (.int k)).Eh (x,y) = .agg #[.int k x,.int k y]:=fun _ _=>rfl
  have hs:(sizeOf e).run P w = .ok 1 w:=ht.Zr w;obtain⟨p1,p2⟩:=Ads ht (.int k a1) (.int k a2) w;obtain⟨q1,q2⟩:=Ads ht (.int k b1) (.int k b2) w;have c:∀x y,(Op.equalIn 9999 e (.int k x) (.int k y)).run P w = .ok (x==y) w:=fun x y=>Bu9 w 9998 e k k x y hk
  rw[e1,e1];show(Op.equalIn (9999+1) t _ _).run P w=_;rw[Op.equalIn];simp only[Bq5,Bpb hu,Bpr];simp only[Bu7,Std.Legacy.Range.size,Bs3,Bsu,Nat.div_one,Bth,List.range'_zero,Bvz,List.forIn_nil];simp[hs,p1,p2,q1,q2,c,Ty.eqv];cases h1:decide (a1=b1)<;>cases h2:decide (a2=b2)<;>simp_all
theorem A7n{t:TypeId}{kt:Ty}(h:Qg P t kt=true)(a:kt.T){kd:TypeDesc}(hu:P.underlying t=some kd):∀(ks:List kt.T) (es:A2 MapEntry) (i:Nat),es.map (·.key)=ks.map kt.Eh →
  Instr.findNow kd (kt.Eh a) es i=some ((K5 kt a ks).bind fun j=>es[j]?.map fun e=>(i+j,e.val))
 |[],[],i,_=>rfl
 |[],_::_,_,he=>by simp at he
 |_::_,[],_,he=>by simp at he
 |b::ks,e::es,i,he=>by
  simp only[Bp3,Bt7]at he;obtain⟨kd',v,k1,k2,k3,k4⟩:=A00 h a;have:=Brf (hu.symm.trans k1);subst this;obtain⟨u,k5,k6⟩:=k4 b;have e1:kt.Eh a=v:=by unfold Ty.Eh;rw[(Nv h).2,k2];rfl
  have e2:e.key=u:=by rw[he.1];unfold Ty.Eh;rw[(Nv h).2,k5];rfl
  unfold Instr.findNow K5;rw[e1,e2,k6];cases hq:kt.eqv a b with
  |true=>simp
  |false =>
   have ih:=A7n h a hu ks es (i+1) he.2;rw[e1]at ih;simp only[ih];cases K5 kt a ks with
   |none=>rfl
   |some j=>simp[Bs6,Bsy 1 j]
theorem A01{t:TypeId}{kt:Ty}(h:A2o P t kt)(hg:kt.agg=true)(a:kt.T)(w:World):∀(ks:List kt.T) (es:A2 MapEntry) (i:Nat),es.map (·.key)=ks.map kt.Eh →
  (Instr.findAsking t (kt.Eh a) es i).run P w = .ok ((K5 kt a ks).bind fun j=>es[j]?.map fun e=>(i+j,e.val)) w
 |[],[],i,_=>by simp[Instr.findAsking,K5]
 |[],_::_,_,he=>by simp at he
 |_::_,[],_,he=>by simp at he
 |b::ks,e::es,i,he=>by
  simp only[Bp3,Bt7]at he;have hq:=h.equal a b w (fun _=>0) hg;unfold Instr.findAsking K5;rw[he.1,Bq5,hq,Bpr];cases hb:kt.eqv a b with
  |true=>simp
  |false =>
   have ih:=A01 h hg a w ks es (i+1) he.2;simp only[Bqs,Bre,ih];cases K5 kt a ks with
   |none=>rfl
   |some j=>simp[Bs6,Bsy 1 j]
def A2o.find(h:A2o P t kt)(a:kt.T)(w:World)(ks:List kt.T)(es:A2 MapEntry)(he:es.map (·.key)=ks.map kt.Eh) :
  (Instr.findKey t (kt.Eh a) es).run P w = .ok ((K5 kt a ks).bind fun j=>es[j]?.map fun e=>(j,e.val)) w:=by
 cases hg:kt.agg with
 |true =>
  have hw:(match P.underlying t with|some (.array _ _)|some (.struct _)=>true|_=>false)=true:=by
   cases h with
   |sc h=>rw[(Nv h).2]at hg;cases hg
   |st fs k e hu _ _ _ _ _ _ _ _=>rw[hu]
   |ar e k hu _ _ _=>rw[hu]
  rw[run_findKey_eq w hw];have:=A01 h hg a w ks es 0 he;simpa using this
 |false =>
  cases h with
  |sc h =>obtain⟨kd,v,k1,k2,k3,k4⟩:=A00 h a;have:=A7n h a k1 ks es 0 he;have:=MapKept.run_findKey (w:=w) k1 this;simpa using this
  |st fs k e hu h1 h2 h3 hg' hk he' hq S8=>rw[hg']at hg;cases hg
  |ar e k hu hk ht h=>subst h;cases hg
def Ab5:∀(n:Nat) (v:Value),v.oneCell'=true→(∃k x,v = .int k x)∨(∃s,v = .string s)→Instr.sameBits n v v=true
 |n,v,_,h=>by
  rcases h with ⟨k,x,rfl⟩|⟨s,rfl⟩
  ·cases n<;>simp[Instr.sameBits]
  ·cases n<;>simp[Instr.sameBits,MapKept.bytes_beq]
theorem Ty.Aiz:∀(t:Ty) (a:t.T),∀v∈t.U6 a,(∃k x,v = .int k x)∨(∃s,v = .string s)
 |.int k,a=>by simp[Ty.U6]
 |.u8,a=>by simp[Ty.U6]
 |.str,a=>by simp[Ty.U6]
 |.pair s t,a=>by
  intro v hv;simp only[Ty.U6,Bp4]at hv;rcases hv with h|h
  ·exact s.Aiz _ v h
  ·exact t.Aiz _ v h
 |.st1 t,a=>by simp only[Ty.U6];exact t.Aiz a
 |.bool,_=>by simp[Ty.U6]
 |.sl _,_=>by simp[Ty.U6]
 |.unit,_=>by simp[Ty.U6]
 |.tab _,_=>by simp[Ty.U6]
 |.err,_=>by simp[Ty.U6]
 |.ic _ _,_=>by simp[Ty.U6]
 |.ptr,_=>by simp[Ty.U6]
def A2o.stays(h:A2o P t kt)(a:kt.T)(w:World):(Instr.keyThatStays (kt.Eh a) (kt.Eh a)).run P w = .ok (kt.Eh a) w:=by
 have hb:Instr.sameBits 10000 (kt.Eh a) (kt.Eh a)=true:=by
  cases hg:kt.agg with
  |true =>
   have:kt.Eh a = .agg (kt.U6 a).toArray:=by unfold Ty.Eh;rw[hg];rfl
   rw[this];show Instr.sameBits (9999+1) _ _=true;simp only[Instr.sameBits,Bs4,Bsn,Bqb];intro p hp;obtain⟨i,hi,e⟩:=Bv0 hp;rw[List.getElem_zip]at e;rw[← e];simp only[];have hm:(kt.U6 a).toArray.toList[i]'(by simpa using hi)∈kt.U6 a:=by simp
   exact Ab5 9999 _ (kt.Ab4 a _ hm) (kt.Aiz a _ hm)
  |false =>
   cases h with
   |sc h =>
    obtain⟨kd,v,k1,k2,k3,_⟩:=A00 h a;have:kt.Eh a=v:=by unfold Ty.Eh;rw[(Nv h).2,k2];rfl
    rw[this];exact Ab5 _ _ (kt.Ab4 a v (by rw[k2];simp)) (kt.Aiz a v (by rw[k2];simp))
   |st fs k e hu h1 h2 h3 hg' hk he' hq S8=>rw[hg']at hg;cases hg
   |ar e k hu hk ht h=>subst h;cases hg
 simp[Instr.keyThatStays,hb]
end
noncomputable abbrev G0(kt vt:Ty):Type:=A2 (Nat×kt.T×vt.T)
def Ml{kt vt:Ty}(a:kt.T):G0 kt vt→Option vt.T
 |[]=>none
 |e::r=>bif kt.eqv a e.2.1 then some e.2.2 else Ml a r
def Mm{kt vt:Ty}(a:kt.T)(v:vt.T)(clock:Nat):G0 kt vt→G0 kt vt
 |[]=>[(clock,a,v)]
 |e::r=>bif kt.eqv a e.2.1 then (e.1,a,v)::r else e::Mm a v clock r
def Rt{kt vt:Ty}(a:kt.T)(es:G0 kt vt)(clock:Nat):Nat:=match Ml a es with|some _=>clock|none=>clock+1
section
variable{kt vt:Ty}
theorem Adt(a:kt.T):∀es:G0 kt vt,Ml a es=(K5 kt a (es.map (·.2.1))).bind fun j=>es[j]?.map (·.2.2)
 |[]=>rfl
 |e::r=>by
  simp only[Ml,Bp3,K5];cases kt.eqv a e.2.1 with
  |true=>rfl
  |false =>simp only[Box,Bqs,Bre,Adt a r];cases K5 kt a (r.map (·.2.1))<;>simp
theorem Adu{a:kt.T}{v:vt.T}{clock:Nat}:∀ {es:G0 kt vt},K5 kt a (es.map (·.2.1))=none→Mm a v clock es=es++[(clock,a,v)]
 |[],_=>rfl
 |e::r,h=>by
  simp only[Bp3,K5]at h;split at h
  ·cases h
  ·rename_i hq;simp only[Option.map_eq_none_iff]at h;simp only[Mm,Bool.not_eq_true]at hq⊢;rw[hq,Box,Adu h];rfl
theorem Adv{a:kt.T}{v:vt.T}{clock:Nat}:∀ {es:G0 kt vt} {j:Nat},K5 kt a (es.map (·.2.1))=some j→Mm a v clock es=es.modify j fun e=>(e.1,a,v)
 |[],j,h=>by simp[K5]at h
 |e::r,j,h=>by
  simp only[Bp3,K5]at h;split at h
  ·rename_i hq;cases h;simp only[Mm,hq,Bov];rfl
  ·rename_i hq;obtain⟨i,hi,rfl⟩:=Bp8.1 h;simp only[Mm,Bool.not_eq_true]at hq⊢;rw[hq,Box,Adv hi];rfl
def Aoe(a:kt.T)(es:G0 kt vt)(clock:Nat):Rt a es clock=match K5 kt a (es.map (·.2.1)) with|some _=>clock|none=>clock+1:=by
 unfold Rt;rw[Adt];cases h:K5 kt a (es.map (·.2.1)) with
 |none=>rfl
 |some j =>have hj:=A1c h;simp only[Bpl]at hj;simp[hj]
noncomputable abbrev A6v(kt vt:Ty)(es:G0 kt vt)(clock:Nat):Ob:=(A9.map kt vt es clock).o
structure Agx(kt vt:Ty)(g:Gh)(w:World)(b:Nat)(es:G0 kt vt)(clock:Nat)(C2:Array MapEntry):Prop where
 heap:w.heap[b]? = some (.map C2 clock)
 len:es.length=C2.size
 keys:C2.toList.map (·.key)=(es.map (·.2.1)).map kt.Eh
 at':∀(i:Nat) x e,es[i]? = some x→C2[i]? = some e→e.born=x.1∧e.key=kt.Eh x.2.1∧RD g.γ w (vt.dv x.2.2) e.val
 lt:∀p∈es,p.1<clock
 nodup:(es.map (·.1)).Nodup
def A1d{b:Nat}{es:G0 kt vt}(hk:kt.key=true)(h:Bv g w b (A6v kt vt es clock)):∃C2,Agx kt vt g w b es clock C2:=by
 cases h with
 |map l c C2 h1 h2 h3 h4 h5 =>
  have hat:∀(i:Nat) x e,es[i]? = some x→C2[i]? = some e→e.born=x.1∧e.key=kt.Eh x.2.1∧RD g.γ w (vt.dv x.2.2) e.val:=by intro i x e hx he;have:=h3 i (x.1,A2n (kt.dv x.2.1),vt.dv x.2.2) e (by rw[Bp1,hx];rfl) he;rw[kt.Ahc _ hk]at this;exact this
  have hlen:es.length=C2.size:=by simpa using h2
  refine⟨C2,h1,hlen,?_,hat,?_,?_⟩
  ·apply Bsc;intro i;rw[Bp1,Bp1,Bp1,Br7];by_cases hi:i<C2.size
   ·have M9:i<es.length:=by omega
    rw[Bpq hi,Bpd M9];have:=(hat i es[i] C2[i] (by simp[M9]) (by simp[hi])).2.1;simp[this]
   ·rw[Bs8 (by omega),Bqz (by omega)];rfl
  ·intro p hp;exact h4 (p.1,A2n (kt.dv p.2.1),vt.dv p.2.2) (Bpe (f:=fun e:Nat×kt.T×vt.T=>(e.1,A2n (kt.dv e.2.1),vt.dv e.2.2)) hp)
  ·simpa[Brv,Bsd]using h5
def Agx.rel{b:Nat}{es:G0 kt vt}{C2:Array MapEntry}(hk:kt.key=true)(h:Agx kt vt g w b es clock C2):Bv g w b (A6v kt vt es clock):=by
 refine .map _ clock C2 h.heap (by simpa using h.len) ?_ ?_ ?_
 ·intro i x e hx he;rw[Bp1,Bp8]at hx;obtain⟨y,hy,rfl⟩:=hx;have:=h.at' i y e hy he;simp only[kt.Ahc _ hk];exact this
 ·intro p hp;rw[Bpc]at hp;obtain⟨y,hy,rfl⟩:=hp;exact h.lt y hy
 ·simpa[Brv,Bsd]using h.nodup
end
section
variable{P:Program}{o:Oper}{X:A5}{kt vt:Ty}
def B0d(k:Nat)(ho:o.op = .makeMap t none)(hk:X.objs.lookup k=none)(hX:B1 [k] X=true) :
  Bi P o [] X ⟨(k,A6v kt vt [] 0)::X.objs,X.live⟩ [k] (.mp k):=by
 intro nm Ej B g w a hr Au next Q hn
 obtain⟨h1,h2⟩:=hr.newObj hk hX (.map #[] 0) (A6v kt vt [] 0) (by
  intro g' w' _ hw;exact .map [] 0 #[] hw rfl (by simp) (by simp) (by simp))
 unfold Oper.wp;have:(execOp a.eval o).run P w = .ok (.value (.map (some w.heap.size))) (w.alloc (.map #[] 0)):=by simp[execOp,ho,Instr.makeMap]
 rw[this];refine hn _ _ _ h1 h2 (.nm _ _ _ ?_);show Value.map (some w.heap.size) = .map (some (O6 g.ρ k w.heap.size k));rw[Ac]
structure Aw4(P:Program)(t:TypeId)(kt vt:Ty)(e:TypeId):Prop where
 und:∃k,P.underlying t=some (.map k e)∧A2o P k kt
variable{C2:Array MapEntry}{i:TypeInfo}
theorem Agx.find{b:Nat}{es:G0 kt vt}{k:TypeId}(h:Agx kt vt g w b es clock C2)(hk:A2o P k kt)(a:kt.T) :
  (Instr.findKey k (kt.Eh a) C2.toList).run P w = .ok ((K5 kt a (es.map (·.2.1))).bind fun j=>C2[j]?.map fun e=>(j,e.val)) w:=by
 have:=hk.find a w (es.map (·.2.1)) C2.toList h.keys;simpa[Br7]using this
def A1e:Value→Bool
 |.agg _=>true
 |_=>false
def B3a{l:A2 Value}{z:vt.T}(h:Ais P e vt=some (l,z))(hi:P.info? e=some i)(hz:i.zero=some zv)(hg:A1e zv=vt.agg):RD γ w (vt.dv z) zv:=by
 obtain⟨h1,h2⟩:=Ba2 h;obtain⟨i',zv',e1,e2,e3⟩:=Arq h1;rw[hi]at e1;cases e1;rw[hz]at e2;cases e2;cases hv:vt.agg with
 |true =>
  rw[vt.A14 z hv];rw[hv]at hg;cases zv with
  |agg vs =>
   have e4:vs.toList=l:=e3;have hl:=h2.length;refine .agg _ vs ?_ fun j c u hc hu=>?_
   ·rw[← hl,Bpl,← e4,Brk]
   ·obtain⟨x,hx,hle⟩:=h2.get hc;rw[Bp1,← e4,Br7,hu]at hx;simp only[Bq8,Bp0]at hx;subst hx;exact hle _ _ _ (.sc u)
  |_=>simp[A1e]at hg
 |false =>
  rw[hv]at hg;have hc:zv.cells=#[zv]:=Lc fun cs he=>by subst he;simp[A1e]at hg
  rw[hc]at e3;have e4:l=[zv]:=by simpa using e3.symm
  subst e4;have h3:=vt.A15 z hv;rw[h3]at h2;cases h2 with
  |cons h4 _=>exact h4 _ _ _ (.sc zv)
def Art{vt:Ty}(ok:Bool)(x:Option vt.T)(z:vt.T):AV:=match x with
 |some v=>if ok then .F2 [.d (vt.dv v),.d (.bool true)]else .d (vt.dv v)
 |none=>if ok then .F2 [.d (vt.dv z),.d (.bool false)]else .d (vt.dv z)
def A8j{v:vt.T}(h:RD g.γ w (vt.dv v) u):RA g w (if ok then .F2 [.d (vt.dv v),.d (.bool b)]else .d (vt.dv v)) (if ok then .tuple #[u,.bool b]else u):=by
 cases ok with
 |false=>exact .d _ _ h
 |true =>
  refine .F2 _ _ rfl fun i c x hc hx=>?_
  rcases i with _|_|i
  ·simp at hc hx;subst hc;subst hx;exact .d _ _ h
  ·simp at hc hx;subst hc;subst hx;exact .H4 _ _ _
  ·simp at hc
def B6f{es:G0 kt vt}{a:kt.T}{l:A2 Value}{z:vt.T}(ho:o.op = .lookup t x y ok)(hm:Aw4 P t kt vt e)
  (hz:Ais P e vt=some (l,z)) (hi:P.info? e=some i) (hzv:i.zero=some zv) (hg:A1e zv=vt.agg) (hk:X.objs.lookup k=some (A6v kt vt es clock)) :
  Bi P o [(x,.mp k),(y,.d (kt.dv a))] X X [] (Art ok (Ml a es) z) :=
 .quiet fun _ _ g w ac hr Au=>by
  obtain⟨kty,hu,hK⟩:=hm.und;have h1:=(Is Au).Ad1;have h2:ac.eval y=kt.Eh a:=by
   have:=Y4 Au;cases this with
   |d _ _ h=>exact kt.A3t hK.key h
  simp only at h1;obtain⟨C2,hw⟩:=A1d hK.key (hr.objs k _ hk);have hf:=hw.find hK a;have hc:=hK.check C2.isEmpty 9998 a w;have Pt:=Bry (P:=P) hw.heap;rw[Adt];cases hj:K5 kt a (es.map (·.2.1)) with
  |none =>rw[hj]at hf;simp only[Bti]at hf;refine⟨if ok then .tuple #[zv,.bool false]else zv,?_,A8j (B3a hz hi hzv hg)⟩;simp only[execOp,ho,h1,h2,Instr.lookup,Bq5,Bpb hu,Bpr,Bsm,Pt,hc,hf];simp[zeroValue,typeInfo,hi,hzv]
  |some j =>
   have Gb:=A1c hj;rw[Bpl]at Gb;have hja:j<C2.size:=by rw[← hw.len];exact Gb
   rw[hj]at hf;simp only[Bow,Bpq hja,Bq8]at hf;simp only[Bow,Bpd Gb,Bq8];refine⟨if ok then .tuple #[C2[j].val,.bool true]else C2[j].val,?_,A8j (hw.at' j es[j] C2[j] (by simp[Gb]) (by simp[hja])).2.2⟩;simp[execOp,ho,h1,h2,Instr.lookup,Bq5,Bpb hu,Bpr,Bsm,Pt,hc,hf]
def Ab6{b:Nat}(hb:w.heap[b]? = some (.map C2 clock))(ob:Obj):(setObj b ob).run P w = .ok () { w with heap:=w.heap.setIfInBounds b ob }:=MapKept.run_setObj_map ob hb
def HR.Aw5{nm:A2 Nat}{B:B8}(hr:HR nm B g w X){es es':G0 kt vt}{clock':Nat}{as':Array MapEntry}(S8:kt.key=true)(hk:X.objs.lookup k=some (A6v kt vt es clock))
  (hw:Agx kt vt g w (g.ρ k) es clock C2)
  (hn:∀w',Trans [] g w g w'→w'.heap[g.ρ k]? = some (.map as' clock')→Agx kt vt g w' (g.ρ k) es' clock' as') :
  HR nm B g { w with heap:=w.heap.setIfInBounds (g.ρ k) (.map as' clock') } ⟨Ab.setObj k (A6v kt vt es' clock') X.objs,X.live⟩∧Trans [] g w g { w with heap:=w.heap.setIfInBounds (g.ρ k) (.map as' clock') }:=by
 have Bg:g.ρ k<w.heap.size:=(Bpo.1 hw.heap).1;exact hr.write (w':={ w with heap:=w.heap.setIfInBounds (g.ρ k) (.map as' clock') }) (o':=A6v kt vt es' clock') hk (by simp) ⟨rfl,rfl,rfl,Bpa _⟩
  (by intro b Fp;simp[Brl Fp]) (fun ht=>(hn _ ht (by simp[Bg])).rel S8) (by
   intro sh hsh;simp[World.shape?,hw.heap]at hsh)
theorem R0{α:Type}(f:α→Nat)(g:α→α)(hfg:∀x,f (g x)=f x):∀(l:A2 α) (j:Nat),((l.modify j g).map f)=l.map f
 |[],j=>by cases j<;>rfl
 |x::r,0=>by simp[hfg]
 |x::r,j+1=>by simp[R0 f g hfg r j]
def Aru{u:Operand}{es:G0 kt vt}{a:kt.T}{v:vt.T}(ho:o.op = .mapUpdate t x y u∨o.op = .insert t x y u)(hm:Aw4 P t kt vt e)
  (hk:X.objs.lookup k=some (A6v kt vt es clock)) :
  Bi P o [(x,.mp k),(y,.d (kt.dv a)),(u,.d (vt.dv v))] X ⟨Ab.setObj k (A6v kt vt (Mm a v clock es) (Rt a es clock)) X.objs,X.live⟩ [] (.d (.sc undef)):=by
 intro nm Ej B g w ac hr Au next Q hn
 obtain⟨kty,hu,hK⟩:=hm.und;have h1:=(Is Au).Ad1;have h2:ac.eval y=kt.Eh a:=by
  have:=Y4 Au;cases this with
  |d _ _ h=>exact kt.A3t hK.key h
 have h3:RD g.γ w (vt.dv v) (ac.eval u):=by
  have:=rd2 Au;cases this with
  |d _ _ h=>exact h
 simp only at h1;obtain⟨C2,hw⟩:=A1d hK.key (hr.objs k _ hk);have hf:=hw.find hK a;have hc:=hK.check false 9998 a w;have hst:=hK.stays a w;have Pt:=Bry (P:=P) hw.heap;have Zt:=Ab6 (P:=P) hw.heap;have Cg:∀w',(Instr.mapUpdate t (ac.eval x) (ac.eval y) (ac.eval u)).run P w = .ok () w'→(execOp ac.eval o).run P w = .ok .skip w':=by intro w' h;rcases ho with ho|ho<;>simp[execOp,ho,h]
 unfold Oper.wp;have ec:=Aoe a es clock;cases hj:K5 kt a (es.map (·.2.1)) with
 |none =>
  rw[hj]at hf;simp only[Bti]at hf;rw[hj]at ec;simp only at ec;rw[ec,Adu hj]at hn;obtain⟨r1,r2⟩:=HR.Aw5 hr (es':=es++[(clock,a,v)]) (clock':=clock+1) (as':=C2.push { key:=kt.Eh a,val:=ac.eval u,born:=clock }) hK.key hk hw (by
   intro w' ht Fp;refine⟨Fp,by simp[hw.len],by simp[hw.keys],?_,?_,?_⟩
   ·intro i q m hq Uc;by_cases hi:i<es.length
    ·rw[Bs9 hi]at hq;rw[Btm,Bpp (by rw[← hw.len];omega)]at Uc;have:=hw.at' i q m hq Uc;exact⟨this.1,this.2.1,this.2.2.mono ht.le⟩
    ·rw[Brs (by omega)]at hq;have hi0:i=es.length:=by
      by_cases h0:i-es.length=0
      ·omega
      ·rw[Bqz (by simp;omega)]at hq;cases hq
     subst hi0;simp at hq;rw[hw.len]at Uc;simp at Uc;subst hq;subst Uc;exact⟨rfl,rfl,h3.mono ht.le⟩
   ·intro p hp;rcases Bp4.1 hp with hp|hp
    ·have:=hw.lt p hp;omega
    ·simp at hp;subst hp;exact Bsr _
   ·rw[Bpn,Btu];refine⟨hw.nodup,by simp,?_⟩;intro p hp q hq;simp at hq;subst hq;obtain⟨y',hy',rfl⟩:=Bpc.1 hp;have:=hw.lt y' hy';omega)
  have e1:(Instr.mapUpdate t (ac.eval x) (ac.eval y) (ac.eval u)).run P w = .ok () { w with heap:=w.heap.setIfInBounds (g.ρ k) (.map (C2.push { key:=kt.Eh a,val:=ac.eval u,born:=clock }) (clock+1)) }:=by simp only[Instr.mapUpdate,h1,h2,Bq5,Bpb hu,Bpr,Pt,hc,hf,Zt]
  rw[Cg _ e1];exact hn g _ undef r1 r2 (.H4 _ _ _)
 |some j =>
  have Gb:=A1c hj;rw[Bpl]at Gb;have hja:j<C2.size:=by rw[← hw.len];exact Gb
  have hat:=Ars hK.key hj;rw[Bp1,Bpd Gb]at hat;simp only[Bq8,Bp0]at hat;have hkj:C2[j].key=kt.Eh a:=by rw[(hw.at' j es[j] C2[j] (by simp[Gb]) (by simp[hja])).2.1,hat]
  rw[hj]at hf;simp only[Bow,Bpq hja,Bq8]at hf;rw[hj]at ec;simp only at ec;rw[ec,Adv hj]at hn;obtain⟨r1,r2⟩:=HR.Aw5 hr (es':=es.modify j fun q=>(q.1,a,v)) (clock':=clock) (as':=C2.modify j fun q=>{ q with key:=kt.Eh a,val:=ac.eval u }) hK.key hk hw (by
   intro w' ht Fp;have Ba6:∀(i:Nat) q m,(es.modify j fun q=>(q.1,a,v))[i]? = some q→(C2.modify j fun q=>{ q with key:=kt.Eh a,val:=ac.eval u })[i]? = some m→m.born=q.1∧m.key=kt.Eh q.2.1∧RD g.γ w' (vt.dv q.2.2) m.val:=by
    intro i q m hq Uc;rw[List.getElem?_modify]at hq;rw[Bql]at Uc;by_cases hij:j=i
    ·subst hij;rw[Bpd Gb]at hq;rw[Bpq hja]at Uc;simp at hq Uc;subst hq;subst Uc;exact⟨(hw.at' j es[j] C2[j] (by simp[Gb]) (by simp[hja])).1,rfl,h3.mono ht.le⟩
    ·rw[Bpp hij]at Uc;simp only[hij,Bre]at hq;have:=hw.at' i q m (by simpa using hq) Uc;exact⟨this.1,this.2.1,this.2.2.mono ht.le⟩
   refine⟨Fp,by simp[hw.len],?_,Ba6,?_,?_⟩
   ·apply Bsc;intro i;rw[Bp1,Bp1,Bp1,Br7];by_cases hi:i<C2.size
    ·have M9:i<es.length:=by rw[hw.len];exact hi
     have hA:i<(C2.modify j fun q=>{ q with key:=kt.Eh a,val:=ac.eval u }).size:=by simpa using hi
     have hE:i<(es.modify j fun q=>(q.1,a,v)).length:=by simpa using M9
     rw[Bpq hA,Bpd hE];have:=(Ba6 i _ _ (Bpd hE) (Bpq hA)).2.1;simp only[Bq8,this]
    ·rw[Bs8 (by simpa using hi),Bqz (by simp[hw.len];omega)];rfl
   ·intro p hp;have h5:p.1∈((es.modify j fun q=>(q.1,a,v)).map (·.1)):=Bpe (f:=(·.1)) hp;rw[R0 (fun q:Nat×kt.T×vt.T=>q.1) (fun q:Nat×kt.T×vt.T=>(q.1,a,v)) (fun _=>rfl) es j]at h5;obtain⟨q,hq,he⟩:=Bpc.1 h5;rw[← he];exact hw.lt q hq
   ·rw[R0 (fun q:Nat×kt.T×vt.T=>q.1) (fun q:Nat×kt.T×vt.T=>(q.1,a,v)) (fun _=>rfl) es j];exact hw.nodup)
  have e1:(Instr.mapUpdate t (ac.eval x) (ac.eval y) (ac.eval u)).run P w = .ok () { w with heap:=w.heap.setIfInBounds (g.ρ k) (.map (C2.modify j fun q=>{ q with key:=kt.Eh a,val:=ac.eval u }) clock) }:=by simp only[Instr.mapUpdate,h1,h2,Bq5,Bpb hu,Bpr,Pt,hc,hf,Bpq hja,Bq8,Btj,hkj,hst,Zt]
  rw[Cg _ e1];exact hn g _ undef r1 r2 (.H4 _ _ _)
def B0e{ts:Array TypeId}{es:G0 kt vt}(ho:o.op = .call { callee:=.builtin .len,args:=#[x],argTypes:=ts })(h0:ts[0]? = some t)(hm:Aw4 P t kt vt e)
  (hk:X.objs.lookup k=some (A6v kt vt es clock)):Bi P o [(x,.mp k)] X X [] (.d (.sc (.int .i64 es.length))) :=
 .quiet fun _ _ g w ac hr Au=>by
  obtain⟨kty,hu,hK⟩:=hm.und;have h1:=(Is Au).Ad1;simp only at h1;obtain⟨C2,hw⟩:=A1d hK.key (hr.objs k _ hk);have Pt:=Bry (P:=P) hw.heap;refine⟨.int .i64 es.length,?_,.H4 _ _ _⟩;simp only[execOp,ho,resolve];simp[h1,invoke,builtin,Builtin.len_,h0,Bpb hu,Pt,goInt,hw.len]
def Arv{es:G0 kt vt}(ho:o.op = .range t x)(hm:Aw4 P t kt vt e)(hk:X.objs.lookup k=some (A6v kt vt es clock))(hmn:X.objs.lookup m=none)(hX:B1 [m] X=true)(hne:k≠m) :
  Bi P o [(x,.mp k)] X ⟨(m,.Jo k clock #[] clock)::X.objs,X.live⟩ [m] (.ptr m 0):=by
 intro nm Ej B g w ac hr Au next Q hn
 obtain⟨kty,hu,hK⟩:=hm.und;have h1:=(Is Au).Ad1;simp only at h1;obtain⟨C2,hw⟩:=A1d hK.key (hr.objs k _ hk);have Pt:=Bry (P:=P) hw.heap;obtain⟨r1,r2⟩:=hr.newObj hmn hX (.mapIter (some (g.ρ k)) clock #[] clock) (.Jo k clock #[] clock) (by
  intro g' w' ht hw';refine .Jo k clock #[] clock ?_;rw[hw',ht.names k (by simpa using hne)])
 unfold Oper.wp;have:(execOp ac.eval o).run P w = .ok (.value (.pointer (some ⟨w.heap.size,0,none⟩))) (w.alloc (.mapIter (some (g.ρ k)) clock #[] clock)):=by simp only[execOp,ho,h1];simp[Instr.range,Bpb hu,Pt]
 rw[this];refine hn _ _ _ r1 r2 ?_;have:=RA.ptr (g:={ g with ρ:=O6 g.ρ m w.heap.size }) (w:=w.alloc (.mapIter (some (g.ρ k)) clock #[] clock)) m 0;simpa[Ac]using this
end
end Go.Xl
