import Derived.Test.YtdofeahkajcpbaaGreatDoorZb
import Derived.Test.YtdofeahkajcpbaaGreatDoorZa
import Derived.RangeFuncLeaves
import Derived.RangeFuncRecord
import Derived.RangeFuncCalls
import Derived.RangeFuncIn
import Derived.RangeFuncSeq
import Derived.TacticsIn
set_option linter.unusedVariables false
set_option linter.unusedSimpArgs false
set_option linter.unnecessarySimpa false
open Go.IntKind (i64 u64 u16)
noncomputable section
namespace Go.Xl
open Go.Ab
section
variable{P:Program}
theorem Yv{t:TypeId}{kt:Ty}(h:Ps P t kt=true)(a:kt.T):∃kd v,P.underlying t=some kd∧kt.T5 a=[v]∧MapKept.IsKey kd v∧(∀b:kt.T,∃u,kt.T5 b=[u]∧Instr.sameNow kd v u=some (kt.eqv a b)):=by
 unfold Ps at h;split at h
 ·rename_i k hu;split at h
  ·rename_i k';have:=Fi h;subst this;refine⟨_,_,hu,rfl,?_,fun b=>⟨_,rfl,?_⟩⟩
   ·simp[MapKept.IsKey]
   ·simp[Instr.sameNow,Ty.eqv,BEq.beq]
  ·have:=Fi h;subst this;refine⟨_,_,hu,rfl,?_,fun b=>⟨_,rfl,?_⟩⟩
   ·simp[MapKept.IsKey]
   ·simp only[Instr.sameNow,Ty.eqv,Bn5];congr 1;rw[Bmb];simp only[Bp8,Bnp];exact Ap0
  ·cases h
 ·rename_i hu;split at h
  ·refine⟨_,_,hu,rfl,?_,fun b=>⟨_,rfl,?_⟩⟩
   ·simp[MapKept.IsKey]
   ·simp only[Instr.sameNow,Ty.eqv];congr 1;rw[Bmb,MapKept.bytes_beq];simp
  ·cases h
 ·cases h
theorem Ahn(w:World):∀(fl:A2 Field) (off:Nat) (kt:Ty) (a:kt.T) (cs:Array Value),O9 P off kt fl=true→cs.toList.drop off=kt.T5 a →
  ∀ f ∈ fl, f.name ≠ "_" ∧ ∃ v kd, (part f.type cs f.offset).run P w = .ok v w ∧ P.underlying f.type = some kd ∧ MapKept.IsKey kd v
 |[],_,_,_,_,h,_=>by simp[O9]at h
 |[f],off,kt,a,cs,h,hx=>by
  simp only[O9]at h;cases h1:Nat.beq f.offset off with
  |false=>simp[h1]at h
  |true =>
  have e1:=Bkr h1;simp only[h1,Bkn]at h
  cases h2 : decide (f.name = "_") with
  |true=>simp[h2]at h
  |false =>
  simp only[h2,Bko]at h;cases h3:Ps P f.type kt with
  |false=>simp[h3]at h
  |true =>
  simp only[h3,Bkn]at h;split at h
  ·rename_i ag sz ht;cases h4:Nat.beq sz 1 with
   |false=>simp[h4]at h
   |true =>
   have e4:=Bkr h4;subst e4;simp only[h4,Bkn,Boy]at h;subst h;obtain⟨kd,v,k1,k2,k3,_⟩:=Yv h3 a;intro g hg;simp only[Bl7]at hg;subst hg;rw[k2]at hx;have Bs:off<cs.size:=by have:=Blc List.length hx;simp at this;omega
   have hv:cs[off]=v:=by have:=Bnb (l:=cs.toList) (i:=off) (by simpa using Bs);rw[hx]at this;simpa using(Brx this).1.symm
   refine⟨of_decide_eq_false h2,v,kd,?_,k1,k3⟩;have:=Ve (X4 ht) cs off w (fun _=>⟨Bs,by omega⟩);rw[e1,this];congr 1;simp[Kh,Array.getD,hv,show 0<min (off+1) cs.size-off by omega]
  ·cases h
 |f::g::r,off,kt,a,cs,h,hx=>by
  cases kt with
  |pair s t =>
   simp only[O9]at h;cases h1:Nat.beq f.offset off with
   |false=>simp[h1]at h
   |true =>
   have e1:=Bkr h1;simp only[h1,Bkn]at h
   cases h2 : decide (f.name = "_") with
   |true=>simp[h2]at h
   |false =>
   simp only[h2,Bko]at h;cases h3:Ps P f.type s with
   |false=>simp[h3]at h
   |true =>
   simp only[h3,Bkn]at h;split at h
   ·rename_i ag sz ht;cases h4:Nat.beq sz 1 with
    |false=>simp[h4]at h
    |true =>
    have e4:=Bkr h4;subst e4;simp only[h4,Bkn]at h;cases ag with
    |true=>simp at h
    |false =>
    simp only[Bko]at h;obtain⟨kd,v,k1,k2,k3,_⟩:=Yv h3 a.1;rw[Ty.T5,k2]at hx;have Bs:off<cs.size:=by have:=Blc List.length hx;simp at this;omega
    have hc:=Bnb (l:=cs.toList) (i:=off) (by simpa using Bs);rw[hx,Bq9]at hc;have hv:cs[off]=v:=by simpa using(Brx hc).1.symm
    intro q hq;rcases Bkq.1 hq with rfl|hq
    ·refine⟨of_decide_eq_false h2,v,kd,?_,k1,k3⟩;have:=Ve (X4 ht) cs off w (fun _=>⟨Bs,by omega⟩);rw[e1,this];congr 1;simp[Kh,Array.getD,hv,show 0<min (off+1) cs.size-off by omega]
    ·exact Ahn w (g::r) (off+1) t a.2 cs h (Brx hc).2.symm q hq
   ·cases h
  |_=>simp[O9]at h
inductive A1h(P:Program)(t:TypeId)(kt:Ty):Prop where
 |sc:Ps P t kt=true→A1h P t kt
 |st (fs:Array Field) (k:Ty) (e:kt.T=k.T):P.underlying t=some (.struct fs)→P.stoodInHeld t=false→P.eqGuardType P.depth t=false→O9 P 0 k fs.toList=true→kt.agg=true →
   (∀a:kt.T,kt.T5 a=k.T5 (cast e a))→(∀a:kt.T,kt.enc a=k.enc (cast e a))→(∀a b:kt.T,kt.eqv a b=k.eqv (cast e a) (cast e b))→kt.key=true→A1h P t kt
 |ar (e:TypeId) (k:IntKind):P.underlying t=some (.array 2 e)→P.underlying e=some (.int k)→TyI P e false 1→kt = .pair (.int k) (.int k)→A1h P t kt
theorem B7g{t:TypeId}{kt:Ty}(h:Ahl P t kt=true):A1h P t kt:=by
 unfold Ahl at h;cases hs:Ps P t kt with
 |true=>exact .sc hs
 |false =>
  simp only[hs,Bko]at h;split at h
  ·rename_i fs hu;cases h1:P.stoodInHeld t with
   |true=>simp[h1]at h
   |false =>
   cases h2:P.eqGuardType P.depth t with
   |true=>simp[h1,h2]at h
   |false =>
   simp only[h1,h2,Bko]at h;split at h
   ·rename_i f hf;split at h
    ·rename_i a;exact .st fs a rfl hu h1 h2 (by rw[hf];exact h) rfl (fun _=>rfl) (fun _=>rfl) (fun _ _=>rfl) (by simp only[Ty.key];exact Acg _ _ _ h)
    ·cases h
   ·rename_i l hl;have hg:kt.agg=true:=by
     cases hfl:fs.toList with
     |nil=>rw[hfl]at h;simp[O9]at h
     |cons f r =>
      cases r with
      |nil=>exact absurd hfl (hl f)
      |cons g r =>rw[hfl]at h;cases kt<;>simp[O9]at h;rfl
    exact .st fs kt rfl hu h1 h2 h hg (fun _=>rfl) (fun _=>rfl) (fun _ _=>rfl) (Acg _ _ _ h)
  ·rename_i e hu;split at h
   ·rename_i k k1 k2 hk ht;cases h1:Il k1 k with
    |false=>simp[h1]at h
    |true =>simp only[h1,Bkn]at h;have e1:=Fi h1;have e2:=Fi h;subst e1;subst e2;exact .ar e _ hu hk (X4 ht) rfl
   ·cases h
  ·cases h
theorem A1h.key{t:TypeId}{kt:Ty}(h:A1h P t kt):kt.key=true:=by
 cases h with
 |sc h=>exact(Nc h).1
 |st fs k e hu h1 h2 h3 hg hk he hq Rn=>exact Rn
 |ar e k hu hk ht h=>subst h;rfl
theorem Ach{e:TypeId}(ht:TyI P e false 1)(a b:Value)(w:World):(part e #[a,b] 0).run P w = .ok a w∧(part e #[a,b] 1).run P w = .ok b w:=by
 refine⟨?_,?_⟩
 ·have:=Ve ht #[a,b] 0 w (fun _=>⟨by simp,by simp⟩);rw[this];rfl
 ·have:=Ve ht #[a,b] 1 w (fun _=>⟨by simp,by simp⟩);rw[this];rfl
theorem A1h.check{t:TypeId}{kt:Ty}(h:A1h P t kt)(em:Bool)(n:Nat)(a:kt.T)(w:World):(Instr.checkKey em (n+2) t (kt.Ea a)).run P w = .ok () w:=by
 cases h with
 |sc h =>
  obtain⟨kd,v,k1,k2,k3,_⟩:=Yv h a;have:kt.Ea a=v:=by unfold Ty.Ea;rw[(Nc h).2,k2];rfl
  rw[this];exact Bqf k1 k3 em (n+1)
 |st fs k e hu h1 h2 h3 hg hk he hq Rn =>
  have:kt.Ea a = .agg (k.T5 (cast e a)).toArray:=by unfold Ty.Ea;rw[hg,hk];rfl
  rw[this,show n+2=(n+1)+1 from rfl,Instr.checkKey];simp only[Blo,Bl0 hu,Blk];rw[← Array.forIn_toList];have each:=Ahn (P:=P) w fs.toList 0 k (cast e a) (k.T5 (cast e a)).toArray h3 (by simp);generalize fs.toList=L at each;induction L with
  |nil=>simp
  |cons f L ih =>obtain⟨hn,v,kd,p1,k1,k3⟩:=each f (by simp);have p2:=Bqf (w:=w) k1 k3 em n;simp only[Bri,Blo,hn,ne_eq,not_false_eq_true,Bn5,Blk,p1,p2,Bo1];exact ih (fun y hy=>each y (by simp[hy]))
 |ar e k hu hk ht h =>
  subst h;obtain⟨a1,a2⟩:=a;have e1:(Ty.pair (.int k) (.int k)).Ea (a1,a2) = .agg #[.int k a1,.int k a2]:=rfl;obtain⟨p1,p2⟩:=Ach ht (.int k a1) (.int k a2) w;have c1:∀x,(Instr.checkKey em (n+1) e (.int k x)).run P w = .ok () w:=fun x=>Bqf (d:=.int k) hk (by simp[MapKept.IsKey]) em n
  have hs:(sizeOf e).run P w = .ok 1 w:=ht.Yn w;rw[e1,show n+2=(n+1)+1 from rfl,Instr.checkKey];simp only[Blo,Bl0 hu,Blk];simp only[Bpm,Std.Legacy.Range.size,Bnu,Bpr,Nat.div_one,Bp2,List.range'_zero,Bri,List.forIn_nil];simp[hs,p1,p2,c1]
def Hx(kt:Ty)(a:kt.T):List kt.T→A3 Nat
 |[]=>none
 |b::r=>if kt.eqv a b then some 0 else (Hx kt a r).map (· + 1)
theorem X9{kt:Ty}{a:kt.T}:∀ {l:List kt.T} {i:Nat},Hx kt a l=some i→i<l.length
 |[],i,h=>by simp[Hx]at h
 |b::r,i,h=>by
  simp only[Hx]at h;split at h
  ·cases h;simp
  ·obtain⟨j,hj,rfl⟩:=Bky.1 h;have:=X9 hj;simp;omega
theorem Aq7{kt:Ty}{a:kt.T}(hk:kt.key=true):∀ {l:List kt.T} {i:Nat},Hx kt a l=some i→l[i]? = some a
 |[],i,h=>by simp[Hx]at h
 |b::r,i,h=>by
  simp only[Hx]at h;split at h
  ·rename_i hb;cases h;rw[(kt.Lr a b hk).1 hb];rfl
  ·obtain⟨j,hj,rfl⟩:=Bky.1 h;simpa using Aq7 hk hj
theorem A1h.equal{t:TypeId}{kt:Ty}(h:A1h P t kt)(a b:kt.T)(w:World)(γ:Nat→Nat):kt.agg=true→(Op.equal t (kt.Ea a) (kt.Ea b)).run P w = .ok (kt.eqv a b) w:=by
 intro A5p;cases h with
 |sc h=>rw[(Nc h).2]at A5p;cases A5p
 |st fs k e hu h1 h2 h3 hg hk he hq Rn =>
  have hs:eqS P 2 t (kt.enc a) (kt.enc b)=some (kt.eqv a b):=by unfold eqS;rw[hu];simp only[h1,Bko];rw[he,he,hq];exact Amn 0 fs.toList 0 k _ _ _ _ h3 rfl rfl
  have vr:∀c:kt.T,VR γ w (kt.enc c) (kt.T5 c).toArray:=fun c=>by
   have e1:=kt.M8 c;rw[kt.Y3 c Rn,Ha]at e1;have hl:=Blc List.length e1;simp only[Blb]at hl;refine⟨by simpa using hl,fun i x v hx hv=>?_⟩;have e2:=Blc (·[i]?) e1;simp only[Bkt,hx,Blq]at e2;rw[Bn8]at hv;rw[hv]at e2;simp only[Blq,Bks]at e2;rw[e2];exact .sc _
  have:=Apc (P:=P) (γ:=γ) (w:=w) 2 t (kt.enc a) (kt.enc b) _ _ _ 9998 _ hs hu (vr a) (vr b);simp only[A90,Kh,Bn5]at this;have kv:∀c:kt.T,kt.Ea c = .agg (kt.T5 c).toArray:=fun c=>by unfold Ty.Ea;rw[hg];rfl
  rw[kv,kv];exact this
 |ar e k hu hk ht h =>
  subst h;obtain⟨a1,a2⟩:=a;obtain⟨b1,b2⟩:=b;have e1:∀x y,(Ty.pair (.int k) (.int k)).Ea (x,y) = .agg #[.int k x,.int k y]:=fun _ _=>rfl
  have hs:(sizeOf e).run P w = .ok 1 w:=ht.Yn w;obtain⟨p1,p2⟩:=Ach ht (.int k a1) (.int k a2) w;obtain⟨q1,q2⟩:=Ach ht (.int k b1) (.int k b2) w;have c:∀x y,(Op.equalIn 9999 e (.int k x) (.int k y)).run P w = .ok (x==y) w:=fun x y=>Bpo w 9998 e k k x y hk
  rw[e1,e1];show(Op.equalIn (9999+1) t _ _).run P w=_;rw[Op.equalIn];simp only[Blo,Bl0 hu,Blk];simp only[Bpm,Std.Legacy.Range.size,Bnu,Bpr,Nat.div_one,Bp2,List.range'_zero,Bri,List.forIn_nil];simp[hs,p1,p2,q1,q2,c,Ty.eqv];cases h1:decide (a1=b1)<;>cases h2:decide (a2=b2)<;>simp_all
theorem A6h{t:TypeId}{kt:Ty}(h:Ps P t kt=true)(a:kt.T){kd:TypeDesc}(hu:P.underlying t=some kd):∀(ks:List kt.T) (es:A2 MapEntry) (i:Nat),es.map (·.key)=ks.map kt.Ea →
  Instr.findNow kd (kt.Ea a) es i=some ((Hx kt a ks).bind fun j=>es[j]?.map fun e=>(i+j,e.val))
 |[],[],i,_=>rfl
 |[],_::_,_,he=>by simp at he
 |_::_,[],_,he=>by simp at he
 |b::ks,e::es,i,he=>by
  simp only[Bkv,Bos]at he;obtain⟨kd',v,k1,k2,k3,k4⟩:=Yv h a;have:=Bor (hu.symm.trans k1);subst this;obtain⟨u,k5,k6⟩:=k4 b;have e1:kt.Ea a=v:=by unfold Ty.Ea;rw[(Nc h).2,k2];rfl
  have e2:e.key=u:=by rw[he.1];unfold Ty.Ea;rw[(Nc h).2,k5];rfl
  unfold Instr.findNow Hx;rw[e1,e2,k6];cases hq:kt.eqv a b with
  |true=>simp
  |false =>
   have ih:=A6h h a hu ks es (i+1) he.2;rw[e1]at ih;simp only[ih];cases Hx kt a ks with
   |none=>rfl
   |some j=>simp[Bo0,Bpf 1 j]
theorem Yw{t:TypeId}{kt:Ty}(h:A1h P t kt)(hg:kt.agg=true)(a:kt.T)(w:World):∀(ks:List kt.T) (es:A2 MapEntry) (i:Nat),es.map (·.key)=ks.map kt.Ea →
  (Instr.findAsking t (kt.Ea a) es i).run P w = .ok ((Hx kt a ks).bind fun j=>es[j]?.map fun e=>(i+j,e.val)) w
 |[],[],i,_=>by simp[Instr.findAsking,Hx]
 |[],_::_,_,he=>by simp at he
 |_::_,[],_,he=>by simp at he
 |b::ks,e::es,i,he=>by
  simp only[Bkv,Bos]at he;have hq:=h.equal a b w (fun _=>0) hg;unfold Instr.findAsking Hx;rw[he.1,Blo,hq,Blk];cases hb:kt.eqv a b with
  |true=>simp
  |false =>
   have ih:=Yw h hg a w ks es (i+1) he.2;simp only[Bmi,Bn2,ih];cases Hx kt a ks with
   |none=>rfl
   |some j=>simp[Bo0,Bpf 1 j]
theorem A1h.find{t:TypeId}{kt:Ty}(h:A1h P t kt)(a:kt.T)(w:World)(ks:List kt.T)(es:A2 MapEntry)(he:es.map (·.key)=ks.map kt.Ea) :
  (Instr.findKey t (kt.Ea a) es).run P w = .ok ((Hx kt a ks).bind fun j=>es[j]?.map fun e=>(j,e.val)) w:=by
 cases hg:kt.agg with
 |true =>
  have hw:(match P.underlying t with|some (.array _ _)|some (.struct _)=>true|_=>false)=true:=by
   cases h with
   |sc h=>rw[(Nc h).2]at hg;cases hg
   |st fs k e hu _ _ _ _ _ _ _ _=>rw[hu]
   |ar e k hu _ _ _=>rw[hu]
  rw[run_findKey_eq w hw];have:=Yw h hg a w ks es 0 he;simpa using this
 |false =>
  cases h with
  |sc h =>obtain⟨kd,v,k1,k2,k3,k4⟩:=Yv h a;have:=A6h h a k1 ks es 0 he;have:=MapKept.run_findKey (w:=w) k1 this;simpa using this
  |st fs k e hu h1 h2 h3 hg' hk he' hq Rn=>rw[hg']at hg;cases hg
  |ar e k hu hk ht h=>subst h;cases hg
theorem Aa2:∀(n:Nat) (v:Value),v.oneCell'=true→(∃k x,v = .int k x)∨(∃s,v = .string s)→Instr.sameBits n v v=true
 |n,v,_,h=>by
  rcases h with ⟨k,x,rfl⟩|⟨s,rfl⟩
  ·cases n<;>simp[Instr.sameBits]
  ·cases n<;>simp[Instr.sameBits,MapKept.bytes_beq]
theorem Ty.Aho:∀(t:Ty) (a:t.T),∀v∈t.T5 a,(∃k x,v = .int k x)∨(∃s,v = .string s)
 |.int k,a=>by simp[Ty.T5]
 |.u8,a=>by simp[Ty.T5]
 |.str,a=>by simp[Ty.T5]
 |.pair s t,a=>by
  intro v hv;simp only[Ty.T5,Bkw]at hv;rcases hv with h|h
  ·exact s.Aho _ v h
  ·exact t.Aho _ v h
 |.st1 t,a=>by simp only[Ty.T5];exact t.Aho a
 |.bool,_=>by simp[Ty.T5]
 |.sl _,_=>by simp[Ty.T5]
 |.unit,_=>by simp[Ty.T5]
 |.tab _,_=>by simp[Ty.T5]
 |.err,_=>by simp[Ty.T5]
 |.ic _ _,_=>by simp[Ty.T5]
 |.ptr,_=>by simp[Ty.T5]
theorem A1h.stays{t:TypeId}{kt:Ty}(h:A1h P t kt)(a:kt.T)(w:World):(Instr.keyThatStays (kt.Ea a) (kt.Ea a)).run P w = .ok (kt.Ea a) w:=by
 have hb:Instr.sameBits 10000 (kt.Ea a) (kt.Ea a)=true:=by
  cases hg:kt.agg with
  |true =>
   have:kt.Ea a = .agg (kt.T5 a).toArray:=by unfold Ty.Ea;rw[hg];rfl
   rw[this];show Instr.sameBits (9999+1) _ _=true;simp only[Instr.sameBits,Brc,Bp7,Bly];intro p hp;obtain⟨i,hi,e⟩:=List.getElem_of_mem hp;rw[List.getElem_zip]at e;rw[← e];simp only[];have hm:(kt.T5 a).toArray.toList[i]'(by simpa using hi)∈kt.T5 a:=by simp
   exact Aa2 9999 _ (kt.Aa1 a _ hm) (kt.Aho a _ hm)
  |false =>
   cases h with
   |sc h =>
    obtain⟨kd,v,k1,k2,k3,_⟩:=Yv h a;have:kt.Ea a=v:=by unfold Ty.Ea;rw[(Nc h).2,k2];rfl
    rw[this];exact Aa2 _ _ (kt.Aa1 a v (by rw[k2];simp)) (kt.Aho a v (by rw[k2];simp))
   |st fs k e hu h1 h2 h3 hg' hk he' hq Rn=>rw[hg']at hg;cases hg
   |ar e k hu hk ht h=>subst h;cases hg
 simp[Instr.keyThatStays,hb]
end
noncomputable abbrev Fa(kt vt:Ty):Type:=A2 (Nat×kt.T×vt.T)
def Nn{kt vt:Ty}(a:kt.T):Fa kt vt→Option vt.T
 |[]=>none
 |e::r=>bif kt.eqv a e.2.1 then some e.2.2 else Nn a r
def Jx{kt vt:Ty}(a:kt.T)(v:vt.T)(clock:Nat):Fa kt vt→Fa kt vt
 |[]=>[(clock,a,v)]
 |e::r=>bif kt.eqv a e.2.1 then (e.1,a,v)::r else e::Jx a v clock r
def R9{kt vt:Ty}(a:kt.T)(es:Fa kt vt)(clock:Nat):Nat:=match Nn a es with|some _=>clock|none=>clock+1
def Aq8{kt vt:Ty}(a:kt.T):Fa kt vt→Fa kt vt
 |[]=>[]
 |e::r=>bif kt.eqv a e.2.1 then r else e::Aq8 a r
section
variable{kt vt:Ty}
theorem Aci(a:kt.T):∀es:Fa kt vt,Nn a es=(Hx kt a (es.map (·.2.1))).bind fun j=>es[j]?.map (·.2.2)
 |[]=>rfl
 |e::r=>by
  simp only[Nn,Bkv,Hx];cases kt.eqv a e.2.1 with
  |true=>rfl
  |false =>simp only[Bko,Bmi,Bn2,Aci a r];cases Hx kt a (r.map (·.2.1))<;>simp
theorem Acj{a:kt.T}{v:vt.T}{clock:Nat}:∀ {es:Fa kt vt},Hx kt a (es.map (·.2.1))=none→Jx a v clock es=es++[(clock,a,v)]
 |[],_=>rfl
 |e::r,h=>by
  simp only[Bkv,Hx]at h;split at h
  ·cases h
  ·rename_i hq;simp only[Bro]at h;simp only[Jx,Bq5]at hq⊢;rw[hq,Bko,Acj h];rfl
theorem Ack{a:kt.T}{v:vt.T}{clock:Nat}:∀ {es:Fa kt vt} {j:Nat},Hx kt a (es.map (·.2.1))=some j→Jx a v clock es=es.modify j fun e=>(e.1,a,v)
 |[],j,h=>by simp[Hx]at h
 |e::r,j,h=>by
  simp only[Bkv,Hx]at h;split at h
  ·rename_i hq;cases h;simp only[Jx,hq,Bkn];rfl
  ·rename_i hq;obtain⟨i,hi,rfl⟩:=Bky.1 h;simp only[Jx,Bq5]at hq⊢;rw[hq,Bko,Ack hi];rfl
theorem Amo{a:kt.T}:∀ {es:Fa kt vt},Hx kt a (es.map (·.2.1))=none→Aq8 a es=es
 |[],_=>rfl
 |e::r,h=>by
  simp only[Bkv,Hx]at h;split at h
  ·cases h
  ·rename_i hq;simp only[Bro]at h;simp only[Aq8,Bq5]at hq⊢;rw[hq,Bko,Amo h]
theorem Amp{a:kt.T}:∀ {es:Fa kt vt} {j:Nat},Hx kt a (es.map (·.2.1))=some j→Aq8 a es=es.eraseIdx j
 |[],j,h=>by simp[Hx]at h
 |e::r,j,h=>by
  simp only[Bkv,Hx]at h;split at h
  ·rename_i hq;cases h;simp only[Aq8,hq,Bkn];rfl
  ·rename_i hq;obtain⟨i,hi,rfl⟩:=Bky.1 h;simp only[Aq8,Bq5]at hq⊢;rw[hq,Bko,Amp hi];rfl
theorem Amq(a:kt.T)(es:Fa kt vt)(clock:Nat):R9 a es clock=match Hx kt a (es.map (·.2.1)) with|some _=>clock|none=>clock+1:=by
 unfold R9;rw[Aci];cases h:Hx kt a (es.map (·.2.1)) with
 |none=>rfl
 |some j =>have hj:=X9 h;simp only[Blb]at hj;simp[hj]
noncomputable abbrev A1i(kt vt:Ty)(es:Fa kt vt)(clock:Nat):Ob:=(Ac.map kt vt es clock).o
structure A7k(kt vt:Ty)(g:Gh)(w:World)(b:Nat)(es:Fa kt vt)(clock:Nat)(By:Array MapEntry):Prop where
 heap:w.heap[b]? = some (.map By clock)
 len:es.length=By.size
 keys:By.toList.map (·.key)=(es.map (·.2.1)).map kt.Ea
 at':∀(i:Nat) x e,es[i]? = some x→By[i]? = some e→e.born=x.1∧e.key=kt.Ea x.2.1∧RD g.γ w (vt.dv x.2.2) e.val
 lt:∀p∈es,p.1<clock
 nodup:(es.map (·.1)).Nodup
theorem Xa{g:Gh}{w:World}{b:Nat}{es:Fa kt vt}{clock:Nat}(hk:kt.key=true)(h:C3 g w b (A1i kt vt es clock)):∃By,A7k kt vt g w b es clock By:=by
 cases h with
 |map l c By h1 h2 h3 h4 h5 =>
  have hat:∀(i:Nat) x e,es[i]? = some x→By[i]? = some e→e.born=x.1∧e.key=kt.Ea x.2.1∧RD g.γ w (vt.dv x.2.2) e.val:=by intro i x e hx he;have:=h3 i (x.1,A1g (kt.dv x.2.1),vt.dv x.2.2) e (by rw[Bkt,hx];rfl) he;rw[kt.Afy _ hk]at this;exact this
  have hlen:es.length=By.size:=by simpa using h2
  refine⟨By,h1,hlen,?_,hat,?_,?_⟩
  ·apply Bny;intro i;rw[Bkt,Bkt,Bkt,Bml];by_cases hi:i<By.size
   ·have Lp:i<es.length:=by omega
    rw[Bli hi,Bl8 Lp];have:=(hat i es[i] By[i] (by simp[Lp]) (by simp[hi])).2.1;simp[this]
   ·rw[Bnv (by omega),Bmp (by omega)];rfl
  ·intro p hp;exact h4 (p.1,A1g (kt.dv p.2.1),vt.dv p.2.2) (Bl3 (f:=fun e:Nat×kt.T×vt.T=>(e.1,A1g (kt.dv e.2.1),vt.dv e.2.2)) hp)
  ·simpa[Bnh,Bnz]using h5
theorem A7k.rel{g:Gh}{w:World}{b:Nat}{es:Fa kt vt}{clock:Nat}{By:Array MapEntry}(hk:kt.key=true)(h:A7k kt vt g w b es clock By):C3 g w b (A1i kt vt es clock):=by
 refine .map _ clock By h.heap (by simpa using h.len) ?_ ?_ ?_
 ·intro i x e hx he;rw[Bkt,Bky]at hx;obtain⟨y,hy,rfl⟩:=hx;have:=h.at' i y e hy he;simp only[kt.Afy _ hk];exact this
 ·intro p hp;rw[Bl2]at hp;obtain⟨y,hy,rfl⟩:=hp;exact h.lt y hy
 ·simpa[Bnh,Bnz]using h.nodup
end
section
variable{P:Program}{o:Oper}{X:A7}{kt vt:Ty}
theorem Ayh{t:TypeId}(k:Nat)(ho:o.op = .makeMap t none)(hk:X.objs.lookup k=none)(hX:B7 [k] X=true) :
  Bp P o [] X ⟨(k,A1i kt vt [] 0)::X.objs,X.live⟩ [k] (.mp k):=by
 intro nm Ek B g w a hr Aq next Q hn
 obtain⟨h1,h2⟩:=hr.newObj hk hX (.map #[] 0) (A1i kt vt [] 0) (by
  intro g' w' _ hw;exact .map [] 0 #[] hw rfl (by simp) (by simp) (by simp))
 unfold Oper.wp;have:(execOp a.eval o).run P w = .ok (.value (.map (some w.heap.size))) (w.alloc (.map #[] 0)):=by simp[execOp,ho,Instr.makeMap]
 rw[this];refine hn _ _ _ h1 h2 (.nm _ _ _ ?_);show Value.map (some w.heap.size) = .map (some (Nj g.ρ k w.heap.size k));rw[Aa]
structure Al8(P:Program)(t:TypeId)(kt vt:Ty)(e:TypeId):Prop where
 und:∃k,P.underlying t=some (.map k e)∧A1h P k kt
theorem A7k.find{g:Gh}{w:World}{b:Nat}{es:Fa kt vt}{clock:Nat}{By:Array MapEntry}{k:TypeId}(h:A7k kt vt g w b es clock By)(hk:A1h P k kt)(a:kt.T) :
  (Instr.findKey k (kt.Ea a) By.toList).run P w = .ok ((Hx kt a (es.map (·.2.1))).bind fun j=>By[j]?.map fun e=>(j,e.val)) w:=by
 have:=hk.find a w (es.map (·.2.1)) By.toList h.keys;simpa[Bml]using this
def A09:Value→Bool
 |.agg _=>true
 |_=>false
theorem B10{e:TypeId}{l:A2 Value}{z:vt.T}{i:TypeInfo}{zv:Value}{γ:Nat→Nat}{w:World}(h:A6g P e vt=some (l,z))(hi:P.info? e=some i)(hz:i.zero=some zv)(hg:A09 zv=vt.agg):RD γ w (vt.dv z) zv:=by
 obtain⟨h1,h2⟩:=Aub h;obtain⟨i',zv',e1,e2,e3⟩:=A9z h1;rw[hi]at e1;cases e1;rw[hz]at e2;cases e2;cases hv:vt.agg with
 |true =>
  rw[vt.A01 z hv];rw[hv]at hg;cases zv with
  |agg vs =>
   have e4:vs.toList=l:=e3;have hl:=h2.length;refine .agg _ vs ?_ fun j c u hc hu=>?_
   ·rw[← hl,Blb,← e4,Bmv]
   ·obtain⟨x,hx,hle⟩:=h2.get hc;rw[Bkt,← e4,Bml,hu]at hx;simp only[Blq,Bks]at hx;subst hx;exact hle _ _ _ (.sc u)
  |_=>simp[A09]at hg
 |false =>
  rw[hv]at hg;have hc:zv.cells=#[zv]:=L3 fun cs he=>by subst he;simp[A09]at hg
  rw[hc]at e3;have e4:l=[zv]:=by simpa using e3.symm
  subst e4;have h3:=vt.A02 z hv;rw[h3]at h2;cases h2 with
  |cons h4 _=>exact h4 _ _ _ (.sc zv)
def Aq9{vt:Ty}(ok:Bool)(x:Option vt.T)(z:vt.T):AV:=match x with
 |some v=>if ok then .E2 [.d (vt.dv v),.d (.bool true)]else .d (vt.dv v)
 |none=>if ok then .E2 [.d (vt.dv z),.d (.bool false)]else .d (vt.dv z)
theorem A7l{g:Gh}{w:World}{ok:Bool}{v:vt.T}{u:Value}{b:Bool}(h:RD g.γ w (vt.dv v) u):RA g w (if ok then .E2 [.d (vt.dv v),.d (.bool b)]else .d (vt.dv v)) (if ok then .tuple #[u,.bool b]else u):=by
 cases ok with
 |false=>exact .d _ _ h
 |true =>
  refine .E2 _ _ rfl fun i c x hc hx=>?_
  rcases i with _|_|i
  ·simp at hc hx;subst hc;subst hx;exact .d _ _ h
  ·simp at hc hx;subst hc;subst hx;exact .Fh _ _ _
  ·simp at hc
theorem B3t{t e:TypeId}{x y:Operand}{ok:Bool}{k:Nat}{es:Fa kt vt}{clock:Nat}{a:kt.T}{l:A2 Value}{z:vt.T}{i:TypeInfo}{zv:Value}(ho:o.op = .lookup t x y ok)(hm:Al8 P t kt vt e)
  (hz:A6g P e vt=some (l,z)) (hi:P.info? e=some i) (hzv:i.zero=some zv) (hg:A09 zv=vt.agg) (hk:X.objs.lookup k=some (A1i kt vt es clock)) :
  Bp P o [(x,.mp k),(y,.d (kt.dv a))] X X [] (Aq9 ok (Nn a es) z) :=
 .quiet fun _ _ g w ac hr Aq=>by
  obtain⟨kty,hu,hK⟩:=hm.und;have h1:=(H9 Aq).A6x;have h2:ac.eval y=kt.Ea a:=by
   have:=T9 Aq;cases this with
   |d _ _ h=>exact kt.Vg hK.key h
  simp only at h1;obtain⟨By,hw⟩:=Xa hK.key (hr.objs k _ hk);have hf:=hw.find hK a;have hc:=hK.check By.isEmpty 9998 a w;have N5:=Bne (P:=P) hw.heap;rw[Aci];cases hj:Hx kt a (es.map (·.2.1)) with
  |none =>rw[hj]at hf;simp only[Bon]at hf;refine⟨if ok then .tuple #[zv,.bool false]else zv,?_,A7l (B10 hz hi hzv hg)⟩;simp only[execOp,ho,h1,h2,Instr.lookup,Blo,Bl0 hu,Blk,Bo1,N5,hc,hf];simp[zeroValue,typeInfo,hi,hzv]
  |some j =>
   have Gf:=X9 hj;rw[Blb]at Gf;have hja:j<By.size:=by rw[← hw.len];exact Gf
   rw[hj]at hf;simp only[Bkp,Bli hja,Blq]at hf;simp only[Bkp,Bl8 Gf,Blq];refine⟨if ok then .tuple #[By[j].val,.bool true]else By[j].val,?_,A7l (hw.at' j es[j] By[j] (by simp[Gf]) (by simp[hja])).2.2⟩;simp[execOp,ho,h1,h2,Instr.lookup,Blo,Bl0 hu,Blk,Bo1,N5,hc,hf]
theorem A7k.mono{g g':Gh}{w w':World}{b:Nat}{es:Fa kt vt}{clock:Nat}{By:Array MapEntry}(h:A7k kt vt g w b es clock By)(hb:w'.heap[b]? = w.heap[b]?)(hle:LeD g.γ w g'.γ w'):A7k kt vt g' w' b es clock By :=
 ⟨hb.trans h.heap,h.len,h.keys,fun i x e hx he=>⟨(h.at' i x e hx he).1,(h.at' i x e hx he).2.1,(h.at' i x e hx he).2.2.mono hle⟩,h.lt,h.nodup⟩
theorem A0a{w:World}{b:Nat}{By:Array MapEntry}{clock:Nat}(hb:w.heap[b]? = some (.map By clock))(ob:Obj):(setObj b ob).run P w = .ok () { w with heap:=w.heap.setIfInBounds b ob }:=MapKept.run_setObj_map ob hb
theorem HR.Aa3{nm:A2 Nat}{B:Bl}{g:Gh}{w:World}{X:A7}(hr:HR nm B g w X){k:Nat}{es es':Fa kt vt}{clock clock':Nat}{By as':Array MapEntry}(Rn:kt.key=true)(hk:X.objs.lookup k=some (A1i kt vt es clock))
  (hw:A7k kt vt g w (g.ρ k) es clock By)
  (hn:∀w',Trans [] g w g w'→w'.heap[g.ρ k]? = some (.map as' clock')→A7k kt vt g w' (g.ρ k) es' clock' as') :
  HR nm B g { w with heap:=w.heap.setIfInBounds (g.ρ k) (.map as' clock') } ⟨Ab.setObj k (A1i kt vt es' clock') X.objs,X.live⟩∧Trans [] g w g { w with heap:=w.heap.setIfInBounds (g.ρ k) (.map as' clock') }:=by
 have Bs:g.ρ k<w.heap.size:=(Blf.1 hw.heap).1;exact hr.write (w':={ w with heap:=w.heap.setIfInBounds (g.ρ k) (.map as' clock') }) (o':=A1i kt vt es' clock') hk (by simp) ⟨rfl,rfl,rfl,Bl1 _⟩
  (by intro b G0;simp[Bnf G0]) (fun ht=>(hn _ ht (by simp[Bs])).rel Rn) (by
   intro sh hsh;simp[World.shape?,hw.heap]at hsh)
theorem Oa{α β:Type}(f:α→β):∀(l:A2 α) (k:Nat),(l.map f).eraseIdx k=(l.eraseIdx k).map f
 |[],k=>by cases k<;>rfl
 |x::r,0=>rfl
 |x::r,k+1=>by simp[Oa f r k]
theorem Qe{α:Type}(f:α→Nat)(g:α→α)(hfg:∀x,f (g x)=f x):∀(l:A2 α) (j:Nat),((l.modify j g).map f)=l.map f
 |[],j=>by cases j<;>rfl
 |x::r,0=>by simp[hfg]
 |x::r,j+1=>by simp[Qe f g hfg r j]
theorem Aqa{t e:TypeId}{x y u:Operand}{k:Nat}{es:Fa kt vt}{clock:Nat}{a:kt.T}{v:vt.T}(ho:o.op = .mapUpdate t x y u∨o.op = .insert t x y u)(hm:Al8 P t kt vt e)
  (hk:X.objs.lookup k=some (A1i kt vt es clock)) :
  Bp P o [(x,.mp k),(y,.d (kt.dv a)),(u,.d (vt.dv v))] X ⟨Ab.setObj k (A1i kt vt (Jx a v clock es) (R9 a es clock)) X.objs,X.live⟩ [] (.d (.sc undef)):=by
 intro nm Ek B g w ac hr Aq next Q hn
 obtain⟨kty,hu,hK⟩:=hm.und;have h1:=(H9 Aq).A6x;have h2:ac.eval y=kt.Ea a:=by
  have:=T9 Aq;cases this with
  |d _ _ h=>exact kt.Vg hK.key h
 have h3:RD g.γ w (vt.dv v) (ac.eval u):=by
  have:=rd2 Aq;cases this with
  |d _ _ h=>exact h
 simp only at h1;obtain⟨By,hw⟩:=Xa hK.key (hr.objs k _ hk);have hf:=hw.find hK a;have hc:=hK.check false 9998 a w;have hst:=hK.stays a w;have N5:=Bne (P:=P) hw.heap;have Xv:=A0a (P:=P) hw.heap;have C2:∀w',(Instr.mapUpdate t (ac.eval x) (ac.eval y) (ac.eval u)).run P w = .ok () w'→(execOp ac.eval o).run P w = .ok .skip w':=by intro w' h;rcases ho with ho|ho<;>simp[execOp,ho,h]
 unfold Oper.wp;have ec:=Amq a es clock;cases hj:Hx kt a (es.map (·.2.1)) with
 |none =>
  rw[hj]at hf;simp only[Bon]at hf;rw[hj]at ec;simp only at ec;rw[ec,Acj hj]at hn;obtain⟨r1,r2⟩:=HR.Aa3 hr (es':=es++[(clock,a,v)]) (clock':=clock+1) (as':=By.push { key:=kt.Ea a,val:=ac.eval u,born:=clock }) hK.key hk hw (by
   intro w' ht G0;refine⟨G0,by simp[hw.len],by simp[hw.keys],?_,?_,?_⟩
   ·intro i q m hq T4;by_cases hi:i<es.length
    ·rw[Bnl hi]at hq;rw[Bp5,Blj (by rw[← hw.len];omega)]at T4;have:=hw.at' i q m hq T4;exact⟨this.1,this.2.1,this.2.2.mono ht.le⟩
    ·rw[Bnj (by omega)]at hq;have hi0:i=es.length:=by
      by_cases h0:i-es.length=0
      ·omega
      ·rw[Bmp (by simp;omega)]at hq;cases hq
     subst hi0;simp at hq;rw[hw.len]at T4;simp at T4;subst hq;subst T4;exact⟨rfl,rfl,h3.mono ht.le⟩
   ·intro p hp;rcases Bkw.1 hp with hp|hp
    ·have:=hw.lt p hp;omega
    ·simp at hp;subst hp;exact Boc _
   ·rw[Ble,Bpc];refine⟨hw.nodup,by simp,?_⟩;intro p hp q hq;simp at hq;subst hq;obtain⟨y',hy',rfl⟩:=Bl2.1 hp;have:=hw.lt y' hy';omega)
  have e1:(Instr.mapUpdate t (ac.eval x) (ac.eval y) (ac.eval u)).run P w = .ok () { w with heap:=w.heap.setIfInBounds (g.ρ k) (.map (By.push { key:=kt.Ea a,val:=ac.eval u,born:=clock }) (clock+1)) }:=by simp only[Instr.mapUpdate,h1,h2,Blo,Bl0 hu,Blk,N5,hc,hf,Xv]
  rw[C2 _ e1];exact hn g _ undef r1 r2 (.Fh _ _ _)
 |some j =>
  have Gf:=X9 hj;rw[Blb]at Gf;have hja:j<By.size:=by rw[← hw.len];exact Gf
  have hat:=Aq7 hK.key hj;rw[Bkt,Bl8 Gf]at hat;simp only[Blq,Bks]at hat;have hkj:By[j].key=kt.Ea a:=by rw[(hw.at' j es[j] By[j] (by simp[Gf]) (by simp[hja])).2.1,hat]
  rw[hj]at hf;simp only[Bkp,Bli hja,Blq]at hf;rw[hj]at ec;simp only at ec;rw[ec,Ack hj]at hn;obtain⟨r1,r2⟩:=HR.Aa3 hr (es':=es.modify j fun q=>(q.1,a,v)) (clock':=clock) (as':=By.modify j fun q=>{ q with key:=kt.Ea a,val:=ac.eval u }) hK.key hk hw (by
   intro w' ht G0;have B7h:∀(i:Nat) q m,(es.modify j fun q=>(q.1,a,v))[i]? = some q→(By.modify j fun q=>{ q with key:=kt.Ea a,val:=ac.eval u })[i]? = some m→m.born=q.1∧m.key=kt.Ea q.2.1∧RD g.γ w' (vt.dv q.2.2) m.val:=by
    intro i q m hq T4;rw[List.getElem?_modify]at hq;rw[Bm7]at T4;by_cases hij:j=i
    ·subst hij;rw[Bl8 Gf]at hq;rw[Bli hja]at T4;simp at hq T4;subst hq;subst T4;exact⟨(hw.at' j es[j] By[j] (by simp[Gf]) (by simp[hja])).1,rfl,h3.mono ht.le⟩
    ·rw[Blj hij]at T4;simp only[hij,Bn2]at hq;have:=hw.at' i q m (by simpa using hq) T4;exact⟨this.1,this.2.1,this.2.2.mono ht.le⟩
   refine⟨G0,by simp[hw.len],?_,B7h,?_,?_⟩
   ·apply Bny;intro i;rw[Bkt,Bkt,Bkt,Bml];by_cases hi:i<By.size
    ·have Lp:i<es.length:=by rw[hw.len];exact hi
     have hA:i<(By.modify j fun q=>{ q with key:=kt.Ea a,val:=ac.eval u }).size:=by simpa using hi
     have hE:i<(es.modify j fun q=>(q.1,a,v)).length:=by simpa using Lp
     rw[Bli hA,Bl8 hE];have:=(B7h i _ _ (Bl8 hE) (Bli hA)).2.1;simp only[Blq,this]
    ·rw[Bnv (by simpa using hi),Bmp (by simp[hw.len];omega)];rfl
   ·intro p hp;have h5:p.1∈((es.modify j fun q=>(q.1,a,v)).map (·.1)):=Bl3 (f:=(·.1)) hp;rw[Qe (fun q:Nat×kt.T×vt.T=>q.1) (fun q:Nat×kt.T×vt.T=>(q.1,a,v)) (fun _=>rfl) es j]at h5;obtain⟨q,hq,he⟩:=Bl2.1 h5;rw[← he];exact hw.lt q hq
   ·rw[Qe (fun q:Nat×kt.T×vt.T=>q.1) (fun q:Nat×kt.T×vt.T=>(q.1,a,v)) (fun _=>rfl) es j];exact hw.nodup)
  have e1:(Instr.mapUpdate t (ac.eval x) (ac.eval y) (ac.eval u)).run P w = .ok () { w with heap:=w.heap.setIfInBounds (g.ρ k) (.map (By.modify j fun q=>{ q with key:=kt.Ea a,val:=ac.eval u }) clock) }:=by simp only[Instr.mapUpdate,h1,h2,Blo,Bl0 hu,Blk,N5,hc,hf,Bli hja,Blq,Boe,hkj,hst,Xv]
  rw[C2 _ e1];exact hn g _ undef r1 r2 (.Fh _ _ _)
theorem B3u{ts:Array TypeId}{t e:TypeId}{x y:Operand}{k:Nat}{es:Fa kt vt}{clock:Nat}{a:kt.T}(ho:o.op = .call { callee:=.builtin .delete,args:=#[x,y],argTypes:=ts })(h0:ts[0]? = some t)(hm:Al8 P t kt vt e)
  (hk:X.objs.lookup k=some (A1i kt vt es clock)) :
  Bp P o [(x,.mp k),(y,.d (kt.dv a))] X ⟨Ab.setObj k (A1i kt vt (Aq8 a es) clock) X.objs,X.live⟩ [] (.E2 []):=by
 intro nm Ek B g w ac hr Aq next Q hn
 obtain⟨kty,hu,hK⟩:=hm.und;have h1:=(H9 Aq).A6x;have h2:ac.eval y=kt.Ea a:=by
  have:=T9 Aq;cases this with
  |d _ _ h=>exact kt.Vg hK.key h
 simp only at h1;obtain⟨By,hw⟩:=Xa hK.key (hr.objs k _ hk);have hf:=hw.find hK a;have hc:=hK.check By.isEmpty 9998 a w;have N5:=Bne (P:=P) hw.heap;have Xv:=A0a (P:=P) hw.heap;have C2:∀w',(Builtin.delete_ ts o.type #[ac.eval x,ac.eval y]).run P w = .ok (.tuple #[]) w'→(execOp ac.eval o).run P w = .ok (.value (.tuple #[])) w':=by intro w' h;simp[execOp,ho,resolve,invoke,builtin,h]
 unfold Oper.wp;cases hj:Hx kt a (es.map (·.2.1)) with
 |none =>
  rw[hj]at hf;simp only[Bon]at hf;rw[Amo hj]at hn;obtain⟨r1,r2⟩:=HR.Aa3 hr (es':=es) (clock':=clock) (as':=By) hK.key hk hw (by
   intro w' ht G0;exact hw.mono (G0.trans hw.heap.symm) ht.le)
  have e1:(Builtin.delete_ ts o.type #[ac.eval x,ac.eval y]).run P w = .ok (.tuple #[]) { w with heap:=w.heap.setIfInBounds (g.ρ k) (.map By clock) }:=by simp only[Builtin.delete_,h0,h1,h2,Bn8,Bo3,Bpt,Blo,Bl0 hu,Blk,N5,hc,hf,Xv,Bo1]
  rw[C2 _ e1];exact hn g _ _ r1 r2 (.E2 [] #[] rfl (by simp))
 |some j =>
  have Gf:=X9 hj;rw[Blb]at Gf;have hja:j<By.size:=by rw[← hw.len];exact Gf
  rw[hj]at hf;simp only[Bkp,Bli hja,Blq]at hf;rw[Amp hj]at hn;have hE:(By.eraseIdxIfInBounds j).toList=By.toList.eraseIdx j:=by simp[Array.eraseIdxIfInBounds,hja]
  obtain⟨r1,r2⟩:=HR.Aa3 hr (es':=es.eraseIdx j) (clock':=clock) (as':=By.eraseIdxIfInBounds j) hK.key hk hw (by
   intro w' ht G0;refine⟨G0,?_,?_,?_,?_,?_⟩
   ·have:=Blc List.length hE;simp only[Bmv]at this;rw[this,List.length_eraseIdx,List.length_eraseIdx];have:=hw.len;simp only[Bmv,this]
   ·rw[hE,show(By.toList.eraseIdx j).map (·.key)=(By.toList.map (·.key)).eraseIdx j from(Oa ..).symm,hw.keys,Oa,Oa]
   ·intro i q m hq T4;rw[← Bml,hE]at T4;rw[List.getElem?_eraseIdx]at hq T4;split at hq
    ·rw[Blv ‹_›,Bml]at T4;have:=hw.at' i q m hq T4;exact⟨this.1,this.2.1,this.2.2.mono ht.le⟩
    ·rw[Blj ‹_›,Bml]at T4;have:=hw.at' (i+1) q m hq T4;exact⟨this.1,this.2.1,this.2.2.mono ht.le⟩
   ·intro p hp;exact hw.lt p (List.mem_of_mem_eraseIdx hp)
   ·rw[← Oa];exact hw.nodup.sublist (List.eraseIdx_sublist _ _))
  have e1:(Builtin.delete_ ts o.type #[ac.eval x,ac.eval y]).run P w = .ok (.tuple #[]) { w with heap:=w.heap.setIfInBounds (g.ρ k) (.map (By.eraseIdxIfInBounds j) clock) }:=by simp only[Builtin.delete_,h0,h1,h2,Bn8,Bo3,Bpt,Blo,Bl0 hu,Blk,N5,hc,hf,Xv,Bo1]
  rw[C2 _ e1];exact hn g _ _ r1 r2 (.E2 [] #[] rfl (by simp))
theorem Ayi{ts:Array TypeId}{t e:TypeId}{x:Operand}{k:Nat}{es:Fa kt vt}{clock:Nat}(ho:o.op = .call { callee:=.builtin .len,args:=#[x],argTypes:=ts })(h0:ts[0]? = some t)(hm:Al8 P t kt vt e)
  (hk:X.objs.lookup k=some (A1i kt vt es clock)):Bp P o [(x,.mp k)] X X [] (.d (.sc (.int .i64 es.length))) :=
 .quiet fun _ _ g w ac hr Aq=>by
  obtain⟨kty,hu,hK⟩:=hm.und;have h1:=(H9 Aq).A6x;simp only at h1;obtain⟨By,hw⟩:=Xa hK.key (hr.objs k _ hk);have N5:=Bne (P:=P) hw.heap;refine⟨.int .i64 es.length,?_,.Fh _ _ _⟩;simp only[execOp,ho,resolve];simp[h1,invoke,builtin,Builtin.len_,h0,Bl0 hu,N5,goInt,hw.len]
theorem Aqb{t e:TypeId}{x:Operand}{k m:Nat}{es:Fa kt vt}{clock:Nat}(ho:o.op = .range t x)(hm:Al8 P t kt vt e)(hk:X.objs.lookup k=some (A1i kt vt es clock))(hmn:X.objs.lookup m=none)(hX:B7 [m] X=true)(hne:k≠m) :
  Bp P o [(x,.mp k)] X ⟨(m,.Jg k clock #[] clock)::X.objs,X.live⟩ [m] (.ptr m 0):=by
 intro nm Ek B g w ac hr Aq next Q hn
 obtain⟨kty,hu,hK⟩:=hm.und;have h1:=(H9 Aq).A6x;simp only at h1;obtain⟨By,hw⟩:=Xa hK.key (hr.objs k _ hk);have N5:=Bne (P:=P) hw.heap;obtain⟨r1,r2⟩:=hr.newObj hmn hX (.mapIter (some (g.ρ k)) clock #[] clock) (.Jg k clock #[] clock) (by
  intro g' w' ht hw';refine .Jg k clock #[] clock ?_;rw[hw',ht.names k (by simpa using hne)])
 unfold Oper.wp;have:(execOp ac.eval o).run P w = .ok (.value (.pointer (some ⟨w.heap.size,0,none⟩))) (w.alloc (.mapIter (some (g.ρ k)) clock #[] clock)):=by simp only[execOp,ho,h1];simp[Instr.range,Bl0 hu,N5]
 rw[this];refine hn _ _ _ r1 r2 ?_;have:=RA.ptr (g:={ g with ρ:=Nj g.ρ m w.heap.size }) (w:=w.alloc (.mapIter (some (g.ρ k)) clock #[] clock)) m 0;simpa[Aa]using this
end
section
variable{P:Program}{R:Type}
def A2i(P:Program)(t:TypeId):A3 (Ty×Ty) :=
 match P.underlying t with
 |some (.map k e)=>match Api P 9 k,Api P 9 e with
  |some kt,some vt=>cond (Ahl P k kt) (some (kt,vt)) none
  |_,_=>none
 |_=>none
def Vh(P:Program)(t:TypeId)(kt:Ty):A3 TypeId :=
 match P.underlying t with
 |some (.map k e)=>cond (Ahl P k kt) (some e) none
 |_=>none
theorem Qf{t e:TypeId}{kt vt:Ty}(h:Vh P t kt=some e):Al8 P t kt vt e:=by
 unfold Vh at h;split at h
 ·rename_i k e' hu;cases hk:Ahl P k kt with
  |false=>simp[hk]at h
  |true =>simp only[hk,Bkn,Bks]at h;subst h;exact⟨_,hu,B7g hk⟩
 ·cases h
theorem Vi{objs:A2 (Nat×Ac)}{k:Nat}{y:Ac}(h:lk k objs=some y):(A6 objs).lookup k=some y.o:=by exact H7 h
def zeroV(P:Program)(e:TypeId)(vt:Ty):Option vt.T :=
 match P.info? e with
 |some i=>match i.zero with
  |some zv=>match A6g P e vt with
   |some lz=>cond (A09 zv) (cond vt.agg (some lz.2) none) (cond vt.agg none (some lz.2))
   |none=>none
  |none=>none
 |none=>none
theorem Aug{e:TypeId}{vt:Ty}{z:vt.T}(h:zeroV P e vt=some z):∃l i zv,A6g P e vt=some (l,z)∧P.info? e=some i∧i.zero=some zv∧A09 zv=vt.agg:=by
 unfold zeroV at h;split at h
 ·rename_i i hi;split at h
  ·rename_i zv hz;split at h
   ·rename_i lz hl;refine⟨lz.1,i,zv,?_,hi,hz,?_⟩
    ·cases ha:A09 zv<;>cases hg:vt.agg<;>simp[ha,hg]at h<;>(subst h;exact hl)
    ·cases ha:A09 zv<;>cases hg:vt.agg<;>simp[ha,hg]at h<;>rfl
   ·cases h
  ·cases h
 ·cases h
def Ahp(P:Program)(st:Ad)(o:Oper)(t:TypeId)(r:A3 Operand)(K:Out→A3 R):A3 R :=
 match r with
 |none=>match A2i P t,newName o with
  |some ts,some m=>cond (fresh m st) (K ⟨.new [(m,.map ts.1 ts.2 [] 0)],.nm m .m,[],(m,.map ts.1 ts.2 [] 0)::st.objs,st.live,[m],[m]⟩) none
  |_,_=>none
 |some _=>none
theorem Auh{o:Oper}{st:Ad}{t:TypeId}{rs:A3 Operand}{K:Out→A3 R}{r:R}(ho:o.op = .makeMap t rs)(h:Ahp P st o t rs K=some r):∃out,K out=some r∧Br P o st out:=by
 unfold Ahp at h;split at h
 ·split at h
  ·rename_i ts m hm hn;cases hf:fresh m st with
   |false=>simp[hf]at h
   |true =>
    simp only[hf,Bkn]at h;obtain⟨h1,h2⟩:=M9 hf;refine⟨_,h,⟨by simp[B0],?_,fun j z hj hz=>?_⟩⟩
    ·exact⟨⟨rfl,rfl⟩,Ayh (kt:=ts.1) (vt:=ts.2) m ho (Ma h1) h2⟩
    ·rw[Cq (by simpa using hj)]at hz;exact hz
  ·cases h
 ·cases h
def B7i{vt:Ty}(ok:Bool)(x:Option vt.T)(z:vt.T):XV:=cond ok (.E2 [.d (vt.xv (x.getD z)),.d (.b x.isSome)]) (.d (vt.xv (x.getD z)))
theorem B11{vt:Ty}(ok:Bool)(x:Option vt.T)(z:vt.T):(B7i ok x z).a=Aq9 ok x z:=by cases ok<;>cases x<;>rfl
theorem Al9{o:Oper}{X:A7}{t e:TypeId}{kt vt:Ty}{x y:Operand}{ok:Bool}{a:kt.T}{l:A2 Value}{z:vt.T}{i:TypeInfo}{zv:Value}(ho:o.op = .lookup t x y ok)(hm:Al8 P t kt vt e)
  (hz:A6g P e vt=some (l,z)) (hi:P.info? e=some i) (hzv:i.zero=some zv) (hg:A09 zv=vt.agg) :
  Bp P o [(x,.d (.sc (.map none))),(y,.d (kt.dv a))] X X [] (Aq9 ok (none:Option vt.T) z) :=
 .quiet fun _ _ g w ac hr Aq=>by
  obtain⟨kty,hu,hK⟩:=hm.und;have h1:=(H9 Aq).Al;have h2:ac.eval y=kt.Ea a:=by
   have:=T9 Aq;cases this with
   |d _ _ h=>exact kt.Vg hK.key h
  simp only at h1;have hf:=hK.find a w [] [] rfl;have hc:=hK.check true 9998 a w;simp only[Hx,Bon]at hf;refine⟨if ok then .tuple #[zv,.bool false]else zv,?_,A7l (B10 hz hi hzv hg)⟩;simp[execOp,ho,h1,h2,Instr.lookup,Blo,Bl0 hu,Blk,Bo1,hc,hf,zeroValue,typeInfo,hi,hzv]
def Aqc(P:Program)(st:Ad)(t:TypeId)(x y:Operand)(ok:Bool)(K:Out→A3 R):A3 R :=
 match Av st x with
 |some (.nm k .m)=>match lk k st.objs with
  |some (.map kt vt es c)=>match Vh P t kt,xd st y with
   |some e,some a=>match kt.A22 a,zeroV P e vt with
    |some a,some z=>K ⟨.look [k],B7i ok (Nn a es) z,[(x,.nm k .m),(y,.d (kt.xv a))],st.objs,st.live,[],[]⟩
    |_,_=>none
   |_,_=>none
  |_=>none
 |some (.d (.v (.map none)))=>match A2i P t,xd st y with
  |some ts,some a=>match Vh P t ts.1 with
   |some e=>match ts.1.A22 a,zeroV P e ts.2 with
    |some a,some z=>K (B5 st (B7i ok none z) [(x,.d (.v (.map none))),(y,.d (ts.1.xv a))])
    |_,_=>none
   |none=>none
  |_,_=>none
 |_=>none
theorem Sg{st:Ad}{y:Operand}{x:XD}{kt:Ty}{a:kt.T}(h:xd st y=some x)(hd:kt.A22 x=some a):E3 st.im y (.d (kt.dv a)):=A9l h (kt.N8 hd)
theorem Ayj{o:Oper}{st:Ad}{t:TypeId}{x y:Operand}{ok:Bool}{K:Out→A3 R}{r:R}(ho:o.op = .lookup t x y ok)(h:Aqc P st t x y ok K=some r):∃out,K out=some r∧Br P o st out:=by
 unfold Aqc at h;split at h
 ·rename_i k hx;split at h
  ·rename_i kt vt es c hk;split at h
   ·rename_i e a0 hm hy;split at h
    ·rename_i a z ha hz;obtain⟨l,i,zv,z1,z2,z3,z4⟩:=Aug hz;refine⟨_,h,⟨?_,⟨rfl,rfl,rfl,fun X hX=>?_⟩,fun _ _ _ h=>h⟩⟩
     ·intro p hp;simp only[B0,Bkv,Bll,Bkq,Blh,Bma]at hp;rcases hp with rfl|rfl
      ·exact Aj hx
      ·exact Sg hy ha
     ·have:=B3t (P:=P) (X:=X) (k:=k) (es:=es) (clock:=c) (a:=a) ho (Qf hm) z1 z2 z3 z4 ((hX k (by simp)).trans (Vi hk));rw[B11];exact this
    ·cases h
   ·cases h
  ·cases h
 ·rename_i hx;split at h
  ·rename_i ts a0 hm hy;split at h
   ·rename_i e he;split at h
    ·rename_i a z ha hz;obtain⟨l,i,zv,z1,z2,z3,z4⟩:=Aug hz;refine⟨_,h,A8 ?_ fun X=>?_⟩
     ·intro p hp;simp only[B0,Bkv,Bll,Bkq,Blh,Bma]at hp;rcases hp with rfl|rfl
      ·exact Aj hx
      ·exact Sg hy ha
     ·rw[B11];exact Al9 (a:=a) ho (Qf he) z1 z2 z3 z4
    ·cases h
   ·cases h
  ·cases h
 ·cases h
def A0b(P:Program)(st:Ad)(t:TypeId)(x y u:Operand)(K:Out→A3 R):A3 R :=
 match Av st x with
 |some (.nm k .m)=>match lk k st.objs with
  |some (.map kt vt es c)=>match Vh P t kt,xd st y,xd st u with
   |some e,some a,some v=>match kt.A22 a,vt.A22 v with
    |some a,some v=>K ⟨.put k (.map kt vt (Jx a v c es) (R9 a es c)),.d (.v undef),[(x,.nm k .m),(y,.d (kt.xv a)),(u,.d (vt.xv v))],K6 k (.map kt vt (Jx a v c es) (R9 a es c)) st.objs,st.live,[],[k]⟩
    |_,_=>none
   |_,_,_=>none
  |_=>none
 |_=>none
theorem A6i{o:Oper}{st:Ad}{t:TypeId}{x y u:Operand}{K:Out→A3 R}{r:R}(ho:o.op = .mapUpdate t x y u∨o.op = .insert t x y u)(h:A0b P st t x y u K=some r):∃out,K out=some r∧Br P o st out:=by
 unfold A0b at h;split at h
 ·rename_i k hx;split at h
  ·rename_i kt vt es c hk;split at h
   ·rename_i e a0 v0 hm hy hu;split at h
    ·rename_i a v ha hv;refine⟨_,h,⟨?_,⟨⟨Hb hk rfl rfl,rfl⟩,rfl,rfl,fun X hX=>?_⟩,fun j z hj hz=>?_⟩⟩
     ·intro p hp;simp only[B0,Bkv,Bll,Bkq,Blh,Bma]at hp;rcases hp with rfl|rfl|rfl
      ·exact Aj hx
      ·exact Sg hy ha
      ·exact Sg hu hv
     ·exact Aqa (P:=P) (X:=X) (k:=k) (es:=es) (clock:=c) (a:=a) (v:=v) ho (Qf (vt:=vt) hm) (hX.trans (Vi hk))
     ·simp only[Bkq,Blh,Bma]at hj
      rwa [Jl _ _ _ _ hj]at hz
    ·cases h
   ·cases h
  ·cases h
 ·cases h
def Aqd(P:Program)(st:Ad)(ts:Array TypeId)(x y:Operand)(K:Out→A3 R):A3 R :=
 match ts[0]? with
 |some t=>match Av st x with
  |some (.nm k .m)=>match lk k st.objs with
   |some (.map kt vt es c)=>match Vh P t kt,xd st y with
    |some e,some a=>match kt.A22 a with
     |some a=>K ⟨.put k (.map kt vt (Aq8 a es) c),.E2 [],[(x,.nm k .m),(y,.d (kt.xv a))],K6 k (.map kt vt (Aq8 a es) c) st.objs,st.live,[],[k]⟩
     |none=>none
    |_,_=>none
   |_=>none
  |some (.d (.v (.map none)))=>match A2i P t,xd st y with
   |some ks,some a=>match Vh P t ks.1,ks.1.A22 a with
    |some e,some a=>K (B5 st (.E2 []) [(x,.d (.v (.map none))),(y,.d (ks.1.xv a))])
    |_,_=>none
   |_,_=>none
  |_=>none
 |none=>none
theorem Ala{o:Oper}{X:A7}{ts:Array TypeId}{t e:TypeId}{kt vt:Ty}{x y:Operand}{a:kt.T}(ho:o.op = .call { callee:=.builtin .delete,args:=#[x,y],argTypes:=ts })(h0:ts[0]? = some t)(hm:Al8 P t kt vt e) :
  Bp P o [(x,.d (.sc (.map none))),(y,.d (kt.dv a))] X X [] (.E2 []) :=
 .quiet fun _ _ g w ac hr Aq=>by
  obtain⟨kty,hu,hK⟩:=hm.und;have h1:=(H9 Aq).Al;have h2:ac.eval y=kt.Ea a:=by
   have:=T9 Aq;cases this with
   |d _ _ h=>exact kt.Vg hK.key h
  simp only at h1;have hc:=hK.check true 9998 a w;refine⟨.tuple #[],?_,.E2 [] #[] rfl (by simp)⟩;simp[execOp,ho,resolve,invoke,builtin,Builtin.delete_,h0,h1,h2,Bl0 hu,hc]
theorem Ayk{o:Oper}{st:Ad}{ts:Array TypeId}{x y:Operand}{K:Out→A3 R}{r:R}(ho:o.op = .call { callee:=.builtin .delete,args:=#[x,y],argTypes:=ts })(h:Aqd P st ts x y K=some r):∃out,K out=some r∧Br P o st out:=by
 unfold Aqd at h;split at h
 ·rename_i t h0;split at h
  ·rename_i k hx;split at h
   ·rename_i kt vt es c hk;split at h
    ·rename_i e a0 hm hy;split at h
     ·rename_i a ha;refine⟨_,h,⟨?_,⟨⟨Hb hk rfl rfl,rfl⟩,rfl,rfl,fun X hX=>?_⟩,fun j z hj hz=>?_⟩⟩
      ·intro p hp;simp only[B0,Bkv,Bll,Bkq,Blh,Bma]at hp;rcases hp with rfl|rfl
       ·exact Aj hx
       ·exact Sg hy ha
      ·exact B3u (P:=P) (X:=X) (k:=k) (es:=es) (clock:=c) (a:=a) ho h0 (Qf (vt:=vt) hm) (hX.trans (Vi hk))
      ·simp only[Bkq,Blh,Bma]at hj
       rwa [Jl _ _ _ _ hj]at hz
     ·cases h
    ·cases h
   ·cases h
  ·rename_i hx;split at h
   ·rename_i ks a0 hm hy;split at h
    ·rename_i e a he ha;refine⟨_,h,A8 ?_ fun X=>?_⟩
     ·intro p hp;simp only[B0,Bkv,Bll,Bkq,Blh,Bma]at hp;rcases hp with rfl|rfl
      ·exact Aj hx
      ·exact Sg hy ha
     ·exact Ala (a:=a) ho h0 (Qf (vt:=ks.2) he)
    ·cases h
   ·cases h
  ·cases h
 ·cases h
def Beh:XV→Bool
 |.nm _ .m=>true
 |.d (.v (.map none))=>true
 |_=>false
def Aqe(P:Program)(st:Ad)(ts:Array TypeId)(x:Operand)(K:Out→A3 R):A3 R :=
 match ts[0]? with
 |some t=>match Av st x with
  |some (.nm k .m)=>match lk k st.objs with
   |some (.map kt vt es c)=>match Vh P t kt with
    |some e=>K ⟨.look [k],.d (.i .i64 es.length),[(x,.nm k .m)],st.objs,st.live,[],[]⟩
    |none=>none
   |_=>none
  |some (.d (.v (.map none)))=>match A2i P t with
   |some ks=>K (B5 st (.d (.i .i64 0)) [(x,.d (.v (.map none)))])
   |none=>none
  |_=>none
 |none=>none
theorem Ahq{t:TypeId}{ks:Ty×Ty}(h:A2i P t=some ks):∃k e,P.underlying t=some (.map k e):=by
 unfold A2i at h;split at h
 ·rename_i k e hu;exact⟨k,e,hu⟩
 ·cases h
theorem Ayl{o:Oper}{st:Ad}{ts:Array TypeId}{x:Operand}{K:Out→A3 R}{r:R}(ho:o.op = .call { callee:=.builtin .len,args:=#[x],argTypes:=ts })(h:Aqe P st ts x K=some r):∃out,K out=some r∧Br P o st out:=by
 unfold Aqe at h;split at h
 ·rename_i t h0;split at h
  ·rename_i k hx;split at h
   ·rename_i kt vt es c hk;split at h
    ·rename_i e hm;refine⟨_,h,⟨Cg hx,⟨rfl,rfl,rfl,fun X hX=>?_⟩,fun _ _ _ h=>h⟩⟩;exact Ayi (P:=P) (X:=X) (k:=k) (es:=es) (clock:=c) ho h0 (Qf (vt:=vt) hm) ((hX k (by simp)).trans (Vi hk))
    ·cases h
   ·cases h
  ·rename_i hx;split at h
   ·rename_i ks hm;obtain⟨kk,e,hu⟩:=Ahq hm;refine⟨_,h,A8 (Cg hx) fun X=>?_⟩;refine .quiet fun _ _ g w ac hr Aq=>?_
    have h1:=(H9 Aq).Al;simp only at h1;refine⟨.int .i64 0,?_,.Fh _ _ _⟩;simp[execOp,ho,resolve,invoke,builtin,Builtin.len_,h0,h1,Bl0 hu,goInt]
   ·cases h
  ·cases h
 ·cases h
def Acl(P:Program)(st:Ad)(o:Oper)(t:TypeId)(x:Operand)(K:Out→A3 R):A3 R :=
 match Av st x,newName o with
 |some (.nm k .m),some m=>match lk k st.objs with
  |some (.map kt vt es c)=>match Vh P t kt with
   |some e=>cond (Nat.beq k m) none (cond (fresh m st) (K ⟨.all,.nm m (.p 0),[(x,.nm k .m)],(m,.Jg k c [] c)::st.objs,st.live,[m],[m]⟩) none)
   |none=>none
  |_=>none
 |some (.d (.v (.map none))),some m=>match A2i P t with
  |some ks=>cond (fresh m st) (K ⟨.all,.nm m (.p 0),[(x,.d (.v (.map none)))],(m,.Dt)::st.objs,st.live,[m],[m]⟩) none
  |none=>none
 |_,_=>none
theorem Aqf{o:Oper}{st:Ad}{t:TypeId}{x:Operand}{K:Out→A3 R}{r:R}(ho:o.op = .range t x)(h:Acl P st o t x K=some r):∃out,K out=some r∧Br P o st out:=by
 unfold Acl at h;split at h
 ·rename_i k m hx hm;split at h
  ·rename_i kt vt es c hk;split at h
   ·rename_i e he;cases hne:Nat.beq k m with
    |true=>simp[hne]at h
    |false =>
    cases hf:fresh m st with
    |false=>simp[hne,hf]at h
    |true =>
     simp only[hne,hf,Bkn,Bko]at h;obtain⟨h1,h2⟩:=M9 hf;refine⟨_,h,⟨Cg hx,?_,fun j z hj hz=>?_⟩⟩
     ·exact Aqb (P:=P) (X:=st.X) (k:=k) (m:=m) (es:=es) (clock:=c) ho (Qf (vt:=vt) he) (Vi hk) (Ma h1) h2 (Bmw hne)
     ·rw[Cq (by simpa using hj)]at hz;exact hz
   ·cases h
  ·cases h
 ·rename_i m hx hm;split at h
  ·rename_i ks hks;cases hf:fresh m st with
   |false=>simp[hf]at h
   |true =>
    simp only[hf,Bkn]at h;obtain⟨h1,h2⟩:=M9 hf;obtain⟨kk,e,hu⟩:=Ahq hks;refine⟨_,h,⟨Cg hx,?_,fun j z hj hz=>?_⟩⟩
    ·intro nm Ek B g w ac hr Aq next Q hn
     have e1:=(H9 Aq).Al;simp only at e1;obtain⟨r1,r2⟩:=hr.newObj (Ma h1) h2 (.mapIter none 0 #[] 0) .Dt (by
      intro g' w' _ hw;exact .Dt hw)
     unfold Oper.wp;have:(execOp ac.eval o).run P w = .ok (.value (.pointer (some ⟨w.heap.size,0,none⟩))) (w.alloc (.mapIter none 0 #[] 0)):=by simp only[execOp,ho,e1];simp[Instr.range,Bl0 hu]
     rw[this];refine hn _ _ _ r1 r2 ?_;show RA _ _ (.ptr m 0) _;have:=RA.ptr (g:={ g with ρ:=Nj g.ρ m w.heap.size }) (w:=w.alloc (.mapIter none 0 #[] 0)) m 0;simpa[Aa]using this
    ·rw[Cq (by simpa using hj)]at hz;exact hz
  ·cases h
 ·cases h
def Ef{α R:Type}(l:A2 α)(z:A3 R)(f:α→A3 R):A3 R :=
 open Classical in if l = [] then z else if h : ∃ r, ∀ x ∈ l, f x = some r then some h.choose else none
theorem Pt{α R:Type}(z:A3 R)(f:α→A3 R):Ef [] z f=z:=by simp[Ef]
theorem Aym{α R:Type}{l:A2 α}{z:A3 R}{f:α→A3 R}{r:R}(h:Ef l z f=some r):(l=[]∧z=some r)∨(l≠[]∧∀x∈l,f x=some r):=by
 unfold Ef at h;split at h
 ·rename_i hl;exact .inl ⟨hl,h⟩
 ·rename_i hl;split at h
  ·rename_i hx;right;refine⟨hl,?_⟩;have:=hx.choose_spec;cases h;exact this
  ·cases h
theorem Si{α R:Type}{l:A2 α}{z:A3 R}{f:α→A3 R}{r:R}(hl:l≠[])(h:∀x∈l,f x=some r):Ef l z f=some r:=by unfold Ef;rw[Blj hl];have hx:∃r,∀x∈l,f x=some r:=⟨r,h⟩;rw[dif_pos hx];obtain⟨a,ha⟩:=List.exists_mem_of_ne_nil l hl;have h1:=hx.choose_spec a ha;rw[h a ha]at h1;exact h1.symm
def OpD(P:Program)(o:Oper)(rd:A2 (Operand×AV))(X:A7)(outs:A2 (AV×A7)):Prop :=
 ∀(nm:A2 Nat),(∀j∈nm,j<1000)→∀(B:Bl) (g:Gh) (w:World) (a:Act),HR nm B g w X→(∀p∈rd,RA g w p.2 (a.eval p.1)) →
  ∀(next:Act→World→Prop) (Q:Exit→Act→World→Prop),
   (∀p∈outs,∀g' w' v,HR nm B g' w' p.2→Trans [] g w g' w'→RA g' w' p.1 v→next (a.put o.dst v) w')→o.wp P a w next Q
theorem Rw.Ef{S:Sig}{ops:Array Oper}{i:Nat}{Bkh:A2 Nat}{st:St}{K:St→Prop}{o:Oper}{rd:A2 (Operand×AV)}{outs:A2 (AV×A7)}(ho:ops[i]? = some o)(hg:Guard ops st o.guard true)(ht:OpD P o rd st.X outs)(hs:Kk st rd)(hd:Jh S.N o.dst=true)
  (h:∀p∈outs,Rw P S ops Bkh ⟨Du o.dst p.1 st.env,p.2⟩ K):Rw P S ops (i::Bkh) st K:=by
 intro B g w a Q hsr hq;unfold wpOps;simp only[ho,hg.wanted hsr,Bn5];refine .inl (ht S.names S.small B g w a hsr.hr (fun p hp=>(hs.all p hp).ra hsr) _ Q ?_);intro p hp g' w' v hX htr hv;exact h p hp B g' w' _ Q (hsr.put htr rfl hX hd hv) hq
def B4{α:Type}(seen:A2 Nat)(es:A2 (Nat×α)):A2 (Nat×α):=es.filter fun e=>!seen.contains e.1
def Io{α:Type}(since last:Nat)(es:A2 (Nat×α)):Bool:=es.all fun e=>decide (e.1<since)&&decide (e.1<last)
section
variable{o:Oper}{X:A7}{kt vt:Ty}
theorem Qg{w:World}{r:Nat}{x:A3 Nat}{a c:Nat}{s:Array Nat}(hr:w.heap[r]? = some (.mapIter x a s c)):(getObj r).run P w = .ok (.mapIter x a s c) w:=by simp[getObj,Sem.run,hr]
theorem A2j{w:World}{r:Nat}{x:A3 Nat}{a c:Nat}{s:Array Nat}(hr:w.heap[r]? = some (.mapIter x a s c))(o':Obj):(setObj r o').run P w = .ok () { w with heap:=w.heap.setIfInBounds r o' }:=by simp[setObj,Sem.run,hr]
theorem Acm{g:Gh}{w:World}{b k since last:Nat}{seen:Array Nat}(h:C3 g w b (.Jg k since seen last)):w.heap[b]? = some (.mapIter (some (g.ρ k)) since seen last):=by
 cases h with
 |Jg _ _ _ _ h=>exact h
theorem Amr{g:Gh}{w:World}{b:Nat}{es:Fa kt vt}{clock:Nat}{By:Array MapEntry}{since last:Nat}{seen:A2 Nat}(hw:A7k kt vt g w b es clock By)(hold:Io since last es=true) :
  (By.filter fun e=>!(seen.toArray.contains e.born)).size=(B4 seen es).length ∧
  (∀(i:Nat) x e,(B4 seen es)[i]? = some x→(By.filter fun e=>!(seen.toArray.contains e.born))[i]? = some e→e.born=x.1∧e.key=kt.Ea x.2.1∧RD g.γ w (vt.dv x.2.2) e.val) ∧
  (∀e∈By,e.born<since∧e.born<last):=by
 have hb:∀e∈By.toList,∃x∈es,e.born=x.1∧e.key=kt.Ea x.2.1∧RD g.γ w (vt.dv x.2.2) e.val:=by
  intro e he;obtain⟨i,hi⟩:=Bn1.1 he;have Bs:i<es.length:=by have:=(Bku.1 hi).1;rw[hw.len];simpa using this
  exact⟨es[i],Bmc Bs,hw.at' i es[i] e (by simp[Bs]) (by simpa using hi)⟩
 have hall:∀e∈By,e.born<since∧e.born<last:=by intro e he;obtain⟨x,hx,h1,_⟩:=hb e (by simpa using he);have:=Bly.1 hold x hx;simp only[Bls,Bnp]at this;rw[h1];exact this
 have B0u:∀(l:A2 MapEntry) (m:A2 (Nat×kt.T×vt.T)),l.length=m.length→(∀(i:Nat) x e,m[i]? = some x→l[i]? = some e→e.born=x.1∧e.key=kt.Ea x.2.1∧RD g.γ w (vt.dv x.2.2) e.val) →
   (l.filter fun e=>!(seen.toArray.contains e.born)).length=(B4 seen m).length ∧
   ∀(i:Nat) x e,(B4 seen m)[i]? = some x→(l.filter fun e=>!(seen.toArray.contains e.born))[i]? = some e→e.born=x.1∧e.key=kt.Ea x.2.1∧RD g.γ w (vt.dv x.2.2) e.val:=by
  intro l;induction l with
  |nil =>
   intro m hm _;cases m with
   |nil=>exact⟨rfl,by simp[B4]⟩
   |cons _ _=>simp at hm
  |cons e l ih =>
   intro m hm hr;cases m with
   |nil=>simp at hm
   |cons x m =>
    obtain⟨i1,i2⟩:=ih m (by simpa using hm) (fun i y q h1 h2=>hr (i+1) y q (by simpa using h1) (by simpa using h2));have h0:=hr 0 x e rfl rfl;have hc:seen.toArray.contains e.born=seen.contains x.1:=by rw[h0.1];simp
    unfold B4;rw[Bnk,Bnk,hc];cases seen.contains x.1 with
    |true=>simpa[B4]using And.intro i1 i2
    |false =>
     simp only[Bno,Bn5,Blg];refine⟨by simpa[B4]using i1,?_⟩;intro i y q h1 h2;cases i with
     |zero=>simp at h1 h2;subst h1;subst h2;exact h0
     |succ i=>exact i2 i y q (by simpa[B4]using h1) (by simpa using h2)
 obtain⟨p1,p2⟩:=B0u By.toList es (by simpa using hw.len.symm) (fun i x e hx he=>hw.at' i x e hx (by simpa using he));refine⟨?_,?_,hall⟩
 ·rw[← p1,← Bmv,Array.toList_filter]
 ·intro i x e hx he;refine p2 i x e hx ?_;rw[← Bml,Array.toList_filter]at he;exact he
theorem Aui{x:Operand}{m k since last clock:Nat}{seen:A2 Nat}{es:Fa kt vt}(ho:o.op = .next x false)(Rn:kt.key=true)(hm:X.objs.lookup m=some (.Jg k since seen.toArray last))(hk:X.objs.lookup k=some (A1i kt vt es clock))
  (hold:Io since last es=true) (hne:B4 seen es≠[]) :
  OpD P o [(x,.ptr m 0)] X ((B4 seen es).map fun e=>(.E2 [.d (.sc (.bool true)),.d (kt.dv e.2.1),.d (vt.dv e.2.2)],⟨Ab.setObj m (.Jg k since (seen++[e.1]).toArray clock) X.objs,X.live⟩)):=by
 intro nm Ek B g w ac hr Aq next Q hn
 have e1:=(H9 Aq).Is;simp only at e1;have hb:=Acm (hr.objs m _ hm);obtain⟨By,hw⟩:=Xa Rn (hr.objs k _ hk);obtain⟨f1,f2,f3⟩:=Amr (seen:=seen) hw hold;have N5:=Qg (P:=P) hb;have B7j:=Bne (P:=P) hw.heap;have Xv:=A2j (P:=P) hb;have Bs:g.ρ m<w.heap.size:=(Blf.1 hb).1;obtain⟨L,hL⟩:∃L,L=By.filter fun e=>!(seen.toArray.contains e.born):=⟨_,rfl⟩
 rw[← hL]at f1 f2;have Auj:0<L.size:=by rw[f1];exact Bol.2 hne
 have Bgo:L.filter (fun e=>decide (e.born<since))=L:=by rw[Array.filter_eq_self];intro e he;rw[hL]at he;exact Bl6 (f3 e (Array.mem_filter.1 he).1).1
 have Bgp:L.filter (fun e=>decide (e.born≥since))=#[]:=by rw[Array.filter_eq_empty_iff];intro e he;rw[hL]at he;have:=(f3 e (Array.mem_filter.1 he).1).1;simp;omega
 have Bei:(!seen.toArray.isEmpty && !By.isEmpty&&By.all fun e=>decide (e.born≥last))=false:=by
  cases hae:By.isEmpty with
  |true=>simp
  |false =>
   have A5k:0<By.size:=by
    cases hs:By.size with
    |zero =>have:By=#[]:=Bm8 hs;subst this;simp at hae
    |succ n=>omega
   have:(By.all fun e=>decide (e.born≥last))=false:=by rw[Bp0];intro h;have h2:=Array.all_eq_true.1 h 0 A5k;have h3:=(f3 By[0] (Br2 A5k)).2;simp at h2;omega
   rw[this];simp
 have pick:∀(j:Nat) (hj:j<L.size) (w1:World),(HR nm B g w1 X∧Trans [] g w g w1∧w1.heap=w.heap)→
   ∀(C2:(execOp ac.eval o).run P w = .ok (.value (.tuple #[.bool true,L[j].key,L[j].val])) { w1 with heap:=w1.heap.setIfInBounds (g.ρ m) (.mapIter (some (g.ρ k)) since (seen.toArray.push L[j].born) clock) }),Oper.upon P o ac next Q ((execOp ac.eval o).run P w):=by
  intro j hj w1 ⟨Yk,ht1,hh⟩ C2;have hju:j<(B4 seen es).length:=by rw[← f1];exact hj
  obtain⟨q1,q2,q3⟩:=f2 j (B4 seen es)[j] L[j] (by simp[hju]) (by simp[hj]);have hb1:w1.heap[g.ρ m]? = some (.mapIter (some (g.ρ k)) since seen.toArray last):=by rw[hh];exact hb
  obtain⟨r1,r2⟩:=Yk.write (w':={ w1 with heap:=w1.heap.setIfInBounds (g.ρ m) (.mapIter (some (g.ρ k)) since (seen.toArray.push L[j].born) clock) }) (o':=.Jg k since (seen++[(B4 seen es)[j].1]).toArray clock) hm (by simp) ⟨rfl,rfl,rfl,Bl1 _⟩
   (by intro b G0;simp[Bnf G0]) (fun _=>.Jg _ _ _ _ (by simp[hh,Bs,q1])) (by
    intro sh hsh;simp[World.shape?,hb1]at hsh)
  rw[C2];refine hn _ (Bl3 (f:=fun e:Nat×kt.T×vt.T=>((.E2 [.d (.sc (.bool true)),.d (kt.dv e.2.1),.d (vt.dv e.2.2)],⟨Ab.setObj m (.Jg k since (seen++[e.1]).toArray clock) X.objs,X.live⟩):AV×A7)) (Bmc hju)) g _ _ r1 (ht1.trans r2) ?_;have hle:=(ht1.trans r2).le;refine .E2 _ _ rfl fun i c u hc hu=>?_
  rcases i with _|_|_|i
  ·simp at hc hu;subst hc;subst hu;exact .Fh _ _ _
  ·simp at hc hu;subst hc;subst hu;refine .d _ _ ?_;rw[q2];exact kt.B0z _ Rn
  ·simp at hc hu;subst hc;subst hu;exact .d _ _ (q3.mono hle)
  ·simp at hc
 have M5:∀(j:Nat) (hj:j<L.size),((#[]:Array (A3 MapEntry))++(L++#[]).map some)[j]? = some (some L[j]):=by intro j hj;simp[hj]
 have Bit:L.isEmpty=false:=by
  cases h:L.isEmpty with
  |false=>rfl
  |true =>
   have:L=#[]:=by simpa using h
   rw[this]at Auj;simp at Auj
 unfold Oper.wp;have Bcx:∀(w1:World) (j:Nat) (hj:j<L.size),w1.heap=w.heap→(choose (.mapNext L.size)).run P w = .ok j w1 →
   (execOp ac.eval o).run P w = .ok (.value (.tuple #[.bool true,L[j].key,L[j].val])) { w1 with heap:=w1.heap.setIfInBounds (g.ρ m) (.mapIter (some (g.ρ k)) since (seen.toArray.push L[j].born) clock) }:=by
  intro w1 j hj hh hch;have Bgq:=A2j (P:=P) (w:=w1) (r:=g.ρ m) (by rw[hh];exact hb);simp only[execOp,ho,e1,Instr.next,Blo,N5,B7j,Blk,Bei,← hL,Bgo,Bgp,Bit,Bmi,Bn2,Bo1];have G9:((#[]:Array (A3 MapEntry))++(L++#[]).map some).size=L.size:=by simp
  rw[G9,hch];simp only[Blk,M5 j hj,Blo,Bgq,Bo1]
 have hch:=run_choose_drew P w (.mapNext L.size);by_cases hf:(Question.mapNext L.size).forced=true
 ·rw[Blv hf]at hch;exact pick 0 Auj w ⟨hr,.refl _ _ _,rfl⟩ (Bcx w 0 Auj rfl hch)
 ·rw[Blj hf]at hch;have hj:(Question.mapNext L.size).cut (w.tape w.drawn (.mapNext L.size))<L.size:=Bqb _ Auj;obtain⟨d1,d2⟩:=hr.drew;exact pick _ hj w.drew ⟨d1,d2,rfl⟩ (Bcx w.drew _ hj rfl hch)
theorem Aqg{x:Operand}{m k since last clock:Nat}{seen:A2 Nat}{es:Fa kt vt}(ho:o.op = .next x false)(Rn:kt.key=true)(hm:X.objs.lookup m=some (.Jg k since seen.toArray last))(hk:X.objs.lookup k=some (A1i kt vt es clock))
  (hold:Io since last es=true) (hne:B4 seen es=[]):Bp P o [(x,.ptr m 0)] X X [] (.E2 [.d (.sc (.bool false))]) :=
 .quiet fun _ _ g w ac hr Aq=>by
  have e1:=(H9 Aq).Is;simp only at e1;have hb:=Acm (hr.objs m _ hm);obtain⟨By,hw⟩:=Xa Rn (hr.objs k _ hk);obtain⟨f1,f2,f3⟩:=Amr (seen:=seen) hw hold;have N5:=Qg (P:=P) hb;have B7j:=Bne (P:=P) hw.heap;have hL:(By.filter fun e=>!(seen.toArray.contains e.born))=#[]:=Bm8 (by rw[f1,hne];rfl);have Bei:(!seen.toArray.isEmpty && !By.isEmpty&&By.all fun e=>decide (e.born≥last))=false:=by
   cases hae:By.isEmpty with
   |true=>simp
   |false =>
    have A5k:0<By.size:=by
     cases hs:By.size with
     |zero =>have:By=#[]:=Bm8 hs;subst this;simp at hae
     |succ n=>omega
    have:(By.all fun e=>decide (e.born≥last))=false:=by rw[Bp0];intro h;have h2:=Array.all_eq_true.1 h 0 A5k;have h3:=(f3 By[0] (Br2 A5k)).2;simp at h2;omega
    rw[this];simp
  refine⟨.tuple #[.bool false],?_,?_⟩
  ·simp only[execOp,ho,e1,Instr.next,Blo,N5,B7j,Blk,Bei,hL,Bmi,Bn2,Bo1];have hch:=run_choose_drew P w (.mapNext 1);rw[Blv (by rfl)]at hch;simp[Question.forced]
  ·refine .E2 _ _ rfl fun i c u hc hu=>?_
   rcases i with _|i
   ·simp at hc hu;subst hc;subst hu;exact .Fh _ _ _
   ·simp at hc
theorem Auk{x:Operand}{m:Nat}(ho:o.op = .next x false)(hm:X.objs.lookup m=some .Dt):Bp P o [(x,.ptr m 0)] X X [] (.E2 [.d (.sc (.bool false))]) :=
 .quiet fun _ _ g w ac hr Aq=>by
  have e1:=(H9 Aq).Is;simp only at e1;have hb:w.heap[g.ρ m]? = some (.mapIter none 0 #[] 0):=by
   cases hr.objs m _ hm with
   |Dt h=>exact h
  have N5:=Qg (P:=P) hb;refine⟨.tuple #[.bool false],?_,?_⟩
  ·simp only[execOp,ho,e1,Instr.next,Blo,N5,Blk,Bo1]
  ·refine .E2 _ _ rfl fun i c u hc hu=>?_
   rcases i with _|i
   ·simp at hc hu;subst hc;subst hu;exact .Fh _ _ _
   ·simp at hc
end
def Ae9(st:Ad)(x:Operand)(m k since clock:Nat)(seen:A2 Nat)(kt vt:Ty)(e:Nat×kt.T×vt.T):Out :=
 ⟨.all,.E2 [.d (.b true),.d (kt.xv e.2.1),.d (vt.xv e.2.2)],[(x,.nm m (.p 0))],K6 m (.Jg k since (seen++[e.1]) clock) st.objs,st.live,[],[m]⟩
def Ayn(st:Ad)(x:Operand)(K:Out→A3 R):A3 R :=
 match Av st x with
 |some (.nm m (.p 0))=>match lk m st.objs with
  |some (.Jg k since seen last)=>match lk k st.objs with
   |some (.map kt vt es clock)=>cond kt.key (cond (Io since last es)
     (Ef (B4 seen es) (K ⟨.look [m,k],.E2 [.d (.b false)],[(x,.nm m (.p 0))],st.objs,st.live,[],[]⟩) fun e=>K (Ae9 st x m k since clock seen kt vt e)) none) none
   |_=>none
  |some .Dt=>K ⟨.look [m],.E2 [.d (.b false)],[(x,.nm m (.p 0))],st.objs,st.live,[],[]⟩
  |_=>none
 |_=>none
structure Bcy(P:Program)(o:Oper)(st:Ad)(rd:List (Operand×XV))(outs:List Out):Prop where
 Ri:∀p∈B0 rd,E3 st.im p.1 p.2
 F:∀out∈outs,out.F=[]
 op:OpD P o (B0 rd) st.X (outs.map fun out=>(out.res.a,out.X))
 ol:∀out∈outs,∀k x,k∉out.ol→lk k out.objs=some x→lk k st.objs=some x
theorem B3v{o:Oper}{st:Ad}{x:Operand}{K:Out→A3 R}{r:R}(ho:o.op = .next x false)(h:Ayn st x K=some r):(∃out,K out=some r∧Br P o st out)∨∃rd outs,(∀out∈outs,K out=some r)∧Bcy P o st rd outs:=by
 unfold Ayn at h;split at h
 ·rename_i m hx;split at h
  ·rename_i k since seen last hm;split at h
   ·rename_i kt vt es clock hk;cases Rn:kt.key with
    |false=>simp[Rn]at h
    |true =>
    cases hold:Io since last es with
    |false=>simp[Rn,hold]at h
    |true =>
     simp only[Rn,hold,Bkn]at h;have T4:st.X.objs.lookup m=some (.Jg k since seen.toArray last):=Vi hm;have Lk:st.X.objs.lookup k=some (A1i kt vt es clock):=Vi hk;rcases Aym h with ⟨hl,hz⟩|⟨hl,hf⟩
     ·left;refine⟨_,hz,⟨Cg hx,⟨rfl,rfl,rfl,fun X hX=>?_⟩,fun _ _ _ h=>h⟩⟩;exact Aqg ho Rn ((hX m (by simp)).trans T4) ((hX k (by simp)).trans Lk) hold hl
     ·right;refine⟨[(x,.nm m (.p 0))],(B4 seen es).map (Ae9 st x m k since clock seen kt vt),?_,⟨Cg hx,?_,?_,?_⟩⟩
      ·intro out Afh;obtain⟨e,he,rfl⟩:=Bl2.1 Afh;exact hf e he
      ·intro out Afh;obtain⟨e,he,rfl⟩:=Bl2.1 Afh;rfl
      ·have:=Aui (P:=P) ho Rn T4 Lk hold hl;rw[Bnh];have e2:(fun e:Nat×kt.T×vt.T=>(((Ae9 st x m k since clock seen kt vt e).res.a,(Ae9 st x m k since clock seen kt vt e).X):AV×A7))=fun e=>(.E2 [.d (.sc (.bool true)),.d (kt.dv e.2.1),.d (vt.dv e.2.2)],⟨Ab.setObj m (.Jg k since (seen++[e.1]).toArray clock) st.X.objs,st.X.live⟩):=by funext e;have hp:X2 m (.Jg k since (seen++[e.1]) clock) st.objs=true:=Hb hm rfl rfl;simp only[Ae9,Out.X,U6 hp];rfl
       show OpD P o _ st.X ((B4 seen es).map fun e=>((Ae9 st x m k since clock seen kt vt e).res.a,(Ae9 st x m k since clock seen kt vt e).X));rw[e2];exact this
      ·intro out Afh j z hj hz;obtain⟨e,he,rfl⟩:=Bl2.1 Afh;simp only[Ae9,Bkq,Blh,Bma]at hj hz
       rwa [Jl _ _ _ _ hj]at hz
   ·cases h
  ·rename_i hm;left;refine⟨_,h,⟨Cg hx,⟨rfl,rfl,rfl,fun X hX=>?_⟩,fun _ _ _ h=>h⟩⟩;exact Auk ho ((hX m (by simp)).trans (Vi hm))
  ·cases h
 ·cases h
end
noncomputable abbrev Aul(kt vt:Ty):Type:=Nat×kt.T×Bool×List vt.T
noncomputable abbrev Jy(kt vt:Ty):Type:=A2 (Aul kt vt)
def Re{kt vt:Ty}(es:Jy kt vt):Fa kt (.sl vt):=es.map fun e=>(e.1,e.2.1,e.2.2.2)
def Yx{kt vt:Ty}(a:kt.T):Jy kt vt→A3 (Nat×Bool×List vt.T)
 |[]=>none
 |e::r=>bif kt.eqv a e.2.1 then some (e.1,e.2.2)else Yx a r
def K7{kt vt:Ty}(a:kt.T)(v:List vt.T)(f:Bool)(clock:Nat):Jy kt vt→Jy kt vt
 |[]=>[(clock,a,f,v)]
 |e::r=>bif kt.eqv a e.2.1 then (e.1,a,f,v)::r else e::K7 a v f clock r
def Py{kt vt:Ty}(a:kt.T):Jy kt vt→Jy kt vt
 |[]=>[]
 |e::r=>bif kt.eqv a e.2.1 then (e.1,e.2.1,false,e.2.2.2)::r else e::Py a r
def Ahr{kt vt:Ty}(a:kt.T)(es:Jy kt vt):List vt.T:=match Yx a es with|some e=>e.2.2|none=>[]
def Aea{kt vt:Ty}(a:kt.T)(es:Jy kt vt):Bool:=match Yx a es with|some e=>e.2.1|none=>true
def B3w{kt vt:Ty}(a:kt.T)(es:Jy kt vt):Bool:=match Yx a es with|some _=>true|none=>false
def Tr{kt vt:Ty}(a:kt.T)(es:Jy kt vt)(clock:Nat):Nat:=match Yx a es with|some e=>e.1|none=>clock
section
variable{kt vt:Ty}
theorem Ahs(es:Jy kt vt):(Re es).map (·.2.1)=es.map (·.2.1):=by simp[Re,Bnh,Bnz]
theorem Aqh(a:kt.T)(v:List vt.T)(f:Bool)(c:Nat):∀es:Jy kt vt,Re (K7 a v f c es)=Jx a (vt:=.sl vt) v c (Re es)
 |[]=>rfl
 |e::r=>by
  have ih:=Aqh a v f c r;simp only[K7,Re,Bkv,Jx]at ih⊢;cases kt.eqv a e.2.1 with
  |true=>rfl
  |false=>simp only[Bko,Bkv,ih]
theorem Aqi(a:kt.T):∀es:Jy kt vt,Re (Py a es)=Re es
 |[]=>rfl
 |e::r=>by
  have ih:=Aqi a r;simp only[Py,Re,Bkv]at ih⊢;cases kt.eqv a e.2.1 with
  |true=>rfl
  |false=>simp only[Bko,Bkv,ih]
theorem Acn(a:kt.T):∀es:Jy kt vt,Yx a es=(Hx kt a (es.map (·.2.1))).bind fun j=>es[j]?.map fun e=>(e.1,e.2.2)
 |[]=>rfl
 |e::r=>by
  simp only[Yx,Bkv,Hx];cases kt.eqv a e.2.1 with
  |true=>rfl
  |false =>simp only[Bko,Bmi,Bn2,Acn a r];cases Hx kt a (r.map (·.2.1))<;>simp
def Alb(a:kt.T)(es:Jy kt vt):Nat:=(Hx kt a (es.map (·.2.1))).getD es.length
theorem Ams(a:kt.T)(e:Nat×kt.T×Bool×List vt.T)(r:Jy kt vt):Alb a (e::r)=bif kt.eqv a e.2.1 then 0 else Alb a r+1:=by
 simp only[Alb,Bkv,Hx];cases kt.eqv a e.2.1 with
 |true=>rfl
 |false =>simp only[Bmi,Bn2,Bko,Blg];cases Hx kt a (r.map (·.2.1))<;>simp
theorem B12(a:kt.T):∀es:Jy kt vt,(Py a es).length=es.length∧∀(j:Nat) (x':Aul kt vt),(Py a es)[j]? = some x'→∃x:Aul kt vt,es[j]? = some x∧x'.1=x.1∧x'.2.1=x.2.1∧x'.2.2.2=x.2.2.2∧(x'.2.2.1=true→x.2.2.1=true∧j≠Alb a es)
 |[]=>⟨rfl,by simp[Py]⟩
 |e::r=>by
  obtain⟨i1,i2⟩:=B12 a r;rw[Ams];simp only[Py];cases kt.eqv a e.2.1 with
  |true =>
   simp only[Bkn,Blg,Bq3];intro j x' hx;cases j with
   |zero=>simp at hx;subst hx;exact⟨e,rfl,rfl,rfl,rfl,by simp⟩
   |succ j=>simp at hx;exact⟨x',by simpa using hx,rfl,rfl,rfl,fun h=>⟨h,by omega⟩⟩
  |false =>
   simp only[Bko,Blg,i1,Bq3];intro j x' hx;cases j with
   |zero=>simp at hx;subst hx;exact⟨e,rfl,rfl,rfl,rfl,fun h=>⟨h,by omega⟩⟩
   |succ j =>obtain⟨x,a1,a2,a3,a4,a5⟩:=i2 j x' (by simpa using hx);exact⟨x,by simpa using a1,a2,a3,a4,fun h=>⟨(a5 h).1,by have:=(a5 h).2;omega⟩⟩
theorem Aa4(a:kt.T)(v:List vt.T)(f:Bool)(c:Nat):∀(es:Jy kt vt) (j:Nat) (x:Aul kt vt),(K7 a v f c es)[j]? = some x→(j=Alb a es∧x.2.2.1=f∧x.1=Tr a es c)∨(j≠Alb a es∧es[j]? = some x)
 |[],j,x,h=>by
  cases j with
  |zero=>simp[K7]at h;subst h;exact .inl ⟨rfl,rfl,rfl⟩
  |succ j=>simp[K7]at h
 |e::r,j,x,h=>by
  rw[Ams];simp only[K7]at h;cases he:kt.eqv a e.2.1 with
  |true =>
   rw[he]at h;simp only[Bkn]at h⊢;cases j with
   |zero=>simp at h;subst h;exact .inl ⟨rfl,rfl,by simp[Tr,Yx,he]⟩
   |succ j=>exact .inr ⟨by omega,by simpa using h⟩
  |false =>
   rw[he]at h;simp only[Bko]at h⊢;have hb:Tr a (e::r) c=Tr a r c:=by simp[Tr,Yx,he]
   rw[hb];cases j with
   |zero=>exact .inr ⟨by omega,by simpa using h⟩
   |succ j =>
    rcases Aa4 a v f c r j x (by simpa using h)with ⟨h1,h2,h3⟩|⟨h1,h2⟩
    ·exact .inl ⟨by omega,h2,h3⟩
    ·exact .inr ⟨by omega,by simpa using h2⟩
theorem Amt(a:kt.T)(v:List vt.T)(f f':Bool)(c:Nat):∀es:Jy kt vt,(K7 a v f' c es).length=(K7 a v f c es).length∧∀(j:Nat) (x':Aul kt vt),(K7 a v f' c es)[j]? = some x'→∃x:Aul kt vt,(K7 a v f c es)[j]? = some x∧x'.1=x.1∧x'.2.1=x.2.1∧x'.2.2.2=x.2.2.2
 |[]=>by
  refine⟨rfl,fun j x' h=>?_⟩;cases j with
  |zero=>simp[K7]at h;subst h;exact⟨_,rfl,rfl,rfl,rfl⟩
  |succ j=>simp[K7]at h
 |e::r=>by
  obtain⟨i1,i2⟩:=Amt a v f f' c r;simp only[K7];cases kt.eqv a e.2.1 with
  |true =>
   simp only[Bkn,Blg,Bq3];intro j x' h;cases j with
   |zero=>simp at h;subst h;exact⟨_,rfl,rfl,rfl,rfl⟩
   |succ j=>simp at h;exact⟨x',by simpa using h,rfl,rfl,rfl⟩
  |false =>
   simp only[Bko,Blg,i1,Bq3];intro j x' h;cases j with
   |zero=>simp at h;subst h;exact⟨_,rfl,rfl,rfl,rfl⟩
   |succ j =>obtain⟨x,a1,a2⟩:=i2 j x' (by simpa using h);exact⟨x,by simpa using a1,a2⟩
theorem B13{a:kt.T}{es:Jy kt vt}{clock j:Nat}{x:Nat×kt.T×Bool×List vt.T}(hx:es[j]? = some x)(hj:j≠Alb a es)(Bs:∀p∈es,p.1<clock)(hnd:(es.map (·.1)).Nodup):x.1≠Tr a es clock:=by
 unfold Tr;rw[Acn];unfold Alb at hj;cases hk:Hx kt a (es.map (·.2.1)) with
 |none =>have:=Bs x (Bln hx);simp only[Bon];omega
 |some i =>
  rw[hk]at hj;simp only[Boe]at hj;have hi:=X9 hk;rw[Blb]at hi;simp only[Bkp,Bl8 hi,Blq];intro he;obtain⟨hjl,hje⟩:=Bku.1 hx;have hp:=Bmg.1 hnd;rcases Br3 j i with h1|h1|h1
  ·have:=hp j i (by simpa using hjl) (by simpa using hi) h1;simp[hje,he]at this
  ·exact hj h1
  ·have:=hp i j (by simpa using hi) (by simpa using hjl) h1;simp[hje,he]at this
noncomputable abbrev Sj(L:Nat)(kt vt:Ty)(es:Jy kt vt)(clock:Nat):Ob:=(Ac.Ck L kt vt es clock).o
def lT(es:Jy kt vt):B2s:=es.map fun e=>(e.1,A1g (kt.dv e.2.1),e.2.2.1,e.2.2.2.map vt.ds)
structure Aum(kt vt:Ty)(L:Nat)(g:Gh)(w:World)(b:Nat)(es:Jy kt vt)(clock:Nat)(By:Array MapEntry):Prop where
 m:A7k kt (.sl vt) g w b (Re es) clock By
 t:∀(j:Nat) x e,es[j]? = some x→By[j]? = some e→x.2.2.1=true→(g.β L).isSome→Abq g w L x.1 vt.size e.val
theorem B14{L:Nat}{g:Gh}{w:World}{b:Nat}{es:Jy kt vt}{clock:Nat}(hk:kt.key=true)(h:C3 g w b (Sj L kt vt es clock)):∃By,Aum kt vt L g w b es clock By:=by
 cases h with
 |Ck _ _ l c By h1 h2 h3 h4 h5 =>
  have N5:∀(i:Nat) x,es[i]? = some x→(es.map fun e=>(e.1,A1g (kt.dv e.2.1),e.2.2.1,e.2.2.2.map vt.ds))[i]? = some (x.1,A1g (kt.dv x.2.1),x.2.2.1,x.2.2.2.map vt.ds):=fun i x hx=>by rw[Bkt,hx];rfl
  have hat:∀(i:Nat) x e,es[i]? = some x→By[i]? = some e→e.born=x.1∧e.key=kt.Ea x.2.1∧RD g.γ w (.sl vt.size (x.2.2.2.map vt.ds)) e.val:=by intro i x e hx he;obtain⟨a1,a2,a3,_⟩:=h3 i _ e (N5 i x hx) he;rw[kt.Afy _ hk]at a2;exact⟨a1,a2,a3⟩
  have hlen:es.length=By.size:=by simpa using h2
  refine⟨By,⟨h1,by simpa[Re]using hlen,?_,?_,?_,?_⟩,?_⟩
  ·rw[Ahs];apply Bny;intro i;rw[Bkt,Bkt,Bkt,Bml];by_cases hi:i<By.size
   ·have Lp:i<es.length:=by omega
    rw[Bli hi,Bl8 Lp];have:=(hat i es[i] By[i] (by simp[Lp]) (by simp[hi])).2.1;simp[this]
   ·rw[Bnv (by omega),Bmp (by omega)];rfl
  ·intro i x e hx he;simp only[Re,Bkt,Bky]at hx;obtain⟨y,hy,rfl⟩:=hx;exact hat i y e hy he
  ·intro p hp;simp only[Re,Bl2]at hp;obtain⟨y,hy,rfl⟩:=hp;exact h4 _ (Bl3 (f:=fun e:Nat×kt.T×Bool×List vt.T=>(e.1,A1g (kt.dv e.2.1),e.2.2.1,e.2.2.2.map vt.ds)) hy)
  ·simpa[Re,Bnh,Bnz]using h5
  ·intro j x e hx he hf hL;exact(h3 j _ e (N5 j x hx) he).2.2.2 hf hL
theorem Aum.rel{L:Nat}{g:Gh}{w:World}{b:Nat}{es:Jy kt vt}{clock:Nat}{By:Array MapEntry}(hk:kt.key=true)(h:Aum kt vt L g w b es clock By):C3 g w b (Sj L kt vt es clock):=by
 have hf:∀(i:Nat) x,es[i]? = some x→(Re es)[i]? = some (x.1,x.2.1,x.2.2.2):=fun i x hx=>by simp[Re,hx]
 refine .Ck L vt.size _ clock By h.m.heap (by have:=h.m.len;simpa[Re]using this) ?_ ?_ ?_
 ·intro i x e hx he;rw[Bkt,Bky]at hx;obtain⟨y,hy,rfl⟩:=hx;obtain⟨a1,a2,a3⟩:=h.m.at' i _ e (hf i y hy) he;simp only[kt.Afy _ hk];exact⟨a1,a2,a3,fun h1 h2=>h.t i y e hy he h1 h2⟩
 ·intro p hp;rw[Bl2]at hp;obtain⟨y,hy,rfl⟩:=hp;exact h.m.lt _ (Bl3 (f:=fun e:Nat×kt.T×Bool×List vt.T=>(e.1,e.2.1,e.2.2.2)) hy)
 ·have:=h.m.nodup;simpa[Re,Bnh,Bnz]using this
theorem Aum.lt{L:Nat}{g:Gh}{w:World}{b:Nat}{es:Jy kt vt}{clock:Nat}{By:Array MapEntry}(h:Aum kt vt L g w b es clock By):∀p∈es,p.1<clock:=fun y hy=>h.m.lt _ (Bl3 (f:=fun e:Nat×kt.T×Bool×List vt.T=>(e.1,e.2.1,e.2.2.2)) hy)
theorem Aum.nodup{L:Nat}{g:Gh}{w:World}{b:Nat}{es:Jy kt vt}{clock:Nat}{By:Array MapEntry}(h:Aum kt vt L g w b es clock By):(es.map (·.1)).Nodup:=by have:=h.m.nodup;simpa[Re,Bnh,Bnz]using this
theorem Aun{es es':Jy kt vt}(hl:es'.length=es.length)(h:∀(j:Nat) (x':Aul kt vt),es'[j]? = some x'→∃x:Aul kt vt,es[j]? = some x∧x'.1=x.1∧x'.2.1=x.2.1∧x'.2.2.2=x.2.2.2):Ath (lT es) (lT es'):=by
 refine⟨by simp[lT,hl],fun j x' hx=>?_⟩;simp only[lT,Bkt,Bky]at hx;obtain⟨y,hy,rfl⟩:=hx;obtain⟨x,a1,a2,a3,a4⟩:=h j y hy;refine⟨(x.1,A1g (kt.dv x.2.1),x.2.2.1,x.2.2.2.map vt.ds),by simp[lT,a1],a2,?_,?_⟩
 ·simp only[a3]
 ·simp only[a4]
end
section
variable{P:Program}{o:Oper}{X:A7}{kt vt:Ty}
theorem Auo{t:TypeId}(k L:Nat)(ho:o.op = .makeMap t none)(hk:X.objs.lookup k=none)(hX:B7 [k] X=true)(hL:L∉X.live)(hXL:B7 [L] X=true) :
  Bp P o [] X ⟨(k,Sj L kt vt [] 0)::X.objs,L::X.live⟩ [L,k] (.mp k):=by
 intro nm Ek B g w a hr Aq next Q hn
 obtain⟨Yk,ht1⟩:=hr.P1 hL none hXL (by simp);obtain⟨h1,h2⟩:=Yk.newObj (k:=k) hk hX (.map #[] 0) (Sj L kt vt [] 0) (by
  intro g' w' _ hw;exact .Ck L vt.size [] 0 #[] hw rfl (by simp) (by simp) (by simp))
 unfold Oper.wp;have:(execOp a.eval o).run P w = .ok (.value (.map (some w.heap.size))) (w.alloc (.map #[] 0)):=by simp[execOp,ho,Instr.makeMap]
 rw[this];refine hn _ _ _ h1 (ht1.trans h2) (.nm _ _ _ ?_);show Value.map (some w.heap.size) = .map (some (Nj g.ρ k w.heap.size k));rw[Aa]
def Ayo{vt:Ty}(ok:Bool)(n:Nat)(l:List vt.T)(b:Bool):AV:=if ok then .E2 [.Bu n vt.size (l.map vt.ds),.d (.bool b)]else .Bu n vt.size (l.map vt.ds)
theorem B3x{g:Gh}{w:World}{ok:Bool}{n:Nat}{l:List vt.T}{u:Value}{b:Bool}(h:RA g w (.Bu n vt.size (l.map vt.ds)) u):RA g w (Ayo ok n l b) (if ok then .tuple #[u,.bool b]else u):=by
 cases ok with
 |false=>exact h
 |true =>
  refine .E2 _ _ rfl fun i c x hc hx=>?_
  rcases i with _|_|i
  ·simp at hc hx;subst hc;subst hx;exact h
  ·simp at hc hx;subst hc;subst hx;exact .Fh _ _ _
  ·simp at hc
def Aa5:Value→A3 Nat
 |.slice (some a) _ _=>some a.block
 |_=>none
theorem Ayp{t e:TypeId}{x y:Operand}{ok:Bool}{k L n:Nat}{es:Jy kt vt}{clock:Nat}{a:kt.T}{i:TypeInfo}(ho:o.op = .lookup t x y ok)(hm:Al8 P t kt (.sl vt) e)(hi:P.info? e=some i)(hz:i.zero=some (.slice none 0 0))
  (hk:X.objs.lookup k=some (Sj L kt vt es clock)) (Pq:Ys k L X) (hf:Aea a es=true) (hn:n∉X.live) (hnX:B7 [n] ⟨Ab.setObj k (Sj L kt vt (Py a es) clock) X.objs,X.live⟩=true) (hL:L∈X.live) :
  Bp P o [(x,.mp k),(y,.d (kt.dv a))] X ⟨Ab.setObj k (Sj L kt vt (Py a es) clock) X.objs,n::X.live⟩ [L,n] (Ayo ok n (Ahr a es) (B3w a es)):=by
 intro nm Ek B g w ac hr Aq next Q Eo
 obtain⟨kty,hu,hK⟩:=hm.und;have h1:=(H9 Aq).A6x;have h2:ac.eval y=kt.Ea a:=by
  have:=T9 Aq;cases this with
  |d _ _ h=>exact kt.Vg hK.key h
 simp only at h1;obtain⟨By,hw⟩:=B14 hK.key (hr.objs k _ hk);have hLs:(g.β L).isSome:=(hr.live L).1 hL;have hfd:=hw.m.find hK a;have hc:=hK.check By.isEmpty 9998 a w;have N5:=Bne (P:=P) hw.m.heap;have hlen:es.length=By.size:=by have:=hw.m.len;simpa[Re]using this
 obtain⟨val,C2,hval,A8y⟩:∃val,(execOp ac.eval o).run P w = .ok (.value (if ok then .tuple #[val,.bool (B3w a es)]else val)) w∧RD g.γ w (.sl vt.size ((Ahr a es).map vt.ds)) val∧Abq g w L (Tr a es clock) vt.size val:=by
  rw[Ahs]at hfd;have hth:=Acn a es;cases hj:Hx kt a (es.map (·.2.1)) with
  |none =>
   rw[hj]at hfd hth;simp only[Bon]at hfd hth;refine⟨.slice none 0 0,?_,?_,trivial⟩
   ·simp only[execOp,ho,h1,h2,Instr.lookup,Blo,Bl0 hu,Blk,Bo1,N5,hc,hfd];simp[zeroValue,typeInfo,hi,hz,B3w,hth]
   ·simp only[Ahr,hth,Bll];exact .nil _ _ _ fun _=>rfl
  |some j =>
   have Gf:=X9 hj;rw[Blb]at Gf;have hja:j<By.size:=by omega
   rw[hj]at hfd hth;simp only[Bkp,Bli hja,Blq]at hfd;simp only[Bkp,Bl8 Gf,Blq]at hth;refine⟨By[j].val,?_,?_,?_⟩
   ·simp only[execOp,ho,h1,h2,Instr.lookup,Blo,Bl0 hu,Blk,Bo1,N5,hc,hfd];simp[B3w,hth]
   ·have:=(hw.m.at' j (es[j].1,es[j].2.1,es[j].2.2.2) By[j] (by simp[Re,Gf]) (by simp[hja])).2.2;simp only[Ahr,hth];exact this
   ·have hfl:es[j].2.2.1=true:=by simpa[Aea,hth]using hf
    have:=hw.t j es[j] By[j] (by simp[Gf]) (by simp[hja]) hfl hLs;simp only[Tr,hth];exact this
 have Atd:=B12 a es;obtain⟨Yk,ht1⟩:=hr.Bg5 (i:=Tr a es clock) (l:=lT es) (l':=lT (Py a es)) hk Pq (Aun Atd.1 fun j x' hx=>by
   obtain⟨x,a1,a2,a3,a4,_⟩:=Atd.2 j x' hx;exact⟨x,a1,a2,a3,a4⟩) (by
  intro j x' x hx' hx B7k;simp only[lT,Bkt,Bky]at hx hx';obtain⟨y',hy',rfl⟩:=hx';obtain⟨y0,hy,rfl⟩:=hx;obtain⟨x,a1,a2,a3,a4,a5⟩:=Atd.2 j y' hy';rw[hy]at a1;cases a1;obtain⟨b1,b2⟩:=a5 B7k;exact⟨b1,B13 hy b2 hw.lt hw.nodup⟩)
 obtain⟨Xx,V4⟩:=Yk.P1 (m:=n) hn (Aa5 val) hnX (by
  intro b hb;cases val with
  |slice ad len cap =>
   cases ad with
   |none=>simp[Aa5]at hb
   |some ad =>
    simp only[Aa5,Bks]at hb;subst hb;obtain⟨q1,q2,q3,q4⟩:=A8y;refine⟨hr.eta.lt L _ _ hLs q2,hr.eta.new L _ _ hLs q2,fun j p hj=>?_,fun m hm=>hr.eta.Bu L _ _ m hLs q2 hm,fun L' i' hL' he=>?_⟩
    ·obtain⟨q,hq⟩:=Wy hk hj;exact hr.eta.obj L _ _ j q hLs q2 hq
    ·simp only at he hL';by_cases hl:L'=L
     ·subst hl;rw[Aa]at he;by_cases Lp:i'=Tr a es clock
      ·subst Lp;rw[Aa]at he;cases he
      ·rw[Ae _ _ Lp]at he;exact Lp (hr.eta.inj _ _ _ _ _ hLs hLs he q2).2
     ·rw[Ae _ _ hl]at he;exact hl (hr.eta.inj _ _ _ _ _ hL' hLs he q2).1
  |_=>simp[Aa5]at hb)
 unfold Oper.wp;rw[C2];refine Eo _ w _ Xx (ht1.trans V4) (B3x (.Bu n vt.size _ none _ hval ?_));cases val with
 |slice ad len cap =>
  cases ad with
  |none=>trivial
  |some ad =>obtain⟨q1,q2,q3,q4⟩:=A8y;intro ob' N6;simp only[Aa,Bks]at N6;exact⟨q1,N6.symm,q3,q4,by simp⟩
 |_=>trivial
theorem A6j(k:Nat)(o o':Ob):∀l:A2 (Nat×Ob),Ab.setObj k o (Ab.setObj k o' l)=Ab.setObj k o l
 |[]=>by simp[Ab.setObj]
 |(j,p)::r=>by
  simp only[Ab.setObj];by_cases h:j=k
  ·simp[h,Ab.setObj]
  ·simp only[Blj h,Ab.setObj,A6j k o o' r]
theorem A7k.update{g:Gh}{w:World}{b:Nat}{es:Fa kt vt}{clock:Nat}{By:Array MapEntry}{t e kty:TypeId}(hw:A7k kt vt g w b es clock By)(hu:P.underlying t=some (.map kty e))(hK:A1h P kty kt)(a:kt.T)(v:vt.T)(val:Value)(h3:RD g.γ w (vt.dv v) val) :
  ∃as',(Instr.mapUpdate t (.map (some b)) (kt.Ea a) val).run P w = .ok () { w with heap:=w.heap.setIfInBounds b (.map as' (R9 a es clock)) } ∧
   (∀w',w'.heap[b]? = some (.map as' (R9 a es clock))→LeD g.γ w g.γ w'→A7k kt vt g w' b (Jx a v clock es) (R9 a es clock) as') ∧
   ∀(j:Nat) e',as'[j]? = some e'→(j=(Hx kt a (es.map (·.2.1))).getD es.length∧e'.val=val)∨(j≠(Hx kt a (es.map (·.2.1))).getD es.length∧By[j]? = some e'):=by
 have hf:=hw.find hK a;have hc:=hK.check false 9998 a w;have hst:=hK.stays a w;have N5:=Bne (P:=P) hw.heap;have Xv:=A0a (P:=P) hw.heap;have ec:=Amq a es clock;cases hj:Hx kt a (es.map (·.2.1)) with
 |none =>
  rw[hj]at hf;simp only[Bon]at hf;rw[hj]at ec;simp only at ec;rw[ec,Acj hj];refine⟨By.push { key:=kt.Ea a,val:=val,born:=clock },?_,?_,?_⟩
  ·simp only[Instr.mapUpdate,Blo,Bl0 hu,Blk,N5,hc,hf,Xv]
  ·intro w' G0 hle;refine⟨G0,by simp[hw.len],by simp[hw.keys],?_,?_,?_⟩
   ·intro i q m hq T4;by_cases hi:i<es.length
    ·rw[Bnl hi]at hq;rw[Bp5,Blj (by rw[← hw.len];omega)]at T4;have:=hw.at' i q m hq T4;exact⟨this.1,this.2.1,this.2.2.mono hle⟩
    ·rw[Bnj (by omega)]at hq;have hi0:i=es.length:=by
      by_cases h0:i-es.length=0
      ·omega
      ·rw[Bmp (by simp;omega)]at hq;cases hq
     subst hi0;simp at hq;rw[hw.len]at T4;simp at T4;subst hq;subst T4;exact⟨rfl,rfl,h3.mono hle⟩
   ·intro p hp;rcases Bkw.1 hp with hp|hp
    ·have:=hw.lt p hp;omega
    ·simp at hp;subst hp;exact Boc _
   ·rw[Ble,Bpc];refine⟨hw.nodup,by simp,?_⟩;intro p hp q hq;simp at hq;subst hq;obtain⟨y',hy',rfl⟩:=Bl2.1 hp;have:=hw.lt y' hy';omega
  ·intro j e' he;simp only[Option.getD_none];rw[Bp5,← hw.len]at he;split at he
   ·rename_i hjj;cases he;exact .inl ⟨hjj,rfl⟩
   ·rename_i hjj;exact .inr ⟨hjj,he⟩
 |some j =>
  have Gf:=X9 hj;rw[Blb]at Gf;have hja:j<By.size:=by rw[← hw.len];exact Gf
  have hat:=Aq7 hK.key hj;rw[Bkt,Bl8 Gf]at hat;simp only[Blq,Bks]at hat;have hkj:By[j].key=kt.Ea a:=by rw[(hw.at' j es[j] By[j] (by simp[Gf]) (by simp[hja])).2.1,hat]
  rw[hj]at hf;simp only[Bkp,Bli hja,Blq]at hf;rw[hj]at ec;simp only at ec;rw[ec,Ack hj];refine⟨By.modify j fun q=>{ q with key:=kt.Ea a,val:=val },?_,?_,?_⟩
  ·simp only[Instr.mapUpdate,Blo,Bl0 hu,Blk,N5,hc,hf,Bli hja,Blq,Boe,hkj,hst,Xv]
  ·intro w' G0 hle;have B7h:∀(i:Nat) q m,(es.modify j fun q=>(q.1,a,v))[i]? = some q→(By.modify j fun q=>{ q with key:=kt.Ea a,val:=val })[i]? = some m→m.born=q.1∧m.key=kt.Ea q.2.1∧RD g.γ w' (vt.dv q.2.2) m.val:=by
    intro i q m hq T4;rw[List.getElem?_modify]at hq;rw[Bm7]at T4;by_cases hij:j=i
    ·subst hij;rw[Bl8 Gf]at hq;rw[Bli hja]at T4;simp at hq T4;subst hq;subst T4;exact⟨(hw.at' j es[j] By[j] (by simp[Gf]) (by simp[hja])).1,rfl,h3.mono hle⟩
    ·rw[Blj hij]at T4;simp only[hij,Bn2]at hq;have:=hw.at' i q m (by simpa using hq) T4;exact⟨this.1,this.2.1,this.2.2.mono hle⟩
   refine⟨G0,by simp[hw.len],?_,B7h,?_,?_⟩
   ·apply Bny;intro i;rw[Bkt,Bkt,Bkt,Bml];by_cases hi:i<By.size
    ·have Lp:i<es.length:=by rw[hw.len];exact hi
     have hA:i<(By.modify j fun q=>{ q with key:=kt.Ea a,val:=val }).size:=by simpa using hi
     have hE:i<(es.modify j fun q=>(q.1,a,v)).length:=by simpa using Lp
     rw[Bli hA,Bl8 hE];have:=(B7h i _ _ (Bl8 hE) (Bli hA)).2.1;simp only[Blq,this]
    ·rw[Bnv (by simpa using hi),Bmp (by simp[hw.len];omega)];rfl
   ·intro p hp;have h5:p.1∈((es.modify j fun q=>(q.1,a,v)).map (·.1)):=Bl3 (f:=(·.1)) hp;rw[Qe (fun q:Nat×kt.T×vt.T=>q.1) (fun q:Nat×kt.T×vt.T=>(q.1,a,v)) (fun _=>rfl) es j]at h5;obtain⟨q,hq,he⟩:=Bl2.1 h5;rw[← he];exact hw.lt q hq
   ·rw[Qe (fun q:Nat×kt.T×vt.T=>q.1) (fun q:Nat×kt.T×vt.T=>(q.1,a,v)) (fun _=>rfl) es j];exact hw.nodup
  ·intro i e' he;simp only[Boe];rw[Bm7]at he;by_cases hij:j=i
   ·subst hij;rw[Blv rfl,Bli hja]at he;simp at he;subst he;exact .inl ⟨rfl,rfl⟩
   ·rw[Blj hij]at he;exact .inr ⟨Bnf hij,he⟩
theorem Alc{t e:TypeId}{x y u:Operand}{k L n:Nat}{es:Jy kt vt}{clock:Nat}{a:kt.T}{v:List vt.T}{ty:A3 TypeId}(ho:o.op = .mapUpdate t x y u∨o.op = .insert t x y u)(hm:Al8 P t kt (.sl vt) e)
  (hk:X.objs.lookup k=some (Sj L kt vt es clock)) (Pq:Ys k L X) (hnl:n∈X.live) :
  Bp P o [(x,.mp k),(y,.d (kt.dv a)),(u,.Bu n vt.size (v.map vt.ds) ty)] X ⟨Ab.setObj k (Sj L kt vt (K7 a v true clock es) (R9 a (Re es) clock)) X.objs,X.live.filter (· != n)⟩ [L] (.d (.sc undef)):=by
 intro nm Ek B g w ac hr Aq next Q hn
 obtain⟨kty,hu,hK⟩:=hm.und;have h1:=(H9 Aq).A6x;have h2:ac.eval y=kt.Ea a:=by
  have:=T9 Aq;cases this with
  |d _ _ h=>exact kt.Vg hK.key h
 obtain⟨h3,h4⟩:RD g.γ w ((Ty.sl vt).dv v) (ac.eval u)∧A69 g w n vt.size ty (ac.eval u):=by
  have:=rd2 Aq;cases this with
  |Bu _ _ _ _ _ h h'=>exact⟨h,h'⟩
 simp only at h1;obtain⟨By,hw⟩:=B14 hK.key (hr.objs k _ hk);obtain⟨as',e1,e2,e3⟩:=hw.m.update hu hK a v (ac.eval u) h3;rw[Ahs]at e3;have hJ:(Hx kt a (es.map (·.2.1))).getD (Re es).length=Alb a es:=by simp[Alb,Re]
 rw[hJ]at e3;have Bs:g.ρ k<w.heap.size:=(Blf.1 hw.m.heap).1;obtain⟨w1,hw1⟩:∃w1:World,w1 = { w with heap:=w.heap.setIfInBounds (g.ρ k) (.map as' (R9 a (Re es) clock)) }:=⟨_,rfl⟩;have hb1:w1.heap[g.ρ k]? = some (.map as' (R9 a (Re es) clock)):=by rw[hw1];simp[Bs]
 obtain⟨Yk,ht1⟩:=hr.write (w':=w1) (o':=Sj L kt vt (K7 a v false clock es) (R9 a (Re es) clock)) hk (by rw[hw1];simp) (by rw[hw1];exact⟨rfl,rfl,rfl,Bl1 _⟩)
  (by intro b G0;rw[hw1];simp[Bnf G0]) (fun ht=>Aum.rel hK.key (By:=as') ⟨by rw[Aqh];exact e2 w1 hb1 ht.le,by
   intro j q m hq T4 hfl hL;rcases Aa4 a v false clock es j q hq with ⟨p1,p2,p3⟩|⟨p1,p2⟩
   ·rw[p2]at hfl;cases hfl
   ·rcases e3 j m T4 with ⟨r1,r2⟩|⟨r1,r2⟩
    ·exact(p1 r1).elim
    ·exact(hw.t j q m p2 r2 hfl hL).Dc ht (by simp) hL⟩) (by
   intro sh hsh;simp[World.shape?,hw.m.heap]at hsh)
 obtain⟨ob,Gg⟩:∃ob,g.β n=some ob:=Blm.1 ((hr.live n).1 hnl);have h4':A69 g w1 n vt.size ty (ac.eval u):=h4.Dc ht1 (by simp);obtain⟨Xx,V4⟩:=Yk.Afr n;have hk2:(Ab.setObj k (Sj L kt vt (K7 a v false clock es) (R9 a (Re es) clock)) X.objs).lookup k=some (Sj L kt vt (K7 a v false clock es) (R9 a (Re es) clock)):=by rw[B3,Blv rfl]
 have B0j:=Amt a v false true clock es;obtain⟨hr3,ht3⟩:=Xx.Bg7 (i:=Tr a es clock) (ob:=Aa5 (ac.eval u)) (l:=lT (K7 a v false clock es)) (l':=lT (K7 a v true clock es)) (L:=L) hk2 (by
   intro j p hj hp;simp only at hp;rw[B3,Blj hj]at hp;exact Pq j p hj hp) (by
   intro b hb;have Ako:g.β n=some (some b):=by
    generalize ac.eval u=val at hb h4;cases val with
    |slice ad len cap =>
     cases ad with
     |none=>simp[Aa5]at hb
     |some ad =>simp only[Aa5,Bks]at hb;subst hb;rw[Gg,(h4 ob Gg).2.1]
    |_=>simp[Aa5]at hb
   refine⟨Yk.Cd n b Ako,Yk.Ca n b Ako,fun j p hj=>Yk.Bo n b j p Ako hj,fun m hm=>?_,Yk.eta.A6b Ako⟩;by_cases he:m=n
   ·subst he;simp[Aa]at hm
   ·simp only[Ae _ _ he]at hm;exact he (Yk.C4 m n b hm Ako)) (Aun B0j.1 B0j.2) (by
   intro j x' x0 hx' hx B7k;simp only[lT,Bkt,Bky]at hx hx';obtain⟨y',hy',rfl⟩:=hx';obtain⟨y0,hy0,rfl⟩:=hx;rcases Aa4 a v true clock es j y' hy' with ⟨p1,p2,p3⟩|⟨p1,p2⟩
   ·right;rcases Aa4 a v false clock es j y0 hy0 with ⟨r1,r2,r3⟩|⟨r1,r2⟩
    ·refine⟨r3,?_⟩;intro bs m hbs T4;simp only at hbs;rw[hb1]at hbs;cases hbs;rcases e3 j m T4 with ⟨s1,s2⟩|⟨s1,s2⟩
     ·rw[s2];generalize ac.eval u=val at h4';cases val with
      |slice ad len cap =>
       cases ad with
       |none=>trivial
       |some ad =>obtain⟨q1,q2,q3,q4,_⟩:=h4' ob Gg;refine⟨q1,?_,q3,q4⟩;simp only[Aa,Aa5]
      |_=>trivial
     ·exact(s1 p1).elim
    ·exact(r1 p1).elim
   ·left;rcases Aa4 a v false clock es j y0 hy0 with ⟨r1,r2,r3⟩|⟨r1,r2⟩
    ·exact(p1 r1).elim
    ·rw[p2]at r2;cases r2;exact⟨B7k,B13 p2 p1 hw.lt hw.nodup⟩)
 have C2:(execOp ac.eval o).run P w = .ok .skip w1:=by rw[hw1];rcases ho with ho|ho<;>simp[execOp,ho,h1,h2,e1]
 unfold Oper.wp;rw[C2];have hX:Ab.setObj k (Sj L kt vt (K7 a v true clock es) (R9 a (Re es) clock)) (Ab.setObj k (Sj L kt vt (K7 a v false clock es) (R9 a (Re es) clock)) X.objs)=Ab.setObj k (Sj L kt vt (K7 a v true clock es) (R9 a (Re es) clock)) X.objs:=A6j _ _ _ _;have Bgr:HR nm B _ w1 ⟨Ab.setObj k (Sj L kt vt (K7 a v true clock es) (R9 a (Re es) clock)) (Ab.setObj k (Sj L kt vt (K7 a v false clock es) (R9 a (Re es) clock)) X.objs),X.live.filter (· != n)⟩:=hr3;rw[hX]at Bgr;exact hn _ _ undef Bgr ((ht1.trans V4).trans ht3) (.Fh _ _ _)
end
section
variable{P:Program}{R:Type}
def Aco(m:Nat):Nat:=500000+m
def Bb3(P:Program)(t:TypeId):A3 (Ty×Ty) :=
 match A2i P t with
 |some (kt,.sl vt)=>some (kt,vt)
 |_=>none
def Acp(P:Program)(st:Ad)(o:Oper)(t:TypeId)(r:A3 Operand)(K:Out→A3 R):A3 R :=
 match r with
 |none=>match Bb3 P t,newName o with
  |some ts,some m=>cond (fresh m st) (cond (Qb (Aco m) st.live st) (K ⟨.all,.nm m .m,[],(m,.Ck (Aco m) ts.1 ts.2 [] 0)::st.objs,Aco m::st.live,[Aco m,m],[m]⟩) none) none
  |_,_=>none
 |some _=>none
theorem Aqj{o:Oper}{st:Ad}{t:TypeId}{rs:A3 Operand}{K:Out→A3 R}{r:R}(ho:o.op = .makeMap t rs)(h:Acp P st o t rs K=some r):∃out,K out=some r∧Br P o st out:=by
 unfold Acp at h;split at h
 ·split at h
  ·rename_i ts m hm hn;cases hf:fresh m st with
   |false=>simp[hf]at h
   |true =>
   cases hl:Qb (Aco m) st.live st with
   |false=>simp[hf,hl]at h
   |true =>
    simp only[hf,hl,Bkn]at h;obtain⟨h1,h2⟩:=M9 hf;obtain⟨h3,h4⟩:=Us hl;refine⟨_,h,⟨by simp[B0],?_,fun j z hj hz=>?_⟩⟩
    ·exact Auo (kt:=ts.1) (vt:=ts.2) m (Aco m) ho (Ma h1) h2 h3 h4
    ·rw[Cq (by simpa using hj)]at hz;exact hz
  ·cases h
 ·cases h
def Yy(k L:Nat)(st:Ad):Bool:=Fp [L] (K6 k (.Oy [] 0) st.objs)
theorem Aa6{k L:Nat}{st:Ad}(hp:X2 k (.Oy [] 0) st.objs=true)(h:Yy k L st=true):Ys k L st.X:=by
 have h1:=U5 (live:=st.live) h;intro j o hj ho;have h2:(A6 (K6 k (.Oy [] 0) st.objs)).lookup j=some o:=by rw[U6 hp,B3,Blj hj];exact ho
 rcases Hh h1 h2 with h3|h3
 ·cases h3
 ·exact h3
def Aqk(P:Program)(e:TypeId):Bool :=
 match P.info? e with
 |some i=>match i.zero with
  |some (.slice none 0 0)=>true
  |_=>false
 |none=>false
theorem B3y{e:TypeId}(h:Aqk P e=true):∃i,P.info? e=some i∧i.zero=some (.slice none 0 0):=by
 unfold Aqk at h;split at h
 ·rename_i i hi;split at h
  ·rename_i hz;exact⟨i,hi,hz⟩
  ·cases h
 ·cases h
def Bej{vt:Ty}(ok:Bool)(n:Nat)(l:List vt.T)(b:Bool):XV:=cond ok (.E2 [.Bu n vt l none,.d (.b b)]) (.Bu n vt l none)
theorem Bek{vt:Ty}(ok:Bool)(n:Nat)(l:List vt.T)(b:Bool):(Bej ok n l b).a=Ayo ok n l b:=by cases ok<;>rfl
def Aht(P:Program)(st:Ad)(o:Oper)(t:TypeId)(x y:Operand)(ok:Bool)(K:Out→A3 R):A3 R :=
 match Av st x with
 |some (.nm k .m)=>match lk k st.objs with
  |some (.Ck L kt vt es c)=>match Vh P t kt,xd st y,Ah8 o with
   |some e,some a,some n=>match kt.A22 a with
    |some a=>cond (Aqk P e) (cond (inl L st.live) (cond (inl n st.live) none (cond (Yy k L st) (cond (Fp [n] (K6 k (.Ck L kt vt (Py a es) c) st.objs)) (cond (Aea a es)
      (K ⟨.Nl k (.Ck L kt vt (Py a es) c),Bej ok n (Ahr a es) (B3w a es),[(x,.nm k .m),(y,.d (kt.xv a))],K6 k (.Ck L kt vt (Py a es) c) st.objs,n::st.live,[L,n],[k]⟩) none) none) none)) none) none
    |_=>none
   |_,_,_=>none
  |_=>none
 |_=>none
theorem Aup{o:Oper}{st:Ad}{t:TypeId}{x y:Operand}{ok:Bool}{K:Out→A3 R}{r:R}(ho:o.op = .lookup t x y ok)(h:Aht P st o t x y ok K=some r):∃out,K out=some r∧Br P o st out:=by
 unfold Aht at h;split at h
 ·rename_i k hx;split at h
  ·rename_i L kt vt es c hk;split at h
   ·rename_i e a0 n hm hy hn;split at h
    ·rename_i a ha;cases h1:Aqk P e with
     |false=>simp[h1]at h
     |true =>
     cases h2:inl L st.live with
     |false=>simp[h1,h2]at h
     |true =>
     cases h3:inl n st.live with
     |true=>simp[h1,h2,h3]at h
     |false =>
     cases h4:Yy k L st with
     |false=>simp[h1,h2,h3,h4]at h
     |true =>
     cases h5:Fp [n] (K6 k (.Ck L kt vt (Py a es) c) st.objs) with
     |false=>simp[h1,h2,h3,h4,h5]at h
     |true =>
     cases h6:Aea a es with
     |false=>simp[h1,h2,h3,h4,h5,h6]at h
     |true =>
      simp only[h1,h2,h3,h4,h5,h6,Bkn,Bko]at h;obtain⟨i,z1,z2⟩:=B3y h1;refine⟨_,h,⟨?_,?_,fun j z hj hz=>?_⟩⟩
      ·intro p hp;simp only[B0,Bkv,Bll,Bkq,Blh,Bma]at hp;rcases hp with rfl|rfl
       ·exact Aj hx
       ·exact Sg hy ha
      ·have hfr:=U5 (live:=st.live) h5;have hp:X2 k (.Ck L kt vt (Py a es) c) st.objs=true:=Hb hk rfl rfl;rw[U6 hp]at hfr;have:=Ayp (P:=P) (X:=st.X) (k:=k) (L:=L) (n:=n) (es:=es) (clock:=c) (a:=a) ho (Qf (vt:=.sl vt) hm) z1 z2 (Vi hk) (Aa6 (Hb hk rfl rfl) h4) h6 (fun hh=>by rw[(D3 n st.live).2 hh]at h3;cases h3) hfr ((D3 L st.live).1 h2);refine⟨⟨hp,rfl⟩,?_⟩;show Bp P o _ st.X ⟨A6 (K6 k (.Ck L kt vt (Py a es) c) st.objs),n::st.live⟩ [L,n] (Bej ok n (Ahr a es) (B3w a es)).a;rw[U6 hp,Bek];exact this
      ·simp only[Bkq,Blh,Bma]at hj
       rwa [Jl _ _ _ _ hj]at hz
    ·cases h
   ·cases h
  ·cases h
 ·cases h
def Xb(P:Program)(st:Ad)(t:TypeId)(x y u:Operand)(K:Out→A3 R):A3 R :=
 match Av st x with
 |some (.nm k .m)=>match lk k st.objs with
  |some (.Ck L kt vt es c)=>match Vh P t kt,xd st y,Av st u with
   |some e,some a,some (.Bu n vt' l ty)=>match kt.A22 a with
    |some a=>if h:vt'.Ji vt=true then
      cond (inl n st.live) (cond (Yy k L st)
       (K ⟨.Nl k (.Ck L kt vt (K7 a (Ty.Au h▸l:List vt.T) true c es) (R9 a (Re es) c)),.d (.v undef),[(x,.nm k .m),(y,.d (kt.xv a)),(u,.Bu n vt' l ty)],K6 k (.Ck L kt vt (K7 a (Ty.Au h▸l:List vt.T) true c es) (R9 a (Re es) c)) st.objs,Q4 n st.live,[L],[k]⟩) none) none
      else none
    |_=>none
   |_,_,_=>none
  |_=>none
 |_=>none
theorem A2k{o:Oper}{st:Ad}{t:TypeId}{x y u:Operand}{K:Out→A3 R}{r:R}(ho:o.op = .mapUpdate t x y u∨o.op = .insert t x y u)(h:Xb P st t x y u K=some r):∃out,K out=some r∧Br P o st out:=by
 unfold Xb at h;split at h
 ·rename_i k hx;split at h
  ·rename_i L kt vt es c hk;split at h
   ·rename_i e a0 n vt' l ty hm hy hu;split at h
    ·rename_i a ha;split at h
     ·rename_i he;have e0:=Ty.Au he;subst e0;cases h1:inl n st.live with
      |false=>simp[h1]at h
      |true =>
      cases h2:Yy k L st with
      |false=>simp[h1,h2]at h
      |true =>
       simp only[h1,h2,Bkn]at h;refine⟨_,h,⟨?_,?_,fun j z hj hz=>?_⟩⟩
       ·intro p hp;simp only[B0,Bkv,Bll,Bkq,Blh,Bma]at hp;rcases hp with rfl|rfl|rfl
        ·exact Aj hx
        ·exact Sg hy ha
        ·exact Aj hu
       ·have:=Alc (P:=P) (X:=st.X) (k:=k) (L:=L) (n:=n) (es:=es) (clock:=c) (a:=a) (v:=l) (ty:=ty) ho (Qf (vt:=.sl vt') hm) (Vi hk) (Aa6 (Hb hk rfl rfl) h2) ((D3 n st.live).1 h1);have hp:X2 k (.Ck L kt vt' (K7 a l true c es) (R9 a (Re es) c)) st.objs=true:=Hb hk rfl rfl;refine⟨⟨hp,rfl⟩,?_⟩;show Bp P o _ st.X ⟨A6 (K6 k _ st.objs),_⟩ [L] _;rw[U6 hp];exact this
       ·simp only[Bkq,Blh,Bma]at hj
        rwa [Jl _ _ _ _ hj]at hz
     ·cases h
    ·cases h
   ·cases h
  ·cases h
 ·cases h
def A4m(st:Ad)(x:Operand):Bool :=
 match Av st x with
 |some (.nm k .m)=>match lk k st.objs with
  |some (.Ck _ _ _ _ _)=>true
  |_=>false
 |_=>false
def Bb4:Ac→Ac
 |.Ck _ kt vt es c=>.map kt (.sl vt) (Re es) c
 |o=>o
def Acq:Ac→Bool
 |.Ck _ _ _ _ _=>true
 |_=>false
def A2l:A2 (Nat×Ac)→A2 (Nat×Ac)
 |[]=>[]
 |p::r=>(p.1,Bb4 p.2)::A2l r
def Aa7:A2 (Nat×Ac)→A2 Nat
 |[]=>[]
 |p::r=>cond (Acq p.2) (p.1::Aa7 r) (Aa7 r)
def B7l(st:Ad):Ad:=⟨st.env,A2l st.objs,st.live,st.wl,Aa7 st.objs++st.ol⟩
theorem B15(k:Nat):∀l:A2 (Nat×Ac),lk k (A2l l)=(lk k l).map Bb4
 |[]=>rfl
 |p::r=>by
  simp only[A2l,G1];cases Nat.beq p.1 k with
  |true=>rfl
  |false=>exact B15 k r
theorem B3z(o:Ac):(Bb4 o).C9=o.C9:=by cases o<;>rfl
theorem Aql:∀l:A2 (Nat×Ac),Dx (A2l l)=Dx l
 |[]=>rfl
 |p::r=>by simp only[A2l,Dx,B3z,Aql r]
theorem Aeb{k:Nat}{o:Ac}:∀ {l:A2 (Nat×Ac)},lk k l=some o→Acq o=true→k∈Aa7 l
 |[],h,_=>by cases h
 |p::r,h,hm=>by
  simp only[G1]at h;simp only[Aa7];cases hb:Nat.beq p.1 k with
  |true =>rw[hb]at h;simp only[Bkn,Bks]at h;rw[h,hm,Bkn,Bkr hb];exact Bkz
  |false =>
   rw[hb]at h;simp only[Bko]at h;have:=Aeb h hm;cases Acq p.2 with
   |true=>exact Bkx _ this
   |false=>exact this
theorem Ahu{o:Ac}(h:Acq o=false):Bb4 o=o:=by cases o<;>first|rfl|cases h
theorem B40{kt vt:Ty}(es:Jy kt vt):Tb vt.size (lT es)=(Re es).map fun e=>(e.1,A1g (kt.dv e.2.1),(Ty.sl vt).dv e.2.2):=by simp only[Tb,lT,Re,Bnh];rfl
theorem SR.fg{S:Sig}{B:Bl}{g:Gh}{w:World}{st:Ad}{a:Act}(h:SR S B g w st.im a):SR S B g w (B7l st).im a:=by
 refine⟨h.defers,h.size,?_,h.env⟩;refine h.hr.plain rfl ?_ ?_
 ·intro k hk;show((A6 (A2l st.objs)).lookup k).isSome;have hk:((A6 st.objs).lookup k).isSome:=hk;unfold A6 at hk⊢;rw[Bmq,Vb]at hk⊢;rw[B15,Aql];cases hl:lk k st.objs with
  |none=>rw[hl]at hk;exact hk
  |some o=>rfl
 ·intro k o' hk;have hk:(A6 (A2l st.objs)).lookup k=some o':=hk;show(A6 st.objs).lookup k=some o'∨∃L sz l c,(A6 st.objs).lookup k=_∧_;unfold A6 at hk⊢;rw[Bmq,Vb]at hk⊢;rw[B15,Aql]at hk;cases hl:lk k st.objs with
  |none=>rw[hl]at hk;exact .inl hk
  |some o =>
   rw[hl]at hk;simp only[Blq,Boh,Bks]at hk⊢;subst hk;cases hm:Acq o with
   |false=>left;rw[Ahu hm]
   |true =>
    right;cases o with
    |Ck L kt vt es c =>refine⟨L,vt.size,lT es,c,rfl,?_⟩;rw[B40];rfl
    |_=>cases hm
end
section
variable(kt vt:Ty)
@[reducible] def Bgs (es:Jy kt vt):Fa kt (.sl vt):=Re es
@[reducible] def Bgt (a:kt.T) (v:List vt.T) (f:Bool) (clock:Nat) (es:Jy kt vt):Jy kt vt:=K7 a v f clock es
@[reducible] def Bcz (a:kt.T) (es:Jy kt vt):Jy kt vt:=Py a es
@[reducible] def B7m (a:kt.T) (es:Jy kt vt):List vt.T:=Ahr a es
@[reducible] def B7n (a:kt.T) (es:Jy kt vt):Bool:=Aea a es
@[reducible] def A6k (a:kt.T) (es:Fa kt vt):Option vt.T:=Nn a es
@[reducible] def A6l (a:kt.T) (v:vt.T) (clock:Nat) (es:Fa kt vt):Fa kt vt:=Jx a v clock es
@[reducible] def A2m (a:kt.T) (es:Fa kt vt) (clock:Nat):Nat:=R9 a es clock
end
theorem Aec{P:Program}{t k e:TypeId}(ht:P.underlying t=some (.map k e))(p:A3 Nat)(w:World):(Op.equal t (.map p) (.map none)).run P w = .ok p.isNone w:=by
 have h:∀d:Nat,(Op.equalIn (d+1) t (.map p) (.map none)).run P w = .ok p.isNone w:=by intro d;cases p<;>simp[Op.equalIn,Bl0 ht]
 exact h 9999
theorem Aed(neg:Bool)(t:TypeId)(x y:Operand)(p q:A3 Nat):eqGuard (Qd neg) t x y (.map p) (.map q)=pure ():=by cases neg<;>rfl
theorem Ayq{P:Program}{o:Oper}{X:A7}{t t' k' e:TypeId}{x y:Operand}{k:Nat}(neg:Bool)(ho:o.op = .binOp (Qd neg) t x y t')(ht:P.underlying t=some (.map k' e)) :
  Bp P o [(x,.nm k .m),(y,.d (.sc (.map none)))] X X [] (.d (.sc (.bool neg))) :=
 .quiet fun _ _ g w ac _ Aq=>by
  have h1:=H9 Aq;have h2:=(T9 Aq).Al;simp only at h1 h2;have hv:ac.eval x = .map (some (g.ρ k)):=by cases h1 with|nm _ _ _ h=>exact h
  refine⟨_,?_,.Fh _ _ _⟩;simp only[execOp,ho,hv,h2];rw[Aed];cases neg<;>simp[Qd,binOp,Aec ht]
theorem Ayr{P:Program}{o:Oper}{X:A7}{t t' k' e:TypeId}{x y:Operand}(neg:Bool)(ho:o.op = .binOp (Qd neg) t x y t')(ht:P.underlying t=some (.map k' e)) :
  Bp P o [(x,.d (.sc (.map none))),(y,.d (.sc (.map none)))] X X [] (.d (.sc (.bool (!neg)))) :=
 .quiet fun _ _ g w ac _ Aq=>by
  have h1:=(H9 Aq).Al;have h2:=(T9 Aq).Al;simp only at h1 h2;refine⟨_,?_,.Fh _ _ _⟩;simp only[execOp,ho,h1,h2];rw[Aed];cases neg<;>simp[Qd,binOp,Aec ht]
section
variable{P:Program}{R:Type}
def B7o(P:Program)(st:Ad)(op:BinOp)(t:TypeId)(x y:Operand)(K:Out→A3 R):A3 R :=
 match y with
 |.const (.map none)=>match Ahf op,P.underlying t with
  |some neg,some (.map _ _)=>match Av st x with
   |some (.nm k .m)=>K (B5 st (.d (.b neg)) [(x,.nm k .m),(.const (.map none),.d (.v (.map none)))])
   |some (.d (.v (.map none)))=>K (B5 st (.d (.b (!neg))) [(x,.d (.v (.map none))),(.const (.map none),.d (.v (.map none)))])
   |_=>none
  |_,_=>none
 |_=>Ay9 P st op t x y K
theorem B7p{o:Oper}{st:Ad}{op:BinOp}{t t':TypeId}{x y:Operand}{K:Out→A3 R}{r:R}(ho:o.op = .binOp op t x y t')(h:B7o P st op t x y K=some r):∃out,K out=some r∧Br P o st out:=by
 have hy:E3 st.im (.const (.map none)) (.d (.sc (.map none))):=Aj (st:=st) (x:=.const (.map none)) (v:=.d (.v (.map none))) rfl;unfold B7o at h;split at h
 ·split at h
  ·rename_i neg k' e hn hu;have:=A2f hn;subst this;split at h
   ·rename_i k hx;refine⟨_,h,A8 ?_ fun X=>Ayq neg ho hu⟩;intro p hp;simp only[B0,Bkv,Bll,Bkq,Blh,Bma]at hp;rcases hp with rfl|rfl
    ·exact Aj hx
    ·exact hy
   ·rename_i hx;refine⟨_,h,A8 ?_ fun X=>Ayr neg ho hu⟩;intro p hp;simp only[B0,Bkv,Bll,Bkq,Blh,Bma]at hp;rcases hp with rfl|rfl
    ·exact Aj hx
    ·exact hy
   ·cases h
  ·cases h
 ·exact B3n ho h
end
theorem Qh{c:Call}{l:A2 Operand}(h:c.args.toList=l):c.args=l.toArray:=by rw[← h]
theorem o2{α:Type}{b:Bool}{x:A3 α}{r:α}(h:cond b x none=some r):b=true∧x=some r:=by
 cases b with
 |true=>exact⟨rfl,h⟩
 |false=>cases h
end Go.Xl
namespace Go.Ab
section
variable{P:Program}{o:Oper}{X:A7}
theorem Amu{α:Type}(zs:A2 α):∀(n:Nat) (j:Nat),j<n*zs.length→((List.replicate n zs).flatten)[j]? = zs[j % zs.length]?
 |0,j,h=>by omega
 |n+1,j,h=>by
  rw[Bqk,Bmj,Bm2];split
  ·rename_i Bs;rw[Bq1 Bs]
  ·rename_i hge;rw[Amu zs n (j-zs.length) (by rw[Bna]at h;omega)];congr 1;exact(Nat.mod_eq_sub_mod (by omega)).symm
theorem Acr(m:Nat){t e:TypeId}{n:Nat}{Bke:Array (Nat×Operand)}{zs out xs:A2 AV}{i:TypeInfo}{z:Value}(ho:o.op = .buildSlice t n Bke)(ht:P.underlying t=some (.slice e))
  (hi:P.info? e=some i) (hz:i.zero=some z) (hzs:V2 zs z.cells.toList) (hzl:z.cells.size=i.size) (hx:xs.length=Bke.size) (Ja:xs.all A5j=true)
  (hf:Wv (fun j=>some (j*i.size,i.size)) ((List.replicate n zs).flatten) ((Bke.toList.map (·.1)).zip xs)=some out)
  (Wg:n*i.size≤16777216) (hk:X.objs.lookup m=none) (hX:B7 [m] X=true) (hfr:Bz [m] out=true) :
  Bp P o ((Bke.toList.map (·.2)).zip xs) X ⟨(m,.cells out (some e))::X.objs,X.live⟩ [m] (.nm m (.s 0 n i.size)):=by
 intro nm Ek B g w a hr Aq next Q hn
 unfold Oper.wp;have Bel:zs.length=i.size:=by have h1:zs.length=z.cells.toList.length:=(hzs.ra g w).1;rw[h1,Bmv,hzl]
 generalize A17:((Array.range (n*i.size)).map fun x=>(if n*i.size=0 then #[]else z.cells)[x % (if n*i.size=0 then #[]else z.cells).size]!)=A94;have Agk:A94.size=n*i.size:=by subst A17;simp
 have hfl:((List.replicate n zs).flatten).length=n*i.size:=by simp[Bel]
 obtain⟨Ch,A6a,H4,hc'⟩:=Age (g:=g) (w:=w) (place:=fun j=>some (j*i.size,i.size)) ((Bke.toList.map (·.1)).zip xs) (Bke.toList.map fun p=>(p.1,a.eval p.2)) ((List.replicate n zs).flatten) A94 out
  (by simp[hx]) (by
   intro j p q hp hq;rw[Bkt,Bky]at hq;obtain⟨r,hr',rfl⟩:=hq;rw[Bnw]at hp;obtain⟨h1,h2⟩:=hp;rw[Bkt,hr']at h1;refine⟨by simpa using h1.symm,?_⟩;exact Aq (r.2,p.2) (Bln (i:=j) (by
    rw[Bnw];exact⟨by rw[Bkt,hr'];rfl,h2⟩))) (by
   rw[Bly];intro p hp;exact Bly.1 Ja p.2 (Brf hp).2) (by rw[hfl,Agk]) (by
   intro j x v hx' hv;have Bs:j<n*i.size:=by have:=(Bku.1 hx').1;omega
   have h0:¬(n*i.size=0):=by omega
   have A5k:0<i.size:=by
    rcases Bmu i.size with h|h
    ·rw[h]at Bs;simp at Bs
    ·exact h
   rw[Amu zs n j (by rw[Bel];exact Bs)]at hx';rw[← A17,Bqp]at hv;simp only[h0,Bn2]at hv;rw[Array.getElem?_range,Blv Bs]at hv;simp only[Blq,Bks]at hv;have hm:j % z.cells.size<z.cells.size:=Bqb _ (by omega);refine(hzs.ra g w).2 (j % zs.length) x v hx' ?_;rw[Bml,Bel,← hzl,← hv];rw[Bpe z.cells _ hm];simp[hm]) hf
 have C2:(execOp a.eval o).run P w = .ok (.value (.slice (some ⟨w.heap.size,0,none⟩) n n)) (w.alloc (.cells Ch e)):=by
  simp only[execOp,ho,Instr.buildSlice];have h24:¬(n*i.size>2 ^ 24):=by omega
  by_cases h0:n*i.size=0
  ·have e0:A94=#[]:=Bm8 (by omega);subst e0;have P0:Instr.fill (fun j=>some (j*i.size,i.size)) #[] (Bke.toList.map fun p=>(p.1,a.eval p.2))=some Ch:=A6a;simp only[Blo,Bl0 ht,Blk,run_sizeOf hi,h0,Bn5];simp[Bpw,P0,Go.newRow]
  ·simp only[h0,Bn2]at A17;have P0:Instr.fill (fun j=>some (j*i.size,i.size)) A94 (Bke.toList.map fun p=>(p.1,a.eval p.2))=some Ch:=A6a;simp only[Blo,Bl0 ht,Blk,run_sizeOf hi,h24,Bn2,h0];simp[zeroValue,typeInfo,hi,hz,A17,P0,Go.newRow]
 have hlen:∀(Bke:A2 (Nat×AV)) (cs out:A2 AV),Wv (fun j=>some (j*i.size,i.size)) cs Bke=some out→out.length=cs.length:=by
  intro Bke;induction Bke with
  |nil=>intro cs out h;simp[Wv]at h;rw[h]
  |cons p r ih =>
   intro cs out h;simp only[Wv]at h;split at h
   ·rename_i hc;rw[ih _ _ h,Xw (by omega)]
   ·cases h
 have Bgu:=hlen _ _ _ hf;rw[hfl]at Bgu;obtain⟨Xx,V4⟩:=hr.newObj (k:=m) hk hX (.cells Ch e) (.cells out (some e)) (by
  intro g' w' ht' hw';exact .cells _ _ Ch e hw' (Bry H4) (fun j y v hy hv=>(hc' j y v hy hv).mono ht' (Ot (M1 hfr hy))) (fun _ e=>(Bor e).symm))
 rw[C2];refine hn _ _ _ Xx V4 (.nm _ _ _ ?_);simp only[Aa];exact⟨n,0,Bl1 _,rfl,.inr rfl,e,Ch.size,by unfold World.shape?;rw[Bni],by omega⟩
end
end Go.Ab
namespace Go.Xl
open Go.Ab
section
variable{P:Program}
theorem c2{α:Type}{b:Bool}{x:A3 α}{y:α}(h:cond b x none=some y):b=true∧x=some y:=by cases b<;>simp at h⊢;exact h
def Bb5(n:Nat)(zs:A2 XV):A2 XV:=match n with
 |0=>[]
 |n+1=>zs++Bb5 n zs
theorem B7q(zs:A2 XV):∀n,A9 (Bb5 n zs)=(List.replicate n (A9 zs)).flatten
 |0=>rfl
 |n+1=>by simp only[Bb5,Dk,B7q zs n,Bqk,Bmj]
def plN(sz:Nat):Nat→Nat→A2 (Nat×Nat)
 |_,0=>[]
 |j,n+1=>(j*sz,sz)::plN sz (j+1) n
theorem B16(sz:Nat):∀(n j k:Nat) p,(plN sz j n)[k]? = some p→p=((j+k)*sz,sz)
 |0,j,k,p,h=>by simp[plN]at h
 |n+1,j,k,p,h=>by
  cases k with
  |zero=>simp[plN]at h;rw[← h];rfl
  |succ k =>simp only[plN,Bpt]at h;rw[B16 sz n (j+1) k p h];congr 2;omega
theorem Auq{f g:Nat→A3 (Nat×Nat)}(h:∀i p,f i=some p→g i=some p):∀(Bke:A2 (Nat×AV)) (cs out:A2 AV),Wv f cs Bke=some out→Wv g cs Bke=some out
 |[],cs,out,hf=>hf
 |p::r,cs,out,hf=>by
  simp only[Wv]at hf⊢;cases hp:f p.1 with
  |none=>rw[hp]at hf;cases hf
  |some q =>
   rw[hp]at hf;rw[h _ _ hp];simp only at hf⊢;split at hf
   ·rename_i hc;rw[Blv hc];exact Auq h r _ _ hf
   ·cases hf
def Aqm(P:Program)(st:Ad)(o:Oper)(t:TypeId)(n:Nat)(Bke:Array (Nat×Operand)):A3 Out :=
 match P.underlying t with
 |some (.slice e)=>match P.info? e with
  |some i=>match i.zero with
   |some z=>match newName o,C5 st (Bke.toList.map (·.2)) with
    |some m,some vs =>
     cond (Nat.beq z.cells.size i.size) (cond (Rm vs) (match Amg (plN i.size 0 n) (Bb5 n (z.cells.toList.map fun v=>.d (Vd v))) ((Bke.toList.map (·.1)).zip vs) with
      |some out=>cond (Nat.ble (n*i.size) 16777216) (cond (fresh m st) (cond (Bz [m] (A9 out)) (some ⟨.all,.nm m (.s 0 n i.size),(Bke.toList.map (·.2)).zip vs,(m,.cells out (some e))::st.objs,st.live,[m],[m]⟩) none) none) none
      |none=>none) none) none
    |_,_=>none
   |none=>none
  |none=>none
 |_=>none
theorem Ays{o:Oper}{st:Ad}{t:TypeId}{n:Nat}{Bke:Array (Nat×Operand)}{out:Out}(ho:o.op = .buildSlice t n Bke)(h:Aqm P st o t n Bke=some out):Br P o st out:=by
 unfold Aqm at h;split at h
 ·rename_i e ht;split at h
  ·rename_i i hi;split at h
   ·rename_i z hz;split at h
    ·rename_i m vs hm Nz;cases h1:Nat.beq z.cells.size i.size with
     |false=>simp[h1]at h
     |true =>
     cases h2:Rm vs with
     |false=>simp[h1,h2]at h
     |true =>
     simp only[h1,h2,Bkn]at h;split at h
     ·rename_i cs Q2;cases h3:Nat.ble (n*i.size) 16777216 with
      |false=>simp[h3]at h
      |true =>
      cases h4:fresh m st with
      |false=>simp[h3,h4]at h
      |true =>
      cases h5:Bz [m] (A9 cs) with
      |false=>simp[h3,h4,h5]at h
      |true =>
      simp only[h3,h4,h5,Bkn,Bks]at h;subst h;obtain⟨f1,f2⟩:=M9 h4;refine⟨X6 Nz,?_,fun j z hj hz=>?_⟩
      ·have hf:=Aph Q2;rw[Bcv,B7q]at hf;have:=Acr (P:=P) (X:=st.X) (xs:=A9 vs) m ho ht hi hz (Apg z.cells.toList) (Bkr h1) (by rw[Ag,Hw Nz];simp) (A2b h2)
        (Auq (fun j p hp=>by have:=B16 _ _ _ _ _ hp;rw[Blx]at this;rw[this]) _ _ _ hf) (Bl5 h3) (Ma f1) f2 h5
       rw[Iy];exact this
      ·rw[Cq (by simpa using hj)]at hz;exact hz
     ·cases h
    ·cases h
   ·cases h
  ·cases h
 ·cases h
def B7r(P:Program)(st:Ad)(ts:Array TypeId)(x:Operand):A3 Out :=
 match Av st x with
 |some (.nm k (.s off len sz))=>match ts[0]? with
  |some t=>match P.underlying t with
   |some (.slice _)=>some (B5 st (.d (.i .i64 (len:Int))) [(x,.nm k (.s off len sz))])
   |_=>none
  |none=>none
 |_=>none
theorem B7s{o:Oper}{st:Ad}{ts:Array TypeId}{x:Operand}{out:Out}(ho:o.op = .call { callee:=.builtin .len,args:=#[x],argTypes:=ts })(h:B7r P st ts x=some out):Br P o st out:=by
 unfold B7r at h;split at h
 ·rename_i k off len sz hx;split at h
  ·rename_i t ht0;split at h
   ·rename_i e ht;cases h;exact A8 (Cg hx) fun X=>Agv ho ht0 ht
   ·cases h
  ·cases h
 ·cases h
def Aqn(P:Program)(st:Ad)(t:TypeId)(x y:Operand):A3 Out :=
 match Av st x with
 |some (.nm k (.s off len sz))=>match Fj P t,xd st y,Al1 st y with
  |some (_,sz',_),some b,some n=>cond (Nat.beq sz' sz) (cond (decide (0≤n∧n<(len:Int))) (some (B5 st (.nm k (.p (off+n.toNat*sz))) [(x,.nm k (.s off len sz)),(y,.d b)])) none) none
  |_,_,_=>none
 |_=>none
theorem Ayu{o:Oper}{st:Ad}{t:TypeId}{x y:Operand}{out:Out}(ho:o.op = .indexAddr t x y)(h:Aqn P st t x y=some out):Br P o st out:=by
 unfold Aqn at h;split at h
 ·rename_i k off len sz hx;split at h
  ·rename_i e sz' by0 b n hs hb hn;cases h1:Nat.beq sz' sz with
   |false=>simp[h1]at h
   |true =>
   cases h2:decide (0≤n∧n<(len:Int)) with
   |false=>simp[h1,h2]at h
   |true =>
   simp only[h1,h2,Bkn,Bks]at h;subst h;have e1:=Bkr h1;subst e1;obtain⟨c0,c1⟩:=Bpb h2;obtain⟨a,kk,ha,had⟩:=Pr hn;rw[hb]at ha;cases ha;refine A8 ?_ fun X=>?_
   ·intro p hp;simp only[B0,Bkv,Bll,Bkq,Blh,Bma]at hp;rcases hp with rfl|rfl
    ·exact Aj hx
    ·exact X3 hb
   ·have:=Yq (P:=P) (X:=X) (k:=k) (off:=off) (j:=kk) ho (Cb hs) c0 c1;simp only[B0,Bkv,Bll,XV.a,had];exact this
  ·cases h
 ·cases h
structure XG where
 run:Program→Oper→Ad→Option Out
end
end Go.Xl
namespace Go.Ab
theorem HR.beta{nm:A2 Nat}{B:Bl}{g:Gh}{w:World}{X:A7}(h:HR nm B g w X)(hl:X.live=[])(n:Nat):g.β n=none:=by
 have:=h.live n;rw[hl]at this;cases hb:g.β n with
 |none=>rfl
 |some x=>rw[hb]at this;simp at this
theorem HR.Bem{nm:A2 Nat}{B:Bl}{g:Gh}{w:World}{X:A7}(h:HR nm B g w X)(hl:X.live=[]):HR nm (Bl.of g w X) g w X :=
 ⟨fun k hk=>⟨rfl,(h.Dc k hk).2⟩,h.Ik,Bl1 _,⟨rfl,rfl,rfl,Bl1 _⟩,.refl _ _,fun _ _ _=>⟨rfl,rfl⟩,h.objs,h.Fx,h.C0,fun k o hk=>.inr (.inl ⟨k,o,hk,rfl⟩),h.live,h.C4,h.Bo,
  fun n b hn=>.inr (.inr ⟨n,hn⟩),h.Cd,.off (h.beta hl)⟩
section
variable{P:Program}{F:Fence}{n:Nat}{ops:Array Oper}{Q:Exit→Act→World→Prop}{a:Act}{w:World}{Bkh:A2 Oper}{o:Oper}
end
structure Bjt(w:World)(m it:Nat)(es:Array MapEntry)(clock:Nat)(seen:List Nat):Prop where
 map:w.heap[m]? = some (.map es clock)
 iter:w.heap[it]? = some (.mapIter (some m) clock seen.toArray clock)
mutual
def Yz:AV→Bool
 |.d _=>true
 |.nm _ _=>true
 |.Bu _ _ _ _=>false
 |.Uo _ _ _=>false
 |.E2 l=>Eg l
 |.agg l=>Eg l
 |.Ff _ l=>Eg l
def Eg:List AV→Bool
 |[]=>true
 |x::r=>Yz x&&Eg r
end
theorem Vj{l:A2 AV}(h:Eg l=true){i:Nat}{x:AV}(hx:l[i]? = some x):Yz x=true:=by
 induction l generalizing i with
 |nil=>simp at hx
 |cons y r ih =>
  simp only[Eg,Bls]at h;cases i with
  |zero=>simp at hx;subst hx;exact h.1
  |succ i=>exact ih h.2 (by simpa using hx)
def U7:Ob→Bool
 |.cells cs _=>Eg cs
 |.Ck _ _ _ _=>false
 |_=>true
theorem RA.pull{g gc:Gh}{w:World}{f:Nat→Nat}(hγ:gc.γ=g.γ)(hρ:∀k,gc.ρ k=g.ρ (f k)):∀(x:AV) (v:Value),Yz x=true→RA g w (Ds f x) v→RA gc w x v
 |.d x,v,_,h=>by
  simp only[Ds]at h;cases h with
  |d _ _ h=>exact .d _ _ (hγ▸h)
 |.nm k p,v,hn,h=>by
  simp only[Ds]at h;cases h with
  |nm _ _ _ h=>exact .nm k p v (by rw[hρ k];exact h)
 |.Bu n sz es ty,v,hn,h=>by simp[Yz]at hn
 |.Uo n e cs,v,hn,h=>by simp[Yz]at hn
 |.E2 l,v,hn,h=>by
  simp only[Ds,Gb]at h;cases h with
  |E2 _ vs hl hx =>
   refine .E2 l vs (by simpa using hl) fun i x v h1 h2=>?_
   have:SizeOf.sizeOf x<SizeOf.sizeOf l:=Bn0 (Bln h1);exact RA.pull hγ hρ x v (Vj (by simpa[Yz]using hn) h1) (hx i _ v (by rw[Bkt,h1];rfl) h2)
 |.agg l,v,hn,h=>by
  simp only[Ds,Gb]at h;cases h with
  |agg _ vs hl hx =>
   refine .agg l vs (by simpa using hl) fun i x v h1 h2=>?_
   have:SizeOf.sizeOf x<SizeOf.sizeOf l:=Bn0 (Bln h1);exact RA.pull hγ hρ x v (Vj (by simpa[Yz]using hn) h1) (hx i _ v (by rw[Bkt,h1];rfl) h2)
 |.Ff c l,v,hn,h=>by
  simp only[Ds,Gb]at h;cases h with
  |Ff _ _ vs hl hx =>
   refine .Ff c l vs (by simpa using hl) fun i x v h1 h2=>?_
   have:SizeOf.sizeOf x<SizeOf.sizeOf l:=Bn0 (Bln h1);exact RA.pull hγ hρ x v (Vj (by simpa[Yz]using hn) h1) (hx i _ v (by rw[Bkt,h1];rfl) h2)
termination_by x=>x
theorem C3.pull{g gc:Gh}{w:World}{f:Nat→Nat}(hγ:gc.γ=g.γ)(hρ:∀k,gc.ρ k=g.ρ (f k)){b:Nat}{o:Ob}(hn:U7 o=true)(h:C3 g w b (E7 f o)):C3 gc w b o:=by
 cases o with
 |cells cs ty =>
  simp only[E7,Gb]at h;cases h with
  |cells _ _ arr T hb hl hc h4 =>refine .cells cs ty arr T hb (by simpa using hl) (fun i x v hx hv=>?_) h4;exact RA.pull hγ hρ x v (Vj (by simpa[U7]using hn) hx) (hc i _ v (by rw[Bkt,hx];rfl) hv)
 |map l c =>
  simp only[E7]at h;cases h with
  |map _ _ es hb hl hc h4 h5=>exact .map l c es hb hl (fun i x e hx he=>⟨(hc i x e hx he).1,(hc i x e hx he).2.1,hγ▸(hc i x e hx he).2.2⟩) h4 h5
 |Oy s pos=>simp only[E7]at h;cases h with|Oy _ _ hb=>exact .Oy s pos hb
 |Jg k since seen last =>
  simp only[E7]at h;cases h with
  |Jg _ _ _ _ hb=>exact .Jg k since seen last (by rw[hρ k];exact hb)
 |Dt=>simp only[E7]at h;cases h with|Dt hb=>exact .Dt hb
 |Ck L sz l c=>simp[U7]at hn
def Gh.pull(g:Gh)(f:Nat→Nat):Gh:={ γ:=g.γ,β:=fun _=>none,ρ:=fun k=>g.ρ (f k) }
theorem HR.pull{nm ns:A2 Nat}{B:Bl}{g:Gh}{w:World}{X Y:A7}(hr:HR nm B g w X){f:Nat→Nat}(hl:Y.live=[])(Up:∀k o,Y.objs.lookup k=some o→X.objs.lookup (f k)=some (E7 f o))
  (Aol:∀k k' o o',Y.objs.lookup k=some o→Y.objs.lookup k'=some o'→f k=f k'→k=k') (hnt:∀k o,Y.objs.lookup k=some o→U7 o=true)
  (hns:∀k∈ns,f k=k∧k∈nm∧(Y.objs.lookup k).isSome):HR ns B (g.pull f) w Y:=by
 refine⟨?_,hr.Ik,hr.base,hr.io,hr.le,hr.frame,?_,?_,?_,?_,?_,by simp[Gh.pull],by simp[Gh.pull],by simp[Gh.pull],by simp[Gh.pull],.off fun _=>rfl⟩
 ·intro k hk;obtain⟨h1,h2,h3⟩:=hns k hk;exact⟨by show g.ρ (f k)=_;rw[h1];exact(hr.Dc k h2).1,h3⟩
 ·intro k o hk;exact C3.pull (g:=g) (gc:=g.pull f) (f:=f) rfl (fun _=>rfl) (hnt k o hk) (hr.objs _ _ (Up k o hk))
 ·intro k o hk;exact hr.Fx _ _ (Up k o hk)
 ·intro k k' o o' hk Lk he;exact Aol k k' o o' hk Lk (hr.C0 _ _ _ _ (Up k o hk) (Up k' o' Lk) he)
 ·intro k o hk;exact hr.Ce _ _ (Up k o hk)
 ·intro n;rw[hl];simp[Gh.pull]
def Aur(P:Program)(f:FuncId)(ns:A2 Nat)(args:A2 AV)(gs:A2 (Nat×AV))(X:A7)(res:AV)(X':A7):Prop :=
 ∀(g:Gh) (w:World) (vs:Array Value),HR ns (Bl.of g w X) g w X→GH g w gs→args.length=vs.size →
  (∀(i:Nat) x v,args[i]? = some x→vs[i]? = some v→RA g w x v) →
  Calls P f vs w fun e w'=>∃g' v,e = .returned v∧RA g' w' res v∧HR ns (Bl.of g w X) g' w' X'
structure Aqo(ns:List Nat)(X Xc D1 Y:A7)(f:Nat→Nat)(F:List Nat):Prop where
 live:Xc.live=[]∧D1.live=[]∧Y.live=X.live
 Sd:∀k o,Xc.objs.lookup k=some o→X.objs.lookup (f k)=some (E7 f o)
 Biu:∀k o,Xc.objs.lookup k=some o→U7 o=true
 Bgv:∀k o,D1.objs.lookup k=some o→∃ks,Ip ks o=true∧∀j∈ks,(D1.objs.lookup j).isSome
 inj:∀k k',(Xc.objs.lookup k).isSome∨(D1.objs.lookup k).isSome→(Xc.objs.lookup k').isSome∨(D1.objs.lookup k').isSome→f k=f k'→k=k'
 nsi:∀k∈ns,(Xc.objs.lookup k).isSome∧(D1.objs.lookup k).isSome
 yin:∀k o,D1.objs.lookup k=some o→Y.objs.lookup (f k)=some (E7 f o)
 Biv:∀j o,Y.objs.lookup j=some o→(∃k,(D1.objs.lookup k).isSome∧f k=j)∨(X.objs.lookup j=some o∧(∀k,(Xc.objs.lookup k).isSome→f k≠j)∧(F=[]∨F9 F o=true))
 Dc:∀j<1000,(X.objs.lookup j).isSome→(Y.objs.lookup j).isSome∧∀k,f k=j→(D1.objs.lookup k).isSome→k∈ns
 free:∀k,(D1.objs.lookup k).isSome→k∈ns∨f k∈F
theorem Vk{α:Type}{x:A3 α}(h:x.isSome):∃y,x=some y:=Blm.1 h
section
variable{P:Program}{X:A7}
theorem Aur.use{fn:FuncId}{ns:A2 Nat}{xs:A2 AV}{gs:A2 (Nat×AV)}{res:AV}{Xc D1 Y:A7}(hs:Aur P fn ns xs gs Xc res D1)(hgd:Ba (gs.map (·.2))=true){f:Nat→Nat}{F:A2 Nat}(hc:Aqo ns X Xc D1 Y f F)
  (hd:Eg xs=true) (Uq:∃ks,Cj ks res=true∧∀j∈ks,(D1.objs.lookup j).isSome) {nm:A2 Nat} (Ek:∀j∈nm,j<1000) {B:Bl} {g:Gh} {w:World}
  (hr:HR nm B g w X) (hgs:GH g w gs) {vs:Array Value} (hl:xs.length=vs.size) (Nz:∀(i:Nat) x v,(Dj f xs)[i]? = some x→vs[i]? = some v→RA g w x v) :
  Calls P fn vs w fun e w'=>∃v g',e = .returned v∧HR nm B g' w' Y∧Trans F g w g' w'∧RA g' w' (Ds f res) v:=by
 classical
 let gc:Gh:=g.pull f;have h0:HR ns (Bl.of gc w Xc) gc w Xc:=by have h1:HR [] B gc w Xc:=hr.pull hc.live.1 hc.Sd (fun k k' o o' hk Lk he=>hc.inj k k' (.inl (by rw[hk];rfl)) (.inl (by rw[Lk];rfl)) he) hc.Biu (by simp);have h2:=h1.Bem hc.live.1;exact⟨fun k hk=>⟨rfl,(hc.nsi k hk).1⟩,h2.Ik,h2.base,h2.io,h2.le,h2.frame,h2.objs,h2.Fx,h2.C0,h2.Ce,h2.live,h2.C4,h2.Bo,h2.Ca,h2.Cd,h2.eta⟩
 have hgc:GH gc w gs:=by intro p hp;have h1:=hgs p hp;obtain⟨i,hi⟩:=Bpg hp;exact h1.data (Iv hgd (i:=i) (by rw[Bkt,hi];rfl)) (.refl _ _)
 have:=hs gc w vs h0 hgc hl fun i x v hx hv=>RA.pull (g:=g) (gc:=g.pull f) (f:=f) rfl (fun _=>rfl) x v (Vj hd hx) (Nz i _ v (by rw[Gb,Bkt,hx];rfl) hv)
 refine this.mono ?_;rintro e w' ⟨g1,v,rfl,T8,h1⟩;let ρ':Nat→Nat:=fun j=>if h:∃k,(D1.objs.lookup k).isSome∧f k=j then g1.ρ h.choose else g.ρ j
 have Ho:∀k,(D1.objs.lookup k).isSome→ρ' (f k)=g1.ρ k:=by intro k hk;have h:∃k',(D1.objs.lookup k').isSome∧f k'=f k:=⟨k,hk,rfl⟩;have:=hc.inj _ _ (.inr h.choose_spec.1) (.inr hk) h.choose_spec.2;simp only[ρ',h,dif_pos];rw[this]
 have Dd:∀j,(∀k,(D1.objs.lookup k).isSome→f k≠j)→ρ' j=g.ρ j:=by
  intro j hj;have:¬ ∃k,(D1.objs.lookup k).isSome∧f k=j:=fun⟨k,h,e⟩=>hj k h e
  simp only[ρ',this,dif_neg,not_false_iff]
 have hold:∀k∈ns,g1.ρ k=g.ρ (f k):=fun k hk=>(h1.Dc k hk).1
 have hna:∀b,(¬ ∃k o,Xc.objs.lookup k=some o∧g.ρ (f k)=b)→¬(Bl.of gc w Xc).allowed b:=by
  rintro b hb (⟨k,o,hk,he⟩|⟨n,hn⟩)
  ·exact hb ⟨k,o,hk,he⟩
  ·cases hn
 have Q5:∀b,b<w.heap.size→(¬ ∃k o,Xc.objs.lookup k=some o∧g.ρ (f k)=b)→w'.heap[b]? = w.heap[b]?∧g1.γ b=g.γ b:=fun b hb hn=>h1.frame b hb (hna b hn)
 have G9:w.heap.size≤w'.heap.size:=h1.base;have hle:LeD g.γ w g1.γ w':=h1.le;have A1w:∀n b,g.β n=some (some b)→w'.heap[b]? = w.heap[b]?∧g1.γ b=g.γ b:=by intro n b hn;refine Q5 b (hr.Cd n b hn) ?_;rintro ⟨k,o,hk,he⟩;exact hr.Bo n b _ _ hn (hc.Sd k o hk) he.symm
 have A1x:∀L i b,(g.β L).isSome→g.η L i=some b→w'.heap[b]? = w.heap[b]?∧g1.γ b=g.γ b:=by intro L i b hL hb;refine Q5 b (hr.eta.lt L i b hL hb) ?_;rintro ⟨k,o,hk,he⟩;exact hr.eta.obj L i b _ _ hL hb (hc.Sd k o hk) he.symm
 have A1y:∀j o,X.objs.lookup j=some o→(∀k,(Xc.objs.lookup k).isSome→f k≠j)→w'.heap[g.ρ j]? = w.heap[g.ρ j]?∧g1.γ (g.ρ j)=g.γ (g.ρ j):=by intro j o hj hne;refine Q5 _ (Ey (hr.objs j o hj)) ?_;rintro ⟨k,o',hk,he⟩;exact hne k (by rw[hk];rfl) (hr.C0 _ _ _ _ (hc.Sd k o' hk) hj he)
 have Aqp:∀k o,D1.objs.lookup k=some o→w.heap.size≤g1.ρ k∨∃k0 o0,Xc.objs.lookup k0=some o0∧g1.ρ k=g.ρ (f k0):=by
  intro k o hk;rcases h1.Ce k o hk with h|h|⟨n,hn⟩
  ·exact .inl h
  ·obtain⟨k0,o0,h2,h3⟩:=h;exact .inr ⟨k0,o0,h2,h3.symm⟩
  ·cases hn
 have ht:Trans F g w { γ:=g1.γ,β:=g.β,ρ:=ρ',η:=g.η } w':=by
  refine⟨hle,?_,fun n ob _ he=>⟨he,fun b hb=>⟨(A1w n b (hb▸he)).2,(A1w n b (hb▸he)).1⟩⟩,fun L _ hL=>⟨rfl,fun i b hb=>⟨(A1x L i b hL hb).2,(A1x L i b hL hb).1⟩⟩⟩;intro j hj;simp only;by_cases h:∃k,(D1.objs.lookup k).isSome∧f k=j
  ·obtain⟨k,hk,rfl⟩:=h;rw[Ho k hk];rcases hc.free k hk with h|h
   ·exact hold k h
   ·exact(hj h).elim
  ·exact Dd j fun k hk e=>h ⟨k,hk,e⟩
 have hY:∀j o,Y.objs.lookup j=some o→(∃k o',D1.objs.lookup k=some o'∧f k=j∧o=E7 f o')∨((∀k,(D1.objs.lookup k).isSome→f k≠j)∧X.objs.lookup j=some o∧(∀k,(Xc.objs.lookup k).isSome→f k≠j)∧(F=[]∨F9 F o=true)):=by
  intro j o hj;by_cases h:∃k,(D1.objs.lookup k).isSome∧f k=j
  ·obtain⟨k,hk,rfl⟩:=h;obtain⟨o',ho'⟩:=Vk hk;have:=hc.yin k o' ho';rw[hj]at this;exact .inl ⟨k,o',ho',rfl,by simpa using this⟩
  ·rcases hc.Biv j o hj with h2|h2
   ·exact(h h2).elim
   ·exact .inr ⟨fun k hk e=>h ⟨k,hk,e⟩,h2⟩
 have A0c:∀k o,D1.objs.lookup k=some o→ρ' (f k)=g1.ρ k:=fun k o hk=>Ho k (by rw[hk];rfl)
 have mix:∀k o,D1.objs.lookup k=some o→∀j p,X.objs.lookup j=some p→(∀k,(Xc.objs.lookup k).isSome→f k≠j)→g1.ρ k≠g.ρ j:=by
  intro k o hk j p hj hne he;rcases Aqp k o hk with h|⟨k0,o0,h2,h3⟩
  ·have:=Ey (hr.objs j p hj);omega
  ·rw[h3]at he;exact hne k0 (by rw[h2];rfl) (hr.C0 _ _ _ _ (hc.Sd k0 o0 h2) hj he)
 refine⟨v,{ γ:=g1.γ,β:=g.β,ρ:=ρ',η:=g.η },rfl,⟨?_,h1.Ik,Bmh hr.base G9,⟨h1.io.1.trans hr.io.1,h1.io.2.1.trans hr.io.2.1,h1.io.2.2.1.trans hr.io.2.2.1,Bmh hr.io.2.2.2 h1.io.2.2.2⟩,hr.le.trans hle,?_,?_,?_,?_,?_,?_,hr.C4,?_,hr.Ca,?_,hr.eta.step (fun L hL=>.inl ⟨hL,rfl⟩) G9 (fun n b hb=>.inl ⟨n,hb⟩) fun j o hj=>?_⟩,ht,?_⟩
 ·intro j hj;obtain⟨h2,h3⟩:=hr.Dc j hj;obtain⟨h4,h5⟩:=hc.Dc j (Ek j hj) h3;refine⟨?_,h4⟩;simp only;by_cases h:∃k,(D1.objs.lookup k).isSome∧f k=j
  ·obtain⟨k,hk,rfl⟩:=h;rw[Ho k hk,hold k (h5 k rfl hk)];exact h2
  ·rw[Dd j fun k hk e=>h ⟨k,hk,e⟩];exact h2
 ·intro b hb hnb;have h2:=hr.frame b hb hnb;have h3:=Q5 b (Bmn hb hr.base) (by
   rintro ⟨k,o,hk,he⟩;rcases hr.Ce _ _ (hc.Sd k o hk)with h|h
   ·rw[he]at h;omega
   ·rw[he]at h;exact hnb h)
  exact⟨h3.1.trans h2.1,h3.2.trans h2.2⟩
 ·intro j o hj;rcases hY j o hj with ⟨k,o',hk,rfl,rfl⟩|⟨hne,Gf,Ta,hfr⟩
  ·simp only;rw[A0c k o' hk];obtain⟨ks,q1,q2⟩:=hc.Bgv k o' hk;exact C3.Am2 (g:={ γ:=g1.γ,β:=g.β,ρ:=ρ',η:=g.η }) (gc:=g1) rfl (fun j hj=>Ho j (q2 j hj)) q1 (h1.objs _ _ hk)
  ·simp only;rw[Dd j hne];exact(hr.objs j o Gf).Dc ht (A1y j o Gf Ta).1 hfr
 ·intro j o hj;rcases hY j o hj with ⟨k,o',hk,rfl,rfl⟩|⟨hne,Gf,Ta,hfr⟩
  ·simp only;rw[A0c k o' hk];exact h1.Fx _ _ hk
  ·simp only;rw[Dd j hne,(A1y j o Gf Ta).2];exact hr.Fx j o Gf
 ·intro j j' o o' hj Gf he;simp only at he;rcases hY j o hj with ⟨k,p,hk,e1,_⟩|⟨hne,hj1,Biw,_⟩<;>rcases hY j' o' Gf with ⟨k',q,Lk,e2,_⟩|⟨Ta,At6,Bgw,_⟩
  ·rw[← e1,← e2]at he⊢;rw[A0c k p hk,A0c k' q Lk]at he;rw[h1.C0 _ _ _ _ hk Lk he]
  ·rw[← e1,A0c k p hk,Dd j' Ta]at he;exact(mix k p hk j' o' At6 Bgw he).elim
  ·rw[← e2,A0c k' q Lk,Dd j hne]at he;exact(mix k' q Lk j o hj1 Biw he.symm).elim
  ·rw[Dd j hne,Dd j' Ta]at he;exact hr.C0 j j' o o' hj1 At6 he
 ·intro j o hj;rcases hY j o hj with ⟨k,o',hk,rfl,rfl⟩|⟨hne,Gf,Ta,hfr⟩
  ·simp only;rw[A0c k o' hk];rcases Aqp k o' hk with h|⟨k0,o0,h2,h3⟩
   ·exact .inl (Bmh hr.base h)
   ·rw[h3];exact hr.Ce _ _ (hc.Sd k0 o0 h2)
  ·simp only;rw[Dd j hne];exact hr.Ce j o Gf
 ·intro n;rw[hc.live.2.2];exact hr.live n
 ·intro n b j o hn hj;rcases hY j o hj with ⟨k,o',hk,rfl,rfl⟩|⟨hne,Gf,Ta,hfr⟩
  ·simp only;rw[A0c k o' hk];rcases Aqp k o' hk with h|⟨k0,o0,h2,h3⟩
   ·have:=hr.Cd n b hn;omega
   ·rw[h3];exact hr.Bo n b _ _ hn (hc.Sd k0 o0 h2)
  ·simp only;rw[Dd j hne];exact hr.Bo n b j o hn Gf
 ·intro n b hn;exact Bmn (hr.Cd n b hn) G9
 ·rcases hY j o hj with ⟨k,o',hk,rfl,rfl⟩|⟨hne,Gf,Ta,hfr⟩
  ·simp only;rw[A0c k o' hk];rcases Aqp k o' hk with h|⟨k0,o0,h2,h3⟩
   ·exact .inr (.inl h)
   ·exact .inl ⟨f k0,_,hc.Sd k0 o0 h2,h3⟩
  ·simp only;rw[Dd j hne];exact .inl ⟨j,o,Gf,rfl⟩
 ·obtain⟨ks,q1,q2⟩:=Uq;exact RA.Am2 (g:={ γ:=g1.γ,β:=g.β,ρ:=ρ',η:=g.η }) (gc:=g1) rfl (fun j hj=>Ho j (q2 j hj)) T8 q1
end
end Go.Ab
namespace Go.Xl
open Go.Ab
section
variable{P:Program}
def A2n{kt vt:Ty}(b:Nat):Fa kt vt→A3 (Nat×kt.T×vt.T)
 |[]=>none
 |e::r=>cond (Nat.beq e.1 b) (some e) (A2n b r)
theorem Amv{kt vt:Ty}{b:Nat}{e:Nat×kt.T×vt.T}:∀ {l:Fa kt vt},A2n b l=some e→e.1=b∧∃i:Nat,l[i]? = some e
 |[],h=>by simp[A2n]at h
 |x::r,h=>by
  simp only[A2n]at h;cases hb:Nat.beq x.1 b with
  |true =>simp only[hb,Bkn,Bks]at h;subst h;exact⟨Bkr hb,0,rfl⟩
  |false =>simp only[hb,Bko]at h;obtain⟨h1,i,h2⟩:=Amv h;exact⟨h1,i+1,by simpa using h2⟩
def Dg:A2 Nat→A3 (A2 Nat×Nat)
 |[]=>none
 |[b]=>some ([],b)
 |a::r=>match Dg r with
  |some (p,b)=>some (a::p,b)
  |none=>none
theorem Aus:∀ {l p:A2 Nat} {b:Nat},Dg l=some (p,b)→l=p++[b]
 |[],p,b,h=>by simp[Dg]at h
 |[x],p,b,h=>by
  simp only[Dg,Bks,Bld]at h;obtain⟨rfl,rfl⟩:=h;rfl
 |a::c::r,p,b,h=>by
  simp only[Dg]at h;split at h
  ·rename_i p' b' h';simp only[Bks,Bld]at h;obtain⟨rfl,rfl⟩:=h;have:=Aus (l:=c::r) h';rw[this];rfl
  ·cases h
theorem Ayv{w:World}{m it:Nat}{es:Array MapEntry}{clock since:Nat}{seen:A2 Nat}{e:MapEntry}(hm:w.heap[m]? = some (.map es clock))(hi:w.heap[it]? = some (.mapIter (some m) since (seen++[e.born]).toArray clock))(he:e∈es)(hnd:(es.toList.map (·.born)).Nodup) :
  (Instr.entry (.pointer (some ⟨it,0,none⟩))).run P w = .ok (.tuple #[e.key,e.val]) w:=by
 have hg:=Qg (P:=P) hi;have hgm:=Bne (P:=P) hm;have hf:es.find? (fun x=>x.born==e.born)=some e:=by
  rw[← Array.find?_toList];have:∀l:A2 MapEntry,(l.map (·.born)).Nodup→e∈l→l.find? (fun x=>x.born==e.born)=some e:=by
   intro l;induction l with
   |nil=>intro _ h;simp at h
   |cons x r ih =>
    intro hn hm;simp only[Bkv,Bm1]at hn;rw[List.find?_cons];rcases Bkq.1 hm with rfl|hm
    ·simp
    ·have hne:(x.born==e.born)=false:=by simp only[Bp4];intro hx;exact hn.1 (hx▸Bl3 (f:=(·.born)) hm)
     rw[hne];exact ih hn.2 hm
  exact this _ hnd (by simpa using he)
 simp only[Instr.entry,Blo,hg,Blk];simp[hf,hgm,Result.andThen]
theorem Aqq{o:Oper}{X:A7}{kt vt:Ty}{x:Operand}{m k since clock:Nat}{seen:A2 Nat}{es:Fa kt vt}{e:Nat×kt.T×vt.T}{i:Nat}(ho:o.op = .entry x)(Rn:kt.key=true)
  (hm:X.objs.lookup m=some (.Jg k since (seen++[e.1]).toArray clock)) (hk:X.objs.lookup k=some (A1i kt vt es clock)) (he:es[i]? = some e) :
  Bp P o [(x,.ptr m 0)] X X [] (.E2 [.d (kt.dv e.2.1),.d (vt.dv e.2.2)]) :=
 .quiet fun _ _ g w ac hr Aq=>by
  have e1:=(H9 Aq).Is;simp only at e1;have hb:=Acm (hr.objs m _ hm);obtain⟨By,hw⟩:=Xa Rn (hr.objs k _ hk);have hi:i<By.size:=by have:=(Bku.1 he).1;rw[hw.len]at this;exact this
  obtain⟨q1,q2,q3⟩:=hw.at' i e By[i] he (by simp[hi]);have hnd:(By.toList.map (·.born)).Nodup:=by
   have:By.toList.map (·.born)=es.map (·.1):=by
    apply Bny;intro j;simp only[Bkt];cases h1:es[j]? with
    |none =>
     have:By.size≤j:=by have:=List.getElem?_eq_none_iff.1 h1;rw[hw.len]at this;exact this
     rw[Bmp (by simpa using this)];rfl
    |some y =>
     have hj:j<By.size:=by have:=(Bku.1 h1).1;rw[hw.len]at this;exact this
     have:=(hw.at' j y By[j] h1 (by simp[hj])).1;simp[hj,this]
   rw[this];exact hw.nodup
  refine⟨.tuple #[By[i].key,By[i].val],?_,?_⟩
  ·have:=Ayv (P:=P) (e:=By[i]) (seen:=seen) hw.heap (by rw[q1];exact hb) (Br2 hi) hnd;simp only[execOp,ho,e1,this,Blo,Blk,Bo1]
  ·refine .E2 _ _ rfl fun i c u hc hu=>?_
   rcases i with _|_|i
   ·simp at hc hu;subst hc;subst hu;refine .d _ _ ?_;rw[q2];exact kt.B0z _ Rn
   ·simp at hc hu;subst hc;subst hu;exact .d _ _ q3
   ·simp at hc
def Ayw(st:Ad)(x:Operand):A3 Out :=
 match Av st x with
 |some (.nm m (.p 0))=>match lk m st.objs with
  |some (.Jg k since seen last)=>match lk k st.objs,Dg seen with
   |some (.map kt vt es clock),some (p,b)=>cond kt.key (cond (Nat.beq clock last) (match A2n b es with
    |some e=>some ⟨.look [m,k],.E2 [.d (kt.xv e.2.1),.d (vt.xv e.2.2)],[(x,.nm m (.p 0))],st.objs,st.live,[],[]⟩
    |none=>none) none) none
   |_,_=>none
  |_=>none
 |_=>none
theorem B41{o:Oper}{st:Ad}{x:Operand}{out:Out}(ho:o.op = .entry x)(h:Ayw st x=some out):Br P o st out:=by
 unfold Ayw at h;split at h
 rotate_left
 ·cases h
 rename_i m hx;split at h
 rotate_left
 ·cases h
 rename_i k since seen last hm;split at h
 rotate_left
 ·cases h
 rename_i kt vt es clock p b hk hl;obtain⟨Rn,h1⟩:=c2 h;clear h;obtain⟨hcl,h⟩:=c2 h1;clear h1;replace hcl:=Bkr hcl;subst hcl;cases he:A2n b es with
 |none=>rw[he]at h;cases h
 |some e =>
 rw[he]at h;simp only[Bks]at h;subst h;obtain⟨e1,i,e2⟩:=Amv he;have hs:=Aus hl;rw[← e1]at hs;refine⟨Cg hx,⟨rfl,rfl,rfl,fun X hX=>?_⟩,fun _ _ _ h=>h⟩;refine Aqq (k:=k) (i:=i) (seen:=p) (since:=since) (clock:=clock) (es:=es) ho Rn ?_ ?_ e2
 ·rw[← hs];exact(hX m (by simp)).trans (Vi hm)
 ·exact(hX k (by simp)).trans (P3 hk)
end
def A4{α β:Type}(x:A3 α)(a:β)(f:α→β):β :=
 match x with
 |none=>a
 |some y=>f y
section
variable{P:Program}{R:Type}
def Aqr(st:Ad)(x:Operand)(K:Out→A3 R):A3 R :=
 match Av st x with
 |some (.nm m (.p 0))=>match lk m st.objs with
  |some (.Jg k since seen last)=>match lk k st.objs with
   |some (.map kt vt es clock)=>cond kt.key (cond (Nat.beq clock last) (A4 (Dg seen) none fun p=>A4 (A2n p.2 es) none fun e =>
    K ⟨.look [m,k],.E2 [.d (kt.xv e.2.1),.d (vt.xv e.2.2)],[(x,.nm m (.p 0))],st.objs,st.live,[],[]⟩) none) none
   |_=>none
  |_=>none
 |_=>none
theorem Ayx{o:Oper}{st:Ad}{x:Operand}{K:Out→A3 R}{r:R}(ho:o.op = .entry x)(h:Aqr st x K=some r):∃out,K out=some r∧Br P o st out:=by
 unfold Aqr at h;split at h
 ·rename_i m hx;split at h
  ·rename_i k since seen last hm;split at h
   ·rename_i kt vt es clock hk;cases h1:kt.key with
    |false=>simp[h1]at h
    |true =>
    cases h2:Nat.beq clock last with
    |false=>simp[h1,h2]at h
    |true =>
     simp only[h1,h2,Bkn]at h;cases h3:Dg seen with
     |none=>rw[h3]at h;cases h
     |some p =>
      rw[h3]at h;simp only[A4]at h;cases h4:A2n p.2 es with
      |none=>rw[h4]at h;cases h
      |some e =>rw[h4]at h;refine⟨_,h,B41 ho ?_⟩;obtain⟨p1,p2⟩:=p;simp only at h4;unfold Ayw;simp only[hx,hm,hk,h3,h1,h2,Bkn,h4]
   ·cases h
  ·cases h
 ·cases h
def B17(x:A3 Out)(K:Out→A3 R):A3 R :=
 match x with
 |some out=>K out
 |none=>none
theorem A7m{x:A3 Out}{K:Out→A3 R}{r:R}(h:B17 x K=some r):∃out,x=some out∧K out=some r:=by
 cases x with
 |none=>cases h
 |some out=>exact⟨out,rfl,h⟩
def B18(P:Program)(t:TypeId):Bool :=
 match P.underlying t with
 |some (.slice e)=>match P.underlying e with
  |some (.map _ _)=>true
  |_=>false
 |_=>false
def B7t(st:Ad)(x:Operand):Bool :=
 match Av st x with
 |some (.nm _ (.s _ _ _))=>true
 |_=>false
def B19(st:Ad)(c:Call):Bool :=
 match c.callee with
 |.builtin .len=>match c.args.toList with
  |[x]=>B7t st x
  |_=>false
 |_=>false
def B7u(P:Program)(st:Ad)(c:Call)(K:Out→A3 R):A3 R :=
 match c.callee with
 |.builtin .len=>match c.args.toList with
  |[x]=>B17 (B7r P st c.argTypes x) K
  |_=>none
 |_=>none
theorem B7v{o:Oper}{st:Ad}{c:Call}{K:Out→A3 R}{r:R}(ho:o.op = .call c)(h:B7u P st c K=some r):∃out,K out=some r∧Br P o st out:=by
 obtain⟨cal,args,ts⟩:=c;unfold B7u at h;simp only at h;split at h
 ·split at h
  ·rename_i x hl;have:=Qh (c:=⟨.builtin .len,args,ts⟩) hl;simp only at this;subst this;obtain⟨out,h1,h2⟩:=A7m h;exact⟨out,h2,B7s ho h1⟩
  ·cases h
 ·cases h
end
structure Ga(P:Program) where
 id:FuncId
 run:{R:Type}→Oper→Ad→List XV→(Out→Option R)→Option R
 ok:∀ {R:Type} (o:Oper) (st:Ad) (args:Array Operand) (ts:Array TypeId) (vs:List XV) (K:Out→Option R) (r:R),
  o.op = .call { callee:=.value (.func id),args:=args,argTypes:=ts }→C5 st args.toList=some vs→run o st vs K=some r→∃out,K out=some r∧Br P o st out
 Ben:{R:Type}→Oper→Ad→List XV→List XV→(Out→Option R)→Option R:=fun _ _ _ _ _=>none
 cok:∀ {R:Type} (o:Oper) (st:Ad) (t:Tmp) (J9:List XV) (args:Array Operand) (ts:Array TypeId) (vs:List XV) (K:Out→Option R) (r:R),
  o.op = .call { callee:=.value (.tmp t),args:=args,argTypes:=ts }→Av st (.tmp t)=some (.Ff id J9)→C5 st args.toList=some vs→Ben o st J9 vs K=some r→∃out,K out=some r∧Br P o st out:=by
  intros;contradiction
def Aut{P:Program}(f:FuncId):A2 (Ga P)→A3 (Ga P)
 |[]=>none
 |e::r=>cond (Nat.beq e.id f) (some e) (Aut f r)
theorem Ahv{P:Program}{f:FuncId}:∀ {l:A2 (Ga P)} {e:Ga P},Aut f l=some e→e.id=f
 |[],e,h=>by cases h
 |a::r,e,h=>by
  simp only[Aut]at h;cases hb:Nat.beq a.id f with
  |true=>simp only[hb,Bkn,Bks]at h;subst h;exact Bkr hb
  |false=>simp only[hb,Bko]at h;exact Ahv h
def Qi(f:FuncId)(o:Oper):Oper :=
 match o.op with
 |.call c=>{ o with op:=.call { c with callee:=.value (.func f) } }
 |_=>o
def Out.B1a(out:Out)(p:Operand×XV):Out:={ out with rd:=p::out.rd }
theorem P4{P:Program}{o:Oper}{c:Operand}{f:FuncId}{args:Array Operand}{ts:Array TypeId}{rd:A2 (Operand×AV)}{X X':A7}{F:A2 Nat}{res:AV}
  (ho:o.op = .call { callee:=.value c,args:=args,argTypes:=ts }) (h:Bp P (Qi f o) rd X X' F res):Bp P o ((c,.Ff f [])::rd) X X' F res:=by
 intro nm Ek B g w a hr Aq next Q hn
 have e1:=Aq _ (Bkz ..);simp only at e1;have hc:a.eval c = .func (.func f) #[] #[]:=by
  generalize a.eval c=vc at e1;cases e1 with
  |Ff _ _ vs hlen Nz =>
   have:vs=#[]:=by apply Bm8;simpa using hlen.symm
   rw[this]
 have hd:(Qi f o).dst=o.dst:=by unfold Qi;rw[ho]
 have h1:=h nm Ek B g w a hr (fun p hp=>Aq p (Bkx _ hp)) next Q (by rw[hd];exact hn)
 unfold Oper.wp at h1⊢;have e:execOp a.eval (Qi f o)=execOp a.eval o:=by unfold Qi;simp only[ho,execOp,resolve];simp only[hc];rfl
 rw[e]at h1;unfold Oper.upon at h1⊢;rw[hd]at h1;exact h1
theorem Br.callee{P:Program}{o:Oper}{st:Ad}{out:Out}{t:Tmp}{f:FuncId}{args:Array Operand}{ts:Array TypeId}(ho:o.op = .call { callee:=.value (.tmp t),args:=args,argTypes:=ts })
  (hs:Av st (.tmp t)=some (.Ff f [])) (h:Br P (Qi f o) st out):Br P o st (out.B1a (.tmp t,.Ff f [])):=by
 refine⟨?_,?_,h.ol⟩
 ·intro p hp;simp only[Out.B1a,B0,Bkv,Bkq]at hp;rcases hp with rfl|hp
  ·exact Aj (x:=.tmp t) hs
  ·exact h.Ri p hp
 ·have:=h.op;have e:B0 (out.B1a (.tmp t,.Ff f [])).rd=(.tmp t,.Ff f [])::B0 out.rd:=rfl;show match out.U3 with|.none=>_|.look ks=>_|.put k c=>_|.all=>_|.lab=>_|.Nl k c=>_|.new os=>_
  cases he:out.U3 with
  |none=>rw[he]at this;exact⟨this.1,this.2.1,this.2.2.1,fun X=>P4 ho (this.2.2.2 X)⟩
  |look ks=>rw[he]at this;exact⟨this.1,this.2.1,this.2.2.1,fun X hX=>P4 ho (this.2.2.2 X hX)⟩
  |put k c=>rw[he]at this;exact⟨this.1,this.2.1,this.2.2.1,fun X hX=>P4 ho (this.2.2.2 X hX)⟩
  |all=>rw[he]at this;exact P4 ho this
  |lab=>rw[he]at this;exact⟨this.1,P4 ho this.2⟩
  |Nl k c=>rw[he]at this;exact⟨this.1,P4 ho this.2⟩
  |new os=>rw[he]at this;exact⟨this.1,P4 ho this.2⟩
section
variable(P:Program)(Γ:A2 (Ga P))(own:A2 Nat){R:Type}
def Aa8(own:A2 Nat)(o:Oper):Bool :=
 match o.dst with
 |some d=>inl d own
 |none=>false
def Aqs(st:Ad)(x:Operand):Bool :=
 match Av st x with
 |some v=>Beh v
 |none=>false
structure XF where
 run:(P:Program)→(R:Type)→List (Ga P)→List Nat→Oper→Ad→(Out→Option R)→Option R
def B7w(c:Call):XF :=
 match c.callee with
 |.builtin .len=>⟨fun P R Γ own o st K=>match c.args.toList with
  |[x]=>cond (Aqs st x) (Aqe P st c.argTypes x K) (Apr P st c.argTypes x K)
  |_=>none⟩
 |.builtin .cap=>⟨fun P R Γ own o st K=>match c.args.toList with
  |[x]=>Bef P st c.argTypes x K
  |_=>none⟩
 |.builtin .delete=>⟨fun P R Γ own o st K=>match c.args.toList with
  |[x,y]=>Aqd P st c.argTypes x y K
  |_=>none⟩
 |.builtin .min=>⟨fun P R Γ own o st K=>match c.args.toList with
  |[x,y]=>A4k st true x y K
  |_=>none⟩
 |.builtin .max=>⟨fun P R Γ own o st K=>match c.args.toList with
  |[x,y]=>A4k st false x y K
  |_=>none⟩
 |.builtin .append=>⟨fun P R Γ own o st K=>match c.args.toList with
  |[x,y]=>cond (Aa8 own o) (Aps P st o c.argTypes x y K) (cond (Afx P c.argTypes) (Aq6 P st o c.argTypes x y K) (Apo P st o c.argTypes x y K))
  |_=>none⟩
 |.builtin .clear=>⟨fun P R Γ own o st K=>match c.args.toList with
  |[x]=>Ay0 P st c.argTypes x K
  |_=>none⟩
 |.builtin .unsafeSliceData=>⟨fun P R Γ own o st K=>match c.args.toList with
  |[x]=>A7g P st o x K
  |_=>none⟩
 |.builtin .unsafeString=>⟨fun P R Γ own o st K=>match c.args.toList with
  |[x,y]=>A2h P st c.argTypes x y K
  |_=>none⟩
 |.builtin .copy=>⟨fun P R Γ own o st K=>match c.args.toList with
  |[x,y]=>B7c P st c.argTypes x y K
  |_=>none⟩
 |.value (.func f)=>⟨fun P R Γ own o st K=>match Aut f Γ,C5 st c.args.toList with
  |some e,some vs=>e.run o st vs K
  |_,_=>none⟩
 |.value (.tmp t)=>⟨fun P R Γ own o st K=>match Av st (.tmp t) with
  |some (.Ff f J9)=>match Aut f Γ,C5 st c.args.toList with
   |some e,some vs=>match J9 with
    |[]=>e.run (Qi f o) st vs fun out=>K (out.B1a (.tmp t,.Ff f []))
    |x::r=>e.Ben o st (x::r) vs K
   |_,_=>none
  |_=>none⟩
 |_=>⟨fun P R Γ own o st K=>none⟩
def B7x(o:Oper)(st:Ad)(c:Call)(K:Out→A3 R):A3 R:=(B7w c).run P R Γ own o st K
theorem B7y{o:Oper}{st:Ad}{c:Call}{K:Out→A3 R}{r:R}(ho:o.op = .call c)(h:B7x P Γ own o st c K=some r):∃out,K out=some r∧Br P o st out:=by
 obtain⟨cal,args,ts⟩:=c;unfold B7x B7w at h;dsimp only at h;split at h<;>dsimp only at h
 ·split at h
  ·rename_i x hl;have:=Qh (c:=⟨.builtin .len,args,ts⟩) hl;simp only at this;subst this;cases hm:Aqs st x with
   |true=>rw[hm]at h;exact Ayl ho h
   |false=>rw[hm]at h;exact Axy ho h
  ·cases h
 ·split at h
  ·rename_i x hl;have:=Qh (c:=⟨.builtin .len,args,ts⟩) hl;simp only at this;subst this;exact Bb2 ho h
  ·cases h
 ·split at h
  ·rename_i x y hl;have:=Qh (c:=⟨.builtin .len,args,ts⟩) hl;simp only at this;subst this;exact Ayk ho h
  ·cases h
 ·split at h
  ·rename_i x y hl;have:=Qh (c:=⟨.builtin .len,args,ts⟩) hl;simp only at this;subst this;exact Bb0 ho h
  ·cases h
 ·split at h
  ·rename_i x y hl;have:=Qh (c:=⟨.builtin .len,args,ts⟩) hl;simp only at this;subst this;exact Bb1 ho h
  ·cases h
 ·split at h
  ·rename_i x y hl;have:=Qh (c:=⟨.builtin .len,args,ts⟩) hl;simp only at this;subst this;cases hw:Aa8 own o with
   |true=>simp only[hw,Bkn]at h;exact Axz ho h
   |false =>
    simp only[hw,Bko]at h;cases hb:Afx P ts with
    |true=>rw[hb]at h;exact Ayg ho hb h
    |false=>rw[hb]at h;exact Axx ho h
  ·cases h
 ·split at h
  ·rename_i x hl;have:=Qh (c:=⟨.builtin .len,args,ts⟩) hl;simp only at this;subst this;exact B3e ho h
  ·cases h
 ·split at h
  ·rename_i x hl;have:=Qh (c:=⟨.builtin .len,args,ts⟩) hl;simp only at this;subst this;exact Al3 ho h
  ·cases h
 ·split at h
  ·rename_i x y hl;have:=Qh (c:=⟨.builtin .len,args,ts⟩) hl;simp only at this;subst this;exact Ahj ho h
  ·cases h
 ·split at h
  ·rename_i x y hl;have:=Qh (c:=⟨.builtin .len,args,ts⟩) hl;simp only at this;subst this;exact B7d ho h
  ·cases h
 ·rename_i f;split at h
  ·rename_i e vs he Nz;have:=Ahv he;subst this;exact e.ok o st args ts vs K r ho Nz h
  ·cases h
 ·rename_i t;split at h
  ·rename_i f J9 B42;split at h
   ·rename_i e vs he Nz;have:=Ahv he;subst this;split at h
    ·obtain⟨out,h1,h2⟩:=e.ok (Qi e.id o) st args ts vs _ r (by unfold Qi;rw[ho]) Nz h;exact⟨_,h1,h2.callee ho B42⟩
    ·exact e.cok o st t _ args ts vs K r ho B42 Nz h
   ·cases h
  ·cases h
 ·cases h
def Acs(o:Oper)(st:Ad)(f:FuncId)(first J9:Array Operand)(K:Out→A3 R):A3 R :=
 match first.toList with
 |[]=>match C5 st J9.toList with
  |some vs=>K (B5 st (.Ff f vs) (J9.toList.zip vs))
  |none=>none
 |_=>none
theorem Aqt{o:Oper}{st:Ad}{f:FuncId}{first J9:Array Operand}{K:Out→A3 R}{r:R}(ho:o.op = .makeFunc (.func f) first J9)(h:Acs o st f first J9 K=some r):∃out,K out=some r∧Br P o st out:=by
 unfold Acs at h;split at h
 ·rename_i hf;have hf:first=#[]:=by apply Bm8;rw[← Bmv,hf];rfl
  subst hf;split at h
  ·rename_i vs hv;refine⟨_,h,A8 (X6 hv) fun X=>?_⟩;refine .quiet fun _ _ g w a _ Aq=>⟨.func (.func f) #[] (J9.map a.eval),?_,?_⟩
   ·simp only[execOp,ho,Instr.makeFunc];simp
   ·refine .Ff f _ _ (by rw[Ag,Hw hv];simp) ?_;rw[Iy]at Aq;exact V6 Aq
  ·cases h
 ·cases h
def Beo{R:Type}(st:Ad)(x:Operand)(K:Out→A3 R):A3 R :=
 match Av st x with
 |some (.os k ty a n)=>match lk k st.objs with
  |some (.arr u l)=>cond (u.Ji ty) (cond (Nat.ble 1000 k) (cond (cond (Nat.ble (a+n) l.length) (H8 k st.objs) false)
    (K ⟨.all,.d (.sl u ((l.drop a).take n)),[(x,.os k ty a n)],Df k st.objs,st.live,[],[k]⟩) none) none) none
  |_=>none
 |_=>Att st x K
theorem Bb6{P:Program}{o:Oper}{st:Ad}{x:Operand}{R:Type}{K:Out→A3 R}{r:R}(ho:o.op = .move x∨o.op = .assign x)(h:Beo st x K=some r):∃out,K out=some r∧Br P o st out:=by
 unfold Beo at h;split at h
 ·rename_i k ty a n hv;split at h
  ·rename_i u l hk;cases h1:u.Ji ty with
   |false=>simp[h1]at h
   |true =>
   cases h2:Nat.ble 1000 k with
   |false=>simp[h1,h2]at h
   |true =>
   cases h4:cond (Nat.ble (a+n) l.length) (H8 k st.objs) false with
   |false=>simp[h1,h2,h4]at h
   |true =>
    obtain⟨h3,h5⟩:=Agz h4;simp only[h1,h2,h4,Bkn]at h;have e1:=Ty.Au h1;subst e1;have e2:=Bl5 h2;have e3:=Bl5 h3;refine⟨_,h,⟨Cg hv,?_,fun k' x' Lk hx=>?_⟩⟩
    ·show Bp P o [(x,(XV.os k u a n).a)] st.X ⟨A6 (Df k st.objs),st.live⟩ [] (.d (.sl u.size (((l.drop a).take n).map u.ds)));have hX:Ab.B1 k st.X=⟨A6 (Df k st.objs),st.live⟩:=by rw[Qc h5];rfl
     have hl:st.X.objs.lookup k=some (.cells ((l.map u.ds).flatten.map .d) none):=by show(A6 st.objs).lookup k=_;exact H7 hk
     intro nm Wk B g w act hr Aq next Q hn
     have hnk:k∉nm:=fun hm=>by have:=Wk k hm;omega
     obtain⟨f1,f2,f3⟩:=hr.freeze (k:=k) (sz:=u.size) (es:=l.map u.ds) hnk hl (by
      intro i cs Q2;rw[Bkt,Bky]at Q2;obtain⟨y,_,rfl⟩:=Q2;exact u.Cf y)
     rw[hX]at f1;have hv':=H9 Aq;have hd:=f3 a n (act.eval x) (by simpa using e3) hv';rw[← Boi,← Bo5]at hd;have he:(execOp act.eval o).run P w = .ok (.value (act.eval x)) w:=by rcases ho with ho|ho<;>simp[execOp,ho]
     unfold Oper.wp;rw[he];exact hn _ w _ f1 f2 hd
    ·simp only[Bl7]at Lk;exact Sf hx
  ·cases h
 ·exact Ah0 ho h
def Bgx(op:Op):XF :=
 match op with
 |.move x=>⟨fun P R Γ own o st K=>Att st x K⟩
 |.assign x=>⟨fun P R Γ own o st K=>cond (Aa8 own o) (Beo st x K) (Att st x K)⟩
 |.pick c x y=>⟨fun P R Γ own o st K=>B6u st c x y K⟩
 |.alloc t=>⟨fun P R Γ own o st K=>Amj P (Aa8 own o) st o t K⟩
 |.box t x=>⟨fun P R Γ own o st K=>Bed st o t x K⟩
 |.build t ps=>⟨fun P R Γ own o st K=>Axr P st t ps K⟩
 |.buildSlice t n ps=>⟨fun P R Γ own o st K=>cond (Aa8 own o) (Ac7 P st o t n ps K) (cond (A9w n ps.toList) (Ac8 P st o t K) (cond (B18 P t) (B17 (Aqm P st o t n ps) K) (A2c P st t n ps K)))⟩
 |.load t x=>⟨fun P R Γ own o st K=>B7f P st t x K⟩
 |.store t x y=>⟨fun P R Γ own o st K=>Axp P st t x y K⟩
 |.nilCheck x=>⟨fun P R Γ own o st K=>Be9 st x K⟩
 |.binOp op t x y _=>⟨fun P R Γ own o st K=>B7o P st op t x y K⟩
 |.unOp op _ x=>⟨fun P R Γ own o st K=>xUn st op x K⟩
 |.convert s d x=>⟨fun P R Γ own o st K=>Ayf P st s d x K⟩
 |.slice t x lo hi mx=>⟨fun P R Γ own o st K=>Acb P st t x lo hi mx K⟩
 |.fieldAddr t x n=>⟨fun P R Γ own o st K=>A7c P st t x n K⟩
 |.field t x n=>⟨fun P R Γ own o st K=>Axs P st t x n K⟩
 |.indexAddr t x y=>⟨fun P R Γ own o st K=>cond (B7t st x) (B17 (Aqn P st t x y) K) (Ac5 P st t x y K)⟩
 |.entry x=>⟨fun P R Γ own o st K=>Aqr st x K⟩
 |.index t x y=>⟨fun P R Γ own o st K=>Apn P st t x y K⟩
 |.extract x i=>⟨fun P R Γ own o st K=>Ah1 st x i K⟩
 |.call c=>⟨fun P R Γ own o st K=>cond (B19 st c) (B7u P st c K) (B7x P Γ own o st c K)⟩
 |.makeFunc (.func f) first J9=>⟨fun P R Γ own o st K=>Acs o st f first J9 K⟩
 |.range t x=>⟨fun P R Γ own o st K=>cond (Aqs st x) (Acl P st o t x K) (Ay8 P st o t x K)⟩
 |.makeMap t rs=>⟨fun P R Γ own o st K=>cond (Aa8 own o) (Acp P st o t rs K) (Ahp P st o t rs K)⟩
 |.lookup t x y ok=>⟨fun P R Γ own o st K=>cond (A4m st x) (Aht P st o t x y ok K) (Aqc P st t x y ok K)⟩
 |.mapUpdate t x y u=>⟨fun P R Γ own o st K=>cond (A4m st x) (Xb P st t x y u K) (A0b P st t x y u K)⟩
 |.insert t x y u=>⟨fun P R Γ own o st K=>cond (A4m st x) (Xb P st t x y u K) (A0b P st t x y u K)⟩
 |.makeInterface t x=>⟨fun P R Γ own o st K=>Vf P st t x K⟩
 |.next x str=>⟨fun P R Γ own o st K=>B7a st x str K⟩
 |.makeSlice t x y=>⟨fun P R Γ own o st K=>A7h P own st o t x y K⟩
 |_=>⟨fun P R Γ own o st K=>none⟩
def xop(o:Oper)(st:Ad)(K:Out→A3 R):A3 R:=(Bgx o.op).run P R Γ own o st K
theorem Aqu{o:Oper}{st:Ad}{K:Out→A3 R}{r:R}(h:xop P Γ own o st K=some r):∃out,K out=some r∧Br P o st out:=by
 unfold xop Bgx at h;split at h<;>rename_i ho<;>dsimp only at h
 ·exact Ah0 (.inl ho) h
 ·cases hf:Aa8 own o with
  |true=>rw[hf]at h;exact Bb6 (.inr ho) h
  |false=>rw[hf]at h;exact Ah0 (.inr ho) h
 ·exact B6v ho h
 ·exact Apy ho h
 ·exact Bax ho h
 ·exact B3a ho h
 ·rename_i t n ps;cases hw:Aa8 own o with
  |true=>simp only[hw,Bkn]at h;exact Apv ho h
  |false =>
   simp only[hw,Bko]at h;cases he:A9w n ps.toList with
   |true=>simp only[he,Bkn]at h;exact Apw ho he h
   |false =>
    simp only[he,Bko]at h;cases hq:B18 P t with
    |true =>rw[hq,Bkn]at h;obtain⟨out,h1,h2⟩:=A7m h;exact⟨out,h2,Ays ho h1⟩
    |false=>rw[hq,Bko]at h;exact Ah4 ho h
 ·exact B3s ho h
 ·exact B37 ho h
 ·exact Bat ho h
 ·exact B7p ho h
 ·exact Be8 ho h
 ·exact B3r ho h
 ·exact Aq0 ho h
 ·exact Al0 ho h
 ·exact B3b ho h
 ·rename_i t x y;cases hq:B7t st x with
  |true =>rw[hq,Bkn]at h;obtain⟨out,h1,h2⟩:=A7m h;exact⟨out,h2,Ayu ho h1⟩
  |false=>rw[hq,Bko]at h;exact Apm ho h
 ·exact Ayx ho h
 ·exact Axu ho h
 ·exact Atv ho h
 ·rename_i c;cases hq:B19 st c with
  |true=>rw[hq,Bkn]at h;exact B7v ho h
  |false=>rw[hq,Bko]at h;exact B7y P Γ own ho h
 ·exact Aqt P ho h
 ·rename_i t x;cases hm:Aqs st x with
  |true=>rw[hm]at h;exact Aqf ho h
  |false=>rw[hm]at h;exact B3l ho h
 ·cases hw:Aa8 own o with
  |true=>rw[hw]at h;exact Aqj ho h
  |false=>rw[hw]at h;exact Auh ho h
 ·rename_i t x y ok;cases hm:A4m st x with
  |true=>rw[hm]at h;exact Aup ho h
  |false=>rw[hm]at h;exact Ayj ho h
 ·rename_i t x y u;cases hm:A4m st x with
  |true=>rw[hm]at h;exact A2k (.inl ho) h
  |false=>rw[hm]at h;exact A6i (.inl ho) h
 ·rename_i t x y u;cases hm:A4m st x with
  |true=>rw[hm]at h;exact A2k (.inr ho) h
  |false=>rw[hm]at h;exact A6i (.inr ho) h
 ·exact A9y ho h
 ·exact B7b ho h
 ·exact Al6 ho h
 ·cases h
def Aqv(draw:Bool)(o:Oper)(st:Ad)(K:Out→A3 R):A3 R :=
 match o.op with
 |.next x str=>cond str (xop P Γ own o st K) (cond draw none (Ayn st x K))
 |_=>xop P Γ own o st K
structure Inv(s0 s:Ad):Prop where
 env:∀t x,t∉s.wl→lk t s.env=some x→lk t s0.env=some x
 objs:∀k x,k∉s.ol→lk k s.objs=some x→lk k s0.objs=some x
theorem Inv.refl(s:Ad):Inv s s:=⟨fun _ _ _ h=>h,fun _ _ _ h=>h⟩
def Akz.e:Akz→A7→M6
 |.none,_=>.none
 |.look ks,_=>.look ks
 |.put k c,_=>.put k c.o
 |.all,X=>.all X
 |.lab,X=>.lab X.live
 |.Nl k c,X=>.Nl k c.o X.live
 |.new os,X=>.new (A6 os) X.live
def Out.st(out:Out)(o:Oper)(st:Ad):Ad:=⟨B6r o.dst out.res st.env,out.objs,out.live,Ban o.dst st.wl,out.ol++st.ol⟩
def Out.it(out:Out)(o:Oper):It:=⟨o,true,B0 out.rd,out.U3.e out.X,out.F,out.res.a⟩
def A2o(o:Oper)(st:Ad):Ad:=⟨B6r o.dst (.d (.v undef)) st.env,st.objs,st.live,Ban o.dst st.wl,st.ol⟩
def Ahw(o:Oper):It:=⟨o,false,[],.none,[],.d (.sc undef)⟩
def Jz(d:Nat)(b:Bool)(st:Ad):Ad:=⟨(d,.d (.b b))::st.env,st.objs,st.live,st.wl,st.ol⟩
def Aa9:XV→Bool
 |.d (.v (.tuple vs))=>Nat.beq vs.size 0
 |_=>false
def Acu(ops:Array Oper)(j:Nat):A3 Nat :=
 match ops[j]? with
 |some o=>o.dst
 |none=>none
variable(nt:Nat)
def A2p(ops:Array Oper)(draw:Bool)(Gi:A2 (Nat×XV))(K:Ad→A3 R):A2 Oper→A2 It→Ad→A3 R
 |[],Ay,st=>cond draw (cond (Aon ops (E0 Gi) Ay) (K st) none) (K st)
 |o::Bkh,Ay,st =>
  cond (Jh nt o.dst)
   (match o.guard with
   |none=>Aqv P Γ own draw o st fun out=>cond (cond draw true (Ln out.F (E0 st.env))) (A2p ops draw Gi K Bkh (Ay++[out.it o]) (out.st o st)) none
   |some (j,Bkg) =>
    match Acu ops j with
    |none=>none
    |some d =>
     match lk d st.env with
     |some (.d (.b b)) =>
      cond b
       (cond Bkg (Aqv P Γ own draw o (Jz d true st) fun out=>cond (cond draw true (Ln out.F (E0 (Jz d true st).env))) (A2p ops draw Gi K Bkh (Ay++[out.it o]) (out.st o (Jz d true st))) none)
        (A2p ops draw Gi K Bkh (Ay++[Ahw o]) (A2o o (Jz d true st))))
       (cond Bkg (A2p ops draw Gi K Bkh (Ay++[Ahw o]) (A2o o (Jz d false st)))
        (Aqv P Γ own draw o (Jz d false st) fun out=>cond (cond draw true (Ln out.F (E0 (Jz d false st).env))) (A2p ops draw Gi K Bkh (Ay++[out.it o]) (out.st o (Jz d false st))) none))
     |some v=>cond (Aa9 v) (A2p ops draw Gi K Bkh (Ay++[Ahw o]) (A2o o st)) none
     |none=>none) none
end
section
variable{P:Program}{Γ:A2 (Ga P)}{own:A2 Nat}{R:Type}
theorem Br.opT{o:Oper}{st:Ad}{out:Out}(h:Br P o st out):Bp P o (B0 out.rd) st.X out.X out.F out.res.a:=by
 have hop:=h.op;unfold Out.X;split at hop
 ·obtain⟨h1,h2,h3,h4⟩:=hop;rw[h1,h2,h3];exact h4 st.X
 ·obtain⟨h1,h2,h3,h4⟩:=hop;rw[h1,h2,h3];exact h4 st.X fun _ _=>rfl
 ·obtain⟨⟨h0,h1⟩,h2,h3,h4⟩:=hop;rw[h1,h2,h3,U6 h0];exact h4 st.X rfl
 ·exact hop
 ·exact hop.2
 ·exact hop.2
 ·exact hop.2
theorem Out.B7z(out:Out)(o:Oper)(st:Ad):(out.st o st).im=⟨Du o.dst out.res.a st.im.env,out.X⟩:=by simp only[Out.st,Ad.im,Ad.X,B6s,Out.X]
theorem Amw(o:Oper)(st:Ad):(A2o o st).im=⟨Du o.dst (.d (.sc undef)) st.im.env,st.X⟩:=by simp only[A2o,Ad.im,Ad.X,B6s];rfl
theorem A4n(d:Nat)(b:Bool)(st:Ad):(Jz d b st).im=⟨(d,.d (.sc (.bool b)))::st.im.env,st.X⟩:=rfl
theorem Oc{st:St}:∀ {l:A2 (Operand×AV)},(∀p∈l,E3 st p.1 p.2)→Kk st l
 |[],_=>.nil
 |(x,v)::r,h=>.cons (h (x,v) Bkz) (Oc fun p hp=>h p (Bkx _ hp))
theorem Ayy{o:Oper}{x:XV}{st:Ad}{t:Nat}{y:XV}{wl:A2 Nat}(ht:t∉Ban o.dst wl)(h:lk t (B6r o.dst x st.env)=some y):t∉wl∧lk t st.env=some y:=by
 cases hd:o.dst with
 |none=>rw[hd]at ht h;exact⟨ht,h⟩
 |some d =>rw[hd]at ht h;simp only[Ban,Bkq,Bop]at ht;simp only[B6r]at h;rw[Cq ht.1]at h;exact⟨ht.2,h⟩
theorem Inv.op{s0 st:Ad}{o:Oper}{out:Out}(h:Inv s0 st)(Ja:Br P o st out):Inv s0 (out.st o st):=by
 refine⟨fun t x ht hx=>?_,fun k x hk hx=>?_⟩
 ·obtain⟨h1,h2⟩:=Ayy (st:=st) ht hx;exact h.env t x h1 h2
 ·simp only[Out.st,Bkw,Bop]at hk hx;exact h.objs k x hk.2 (Ja.ol k x hk.1 hx)
theorem Inv.dem{s0 st:Ad}{o:Oper}{out:Out}(h:Inv s0 st)(ol:∀k x,k∉out.ol→lk k out.objs=some x→lk k st.objs=some x):Inv s0 (out.st o st):=by
 refine⟨fun t x ht hx=>?_,fun k x hk hx=>?_⟩
 ·obtain⟨h1,h2⟩:=Ayy (st:=st) ht hx;exact h.env t x h1 h2
 ·simp only[Out.st,Bkw,Bop]at hk hx;exact h.objs k x hk.2 (ol k x hk.1 hx)
theorem Bb7{draw:Bool}{o:Oper}{st:Ad}{K:Out→A3 R}{r:R}(h:Aqv P Γ own draw o st K=some r):(∃out,K out=some r∧Br P o st out)∨∃rd outs,(∀out∈outs,K out=some r)∧Bcy P o st rd outs:=by
 unfold Aqv at h;split at h
 ·rename_i x str ho;cases str with
  |true=>exact .inl (Aqu P Γ own h)
  |false =>
   simp only[Bko]at h;cases draw with
   |true=>cases h
   |false=>exact B3v ho h
 ·exact .inl (Aqu P Γ own h)
theorem B43{o:Oper}{st:Ad}{K:Out→A3 R}{r:R}(h:Aqv P Γ own true o st K=some r):∃out,K out=some r∧Br P o st out:=by
 unfold Aqv at h;split at h
 ·rename_i x str ho;cases str with
  |true=>exact Aqu P Γ own h
  |false=>cases h
 ·exact Aqu P Γ own h
theorem Inv.skip{s0 st:Ad}{o:Oper}(h:Inv s0 st):Inv s0 (A2o o st):=by refine⟨fun t x ht hx=>?_,fun k x hk hx=>h.objs k x hk hx⟩;obtain⟨h1,h2⟩:=Ayy (st:=st) ht hx;exact h.env t x h1 h2
theorem Inv.Aqw{s0 st:Ad}{d:Nat}{b:Bool}(h:Inv s0 st)(hd:lk d st.env=some (.d (.b b))):Inv s0 (Jz d b st):=by
 refine⟨fun t x ht hx=>?_,fun k x hk hx=>h.objs k x hk hx⟩;simp only[Jz]at ht hx;by_cases he:t=d
 ·subst he;simp[G1]at hx;subst hx;exact h.env t _ ht hd
 ·rw[Cq he]at hx;exact h.env t x ht hx
theorem Ov{st:Ad}{d:Nat}{x:XV}(h:lk d st.env=some x):st.im.env.lookup d=some x.a:=by show(E0 st.env).lookup d=_;rw[A78,h];rfl
theorem Ahx{x:XV}(h:Aa9 x=true):x.a = .d (.sc undef):=by
 unfold Aa9 at h;split at h
 ·rename_i vs;have:=Bkr h;have:vs=#[]:=Bm8 this;subst this;rfl
 ·cases h
def B44(s0:Ad)(K:Ad→A3 R)(r:R)(s:St):Prop:=∃Bq,s=Bq.im∧Inv s0 Bq∧K Bq=some r
theorem Afz{S:Sig}{ops:Array Oper}{Gi:A2 (Nat×XV)}{K:Ad→A3 R}{r:R}{s0:Ad}:∀(l:A2 Oper) (i:Nat) (Ay:A2 It) (st:Ad),(∀(j:Nat) o,l[j]? = some o→ops[i+j]? = some o) →
  Inv s0 st→A2p P Γ own S.N ops false Gi K l Ay st=some r→Rw P S ops (List.range' i l.length) st.im (B44 s0 K r)
 |[],i,Ay,st,hl,hi,h=>by
  simp only[A2p,Bko]at h;exact Rw.done ⟨st,rfl,hi,h⟩
 |o::Bkh,i,Ay,st,hl,hi,h=>by
  have ho:ops[i]? = some o:=hl 0 o rfl;have Amx:∀(j:Nat) o,Bkh[j]? = some o→ops[i+1+j]? = some o:=by intro j o' hj;have:=hl (j+1) o' (by simpa using hj);rw[show i+1+j=i+(j+1) by omega];exact this
  simp only[A2p]at h;cases hd:Jh S.N o.dst with
  |false=>simp[hd]at h
  |true =>
   simp only[hd,Bkn]at h;have run:∀(st:Ad),Inv s0 st→Guard ops st.im o.guard true→(Aqv P Γ own false o st fun out=>cond (cond false true (Ln out.F (E0 st.env))) (A2p P Γ own S.N ops false Gi K Bkh (Ay++[out.it o]) (out.st o st)) none)=some r →
     Rw P S ops (List.range' i (o::Bkh).length) st.im (B44 s0 K r):=by
    intro st hi hg h;rcases Bb7 h with ⟨out,h1,Ja⟩|⟨rd,outs,hall,Ja⟩
    ·cases hf:Ln out.F (E0 st.env) with
     |false=>simp[hf]at h1
     |true =>simp only[hf,Bko,Bkn]at h1;simp only[Blg,Bp2];refine Rw.opg ho hg Ja.opT (Oc Ja.Ri) hf hd ?_;rw[← Out.B7z];exact Afz Bkh (i+1) _ _ Amx (hi.op Ja) h1
    ·simp only[Blg,Bp2];refine Rw.Ef ho hg Ja.op (Oc Ja.Ri) hd ?_;intro p hp;obtain⟨out,Afh,rfl⟩:=Bl2.1 hp;have h1:=hall out Afh;have hf:Ln out.F (E0 st.env)=true:=by rw[Ja.F out Afh];rfl
     simp only[hf,Bko,Bkn]at h1;show Rw P S ops _ ⟨Du o.dst out.res.a st.im.env,out.X⟩ _;rw[← Out.B7z];exact Afz Bkh (i+1) _ _ Amx (hi.dem (fun k x=>Ja.ol out Afh k x)) h1
   have skip:∀(st:Ad),Inv s0 st→Guard ops st.im o.guard false→A2p P Γ own S.N ops false Gi K Bkh (Ay++[Ahw o]) (A2o o st)=some r →
     Rw P S ops (List.range' i (o::Bkh).length) st.im (B44 s0 K r):=by
    intro st hi hg h;simp only[Blg,Bp2];refine Rw.skip ho hg hd ?_;have:=Afz Bkh (i+1) _ _ Amx hi.skip h;rw[Amw]at this;exact this
   split at h
   ·rename_i hg;exact run st hi (Am5 hg) h
   ·rename_i j Bkg hg;unfold Acu at h;split at h
    ·cases h
    ·rename_i d hgs;split at hgs
     ·rename_i oj hoj;split at h
      ·rename_i b hb;have Kz:=Ov hb;refine Rw.cases (d:=d) Kz (fun hbt=>?_) (fun hbt=>?_)
       ·subst hbt;change Rw P S ops _ (Jz d true st).im _;have Ahy:(Jz d true st).im.env.lookup d=some (.d (.sc (.bool true))):=by rw[A4n];simp
        cases Bkg with
        |true =>simp only[Bkn]at h;exact run _ (hi.Aqw hb) (A46 hg hoj hgs Ahy) h
        |false =>simp only[Bkn,Bko]at h;exact skip _ (hi.Aqw hb) (A47 hg hoj hgs Ahy rfl) h
       ·subst hbt;change Rw P S ops _ (Jz d false st).im _;have Ahy:(Jz d false st).im.env.lookup d=some (.d (.sc (.bool false))):=by rw[A4n];simp
        cases Bkg with
        |true =>simp only[Bkn,Bko]at h;exact skip _ (hi.Aqw hb) (A47 hg hoj hgs Ahy rfl) h
        |false =>simp only[Bko]at h;exact run _ (hi.Aqw hb) (A46 hg hoj hgs Ahy) h
      ·rename_i v hv Bep;cases hu:Aa9 v with
       |false=>simp[hu]at h
       |true =>simp only[hu,Bkn]at h;have Kz:=Ov Bep;rw[Ahx hu]at Kz;exact skip st hi (Ae3 hg hoj hgs Kz) h
      ·cases h
     ·cases hgs
theorem Aqx{S:Sig}{ops:Array Oper}{Gi:A2 (Nat×XV)}{K:Ad→A3 R}{r:R}{s0:Ad}:∀(l:A2 Oper) (i:Nat) (Ay:A2 It) (st:Ad),(∀(j:Nat) o,l[j]? = some o→ops[i+j]? = some o) →
  Inv s0 st→A2p P Γ own S.N ops true Gi K l Ay st=some r→Dw P S ops i l.length st.im Ay (E0 Gi) (B44 s0 K r)
 |[],i,Ay,st,hl,hi,h=>by
  simp only[A2p,Bkn]at h;cases hd:Aon ops (E0 Gi) Ay with
  |false=>simp[hd]at h
  |true =>simp only[hd,Bkn]at h;exact Dw.fin (fun _=>At7 hd) ⟨st,rfl,hi,h⟩
 |o::Bkh,i,Ay,st,hl,hi,h=>by
  have ho:ops[i]? = some o:=hl 0 o rfl;have Amx:∀(j:Nat) o,Bkh[j]? = some o→ops[i+1+j]? = some o:=by intro j o' hj;have:=hl (j+1) o' (by simpa using hj);rw[show i+1+j=i+(j+1) by omega];exact this
  simp only[A2p]at h;cases hd:Jh S.N o.dst with
  |false=>simp[hd]at h
  |true =>
   simp only[hd,Bkn]at h;have run:∀(st:Ad),Inv s0 st→Guard ops st.im o.guard true→(Aqv P Γ own true o st fun out=>cond (cond true true (Ln out.F (E0 st.env))) (A2p P Γ own S.N ops true Gi K Bkh (Ay++[out.it o]) (out.st o st)) none)=some r →
     Dw P S ops i (o::Bkh).length st.im Ay (E0 Gi) (B44 s0 K r):=by
    intro st hi hg h;obtain⟨out,h1,Ja⟩:=B43 h;simp only[Bkn]at h1;have ih:=Aqx Bkh (i+1) _ _ Amx (hi.op Ja) h1;rw[Out.B7z]at ih;have hop:=Ja.op;simp only[Blg];split at hop
    ·rename_i he;obtain⟨a1,a2,a3,a4⟩:=hop;refine Dw.op ho hg a4 (Oc Ja.Ri) hd ?_;have e:out.it o=⟨o,true,B0 out.rd,.none,[],out.res.a⟩:=by simp only[Out.it,he,Akz.e,a3]
     rw[e]at ih;have e2:out.X=st.im.X:=by simp only[Out.X,Ad.im,Ad.X,a1,a2]
     rw[e2]at ih;exact ih
    ·rename_i ks he;obtain⟨a1,a2,a3,a4⟩:=hop;refine Dw.look (ks:=ks) ho hg a4 (Oc Ja.Ri) hd ?_;have e:out.it o=⟨o,true,B0 out.rd,.look ks,[],out.res.a⟩:=by simp only[Out.it,he,Akz.e,a3]
     rw[e]at ih;have e2:out.X=st.im.X:=by simp only[Out.X,Ad.im,Ad.X,a1,a2]
     rw[e2]at ih;exact ih
    ·rename_i k c he;obtain⟨⟨a0,a1⟩,a2,a3,a4⟩:=hop;refine Dw.put (k:=k) (c:=c.o) ho hg a4 (Oc Ja.Ri) hd ?_;have e:out.it o=⟨o,true,B0 out.rd,.put k c.o,[],out.res.a⟩:=by simp only[Out.it,he,Akz.e,a3]
     rw[e]at ih;have e2:out.X=⟨Ab.setObj k c.o st.im.X.objs,st.im.X.live⟩:=by simp only[Out.X,Ad.im,Ad.X,a1,a2,U6 a0]
     rw[e2]at ih;exact ih
    ·rename_i he;refine Dw.U3 ho hg hop (Oc Ja.Ri) hd ?_;have e:out.it o=⟨o,true,B0 out.rd,.all out.X,out.F,out.res.a⟩:=by simp only[Out.it,he,Akz.e]
     rw[e]at ih;exact ih
    ·rename_i he;obtain⟨a1,a4⟩:=hop;have e2:out.X=⟨st.im.X.objs,out.live⟩:=by simp only[Out.X,Ad.im,Ad.X,a1]
     rw[e2]at a4 ih;refine Dw.lab (L:=out.live) ho hg a4 (Oc Ja.Ri) hd ?_;have e:out.it o=⟨o,true,B0 out.rd,.lab out.live,out.F,out.res.a⟩:=by simp only[Out.it,he,Akz.e,Out.X]
     rw[e]at ih;exact ih
    ·rename_i k c he;obtain⟨⟨a0,a1⟩,a4⟩:=hop;have e2:out.X=⟨Ab.setObj k c.o st.im.X.objs,out.live⟩:=by simp only[Out.X,Ad.im,Ad.X,a1,U6 a0]
     rw[e2]at a4 ih;refine Dw.Nl (L:=out.live) ho hg a4 (Oc Ja.Ri) hd ?_;have e:out.it o=⟨o,true,B0 out.rd,.Nl k c.o out.live,out.F,out.res.a⟩:=by simp only[Out.it,he,Akz.e,Out.X]
     rw[e]at ih;exact ih
    ·rename_i os he;obtain⟨⟨a0,a1⟩,a4⟩:=hop;have e2:out.X=⟨A6 os++st.im.X.objs,out.live⟩:=by simp only[Out.X,Ad.im,Ad.X,a1,Bdz a0]
     rw[e2]at a4 ih;refine Dw.new (L:=out.live) ho hg a4 (Oc Ja.Ri) hd ?_;have e:out.it o=⟨o,true,B0 out.rd,.new (A6 os) out.live,out.F,out.res.a⟩:=by simp only[Out.it,he,Akz.e,Out.X]
     rw[e]at ih;exact ih
   have skip:∀(st:Ad),Inv s0 st→Guard ops st.im o.guard false→A2p P Γ own S.N ops true Gi K Bkh (Ay++[Ahw o]) (A2o o st)=some r →
     Dw P S ops i (o::Bkh).length st.im Ay (E0 Gi) (B44 s0 K r):=by
    intro st hi hg h;simp only[Blg];refine Dw.skip ho hg hd ?_;have:=Aqx Bkh (i+1) _ _ Amx hi.skip h;rw[Amw]at this;exact this
   split at h
   ·rename_i hg;exact run st hi (Am5 hg) h
   ·rename_i j Bkg hg;unfold Acu at h;split at h
    ·cases h
    ·rename_i d hgs;split at hgs
     ·rename_i oj hoj;split at h
      ·rename_i b hb;have Kz:=Ov hb;refine Dw.cases (d:=d) Kz (fun hbt=>?_) (fun hbt=>?_)
       ·subst hbt;change Dw P S ops i _ (Jz d true st).im Ay (E0 Gi) _;have Ahy:(Jz d true st).im.env.lookup d=some (.d (.sc (.bool true))):=by rw[A4n];simp
        cases Bkg with
        |true =>simp only[Bkn]at h;exact run _ (hi.Aqw hb) (A46 hg hoj hgs Ahy) h
        |false =>simp only[Bkn,Bko]at h;exact skip _ (hi.Aqw hb) (A47 hg hoj hgs Ahy rfl) h
       ·subst hbt;change Dw P S ops i _ (Jz d false st).im Ay (E0 Gi) _;have Ahy:(Jz d false st).im.env.lookup d=some (.d (.sc (.bool false))):=by rw[A4n];simp
        cases Bkg with
        |true =>simp only[Bkn,Bko]at h;exact skip _ (hi.Aqw hb) (A47 hg hoj hgs Ahy rfl) h
        |false =>simp only[Bko]at h;exact run _ (hi.Aqw hb) (A46 hg hoj hgs Ahy) h
      ·rename_i v hv Bep;cases hu:Aa9 v with
       |false=>simp[hu]at h
       |true =>simp only[hu,Bkn]at h;have Kz:=Ov Bep;rw[Ahx hu]at Kz;exact skip st hi (Ae3 hg hoj hgs Kz) h
      ·cases h
     ·cases hgs
end
def pkM:Nat:=777777777
def Z0(off:Nat):PK:=cond (Nat.ble 900000000 off) (.s 0 ((off-900000000)/1000) ((off-900000000) % 1000)) (cond (Nat.beq off pkM) .m (.p off))
def B45(p:PK)(off:Nat):Bool :=
 match p with
 |.p o=>cond (Nat.ble 900000000 off) false (cond (Nat.beq off pkM) false (Nat.beq o off))
 |.m=>cond (Nat.ble 900000000 off) false (Nat.beq off pkM)
 |.s o l z=>cond (Nat.ble 900000000 off) (cond (Nat.beq o 0) (cond (Nat.beq l ((off-900000000)/1000)) (Nat.beq z ((off-900000000) % 1000)) false) false) false
 |_=>false
theorem B1b{p:PK}{off:Nat}(h:B45 p off=true):p=Z0 off:=by
 unfold B45 at h;unfold Z0;cases hB:Nat.ble 900000000 off with
 |true =>
  split at h
  ·rw[hB]at h;cases h
  ·rw[hB]at h;cases h
  ·rename_i o l z;rw[hB,Bkn]at h;cases h1:Nat.beq o 0 with
   |false=>rw[h1]at h;cases h
   |true =>
   cases h2:Nat.beq l ((off-900000000)/1000) with
   |false=>rw[h1,h2]at h;cases h
   |true =>rw[h1,h2]at h;simp only[Bkn]at h⊢;rw[Bkr h1,Bkr h2,Bkr h]
  ·cases h
 |false =>
  simp only[Bko];split at h
  ·rw[hB,Bko]at h;cases hb:Nat.beq off pkM with
   |true=>simp[hb]at h
   |false =>simp only[hb,Bko]at h;rw[Bkr h];rfl
  ·rw[hB,Bko]at h;rw[h];rfl
  ·rw[hB]at h;cases h
  ·cases h
def A2q(p:A3 Bool):XV:=.d (.v (match p with
 |some true=>.pointer none
 |some false=>.map none
 |none=>.slice none 0 0))
def A0d(p:A3 Bool):XV→Bool
 |.d (.v (.pointer none))=>match p with
  |some true=>true
  |_=>false
 |.d (.v (.map none))=>match p with
  |some false=>true
  |_=>false
 |.d (.v (.slice none 0 0))=>match p with
  |none=>true
  |_=>false
 |_=>false
theorem Acv{p:A3 Bool}{v:XV}(h:A0d p v=true):v=A2q p:=by
 unfold A0d at h;split at h
 ·split at h
  ·rfl
  ·cases h
 ·split at h
  ·rfl
  ·cases h
 ·split at h
  ·rfl
  ·cases h
 ·cases h
inductive VK where
 |d (t:Ty)
 |Bu (n:Nat) (t:Ty) (ty:Option TypeId)
 |p (k off:Nat)
 |z (k off:Nat)
 |os (k:Nat) (t:Ty)
 |P5 (p:Option Bool)
@[match_pattern,reducible] def VK.Wo:VK:=.P5 (some false)
@[reducible] def VK.T:VK→Type
 |.d t=>t.T
 |.Bu _ t _=>List t.T
 |.p _ _=>Unit
 |.z _ _=>Bool
 |.os _ _=>Nat
 |.P5 _=>Unit
def VK.val:(v:VK)→v.T→XV
 |.d t,x=>.d (t.xv x)
 |.Bu n t ty,l=>.Bu n t l ty
 |.p k off,_=>.nm k (Z0 off)
 |.z k off,b=>.nm k (.z b off)
 |.os k t,n=>.os k t 0 n
 |.P5 q,_=>A2q q
def VK.cells:(v:VK)→v.T→A2 XV
 |.d t,x=>(t.enc x).map .d
 |.Bu n t ty,l=>[.Bu n t l ty]
 |.p k off,_=>[.nm k (Z0 off)]
 |.z k off,b=>[.nm k (.z b off)]
 |.os k t,n=>[.os k t 0 n]
 |.P5 q,_=>[A2q q]
def Rf(t:Ty):XV→Option t.T
 |.d x=>t.A22 x
 |.Bu _ u l _=>t.A22 (.sl u l)
 |.agg cs=>match Acf cs with
  |some ds=>t.A22 (.agg ds)
  |none=>none
 |_=>none
theorem Beq(k off:Nat):Wn (XV.nm k (.p off)).a (.d XD.pp.d):=by
 intro g w v hr;simp only[XV.a]at hr;cases hr with
 |nm _ _ _ h=>exact .d _ _ (.any _ _ ⟨_,h⟩ (by rw[show v=_ from h];rfl))
theorem Z1{t:Ty}{x:XV}{y:t.T}(h:Rf t x=some y):Wn x.a (.d (t.dv y)):=by
 unfold Rf at h;split at h
 ·exact Wn.d (t.N8 h)
 ·rename_i n u l ty;have:=t.N8 h;intro g w v hr;exact Wn.d this g w v (Wn.Bu _ _ _ _ g w v hr)
 ·rename_i cs;split at h
  ·rename_i ds hds;have h1:=Aue (.agg cs);simp only[B0y,hds]at h1;have:=t.N8 h;intro g w v hr;exact Wn.d this g w v (h1 g w v hr)
  ·cases h
 ·cases h
def Aqy(t:Ty):XV→Option t.T
 |.nm _ (.p _)=>t.A22 .pp
 |x=>Rf t x
theorem Amy{t:Ty}{x:XV}{y:t.T}(h:Aqy t x=some y):Wn x.a (.d (t.dv y)):=by
 unfold Aqy at h;split at h
 ·have:=t.N8 h;intro g w v hr;exact Wn.d this g w v (Beq _ _ g w v hr)
 ·exact Z1 h
def Bb8(Bgy Bkg:A3 TypeId):Bool :=
 match Bkg with
 |none=>true
 |some e=>match Bgy with
  |some e'=>Nat.beq e' e
  |none=>false
noncomputable abbrev Lab:=A2 (Nat×A3 Nat)
def Aaa(n:Nat)(t:Ty)(ty:A3 TypeId):XV→A3 (List t.T×Lab)
 |.Bu m u l Wl=>if h:u.Ji t=true then cond (Bb8 Wl ty) (some (Ty.Au h▸l,[(n,some m)])) none else none
 |.d (.v (.slice none 0 0))=>some ([],[(n,none)])
 |_=>none
def Aab(k off:Nat):XV→A3 (Unit×Lab)
 |.nm k' p=>cond (Nat.beq k' k) (cond (B45 p off) (some ((),[])) none) none
 |_=>none
def Auu(k off:Nat):XV→A3 (Bool×Lab)
 |.nm k' (.p R8)=>cond (Nat.beq k' k) (cond (Nat.beq R8 off) (some (false,[])) none) none
 |.nm k' (.z b R8)=>cond (Nat.beq k' k) (cond (Nat.beq R8 off) (some (b,[])) none) none
 |.d (.v (.pointer none))=>some (true,[])
 |_=>none
def Ahz(k:Nat)(t:Ty):XV→A3 (Nat×Lab)
 |.os k' t' a n=>cond (Nat.beq k' k) (cond (t'.Ji t) (cond (Nat.beq a 0) (some (n,[])) none) none) none
 |_=>none
def Ai0(p:A3 Bool)(x:XV):A3 (Unit×Lab):=cond (A0d p x) (some ((),[])) none
def VK.proj:(v:VK)→XV→A3 (v.T×Lab)
 |.d t=>fun x=>match Rf t x with
  |some y=>some (y,[])
  |none=>none
 |.Bu n t ty=>Aaa n t ty
 |.p k off=>Aab k off
 |.z k off=>Auu k off
 |.os k t=>Ahz k t
 |.P5 q=>Ai0 q
inductive OK where
 |arr (t:Ty)
 |Oy
 |map (k v:Ty)
 |Jg (m:Nat)
 |Dt
 |Ck (L:Nat) (k v:Ty)
 |abs (h:Nat) (S:Sh) (ty:Option TypeId)
@[reducible] def OK.T:OK→Type
 |.arr t=>List t.T
 |.Oy=>A2 UInt8×Nat
 |.map k v=>A2 (Nat×k.T×v.T)×Nat
 |.Jg _=>Nat×A2 Nat×Nat
 |.Dt=>Unit
 |.Ck _ k v=>A2 (Nat×k.T×Bool×List v.T)×Nat
 |.abs _ S _=>S.T
def OK.ob:(o:OK)→o.T→Ac
 |.arr t,l=>.arr t l
 |.Oy,x=>.Oy x.1 x.2
 |.map k v,x=>.map k v x.1 x.2
 |.Jg m,x=>.Jg m x.1 x.2.1 x.2.2
 |.Dt,_=>.Dt
 |.Ck L k v,x=>.Ck L k v x.1 x.2
 |.abs h S ty,x=>.abs h S ty x
def OK.dec:(o:OK)→Ac→Option o.T
 |.arr t,.arr u l=>if h:u.Ji t=true then some (Ty.Au h▸l)else none
 |.Oy,.Oy s p=>some (s,p)
 |.map k v,.map k' v' es c=>if h:k'.Ji k=true then if h':v'.Ji v=true then some (Ty.Au h▸Ty.Au h'▸es,c)else none else none
 |.Jg m,.Jg m' a b c=>cond (Nat.beq m' m) (some (a,b,c)) none
 |.Dt,.Dt=>some ()
 |.Ck L k v,.Ck L' k' v' es c=>if h:k'.Ji k=true then if h':v'.Ji v=true then cond (Nat.beq L' L) (some (Ty.Au h▸Ty.Au h'▸es,c)) none else none else none
 |.abs h S ty,.abs h' S' Wl x=>if e:S'.Ji S=true then cond (Nat.beq h' h) (cond (Wl==ty) (some (Sh.Au e▸x)) none) none else none
 |_,_=>none
theorem OK.Aqz{o:OK}{x:Ac}{y:o.T}(h:o.dec x=some y):x=o.ob y:=by
 unfold OK.dec at h;split at h
 ·split at h
  ·rename_i he;have e:=Ty.Au he;subst e;cases h;rfl
  ·cases h
 ·cases h;rfl
 ·split at h
  ·rename_i he;split at h
   ·rename_i he';have e:=Ty.Au he;have e':=Ty.Au he';subst e;subst e';cases h;rfl
   ·cases h
  ·cases h
 ·rename_i m m' a b c;cases hb:Nat.beq m' m with
  |false=>simp[hb]at h
  |true =>simp only[hb,Bkn,Bks]at h;subst h;rw[Bkr hb];rfl
 ·rfl
 ·rename_i L k v L' k' v' es c;split at h
  ·rename_i he;split at h
   ·rename_i he';cases hb:Nat.beq L' L with
    |false=>simp[hb]at h
    |true =>have e:=Ty.Au he;have e':=Ty.Au he';subst e;subst e';simp only[hb,Bkn,Bks]at h;subst h;rw[Bkr hb];rfl
   ·cases h
  ·cases h
 ·rename_i h1 S ty h1' S' Wl x;split at h
  ·rename_i he;have e:=Sh.Au he;cases hb:Nat.beq h1' h1 with
   |false=>simp[hb]at h
   |true =>
    cases ht:Wl==ty with
    |false=>simp[hb,ht]at h
    |true =>subst e;simp only[hb,ht,Bkn,Bks]at h;subst h;rw[Bkr hb,eq_of_beq ht];rfl
  ·cases h
 ·cases h
def OK.okp(ns:A2 Nat):OK→Bool
 |.Jg m=>cond (inl m ns) false true
 |.Ck L _ _=>cond (inl L ns) false true
 |.abs _ _ _=>Wm ns
 |_=>true
def A0e(ns:A2 Nat):A2 (Nat×OK)→Bool
 |[]=>true
 |p::r=>cond (p.2.okp ns) (A0e ns r) false
structure Cut where
 vars:List (Tmp×VK)
 objs:List (Nat×List VK×Option TypeId)
 Xd:List Tmp
 Od:List Nat
 own:List (Tmp×Nat×Ty):=[]
 Qj:List (Nat×OK):=[]
@[reducible] def Ai1:A2 (Tmp×VK)→Type
 |[]=>Unit
 |p::r=>p.2.T×Ai1 r
@[reducible] def A7n:A2 VK→Type
 |[]=>Unit
 |v::r=>v.T×A7n r
@[reducible] def Aee:A2 (Nat×A2 VK×A3 TypeId)→Type
 |[]=>Unit
 |p::r=>A7n p.2.1×Aee r
@[reducible] def A5q:A2 (Tmp×Nat×Ty)→Type
 |[]=>Unit
 |p::r=>A3 (List p.2.2.T×Nat)×A5q r
@[reducible] def Aef:A2 (Nat×OK)→Type
 |[]=>Unit
 |p::r=>p.2.T×Aef r
@[reducible] def Cut.T (c:Cut):Type:=Ai1 c.vars×Aee c.objs×A5q c.own×Aef c.Qj
def U8:(l:A2 (Tmp×Nat×Ty))→A5q l→A2 (Nat×XV)
 |[],_=>[]
 |p::r,x=>(p.1,match x.1 with
  |none=>.d (.v (.slice none 0 0))
  |some y=>.os p.2.1 p.2.2 0 y.2)::U8 r x.2
def S4:(l:A2 (Tmp×Nat×Ty))→A5q l→A2 (Nat×Ac)
 |[],_=>[]
 |p::r,x=>match x.1 with
  |none=>S4 r x.2
  |some y=>(p.2.1,.arr p.2.2 y.1)::S4 r x.2
def Ls:(l:A2 (Nat×OK))→Aef l→A2 (Nat×Ac)
 |[],_=>[]
 |p::r,x=>(p.1,p.2.ob x.1)::Ls r x.2
def ownNames:A2 (Tmp×Nat×Ty)→A2 Nat
 |[]=>[]
 |p::r=>p.2.1::ownNames r
def Fk:A2 (Nat×OK)→A2 Nat
 |[]=>[]
 |p::r=>p.1::Fk r
def Cut.others(c:Cut):A2 Nat:=(c.objs.map (·.1)++Fk c.Qj)++c.Od
def Xe:(l:A2 (Tmp×VK))→Ai1 l→A2 (Nat×XV)
 |[],_=>[]
 |p::r,x=>(p.1,p.2.val x.1)::Xe r x.2
def L6:(l:A2 VK)→A7n l→A2 XV
 |[],_=>[]
 |v::r,x=>v.cells x.1++L6 r x.2
def Qk:(l:A2 (Nat×A2 VK×A3 TypeId))→Aee l→A2 (Nat×Ac)
 |[],_=>[]
 |p::r,x=>(p.1,.cells (L6 p.2.1 x.1) p.2.2)::Qk r x.2
def A0f(env:A2 (Nat×XV)):A2 Tmp→A2 (Nat×XV)
 |[]=>[]
 |t::r=>match lk t env with
  |some x=>(t,x)::A0f env r
  |none=>A0f env r
def Mb(objs:A2 (Nat×Ac)):A2 Nat→A2 (Nat×Ac)
 |[]=>[]
 |t::r=>match lk t objs with
  |some x=>(t,x)::Mb objs r
  |none=>Mb objs r
def Mc:A2 (Tmp×VK)→A2 Nat
 |[]=>[]
 |(_,.Bu n _ _)::r=>n::Mc r
 |(_,.d _)::r=>Mc r
 |(_,.p _ _)::r=>Mc r
 |(_,.z _ _)::r=>Mc r
 |(_,.os _ _)::r=>Mc r
 |(_,.P5 _)::r=>Mc r
def K9:A2 VK→A2 Nat
 |[]=>[]
 |.Bu n _ _::r=>n::K9 r
 |.d _::r=>K9 r
 |.p _ _::r=>K9 r
 |.z _ _::r=>K9 r
 |.os _ _::r=>K9 r
 |.P5 _::r=>K9 r
def A0g:A2 (Nat×A2 VK×A3 TypeId)→A2 Nat
 |[]=>[]
 |p::r=>K9 p.2.1++A0g r
def Cut.Eb(c:Cut):A2 Nat:=Mc c.vars++A0g c.objs
def Bb9(n:Nat)(live acc:A2 Nat):A2 Nat:=cond (inl n live) (cond (inl n acc) acc (n::acc)) acc
def Acw(live:A2 Nat):A2 XV→A2 Nat→A2 Nat
 |[],acc=>acc
 |.Bu n _ _ _::r,acc=>Acw live r (Bb9 n live acc)
 |_::r,acc=>Acw live r acc
def Ar0(live:A2 Nat):A2 (Nat×XV)→A2 Nat→A2 Nat
 |[],acc=>acc
 |(_,.Bu n _ _ _)::r,acc=>Ar0 live r (Bb9 n live acc)
 |_::r,acc=>Ar0 live r acc
def Aac(live:A2 Nat):A2 (Nat×Ac)→A2 Nat→A2 Nat
 |[],acc=>acc
 |(_,.cells cs _)::r,acc=>Aac live r (Acw live cs acc)
 |(_,.Ck L _ _ _ _)::r,acc=>Aac live r (Bb9 L live acc)
 |_::r,acc=>Aac live r acc
def Ai2(live:A2 Nat):A2 (Nat×OK)→A2 Nat→A2 Nat
 |[],acc=>acc
 |(_,.Ck L _ _)::r,acc=>Ai2 live r (Bb9 L live acc)
 |_::r,acc=>Ai2 live r acc
def Vl(s0:Ad)(c:Cut):A2 Nat:=Ai2 s0.live c.Qj (Aac s0.live (Mb s0.objs c.Od) (Ar0 s0.live (A0f s0.env c.Xd) []))
def gen(s0:Ad)(c:Cut)(x:c.T):Ad :=
 ⟨Xe c.vars x.1++(U8 c.own x.2.2.1++A0f s0.env c.Xd),Qk c.objs x.2.1++(S4 c.own x.2.2.1++(Ls c.Qj x.2.2.2++Mb s0.objs c.Od)),c.Eb++Vl s0 c,[],[]⟩
def Sk(env:A2 (Nat×XV)):(l:A2 (Tmp×VK))→A3 (Ai1 l×Lab)
 |[]=>some ((),[])
 |p::r=>match lk p.1 env with
  |some v=>match p.2.proj v with
   |some (x,σ)=>match Sk env r with
    |some (xs,τ)=>some ((x,xs),σ++τ)
    |none=>none
   |none=>none
  |none=>none
def Ai3:A2 XV→A3 (A2 XD)
 |[]=>some []
 |x::r=>match x.asD,Ai3 r with
  |some y,some l=>some (y::l)
  |_,_=>none
theorem Acx:∀ {cs:A2 XV} {ds:A2 XD},Ai3 cs=some ds→cs.length=ds.length∧∀(i:Nat) x y,cs[i]? = some x→ds[i]? = some y→Wn x.a (.d y.d)
 |[],ds,h=>by simp[Ai3]at h;subst h;exact⟨rfl,by simp⟩
 |x::r,ds,h=>by
  simp only[Ai3]at h;split at h
  ·rename_i y l hy hl;cases h;obtain⟨h1,h2⟩:=Acx hl;refine⟨by simp[h1],fun i a b ha hb=>?_⟩;cases i with
   |zero=>simp at ha hb;subst ha;subst hb;exact B7e hy
   |succ i=>exact h2 i a b (by simpa using ha) (by simpa using hb)
  ·cases h
def Cc:(l:A2 VK)→A2 XV→A3 (A7n l×Lab)
 |[],cs=>match cs with
  |[]=>some ((),[])
  |_=>none
 |.d t::r,cs=>match Ai3 (cs.take t.size) with
  |some ds=>match t.dec ds with
   |some (x,[])=>match Cc r (cs.drop t.size) with
    |some (xs,τ)=>some ((x,xs),τ)
    |none=>none
   |_=>none
  |none=>none
 |.p k off::r,cs=>match cs with
  |c::Wf=>match (VK.p k off).proj c with
   |some (x,σ)=>match Cc r Wf with
    |some (xs,τ)=>some ((x,xs),σ++τ)
    |none=>none
   |none=>none
  |[]=>none
 |.z k off::r,cs=>match cs with
  |c::Wf=>match (VK.z k off).proj c with
   |some (x,σ)=>match Cc r Wf with
    |some (xs,τ)=>some ((x,xs),σ++τ)
    |none=>none
   |none=>none
  |[]=>none
 |.os k t::r,cs=>match cs with
  |c::Wf=>match (VK.os k t).proj c with
   |some (x,σ)=>match Cc r Wf with
    |some (xs,τ)=>some ((x,xs),σ++τ)
    |none=>none
   |none=>none
  |[]=>none
 |.P5 q::r,cs=>match cs with
  |c::Wf=>match (VK.P5 q).proj c with
   |some (x,σ)=>match Cc r Wf with
    |some (xs,τ)=>some ((x,xs),σ++τ)
    |none=>none
   |none=>none
  |[]=>none
 |.Bu n t ty::r,cs=>match cs with
  |c::Wf=>match (VK.Bu n t ty).proj c with
   |some (x,σ)=>match Cc r Wf with
    |some (xs,τ)=>some ((x,xs),σ++τ)
    |none=>none
   |none=>none
  |[]=>none
def Aad(a b:A3 TypeId):Bool :=
 match a,b with
 |none,none=>true
 |some x,some y=>Nat.beq x y
 |_,_=>false
theorem Ai4{a b:A3 TypeId}(h:Aad a b=true):a=b:=by
 unfold Aad at h;split at h
 ·rfl
 ·rw[Bkr h]
 ·cases h
def Sl(objs:A2 (Nat×Ac)):(l:A2 (Nat×A2 VK×A3 TypeId))→A3 (Aee l×Lab)
 |[]=>some ((),[])
 |p::r=>match lk p.1 objs with
  |some (.cells cs ty)=>cond (Aad ty p.2.2) (match Cc p.2.1 cs with
   |some (x,σ)=>match Sl objs r with
    |some (xs,τ)=>some ((x,xs),σ++τ)
    |none=>none
   |none=>none) none
  |_=>none
def Jm(env:A2 (Nat×XV))(objs:A2 (Nat×Ac)):(l:A2 (Tmp×Nat×Ty))→A3 (A5q l×A2 (Nat×Nat))
 |[]=>some ((),[])
 |p::r=>match lk p.1 env,Jm env objs r with
  |some (.os k ty a len),some (xs,τ)=>match lk k objs with
   |some (.arr tu l)=>if h:tu.Ji p.2.2=true then cond (ty.Ji p.2.2) (cond (Nat.beq a 0) (some ((some (Ty.Au h▸l,len),xs),(p.2.1,k)::τ)) none) none else none
   |_=>none
  |some (.d (.v (.slice none 0 0))),some (xs,τ)=>some ((none,xs),τ)
  |_,_=>none
def A2r(objs:A2 (Nat×Ac)):(l:A2 (Nat×OK))→A3 (Aef l)
 |[]=>some ()
 |p::r=>match lk p.1 objs,A2r objs r with
  |some o,some xs=>match p.2.dec o with
   |some y=>some (y,xs)
   |none=>none
  |_,_=>none
def A4o(s:Ad)(ns:A2 Nat):A2 Tmp→Bool
 |[]=>true
 |t::r=>cond (inl t s.wl) false (match lk t s.env with
  |some x=>cond (Gm ns x.a) (A4o s ns r) false
  |none=>false)
def Xf(F:A2 Nat):Ac→Bool
 |.cells cs _=>Bz F (A9 cs)
 |.Jg m _ _ _=>cond (inl m F) false true
 |.Ck m _ _ _ _=>cond (inl m F) false true
 |.abs _ _ _ _=>Wm F
 |_=>true
theorem Ai5{F:A2 Nat}{o:Ac}(h:Xf F o=true):F9 F o.o=true:=by
 have con:∀m,(cond (inl m F) false true)=true→(!F.contains m)=true:=by
  intro m hm;cases hc:F.contains m with
  |false=>rfl
  |true=>rw[(D3 m F).2 (Blz.1 hc)]at hm;cases hm
 cases o with
 |cells cs ty=>exact h
 |arr t l=>exact A23 F t l
 |Oy s pos=>rfl
 |map kt vt es c=>rfl
 |Dt=>rfl
 |bts e l=>exact O6 F _
 |Ck m kt vt es c=>exact con m h
 |Jg m since seen last=>exact con m h
 |abs h' S ty x=>exact S.Kn h _ _ _
theorem Ar1{F:A2 Nat}{o:Ac}(h:Xf F o=true):∀p∈o.C9,Wm F=true∧F9 F p.2=true:=by
 cases o with
 |abs h' S ty x=>exact fun p hp=>⟨h,S.Na h _ _ _ p hp⟩
 |_=>intro p hp;cases hp
def Z2(s:Ad)(ns:A2 Nat):A2 Nat→Bool
 |[]=>true
 |t::r=>cond (inl t s.ol) false (match lk t s.objs with
  |some x=>cond (Xf ns x) (Z2 s ns r) false
  |none=>false)
def Kp:Lab→A2 Nat
 |[]=>[]
 |(_,some m)::r=>m::Kp r
 |(_,none)::r=>Kp r
def Ald(a b:A2 Nat):Bool :=
 match a with
 |[]=>true
 |x::r=>cond (inl x b) (Ald r b) false
def Hy:A2 Nat→Bool
 |[]=>true
 |x::r=>cond (inl x r) false (Hy r)
def slotsOf:A2 (Tmp×VK)→A2 Nat
 |[]=>[]
 |p::r=>p.1::slotsOf r
def Ie:A2 (Nat×A2 VK×A3 TypeId)→A2 Nat
 |[]=>[]
 |p::r=>p.1::Ie r
def apart(a b:A2 Nat):Bool :=
 match a with
 |[]=>true
 |x::r=>cond (inl x b) false (apart r b)
theorem apart_spec:∀ {a b:A2 Nat},apart a b=true→∀x∈a,x∉b
 |[],b,_=>by simp
 |y::r,b,h=>by
  simp only[apart]at h;cases hy:inl y b with
  |true=>simp[hy]at h
  |false =>
   simp only[hy,Bko]at h;intro x hx;rcases Bkq.1 hx with rfl|hx
   ·intro hm;rw[(D3 _ _).2 hm]at hy;cases hy
   ·exact apart_spec h x hx
def L7:A2 (Tmp×Nat×Ty)→A2 Nat
 |[]=>[]
 |p::r=>p.1::L7 r
def VK.okp(ns:A2 Nat):VK→Bool
 |.p k _=>cond (inl k ns) false true
 |.z k _=>cond (inl k ns) false true
 |.os k _=>cond (inl k ns) false true
 |_=>true
def A2s(ns:A2 Nat):A2 (Tmp×VK)→Bool
 |[]=>true
 |p::r=>cond (p.2.okp ns) (A2s ns r) false
def U9(ns:A2 Nat):A2 VK→Bool
 |[]=>true
 |p::r=>cond (p.okp ns) (U9 ns r) false
def A2t(ns:A2 Nat):A2 (Nat×A2 VK×A3 TypeId)→Bool
 |[]=>true
 |p::r=>cond (U9 ns p.2.1) (A2t ns r) false
def B1c{α:Type}(c:Cut)(ν:A2 (Nat×Nat))(x:A3 α):A3 α :=
 cond (Hy (ownNames c.own)) (cond (apart (ownNames c.own) c.others) (cond (Hy (ν.map (·.2))) (cond (apart (ν.map (·.2)) c.others) (cond ((ownNames c.own).all (Nat.ble 1000)) (cond (apart c.Eb (ownNames c.own)) (cond (A2s (ownNames c.own) c.vars) (cond (A2t (ownNames c.own) c.objs) (cond (A0e (c.Eb++ownNames c.own) c.Qj) x none) none) none) none) none) none) none) none) none
def proj(nm:A2 Nat)(kl:A2 Nat)(c:Cut)(s:Ad):Option c.T :=
 match Sk s.env c.vars,Sl s.objs c.objs,Jm s.env s.objs c.own,A2r s.objs c.Qj with
 |some (x,σ),some (y,τ),some (u,ν),some v =>
  cond (A4o s (c.Eb++ownNames c.own) c.Xd) (cond (Z2 s (c.Eb++ownNames c.own) c.Od) (cond (Ald (Kp (σ++τ)++kl) s.live)
   (cond (Hy (Kp (σ++τ)++kl)) (cond (Hy (c.Eb++kl)) (cond (cond (Ald nm c.others) (O7 s.objs) false) (cond (apart c.Xd (slotsOf c.vars++L7 c.own)) (cond (apart c.Od (Ie c.objs++(ownNames c.own++Fk c.Qj))) (B1c c ν (some (x,y,u,v))) none) none) none) none) none) none) none) none
 |_,_,_,_=>none
def Bgz(g:Gh)(τ:Lab)(Vl:A2 Nat)(ν:A2 (Nat×Nat)):Gh :=
 {g with ρ:=fun j=>match lk j ν with|some k=>g.ρ k|none=>g.ρ j,β:=fun n=>cond (inl n Vl) (g.β n) (match lk n τ with
  |some (some m)=>g.β m
  |some none=>some none
  |none=>none),η:=fun n=>cond (inl n Vl) (g.η n) fun _=>none }
theorem Ut:∀ {a b:A2 Nat},Ald a b=true→∀x∈a,x∈b
 |[],b,_=>by simp
 |y::r,b,h=>by
  simp only[Ald]at h;cases hy:inl y b with
  |false=>simp[hy]at h
  |true =>
   simp only[hy,Bkn]at h;intro x hx;rcases Bkq.1 hx with rfl|hx
   ·exact(D3 _ _).1 hy
   ·exact Ut h x hx
theorem Cl:∀ {a:A2 Nat},Hy a=true→a.Nodup
 |[],_=>.nil
 |y::r,h=>by
  simp only[Hy]at h;cases hy:inl y r with
  |true=>simp[hy]at h
  |false =>simp only[hy,Bko]at h;refine Bm1.2 ⟨fun hm=>?_,Cl h⟩;rw[(D3 _ _).2 hm]at hy;cases hy
theorem VK.A4p{v:VK}{x:XV}{y:v.T}{σ:Lab}(h:v.proj x=some (y,σ)){g g':Gh}{w:World}{u:Value}{ns:A2 Nat}(hγ:g'.γ=g.γ)(hρ:∀k,k∉ns→g'.ρ k=g.ρ k)(Ja:v.okp ns=true)
  (hσ:∀n m,(n,some m)∈σ→∀ob,g'.β n=some ob→g.β m=some ob) (hr:RA g w x.a u):RA g' w (v.val y).a u:=by
 cases v with
 |d t =>
  simp only[VK.proj]at h;split at h
  ·rename_i y' hy;cases h;have hle:Wn x.a (.d (t.dv y)):=Z1 hy;have:=hle g w u hr;cases this with
   |d _ _ h1=>exact .d _ _ (hγ▸h1)
  ·cases h
 |Bu n t ty =>
  change Aaa n t ty x=some (y,σ)at h;unfold Aaa at h;split at h
  ·rename_i m u' l' Ber;split at h
   ·rename_i he;have e0:=Ty.Au he;subst e0;cases ht:Bb8 Ber ty with
    |false=>simp[ht]at h
    |true =>
     simp only[ht,Bkn,Bks,Bld]at h;obtain⟨rfl,rfl⟩:=h;simp only[XV.a]at hr;cases hr with
     |Bu _ _ _ _ _ h1 h2 =>
      refine .Bu _ _ _ _ _ (hγ▸h1) ?_;unfold A69 at h2⊢;split at h2
      ·rename_i a len cap;intro ob Gg;obtain⟨a1,a2,a3,a4,a5⟩:=h2 ob (hσ n m (by simp) ob Gg);refine⟨a1,a2,by rw[hγ];exact a3,a4,fun e hte=>?_⟩;refine a5 e ?_;subst hte;simp only[Bb8]at ht;split at ht
       ·rw[Bkr ht]
       ·cases ht
      ·trivial
   ·cases h
  ·simp only[Bks,Bld]at h;obtain⟨rfl,rfl⟩:=h;simp only[XV.a,XD.d]at hr;cases hr with
   |d _ _ h1 =>cases h1;exact .Bu _ _ _ _ _ (.nil _ none 0 fun _=>rfl) trivial
  ·cases h
 |p k off =>
  change Aab k off x=some (y,σ)at h;unfold Aab at h;split at h
  ·rename_i k' R8;cases h1:Nat.beq k' k with
   |false=>simp[h1]at h
   |true =>
    cases h2:B45 R8 off with
    |false=>simp[h1,h2]at h
    |true =>
     have e1:=Bkr h1;have e2:=B1b h2;subst e1;subst e2;simp only[XV.a]at hr;cases hr with
     |nm _ _ _ h=>exact .nm _ _ _ (by
       rw[hρ]
       ·exact h
       ·intro hm;simp[VK.okp,(D3 _ _).2 hm]at Ja)
  ·cases h
 |os k t =>
  change Ahz k t x=some (y,σ)at h;have hk:k∉ns:=by intro hm;simp[VK.okp,(D3 _ _).2 hm]at Ja
  unfold Ahz at h;split at h
  ·rename_i k' t' a n;cases h1:Nat.beq k' k with
   |false=>simp[h1]at h
   |true =>
    cases h2:t'.Ji t with
    |false=>simp[h1,h2]at h
    |true =>
     cases h3:Nat.beq a 0 with
     |false=>simp[h1,h2,h3]at h
     |true =>
      have e1:=Bkr h1;have e2:=Ty.Au h2;have e3:=Bkr h3;subst e1;subst e2;subst e3;simp only[h1,h2,h3,Bkn,Bks,Bld]at h;obtain⟨rfl,rfl⟩:=h;simp only[XV.a]at hr;cases hr with
      |nm _ _ _ h=>exact .nm _ _ _ (by rw[hρ _ hk];exact h)
  ·cases h
 |P5 q =>
  change Ai0 q x=some (y,σ)at h;unfold Ai0 at h;cases hp:A0d q x with
  |false=>rw[hp]at h;cases h
  |true =>
   rw[hp,Bkn]at h;cases h;have e:=Acv hp;subst e;unfold A2q at hr;cases hr with
   |d _ _ h1=>exact .d _ _ (hγ▸h1)
 |z k off =>
  change Auu k off x=some (y,σ)at h;have hk:k∉ns:=by intro hm;simp[VK.okp,(D3 _ _).2 hm]at Ja
  unfold Auu at h;split at h
  ·rename_i k' R8;cases h1:Nat.beq k' k with
   |false=>simp[h1]at h
   |true =>
    cases h2:Nat.beq R8 off with
    |false=>simp[h1,h2]at h
    |true =>
     have e1:=Bkr h1;have e2:=Bkr h2;subst e1;subst e2;simp only[h1,h2,Bkn,Bks,Bld]at h;obtain⟨rfl,rfl⟩:=h;simp only[XV.a]at hr;cases hr with
     |nm _ _ _ h=>exact .nm _ _ _ (by rw[hρ _ hk];exact h)
  ·rename_i k' b R8;cases h1:Nat.beq k' k with
   |false=>simp[h1]at h
   |true =>
    cases h2:Nat.beq R8 off with
    |false=>simp[h1,h2]at h
    |true =>
     have e1:=Bkr h1;have e2:=Bkr h2;subst e1;subst e2;simp only[h1,h2,Bkn,Bks,Bld]at h;obtain⟨rfl,rfl⟩:=h;simp only[XV.a]at hr;cases hr with
     |nm _ _ _ h=>exact .nm _ _ _ (by rw[hρ _ hk];exact h)
  ·cases h;simp only[XV.a,XD.d]at hr;cases hr with
   |d _ _ h1 =>cases h1;exact .nm _ _ _ rfl
  ·cases h
theorem Aae{n:Nat}{t:Ty}{ty:A3 TypeId}{x:XV}{y:List t.T}{σ:Lab}(h:Aaa n t ty x=some (y,σ)):σ.map (·.1)=[n]:=by
 unfold Aaa at h;split at h
 ·split at h
  ·rename_i m u' l' Ber he;cases ht:Bb8 Ber ty with
   |false=>simp[ht]at h
   |true=>simp only[ht,Bkn,Bks,Bld]at h;rw[← h.2];rfl
  ·cases h
 ·simp only[Bks,Bld]at h;rw[← h.2];rfl
 ·cases h
theorem Ayz{t:Ty}{x:XV}{y:t.T}{σ:Lab}(h:(VK.d t).proj x=some (y,σ)):σ=[]:=by
 simp only[VK.proj]at h;split at h
 ·cases h;rfl
 ·cases h
theorem Ai6{k off:Nat}{x:XV}{y:Unit}{σ:Lab}(h:(VK.p k off).proj x=some (y,σ)):σ=[]:=by
 change Aab k off x=some (y,σ)at h;unfold Aab at h;split at h
 ·rename_i k' R8;cases h1:Nat.beq k' k with
  |false=>simp[h1]at h
  |true =>
   cases h2:B45 R8 off with
   |false=>simp[h1,h2]at h
   |true=>simp only[h1,h2,Bkn,Bks,Bld]at h;exact h.2.symm
 ·cases h
theorem Ai7{k off:Nat}{x:XV}{y:Bool}{σ:Lab}(h:(VK.z k off).proj x=some (y,σ)):σ=[]:=by
 change Auu k off x=some (y,σ)at h;unfold Auu at h;split at h
 ·rename_i k' R8;cases h1:Nat.beq k' k with
  |false=>simp[h1]at h
  |true =>
   cases h2:Nat.beq R8 off with
   |false=>simp[h1,h2]at h
   |true=>simp only[h1,h2,Bkn,Bks,Bld]at h;exact h.2.symm
 ·rename_i k' b R8;cases h1:Nat.beq k' k with
  |false=>simp[h1]at h
  |true =>
   cases h2:Nat.beq R8 off with
   |false=>simp[h1,h2]at h
   |true=>simp only[h1,h2,Bkn,Bks,Bld]at h;exact h.2.symm
 ·cases h;rfl
 ·cases h
theorem Aeg{k:Nat}{t:Ty}{x:XV}{y:Nat}{σ:Lab}(h:(VK.os k t).proj x=some (y,σ)):σ=[]:=by
 change Ahz k t x=some (y,σ)at h;unfold Ahz at h;split at h
 ·rename_i k' t' a n;cases h1:Nat.beq k' k<;>cases h2:t'.Ji t<;>cases h3:Nat.beq a 0<;>simp[h1,h2,h3]at h;exact h.2
 ·cases h
theorem Aeh{p:A3 Bool}{x:XV}{y:Unit}{σ:Lab}(h:(VK.P5 p).proj x=some (y,σ)):σ=[]:=by
 change Ai0 p x=some (y,σ)at h;unfold Ai0 at h;cases hp:A0d p x with
 |false=>simp[hp]at h
 |true=>simp[hp]at h;exact h
theorem A6m{env:A2 (Nat×XV)}:∀ {l:A2 (Tmp×VK)} {x:Ai1 l} {σ:Lab},Sk env l=some (x,σ)→σ.map (·.1)=Mc l
 |[],x,σ,h=>by simp[Sk]at h;rw[h];rfl
 |(t,v)::r,x,σ,h=>by
  unfold Sk at h;split at h
  ·rename_i z hz;split at h
   ·rename_i y σ1 hy;split at h
    ·rename_i ys τ hys;simp only[Bks,Bld]at h;rw[← h.2,Ble,A6m hys];cases v with
     |d t=>rw[Ayz hy];rfl
     |Bu n t ty=>rw[Aae hy];rfl
     |p k off=>rw[Ai6 hy];rfl
     |z k off=>rw[Ai7 hy];rfl
     |os k t=>rw[Aeg hy];rfl
     |P5 p=>rw[Aeh hy];rfl
    ·cases h
   ·cases h
  ·cases h
theorem Hz:∀ {l:A2 VK} {cs:A2 XV} {x:A7n l} {σ:Lab},Cc l cs=some (x,σ)→σ.map (·.1)=K9 l
 |[],cs,x,σ,h=>by
  unfold Cc at h;split at h
  ·cases h;rfl
  ·cases h
 |.d t::r,cs,x,σ,h=>by
  unfold Cc at h;split at h
  ·split at h
   ·split at h
    ·rename_i ys τ hys;cases h;exact Hz (l:=r) hys
    ·cases h
   ·cases h
  ·cases h
 |.p k off::r,cs,x,σ,h=>by
  unfold Cc at h;split at h
  ·split at h
   ·rename_i y σ1 hy;split at h
    ·rename_i ys τ hys;cases h;rw[Ble,Ai6 hy,Hz hys];rfl
    ·cases h
   ·cases h
  ·cases h
 |.z k off::r,cs,x,σ,h=>by
  unfold Cc at h;split at h
  ·split at h
   ·rename_i y σ1 hy;split at h
    ·rename_i ys τ hys;cases h;rw[Ble,Ai7 hy,Hz hys];rfl
    ·cases h
   ·cases h
  ·cases h
 |.os k t::r,cs,x,σ,h=>by
  unfold Cc at h;split at h
  ·split at h
   ·rename_i y σ1 hy;split at h
    ·rename_i ys τ hys;cases h;rw[Ble,Aeg hy,Hz hys];rfl
    ·cases h
   ·cases h
  ·cases h
 |.P5 p::r,cs,x,σ,h=>by
  unfold Cc at h;split at h
  ·split at h
   ·rename_i y σ1 hy;split at h
    ·rename_i ys τ hys;cases h;rw[Ble,Aeh hy,Hz hys];rfl
    ·cases h
   ·cases h
  ·cases h
 |.Bu n t ty::r,cs,x,σ,h=>by
  unfold Cc at h;split at h
  ·split at h
   ·rename_i y σ1 hy;split at h
    ·rename_i ys τ hys;cases h;rw[Ble,Aae hy,Hz hys];rfl
    ·cases h
   ·cases h
  ·cases h
theorem A6n{objs:A2 (Nat×Ac)}:∀ {l:A2 (Nat×A2 VK×A3 TypeId)} {x:Aee l} {σ:Lab},Sl objs l=some (x,σ)→σ.map (·.1)=A0g l
 |[],x,σ,h=>by simp[Sl]at h;rw[h];rfl
 |p::r,x,σ,h=>by
  unfold Sl at h;split at h
  ·rename_i cs ty hk;cases ht:Aad ty p.2.2 with
   |false=>simp[ht]at h
   |true =>
    simp only[ht,Bkn]at h;split at h
    ·rename_i y σ1 hy;split at h
     ·rename_i ys τ hys;cases h;rw[Ble,Hz hy,A6n hys];rfl
     ·cases h
    ·cases h
  ·cases h
def Ow(g:Gh)(w:World)(cs:A2 XV)(vs:A2 Value):Prop:=∀(i:Nat) x v,cs[i]? = some x→vs[i]? = some v→RA g w x.a v
theorem Ow.split{g:Gh}{w:World}{a b:A2 XV}{vs:A2 Value}(h:Ow g w a (vs.take a.length))(h':Ow g w b (vs.drop a.length)):Ow g w (a++b) vs:=by
 intro i x v hx hv;rw[Bm2]at hx;split at hx
 ·rename_i Bs;refine h i x v hx ?_;rw[Bm5,Blv Bs];exact hv
 ·refine h' (i-a.length) x v hx ?_;rw[Bm9,show a.length+(i-a.length)=i by omega];exact hv
theorem Auv:∀ {cs:A2 XV} {ds:A2 XD},A29 cs=some ds→cs=ds.map .d
 |[],ds,h=>by simp[A29]at h;subst h;rfl
 |x::r,ds,h=>by
  cases x with
  |d x =>
   simp only[A29]at h;split at h
   ·rename_i l hl;cases h;rw[Auv hl];rfl
   ·cases h
  |_=>simp[A29]at h
theorem Fl{ns:A2 Nat}{v:VK}{r:A2 VK}(h:U9 ns (v::r)=true):v.okp ns=true∧U9 ns r=true:=by
 simp only[U9]at h;cases hv:v.okp ns with
 |false=>simp[hv]at h
 |true=>simp only[hv,Bkn]at h;exact⟨rfl,h⟩
theorem Kq{g g':Gh}{w:World}{ns:A2 Nat}(hγ:g'.γ=g.γ)(hρ:∀k,k∉ns→g'.ρ k=g.ρ k):∀ {l:A2 VK} {cs:A2 XV} {x:A7n l} {σ:Lab} {vs:A2 Value},U9 ns l=true→Cc l cs=some (x,σ) →
  (∀n m,(n,some m)∈σ→∀ob,g'.β n=some ob→g.β m=some ob)→Ow g w cs vs→Ow g' w (L6 l x) vs∧(L6 l x).length=cs.length
 |[],cs,x,σ,vs,Ja,h,hσ,hc=>by
  unfold Cc at h;split at h
  ·exact⟨fun i x v hx=>by simp[L6]at hx,rfl⟩
  ·cases h
 |.d t::r,cs,x,σ,vs,Ja,h,hσ,hc=>by
  unfold Cc at h;split at h
  ·rename_i ds hds;split at h
   ·rename_i y hy;split at h
    ·rename_i ys τ hys;cases h;obtain⟨zs,hz,hle⟩:=t.V8 hy;simp only[D6,Blt]at hz;subst hz;have hm:=Acx hds;have hlen:ds.length=t.size:=by rw[← Gn,hle.length,Ty.Cf]
     have Bk7:t.size≤cs.length:=by have:(cs.take t.size).length=ds.length:=hm.1;rw[Bm6,hlen]at this;omega
     have ih:=Kq hγ hρ (vs:=vs.drop t.size) (Fl Ja).2 hys hσ (by
      intro i x v hx hv;rw[Bm9]at hx hv;exact hc _ x v hx hv)
     simp only[L6,VK.cells];refine⟨Ow.split ?_ (by simpa[Ty.A77]using ih.1),by simp[Ty.A77,ih.2];omega⟩;intro i x v hx hv;rw[Bkt,Bky]at hx;obtain⟨z,hz,rfl⟩:=hx;simp only[Blb]at hv;rw[Bm5]at hv;split at hv
     ·have hd:(t.ds y)[i]? = some z.d:=by rw[← Ty.M8,Ha,Bkt,hz];rfl
      obtain⟨u,hu,Bix⟩:=hle.get hd;rw[Ha,Bkt,Bky]at hu;obtain⟨u',hu',rfl⟩:=hu;have hi:i<t.size:=by have:=(Bku.1 hu').1;omega
      obtain⟨c0,Q2⟩:∃c0,cs[i]? = some c0:=⟨_,Bl8 (by omega)⟩;have hct:(cs.take t.size)[i]? = some c0:=by rw[Bm5,Blv hi];exact Q2
      have:=hm.2 i c0 u' hct hu' g w v (hc i _ v Q2 hv);have:=Wn.d Bix g w v this;simp only[XV.a];cases this with
      |d _ _ h1=>exact .d _ _ (hγ▸h1)
     ·cases hv
    ·cases h
   ·cases h
  ·cases h
 |.Bu n t ty::r,cs,x,σ,vs,Ja,h,hσ,hc=>by
  unfold Cc at h;split at h
  ·rename_i c Wf;split at h
   ·rename_i y σ1 hy;split at h
    ·rename_i ys τ hys;cases h;have ih:=Kq hγ hρ (vs:=vs.drop 1) (Fl Ja).2 hys (fun n m hm=>hσ n m (Bl9 _ hm)) (by
      intro i x v hx hv;rw[Bm9]at hv;exact hc (i+1) x v (by simpa using hx) (by rw[Bpf];exact hv))
     simp only[L6,VK.cells];refine⟨Ow.split (a:=[_]) ?_ (by simpa using ih.1),by simp[ih.2]⟩;intro i x v hx hv;cases i with
     |succ i=>simp at hx
     |zero =>
      simp at hx;subst hx;have hv':vs[0]? = some v:=by rw[Bm5]at hv;simpa using hv
      exact VK.A4p (v:=.Bu n t ty) hy hγ hρ (Fl Ja).1 (fun n m hm=>hσ n m (Bla _ hm)) (hc 0 c v rfl hv')
    ·cases h
   ·cases h
  ·cases h
 |.p k off::r,cs,x,σ,vs,Ja,h,hσ,hc=>by
  unfold Cc at h;split at h
  ·rename_i c Wf;split at h
   ·rename_i y σ1 hy;split at h
    ·rename_i ys τ hys;cases h;have ih:=Kq hγ hρ (vs:=vs.drop 1) (Fl Ja).2 hys (fun n m hm=>hσ n m (Bl9 _ hm)) (by
      intro i x v hx hv;rw[Bm9]at hv;exact hc (i+1) x v (by simpa using hx) (by rw[Bpf];exact hv))
     simp only[L6,VK.cells];refine⟨Ow.split (a:=[_]) ?_ (by simpa using ih.1),by simp[ih.2]⟩;intro i x v hx hv;cases i with
     |succ i=>simp at hx
     |zero =>
      simp at hx;subst hx;have hv':vs[0]? = some v:=by rw[Bm5]at hv;simpa using hv
      exact VK.A4p (v:=.p k off) hy hγ hρ (Fl Ja).1 (fun n m hm=>hσ n m (Bla _ hm)) (hc 0 c v rfl hv')
    ·cases h
   ·cases h
  ·cases h
 |.z k off::r,cs,x,σ,vs,Ja,h,hσ,hc=>by
  unfold Cc at h;split at h
  ·rename_i c Wf;split at h
   ·rename_i y σ1 hy;split at h
    ·rename_i ys τ hys;cases h;have ih:=Kq hγ hρ (vs:=vs.drop 1) (Fl Ja).2 hys (fun n m hm=>hσ n m (Bl9 _ hm)) (by
      intro i x v hx hv;rw[Bm9]at hv;exact hc (i+1) x v (by simpa using hx) (by rw[Bpf];exact hv))
     simp only[L6,VK.cells];refine⟨Ow.split (a:=[_]) ?_ (by simpa using ih.1),by simp[ih.2]⟩;intro i x v hx hv;cases i with
     |succ i=>simp at hx
     |zero =>
      simp at hx;subst hx;have hv':vs[0]? = some v:=by rw[Bm5]at hv;simpa using hv
      exact VK.A4p (v:=.z k off) hy hγ hρ (Fl Ja).1 (fun n m hm=>hσ n m (Bla _ hm)) (hc 0 c v rfl hv')
    ·cases h
   ·cases h
  ·cases h
 |.os k t::r,cs,x,σ,vs,Ja,h,hσ,hc=>by
  unfold Cc at h;split at h
  ·rename_i c Wf;split at h
   ·rename_i y σ1 hy;split at h
    ·rename_i ys τ hys;cases h;have ih:=Kq hγ hρ (vs:=vs.drop 1) (Fl Ja).2 hys (fun n m hm=>hσ n m (Bl9 _ hm)) (by
      intro i x v hx hv;rw[Bm9]at hv;exact hc (i+1) x v (by simpa using hx) (by rw[Bpf];exact hv))
     simp only[L6,VK.cells];refine⟨Ow.split (a:=[_]) ?_ (by simpa using ih.1),by simp[ih.2]⟩;intro i x v hx hv;cases i with
     |succ i=>simp at hx
     |zero =>
      simp at hx;subst hx;have hv':vs[0]? = some v:=by rw[Bm5]at hv;simpa using hv
      exact VK.A4p (v:=.os k t) hy hγ hρ (Fl Ja).1 (fun n m hm=>hσ n m (Bla _ hm)) (hc 0 c v rfl hv')
    ·cases h
   ·cases h
  ·cases h
 |.P5 p::r,cs,x,σ,vs,Ja,h,hσ,hc=>by
  unfold Cc at h;split at h
  ·rename_i c Wf;split at h
   ·rename_i y σ1 hy;split at h
    ·rename_i ys τ hys;cases h;have ih:=Kq hγ hρ (vs:=vs.drop 1) (Fl Ja).2 hys (fun n m hm=>hσ n m (Bl9 _ hm)) (by
      intro i x v hx hv;rw[Bm9]at hv;exact hc (i+1) x v (by simpa using hx) (by rw[Bpf];exact hv))
     simp only[L6,VK.cells];refine⟨Ow.split (a:=[_]) ?_ (by simpa using ih.1),by simp[ih.2]⟩;intro i x v hx hv;cases i with
     |succ i=>simp at hx
     |zero =>
      simp at hx;subst hx;have hv':vs[0]? = some v:=by rw[Bm5]at hv;simpa using hv
      exact VK.A4p (v:=.P5 p) hy hγ hρ (Fl Ja).1 (fun n m hm=>hσ n m (Bla _ hm)) (hc 0 c v rfl hv')
    ·cases h
   ·cases h
  ·cases h
theorem Gd{α:Type}{k:Nat}{x:α}:∀ {l:A2 (Nat×α)},lk k l=some x→(k,x)∈l
 |[],h=>by cases h
 |p::r,h=>by
  simp only[G1]at h;cases hb:Nat.beq p.1 k with
  |true =>simp only[hb,Bkn,Bks]at h;have:=Bkr hb;subst h;subst this;exact Bkz
  |false =>simp only[hb,Bko]at h;exact Bkx _ (Gd h)
theorem B1d{α:Type}{k:Nat}:∀ {l:A2 (Nat×α)},lk k l=none→k∉l.map (·.1)
 |[],_=>by simp
 |p::r,h=>by
  simp only[G1]at h;cases hb:Nat.beq p.1 k with
  |true=>simp[hb]at h
  |false =>simp only[hb,Bko]at h;have:p.1≠k:=Bmw hb;simp only[Bkv,Bkq,Bop];exact⟨Bnf this,B1d h⟩
theorem Acy{α:Type}{k:Nat}{l:A2 (Nat×α)}(h:k∈l.map (·.1)):∃x,lk k l=some x:=by
 cases hl:lk k l with
 |some x=>exact⟨x,rfl⟩
 |none=>exact absurd h (B1d hl)
theorem Acz{α:Type}{k:Nat}{x:α}:∀ {l:A2 (Nat×α)},(l.map (·.1)).Nodup→(k,x)∈l→lk k l=some x
 |[],_,h=>by simp at h
 |p::r,hnd,h=>by
  simp only[Bkv,Bm1]at hnd;simp only[G1];rcases Bkq.1 h with h'|h'
  ·subst h';simp
  ·have hne:p.1≠k:=fun he=>hnd.1 (he▸Bl3 (f:=(·.1)) h')
   rw[nbF hne];exact Acz hnd.2 h'
theorem Aei{ns:A2 Nat}{v:Tmp×VK}{r:A2 (Tmp×VK)}(h:A2s ns (v::r)=true):v.2.okp ns=true∧A2s ns r=true:=by
 simp only[A2s]at h;cases hv:v.2.okp ns with
 |false=>simp[hv]at h
 |true=>simp only[hv,Bkn]at h;exact⟨rfl,h⟩
theorem Aej{ns:A2 Nat}{v:Nat×A2 VK×A3 TypeId}{r:A2 (Nat×A2 VK×A3 TypeId)}(h:A2t ns (v::r)=true):U9 ns v.2.1=true∧A2t ns r=true:=by
 simp only[A2t]at h;cases hv:U9 ns v.2.1 with
 |false=>simp[hv]at h
 |true=>simp only[hv,Bkn]at h;exact⟨rfl,h⟩
theorem Aaf{env:A2 (Nat×XV)}:∀ {l:A2 (Tmp×VK)} {x:Ai1 l} {σ:Lab} {t:Nat} {y:XV},Sk env l=some (x,σ)→(t,y)∈Xe l x →
  ∃(v:VK) (z:XV) (u:v.T) (σ':Lab),lk t env=some z∧v.proj z=some (u,σ')∧y=v.val u∧(∀p∈σ',p∈σ)∧∀ns,A2s ns l=true→v.okp ns=true
 |[],x,σ,t,y,h,hm=>by simp[Xe]at hm
 |p::r,x,σ,t,y,h,hm=>by
  unfold Sk at h;split at h
  ·rename_i z hz;split at h
   ·rename_i u σ1 hu;split at h
    ·rename_i ys τ hys;cases h;simp only[Xe,Bkq]at hm;rcases hm with hm|hm
     ·cases hm;exact⟨p.2,z,u,σ1,hz,hu,rfl,fun q hq=>Bla _ hq,fun ns hn=>(Aei hn).1⟩
     ·obtain⟨v,z,u,σ',h1,h2,h3,h4,h5⟩:=Aaf hys hm;exact⟨v,z,u,σ',h1,h2,h3,fun q hq=>Bl9 _ (h4 q hq),fun ns hn=>h5 ns (Aei hn).2⟩
    ·cases h
   ·cases h
  ·cases h
theorem A0h{objs:A2 (Nat×Ac)}:∀ {l:A2 (Nat×A2 VK×A3 TypeId)} {x:Aee l} {σ:Lab} {k:Nat} {y:Ac},Sl objs l=some (x,σ)→(k,y)∈Qk l x →
  ∃(vs:A2 VK) (cs:A2 XV) (ty:A3 TypeId) (u:A7n vs) (σ':Lab),lk k objs=some (.cells cs ty)∧Cc vs cs=some (u,σ')∧y = .cells (L6 vs u) ty∧(∀p∈σ',p∈σ)∧k∈l.map (·.1)∧∀ns,A2t ns l=true→U9 ns vs=true
 |[],x,σ,k,y,h,hm=>by simp[Qk]at hm
 |p::r,x,σ,k,y,h,hm=>by
  unfold Sl at h;split at h
  ·rename_i cs ty hk;cases ht:Aad ty p.2.2 with
   |false=>simp[ht]at h
   |true =>
    simp only[ht,Bkn]at h;have:=Ai4 ht;split at h
    ·rename_i u σ1 hu;split at h
     ·rename_i ys τ hys;cases h;simp only[Qk,Bkq]at hm;rcases hm with hm|hm
      ·cases hm;exact⟨p.2.1,cs,ty,u,σ1,hk,hu,by rw[this],fun q hq=>Bla _ hq,Bkz,fun ns hn=>(Aej hn).1⟩
      ·obtain⟨vs,cs,ty,u,σ',h1,h2,h3,h4,h6,h5⟩:=A0h hys hm;exact⟨vs,cs,ty,u,σ',h1,h2,h3,fun q hq=>Bl9 _ (h4 q hq),Bkx _ h6,fun ns hn=>h5 ns (Aej hn).2⟩
     ·cases h
    ·cases h
  ·cases h
theorem Xh{env:A2 (Nat×XV)}:∀ {l:A2 Tmp} {t:Nat} {y:XV},(t,y)∈A0f env l→t∈l∧lk t env=some y
 |[],t,y,h=>by simp[A0f]at h
 |a::r,t,y,h=>by
  unfold A0f at h;split at h
  ·rename_i x hx;rcases Bkq.1 h with h|h
   ·cases h;exact⟨Bkz,hx⟩
   ·have:=Xh h;exact⟨Bkx _ this.1,this.2⟩
  ·have:=Xh h;exact⟨Bkx _ this.1,this.2⟩
theorem Nd{objs:A2 (Nat×Ac)}:∀ {l:A2 Nat} {t:Nat} {y:Ac},(t,y)∈Mb objs l→t∈l∧lk t objs=some y
 |[],t,y,h=>by simp[Mb]at h
 |a::r,t,y,h=>by
  unfold Mb at h;split at h
  ·rename_i x hx;rcases Bkq.1 h with h|h
   ·cases h;exact⟨Bkz,hx⟩
   ·have:=Nd h;exact⟨Bkx _ this.1,this.2⟩
  ·have:=Nd h;exact⟨Bkx _ this.1,this.2⟩
theorem B6c{a:Nat}{l:A2 Nat}(hw:inl a l=false):a∉l:=by intro hm;rw[(D3 _ _).2 hm]at hw;cases hw
theorem Aag{s:Ad}{ns:A2 Nat}:∀ {l:A2 Tmp},A4o s ns l=true→∀t∈l,t∉s.wl∧∃x,lk t s.env=some x∧Gm ns x.a=true
 |[],_=>by simp
 |a::r,h=>by
  unfold A4o at h;cases hw:inl a s.wl with
  |true=>simp[hw]at h
  |false =>
   simp only[hw,Bko]at h;split at h
   ·rename_i x hx;cases hf:Gm ns x.a with
    |false=>simp[hf]at h
    |true =>
     simp only[hf,Bkn]at h;intro t ht;rcases Bkq.1 ht with rfl|ht
     ·exact⟨B6c hw,x,hx,hf⟩
     ·exact Aag h t ht
   ·cases h
theorem A6o{s:Ad}{ns:A2 Nat}:∀ {l:A2 Nat},Z2 s ns l=true→∀t∈l,t∉s.ol∧∃x,lk t s.objs=some x∧Xf ns x=true
 |[],_=>by simp
 |a::r,h=>by
  unfold Z2 at h;cases hw:inl a s.ol with
  |true=>simp[hw]at h
  |false =>
   simp only[hw,Bko]at h;split at h
   ·rename_i x hx;cases hf:Xf ns x with
    |false=>simp[hf]at h
    |true =>
     simp only[hf,Bkn]at h;intro t ht;rcases Bkq.1 ht with rfl|ht
     ·exact⟨B6c hw,x,hx,hf⟩
     ·exact A6o h t ht
   ·cases h
theorem Md:∀ {τ:Lab} {m:Nat},m∈Kp τ↔∃n,(n,some m)∈τ
 |[],m=>by simp[Kp]
 |(n,some k)::r,m=>by
  simp only[Kp,Bkq,Md (τ:=r),Bld,Bks];constructor
  ·rintro (rfl|⟨n',h⟩)
   ·exact⟨n,.inl ⟨rfl,rfl⟩⟩
   ·exact⟨n',.inr h⟩
  ·rintro ⟨n',⟨rfl,rfl⟩|h⟩
   ·exact .inl rfl
   ·exact .inr ⟨n',h⟩
 |(n,none)::r,m=>by
  simp only[Kp,Bkq,Md (τ:=r),Bld,reduceCtorEq,and_false,Br9]
theorem A2u:∀ {τ:Lab} {n n' m:Nat},(Kp τ).Nodup→(n,some m)∈τ→(n',some m)∈τ→n=n'
 |[],n,n',m,_,h,_=>by simp at h
 |(a,some k)::r,n,n',m,hnd,h,h'=>by
  simp only[Kp,Bm1]at hnd;rcases Bkq.1 h with h1|h1<;>rcases Bkq.1 h' with h2|h2
  ·cases h1;cases h2;rfl
  ·cases h1;exact absurd (Md.2 ⟨n',h2⟩) hnd.1
  ·cases h2;exact absurd (Md.2 ⟨n,h1⟩) hnd.1
  ·exact A2u hnd.2 h1 h2
 |(a,none)::r,n,n',m,hnd,h,h'=>by
  simp only[Kp]at hnd;simp only[Bkq,Bld,reduceCtorEq,and_false,Br9]at h h';exact A2u hnd h h'
theorem B46{l:A2 (Nat×XV)}{t:Nat}{x:AV}(h:(E0 l).lookup t=some x):∃y,lk t l=some y∧x=y.a:=by rw[A78]at h;obtain⟨y,hy,rfl⟩:=Bky.1 h;exact⟨y,hy,rfl⟩
theorem A0i{env:A2 (Nat×XV)}{objs:A2 (Nat×Ac)}:∀ {l:A2 (Tmp×Nat×Ty)} {x:A5q l} {ν:A2 (Nat×Nat)} {t:Nat} {y:XV},Jm env objs l=some (x,ν)→(t,y)∈U8 l x →
  (y = .d (.v (.slice none 0 0))∧lk t env=some y)∨∃(n k:Nat) (ty:Ty) (len:Nat),(n,k)∈ν∧lk t env=some (.os k ty 0 len)∧y = .os n ty 0 len
 |[],x,ν,t,y,h,hm=>by simp[U8]at hm
 |p::r,x,ν,t,y,h,hm=>by
  unfold Jm at h;split at h
  ·rename_i k ty a len xs τ hv hr;split at h
   ·rename_i tu l hk;split at h
    ·rename_i he;cases h1:ty.Ji p.2.2 with
     |false=>simp[h1]at h
     |true =>
     cases h2:Nat.beq a 0 with
     |false=>simp[h1,h2]at h
     |true =>
      simp only[h1,h2,Bkn,Bks,Bld]at h;obtain⟨rfl,rfl⟩:=h;have e1:=Ty.Au h1;have e2:=Bkr h2;subst e2;simp only[U8,Bkq]at hm;rcases hm with hm|hm
      ·cases hm;exact .inr ⟨p.2.1,k,ty,len,Bkz,hv,by rw[e1]⟩
      ·rcases A0i hr hm with h|⟨n,k',Wl,Biy,h1,h2,h3⟩
       ·exact .inl h
       ·exact .inr ⟨n,k',Wl,Biy,Bkx _ h1,h2,h3⟩
    ·cases h
   ·cases h
  ·rename_i xs τ hv hr;simp only[Bks,Bld]at h;obtain⟨rfl,rfl⟩:=h;simp only[U8,Bkq]at hm;rcases hm with hm|hm
   ·cases hm;exact .inl ⟨rfl,hv⟩
   ·exact A0i hr hm
  ·cases h
theorem Xi{env:A2 (Nat×XV)}{objs:A2 (Nat×Ac)}:∀ {l:A2 (Tmp×Nat×Ty)} {x:A5q l} {ν:A2 (Nat×Nat)} {n k:Nat},Jm env objs l=some (x,ν)→(n,k)∈ν→∃y,lk k objs=some y
 |[],x,ν,n,k,h,hm=>by
  simp only[Jm,Bks,Bld]at h;obtain⟨_,rfl⟩:=h;cases hm
 |p::r,x,ν,n,k,h,hm=>by
  unfold Jm at h;split at h
  ·rename_i k' ty a len xs τ hv hr;split at h
   ·rename_i tu l hk;split at h
    ·rename_i he;cases h1:ty.Ji p.2.2 with
     |false=>simp[h1]at h
     |true =>
     cases h2:Nat.beq a 0 with
     |false=>simp[h1,h2]at h
     |true =>
      simp only[h1,h2,Bkn,Bks,Bld]at h;obtain⟨rfl,rfl⟩:=h;rcases Bkq.1 hm with hm|hm
      ·cases hm;exact⟨_,hk⟩
      ·exact Xi hr hm
    ·cases h
   ·cases h
  ·rename_i xs τ hv hr;simp only[Bks,Bld]at h;obtain⟨rfl,rfl⟩:=h;exact Xi hr hm
  ·cases h
theorem A0j{env:A2 (Nat×XV)}{objs:A2 (Nat×Ac)}:∀ {l:A2 (Tmp×Nat×Ty)} {x:A5q l} {ν:A2 (Nat×Nat)} {n:Nat} {y:Ac},Jm env objs l=some (x,ν)→(n,y)∈S4 l x →
  ∃k,(n,k)∈ν∧lk k objs=some y
 |[],x,ν,t,y,h,hm=>by simp[S4]at hm
 |p::r,x,ν,t,y,h,hm=>by
  unfold Jm at h;split at h
  ·rename_i k ty a len xs τ hv hr;split at h
   ·rename_i tu l hk;split at h
    ·rename_i he;cases h1:ty.Ji p.2.2 with
     |false=>simp[h1]at h
     |true =>
     cases h2:Nat.beq a 0 with
     |false=>simp[h1,h2]at h
     |true =>
      simp only[h1,h2,Bkn,Bks,Bld]at h;obtain⟨rfl,rfl⟩:=h;simp only[S4,Bkq]at hm;rcases hm with hm|hm
      ·cases hm;refine⟨k,Bkz,?_⟩;rw[hk];have e0:=Ty.Au he;obtain⟨a1,a2,a3⟩:=p;simp only at he e0⊢;subst e0;rfl
      ·obtain⟨k',h1,h2⟩:=A0j hr hm;exact⟨k',Bkx _ h1,h2⟩
    ·cases h
   ·cases h
  ·rename_i xs τ hv hr;simp only[Bks,Bld]at h;obtain⟨rfl,rfl⟩:=h;exact A0j hr hm
  ·cases h
theorem S5{env:A2 (Nat×XV)}{objs:A2 (Nat×Ac)}:∀ {l:A2 (Tmp×Nat×Ty)} {x:A5q l} {ν:A2 (Nat×Nat)},Jm env objs l=some (x,ν)→∀p∈ν,p.1∈ownNames l
 |[],x,ν,h=>by simp[Jm]at h;simp[h]
 |p::r,x,ν,h=>by
  unfold Jm at h;split at h
  ·rename_i k ty a len xs τ hv hr;split at h
   ·split at h
    ·cases h1:ty.Ji p.2.2 with
     |false=>simp[h1]at h
     |true =>
     cases h2:Nat.beq a 0 with
     |false=>simp[h1,h2]at h
     |true =>
      simp only[h1,h2,Bkn,Bks,Bld]at h;obtain⟨rfl,rfl⟩:=h;intro q hq;rcases Bkq.1 hq with rfl|hq
      ·exact Bkz
      ·exact Bkx _ (S5 hr q hq)
    ·cases h
   ·cases h
  ·rename_i xs τ hv hr;simp only[Bks,Bld]at h;obtain⟨rfl,rfl⟩:=h;intro q hq;exact Bkx _ (S5 hr q hq)
  ·cases h
theorem Y4{env:A2 (Nat×XV)}{objs:A2 (Nat×Ac)}:∀ {l:A2 (Tmp×Nat×Ty)} {x:A5q l} {ν:A2 (Nat×Nat)},Jm env objs l=some (x,ν)→(ownNames l).Nodup→(ν.map (·.1)).Nodup
 |[],x,ν,h,_=>by simp[Jm]at h;simp[h]
 |p::r,x,ν,h,hnd=>by
  simp only[ownNames,Bm1]at hnd;unfold Jm at h;split at h
  ·rename_i k ty a len xs τ hv hr;split at h
   ·split at h
    ·cases h1:ty.Ji p.2.2 with
     |false=>simp[h1]at h
     |true =>
     cases h2:Nat.beq a 0 with
     |false=>simp[h1,h2]at h
     |true =>simp only[h1,h2,Bkn,Bks,Bld]at h;obtain⟨rfl,rfl⟩:=h;simp only[Bkv,Bm1];refine⟨fun hm=>?_,Y4 hr hnd.2⟩;obtain⟨q,hq,he⟩:=Bl2.1 hm;exact hnd.1 (he▸S5 hr q hq)
    ·cases h
   ·cases h
  ·rename_i xs τ hv hr;simp only[Bks,Bld]at h;obtain⟨rfl,rfl⟩:=h;exact Y4 hr hnd.2
  ·cases h
theorem A0k{objs:A2 (Nat×Ac)}:∀ {l:A2 (Nat×OK)} {x:Aef l} {k:Nat} {y:Ac},A2r objs l=some x→(k,y)∈Ls l x→lk k objs=some y∧k∈Fk l
 |[],x,k,y,h,hm=>by simp[Ls]at hm
 |p::r,x,k,y,h,hm=>by
  unfold A2r at h;split at h
  ·rename_i o xs hk hr;split at h
   ·rename_i z he;cases h;simp only[Ls,Bkq]at hm;rcases hm with hm|hm
    ·cases hm;refine⟨?_,Bkz⟩;rw[hk,OK.Aqz he]
    ·obtain⟨h1,h2⟩:=A0k hr hm;exact⟨h1,Bkx _ h2⟩
   ·cases h
  ·cases h
theorem A4q{a b:A2 Nat}(h:(a++b).Nodup):a.Nodup∧b.Nodup∧∀x∈a,x∉b:=by rw[Bpc]at h;exact⟨h.1,h.2.1,fun x hx hb=>h.2.2 x hx x hb rfl⟩
theorem Me:∀ {l:A2 (Tmp×Nat×Ty)} {x:A5q l} {n:Nat} {y:Ac},(n,y)∈S4 l x→n∈ownNames l∧∃t u,y = .arr t u
 |[],x,n,y,h=>by simp[S4]at h
 |p::r,x,n,y,h=>by
  unfold S4 at h;split at h
  ·exact⟨Bkx _ (Me h).1,(Me h).2⟩
  ·rcases Bkq.1 h with h|h
   ·cases h;exact⟨Bkz,_,_,rfl⟩
   ·exact⟨Bkx _ (Me h).1,(Me h).2⟩
theorem Aah{ns:A2 Nat}:∀ {l:A2 (Nat×OK)} {x:Aef l} {n:Nat} {y:Ac},A0e ns l=true→(n,y)∈Ls l x→F9 ns y.o=true
 |[],x,n,y,ho,h=>by simp[Ls]at h
 |(q,ok)::r,x,n,y,ho,h=>by
  have ho':ok.okp ns=true∧A0e ns r=true:=by
   simp only[A0e]at ho;cases hx:ok.okp ns with
   |false=>simp[hx]at ho
   |true=>simp only[hx,Bkn]at ho;exact⟨rfl,ho⟩
  unfold Ls at h;rcases Bkq.1 h with h|h
  ·cases h;cases ok with
   |arr t=>exact A23 _ _ _
   |Jg m =>
    have h1:=ho'.1;simp only[OK.okp]at h1;show(!ns.contains m)=true;cases hc:ns.contains m with
    |false=>rfl
    |true=>rw[(D3 m ns).2 (Blz.1 hc)]at h1;cases h1
   |Ck m k v =>
    have h1:=ho'.1;simp only[OK.okp]at h1;show(!ns.contains m)=true;cases hc:ns.contains m with
    |false=>rfl
    |true=>rw[(D3 m ns).2 (Blz.1 hc)]at h1;cases h1
   |abs h' S ty=>exact S.Kn ho'.1 _ _ _
   |_=>rfl
  ·exact Aah ho'.2 h
theorem Aai{ns:A2 Nat}:∀ {l:A2 (Nat×OK)} {x:Aef l} {n:Nat} {y:Ac},A0e ns l=true→(n,y)∈Ls l x→∀p∈y.C9,Wm ns=true∧F9 ns p.2=true
 |[],x,n,y,ho,h=>by simp[Ls]at h
 |(q,ok)::r,x,n,y,ho,h=>by
  obtain⟨h1,h2⟩:=Ap (a:=ok.okp ns) (b:=A0e ns r) ho;unfold Ls at h;rcases Bkq.1 h with h|h
  ·cases h;cases ok with
   |abs h' S ty=>exact fun p hp=>⟨h1,S.Na h1 _ _ _ p hp⟩
   |_=>intro p hp;cases hp
  ·exact Aai h2 h
theorem Y5:∀(l:A2 (Nat×OK)) (x:Aef l),(Ls l x).map (·.1)=Fk l
 |[],x=>rfl
 |p::r,x=>by simp only[Ls,Bkv,Fk,Y5 r]
theorem A6p:∀(l:A2 (Nat×A2 VK×A3 TypeId)) (y:Aee l),(Qk l y).map (·.1)=l.map (·.1)
 |[],y=>rfl
 |p::r,y=>by simp only[Qk,Bkv,A6p r]
theorem Ai8{α:Type}{c:Cut}{ν:A2 (Nat×Nat)}{x:A3 α}{y:α}(h:B1c c ν x=some y):(ownNames c.own).Nodup∧(∀k∈ownNames c.own,k∉c.others)∧(ν.map (·.2)).Nodup∧(∀k∈ν.map (·.2),k∉c.others) ∧
  (∀k∈ownNames c.own,1000≤k)∧(∀k∈c.Eb,k∉ownNames c.own)∧A2s (ownNames c.own) c.vars=true∧A2t (ownNames c.own) c.objs=true∧A0e (c.Eb++ownNames c.own) c.Qj=true∧x=some y:=by
 unfold B1c at h;cases h1:Hy (ownNames c.own) with
 |false=>simp[h1]at h
 |true =>
 cases h2:apart (ownNames c.own) c.others with
 |false=>simp[h1,h2]at h
 |true =>
 cases h3:Hy (ν.map (·.2)) with
 |false=>simp[h1,h2,h3]at h
 |true =>
 cases h4:apart (ν.map (·.2)) c.others with
 |false=>simp[h1,h2,h3,h4]at h
 |true =>
 cases h5:(ownNames c.own).all (Nat.ble 1000) with
 |false=>simp only[h1,h2,h3,h4,h5,Bkn,Bko]at h;cases h
 |true =>
 cases h6:apart c.Eb (ownNames c.own) with
 |false=>simp only[h1,h2,h3,h4,h5,h6,Bkn,Bko]at h;cases h
 |true =>
 cases h7:A2s (ownNames c.own) c.vars with
 |false=>simp only[h1,h2,h3,h4,h5,h6,h7,Bkn,Bko]at h;cases h
 |true =>
 cases h8:A2t (ownNames c.own) c.objs with
 |false=>simp only[h1,h2,h3,h4,h5,h6,h7,h8,Bkn,Bko]at h;cases h
 |true =>
 cases h9:A0e (c.Eb++ownNames c.own) c.Qj with
 |false=>simp only[h1,h2,h3,h4,h5,h6,h7,h8,h9,Bkn,Bko]at h;cases h
 |true =>simp only[h1,h2,h3,h4,h5,h6,h7,h8,h9,Bkn]at h;exact⟨Cl h1,apart_spec h2,Cl h3,apart_spec h4,fun k hk=>Bl5 (Bly.1 h5 k hk),apart_spec h6,rfl,rfl,rfl,h⟩
theorem Amz{nm kl:A2 Nat}{c:Cut}{s:Ad}{x:c.T}(h:proj nm kl c s=some x):∃(σ τ0:Lab) (ν:A2 (Nat×Nat)),Sk s.env c.vars=some (x.1,σ)∧Sl s.objs c.objs=some (x.2.1,τ0) ∧
  Jm s.env s.objs c.own=some (x.2.2.1,ν)∧A2r s.objs c.Qj=some x.2.2.2∧A4o s (c.Eb++ownNames c.own) c.Xd=true∧Z2 s (c.Eb++ownNames c.own) c.Od=true ∧
  (∀n∈Kp (σ++τ0)++kl,n∈s.live)∧(Kp (σ++τ0)++kl).Nodup∧(c.Eb++kl).Nodup∧(∀k∈nm,k∈c.others)∧(∀t∈c.Xd,t∉slotsOf c.vars++L7 c.own) ∧
  (∀k∈c.Od,k∉Ie c.objs++(ownNames c.own++Fk c.Qj))∧B1c c ν (some x)=some x∧O7 s.objs=true:=by
 unfold proj at h;split at h
 ·rename_i x1 σ y1 τ0 u1 ν v1 hx hy hu hv;cases h1:A4o s (c.Eb++ownNames c.own) c.Xd with
  |false=>simp[h1]at h
  |true =>
  cases h2:Z2 s (c.Eb++ownNames c.own) c.Od with
  |false=>simp[h1,h2]at h
  |true =>
  cases h3:Ald (Kp (σ++τ0)++kl) s.live with
  |false=>simp only[h1,h2,h3,Bkn,Bko]at h;cases h
  |true =>
  cases h4:Hy (Kp (σ++τ0)++kl) with
  |false=>simp only[h1,h2,h3,h4,Bkn,Bko]at h;cases h
  |true =>
  cases h5:Hy (c.Eb++kl) with
  |false=>simp only[h1,h2,h3,h4,h5,Bkn,Bko]at h;cases h
  |true =>
  cases h60:cond (Ald nm c.others) (O7 s.objs) false with
  |false=>simp only[h1,h2,h3,h4,h5,h60,Bkn,Bko]at h;cases h
  |true =>
  obtain⟨h6,h61⟩:=Ap h60;cases h7:apart c.Xd (slotsOf c.vars++L7 c.own) with
  |false=>simp only[h1,h2,h3,h4,h5,h60,h7,Bkn,Bko]at h;cases h
  |true =>
  cases h8:apart c.Od (Ie c.objs++(ownNames c.own++Fk c.Qj)) with
  |false=>simp only[h1,h2,h3,h4,h5,h60,h7,h8,Bkn,Bko]at h;cases h
  |true =>simp only[h1,h2,h3,h4,h5,h60,h7,h8,Bkn]at h;have h9:=(Ai8 h).2.2.2.2.2.2.2.2.2;cases h9;exact⟨σ,τ0,ν,hx,hy,hu,hv,rfl,rfl,Ut h3,Cl h4,Cl h5,Ut h6,apart_spec h7,apart_spec h8,h,h61⟩
 ·cases h
theorem RA.Auw{g g':Gh}{w:World}{k k' off len sz:Nat}{v:Value}(h:RA g w (.osl k off len sz) v)(hk:g'.ρ k'=g.ρ k):RA g' w (.osl k' off len sz) v:=by
 cases h with
 |nm _ _ _ h=>exact .nm _ _ _ (by rw[hk];exact h)
theorem Uu{nm:A2 Nat}{c:Cut}{s s0:Ad}{x:c.T}(h:proj nm (Vl s0 c) c s=some x)(hi1:∀t∈c.Xd,∀x,t∉s.wl→lk t s.env=some x→lk t s0.env=some x)
  (hi2:∀k∈c.Od,∀x,k∉s.ol→lk k s.objs=some x→lk k s0.objs=some x) {S:Sig} {B:Bl} {g:Gh} {w:World} {a:Act} (hs:SR S B g w s.im a)
  (Wk:S.names=nm):∃g',SR S B g' w (gen s0 c x).im a:=by
 generalize Im:Vl s0 c=kl at h;obtain⟨σ,τ0,ν,hx,hy,hu,hv,h1,h2,l3,l4,l5,l6,l7,l8,Bh0,Bh1⟩:=Amz h;obtain⟨w1,w2,w3,w4,w5,w6,w7,w8,w9,-⟩:=Ai8 Bh0;generalize hτ:σ++τ0=τ at l3 l4;have k1:=Aag h1;have k2:=A6o h2;obtain⟨n4a,n4b,n4c⟩:=A4q l4;obtain⟨n5a,n5b,n5c⟩:=A4q l5;have B80:τ.map (·.1)=c.Eb:=by rw[← hτ,Ble,A6m hx,A6n hy];rfl
 have Biz:=Y4 hu w1;have Bj0:=S5 hu;have hr:=hs.hr;let g':=Bgz g τ kl ν;have hβ:∀n,g'.β n=cond (inl n kl) (g.β n) (match lk n τ with|some (some m)=>g.β m|some none=>some none|none=>none):=fun n=>rfl
 have hρ:∀k,k∉ownNames c.own→g'.ρ k=g.ρ k:=by
  intro k hk;show(match lk k ν with|some k=>g.ρ k|none=>g.ρ k)=g.ρ k;cases hl:lk k ν with
  |none=>rfl
  |some z=>exact absurd (Bj0 _ (Gd hl)) hk
 have Bd0:∀n k,(n,k)∈ν→g'.ρ n=g.ρ k:=by intro n k hm;show(match lk n ν with|some k=>g.ρ k|none=>g.ρ n)=g.ρ k;rw[Acz Biz hm]
 have βkeep:∀n,n∈kl→g'.β n=g.β n:=by intro n hn;rw[hβ,(D3 _ _).2 hn];rfl
 have βnew:∀n m,(n,some m)∈τ→g'.β n=g.β m:=by
  intro n m hm;have hn:n∈c.Eb:=by rw[← B80];exact Bl3 (f:=(·.1)) hm
  have hk:inl n kl=false:=by
   cases hh:inl n kl with
   |false=>rfl
   |true=>exact absurd ((D3 _ _).1 hh) (n5c n hn)
  rw[hβ,hk,Acz (by rw[B80];exact n5a) hm];rfl
 have βother:∀n,n∉c.Eb→n∉kl→g'.β n=none:=by
  intro n hn hk;have Lk:inl n kl=false:=by
   cases hh:inl n kl with
   |false=>rfl
   |true=>exact absurd ((D3 _ _).1 hh) hk
  rw[hβ,Lk];cases hl:lk n τ with
  |none=>rfl
  |some z=>exact absurd (by rw[← B80];exact Bl3 (f:=(·.1)) (Gd hl)) hn
 have βsrc:∀n b,g'.β n=some (some b)→(n∈kl∧g.β n=some (some b))∨∃m,(n,some m)∈τ∧g.β m=some (some b):=by
  intro n b hb;by_cases hk:n∈kl
  ·exact .inl ⟨hk,by rw[← βkeep n hk];exact hb⟩
  ·by_cases hn:n∈c.Eb
   ·rw[← B80]at hn;obtain⟨z,hz⟩:=Acy hn;cases z with
    |some m=>exact .inr ⟨m,Gd hz,by rw[← βnew n m (Gd hz)];exact hb⟩
    |none =>
     have Lk:inl n kl=false:=by
      cases hh:inl n kl with
      |false=>rfl
      |true=>exact absurd ((D3 _ _).1 hh) hk
     rw[hβ,Lk,hz]at hb;simp at hb
   ·rw[βother n hn hk]at hb;cases hb
 have hη:∀n,g'.η n=cond (inl n kl) (g.η n) (fun _=>none):=fun n=>rfl
 have ηkeep:∀n,n∈kl→g'.η n=g.η n:=by intro n hn;rw[hη,(D3 _ _).2 hn];rfl
 have ηoff:∀n,n∉kl→∀i,g'.η n i=none:=by
  intro n hn i;rw[hη];cases hh:inl n kl with
  |false=>rfl
  |true=>exact absurd ((D3 _ _).1 hh) hn
 have ht:Trans (c.Eb++ownNames c.own) g w g' w:=by
  refine⟨.refl _ _,fun k hk=>hρ k fun hm=>hk (Bl9 _ hm),fun n ob hn he=>?_,fun L hL he=>?_⟩
  ·by_cases hk:n∈kl
   ·exact⟨by rw[← βkeep n hk];exact he,fun _ _=>⟨rfl,rfl⟩⟩
   ·rw[βother n (fun hm=>hn (Bla _ hm)) hk]at he;cases he
  ·by_cases hk:L∈kl
   ·exact⟨ηkeep L hk,fun _ _ _=>⟨rfl,rfl⟩⟩
   ·rw[βother L (fun hm=>hL (Bla _ hm)) hk]at he;cases he
 have hσ:∀n m,(n,some m)∈τ→∀ob,g'.β n=some ob→g.β m=some ob:=fun n m hm ob he=>by rw[← βnew n m hm];exact he
 have Ar2:∀k,k∈c.others→k∉ownNames c.own:=fun k hk hm=>w2 k hm hk
 have A1e:∀k o,(A6 (gen s0 c x).objs).lookup k=some o→∃k0 p,s.im.X.objs.lookup k0=some p∧g'.ρ k=g.ρ k0∧C3 g' w (g.ρ k0) o∧((k,k0)∈ν∨(k0=k∧k∈c.others)∨(k0=k∧H0≤k∧∀j y,lk j s.objs=some y→j<H0)):=by
  intro k o hk;rcases A26 hk with ⟨y,hyl,rfl⟩|⟨⟨q,y⟩,hq,ho⟩
  rotate_left
  ·have hge:H0≤k:=Ac.N9 (Fy ho);have src:lk q s.objs=some y∧∀p∈y.C9,Wm (c.Eb++ownNames c.own)=true∧F9 (c.Eb++ownNames c.own) p.2=true:=by
    rcases Bkw.1 hq with hm|hm
    ·obtain⟨vs,cs,ty,u,σ',e1,e2,rfl,e4,e5,e6⟩:=A0h hy hm;cases ho
    ·rcases Bkw.1 hm with hm|hm
     ·obtain⟨_,t,u,rfl⟩:=Me hm;cases ho
     ·rcases Bkw.1 hm with hm|hm
      ·obtain⟨q1,q2⟩:=A0k hv hm;exact⟨q1,Aai w9 hm⟩
      ·obtain⟨hk1,hk2⟩:=Nd hm;obtain⟨q1,z,q2,q3⟩:=k2 q hk1;have:=hi2 q hk1 z q1 q2;rw[hk2]at this;cases this;exact⟨q2,Ar1 q3⟩
   have hl:s.im.X.objs.lookup k=some o:=Ac1 Bh1 (Gd src.1) ho;have Ar3:∀j y,lk j s.objs=some y→j<H0:=by
    rcases Ko Bh1 with e|e
    ·rw[Ac.H6 (Gw e _ (Gd src.1))]at ho;cases ho
    ·intro j y' hj;exact e.2 _ (Gd hj)
   have hno:k∉ownNames c.own:=by intro A5m;have:=Q9 (src.2 _ (Fy ho)).1 k (Bl9 _ A5m);omega
   exact⟨k,_,hl,hρ k hno,(hr.objs k _ hl).Dc ht rfl (.inr (src.2 _ (Fy ho)).2),.inr (.inr ⟨rfl,hge,Ar3⟩)⟩
  have hm:=Gd hyl;rcases Bkw.1 hm with hm|hm
  ·obtain⟨vs,cs,ty,u,σ',e1,e2,rfl,e4,e5,e6⟩:=A0h hy hm;have Wh:k∈c.others:=Bla _ (Bla _ e5);refine⟨k,_,Ame e1,hρ k (Ar2 k Wh),?_,.inr (.inl ⟨rfl,Wh⟩)⟩;have:=hr.objs k _ (Ame e1);cases this with
   |cells _ _ arr T r1 r2 r3 r4 =>
    have pc:=Kq (g:=g) (g':=g') (w:=w) (ns:=ownNames c.own) (vs:=arr.toList) rfl hρ (e6 _ w8) e2 (fun n m hm=>hσ n m (by rw[← hτ];exact Bl9 _ (e4 _ hm))) (by
     intro i x v hx hv;exact r3 i x.a v (by rw[L5,hx];rfl) (by simpa using hv))
    refine .cells _ _ arr T r1 (by rw[Ag,pc.2,← Ag];exact r2) ?_ r4;intro i x v hx hv;rw[L5,Bky]at hx;obtain⟨z,hz,rfl⟩:=hx;exact pc.1 i z v hz (by simpa using hv)
  ·rcases Bkw.1 hm with hm|hm
   ·obtain⟨k0,q1,q2⟩:=A0j hu hm;obtain⟨_,t,u,rfl⟩:=Me hm;exact⟨k0,_,P3 q2,Bd0 _ _ q1,(hr.objs k0 _ (P3 q2)).Dc ht rfl (.inr (A23 _ _ _)),.inl q1⟩
   ·rcases Bkw.1 hm with hm|hm
    ·obtain⟨q1,q2⟩:=A0k hv hm;have Wh:k∈c.others:=Bla _ (Bl9 _ q2);exact⟨k,_,P3 q1,hρ k (Ar2 k Wh),(hr.objs k _ (P3 q1)).Dc ht rfl (.inr (Aah w9 hm)),.inr (.inl ⟨rfl,Wh⟩)⟩
    ·obtain⟨hk1,hk2⟩:=Nd hm;obtain⟨q1,z,q2,q3⟩:=k2 k hk1;have:=hi2 k hk1 z q1 q2;rw[hk2]at this;cases this;have hl:s.im.X.objs.lookup k=some y.o:=by show(A6 s.objs).lookup k=_;exact H7 q2
     have Wh:k∈c.others:=Bl9 _ hk1;exact⟨k,_,hl,hρ k (Ar2 k Wh),(hr.objs k _ hl).Dc ht rfl (.inr (Ai5 q3)),.inr (.inl ⟨rfl,Wh⟩)⟩
 refine⟨g',hs.defers,hs.size,?_,?_⟩
 ·refine⟨?_,hr.Ik,hr.base,hr.io,hr.le,hr.frame,?_,?_,?_,?_,?_,?_,?_,?_,?_,hr.eta.Asx (fun L hL=>?_) (Bl1 _) (fun n b hn=>?_) (fun k o hk=>?_)⟩
  rotate_right 3
  ·by_cases hk:L∈kl
   ·exact .inl ⟨by rw[← βkeep L hk];exact hL,ηkeep L hk⟩
   ·exact .inr (ηoff L hk)
  ·rcases βsrc n b hn with ⟨a1,a2⟩|⟨m,a1,a2⟩
   ·exact hr.eta.B5o a2
   ·exact hr.eta.B5o a2
  ·obtain⟨k0,p,hp,he,_⟩:=A1e k o hk;rw[he];exact hr.eta.B2h hp
  ·intro k hk;have Lk:=l6 k (Wk▸hk);refine⟨(hρ k (Ar2 k Lk)).trans (hr.Dc k hk).1,?_⟩;show((A6 (gen s0 c x).objs).lookup k).isSome=true;have key:k∈(gen s0 c x).objs.map (·.1):=by
    unfold gen;simp only[Ble,A6p,Y5,Bkw];unfold Cut.others at Lk;simp only[Bkw]at Lk;rcases Lk with (hm|hm)|hm
    ·exact .inl hm
    ·exact .inr (.inr (.inl hm))
    ·refine .inr (.inr (.inr ?_));obtain⟨q1,z,q2,q3⟩:=k2 k hm;have hz:=hi2 k hm z q1 q2;have:∀(l:A2 Nat),k∈l→k∈(Mb s0.objs l).map (·.1):=by
      intro l;induction l with
      |nil=>simp
      |cons j r ih =>
       intro hj;unfold Mb;rcases Bkq.1 hj with rfl|hj
       ·rw[hz];exact Bkz
       ·split
        ·exact Bkx _ (ih hj)
        ·exact ih hj
     exact this _ hm
   obtain⟨z,hz⟩:=Acy key;rw[P3 hz];rfl
  ·intro k o hk;obtain⟨k0,p,hp,he,ho,_⟩:=A1e k o hk;rw[he];exact ho
  ·intro k o hk;obtain⟨k0,p,hp,he,_⟩:=A1e k o hk;show g.γ (g'.ρ k)=0;rw[he];exact hr.Fx k0 p hp
  ·intro k k' o o' hk Lk he;obtain⟨k0,p,hp,e1,_,d1⟩:=A1e k o hk;obtain⟨k0',q,hq,e2,_,d2⟩:=A1e k' o' Lk;have he':g.ρ k0=g.ρ k0':=by rw[← e1,← e2];exact he
   have:=hr.C0 k0 k0' p q hp hq he';subst this;rcases d1 with d1|⟨d1,d1'⟩|⟨d1,d1',Bj1⟩<;>rcases d2 with d2|⟨d2,d2'⟩|⟨d2,d2',Bj2⟩
   ·have inj:∀(ν:A2 (Nat×Nat)),(ν.map (·.2)).Nodup→(k,k0)∈ν→(k',k0)∈ν→k=k':=by
     intro ν;induction ν with
     |nil=>intro _ h;simp at h
     |cons p r ih =>
      intro hnd h h';simp only[Bkv,Bm1]at hnd;rcases Bkq.1 h with z|z<;>rcases Bkq.1 h' with z'|z'
      ·subst z;cases z';rfl
      ·subst z;exact absurd (Bl2.2 ⟨_,z',rfl⟩) hnd.1
      ·subst z';exact absurd (Bl2.2 ⟨_,z,rfl⟩) hnd.1
      ·exact ih hnd.2 z z'
    exact inj ν w3 d1 d2
   ·subst d2;exact absurd d2' (w4 _ (Bl3 (f:=(·.2)) d1))
   ·subst d2;obtain⟨y,hy⟩:=Xi hu d1;have:=Bj2 _ _ hy;omega
   ·subst d1;exact absurd d1' (w4 _ (Bl3 (f:=(·.2)) d2))
   ·exact d1.symm.trans d2
   ·exact d1.symm.trans d2
   ·subst d1;obtain⟨y,hy⟩:=Xi hu d2;have:=Bj1 _ _ hy;omega
   ·exact d1.symm.trans d2
   ·exact d1.symm.trans d2
  ·intro k o hk;obtain⟨k0,p,hp,he,_⟩:=A1e k o hk;show B.n0≤g'.ρ k∨B.allowed (g'.ρ k);rw[he];exact hr.Ce k0 p hp
  ·intro n;show n∈c.Eb++Vl s0 c↔_;rw[Im];rw[Bkw];constructor
   ·rintro (hn|hn)
    ·have L0:=hn;rw[← B80]at L0;obtain⟨z,hz⟩:=Acy L0;cases z with
     |some m =>rw[βnew n m (Gd hz)];exact(hr.live m).1 (l3 m (Bla _ (Md.2 ⟨n,Gd hz⟩)))
     |none =>
      have Lk:inl n kl=false:=by
       cases hh:inl n kl with
       |false=>rfl
       |true=>exact absurd ((D3 _ _).1 hh) (n5c n hn)
      rw[hβ,Lk,hz];rfl
    ·rw[βkeep n hn];exact(hr.live n).1 (l3 n (Bl9 _ hn))
   ·intro hn;by_cases hk:n∈kl
    ·exact .inr hk
    ·by_cases hl:n∈c.Eb
     ·exact .inl hl
     ·rw[βother n hl hk]at hn;cases hn
  ·intro n m b hn hm;rcases βsrc n b hn with ⟨a1,a2⟩|⟨p,a1,a2⟩<;>rcases βsrc m b hm with ⟨b1,b2⟩|⟨q,b1,b2⟩
   ·exact hr.C4 n m b a2 b2
   ·have:=hr.C4 n q b a2 b2;subst this;exact absurd a1 (n4c n (Md.2 ⟨m,b1⟩))
   ·have:=hr.C4 p m b a2 b2;subst this;exact absurd b1 (n4c p (Md.2 ⟨n,a1⟩))
   ·have:=hr.C4 p q b a2 b2;subst this;exact A2u n4a a1 b1
  ·intro n b k o hn hk;obtain⟨k0,p,hp,he,_⟩:=A1e k o hk;rw[he];rcases βsrc n b hn with ⟨a1,a2⟩|⟨m,a1,a2⟩
   ·exact hr.Bo n b k0 p a2 hp
   ·exact hr.Bo m b k0 p a2 hp
  ·intro n b hn;rcases βsrc n b hn with ⟨a1,a2⟩|⟨m,a1,a2⟩
   ·exact hr.Ca n b a2
   ·exact hr.Ca m b a2
  ·intro n b hn;rcases βsrc n b hn with ⟨a1,a2⟩|⟨m,a1,a2⟩
   ·exact hr.Cd n b a2
   ·exact hr.Cd m b a2
 ·intro t y Yl;obtain⟨z,hz,rfl⟩:=B46 Yl;rcases Bkw.1 (Gd hz)with hm|hm
  ·obtain⟨v,z0,u,σ',e1,e2,rfl,e4,e5⟩:=Aaf hx hm;obtain⟨val,hv,T8⟩:=hs.env t z0.a (Ov e1);exact⟨val,hv,VK.A4p (g:=g) (g':=g') (w:=w) (ns:=ownNames c.own) e2 rfl hρ (e5 _ w7) (fun n m hm=>hσ n m (by rw[← hτ];exact Bla _ (e4 _ hm))) T8⟩
  ·rcases Bkw.1 hm with hm|hm
   ·rcases A0i hu hm with ⟨rfl,e1⟩|⟨n,k,ty,len,e1,e2,rfl⟩
    ·obtain⟨val,hv,T8⟩:=hs.env t _ (Ov e1);exact⟨val,hv,T8.mono ht (.d _)⟩
    ·obtain⟨val,hv,T8⟩:=hs.env t _ (Ov e2);exact⟨val,hv,RA.Auw T8 (Bd0 _ _ e1)⟩
   ·obtain⟨hk1,hk2⟩:=Xh hm;obtain⟨q1,z1,q2,q3⟩:=k1 t hk1;have:=hi1 t hk1 z1 q1 q2;rw[hk2]at this;cases this;obtain⟨val,hv,T8⟩:=hs.env t z.a (Ov q2);exact⟨val,hv,T8.mono ht (Ot q3)⟩
theorem Az0{nm kl:A2 Nat}{c:Cut}{s:Ad}{x:c.T}(h:proj nm kl c s=some x):(∀t∈c.Xd,t∉slotsOf c.vars++L7 c.own)∧∀k∈c.Od,k∉Ie c.objs++(ownNames c.own++Fk c.Qj):=by obtain⟨σ,τ0,ν,hx,hy,hu,hv,h1,h2,l3,l4,l5,l6,l7,l8,Bh0⟩:=Amz h;exact⟨l7,l8⟩
inductive An where
 |lf
 |seq (a b:An)
 |join (c:Cut) (a b:An)
 |cond (a b:An)
 |blk (a:An)
 |loop (c:Cut) (a:An)
 |stop
 |fg (a b:An)
 |fz (ts:List Nat) (a b:An)
 |alt (c:Cut) (a:An) (r:An)
 |rnd (a:An) (r:An)
 |sel (k:Nat) (a b:An)
def An.l:An→An
 |.seq a _=>a
 |.cond a _=>a
 |.blk a=>a
 |.join _ a _=>a
 |.loop _ a=>a
 |.lf=>.lf
 |.stop=>.lf
 |.fg a _=>a
 |.fz _ a _=>a
 |.alt _ a _=>a
 |.rnd a _=>a
 |.sel _ a _=>a
def An.r:An→An
 |.seq _ b=>b
 |.cond _ b=>b
 |.join _ _ b=>b
 |_=>.lf
def Az1{R:Type}:An→A3 R→A3 R
 |.stop,_=>none
 |_,x=>x
theorem Aek{R:Type}{an:An}{x:A3 R}{r:R}(h:Az1 an x=some r):x=some r:=by cases an<;>first|exact h|cases h
def iter{σ:Type}{R:Type}(f:(σ→A3 R)→σ→A3 R):Nat→σ→A3 R
 |0,_=>none
 |n+1,x=>f (iter f n) x
def Bw{σ:Type}{R:Type}(k:σ→A3 R)(f:(σ→A3 R)→A3 R):A3 R:=f k
def S6{R:Type}:(l:A2 (Tmp×Nat×Ty))→A5q l→(A5q l→A3 R)→A3 R
 |[],u,K=>K u
 |_::r,u,K=>A4 u.1 (S6 r u.2 fun v=>K (none,v)) (fun y=>S6 r u.2 fun v=>K (some y,v))
theorem Mf{R:Type}:∀(l:A2 (Tmp×Nat×Ty)) (u:A5q l) (K:A5q l→A3 R),S6 l u K=K u
 |[],u,K=>rfl
 |p::r,u,K=>by
  obtain⟨a,v⟩:=u;unfold S6;cases a with
  |none=>exact Mf r v _
  |some y=>exact Mf r v _
def fzK{R:Type}:A2 Nat→Ad→(Ad→A3 R)→A3 R
 |[],s,K=>K s
 |t::ts,s,K=>match lk t s.env with
  |some (.os k ty a n)=>match lk k s.objs with
   |some (.arr u l)=>cond (u.Ji ty) (cond (Nat.ble 1000 k) (cond (cond (Nat.ble (a+n) l.length) (H8 k s.objs) false)
     (fzK ts ⟨(t,.d (.sl u ((l.drop a).take n)))::s.env,Df k s.objs,s.live,t::s.wl,k::s.ol⟩ K) none) none) none
   |_=>none
  |_=>fzK ts s K
def B81(i j:Nat):Bool:=Nat.beq i j
def base(st:Ad):Ad:=⟨st.env,st.objs,st.live,[],[]⟩
def Ts(c:Cut)(st s:Ad):Ad:=⟨s.env,s.objs,s.live,s.wl++((slotsOf c.vars++L7 c.own)++st.wl),s.ol++((Ie c.objs++(ownNames c.own++Fk c.Qj))++st.ol)⟩
def A7o(st s:Ad):Ad:=⟨s.env,s.objs,s.live,s.wl++st.wl,s.ol++st.ol⟩
section
variable(P:Program)(Γ:A2 (Ga P))(own nm:A2 Nat)(nt N:Nat){R:Type}
def Iz(f:Ad→A3 R)(K:Exit→Ad→A3 R):Exit→Ad→A3 R
 |.normal,s=>f s
 |e,s=>K e s
def B1f(id:Nat)(K:Exit→Ad→A3 R):Exit→Ad→A3 R
 |.exit j,s=>cond (B81 j id) (K .normal s) (K (.exit j) s)
 |e,s=>K e s
def Ql{α β γ:Type}(x:α ⊕ β)(f:α→γ)(g:β→γ):γ :=
 match x with
 |.inl a=>f a
 |.inr b=>g b
@[reducible] def An.MT:An→Type
 |.alt c _ r=>c.T ⊕ r.MT
 |.loop c _=>c.T
 |_=>Empty
def An.Ayt:An→A2 Cut
 |.alt c _ r=>c::r.Ayt
 |.loop c _=>[c]
 |_=>[]
def B1g(c:Cut):A2 Cut→Bool
 |[]=>true
 |d::r=>cond (apart c.Xd (slotsOf d.vars++L7 d.own)) (cond (apart c.Od (Ie d.objs++(ownNames d.own++Fk d.Qj))) (B1g c r) false) false
def Ar4(all:A2 Cut):A2 Cut→Bool
 |[]=>true
 |c::r=>cond (B1g c all) (Ar4 all r) false
def An0(nm:A2 Nat)(st s:Ad):(an:An)→Option an.MT
 |.alt c _ r=>match proj nm (Vl (base st) c) c s with
  |some z=>some (.inl z)
  |none=>match An0 nm st s r with
   |some z=>some (.inr z)
   |none=>none
 |.loop c _=>proj nm (Vl (base st) c) c s
 |.lf=>none
 |.seq _ _=>none
 |.join _ _ _=>none
 |.cond _ _=>none
 |.blk _=>none
 |.stop=>none
 |.fg _ _=>none
 |.fz _ _ _=>none
 |.rnd _ _=>none
 |.sel _ _ _=>none
def Az2{R:Type}(E:An→Ad→(Exit→Ad→A3 R)→A3 R)(Ale:Ad→A3 R)(st:Ad)(K:Exit→Ad→A3 R):(an:An)→an.MT→A3 R
 |.alt c x r,z=>Ql z (fun z=>S6 c.own z.2.2.1 fun u=>E x (gen (base st) c (z.1,z.2.1,u,z.2.2.2)) (Iz Ale (fun e s=>K e (Ts c st s)))) (fun z=>Az2 E Ale st K r z)
 |.loop c x,z=>S6 c.own z.2.2.1 fun u=>E x (gen (base st) c (z.1,z.2.1,u,z.2.2.2)) (Iz Ale (fun e s=>K e (Ts c st s)))
 |.lf,_=>none
 |.seq _ _,_=>none
 |.join _ _ _,_=>none
 |.cond _ _,_=>none
 |.blk _,_=>none
 |.stop,_=>none
 |.fg _ _,_=>none
 |.fz _ _ _,_=>none
 |.rnd _ _,_=>none
 |.sel _ _ _,_=>none
def rounds{R:Type}(E:An→Ad→(Exit→Ad→A3 R)→A3 R)(K:Exit→Ad→A3 R):An→Ad→A3 R
 |.rnd a r,st=>E a st (Iz (fun s=>rounds E K r s) K)
 |.lf,_=>none
 |.seq _ _,_=>none
 |.join _ _ _,_=>none
 |.cond _ _,_=>none
 |.blk _,_=>none
 |.stop,_=>none
 |.fg _ _,_=>none
 |.fz _ _ _,_=>none
 |.loop _ _,_=>none
 |.alt _ _ _,_=>none
 |.sel _ _ _,_=>none
def Bj6(k:Nat)(l:A2 (Nat×Ac)):Bool:=match lk k l with|some _=>true|none=>false
def Bd1(l:A2 (Nat×Ac)):An→An
 |.sel k a b=>cond (Bj6 k l) a b
 |a=>a
def An.Bba:An→Nat
 |.rnd _ r=>r.Bba+1
 |_=>0
def Ar5(x:Operand)(b:Bool)(st:Ad):Ad :=
 match x with
 |.tmp t=>Jz t b st
 |_=>st
def exec:Code→An→Ad→(Exit→Ad→A3 R)→A3 R
 |.skip,_,st,K=>K .normal st
 |.label _,_,st,K=>K .normal st
 |.exit id,_,st,K=>K (.exit id) st
 |.ret,_,st,K=>K .ret st
 |.region _ ops draw,_,st,K=>A2p P Γ own nt ops draw st.env (K .normal) ops.toList [] st
 |.seq a b,an,st,K =>
  match an with
  |.join c x y =>
   Bw (fun z=>S6 c.own z.2.2.1 fun u=>exec b y (Ts c st (gen (base st) c (z.1,z.2.1,u,z.2.2.2))) K)
    (fun k=>exec a x (base st) (Iz (fun s=>Option.bind (proj nm (Vl (base st) c) c s) k) (fun e s=>K e (A7o st s))))
  |.fg x y=>exec a x st (Iz (fun s=>exec b y (B7l s) K) K)
  |.fz ts x y=>exec a x st (Iz (fun s=>fzK ts s fun s'=>exec b y s' K) K)
  |_=>exec a an.l st (Iz (fun s=>exec b an.r s K) K)
 |.cond c a b,an,st,K =>
  match Av st c with
  |some (.d (.b v))=>cond v (Az1 an.l (exec a an.l (Ar5 c true st) K)) (Az1 an.r (exec b an.r (Ar5 c false st) K))
  |_=>none
 |.block id c,an,st,K=>exec c an.l st (B1f id K)
 |.loop b,an,st,K =>
  match Bd1 st.objs an with
  |.rnd x y=>rounds (exec b) K (.rnd x y) st
  |.alt c x r=>cond (Ar4 (An.alt c x r).Ayt (An.alt c x r).Ayt) (Option.bind (An0 nm st (base st) (.alt c x r)) (iter (fun rec z=>Az2 (exec b) (fun s=>Option.bind (An0 nm st s (.alt c x r)) rec) st K (.alt c x r) z) N)) none
  |.loop c x=>Option.bind (proj nm (Vl (base st) c) c (base st)) (iter (fun rec z=>S6 c.own z.2.2.1 fun u=>exec b x (gen (base st) c (z.1,z.2.1,u,z.2.2.2)) (Iz (fun s=>Option.bind (proj nm (Vl (base st) c) c s) rec) (fun e s=>K e (Ts c st s)))) N)
  |_=>none
 |_,_,_,_=>none
end
section
variable{P:Program}{Γ:A2 (Ga P)}{own nm:A2 Nat}{N:Nat}{R:Type}
def Aux(s0:Ad)(K:Exit→Ad→A3 R)(r:R):Exit→St→Prop:=fun e s=>∃Bq,s=Bq.im∧Inv s0 Bq∧K e Bq=some r
theorem Aaj{t:Nat}{y:XV}:∀(l:A2 (Tmp×VK)) (x:Ai1 l),(t,y)∈Xe l x→t∈slotsOf l
 |[],x,h=>by simp[Xe]at h
 |p::r,x,h=>by
  simp only[Xe,Bkq]at h;simp only[slotsOf,Bkq];rcases h with h|h
  ·cases h;exact .inl rfl
  ·exact .inr (Aaj r _ h)
theorem Aak{t:Nat}{y:XV}:∀(l:A2 (Tmp×Nat×Ty)) (x:A5q l),(t,y)∈U8 l x→t∈L7 l
 |[],x,h=>by simp[U8]at h
 |p::r,x,h=>by
  simp only[U8,Bkq]at h;simp only[L7,Bkq];rcases h with h|h
  ·cases h;exact .inl rfl
  ·exact .inr (Aak r _ h)
theorem Aal{k:Nat}{y:Ac}:∀(l:A2 (Nat×A2 VK×A3 TypeId)) (x:Aee l),(k,y)∈Qk l x→k∈Ie l
 |[],x,h=>by simp[Qk]at h
 |p::r,x,h=>by
  simp only[Qk,Bkq]at h;simp only[Ie,Bkq];rcases h with h|h
  ·cases h;exact .inl rfl
  ·exact .inr (Aal r _ h)
theorem Az3{s0:Ad}{c:Cut}{x:c.T}{t:Nat}{y:XV}(h:lk t (gen s0 c x).env=some y):t∈slotsOf c.vars++L7 c.own∨lk t s0.env=some y:=by
 rcases Bkw.1 (Gd h)with hm|hm
 ·exact .inl (Bla _ (Aaj _ _ hm))
 ·rcases Bkw.1 hm with hm|hm
  ·exact .inl (Bl9 _ (Aak _ _ hm))
  ·exact .inr (Xh hm).2
theorem Ar6{s0:Ad}{c:Cut}{x:c.T}{t:Nat}{y:Ac}(h:lk t (gen s0 c x).objs=some y):t∈Ie c.objs++(ownNames c.own++Fk c.Qj)∨lk t s0.objs=some y:=by
 rcases Bkw.1 (Gd h)with hm|hm
 ·exact .inl (Bla _ (Aal _ _ hm))
 ·rcases Bkw.1 hm with hm|hm
  ·exact .inl (Bl9 _ (Bla _ (Me hm).1))
  ·rcases Bkw.1 hm with hm|hm
   ·exact .inl (Bl9 _ (Bl9 _ (by rw[← Y5];exact Bl3 (f:=(·.1)) hm)))
   ·exact .inr (Nd hm).2
theorem Inv.Ts{s0 st s:Ad}{c:Cut}{x:c.T}(h:Inv s0 st)(h':Inv (gen (base st) c x) s):Inv s0 (Ts c st s):=by
 refine⟨fun t y ht hy=>?_,fun k y hk hy=>?_⟩
 ·unfold Xl.Ts at ht hy;simp only at ht hy;rw[Bkw,Bkw (s:=slotsOf c.vars++L7 c.own),Bop,Bop]at ht;have h1:=h'.env t y ht.1 hy;rcases Az3 h1 with h2|h2
  ·exact absurd h2 ht.2.1
  ·exact h.env t y ht.2.2 h2
 ·unfold Xl.Ts at hk hy;simp only at hk hy;rw[Bkw,Bkw (s:=Ie c.objs++(ownNames c.own++Fk c.Qj)),Bop,Bop]at hk;have h1:=h'.objs k y hk.1 hy;rcases Ar6 h1 with h2|h2
  ·exact absurd h2 hk.2.1
  ·exact h.objs k y hk.2.2 h2
theorem Inv.A7o{s0 st s:Ad}(h:Inv s0 st)(h':Inv (base st) s):Inv s0 (A7o st s):=by
 refine⟨fun t y ht hy=>?_,fun k y hk hy=>?_⟩
 ·simp only[Xl.A7o,Bkw,Bop]at ht hy;exact h.env t y ht.2 (h'.env t y ht.1 hy)
 ·simp only[Xl.A7o,Bkw,Bop]at hk hy;exact h.objs k y hk.2 (h'.objs k y hk.1 hy)
theorem Inv.fg{s0 s:Ad}(h:Inv s0 s):Inv s0 (B7l s):=by
 refine⟨h.env,fun k x hk hx=>?_⟩;simp only[B7l,Bkw,Bop]at hk hx;rw[B15]at hx;cases hl:lk k s.objs with
 |none=>rw[hl]at hx;cases hx
 |some o =>
  rw[hl]at hx;simp only[Blq,Bks]at hx;cases hm:Acq o with
  |true=>exact absurd (Aeb hl hm) hk.1
  |false =>rw[Ahu hm]at hx;subst hx;exact h.objs k o hk.2 hl
theorem Ar7{S:Sig}{R:Type}{K:Ad→A3 R}{r:R}{s0:Ad}:∀(ts:A2 Nat) (s:Ad),Inv s0 s→fzK ts s K=some r →
  ∃s',K s'=some r∧Inv s0 s'∧∀(B:Bl) (g:Gh) (w:World) (a:Act),SR S B g w s.im a→∃g',SR S B g' w s'.im a
 |[],s,hi,h=>⟨s,h,hi,fun B g w a hs=>⟨g,hs⟩⟩
 |t::ts,s,hi,h=>by
  unfold fzK at h;split at h
  ·rename_i k ty a n ht;split at h
   ·rename_i u l hk;cases h1:u.Ji ty with
    |false=>simp[h1]at h
    |true =>
    cases h2:Nat.ble 1000 k with
    |false=>simp[h1,h2]at h
    |true =>
    cases h4:cond (Nat.ble (a+n) l.length) (H8 k s.objs) false with
    |false=>simp[h1,h2,h4]at h
    |true =>
     obtain⟨h3,h5⟩:=Agz h4;simp only[h1,h2,h4,Bkn]at h;have e1:=Ty.Au h1;subst e1;have e2:=Bl5 h2;have e3:=Bl5 h3;have Lp:Inv s0 ⟨(t,.d (.sl u ((l.drop a).take n)))::s.env,Df k s.objs,s.live,t::s.wl,k::s.ol⟩:=by
      refine⟨fun t' x ht' hx=>?_,fun k' x Lk hx=>?_⟩
      ·simp only[Bkq,Bop]at ht';rw[Cq ht'.1]at hx;exact hi.env t' x ht'.2 hx
      ·simp only[Bkq,Bop]at Lk;exact hi.objs k' x Lk.2 (Sf hx)
     obtain⟨s',q1,q2,q3⟩:=Ar7 ts _ Lp h;refine⟨s',q1,q2,fun B g w act hs=>?_⟩;have Wk:k∉S.names:=fun hm=>by have:=S.small k hm;omega
     have ho:s.im.X.objs.lookup k=some (.cells ((l.map u.ds).flatten.map .d) none):=P3 hk;obtain⟨f1,f2,f3⟩:=hs.hr.freeze (k:=k) (sz:=u.size) (es:=l.map u.ds) Wk ho (by
      intro i cs Q2;rw[Bkt,Bky]at Q2;obtain⟨x,_,rfl⟩:=Q2;exact u.Cf x)
     have hX:Ab.B1 k s.im.X=⟨A6 (Df k s.objs),s.live⟩:=by rw[Qc h5];rfl
     rw[hX]at f1;refine q3 B _ w act ⟨hs.defers,hs.size,f1,?_⟩;intro t' x hx;have hx:(E0 ((t,.d (.sl u ((l.drop a).take n)))::s.env)).lookup t'=some x:=hx;rw[A78]at hx;by_cases he:t'=t
     ·subst he;simp only[G1,Bob,Bkn,Blq,Bks]at hx;subst hx;obtain⟨v,hv,hr⟩:=hs.env t' (XV.os k u a n).a (by
       show(E0 s.env).lookup t'=_;rw[A78,ht];rfl)
      refine⟨v,hv,?_⟩;have:=f3 a n v (by simpa using e3) hr;rw[← Boi,← Bo5]at this;exact this
     ·rw[Cq he,← A78]at hx;obtain⟨v,hv,hr⟩:=hs.env t' x hx;exact⟨v,hv,hr.mono f2 (.nil _)⟩
   ·cases h
  ·exact Ar7 ts s hi h
theorem An1{S:Sig}{st:Ad}{x:Operand}{b:Bool}{s0:Ad}(hx:Av st x=some (.d (.b b)))(hi:Inv s0 st) :
  Inv s0 (Ar5 x b st)∧∀(B:Bl) (g:Gh) (w:World) (a:Act),SR S B g w st.im a→SR S B g w (Ar5 x b st).im a:=by
 cases x with
 |tmp t =>replace hx:=(Dy hx).2;exact⟨hi.Aqw hx,fun B g w a h=>h.known (Ov hx)⟩
 |const v=>exact⟨hi,fun _ _ _ _ h=>h⟩
 |func f=>exact⟨hi,fun _ _ _ _ h=>h⟩
 |global g=>exact⟨hi,fun _ _ _ _ h=>h⟩
theorem Ai9(ops:Array Oper):∀(j:Nat) o,ops.toList[j]? = some o→ops[0+j]? = some o:=by intro j o h;rw[Blx];simpa using h
theorem A7p{S:Sig}{c:Code}{Q Q':Exit→St→Prop}{st:St}(h:AWp P S c Q st)(hq:∀e s,Q e s→∀(B:Bl) (g:Gh) (w:World) (a:Act),SR S B g w s a→∃s' g',Q' e s'∧SR S B g' w s' a):AWp P S c Q' st:=by intro B g w a hs;refine Bpd (h B g w a hs) ?_;rintro e a' w' ⟨s,g',q,H4⟩;exact hq e s q B g' w' a' H4
theorem Aia{c:Cut}:∀ {l:A2 Cut},B1g c l=true→∀d∈l,(∀t∈c.Xd,t∉slotsOf d.vars++L7 d.own)∧∀k∈c.Od,k∉Ie d.objs++(ownNames d.own++Fk d.Qj)
 |[],_,d,hd=>by cases hd
 |e::r,h,d,hd=>by
  obtain⟨h1,h⟩:=Ap h;obtain⟨h2,h⟩:=Ap h;rcases Bkq.1 hd with rfl|hd
  ·exact⟨apart_spec h1,apart_spec h2⟩
  ·exact Aia h d hd
theorem Ael{all:A2 Cut}:∀ {l:A2 Cut},Ar4 all l=true→∀c∈l,B1g c all=true
 |[],_,c,hc=>by cases hc
 |e::r,h,c,hc=>by
  obtain⟨h1,h⟩:=Ap h;rcases Bkq.1 hc with rfl|hc
  ·exact h1
  ·exact Ael h c hc
structure B82(nm:List Nat)(st:Ad)(an:An)(z:an.MT)(c:Cut)(x:An)(y:c.T):Prop where
 mem:c∈an.Ayt
 run:∀(R:Type) (E:An→Ad→(Exit→Ad→Option R)→Option R) (Ale:Ad→Option R) (K:Exit→Ad→Option R),Az2 E Ale st K an z=E x (gen (base st) c y) (Iz Ale (fun e s=>K e (Ts c st s)))
theorem Aib{nm:A2 Nat}{st s:Ad}:∀(an:An) (z:an.MT),An0 nm st s an=some z→∃c x y,proj nm (Vl (base st) c) c s=some y∧B82 nm st an z c x y
 |.alt c x r,z,h=>by
  unfold An0 at h;split at h
  ·rename_i y hy;cases h;exact⟨c,x,y,hy,⟨Bkz,fun R E Ale K=>by simp only[Az2,Ql];exact Mf _ _ _⟩⟩
  ·split at h
   ·rename_i w hw;cases h;obtain⟨c',x',y,h1,h2⟩:=Aib r w hw;exact⟨c',x',y,h1,⟨Bkx _ h2.mem,fun R E Ale K=>by simp only[Az2,Ql];exact h2.run R E Ale K⟩⟩
   ·cases h
 |.loop c x,z,h=>⟨c,x,z,h,⟨Bkz,fun R E Ale K=>by simp only[Az2];exact Mf _ _ _⟩⟩
 |.lf,_,h=>by cases h
 |.seq _ _,_,h=>by cases h
 |.join _ _ _,_,h=>by cases h
 |.cond _ _,_,h=>by cases h
 |.blk _,_,h=>by cases h
 |.stop,_,h=>by cases h
 |.fg _ _,_,h=>by cases h
 |.fz _ _ _,_,h=>by cases h
 |.rnd _ _,_,h=>by cases h
 |.sel _ _ _,_,h=>by cases h
theorem Ro(hm:P.follows .mixedOrders=true){S:Sig}(Wk:S.names=nm):∀(c:Code) (an:An) (st s0:Ad) (K:Exit→Ad→A3 R) (r:R),Inv s0 st →
  exec P Γ own nm S.N N c an st K=some r→AWp P S c (Aux s0 K r) st.im:=by
 intro c;induction c with
 |skip=>intro an st s0 K r hi h;exact B5p ⟨st,rfl,hi,h⟩
 |label l=>intro an st s0 K r hi h;exact B2i ⟨st,rfl,hi,h⟩
 |exit id=>intro an st s0 K r hi h;exact B5q ⟨st,rfl,hi,h⟩
 |ret=>intro an st s0 K r hi h;exact Ba1 ⟨st,rfl,hi,h⟩
 |region id ops draw =>
  intro an st s0 K r hi h;simp only[exec]at h;cases draw with
  |false =>have:=Afz (S:=S) ops.toList 0 [] st (Ai9 ops) hi h;refine Bdt (n:=ops.toList.length) (by simp) ?_;rw[Bqe];exact this
  |true =>have:=Aqx (S:=S) ops.toList 0 [] st (Ai9 ops) hi h;exact Bdu ops.toList.length hm this
 |seq a b iha ihb =>
  intro an st s0 K r hi h;have plain:exec P Γ own nm S.N N a an.l st (Iz (fun s=>exec P Γ own nm S.N N b an.r s K) K)=some r→AWp P S (.seq a b) (Aux s0 K r) st.im:=by
   intro h;refine Afq (A1p (iha _ st s0 _ r hi h) ?_);rintro e s ⟨Bq,rfl,Lp,hk⟩;cases e with
   |normal=>exact ihb _ Bq s0 K r Lp hk
   |_=>exact⟨Bq,rfl,Lp,hk⟩
  unfold exec at h;split at h
  ·rename_i cut x y;unfold Bw at h;refine Afq (A1p (iha x (base st) (base st) _ r (.refl _) h) ?_);rintro e s ⟨Bq,rfl,Lp,hk⟩;cases e with
   |normal =>simp only[Iz,Blr]at hk;obtain⟨z,hz,hk⟩:=hk;rw[Mf]at hk;intro B g w act hs;obtain⟨g',H4⟩:=Uu (s0:=base st) hz (fun t _=>Lp.env t) (fun k _=>Lp.objs k) hs Wk;refine ihb y (Ts cut st (gen (base st) cut z)) s0 K r (hi.Ts (.refl _)) hk B g' w act H4
   |_=>exact⟨A7o st Bq,rfl,hi.A7o Lp,hk⟩
  ·rename_i x y;refine Afq (A1p (iha x st s0 _ r hi h) ?_);rintro e s ⟨Bq,rfl,Lp,hk⟩;cases e with
   |normal=>exact fun B g w act hs=>ihb y (B7l Bq) s0 K r Lp.fg hk B g w act (SR.fg hs)
   |_=>exact⟨Bq,rfl,Lp,hk⟩
  ·rename_i ts x y;refine Afq (A1p (iha x st s0 _ r hi h) ?_);rintro e s ⟨Bq,rfl,Lp,hk⟩;cases e with
   |normal =>obtain⟨s',q1,q2,q3⟩:=Ar7 (S:=S) ts Bq Lp hk;exact fun B g w act hs=>let ⟨g',H4⟩:=q3 B g w act hs;ihb y s' s0 K r q2 q1 B g' w act H4
   |_=>exact⟨Bq,rfl,Lp,hk⟩
  ·exact plain h
 |cond c a b iha ihb =>
  intro an st s0 K r hi h;unfold exec at h;split at h
  ·rename_i v hv;have A98:=Aj hv;refine B5r (b:=v) A98 (fun hb=>?_) (fun hb=>?_)
   ·subst hb;simp only[Bkn]at h;replace h:=Aek h;obtain⟨k1,k2⟩:=An1 (S:=S) hv hi;intro B g w act hs;exact iha _ _ s0 K r k1 h B g w act (k2 B g w act hs)
   ·subst hb;simp only[Bko]at h;replace h:=Aek h;obtain⟨k1,k2⟩:=An1 (S:=S) hv hi;intro B g w act hs;exact ihb _ _ s0 K r k1 h B g w act (k2 B g w act hs)
  ·cases h
 |block id c ih =>
  intro an st s0 K r hi h;simp only[exec]at h;refine B2j (A1p (ih _ st s0 _ r hi h) ?_);rintro e s ⟨Bq,rfl,Lp,hk⟩;cases e with
  |exit j =>
   simp only[B1f,B81]at hk;simp only[Awx];cases hb:Nat.beq j id with
   |true =>simp only[hb,Bkn]at hk;rw[Blv (Bkr hb)];exact⟨Bq,rfl,Lp,hk⟩
   |false =>simp only[hb,Bko]at hk;rw[Blj (Bmw hb)];exact⟨Bq,rfl,Lp,hk⟩
  |_=>exact⟨Bq,rfl,Lp,hk⟩
 |loop b ih =>
  intro an st s0 K r hi h;unfold exec at h;generalize Bd1 st.objs an=an at h;split at h
  ·rename_i x0 y0;generalize An.rnd x0 y0=all at h;refine Ag7 (fun n s=>∃an Bq,an.Bba=n∧Inv s0 Bq∧rounds (fun an st K=>exec P Γ own nm S.N N b an st K) K an Bq=some r∧s=Bq.im) all.Bba ⟨all,st,rfl,hi,h,rfl⟩ ?_;rintro n s ⟨an,Bq,hn,Lp,hr,rfl⟩;cases an with
   |rnd x y =>
    refine A7p (ih x Bq s0 _ r Lp hr) ?_;rintro e s ⟨st2,rfl,hi2,hk⟩ B g w act hs;cases e with
    |normal=>exact⟨_,g,⟨y.Bba,by rw[← hn];exact Boc _,y,st2,rfl,hi2,hk,rfl⟩,hs⟩
    |_=>exact⟨_,g,⟨st2,rfl,hi2,hk⟩,hs⟩
   |_=>cases hr
  ·rename_i Bj7 x0 r0;generalize hall:An.alt Bj7 x0 r0=all at h;cases hap:Ar4 all.Ayt all.Ayt with
   |false=>rw[hap]at h;cases h
   |true =>
   rw[hap,Bkn]at h;obtain⟨z0,hz0,h⟩:=Blr.1 h;obtain⟨cut,x,y0,hy0,hat⟩:=Aib all z0 hz0;intro B g w act hs;obtain⟨g',H4⟩:=Uu (s0:=base st) hy0 (fun _ _ _ _ h=>h) (fun _ _ _ _ h=>h) hs Wk;generalize hf:(fun(rec:all.MT→A3 R) (z:all.MT)=>Az2 (fun an st K=>exec P Γ own nm S.N N b an st K) (fun s=>Option.bind (An0 nm st s all) rec) st K all z)=f at h;have key:∀(n:Nat) (z:all.MT) (cut:Cut) (x:An) (y:cut.T),B82 nm st all z cut x y→iter f n z=some r→AWp P S (.loop b) (Aux s0 K r) (gen (base st) cut y).im:=by
    intro n z cut x y hat hn;refine Ag7 (fun n s=>∃z cut x,∃y:cut.T,B82 nm st all z cut x y∧iter f n z=some r∧s=(gen (base st) cut y).im) n ⟨z,cut,x,y,hat,hn,rfl⟩ ?_;rintro n s ⟨z,cut,x,y,hat,hn,rfl⟩;cases n with
    |zero=>simp[iter]at hn
    |succ n =>
     simp only[iter]at hn;rw[← hf]at hn;replace hn:=(hat.run R _ _ _).symm.trans hn;refine A7p (ih x _ (gen (base st) cut y) _ r (.refl _) hn) ?_;rintro e s ⟨Bq,rfl,Lp,hk⟩ B g w act hs;cases e with
     |normal =>simp only[Iz,Blr]at hk;obtain⟨z',hz',hk⟩:=hk;obtain⟨Bh4,x',y',hy',Bh5⟩:=Aib all z' hz';obtain⟨ap1,ap2⟩:=Aia (Ael hap Bh4 Bh5.mem) cut hat.mem;obtain⟨g',H4⟩:=Uu (s:=Bq) (s0:=base st) hy' (fun t ht y hw hy=>(Az3 (Lp.env t y hw hy)).resolve_left (ap1 t ht)) (fun k hk y hw hy=>(Ar6 (Lp.objs k y hw hy)).resolve_left (ap2 k hk)) hs Wk;exact⟨_,g',⟨n,Boc n,z',Bh4,x',y',Bh5,by rw[hf]at hk;exact hk,rfl⟩,H4⟩
     |_=>exact⟨_,g,⟨Ts cut st Bq,rfl,hi.Ts Lp,hk⟩,hs⟩
   exact key N z0 cut x y0 hat h B g' w act H4
  ·rename_i cut x;obtain⟨z0,hz0,h⟩:=Blr.1 h;intro B g w act hs;obtain⟨g',H4⟩:=Uu (s0:=base st) hz0 (fun _ _ _ _ h=>h) (fun _ _ _ _ h=>h) hs Wk;generalize hf:(fun(rec:cut.T→A3 R) (z:cut.T)=>S6 cut.own z.2.2.1 fun u=>exec P Γ own nm S.N N b x (gen (base st) cut (z.1,z.2.1,u,z.2.2.2)) (Iz (fun s=>Option.bind (proj nm (Vl (base st) cut) cut s) rec) (fun e s=>K e (Ts cut st s))))=f at h;have key:∀(n:Nat) (z:cut.T),iter f n z=some r→AWp P S (.loop b) (Aux s0 K r) (gen (base st) cut z).im:=by
    intro n z hn;refine Ag7 (fun n s=>∃z,iter f n z=some r∧s=(gen (base st) cut z).im) n ⟨z,hn,rfl⟩ ?_;rintro n s ⟨z,hn,rfl⟩;cases n with
    |zero=>simp[iter]at hn
    |succ n =>
     simp only[iter]at hn;rw[← hf]at hn;replace hn:=(Mf _ _ _).symm.trans hn;refine A7p (ih x _ (gen (base st) cut z) _ r (.refl _) hn) ?_;rintro e s ⟨Bq,rfl,Lp,hk⟩ B g w act hs;cases e with
     |normal =>simp only[Iz,Blr]at hk;obtain⟨z',hz',hk⟩:=hk;obtain⟨ap1,ap2⟩:=Az0 hz';obtain⟨g',H4⟩:=Uu (s:=Bq) (s0:=base st) hz' (fun t ht y hw hy=>(Az3 (Lp.env t y hw hy)).resolve_left (ap1 t ht)) (fun k hk y hw hy=>(Ar6 (Lp.objs k y hw hy)).resolve_left (ap2 k hk)) hs Wk;exact⟨_,g',⟨n,Boc n,z',by rw[hf]at hk;exact hk,rfl⟩,H4⟩
     |_=>exact⟨_,g,⟨Ts cut st Bq,rfl,hi.Ts Lp,hk⟩,hs⟩
   exact key N z0 h B g' w act H4
  ·cases h
 |_ =>
  intros
  simp_all [exec]
end
end Go.Xl
abbrev A0:Go.Xl.Ty:=.int .i64
abbrev A1:Go.Xl.An→Go.Xl.An:=.seq .lf
namespace Go.Xl
open Go.Ab
@[reducible] def C1:A2 Ty→Type→Type
 |[],R=>R
 |t::r,R=>t.T→C1 r R
@[reducible] def B6:A2 Ty→Type
 |[]=>Unit
 |[t]=>t.T
 |t::u::r=>t.T×B6 (u::r)
def Az4:(ts:A2 Ty)→B6 ts→A2 XV
 |[],_=>[]
 |[t],x=>[.d (t.xv x)]
 |t::u::r,x=>.d (t.xv x.1)::Az4 (u::r) x.2
def L8:A2 XV→XV
 |[x]=>x
 |l=>.E2 l
def Tt(ts:A2 Ty)(x:B6 ts):XV:=L8 (Az4 ts x)
theorem Qm(l:A2 XV):(L8 l).a=Zu (A9 l):=by
 cases l with
 |nil=>rfl
 |cons x r=>cases r<;>rfl
def Y6:(ts:A2 Ty)→A2 XV→A3 (B6 ts)
 |[],[]=>some ()
 |[t],[x]=>Aqy t x
 |t::u::r,x::xs=>match Aqy t x,Y6 (u::r) xs with
  |some y,some ys=>some (y,ys)
  |_,_=>none
 |_,_=>none
inductive Ra:List AV→List AV→Prop
 |nil:Ra [] []
 |cons {x y:AV} {r s:List AV}:Wn x y→Ra r s→Ra (x::r) (y::s)
theorem Ra.length{a b:A2 AV}(h:Ra a b):a.length=b.length:=by
 induction h with
 |nil=>rfl
 |cons _ _ ih=>simp[ih]
theorem Ra.get{a b:A2 AV}(h:Ra a b):∀ {i:Nat} {y:AV},b[i]? = some y→∃x,a[i]? = some x∧Wn x y:=by
 induction h with
 |nil=>intro i y hy;simp at hy
 |cons h1 _ ih =>
  intro i y hy;cases i with
  |zero=>simp at hy;subst hy;exact⟨_,rfl,h1⟩
  |succ i=>simp at hy;simpa using ih hy
theorem Ra.E2{a b:A2 AV}(h:Ra a b):Wn (.E2 a) (.E2 b):=by
 intro g w v hr;cases hr with
 |E2 _ vs hl hc =>
  refine .E2 b vs (h.length▸hl) fun i c u hb hu=>?_
  obtain⟨x,hx,hle⟩:=h.get hb;exact hle _ _ _ (hc i x u hx hu)
theorem An2:∀ {ts:A2 Ty} {xs:A2 XV} {y:B6 ts},Y6 ts xs=some y→Ra (A9 xs) (A9 (Az4 ts y))
 |[],xs,y,h=>by
  cases xs with
  |nil=>exact .nil
  |cons _ _=>simp[Y6]at h
 |[t],xs,y,h=>by
  cases xs with
  |nil=>simp[Y6]at h
  |cons x r =>
   cases r with
   |nil=>exact .cons (Amy h) .nil
   |cons _ _=>simp[Y6]at h
 |t::u::r,xs,y,h=>by
  cases xs with
  |nil=>simp[Y6]at h
  |cons x xs =>
   simp only[Y6]at h;split at h
   ·rename_i y1 ys h1 h2;cases h;exact .cons (Amy h1) (An2 h2)
   ·cases h
theorem Auy{ts:A2 Ty}{xs:A2 XV}{y:B6 ts}(h:Y6 ts xs=some y):Wn (L8 xs).a (Tt ts y).a:=by
 have hl:=An2 h;unfold Tt;rw[Qm,Qm];generalize A9 xs=a at hl;generalize A9 (Az4 ts y)=b at hl;cases hl with
 |nil=>exact .refl _
 |cons h1 h2 =>
  cases h2 with
  |nil=>exact h1
  |cons h3 h4=>exact(Ra.cons h1 (.cons h3 h4)).E2
def Aam(P:Program)(st:Ad):A2 ResultVar→A3 (A2 XV)
 |[]=>some []
 |.tmp t::r=>match Av st (.tmp t),Aam P st r with
  |some x,some l=>some (x::l)
  |_,_=>none
 |.cell a ty::r=>match Av st (.tmp a),tyI P ty,Aam P st r with
  |some (.nm k (.p off)),some (agg,sz),some l=>match lk k st.objs with
   |some (.cells cs _)=>cond agg (cond (Nat.ble (off+sz) cs.length) (some (Atw ((cs.drop off).take sz)::l)) none)
     (cond (Nat.beq sz 1) (match cs[off]? with
      |some v=>some (v::l)
      |none=>none) none)
   |_=>none
  |_,_,_=>none
theorem S7{P:Program}{st:Ad}:∀ {rs:A2 ResultVar} {xs:A2 XV},Aam P st rs=some xs→RVs P st.im rs (A9 xs)
 |[],xs,h=>by simp[Aam]at h;subst h;exact .nil
 |.tmp t::r,xs,h=>by
  simp only[Aam]at h;split at h
  ·rename_i x l hx hl;cases h;exact .cons _ _ _ _ (.tmp t _ (Dy hx).1 (.eq _ (Ov (Dy hx).2))) (S7 hl)
  ·cases h
 |.cell a ty::r,xs,h=>by
  simp only[Aam]at h;split at h
  ·rename_i k off agg sz l ha ht hl;have hT:=X4 ht;split at h
   ·rename_i cs oty hk;have Lk:=Ame hk;cases agg with
    |true =>
     simp only[Bkn]at h;cases hb:Nat.ble (off+sz) cs.length with
     |false=>simp[hb]at h
     |true =>simp only[hb,Bkn,Bks]at h;subst h;simp only[A9];refine .cons _ _ _ _ (.cell a ty k off _ (Dy ha).1 (.eq _ (Ov (Dy ha).2)) (.agg sz (A9 cs) oty _ hT Lk (by rw[Ag];exact Bl5 hb) ?_)) (S7 hl);rw[Ape,A4e,A4f]
    |false =>
     simp only[Bko]at h;cases hb:Nat.beq sz 1 with
     |false=>simp[hb]at h
     |true =>
      have:=Bkr hb;subst this;simp only[hb,Bkn]at h;split at h
      ·rename_i v hv;cases h;exact .cons _ _ _ _ (.cell a ty k off _ (Dy ha).1 (.eq _ (Ov (Dy ha).2)) (.one (A9 cs) oty _ hT Lk (by rw[L5,hv];rfl))) (S7 hl)
      ·cases h
   ·cases h
  ·cases h
def A7q:Nat→A2 XV→A2 (Nat×XV)
 |_,[]=>[]
 |n,x::r=>(n,x)::A7q (n+1) r
theorem A4r(n:Nat)(l:A2 XV):E0 (A7q n l)=A16 n (A9 l):=by
 induction l generalizing n with
 |nil=>rfl
 |cons x r ih=>simp only[A7q,E0,Bkv,A9,A16]at ih⊢;rw[ih]
def frz:A2 XV→A2 (Nat×Ac)→A3 (A2 XV×A2 (Nat×Ac))
 |[],objs=>some ([],objs)
 |.os k t a len::r,objs=>match lk k objs with
  |some (.arr u l)=>cond (u.Ji t) (cond (cond (Nat.ble (a+len) l.length) (H8 k objs) false) (match frz r (Df k objs) with
   |some (ys,o)=>some (.d (.sl u ((l.drop a).take len))::ys,o)
   |none=>none) none) none
  |_=>none
 |x::r,objs=>match frz r objs with
  |some (ys,o)=>some (x::ys,o)
  |none=>none
inductive A7r(g:Gh)(g':Gh)(w:World):List XV→List XV→Prop
 |nil:A7r g g' w [] []
 |cons {x y:XV} {r s:List XV}:(∀v,RA g w x.a v→RA g' w y.a v)→A7r g g' w r s→A7r g g' w (x::r) (y::s)
theorem A7r.pre{g g1 g':Gh}{w:World}{l m:A2 XV}(h:A7r g1 g' w l m)(ht:Trans [] g w g1 w):A7r g g' w l m:=by
 induction h with
 |nil=>exact .nil
 |cons h1 _ ih=>exact .cons (fun v hv=>h1 v (hv.mono ht (.nil _))) ih
theorem A7r.length{g g':Gh}{w:World}{l m:A2 XV}(h:A7r g g' w l m):l.length=m.length:=by
 induction h with
 |nil=>rfl
 |cons _ _ ih=>simp[ih]
theorem A7r.get{g g':Gh}{w:World}{l m:A2 XV}(h:A7r g g' w l m):∀ {i:Nat} {y:XV},m[i]? = some y→∃x,l[i]? = some x∧∀v,RA g w x.a v→RA g' w y.a v:=by
 induction h with
 |nil=>intro i y hy;simp at hy
 |cons h1 _ ih =>
  intro i y hy;cases i with
  |zero=>simp at hy;subst hy;exact⟨_,rfl,h1⟩
  |succ i=>simp at hy;simpa using ih hy
theorem A7r.L8{g g':Gh}{w:World}{l m:A2 XV}(h:A7r g g' w l m){v:Value}(hr:RA g w (L8 l).a v):RA g' w (L8 m).a v:=by
 have E2:∀l m:A2 XV,A7r g g' w l m→RA g w (.E2 (A9 l)) v→RA g' w (.E2 (A9 m)) v:=by
  intro l m h hr;cases hr with
  |E2 _ vs hl hc =>
   refine .E2 _ vs (by rw[Ag,← h.length,← Ag];exact hl) fun i c u hb hu=>?_
   rw[L5,Bky]at hb;obtain⟨y,hy,rfl⟩:=hb;obtain⟨x,hx,hxy⟩:=h.get hy;exact hxy u (hc i x.a u (by rw[L5,hx];rfl) hu)
 cases h with
 |nil=>exact E2 [] [] .nil hr
 |cons h1 h2 =>
  cases h2 with
  |nil=>exact h1 v hr
  |cons h3 h4=>exact E2 _ _ (.cons h1 (.cons h3 h4)) hr
theorem Ar8{B:Bl}{w:World}{live:A2 Nat}:∀ {xs ys:A2 XV} {objs An3:A2 (Nat×Ac)},frz xs objs=some (ys,An3)→∀g,HR [] B g w ⟨A6 objs,live⟩ →
  ∃g',HR [] B g' w ⟨A6 An3,live⟩∧Trans [] g w g' w∧A7r g g' w xs ys
 |[],ys,objs,An3,h,g,hr=>by
  simp only[frz,Bks,Bld]at h;obtain⟨rfl,rfl⟩:=h;exact⟨g,hr,.refl _ _ _,.nil⟩
 |x::r,ys,objs,An3,h,g,hr=>by
  have other:(match frz r objs with|some (ys,o)=>some (x::ys,o)|none=>none)=some (ys,An3)→∃g',HR [] B g' w ⟨A6 An3,live⟩∧Trans [] g w g' w∧A7r g g' w (x::r) ys:=by
   intro h;split at h
   ·rename_i zs o hz;cases h;obtain⟨g',h1,h2,h3⟩:=Ar8 hz g hr;exact⟨g',h1,h2,.cons (fun v hv=>hv.mono h2 (.nil _)) h3⟩
   ·cases h
  cases x with
  |os k t a len =>
   simp only[frz]at h;split at h
   ·rename_i u l hk;cases h1:u.Ji t with
    |false=>simp[h1]at h
    |true =>
    cases h4:cond (Nat.ble (a+len) l.length) (H8 k objs) false with
    |false=>simp[h1,h4]at h
    |true =>
     obtain⟨h2,h6⟩:=Agz h4;simp only[h1,h4,Bkn]at h;split at h
     ·rename_i zs o hz;cases h;have:=Ty.Au h1;subst this;have ho:=P3 hk;obtain⟨f1,f2,f3⟩:=hr.freeze (k:=k) (sz:=u.size) (es:=l.map u.ds) (ty:=none) (by simp) ho (by
       intro i cs hc;rw[Bkt,Bky]at hc;obtain⟨y,_,rfl⟩:=hc;exact u.Cf y)
      have e:Ab.B1 k ⟨A6 objs,live⟩=⟨A6 (Df k objs),live⟩:=by rw[Qc h6];rfl
      rw[e]at f1;obtain⟨g',h3,h4,h5⟩:=Ar8 hz _ f1;refine⟨g',h3,f2.trans h4,.cons (fun v hv=>?_) (h5.pre f2)⟩;have hle:=Bl5 h2;have:=f3 a len v (by simpa using hle) hv;have:=this.mono h4 (.nil _);simp only[XV.a,XD.d];rw[Bo5,Boi];exact this
     ·cases h
   ·cases h
  |_=>exact other h
def B47{R:Type}:A2 XV→A2 (Nat×Ac)→(A2 XV→A3 R)→A3 R
 |[],_,K=>K []
 |.os k t a len::r,objs,K=>match lk k objs with
  |some (.arr u l)=>cond (u.Ji t) (cond (cond (Nat.ble (a+len) l.length) (H8 k objs) false) (B47 r (Df k objs) fun ys=>K (.d (.sl u ((l.drop a).take len))::ys)) none) none
  |_=>none
 |x::r,objs,K=>B47 r objs fun ys=>K (x::ys)
theorem A4s{R:Type}{y:R}:∀ {xs:A2 XV} {objs:A2 (Nat×Ac)} {K:A2 XV→A3 R},B47 xs objs K=some y→∃ys o,frz xs objs=some (ys,o)∧K ys=some y
 |[],objs,K,h=>⟨[],objs,rfl,h⟩
 |x::r,objs,K,h=>by
  have other:(B47 r objs fun ys=>K (x::ys))=some y→∃ys o,(match frz r objs with|some (ys,o)=>some (x::ys,o)|none=>none)=some (ys,o)∧K ys=some y:=by intro h;obtain⟨ys,o,h1,h2⟩:=A4s h;exact⟨x::ys,o,by rw[h1],h2⟩
  cases x with
  |os k t a len =>
   simp only[B47]at h;split at h
   ·rename_i u l hk;cases h1:u.Ji t with
    |false=>simp[h1]at h
    |true =>
    cases h2:cond (Nat.ble (a+len) l.length) (H8 k objs) false with
    |false=>simp[h1,h2]at h
    |true =>simp only[h1,h2,Bkn]at h;obtain⟨ys,o,h3,h4⟩:=A4s h;exact⟨.d (.sl u ((l.drop a).take len))::ys,o,by simp only[frz,hk,h1,h2,h3,Bkn],h4⟩
   ·cases h
  |_=>exact other h
def A4t(P:Program)(fn:Func)(res:A2 Ty)(s:Ad):A3 (B6 res) :=
 match Aam P s fn.results.toList with
 |some xs=>B47 xs s.objs fun ys=>Y6 res ys
 |none=>none
def finish(P:Program)(fn:Func)(res:A2 Ty):Exit→Ad→A3 (B6 res)
 |.ret,s=>A4t P fn res s
 |.normal,s=>A4t P fn res s
 |_,_=>none
def B48(P:Program)(Γ:A2 (Ga P))(own:A2 Nat)(N:Nat)(fn:Func)(an:An)(res:A2 Ty)(xs:A2 XV):A3 (B6 res) :=
 match fn.body with
 |some c=>cond (Nat.ble fn.ntmps GB) (exec P Γ own [] fn.ntmps N c an ⟨A7q 0 xs,[],[],[],[]⟩ (finish P fn res)) none
 |none=>none
theorem An4{α:Type}{n:Nat}{x:A3 α}{y:α}(h:cond (Nat.ble n GB) x none=some y):n≤GB∧x=some y:=by
 cases hb:Nat.ble n GB with
 |false=>simp[hb]at h
 |true=>exact⟨Bl5 hb,by simpa[hb]using h⟩
theorem Aic{P:Program}{Γ:A2 (Ga P)}{own:A2 Nat}{N:Nat}{f:FuncId}{fn:Func}{an:An}{res:A2 Ty}{xs:A2 XV}{y:B6 res}(hm:P.follows .mixedOrders=true)(hf:P.funcs[f]? = some fn)
  (hn:Nat.ble xs.length fn.ntmps=true) (h:B48 P Γ own N fn an res xs=some y):Lz P f (A9 xs) X0 (Tt res y).a X0:=by
 unfold B48 at h;split at h
 ·rename_i c hc;obtain⟨hG,h⟩:=An4 h;have hs:=Ro (S:=⟨fn.ntmps,[],by simp⟩) hm rfl c an ⟨A7q 0 xs,[],[],[],[]⟩ ⟨A7q 0 xs,[],[],[],[]⟩ _ _ (.refl _) h;have key:∀s',∀zs,Aam P s' fn.results.toList=some zs→Y6 res zs=some y→True:=fun _ _ _ _=>trivial
  intro g w vs hr hl ha;refine Bq0 hf hc (Bpd (hs (Bl.of g w X0) g w _ ?_) ?_)
  ·refine⟨rfl,?_,hr,?_⟩
   ·have:=Bl5 hn;rw[Ag]at hl;simp;omega
   ·intro t x hx;have hx':(A16 0 (A9 xs)).lookup t=some x:=by rw[← A4r];exact hx
    obtain⟨_,hx'⟩:=N4 hx';rw[Bnu]at hx';have Bs:t<vs.size:=by have:=(Bku.1 hx').1;omega
    refine⟨vs[t],?_,ha t x _ hx' (by simp[Bs])⟩;have:=Bl5 hn;rw[Ag]at hl;rw[Rg (by omega)];simp[Bog,Bs]
  ·rintro e a' w' ⟨s,g',⟨Bq,rfl,hi,hk⟩,H4⟩;have fin:A4t P fn res Bq=some y →
     a'.defers=[]∧∃v,(results fn a'.tmps).run P w' = .ok v w'∧∃g' v_1,Ending.returned v=Ending.returned v_1∧RA g' w' (Tt res y).a v_1∧HR (X0.objs.map (·.1)) (Bl.of g w X0) g' w' X0:=by
    intro h;unfold A4t at h;split at h
    ·rename_i zs h1;obtain⟨ys,o,h2,h⟩:=A4s h
     ·obtain⟨v,hv,T8⟩:=M4 (S7 h1) H4;obtain⟨g1,Yk,ht1,has⟩:=Ar8 h2 g' H4.hr;have hs1:SR ⟨fn.ntmps,[],by simp⟩ (Bl.of g w X0) g1 w' ⟨[],⟨A6 o,Bq.live⟩⟩ a':=⟨H4.defers,H4.size,Yk,by simp⟩;have hw:Asy [] ⟨[],⟨A6 o,Bq.live⟩⟩ ⟨[],X0⟩:=⟨by simp,by simp[X0],by simp[X0],by simp⟩;obtain⟨g'',ht,Ad0⟩:=hs1.A8z hw;rw[← Qm]at T8;have Aid:=(has.L8 T8).mono ht (.nil _);exact⟨H4.defers,v,hv,g'',v,rfl,Auy h g'' w' v Aid,Ad0.hr⟩
    ·cases h
   cases e with
   |ret=>exact fin hk
   |normal=>exact fin hk
   |_=>simp[finish]at hk
 ·cases h
def A2v{α:Type}:(ts:A2 Ty)→(A2 XV→α)→A2 XV→C1 ts α
 |[],f,acc=>f acc
 |t::r,f,acc=>fun x=>A2v r f (acc++[.d (t.xv x)])
def A0l(P:Program)(Γ:A2 (Ga P))(own:A2 Nat)(N:Nat)(fn:Func)(an:An)(args res:A2 Ty):C1 args (A3 (B6 res)) :=
 A2v args (fun xs=>B48 P Γ own N fn an res xs) []
def Ad1(P:Program)(f:FuncId)(res:A2 Ty):(args:A2 Ty)→C1 args (A3 (B6 res))→A2 XV→Prop
 |[],F,acc=>∀y,F=some y→Lz P f (A9 acc) X0 (Tt res y).a X0
 |t::r,F,acc=>∀x:t.T,Ad1 P f res r (F x) (acc++[.d (t.xv x)])
theorem A2w{P:Program}{Γ:A2 (Ga P)}{own:A2 Nat}{N:Nat}{f:FuncId}{fn:Func}{an:An}{res:A2 Ty}(hm:P.follows .mixedOrders=true)(hf:P.funcs[f]? = some fn) :
  ∀(args:A2 Ty) (acc:A2 XV),Nat.ble (acc.length+args.length) fn.ntmps=true→Ad1 P f res args (A2v args (fun xs=>B48 P Γ own N fn an res xs) acc) acc
 |[],acc,hn=>fun y hy=>Aic hm hf (by simpa using hn) hy
 |t::r,acc,hn=>fun x=>A2w hm hf r (acc++[.d (t.xv x)]) (by
   have:=Bl5 hn;refine Bm3 ?_;simp at this⊢;omega)
theorem Vm{P:Program}{Γ:A2 (Ga P)}{own:A2 Nat}{N:Nat}{f:FuncId}{fn:Func}{an:An}{args res:A2 Ty}(hm:P.follows .mixedOrders=true)(hf:P.funcs[f]? = some fn)
  (hn:Nat.ble args.length fn.ntmps=true):Ad1 P f res args (A0l P Γ own N fn an args res) [] :=
 A2w hm hf args [] (by simpa using hn)
def A7s{β R:Type}:(ts:A2 Ty)→C1 ts (A3 β)→A2 Operand→A2 XV→A2 (Operand×XV)→(A3 β→A2 (Operand×XV)→A3 R)→A3 R
 |[],F,[],[],acc,K=>K F acc
 |t::r,F,x::ops,v::vs,acc,K=>match Rf t v with
  |some y=>A7s r (F y) ops vs (acc++[(x,.d (t.xv y))]) K
  |none=>none
 |_,_,_,_,_,_=>none
def Bm(o:Oper):A2 Operand :=
 match o.op with
 |.call c=>c.args.toList
 |_=>[]
def B1h{R:Type}(args res:A2 Ty)(F:C1 args (A3 (B6 res)))(o:Oper)(st:Ad)(vs:A2 XV)(K:Out→A3 R):A3 R :=
 A7s args F (Bm o) vs [] fun Fv rd=>Option.bind Fv fun y=>K (B5 st (Tt res y) rd)
theorem An5:∀(ts:A2 Ty) (y:B6 ts),Ba (A9 (Az4 ts y))=true
 |[],_=>rfl
 |[t],y=>rfl
 |t::u::r,y=>by simp only[Az4,A9,Ba,An5 (u::r) y.2];rfl
theorem A7t(ts:A2 Ty)(y:B6 ts):Ki (Tt ts y).a=true:=by
 unfold Tt;rw[Qm];have:=An5 ts y;cases h:A9 (Az4 ts y) with
 |nil=>rfl
 |cons x r =>
  rw[h]at this;cases r with
  |nil=>simp only[Zu];simp only[Ba,Bnd]at this;exact this
  |cons z s=>simp only[Zu,Ki];exact this
theorem F4{st:Ad}{x:Operand}{ops:A2 Operand}{v:XV}{vs:A2 XV}(h:C5 st (x::ops)=some (v::vs)):Av st x=some v∧C5 st ops=some vs:=by
 simp only[C5]at h;split at h
 ·rename_i a l ha hl;cases h;exact⟨ha,hl⟩
 ·cases h
theorem P6{st:Ad}{x:Operand}{v:XV}{t:Ty}{y:t.T}(h:Av st x=some v)(hd:Rf t v=some y):E3 st.im x (.d (t.dv y)):=by
 cases v with
 |d u=>exact Apa h (t.N8 hd)
 |Bu n u l ty=>exact A9l (a:=.sl u l) (by simp[xd,h,XV.asD]) (t.N8 hd)
 |agg cs =>
  have hle:=Z1 hd;cases x with
  |tmp t=>exact .tmp t _ (Dy h).1 (Y0 (Dy h).2 hle)
  |const u=>simp[Av]at h
  |func f=>simp[Av]at h
  |global k=>exact .Ag6 k _ (Y0 h hle)
 |_=>simp[Rf]at hd
theorem B1i{P:Program}{R:Type}{f:FuncId}{res:A2 Ty}{st:Ad}{K:A3 (B6 res)→A2 (Operand×XV)→A3 R}{r:R}:∀(ts:A2 Ty) (F:C1 ts (A3 (B6 res))) (ops:A2 Operand) (vs:A2 XV) (acc:A2 (Operand×XV)) (Bt:A2 Operand) (axs:A2 XV),
  Ad1 P f res ts F axs→C5 st ops=some vs→acc=Bt.zip axs→Bt.length=axs.length→(∀p∈B0 acc,E3 st.im p.1 p.2)→Ba (A9 axs)=true→A7s ts F ops vs acc K=some r →
  ∃(Fv:A3 (B6 res)) (xs:A2 XV),xs.length=(Bt++ops).length∧(∀y,Fv=some y→Lz P f (A9 xs) X0 (Tt res y).a X0)∧Ba (A9 xs)=true ∧
   (∀p∈B0 ((Bt++ops).zip xs),E3 st.im p.1 p.2)∧K Fv ((Bt++ops).zip xs)=some r
 |[],F,ops,vs,acc,Bt,axs,hs,hv,Ad2,hlen,A5r,hda,h=>by
  cases ops with
  |nil =>
   cases vs with
   |nil =>subst Ad2;exact⟨F,axs,by simp[hlen],hs,hda,by simpa using A5r,by rw[Blt];exact h⟩
   |cons _ _=>simp[A7s]at h
  |cons _ _=>simp[A7s]at h
 |t::ts,F,ops,vs,acc,Bt,axs,hs,hv,Ad2,hlen,A5r,hda,h=>by
  cases ops with
  |nil=>simp[A7s]at h
  |cons x ops =>
   cases vs with
   |nil=>simp[A7s]at h
   |cons v vs =>
    simp only[A7s]at h;obtain⟨hx,Nz⟩:=F4 hv;split at h
    ·rename_i y hy;have:=B1i ts (F y) ops vs _ (Bt++[x]) (axs++[.d (t.xv y)]) (hs y) Nz (by rw[Ad2,Bot hlen];rfl) (by simp[hlen]) (by
      intro p hp;rw[F2]at hp;rcases Bkw.1 hp with hp|hp
      ·exact A5r p hp
      ·simp only[B0,Bkv,Bll,Bl7]at hp;subst hp;exact P6 hx hy) (by
      have:∀l:A2 AV,Ba l=true→Ba (l++[.d (t.dv y)])=true:=by
       intro l;induction l with
       |nil=>intro _;rfl
       |cons a r ih=>intro h;simp only[Ba,Bls,Bmx]at h⊢;exact⟨h.1,ih h.2⟩
      rw[Dk];exact this _ hda) h
     simpa using this
    ·cases h
def Bd2{P:Program}(id:FuncId)(args res:A2 Ty)(F:C1 args (A3 (B6 res)))(hc:Ez P id)(hs:Ad1 P id res args F []):Ga P where
 id:=id
 run:=B1h args res F
 ok:=by
  intro R o st Bt ts vs K r ho hv h;unfold B1h at h;have e:Bm o=Bt.toList:=by simp[Bm,ho]
  rw[e]at h;obtain⟨Fv,xs,h1,h2,h3,h4,h5⟩:=B1i (st:=st) args F Bt.toList vs [] [] [] hs hv rfl rfl (by simp[B0]) rfl h;obtain⟨y,hy,hK⟩:=Blr.1 h5;simp only[Bm0]at h1 h4 hK;refine⟨_,hK,A8 h4 fun X=>?_⟩;have:=Aoj (X:=X) (xs:=A9 xs) ho hc (h2 y hy) (by rw[Ag,h1];simp) h3 (A7t res y);rw[Iy];exact this
def Alf{P:Program}{Γ:A2 (Ga P)}{own:A2 Nat}{N:Nat}(id:FuncId)(fn:Func)(an:An)(args res:A2 Ty)(F:C1 args (A3 (B6 res)))(hm:P.follows .mixedOrders=true)(hf:P.funcs[id]? = some fn)
  (hc:Ez P id) (hn:Nat.ble args.length fn.ntmps=true) (hE:A0l P Γ own N fn an args res=F):Ga P :=
 Bd2 id args res F hc (hE▸Vm hm hf hn)
def D7 {P : Program} (Γ : List (Ga P)) (own : List Nat) (N : Nat) (id : FuncId) {fn : Func} (an : An) (args res : List Ty) (F : C1 args (Option (B6 res))) (hm : P.follows .mixedOrders = true) (hf : P.funcs[id]? = some fn) (hb : fn.body.isSome = true) (Wk : (fn.name == "runtime.NumGoroutine") = false) (hn : Nat.ble args.length fn.ntmps = true) (hE : A0l P Γ own N fn an args res = F) : Ga P := Alf id fn an args res F hm hf (.mk' hf hb Wk) hn hE
inductive AK where
 |d (t:Ty)
 |c (f:Nat)
@[reducible] def Oe:A2 AK→Type→Type
 |[],R=>R
 |.d t::r,R=>t.T→Oe r R
 |.c _::r,R=>Oe r R
inductive RK where
 |d (t:Ty)
 |s
@[reducible] def RK.T:RK→Type
 |.d t=>t.T
 |.s=>Nat
@[reducible] def Sn:A2 RK→Type
 |[]=>Unit
 |[r]=>r.T
 |r::u::rs=>r.T×Sn (u::rs)
def RK.val(k:Nat)(t:Ty):(r:RK)→r.T→XV
 |.d u,x=>.d (u.xv x)
 |.s,n=>.os k t 0 n
def Qn(k:Nat)(t:Ty):(rs:A2 RK)→Sn rs→A2 XV
 |[],_=>[]
 |[r],x=>[r.val k t x]
 |r::u::rs,x=>r.val k t x.1::Qn k t (u::rs) x.2
def B83(t:Ty):XV→A3 Nat
 |.os k t' a n=>cond (Nat.beq k 1) (cond (t'.Ji t) (cond (Nat.beq a 0) (some n) none) none) none
 |_=>none
def RK.dec(t:Ty):(r:RK)→XV→Option r.T
 |.d u,x=>Rf u x
 |.s,x=>B83 t x
def Auz(t:Ty):(rs:A2 RK)→A2 XV→A3 (Sn rs)
 |[],[]=>some ()
 |[r],[x]=>r.dec t x
 |r::u::rs,x::xs=>match r.dec t x,Auz t (u::rs) xs with
  |some y,some ys=>some (y,ys)
  |_,_=>none
 |_,_=>none
theorem RK.B84{t:Ty}{r:RK}{x:XV}{y:r.T}(h:r.dec t x=some y):Wn x.a (r.val 1 t y).a:=by
 cases r with
 |d u=>exact Z1 h
 |s =>
  change B83 t x=some y at h;unfold B83 at h;split at h
  ·rename_i k t' a n;cases h1:Nat.beq k 1 with
   |false=>simp[h1]at h
   |true =>
   cases h2:t'.Ji t with
   |false=>simp[h1,h2]at h
   |true =>
   cases h3:Nat.beq a 0 with
   |false=>simp[h1,h2,h3]at h
   |true =>simp only[h1,h2,h3,Bkn,Bks]at h;have e1:=Bkr h1;have e2:=Ty.Au h2;have e3:=Bkr h3;subst e1;subst e2;subst e3;subst h;exact .refl _
  ·cases h
theorem B1j{t:Ty}:∀ {rs:A2 RK} {xs:A2 XV} {y:Sn rs},Auz t rs xs=some y→Ra (A9 xs) (A9 (Qn 1 t rs y))
 |[],xs,y,h=>by
  cases xs with
  |nil=>exact .nil
  |cons _ _=>simp[Auz]at h
 |[r],xs,y,h=>by
  cases xs with
  |nil=>simp[Auz]at h
  |cons x xs =>
   cases xs with
   |nil=>exact .cons (RK.B84 h) .nil
   |cons _ _=>simp[Auz]at h
 |r::u::rs,xs,y,h=>by
  cases xs with
  |nil=>simp[Auz]at h
  |cons x xs =>
   simp only[Auz]at h;split at h
   ·rename_i y1 ys h1 h2;cases h;exact .cons (RK.B84 h1) (B1j h2)
   ·cases h
theorem Ra.L8{a b:A2 XV}(hl:Ra (A9 a) (A9 b)):Wn (Xl.L8 a).a (Xl.L8 b).a:=by
 rw[Qm,Qm];generalize A9 a=a at hl;generalize A9 b=b at hl;cases hl with
 |nil=>exact .refl _
 |cons h1 h2 =>
  cases h2 with
  |nil=>exact h1
  |cons h3 h4=>exact(Ra.cons h1 (.cons h3 h4)).E2
def Bbb(P:Program)(fn:Func)(t:Ty)(rs:A2 RK)(s:Ad):A3 (List t.T×Sn rs) :=
 match lk 1 s.objs with
 |some (.arr u l)=>if h:u.Ji t=true then match Aam P s fn.results.toList with
  |some xs=>match Auz t rs xs with
   |some y=>some ((Ty.Au h▸l:List t.T),y)
   |none=>none
  |none=>none else none
 |_=>none
def B1k(P:Program)(fn:Func)(t:Ty)(rs:A2 RK):Exit→Ad→A3 (List t.T×Sn rs)
 |.ret,s=>Bbb P fn t rs s
 |.normal,s=>Bbb P fn t rs s
 |_,_=>none
def B1l(P:Program)(Γ:A2 (Ga P))(own:A2 Nat)(N:Nat)(fn:Func)(an:An)(t:Ty)(rs:A2 RK)(l:List t.T)(n:Nat)(xs:A2 XV):A3 (List t.T×Sn rs) :=
 match fn.body with
 |some c=>cond (Nat.ble fn.ntmps GB) (exec P Γ own [1] fn.ntmps N c an ⟨A7q 0 (.os 1 t 0 n::xs),[(1,.arr t l)],[],[],[]⟩ (B1k P fn t rs)) none
 |none=>none
def O1(t:Ty)(l:List t.T):A7:=⟨[(1,(Ac.arr t l).o)],[]⟩
theorem Av0{P:Program}{Γ:A2 (Ga P)}{own:A2 Nat}{N:Nat}{f:FuncId}{fn:Func}{an:An}{t:Ty}{rs:A2 RK}{l:List t.T}{n:Nat}{xs:A2 XV}{y:List t.T×Sn rs}(hm:P.follows .mixedOrders=true)(hf:P.funcs[f]? = some fn)
  (hn:Nat.ble (xs.length+1) fn.ntmps=true) (h:B1l P Γ own N fn an t rs l n xs=some y):Lz P f (A9 (.os 1 t 0 n::xs)) (O1 t l) (L8 (Qn 1 t rs y.2)).a (O1 t y.1):=by
 unfold B1l at h;split at h
 ·rename_i c hc;obtain⟨hG,h⟩:=An4 h;have hs:=Ro (S:=⟨fn.ntmps,[1],by simp⟩) hm rfl c an _ _ _ _ (.refl _) h;intro g w vs hr hl ha;refine Bq0 hf hc (Bpd (hs (Bl.of g w (O1 t l)) g w _ ?_) ?_)
  ·refine⟨rfl,?_,hr,?_⟩
   ·have:=Bl5 hn;rw[Ag]at hl;simp at hl⊢;omega
   ·intro s x hx;have hx':(A16 0 (A9 (.os 1 t 0 n::xs))).lookup s=some x:=by rw[← A4r];exact hx
    obtain⟨_,hx'⟩:=N4 hx';rw[Bnu]at hx';have Bs:s<vs.size:=by have:=(Bku.1 hx').1;omega
    refine⟨vs[s],?_,ha s x _ hx' (by simp[Bs])⟩;have:=Bl5 hn;rw[Ag,Blg]at hl;rw[Rg (by omega)];simp[Bog,Bs]
  ·rintro e a' w' ⟨s,g',⟨Bq,rfl,hi,hk⟩,H4⟩;have fin:Bbb P fn t rs Bq=some y →
     a'.defers=[]∧∃v,(results fn a'.tmps).run P w' = .ok v w'∧∃g' v_1,Ending.returned v=Ending.returned v_1∧RA g' w' (L8 (Qn 1 t rs y.2)).a v_1∧HR ((O1 t l).objs.map (·.1)) (Bl.of g w (O1 t l)) g' w' (O1 t y.1):=by
    intro h;unfold Bbb at h;split at h
    ·rename_i u l' hk1;split at h
     ·rename_i hu;have:=Ty.Au hu;subst this;split at h
      ·rename_i zs h1;split at h
       ·rename_i z h2;cases h;obtain⟨v,hv,T8⟩:=M4 (S7 h1) H4;have hw:Asy [1] Bq.im ⟨[],O1 u l'⟩:=⟨by simp,by
         intro p hp;simp only[O1,Bl7]at hp;subst hp;exact P3 hk1,by simp[O1],by simp[O1]⟩
        obtain⟨g'',ht,Ad0⟩:=H4.A8z hw;have Aid:=T8.mono ht (.nil _);rw[← Qm]at Aid;exact⟨H4.defers,v,hv,g'',v,rfl,(Ra.L8 (B1j h2)) g'' w' v Aid,Ad0.hr⟩
       ·cases h
      ·cases h
     ·cases h
    ·cases h
   cases e with
   |ret=>exact fin hk
   |normal=>exact fin hk
   |_=>simp[B1k]at hk
 ·cases h
def An6{α:Type}:(ks:A2 AK)→(A2 XV→α)→A2 XV→Oe ks α
 |[],f,acc=>f acc
 |.d t::r,f,acc=>fun x=>An6 r f (acc++[.d (t.xv x)])
 |.c g::r,f,acc=>An6 r f (acc++[.Ff g []])
def B49(P:Program)(Γ:A2 (Ga P))(own:A2 Nat)(N:Nat)(fn:Func)(an:An)(t:Ty)(ks:A2 AK)(rs:A2 RK)(l:List t.T)(n:Nat):Oe ks (A3 (List t.T×Sn rs)) :=
 An6 ks (fun xs=>B1l P Γ own N fn an t rs l n xs) []
def Ad3{β:Type}(Q:β→A2 XV→Prop):(ks:A2 AK)→Oe ks (A3 β)→A2 XV→Prop
 |[],F,acc=>∀y,F=some y→Q y acc
 |.d u::r,F,acc=>∀x:u.T,Ad3 Q r (F x) (acc++[.d (u.xv x)])
 |.c g::r,F,acc=>Ad3 Q r F (acc++[.Ff g []])
def Ar9(P:Program)(f:FuncId)(t:Ty)(rs:A2 RK)(l:List t.T)(n:Nat)(ks:A2 AK)(F:Oe ks (A3 (List t.T×Sn rs)))(acc:A2 XV):Prop :=
 Ad3 (fun y acc=>Lz P f (A9 (.os 1 t 0 n::acc)) (O1 t l) (L8 (Qn 1 t rs y.2)).a (O1 t y.1)) ks F acc
theorem A4u{β:Type}{Q:β→A2 XV→Prop}{B:A2 XV→A3 β}(m:Nat)(hB:∀acc,acc.length≤m→∀y,B acc=some y→Q y acc) :
  ∀(ks:A2 AK) (acc:A2 XV),acc.length+ks.length≤m→Ad3 Q ks (An6 ks B acc) acc
 |[],acc,hn=>fun y hy=>hB acc (by simpa using hn) y hy
 |.d u::r,acc,hn=>fun x=>A4u m hB r _ (by simp at hn⊢;omega)
 |.c g::r,acc,hn=>by
  simp only[Ad3,An6];exact A4u m hB r (acc++[.Ff g []]) (by simp at hn⊢;omega)
theorem Az5{P:Program}{Γ:A2 (Ga P)}{own:A2 Nat}{N:Nat}{f:FuncId}{fn:Func}{an:An}{t:Ty}{ks:A2 AK}{rs:A2 RK}(hm:P.follows .mixedOrders=true)(hf:P.funcs[f]? = some fn)
  (hn:Nat.ble (ks.length+1) fn.ntmps=true) (l:List t.T) (n:Nat):Ar9 P f t rs l n ks (B49 P Γ own N fn an t ks rs l n) [] :=
by
 have h1:=Bl5 hn;unfold Ar9 B49;have hB:∀acc:A2 XV,acc.length≤fn.ntmps-1→∀y,B1l P Γ own N fn an t rs l n acc=some y→Lz P f (A9 (.os 1 t 0 n::acc)) (O1 t l) (L8 (Qn 1 t rs y.2)).a (O1 t y.1) :=
  fun acc hl y hy=>Av0 hm hf (Bm3 (by omega)) hy
 exact A4u (Q:=fun(y:List t.T×Sn rs) acc=>Lz P f (A9 (.os 1 t 0 n::acc)) (O1 t l) (L8 (Qn 1 t rs y.2)).a (O1 t y.1)) (fn.ntmps-1) hB ks [] (by simp;omega)
def B85:XV→A3 Nat
 |.Ff g []=>some g
 |_=>none
theorem B86{v:XV}{g:Nat}(h:B85 v=some g):v = .Ff g []:=by
 unfold B85 at h;split at h
 ·cases h;rfl
 ·cases h
def Aan{β R:Type}:(ks:A2 AK)→Oe ks (A3 β)→A2 Operand→A2 XV→A2 (Operand×XV)→(A3 β→A2 (Operand×XV)→A3 R)→A3 R
 |[],F,[],[],acc,K=>K F acc
 |.d t::r,F,x::ops,v::vs,acc,K=>match Rf t v with
  |some y=>Aan r (F y) ops vs (acc++[(x,.d (t.xv y))]) K
  |none=>none
 |.c g::r,F,x::ops,v::vs,acc,K=>match B85 v with
  |some g'=>cond (Nat.beq g' g) (Aan r F ops vs (acc++[(x,.Ff g [])]) K) none
  |none=>none
 |_,_,_,_,_,_=>none
def Aie:XV→Bool
 |.d _=>true
 |.Ff _ []=>true
 |_=>false
def Xj:A2 XV→Bool
 |[]=>true
 |x::r=>cond (Aie x) (Xj r) false
theorem An7{a b:A2 XV}(ha:Xj a=true)(hb:Xj b=true):Xj (a++b)=true:=by
 induction a with
 |nil=>exact hb
 |cons x r ih =>
  simp only[Xj,Bmx]at ha⊢;cases hx:Aie x with
  |false=>simp[hx]at ha
  |true=>simp only[hx,Bkn]at ha⊢;exact ih ha
theorem B87{f:Nat→Nat}{x:XV}(h:Aie x=true):Ds f x.a=x.a:=by unfold Aie at h;split at h<;>first|rfl|cases h
theorem Ad4{f:Nat→Nat}:∀ {l:A2 XV},Xj l=true→Dj f (A9 l)=A9 l
 |[],_=>rfl
 |x::r,h=>by
  simp only[Xj]at h;cases hx:Aie x with
  |false=>simp[hx]at h
  |true =>simp only[hx,Bkn]at h;simp only[A9,Dj,B87 hx,Ad4 h]
theorem A2x{ks:A2 Nat}:∀ {l:A2 XV},Xj l=true→Bx ks (A9 l)=true
 |[],_=>rfl
 |x::r,h=>by
  simp only[Xj]at h;cases hx:Aie x with
  |false=>simp[hx]at h
  |true =>
   simp only[hx,Bkn]at h;have:Cj ks x.a=true:=by unfold Aie at hx;split at hx<;>first|rfl|cases hx
   simp only[A9,Bx,this,A2x h,Bmo]
theorem Aao{β R:Type}{Q:β→A2 XV→Prop}{st:Ad}{K:A3 β→A2 (Operand×XV)→A3 R}{r:R}:∀(ks:A2 AK) (F:Oe ks (A3 β)) (ops:A2 Operand) (vs:A2 XV) (acc:A2 (Operand×XV)) (Bt:A2 Operand) (axs:A2 XV),
  Ad3 Q ks F axs→C5 st ops=some vs→acc=Bt.zip axs→Bt.length=axs.length→(∀p∈B0 acc,E3 st.im p.1 p.2)→Xj axs=true→Aan ks F ops vs acc K=some r →
  ∃(Fv:A3 β) (xs:A2 XV),xs.length=(Bt++ops).length∧(∀y,Fv=some y→Q y xs)∧Xj xs=true ∧
   (∀p∈B0 ((Bt++ops).zip xs),E3 st.im p.1 p.2)∧K Fv ((Bt++ops).zip xs)=some r
 |[],F,ops,vs,acc,Bt,axs,hs,hv,Ad2,hlen,A5r,hda,h=>by
  cases ops with
  |nil =>
   cases vs with
   |nil =>subst Ad2;exact⟨F,axs,by simp[hlen],hs,hda,by simpa using A5r,by rw[Blt];exact h⟩
   |cons _ _=>simp[Aan]at h
  |cons _ _=>simp[Aan]at h
 |.d u::ts,F,ops,vs,acc,Bt,axs,hs,hv,Ad2,hlen,A5r,hda,h=>by
  cases ops with
  |nil=>simp[Aan]at h
  |cons x ops =>
   cases vs with
   |nil=>simp[Aan]at h
   |cons v vs =>
    simp only[Aan]at h;obtain⟨hx,Nz⟩:=F4 hv;split at h
    ·rename_i y hy;have:=Aao ts (F y) ops vs _ (Bt++[x]) (axs++[.d (u.xv y)]) (hs y) Nz (by rw[Ad2,Bot hlen];rfl) (by simp[hlen]) (by
      intro p hp;rw[F2]at hp;rcases Bkw.1 hp with hp|hp
      ·exact A5r p hp
      ·simp only[B0,Bkv,Bll,Bl7]at hp;subst hp;exact P6 hx hy) (An7 hda rfl) h
     simpa using this
    ·cases h
 |.c g::ts,F,ops,vs,acc,Bt,axs,hs,hv,Ad2,hlen,A5r,hda,h=>by
  cases ops with
  |nil=>simp[Aan]at h
  |cons x ops =>
   cases vs with
   |nil=>simp[Aan]at h
   |cons v vs =>
    simp only[Aan]at h;obtain⟨hx,Nz⟩:=F4 hv;split at h
    ·rename_i g' hg;cases h1:Nat.beq g' g with
     |false=>simp[h1]at h
     |true =>
      simp only[h1,Bkn]at h;have:=Bkr h1;subst this;have:=B86 hg;subst this;have:=Aao ts F ops vs _ (Bt++[x]) (axs++[.Ff g' []]) hs Nz (by rw[Ad2,Bot hlen];rfl) (by simp[hlen]) (by
       intro p hp;rw[F2]at hp;rcases Bkw.1 hp with hp|hp
       ·exact A5r p hp
       ·simp only[B0,Bkv,Bll,Bl7]at hp;subst hp;exact Aj hx) (An7 hda rfl) h
      simpa using this
    ·cases h
theorem Ad5(f:Nat→Nat)(t:Ty)(l:List t.T):E7 f (Ac.arr t l).o=(Ac.arr t l).o:=by
 show Ob.cells (Dj f _) none=_;congr 1;generalize (l.map t.ds).flatten=ds;induction ds with
 |nil=>rfl
 |cons x r ih=>simp only[Bkv,Dj,Ds,ih]
theorem A2y(ks:A2 Nat):∀(l:A2 D),Bx ks (l.map .d)=true
 |[]=>rfl
 |x::r=>by simp only[Bkv,Bx,Cj,A2y ks r,Bmo]
theorem Ad6(ks:A2 Nat)(t:Ty)(l:List t.T):Ip ks (Ac.arr t l).o=true:=A2y ks _
theorem An8(k:Nat)(t:Ty):∀(rs:A2 RK) (y:Sn rs),Dj (nf [(1,k)]) (A9 (Qn 1 t rs y))=A9 (Qn k t rs y)
 |[],_=>rfl
 |[r],y=>by cases r<;>rfl
 |r::u::rs,y=>by
  simp only[Qn,A9,Dj,An8 k t (u::rs) y.2];congr 1;cases r<;>rfl
theorem B4a(k:Nat)(t:Ty)(rs:A2 RK)(y:Sn rs):Ds (nf [(1,k)]) (L8 (Qn 1 t rs y)).a=(L8 (Qn k t rs y)).a:=by
 rw[Qm,Qm];have h:=An8 k t rs y;generalize A9 (Qn k t rs y)=m at h⊢;subst h;generalize A9 (Qn 1 t rs y)=l;cases l with
 |nil=>rfl
 |cons x r=>cases r<;>rfl
theorem Aem(t:Ty):∀(rs:A2 RK) (y:Sn rs),Bx [1] (A9 (Qn 1 t rs y))=true
 |[],_=>rfl
 |[r],y=>by cases r<;>rfl
 |r::u::rs,y=>by
  have:Cj [1] (r.val 1 t y.1).a=true:=by cases r<;>rfl
  simp only[Qn,A9,Bx,this,Aem t (u::rs) y.2,Bmo]
theorem Ara(t:Ty)(rs:A2 RK)(y:Sn rs):Cj [1] (L8 (Qn 1 t rs y)).a=true:=by
 rw[Qm];have:=Aem t rs y;generalize A9 (Qn 1 t rs y)=l at this⊢;cases l with
 |nil=>rfl
 |cons x r =>
  cases r with
  |nil=>simp only[Bx,Bnd]at this;exact this
  |cons z s=>exact this
def Bes{P:Program}{R:Type}(t:Ty)(ks:A2 AK)(rs:A2 RK)(F:List t.T→Nat→Oe ks (A3 (List t.T×Sn rs)))(o:Oper)(st:Ad)(vs:A2 XV)(K:Out→A3 R):A3 R :=
 match Bm o,vs with
 |x::ops,.os k t' a n::vs=>match lk k st.objs with
  |some (.arr u l)=>if h:u.Ji t=true then cond (t'.Ji t) (cond (Nat.beq a 0)
    (Aan ks (F (Ty.Au h▸l:List t.T) n) ops vs [] fun Fv rd=>Option.bind Fv fun y =>
     K ⟨.put k (.arr t y.1),L8 (Qn k t rs y.2),(x,.os k t 0 n)::rd,K6 k (.arr t y.1) st.objs,st.live,[],[k]⟩) none) none else none
  |_=>none
 |_,_=>none
theorem Bbc{P:Program}{R:Type}{f:FuncId}{t:Ty}{ks:A2 AK}{rs:A2 RK}{F:List t.T→Nat→Oe ks (A3 (List t.T×Sn rs))}(hc:Ez P f)(hs:∀l n,Ar9 P f t rs l n ks (F l n) []){o:Oper}{st:Ad}{Bt:Array Operand}{ts:Array TypeId}{vs:A2 XV}{K:Out→A3 R}{r:R}
  (ho:o.op = .call { callee:=.value (.func f),args:=Bt,argTypes:=ts }) (hv:C5 st Bt.toList=some vs) (h:Bes (P:=P) t ks rs F o st vs K=some r):∃out,K out=some r∧Br P o st out:=by
 have e:Bm o=Bt.toList:=by simp[Bm,ho]
 unfold Bes at h;rw[e]at h;split at h
 ·rename_i x ops k t' a n vs' hl;rw[hl]at hv;obtain⟨hx,Nz⟩:=F4 hv;split at h
  ·rename_i u l hk;split at h
   ·rename_i hu;have e2:=Ty.Au hu;subst e2;cases h2:t'.Ji u with
    |false=>simp[h2]at h
    |true =>
    cases h3:Nat.beq a 0 with
    |false=>simp[h2,h3]at h
    |true =>
     simp only[h2,h3,Bkn]at h;have e3:=Ty.Au h2;have e4:=Bkr h3;subst e3;subst e4;obtain⟨Fv,xs,h1,h2,h3,h4,h5⟩:=Aao (st:=st) ks (F l n) ops vs' [] [] [] (hs l n) Nz rfl rfl (by simp[B0]) rfl h;obtain⟨y,hy,hK⟩:=Blr.1 h5;simp only[Bm0]at h1 h4 hK;refine⟨_,hK,⟨?_,⟨⟨Hb hk rfl rfl,rfl⟩,rfl,rfl,fun X hX=>?_⟩,?_⟩⟩
     ·intro p hp;rcases Bkq.1 hp with rfl|hp
      ·exact Aj hx
      ·exact h4 p hp
     ·have Kz:X.objs.lookup k=some (Ac.arr t' l).o:=by rw[hX];exact P3 hk
      have hoc:Afs X (O1 t' l) (O1 t' y.1) (nf [(1,k)]) []:=by
       refine⟨⟨rfl,rfl⟩,?_,?_,?_,by simp[O1],by simp[O1],?_,?_,by simp[B7]⟩
       ·intro p hp;simp only[O1,Bl7]at hp;subst hp;simp only[Ad5];exact Kz
       ·simp[O1,Ad6]
       ·simp[O1,Ad6]
       ·intro p hp;simp only[O1,Bl7]at hp;subst hp;exact .inl (by simp[O1])
       ·intro p hp;simp only[O1,Bl7]at hp;subst hp;simp[O1]
      have Tq:=Ae0 (X:=X) [(1,k)] [] ho hc (h2 y hy) hoc (by
        have hl':Bt.size=ops.length+1:=by rw[← Bmv,hl];rfl
        simp only[A9,Blg,Ag,hl',h1]) (by
        simp only[A9,Bx,A2x h3,Bnd];rfl) (Ara t' rs y.2)
      rw[hl]at Tq;rw[B4a]at Tq;have e5:Dj (nf [(1,k)]) (A9 (.os 1 t' 0 n::xs))=A9 (.os k t' 0 n::xs):=by simp only[A9,Dj,Ad4 h3];rfl
      rw[e5]at Tq;have e6:B0 ((x,.os k t' 0 n)::ops.zip xs)=(x::ops).zip (A9 (.os k t' 0 n::xs)):=by rw[A9,Bnn,← Iy];rfl
      rw[e6];have e7:Ou (nf [(1,k)]) (O1 t' y.1).objs X.objs=Ab.setObj k (Ac.arr t' y.1).o X.objs:=by simp only[O1,Ou,Ad5];rfl
      rw[e7]at Tq;exact Tq
     ·intro j z hj hz;simp only[Bl7]at hj;rw[Jl _ _ _ _ hj]at hz;exact hz
   ·cases h
  ·cases h
 ·cases h
@[reducible] def RK.ty (t:Ty):RK→Ty
 |.d u=>u
 |.s=>.sl t
@[reducible] def Tu (t:Ty):A2 RK→A2 Ty
 |[]=>[]
 |r::rs=>r.ty t::Tu t rs
def Av1(P:Program)(Γ:A2 (Ga P))(own:A2 Nat)(N:Nat)(fn:Func)(an:An)(t:Ty)(ks:A2 AK)(rs:A2 RK):Oe ks (A3 (B6 (Tu t rs))) :=
 An6 ks (fun xs=>B48 P Γ own N fn an (Tu t rs) (.d (.sl t [])::xs)) []
def Arb(P:Program)(f:FuncId)(t:Ty)(rs:A2 RK)(y:B6 (Tu t rs))(acc:A2 XV):Prop :=
 Lz P f (A9 (.d (.sl t [])::acc)) X0 (Tt (Tu t rs) y).a X0
theorem Av2{P:Program}{Γ:A2 (Ga P)}{own:A2 Nat}{N:Nat}{f:FuncId}{fn:Func}{an:An}{t:Ty}{ks:A2 AK}{rs:A2 RK}(hm:P.follows .mixedOrders=true)(hf:P.funcs[f]? = some fn)
  (hn:Nat.ble (ks.length+1) fn.ntmps=true):Ad3 (Arb P f t rs) ks (Av1 P Γ own N fn an t ks rs) []:=by
 have h1:=Bl5 hn;have hB:∀acc:A2 XV,acc.length≤fn.ntmps-1→∀y,B48 P Γ own N fn an (Tu t rs) (.d (.sl t [])::acc)=some y→Arb P f t rs y acc :=
  fun acc hl y hy=>Aic hm hf (Bm3 (by simp;omega)) hy
 exact A4u (Q:=Arb P f t rs) (fn.ntmps-1) hB ks [] (by simp;omega)
def Bh6:XV→Bool
 |.os _ _ _ _=>true
 |_=>false
def B88{P:Program}{R:Type}(t:Ty)(ks:A2 AK)(rs:A2 RK)(F:List t.T→Nat→Oe ks (A3 (List t.T×Sn rs)))(F0:Oe ks (A3 (B6 (Tu t rs))))(o:Oper)(st:Ad)(vs:A2 XV)(K:Out→A3 R):A3 R :=
 match Bm o,vs with
 |x::ops,v::vs'=>cond (Bh6 v) (Bes (P:=P) t ks rs F o st vs K) (match Rf (.sl t) v with
  |some []=>Aan ks F0 ops vs' [] fun Fv rd=>Option.bind Fv fun y=>K (B5 st (Tt (Tu t rs) y) ((x,.d (.sl t []))::rd))
  |_=>none)
 |_,_=>none
theorem Aif:∀ {xs:A2 XV},Xj xs=true→Ba (A9 xs)=true
 |[],_=>rfl
 |x::r,h=>by
  simp only[Xj]at h;cases hx:Aie x with
  |false=>simp[hx]at h
  |true =>
   simp only[hx,Bkn]at h;have:Ki x.a=true:=by unfold Aie at hx;split at hx<;>first|rfl|cases hx
   simp only[A9,Ba,this,Aif h,Bmo]
theorem B89{P:Program}{R:Type}{f:FuncId}{t:Ty}{ks:A2 AK}{rs:A2 RK}{F:List t.T→Nat→Oe ks (A3 (List t.T×Sn rs))}{F0:Oe ks (A3 (B6 (Tu t rs)))}(hc:Ez P f)(hs:∀l n,Ar9 P f t rs l n ks (F l n) [])(hs0:Ad3 (Arb P f t rs) ks F0 []){o:Oper}{st:Ad}{Bt:Array Operand}{ts:Array TypeId}{vs:A2 XV}{K:Out→A3 R}{r:R}
  (ho:o.op = .call { callee:=.value (.func f),args:=Bt,argTypes:=ts }) (hv:C5 st Bt.toList=some vs) (h:B88 (P:=P) t ks rs F F0 o st vs K=some r):∃out,K out=some r∧Br P o st out:=by
 have e:Bm o=Bt.toList:=by simp[Bm,ho]
 unfold B88 at h;rw[e]at h;split at h
 ·rename_i x ops v vs' hl;cases hos:Bh6 v with
  |true =>simp only[hos,Bkn]at h;exact Bbc hc hs ho hv h
  |false =>
   simp only[hos,Bko]at h;rw[hl]at hv;obtain⟨hx,Nz⟩:=F4 hv;split at h
   ·rename_i hd;obtain⟨Fv,xs,h1,h2,h3,h4,h5⟩:=Aao (st:=st) ks F0 ops vs' [] [] [] hs0 Nz rfl rfl (by simp[B0]) rfl h;obtain⟨y,hy,hK⟩:=Blr.1 h5;simp only[Bm0]at h1 h4 hK;refine⟨_,hK,A8 ?_ fun X=>?_⟩
    ·intro p hp;rcases Bkq.1 hp with rfl|hp
     ·exact P6 hx hd
     ·exact h4 p hp
    ·have hl':Bt.size=ops.length+1:=by rw[← Bmv,hl];rfl
     have:=Aoj (X:=X) (xs:=A9 (.d (.sl t [])::xs)) ho hc (h2 y hy) (by simp only[A9,Blg,Ag,hl',h1]) (by
      simp only[A9,Ba,Aif h3,Bnd];rfl) (A7t _ y)
     have e6:B0 ((x,.d (.sl t []))::ops.zip xs)=(x::ops).zip (A9 (.d (.sl t [])::xs)):=by rw[A9,Bnn,← Iy];rfl
     rw[hl]at this;rw[e6];exact this
   ·cases h
 ·cases h
def Bh7{P:Program}{Γ:A2 (Ga P)}{own:A2 Nat}{N:Nat}(id:FuncId)(fn:Func)(an an0:An)(t:Ty)(ks:A2 AK)(rs:A2 RK)(F:List t.T→Nat→Oe ks (A3 (List t.T×Sn rs)))(F0:Oe ks (A3 (B6 (Tu t rs))))(hm:P.follows .mixedOrders=true)(hf:P.funcs[id]? = some fn)
  (hc:Ez P id) (hn:Nat.ble (ks.length+1) fn.ntmps=true) (hE:B49 P Γ own N fn an t ks rs=F) (hE0:Av1 P Γ own N fn an0 t ks rs=F0):Ga P where
 id:=id
 run:=B88 (P:=P) t ks rs F F0
 ok:=by intro R o st Bt ts vs K r ho hv h;exact B89 hc (fun l n=>hE▸Az5 hm hf hn l n) (hE0▸Av2 hm hf hn) ho hv h
def B1m {P : Program} (Γ : List (Ga P)) (own : List Nat) (N : Nat) (id : FuncId) {fn : Func} (an an0 : An) (t : Ty) (ks : List AK) (rs : List RK) (F : List t.T → Nat → Oe ks (Option (List t.T × Sn rs))) (F0 : Oe ks (Option (B6 (Tu t rs)))) (hm : P.follows .mixedOrders = true) (hf : P.funcs[id]? = some fn) (hb : fn.body.isSome = true) (Wk : (fn.name == "runtime.NumGoroutine") = false) (hn : Nat.ble (ks.length + 1) fn.ntmps = true) (hE : B49 P Γ own N fn an t ks rs = F) (hE0 : Av1 P Γ own N fn an0 t ks rs = F0) : Ga P := Bh7 id fn an an0 t ks rs F F0 hm hf (.mk' hf hb Wk) hn hE hE0
def B8a(P:Program)(fn:Func)(t:Ty)(s:Ad):A3 (A3 (List t.T×Nat)) :=
 match Aam P s fn.results.toList with
 |some [.os k t' a n]=>match lk k s.objs with
  |some (.arr u l)=>if h:u.Ji t=true then cond (t'.Ji t) (cond (Nat.beq a 0) (cond (Nat.ble 1000 k) (some (some ((Ty.Au h▸l:List t.T),n))) none) none) none else none
  |_=>none
 |some [x]=>match Rf (.sl t) x with
  |some l=>Ee l (some none) fun _ _=>none
  |none=>none
 |_=>none
def Aap(P:Program)(fn:Func)(t:Ty):Exit→Ad→A3 (A3 (List t.T×Nat))
 |.ret,s=>B8a P fn t s
 |.normal,s=>B8a P fn t s
 |_,_=>none
def Av3(P:Program)(Γ:A2 (Ga P))(own:A2 Nat)(N:Nat)(fn:Func)(an:An)(t:Ty)(xs:A2 XV):A3 (A3 (List t.T×Nat)) :=
 match fn.body with
 |some c=>cond (Nat.ble fn.ntmps GB) (exec P Γ own [] fn.ntmps N c an ⟨A7q 0 xs,[],[],[],[]⟩ (Aap P fn t)) none
 |none=>none
def Aig(P:Program)(f:FuncId)(t:Ty)(y:A3 (List t.T×Nat))(xs:A2 XV):Prop :=
 match y with
 |none=>Lz P f (A9 xs) X0 (.d (.sl t.size [])) X0
 |some z=>Lz P f (A9 xs) X0 (.osl 1 0 z.2 t.size) (O1 t z.1)
theorem Aen{P:Program}{R:Type}{f:FuncId}{fn:Func}{c:Code}{nm:A2 Nat}{Ek:∀j∈nm,j<1000}{xs:A2 XV}{objs:A2 (Nat×Ac)}{s0:Ad}{K:Exit→Ad→A3 R}{r:R}{res:AV}{X':A7}
  (hf:P.funcs[f]? = some fn) (hc:fn.body=some c) (hn:xs.length≤fn.ntmps) (hG:fn.ntmps≤GB) (Wk:(A6 objs).map (·.1)=nm) (hs:AWp P ⟨fn.ntmps,nm,Ek⟩ c (Aux s0 K r) (Ad.im ⟨A7q 0 xs,objs,[],[],[]⟩))
  (Bbd:∀e Bq,K e Bq=some r→e = .ret∨e = .normal)
  (fin:∀B e Bq a' w' g',K e Bq=some r→SR ⟨fn.ntmps,nm,Ek⟩ B g' w' Bq.im a'→∃v g'',(results fn a'.tmps).run P w' = .ok v w'∧RA g'' w' res v∧HR nm B g'' w' X') :
  Lz P f (A9 xs) ⟨A6 objs,[]⟩ res X':=by
 subst Wk;intro g w vs hr hl ha;refine Bq0 hf hc (Bpd (hs (Bl.of g w ⟨A6 objs,[]⟩) g w _ ?_) ?_)
 ·refine⟨rfl,?_,hr,?_⟩
  ·rw[Ag]at hl;simp;omega
  ·intro t x hx;have hx':(A16 0 (A9 xs)).lookup t=some x:=by rw[← A4r];exact hx
   obtain⟨_,hx'⟩:=N4 hx';rw[Bnu]at hx';have Bs:t<vs.size:=by have:=(Bku.1 hx').1;omega
   refine⟨vs[t],?_,ha t x _ hx' (by simp[Bs])⟩;rw[Ag]at hl;rw[Rg (by omega)];simp[Bog,Bs]
 ·rintro e a' w' ⟨s,g',⟨Bq,rfl,hi,hk⟩,H4⟩;obtain⟨v,g'',h1,h2,h3⟩:=fin _ e Bq a' w' g' hk H4;have key:a'.defers=[]∧∃v,(results fn a'.tmps).run P w' = .ok v w'∧∃g' v_1,Ending.returned v=Ending.returned v_1∧RA g' w' res v_1∧HR ((A6 objs).map (·.1)) (Bl.of g w ⟨A6 objs,[]⟩) g' w' X' :=
   ⟨H4.defers,v,h1,g'',v,rfl,h2,h3⟩
  rcases Bbd e Bq hk with rfl|rfl
  ·exact key
  ·exact key
theorem A2z{P:Program}{Γ:A2 (Ga P)}{own:A2 Nat}{N:Nat}{f:FuncId}{fn:Func}{an:An}{t:Ty}{xs:A2 XV}{y:A3 (List t.T×Nat)}(hm:P.follows .mixedOrders=true)(hf:P.funcs[f]? = some fn)
  (hn:Nat.ble xs.length fn.ntmps=true) (h:Av3 P Γ own N fn an t xs=some y):Aig P f t y xs:=by
 unfold Av3 at h;split at h
 ·rename_i c hc;obtain⟨hG,h⟩:=An4 h;have hs:=Ro (S:=⟨fn.ntmps,[],by simp⟩) hm rfl c an _ _ _ _ (.refl _) h;have Bbd:∀e Bq,Aap P fn t e Bq=some y→e = .ret∨e = .normal:=by intro e Bq hk;cases e<;>simp_all [Aap]
  have Rn:∀e Bq,Aap P fn t e Bq=some y→B8a P fn t Bq=some y:=by intro e Bq hk;cases e<;>simp_all [Aap]
  cases y with
  |none =>
   refine Aen (objs:=[]) (Ek:=by simp[A6,Dv,Dx]) hf hc (Bl5 hn) hG rfl hs Bbd fun B e Bq a' w' g' hk H4=>?_
   have h:=Rn e Bq hk;unfold B8a at h;split at h
   ·split at h
    ·split at h
     ·rename_i k t' a n _ _ _ _ _ _;cases h2:t'.Ji t<;>cases h3:Nat.beq a 0<;>cases h4:Nat.ble 1000 k<;>simp[h2,h3,h4]at h
     ·cases h
    ·cases h
   ·rename_i x _ hx;split at h
    ·rename_i l hd;cases l with
     |cons _ _=>simp[Ee]at h
     |nil =>
     obtain⟨v,hv,T8⟩:=M4 (S7 hx) H4;have hw:Asy [] Bq.im ⟨[],X0⟩:=⟨by simp,by simp[X0],by simp[X0],by simp⟩;obtain⟨g'',ht,Ad0⟩:=H4.A8z hw;have Aid:=T8.mono ht (.nil _);exact⟨v,g'',hv,Z1 hd g'' w' v Aid,Ad0.hr⟩
    ·cases h
   ·cases h
  |some z =>
   refine Aen (objs:=[]) (Ek:=by simp[A6,Dv,Dx]) hf hc (Bl5 hn) hG rfl hs Bbd fun B e Bq a' w' g' hk H4=>?_
   have h:=Rn e Bq hk;unfold B8a at h;split at h
   ·rename_i k t' a n hx;split at h
    ·rename_i u l Im;split at h
     ·rename_i hu;have:=Ty.Au hu;subst this;cases h2:t'.Ji u with
      |false=>simp[h2]at h
      |true =>
      cases h3:Nat.beq a 0 with
      |false=>simp[h2,h3]at h
      |true =>
      cases h4:Nat.ble 1000 k with
      |false=>simp[h2,h3,h4]at h
      |true =>
       simp only[h2,h3,h4,Bkn,Bks]at h;subst h;have e1:=Ty.Au h2;have e2:=Bkr h3;have e3:=Bl5 h4;subst e1;subst e2;obtain⟨v,hv,T8⟩:=M4 (S7 hx) H4;have hw:Asy [] Bq.im ⟨[],⟨[(k,(Ac.arr t' l).o)],[]⟩⟩:=⟨by simp,by
        intro p hp;simp only[Bl7]at hp;subst hp;exact P3 Im,by simp,by simp⟩
       obtain⟨g'',ht,Ad0⟩:=H4.A8z hw;have Aid:=T8.mono ht (.nil _);obtain⟨Xx,V4⟩:=Ad0.hr.Abv (k:=k) (m:=1) (o:=(Ac.arr t' l).o) (by simp[A6,Dv,Dx]) (by simp[A6,Dv,Dx]) (by
        have:=A23 [1] t' l;simp[B7,this]) (by simp) (by omega)
       refine⟨v,_,hv,?_,Xx.alike ⟨fun j=>?_,rfl⟩⟩
       ·refine RA.Auw (g:=g'') (k:=k) ?_ (show Nj g''.ρ 1 (g''.ρ k) 1=g''.ρ k from Aa _ _ _);simp only[A9,Zu,XV.a,Bnt]at Aid;exact Aid
       ·simp only[O1,Blw,Ab.B1];by_cases hj:j=1
        ·subst hj;simp
        ·simp
     ·cases h
    ·cases h
   ·split at h
    ·rename_i l _;cases l<;>simp[Ee]at h
    ·cases h
   ·cases h
 ·cases h
def Bet{P:Program}{R:Type}(t:Ty)(ks:A2 AK)(F:Oe ks (A3 (A3 (List t.T×Nat))))(o:Oper)(st:Ad)(vs:A2 XV)(K:Out→A3 R):A3 R :=
 match newName o with
 |some m=>Aan ks F (Bm o) vs [] fun Fv rd=>Option.bind Fv fun y=>A4 y (K (B5 st (.d (.sl t [])) rd)) fun z =>cond (Iq [m] st) (K ⟨.all,.os m t 0 z.2,rd,(m,.arr t z.1)::Df m st.objs,st.live,[m],[m]⟩) none
 |none=>none
theorem Bp.drop{P:Program}{o:Oper}{rd:A2 (Operand×AV)}{X X':A7}{F:A2 Nat}{res:AV}{m:Nat}(h:Bp P o rd (Ab.B1 m X) X' F res)(hm:1000≤m):Bp P o rd X X' F res:=by intro nm Ek B g w a hr Aq;exact h nm Ek B g w a (hr.B1 fun hh=>by have:=Ek m hh;omega) Aq
theorem Bp.Beu{P:Program}{o:Oper}{rd:A2 (Operand×AV)}{X X' Y:A7}{F:A2 Nat}{res:AV}(h:Bp P o rd X X' F res)(e:Ab.Alike X' Y):Bp P o rd X Y F res:=by
 intro nm Ek B g w a hr Aq next Q hn
 exact h nm Ek B g w a hr Aq next Q fun g' w' v h1 h2 h3=>hn g' w' v (h1.alike e) h2 h3
theorem Bbe{P:Program}{R:Type}{f:FuncId}{t:Ty}{ks:A2 AK}{F:Oe ks (A3 (A3 (List t.T×Nat)))}(hc:Ez P f)(hs:Ad3 (Aig P f t) ks F []){o:Oper}{st:Ad}{Bt:Array Operand}{ts:Array TypeId}{vs:A2 XV}{K:Out→A3 R}{r:R}
  (ho:o.op = .call { callee:=.value (.func f),args:=Bt,argTypes:=ts }) (hv:C5 st Bt.toList=some vs) (h:Bet (P:=P) t ks F o st vs K=some r):∃out,K out=some r∧Br P o st out:=by
 have e:Bm o=Bt.toList:=by simp[Bm,ho]
 unfold Bet at h;rw[e]at h;split at h
 ·rename_i m hm;obtain⟨Fv,xs,h1,h2,h3,h4,h5⟩:=Aao (st:=st) ks F Bt.toList vs [] [] [] hs hv rfl rfl (by simp[B0]) rfl h;obtain⟨y,hy,hK⟩:=Blr.1 h5;simp only[Bm0]at h1 h4 hK;have hd:=h2 y hy;cases y with
  |none =>
   simp only[A4]at hK;refine⟨_,hK,A8 h4 fun X=>?_⟩;have hda:Ba (A9 xs)=true:=by
    clear h1 h2 h4 h5 hd hK hy;induction xs with
    |nil=>rfl
    |cons x r ih =>
     simp only[Xj]at h3;cases hx:Aie x with
     |false=>simp[hx]at h3
     |true =>
      simp only[hx,Bkn]at h3;have:Ki x.a=true:=by unfold Aie at hx;split at hx<;>first|rfl|cases hx
      simp only[A9,Ba,this,ih h3,Bmo]
   have:=Aoj (X:=X) (xs:=A9 xs) ho hc hd (by rw[Ag,h1];simp) hda rfl;rw[Iy];exact this
  |some z =>
   simp only[A4]at hK;cases h6:Iq [m] st with
   |false=>simp[h6]at hK
   |true =>
    simp only[h6,Bkn]at hK;have hm1:=A06 hm;refine⟨_,hK,⟨h4,?_,fun j x hj hx=>?_⟩⟩
    ·refine Bp.drop (m:=m) ?_ hm1;have h6x:=h6;have hoc:Afs (Ab.B1 m st.X) X0 (O1 t z.1) (nf [(1,m)]) [m]:=by
      refine⟨⟨rfl,rfl⟩,by simp[X0],by simp[X0],by simp[O1,Ad6],by simp[O1],by simp[X0],?_,by simp[X0],?_⟩
      ·intro p hp;simp only[O1,Bl7]at hp;subst hp;exact .inr ⟨by simp[nf],by simp[nf,Ab.B1,Dr]⟩
      ·have h6:=Nb h6x;unfold B7 at h6⊢;simp only[Boz,Bou]at h6⊢;rw[Bly]at h6⊢;intro p hp;simp only[Ab.B1,Blu]at hp;exact h6 p hp.1
     have Tq:=Ae0 (X:=Ab.B1 m st.X) [(1,m)] [m] ho hc hd hoc (by rw[Ag,h1];simp) (A2x h3) rfl;rw[Ad4 h3,← Iy]at Tq;have e7:Ou (nf [(1,m)]) (O1 t z.1).objs (Ab.B1 m st.X).objs=Ab.setObj m (Ac.arr t z.1).o (Ab.B1 m st.X).objs:=by simp only[O1,Ou,Ad5];rfl
     rw[e7]at Tq;have e8:Ds (nf [(1,m)]) (.osl 1 0 z.2 t.size)=(XV.os m t 0 z.2).a:=by simp only[XV.a,Bnt];rfl
     rw[e8]at Tq;refine Bp.Beu Tq ⟨fun j=>?_,rfl⟩;show(Ab.setObj m (Ac.arr t z.1).o (Ab.B1 m st.X).objs).lookup j=(A6 ((m,Ac.arr t z.1)::Df m st.objs)).lookup j;rw[show A6 ((m,Ac.arr t z.1)::Df m st.objs)=(m,(Ac.arr t z.1).o)::A6 (Df m st.objs)from rfl,B3,Blw,Qc (Se h6x)];by_cases hj:j=m
     ·subst hj;simp
     ·have:(j==m)=false:=by simpa using hj
      rw[Blj hj,this];rfl
    ·simp only[Bkq,Blh,Bma]at hj;rw[Cq hj]at hx;exact Sf hx
 ·cases h
def Bj8{P:Program}(id:FuncId)(t:Ty)(ks:A2 AK)(F:Oe ks (A3 (A3 (List t.T×Nat))))(hc:Ez P id)(hs:Ad3 (Aig P id t) ks F []):Ga P where
 id:=id
 run:=Bet (P:=P) t ks F
 ok:=by intro R o st Bt ts vs K r ho hv h;exact Bbe hc hs ho hv h
open Go.Sort Go.Proofs
def Ty.Bbf:(t:Ty)→t.T
 |.int _=>(0:Int)
 |.u8=>(0:UInt8)
 |.bool=>false
 |.str=>([]:A2 UInt8)
 |.sl _=>[]
 |.unit=>()
 |.pair a b=>(a.Bbf,b.Bbf)
 |.st1 a=>a.Bbf
 |.tab _=>[]
 |.err=>false
 |.ic _ _=>none
 |.ptr=>()
def Bev:D→Value
 |.sc v=>v
 |_=>undef
def A0m:A2 D→Bool
 |[]=>true
 |.sc _::r=>A0m r
 |_::_=>false
theorem Aih:∀ {l:A2 D},A0m l=true→(l.map Bev).map .sc=l
 |[],_=>rfl
 |.sc v::r,h=>by simp only[Bkv,Bev];rw[Aih (l:=r) h]
 |.agg _::r,h=>by simp[A0m]at h
 |.sl _ _::r,h=>by simp[A0m]at h
 |.ep _::r,h=>by simp[A0m]at h
 |.any _::r,h=>by simp[A0m]at h
def Ty.Tc(t:Ty)(x:t.T):A2 Value:=(t.ds x).map Bev
structure Ty.Plain(t:Ty):Prop where
 ok:∀x:t.T,A0m (t.ds x)=true
theorem Ty.Plain.Tc{t:Ty}(h:t.Plain)(x:t.T):(t.Tc x).map D.sc=t.ds x:=Aih (h.ok x)
theorem Ty.A30(t:Ty)(x:t.T):(t.Tc x).length=t.size:=by simp[Ty.Tc,Ty.Cf]
theorem Ty.Plain.flat{t:Ty}(h:t.Plain)(l:List t.T):((l.map t.Tc).flatten.map fun v=>AV.d (.sc v))=((l.map t.ds).flatten.map .d):=by
 induction l with
 |nil=>rfl
 |cons x r ih =>simp only[Bkv,Bmj,Ble,ih];rw[← h.Tc x,Bnh];rfl
@[reducible] def An9 (T:Ty):Inhabited T.T:=⟨T.Bbf⟩
structure Ana(P:Program)(f c:FuncId)(T:Ty)(φ:List T.T→List T.T):Prop where
 plain:T.Plain
 ci:Ez P f
 len:∀d,(φ d).length=d.length
 none:∀p cap w,Calls P f #[.slice p 0 cap,.func (.func c) #[] #[]] w fun e w'=>e = .returned (.tuple #[])∧w'=w
 some:letI:=An9 T;∀(l:List T.T) blk cap w,l.length≤4611686018427387903→HoldsK T.Tc T.size w blk 0 l.toArray→blk<w.heap.size →
  Calls P f #[.slice (some ⟨blk,0,.none⟩) l.length cap,.func (.func c) #[] #[]] w fun e w'=>e = .returned (.tuple #[])∧∃n os,w'=sortWorldK T.Tc T.size w blk 0 n (φ l).toArray os
def Aaq{P:Program}{R:Type}(c:FuncId)(T:Ty)(φ:A2 T.T→A2 T.T)(o:Oper)(st:Ad)(vs:A2 XV)(K:Out→A3 R):A3 R :=
 match Bm o,vs with
 |[s,x],[v,.Ff c' []]=>cond (Nat.beq c' c) (match v with
  |.os k t a len=>match lk k st.objs with
   |some (.arr u l)=>if h:u.Ji T=true then cond (t.Ji T) (cond (Nat.beq a 0) (cond (Nat.ble len l.length) (cond (Nat.ble len 4611686018427387903)
     (K ⟨.put k (.arr T (φ ((Ty.Au h▸l:A2 T.T).take len)++(Ty.Au h▸l:A2 T.T).drop len)),.E2 [],[(s,.os k T 0 len),(x,.Ff c [])],
      K6 k (.arr T (φ ((Ty.Au h▸l:A2 T.T).take len)++(Ty.Au h▸l:A2 T.T).drop len)) st.objs,st.live,[],[k]⟩) none) none) none) none else none
   |_=>none
  |v=>match Rf (.sl T) v with
   |some []=>K (B5 st (.E2 []) [(s,.d (.sl T [])),(x,.Ff c [])])
   |_=>none) none
 |_,_=>none
theorem Az6{P:Program}{R:Type}{f c:FuncId}{T:Ty}{φ:A2 T.T→A2 T.T}(hS:Ana P f c T φ){o:Oper}{st:Ad}{Bt:Array Operand}{ts:Array TypeId}{vs:A2 XV}{K:Out→A3 R}{r:R}
  (ho:o.op = .call { callee:=.value (.func f),args:=Bt,argTypes:=ts }) (hv:C5 st Bt.toList=some vs) (h:Aaq (P:=P) c T φ o st vs K=some r):∃out,K out=some r∧Br P o st out:=by
 have e:Bm o=Bt.toList:=by simp[Bm,ho]
 unfold Aaq at h;rw[e]at h;split at h
 ·rename_i s x v c' hl;have ho':o.op = .call { callee:=.value (.func f),args:=#[s,x],argTypes:=ts }:=by rw[ho,← hl]
  rw[hl]at hv;obtain⟨hs,hv⟩:=F4 hv;obtain⟨hx,_⟩:=F4 hv;cases h1:Nat.beq c' c with
  |false=>simp[h1]at h
  |true =>
  have e1:=Bkr h1;subst e1;simp only[h1,Bkn]at h;have sx:E3 st.im x (.Ff c' []):=Aj hx;split at h
  ·rename_i k t a len;split at h
   ·rename_i u l hk;split at h
    ·rename_i hu;have e2:=Ty.Au hu;subst e2;cases h2:t.Ji u with
     |false=>simp[h2]at h
     |true =>
     cases h3:Nat.beq a 0 with
     |false=>simp[h2,h3]at h
     |true =>
     cases h4:Nat.ble len l.length with
     |false=>simp[h2,h3,h4]at h
     |true =>
     cases h5:Nat.ble len 4611686018427387903 with
     |false=>simp only[h2,h3,h4,h5,Bkn,Bko]at h;cases h
     |true =>
      simp only[h2,h3,h4,h5,Bkn]at h;have e3:=Ty.Au h2;have e4:=Bkr h3;have e5:=Bl5 h4;have e6:=Bl5 h5;subst e3;subst e4;refine⟨_,h,⟨?_,⟨⟨Hb hk rfl rfl,rfl⟩,rfl,rfl,fun X hX=>?_⟩,?_⟩⟩
      ·intro p hp;simp only[B0,Bkv,Bll,Bkq,Blh,Bma]at hp;rcases hp with rfl|rfl
       ·exact Aj hs
       ·exact sx
      ·have Kz:X.objs.lookup k=some (.cells ((l.map t.Tc).flatten.map fun v=>.d (.sc v)) none):=by rw[hX,show st.X.objs.lookup k=_ from P3 hk,hS.plain.flat];rfl
       have key:Bp P o (B0 [(s,.os k t 0 len),(x,.Ff c' [])]) X ⟨Ab.setObj k (Ac.arr t (φ (l.take len)++l.drop len)).o X.objs,X.live⟩ [] (XV.E2 []).a:=by
        letI:=An9 t;have:=B6h (X:=X) (enc:=t.Tc) (sz:=t.size) t.A30 φ ho' hS.ci Kz e5 hS.len hS.none (fun blk cap w hH hb=>by
         have hd:(l.take len).length=len:=by simp;omega
         have:=hS.some (l.take len) blk cap w (by omega) hH hb;rw[hd]at this;exact this)
        rw[hS.plain.flat]at this;simp only[B0,Bkv,Bll,XV.a,Bnt,A9];exact this
       exact key
      ·intro j y hj hy;simp only[Bl7]at hj;rw[Jl _ _ _ _ hj]at hy;exact hy
    ·cases h
   ·cases h
  ·rename_i v hne;split at h
   ·rename_i hd;refine⟨_,h,A8 ?_ fun X=>?_⟩
    ·intro p hp;simp only[B0,Bkv,Bll,Bkq,Blh,Bma]at hp;rcases hp with rfl|rfl
     ·exact P6 hs hd
     ·exact sx
    ·exact Ae5 ho' hS.ci hS.none
   ·cases h
 ·cases h
def mkSort{P:Program}{f c:FuncId}{T:Ty}{φ:A2 T.T→A2 T.T}(hS:Ana P f c T φ):Ga P where
 id:=f
 run:=Aaq (P:=P) c T φ
 ok:=by intro R o st Bt ts vs K r ho hv h;exact Az6 hS ho hv h
end Go.Xl
