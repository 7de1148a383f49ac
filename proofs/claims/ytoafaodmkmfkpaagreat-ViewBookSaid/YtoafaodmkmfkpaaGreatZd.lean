import Derived.Test.YtoafaodmkmfkpaaGreatZc
import Derived.Shelf.SlSortCmp.NoneTotal
import Derived.IntWalk
import Derived.Test.YtoafaodmkmfkpaaGreatZb
import Derived.Test.YtoafaodmkmfkpaaGreatZa
import Derived.Test.YtoafaodmkmfkpaaGreatProg
import Derived.KernelRfl
import Derived.Sort.AssemblyPlain
import Derived.Shelf.SlGeneric
import Derived.Ground.SlsfProg
set_option linter.all false
set_option maxRecDepth 100000
open Go.IntKind (i64 u64 u16)
open Go.Proofs.Tryz
noncomputable section
namespace Go.Xl
open Go.Ab
def A2i{R:Type}(b:Nat→Nat):(i:Nat)→(S:Sh)→S.T→(A6 XV→A6 (Nat×Af)→R)→R
 |_,.nil,_,K=>K [] []
 |i,.d t r,x,K=>A2i b (i+1) r x.2 fun cs ks=>K ((t.enc x.1).map .d++cs) ks
 |i,.m kt vt r,x,K=>A9 x.1 (A2i b (i+1) r x.2 fun cs ks=>K (.d (.v (.map none))::cs) ks) fun y=>A2i b (i+1) r x.2 fun cs ks=>K (.nm (b i) .m::cs) ((b i,.map kt vt y.1 y.2)::ks)
 |i,.s a ty r,x,K=>A2i b (i+1) r x.2 fun cs ks=>K (.nm (b i) (.p 0)::cs) ((b i,.abs (b i) a ty x.1)::ks)
 |i,.z a ty r,x,K=>A9 x.1 (A2i b (i+1) r x.2 fun cs ks=>K (.d (.v (.pointer none))::cs) ks) fun y=>A2i b (i+1) r x.2 fun cs ks=>K (.nm (b i) (.p 0)::cs) ((b i,.abs (b i) a ty y)::ks)
theorem A48{R:Type}(b:Nat→Nat):∀(S:Sh) (i:Nat) (x:S.T) (K:A6 XV→A6 (Nat×Af)→R),A2i b i S x K=K (S.Ds b i x) (S.kids b i x)
 |.nil,i,x,K=>rfl
 |.d t r,i,x,K=>by simp only[A2i,A48 b r,Sh.Ds,Sh.kids]
 |.m kt vt r,i,x,K=>by
  simp only[A2i,A48 b r,Sh.Ds,Sh.kids];cases x.1<;>rfl
 |.s a ty r,i,x,K=>by simp only[A2i,A48 b r,Sh.Ds,Sh.kids]
 |.z a ty r,i,x,K=>by
  simp only[A2i,A48 b r,Sh.Ds,Sh.kids];cases x.1<;>rfl
def A0d(k i:Nat):Nat:=100*(k+1)+i
def A5y{R:Type}:A6 (Nat×Af)→(A6 (Nat×Af)→R)→R
 |[],K=>K []
 |p::r,K=>match p.2 with
  |.abs h S ty x=>A2i (A0d p.1) 0 S x fun cs ks=>A5y r fun os=>K ((p.1,.cells cs ty)::(ks++os))
  |o=>A5y r fun os=>K ((p.1,o)::os)
def A0e:A6 (Nat×Af)→A6 (Nat×Af)
 |[]=>[]
 |p::r=>(match p.2 with
  |.abs h S ty x=>(p.1,.cells (S.Ds (A0d p.1) 0 x) ty)::S.kids (A0d p.1) 0 x
  |o=>[(p.1,o)])++A0e r
theorem A8i{R:Type}:∀(l:A6 (Nat×Af)) (K:A6 (Nat×Af)→R),A5y l K=K (A0e l)
 |[],K=>rfl
 |p::r,K=>by
  obtain⟨k,o⟩:=p;cases o with
  |abs h S ty x=>simp only[A5y,A0e,A48,A8i r];rfl
  |_=>simp only[A5y,A0e,A8i r];rfl
def As3:A6 (Nat×Af)→Bool
 |[]=>true
 |p::r=>match p.2 with
  |.abs h S _ _=>cond (Nat.beq h p.1) (cond (S.small 0) (cond (Nat.ble S.len 100) (cond (Nat.blt p.1 9) (As3 r) false) false) false) false
  |_=>false
structure Bje(p:Nat×Af):Prop where
 ex:∃S ty x,p.2 = .abs p.1 S ty x∧S.small 0=true∧S.len≤100
 lt:p.1<9
theorem Abd:∀ {l:A6 (Nat×Af)},As3 l=true→∀p∈l,Bje p
 |[],_,p,hp=>by simp at hp
 |q::r,h,p,hp=>by
  obtain⟨k,o⟩:=q;simp only[As3]at h;cases o with
  |abs h' S ty x =>
   simp only at h;obtain⟨h1,h⟩:=Ap h;obtain⟨h2,h⟩:=Ap h;obtain⟨h3,h⟩:=Ap h;obtain⟨h4,h⟩:=Ap h;rcases Bnd.1 hp with rfl|hp
   ·exact⟨⟨S,ty,x,by rw[Bne h1],h2,Bnu h3⟩,by simpa[Bpb]using h4⟩
   ·exact Abd h p hp
  |_=>cases h
theorem Adt{q:Nat×Af}:∀ {l:A6 (Nat×Af)},As3 l=true→q∈A0e l→∃k S ty x,(k,Af.abs k S ty x)∈l∧k<9∧S.small 0=true∧S.len≤100∧(q=(k,.cells (S.Ds (A0d k) 0 x) ty)∨q∈S.kids (A0d k) 0 x)
 |[],_,hq=>by cases hq
 |p::r,h,hq=>by
  obtain⟨⟨S,ty,x,e,h2,h3⟩,h4⟩:=Abd h p Bnm;obtain⟨k,o⟩:=p;simp only at e h4;subst e;have hr:As3 r=true:=by simp only[As3]at h;exact(Ap (Ap (Ap (Ap h).2).2).2).2
  simp only[A0e,Bnk,Bnd]at hq;rcases hq with (hq|hq)|hq
  ·exact⟨k,S,ty,x,Bnm,h4,h2,h3,.inl hq⟩
  ·exact⟨k,S,ty,x,Bnm,h4,h2,h3,.inr hq⟩
  ·obtain⟨k',S',Xy,x',a1,a2⟩:=Adt hr hq;exact⟨k',S',Xy,x',Bnl _ a1,a2⟩
def Je(n:Nat):Nat:=cond (Nat.ble 100 n) (cond (Nat.blt n 1000) (Fu (n/100-1) (n % 100)) n) n
variable{k j N M0:Nat}{l objs told:A6 (Nat×Af)}{ns C5 nm own ks:A6 Nat}{cs vs us:A6 XV}{T' Vi:A6 (Nat×Nat)}{q:Nat×Af}{f0 γ:Nat→Nat}
def As4(hk:k<9)(hj:j<100):Je (A0d k j)=Fu k j:=by unfold Je A0d;rw[Bp0 (show 100≤100*(k+1)+j by omega),A0c (show 100*(k+1)+j<1000 by omega),Bna,Bna];congr 1<;>omega
def Abe(hk:k<9):Je k=k:=by
 unfold Je;cases hb:Nat.ble 100 k with
 |true=>have:=Bnu hb;omega
 |false=>rfl
def Bda(hk:k<9)(hj:j<100):A0d k j<1000:=by unfold A0d;omega
def A1y{n:Nat}(h:n<1000):n<H0:=by unfold H0;omega
def Abf(base:Nat→Nat)(h:Nat):A6s (Ou base) h:=fun m j hj _=>Ba8 hj
def Afp(h:(l.map (·.1)).Nodup){p:Nat×Af}(hp:p∈l):lk p.1 l=some p.2:=by rw[Au9];exact Bo h hp
def Amb{a b i:Nat}(ha:a<H0)(hi:i<1000)(hj:j<1000):¬Db (Fu b j) (Fu a i):=by
 intro h;generalize hn:Fu a i=n at h;cases h with
 |here l hl=>have:=(Ha hi hl hn).1;have:=R5 b j;omega
 |deep l hl h2=>have:=(Ha hi hl hn).1;subst this;have:=h2.ge;omega
variable{B:B8}{g:Gh}{w:World}
def HR.opened(ho:As3 l=true)(hn:(l.map (·.1)).Nodup)(ha:Pe l=true)(hr:HR ns B g w ⟨Aa l,[]⟩)(hns:∀k∈ns,k∈l.map (·.1)) :
  HR ns B (g.pull (Ou Je)) w ⟨Aa (A0e l),[]⟩:=by
 let f:=Ou Je;have fk:∀ {k},k<9→f k=k:=fun {k} hk=>by show Ou Je k=k;rw[Wy (A1y (by omega)),Abe hk]
 have Avx:∀ {k j},k<9→j<100→f (A0d k j)=Fu k j:=fun {k j} hk hj=>by show Ou Je _=_;rw[Wy (A1y (Bda hk hj)),As4 hk hj]
 have names:∀n o,(Aa (A0e l)).lookup n=some o→∃k S ty x,(k,Af.abs k S ty x)∈l∧k<9∧S.small 0=true∧S.len≤100 ∧
   ((n=k∧o=(Af.cells (S.Ds (A0d k) 0 x) ty).o)∨∃q∈S.kids (A0d k) 0 x,(n=q.1∧o=q.2.o)∨(n,o)∈q.2.C7):=by
  intro n o h;rcases A3c h with ⟨y,hy,rfl⟩|⟨p,hp,h2⟩
  ·have hm:=Gg hy;obtain⟨k,S,ty,x,a1,a2,a3,a4,a5⟩:=Adt ho hm;refine⟨k,S,ty,x,a1,a2,a3,a4,?_⟩;rcases a5 with a5|a5
   ·cases a5;exact .inl ⟨rfl,rfl⟩
   ·exact .inr ⟨_,a5,.inl ⟨rfl,rfl⟩⟩
  ·obtain⟨k,S,ty,x,a1,a2,a3,a4,a5⟩:=Adt ho hp;refine⟨k,S,ty,x,a1,a2,a3,a4,?_⟩;rcases a5 with a5|a5
   ·rw[a5]at h2;cases h2
   ·exact .inr ⟨_,a5,.inr (G4 h2)⟩
 have inX:∀ {k S ty x},(k,Af.abs k S ty x)∈l→S.small 0=true→∀p∈S.C7 k 0 x,(Aa l).lookup p.1=some p.2:=by intro k S ty x hm hs p hp;exact Acm ha hm (Bo (S.Ia k 0 x hs) hp)
 refine hr.pull (f:=f) rfl ?_ ?_ ?_ ?_
 ·intro n o h;obtain⟨k,S,ty,x,a1,a2,a3,a4,a5⟩:=names n o h;rcases a5 with ⟨rfl,rfl⟩|⟨q,hq,a5⟩
  ·rw[fk a2];have:=Lc (Afp hn a1);show(Aa l).lookup n=_;rw[this];simp only[Af.o,Qp];rw[S.Q5 0 x (b':=Fu n) fun j hj=>Avx a2 (by omega),S.I9]
  ·have e1:(f q.1,q.2.re f)∈S.kids (Fu k) 0 x:=by rw[← S.A0a 0 x (f:=f) (b:=A0d k) fun j hj=>Avx a2 (by omega)];exact Bnr (f:=fun q:Nat×Af=>(f q.1,q.2.re f)) hq
   have hk:=S.A5w (A0d k) 0 x a3 q hq;rcases a5 with ⟨rfl,rfl⟩|a5
   ·have:=(S.Oe k 0 x (f q.1,(q.2.re f).o)).2 ⟨_,e1,.inl rfl⟩;have:=inX a1 a3 _ this;rw[Af.Bgy hk (Abf _ _)]at this;exact this
   ·have e2:(f n,Ef f o)∈(q.2.re f).C7:=by rw[Af.As1 hk (Abf _ _)];exact Bnr (f:=fun p:Nat×Ob=>(f p.1,Ef f p.2)) a5
    exact inX a1 a3 _ ((S.Oe k 0 x _).2 ⟨_,e1,.inr e2⟩)
 ·intro n n' o o' h h' e;let R:Nat→Prop:=fun r=>r<9∨∃k j,k<9∧j<100∧r=A0d k j
  let A:Nat→Prop:=fun r=>∃k j,k<9∧j<100∧r=A0d k j
  have root:∀n o,(Aa (A0e l)).lookup n=some o→R n∨∃r,R r∧A r∧Db r n:=by
   intro n o h;obtain⟨k,S,ty,x,a1,a2,a3,a4,a5⟩:=names n o h;rcases a5 with ⟨rfl,_⟩|⟨q,hq,a5⟩
   ·exact .inl (.inl a2)
   ·obtain⟨j,_,hj,hqj⟩:=S.A0b (A0d k) 0 x q hq;rcases a5 with ⟨rfl,_⟩|a5
    ·exact .inl (.inr ⟨k,j,a2,by omega,hqj⟩)
    ·refine .inr ⟨q.1,.inr ⟨k,j,a2,by omega,hqj⟩,⟨k,j,a2,by omega,hqj⟩,?_⟩;rcases S.A5w (A0d k) 0 x a3 q hq with ⟨kt,vt,es,c,e⟩|⟨a,Xy,y,e,hs⟩
     ·rw[e]at a5;cases a5
     ·rw[e]at a5;exact a.D5 _ 0 y _ hs a5
  refine As2 (f:=f) (R:=R) (A:=A) (fun r _=>Abf _ r) ?_ ?_ (root n o h) (root n' o' h') e
  ·rintro r r' (h1|⟨k,j,h1,h2,rfl⟩) (h3|⟨k',j',h3,h4,rfl⟩) e
   ·rw[fk h1,fk h3]at e;exact e
   ·rw[fk h1,Avx h3 h4]at e;have:=R5 k' j';have:=A1y (n:=r) (by omega);omega
   ·rw[fk h3,Avx h1 h2]at e;have:=R5 k j;have:=A1y (n:=r') (by omega);omega
   ·rw[Avx h1 h2,Avx h3 h4]at e;obtain⟨rfl,rfl⟩:=Ha (by omega) (by omega) e;rfl
  ·rintro r r' hr ha' ⟨k',j',h3,h4,rfl⟩ hu;rw[Avx h3 h4]at hu;rcases hr with h1|⟨k,j,h1,h2,rfl⟩
   ·rw[fk h1]at hu;have:=hu.ge;have:=A1y (n:=r) (by omega);omega
   ·rw[Avx h1 h2]at hu;exact Amb (A1y (by omega)) (by omega) (by omega) hu
 ·intro n o h;obtain⟨k,S,ty,x,a1,a2,a3,a4,a5⟩:=names n o h;have cells:∀(b:Nat→Nat) (S:Sh) (i:Nat) (x:S.T),Ep (Ae (S.Ds b i x))=true:=by
   have dat:∀l:A6 D,∀m:A6 AV,Ep m=true→Ep (l.map .d++m)=true:=by
    intro l m hm;induction l with
    |nil=>exact hm
    |cons x r ih=>simp only[Bnh,Bpw,Ep,A03,ih,Bpe]
   intro b S;induction S with
   |nil=>intro i x;rfl
   |d t r ih=>intro i x;simp only[Sh.Ds,Eg,Wg];exact dat _ _ (ih (i+1) x.2)
   |m kt vt r ih=>intro i x;simp only[Sh.Ds,Ae,Ep,ih,Bq2];cases x.1<;>rfl
   |s a ty r _ ih=>intro i x;simp only[Sh.Ds,Ae,Ep,ih,Bq2];rfl
   |z a ty r _ ih=>intro i x;simp only[Sh.Ds,Ae,Ep,ih,Bq2];cases x.1<;>rfl
  have C7:∀(S:Sh) (h i:Nat) (x:S.T) (p:Nat×Ob),p∈S.C7 h i x→Vb p.2=true:=by
   intro S;induction S with
   |nil=>intro h i x p hp;cases hp
   |d t r ih=>intro h i x p hp;exact ih h (i+1) x.2 p hp
   |m kt vt r ih =>
    intro h i x p hp;rcases Bnk.1 hp with hp|hp
    ·cases hx:x.1 with
     |none=>rw[hx]at hp;cases hp
     |some y=>rw[hx]at hp;rw[Bnw]at hp;subst hp;rfl
    ·exact ih h (i+1) x.2 p hp
   |s a ty r ih1 ih2 =>
    intro h i x p hp;rcases Bnk.1 hp with hp|hp
    ·rcases Bnd.1 hp with rfl|hp
     ·show Ep _=true;rw[a.I9];exact cells _ a 0 x.1
     ·exact ih1 _ 0 x.1 p hp
    ·exact ih2 h (i+1) x.2 p hp
   |z a ty r ih1 ih2 =>
    intro h i x p hp;rcases Bnk.1 hp with hp|hp
    ·cases hx:x.1 with
     |none=>rw[hx]at hp;cases hp
     |some y =>
      rw[hx]at hp;rcases Bnd.1 hp with rfl|hp
      ·show Ep _=true;rw[a.I9];exact cells _ a 0 y
      ·exact ih1 _ 0 y p hp
    ·exact ih2 h (i+1) x.2 p hp
  rcases a5 with ⟨_,rfl⟩|⟨q,hq,a5⟩
  ·exact cells _ S 0 x
  ·rcases S.A5w (A0d k) 0 x a3 q hq with ⟨kt,vt,es,c,e⟩|⟨a,Xy,y,e,hs⟩
   ·rcases a5 with ⟨_,rfl⟩|a5
    ·rw[e];rfl
    ·rw[e]at a5;cases a5
   ·rcases a5 with ⟨_,rfl⟩|a5
    ·rw[e];show Ep _=true;rw[a.I9];exact cells _ a 0 y
    ·rw[e]at a5;exact C7 a _ 0 y _ a5
 ·intro k hk;obtain⟨p,hp,rfl⟩:=Bnp.1 (hns k hk);obtain⟨⟨S,ty,x,e,h2,h3⟩,h4⟩:=Abd ho p hp;refine⟨fk h4,hk,?_⟩;show((Aa (A0e l)).lookup p.1).isSome;have:∃y,lk p.1 (A0e l)=some y:=by
   have hm:∀l:A6 (Nat×Af),p∈l→(p.1,Af.cells (S.Ds (A0d p.1) 0 x) ty)∈A0e l:=by
    intro l;induction l with
    |nil=>intro h;cases h
    |cons q r ih =>
     intro h;simp only[A0e,Bnk];rcases Bnd.1 h with rfl|h
     ·left;rw[e];exact Bnm
     ·exact .inr (ih h)
   have h5:=hm l hp;have:∀l:A6 (Nat×Af),(∃y,(p.1,y)∈l)→∃y,lk p.1 l=some y:=by
    intro l;induction l with
    |nil=>rintro ⟨y,h⟩;cases h
    |cons q r ih =>
     rintro ⟨y,h⟩;rw[G7];cases hb:Nat.beq q.1 p.1 with
     |true=>exact⟨_,rfl⟩
     |false =>
      rcases Bnd.1 h with h|h
      ·rw[← h]at hb;simp at hb
      ·exact ih ⟨y,h⟩
   exact this _ ⟨_,h5⟩
  obtain⟨y,hy⟩:=this;rw[Lc hy];rfl
def Ao4(a:Sh)(ty:A7 TypeId)(j:Nat)(objs:A6 (Nat×Af)):Option a.T :=
 match lk j objs with
 |some (.abs h a' Xy y)=>if e:a'.Jx a=true then cond (Nat.beq h j) (cond (Xy==ty) (some (Sh.Av e▸y)) none) none else none
 |_=>none
variable{ty:A7 TypeId}
def Abg{a:Sh}{y:a.T}(h:Ao4 a ty j objs=some y):lk j objs=some (.abs j a ty y):=by
 unfold Ao4 at h;split at h
 ·rename_i h' a' Xy z hl;split at h
  ·rename_i e;have e':=Sh.Av e;cases hb:Nat.beq h' j with
   |false=>simp[hb]at h
   |true =>
    cases ht:Xy==ty with
    |false=>simp[hb,ht]at h
    |true =>subst e';simp only[hb,ht,Bna,Bnf]at h;subst h;rw[hl,Bne hb,eq_of_beq ht]
  ·cases h
 ·cases h
def mapOf(kt vt:Ty)(j:Nat)(objs:A6 (Nat×Af)):A7 (A6 (Nat×kt.T×vt.T)×Nat) :=
 match lk j objs with
 |some o=>(OK.map kt vt).dec o
 |none=>none
def Ba9{kt vt:Ty}{y:A6 (Nat×kt.T×vt.T)×Nat}(h:mapOf kt vt j objs=some y):lk j objs=some (.map kt vt y.1 y.2):=by
 unfold mapOf at h;split at h
 ·rename_i o hl;rw[hl,OK.Ara h];rfl
 ·cases h
def Lg(objs:A6 (Nat×Af)):(i:Nat)→(S:Sh)→A6 XV→A7 (S.T×A6 (Nat×Nat))
 |_,.nil,cs=>match cs with
  |[]=>some ((),[])
  |_=>none
 |i,.d t r,cs=>match Aiu (cs.take t.size) with
  |some ds=>match t.dec ds with
   |some (x,[])=>match Lg objs (i+1) r (cs.drop t.size) with
    |some (y,τ)=>some ((x,y),τ)
    |none=>none
   |_=>none
  |none=>none
 |i,.m kt vt r,cs=>match cs with
  |c::cs=>match Lg objs (i+1) r cs with
   |some (y,τ)=>match c with
    |.d (.v (.map none))=>some ((none,y),τ)
    |.nm j .m=>match mapOf kt vt j objs with
     |some z=>some ((some z,y),(i,j)::τ)
     |none=>none
    |_=>none
   |none=>none
  |[]=>none
 |i,.s a ty r,cs=>match cs with
  |c::cs=>match Lg objs (i+1) r cs with
   |some (y,τ)=>match c with
    |.nm j (.p 0)=>match Ao4 a ty j objs with
     |some z=>some ((z,y),(i,j)::τ)
     |none=>none
    |_=>none
   |none=>none
  |[]=>none
 |i,.z a ty r,cs=>match cs with
  |c::cs=>match Lg objs (i+1) r cs with
   |some (y,τ)=>match c with
    |.d (.v (.pointer none))=>some ((none,y),τ)
    |.nm j (.p 0)=>match Ao4 a ty j objs with
     |some z=>some ((some z,y),(i,j)::τ)
     |none=>none
    |_=>none
   |none=>none
  |[]=>none
def CLe(cs ds:A6 XV):Prop:=cs.length=ds.length∧∀(i:Nat) (x y:XV),cs[i]? = some x→ds[i]? = some y→Z2 x.a y.a
def CLe.nil:CLe [] []:=⟨rfl,by simp⟩
def CLe.cons{x y:XV}{ds:A6 XV}(h:Z2 x.a y.a)(h':CLe cs ds):CLe (x::cs) (y::ds):=by
 refine⟨by simp[h'.1],fun i a b ha hb=>?_⟩;cases i with
 |zero=>simp at ha hb;subst ha;subst hb;exact h
 |succ i=>exact h'.2 i a b (by simpa using ha) (by simpa using hb)
def CLe.app{a b c d:A6 XV}(h:CLe a b)(h':CLe c d):CLe (a++c) (b++d):=by
 refine⟨by simp[h.1,h'.1],fun i x y hx hy=>?_⟩;rw[Boz]at hx hy;rw[h.1]at hx;split at hx
 ·rename_i By;rw[Bo3 By]at hy;exact h.2 i x y hx hy
 ·rename_i By;rw[Bnv By]at hy;exact h'.2 _ x y hx hy
variable{t:Ty}
def Bdb{ds:A6 XD}{x:t.T}(h:Aiu cs=some ds)(h':t.dec ds=some (x,[])):CLe cs ((t.enc x).map .d):=by
 obtain⟨h1,h2⟩:=Adg h;obtain⟨ds',e1,e2⟩:=t.Wf h';simp only[Dm,Bom]at e1;have hl:ds.length=(t.enc x).length:=by
  have a1:(Dm ds).length=ds.length:=Gv ds;have a2:(t.ds x).length=(t.enc x).length:=by rw[← Ty.N7,Hj,Bo1]
  rw[e1]at a1;have:=e2.length;omega
 refine⟨by rw[h1,hl,Bo1],fun i u v hu hv=>?_⟩;rw[Bni,Bnn]at hv;obtain⟨d,hd,rfl⟩:=hv;have By:i<ds.length:=by rw[hl];exact(Bnj.1 hd).1
 have a1:=h2 i u ds[i] hu (by simp[By]);intro g w v hr;have a2:=a1 g w v hr;have a3:DLe (ds[i]).d d.d:=by
  have b1:(t.ds x)[i]? = some d.d:=by rw[← Ty.N7,Hj,Bni,hd];rfl
  obtain⟨z,b2,b3⟩:=e2.get b1;rw[← e1,Hj,Bni]at b2;simp only[By,Bng,Bol,Bnf]at b2;rw[b2];exact b3
 exact Z2.d a3 g w v a2
theorem Sl{objs:A6 (Nat×Af)}:∀(S:Sh) (i:Nat) (cs:A6 XV) (x:S.T) (τ:A6 (Nat×Nat)),Lg objs i S cs=some (x,τ)→∀b:Nat→Nat,(∀p∈τ,b p.1=p.2) →
  CLe cs (S.Ds b i x)∧∀q∈S.kids b i x,lk q.1 objs=some q.2∧∃p∈τ,q.1=b p.1∧i≤p.1∧p.1<i+S.len
 |.nil,i,cs,x,τ,h,b,hb=>by
  unfold Lg at h;split at h
  ·exact⟨.nil,fun q hq=>by cases hq⟩
  ·cases h
 |.d t r,i,cs,x,τ,h,b,hb=>by
  unfold Lg at h;split at h
  ·rename_i ds hds;split at h
   ·rename_i x0 Bgb;split at h
    ·rename_i y τ' hr;simp only[Bnf,Bo2]at h;obtain⟨rfl,rfl⟩:=h;obtain⟨h1,h2⟩:=Sl r (i+1) _ y τ' hr b hb;refine⟨?_,fun q hq=>?_⟩
     ·rw[← Bqs t.size cs];exact(Bdb hds Bgb).app h1
     ·obtain⟨a1,p,a2,a3,a4,a5⟩:=h2 q hq;exact⟨a1,p,a2,a3,by omega,by simp only[Sh.len];omega⟩
    ·cases h
   ·cases h
  ·cases h
 |.m kt vt r,i,cs,x,τ,h,b,hb=>by
  unfold Lg at h;split at h
  ·rename_i c cs;split at h
   ·rename_i y τ' hr;split at h
    ·simp only[Bnf,Bo2]at h;obtain⟨rfl,rfl⟩:=h;obtain⟨h1,h2⟩:=Sl r (i+1) _ y τ' hr b hb;refine⟨.cons (.refl _) h1,fun q hq=>?_⟩;obtain⟨a1,p,a2,a3,a4,a5⟩:=h2 q hq;exact⟨a1,p,a2,a3,by omega,by simp only[Sh.len];omega⟩
    ·rename_i j;split at h
     ·rename_i z hz;simp only[Bnf,Bo2]at h;obtain⟨rfl,rfl⟩:=h;obtain⟨h1,h2⟩:=Sl r (i+1) _ y τ' hr b fun p hp=>hb p (Bnl _ hp)
      have hj:b i=j:=hb (i,j) Bnm;refine⟨.cons (by rw[hj];exact .refl _) h1,fun q hq=>?_⟩;rcases Bnk.1 hq with hq|hq
      ·rw[Bnw]at hq;subst hq;refine⟨by rw[hj];exact Ba9 hz,(i,j),Bnm,rfl,Bno _,by simp only[Sh.len];omega⟩
      ·obtain⟨a1,p,a2,a3,a4,a5⟩:=h2 q hq;exact⟨a1,p,Bnl _ a2,a3,by omega,by simp only[Sh.len];omega⟩
     ·cases h
    ·cases h
   ·cases h
  ·cases h
 |.s a ty r,i,cs,x,τ,h,b,hb=>by
  unfold Lg at h;split at h
  ·rename_i c cs;split at h
   ·rename_i y τ' hr;split at h
    ·rename_i j;split at h
     ·rename_i z hz;simp only[Bnf,Bo2]at h;obtain⟨rfl,rfl⟩:=h;obtain⟨h1,h2⟩:=Sl r (i+1) _ y τ' hr b fun p hp=>hb p (Bnl _ hp)
      have hj:b i=j:=hb (i,j) Bnm;refine⟨.cons (by rw[hj];exact .refl _) h1,fun q hq=>?_⟩;rcases Bnd.1 hq with rfl|hq
      ·refine⟨by rw[hj];exact Abg hz,(i,j),Bnm,rfl,Bno _,by simp only[Sh.len];omega⟩
      ·obtain⟨a1,p,a2,a3,a4,a5⟩:=h2 q hq;exact⟨a1,p,Bnl _ a2,a3,by omega,by simp only[Sh.len];omega⟩
     ·cases h
    ·cases h
   ·cases h
  ·cases h
 |.z a ty r,i,cs,x,τ,h,b,hb=>by
  unfold Lg at h;split at h
  ·rename_i c cs;split at h
   ·rename_i y τ' hr;split at h
    ·simp only[Bnf,Bo2]at h;obtain⟨rfl,rfl⟩:=h;obtain⟨h1,h2⟩:=Sl r (i+1) _ y τ' hr b hb;refine⟨.cons (.refl _) h1,fun q hq=>?_⟩;obtain⟨a1,p,a2,a3,a4,a5⟩:=h2 q hq;exact⟨a1,p,a2,a3,by omega,by simp only[Sh.len];omega⟩
    ·rename_i j;split at h
     ·rename_i z hz;simp only[Bnf,Bo2]at h;obtain⟨rfl,rfl⟩:=h;obtain⟨h1,h2⟩:=Sl r (i+1) _ y τ' hr b fun p hp=>hb p (Bnl _ hp)
      have hj:b i=j:=hb (i,j) Bnm;refine⟨.cons (by rw[hj];exact .refl _) h1,fun q hq=>?_⟩;rcases Bnk.1 hq with hq|hq
      ·rw[Bnw]at hq;subst hq;refine⟨by rw[hj];exact Abg hz,(i,j),Bnm,rfl,Bno _,by simp only[Sh.len];omega⟩
      ·obtain⟨a1,p,a2,a3,a4,a5⟩:=h2 q hq;exact⟨a1,p,Bnl _ a2,a3,by omega,by simp only[Sh.len];omega⟩
     ·cases h
    ·cases h
   ·cases h
  ·cases h
theorem Nf{objs:A6 (Nat×Af)}{b:Nat→Nat}:∀ {S:Sh} {i:Nat} {cs:A6 XV} {x:S.T} {τ:A6 (Nat×Nat)},Lg objs i S cs=some (x,τ)→∀q∈S.kids b i x,∃p∈τ,q.1=b p.1
 |.nil,i,cs,x,τ,h,q,hq=>by cases hq
 |.d t r,i,cs,x,τ,h,q,hq=>by
  unfold Lg at h;split at h
  ·split at h
   ·split at h
    ·rename_i y τ' hr;simp only[Bnf,Bo2]at h;obtain⟨rfl,rfl⟩:=h;exact Nf hr q hq
    ·cases h
   ·cases h
  ·cases h
 |.m kt vt r,i,cs,x,τ,h,q,hq=>by
  unfold Lg at h;split at h
  ·split at h
   ·rename_i y τ' hr;split at h
    ·simp only[Bnf,Bo2]at h;obtain⟨rfl,rfl⟩:=h;exact Nf hr q hq
    ·split at h
     ·simp only[Bnf,Bo2]at h;obtain⟨rfl,rfl⟩:=h;rcases Bnk.1 hq with hq|hq
      ·rw[Bnw]at hq;subst hq;exact⟨_,Bnm,rfl⟩
      ·obtain⟨p,hp,e⟩:=Nf hr q hq;exact⟨p,Bnl _ hp,e⟩
     ·cases h
    ·cases h
   ·cases h
  ·cases h
 |.s a ty r,i,cs,x,τ,h,q,hq=>by
  unfold Lg at h;split at h
  ·split at h
   ·rename_i y τ' hr;split at h
    ·split at h
     ·simp only[Bnf,Bo2]at h;obtain⟨rfl,rfl⟩:=h;rcases Bnd.1 hq with rfl|hq
      ·exact⟨_,Bnm,rfl⟩
      ·obtain⟨p,hp,e⟩:=Nf hr q hq;exact⟨p,Bnl _ hp,e⟩
     ·cases h
    ·cases h
   ·cases h
  ·cases h
 |.z a ty r,i,cs,x,τ,h,q,hq=>by
  unfold Lg at h;split at h
  ·split at h
   ·rename_i y τ' hr;split at h
    ·simp only[Bnf,Bo2]at h;obtain⟨rfl,rfl⟩:=h;exact Nf hr q hq
    ·split at h
     ·simp only[Bnf,Bo2]at h;obtain⟨rfl,rfl⟩:=h;rcases Bnk.1 hq with hq|hq
      ·rw[Bnw]at hq;subst hq;exact⟨_,Bnm,rfl⟩
      ·obtain⟨p,hp,e⟩:=Nf hr q hq;exact⟨p,Bnl _ hp,e⟩
     ·cases h
    ·cases h
   ·cases h
  ·cases h
inductive AR where
 |d (t:Ty)
 |n (m:Nat) (S:Sh) (ty:Option TypeId)
 |z (m:Nat) (S:Sh) (ty:Option TypeId)
@[reducible] def B07:A6 (Nat×Sh×A7 TypeId)→Type
 |[]=>Unit
 |p::r=>p.2.1.T×B07 r
@[reducible] def AR.T:AR→Type
 |.d t=>t.T
 |.n _ S _=>S.T
 |.z _ S _=>A7 S.T
@[reducible] def Agl:A6 AR→Type
 |[]=>Unit
 |p::r=>p.T×Agl r
def B32(n:Nat):A6 (Nat×Nat)→A6 (Nat×Nat)
 |[]=>[]
 |p::r=>(Fu n p.1,p.2)::B32 n r
theorem Adu{n:Nat}:∀ {τ:A6 (Nat×Nat)} {p:Nat×Nat},p∈τ→(Fu n p.1,p.2)∈B32 n τ
 |q::r,p,h=>by
  rcases Bnd.1 h with rfl|h
  ·exact Bnm
  ·exact Bnl _ (Adu h)
def Ajl(objs:A6 (Nat×Af)):(L:A6 (Nat×Sh×A7 TypeId))→A7 (B07 L×A6 (Nat×Nat))
 |[]=>some ((),[])
 |p::r=>match lk p.1 objs with
  |some (.cells cs ty)=>cond (ty==p.2.2) (match Lg objs 0 p.2.1 cs,Ajl objs r with
   |some (x,τ),some (xs,σ)=>some ((x,xs),(p.1,p.1)::(B32 p.1 τ++σ))
   |_,_=>none) none
  |_=>none
def B33(S:Sh)(ty:A7 TypeId)(m j:Nat)(objs:A6 (Nat×Af)):A7 (S.T×A6 (Nat×Nat)×A6 Nat) :=
 match lk j objs with
 |some (.cells cs Xy)=>cond (Xy==ty) (match Lg objs 0 S cs with
  |some (x,τ)=>some (x,(m,j)::B32 m τ,[])
  |none=>none) none
 |_=>match Ao4 S ty j objs with
  |some x=>some (x,[(m,j)],[m])
  |none=>none
def Zb(objs:A6 (Nat×Af)):(L:A6 AR)→A6 XV→A7 (Agl L×A6 (Nat×Nat)×A6 Nat)
 |[],vs=>match vs with
  |[]=>some ((),[],[])
  |_=>none
 |.d t::r,vs=>match vs with
  |v::vs=>match S9 t v,Zb objs r vs with
   |some x,some (xs,σ,C5)=>some ((x,xs),σ,C5)
   |_,_=>none
  |[]=>none
 |.n m S ty::r,vs=>match vs with
  |v::vs=>match v,Zb objs r vs with
   |.nm j (.p 0),some (xs,σ,C5)=>match B33 S ty m j objs with
    |some (x,τ,bs)=>some ((x,xs),τ++σ,bs++C5)
    |none=>none
   |_,_=>none
  |[]=>none
 |.z m S ty::r,vs=>match vs with
  |v::vs=>match v,Zb objs r vs with
   |.nm j (.p 0),some (xs,σ,C5)=>match B33 S ty m j objs with
    |some (x,τ,bs)=>some ((some x,xs),τ++σ,bs++C5)
    |none=>none
   |.d (.v (.pointer none)),some (xs,σ,C5)=>some ((none,xs),σ,C5)
   |_,_=>none
  |[]=>none
def Afq:(L:A6 (Nat×Sh×A7 TypeId))→B07 L→A6 (Nat×Af)
 |[],_=>[]
 |p::r,x=>(p.1,.abs p.1 p.2.1 p.2.2 x.1)::Afq r x.2
def Uy:(L:A6 AR)→Agl L→A6 (Nat×Af)
 |[],_=>[]
 |.d _::r,x=>Uy r x.2
 |.n m S ty::r,x=>(m,.abs m S ty x.1)::Uy r x.2
 |.z m S ty::r,x=>(match x.1 with
  |some y=>[(m,.abs m S ty y)]
  |none=>[])++Uy r x.2
def As5:(L:A6 AR)→Agl L→A6 XV
 |[],_=>[]
 |.d t::r,x=>.d (t.xv x.1)::As5 r x.2
 |.n m _ _::r,x=>.nm m (.p 0)::As5 r x.2
 |.z m _ _::r,x=>(match x.1 with
  |some _=>.nm m (.p 0)
  |none=>.d (.v (.pointer none)))::As5 r x.2
inductive Src(objs:List (Nat×Af))(Vi:List (Nat×Nat))(C5:List Nat):Nat×Af→Prop
 |raw (n j:Nat) (S:Sh) (ty:Option TypeId) (x:S.T) (cs:List XV) (τ:List (Nat×Nat)):(n,j)∈Vi→lk j objs=some (.cells cs ty)→Lg objs 0 S cs=some (x,τ)→(∀p∈τ,(Fu n p.1,p.2)∈Vi)→Src objs Vi C5 (n,.abs n S ty x)
 |abs (n j:Nat) (S:Sh) (ty:Option TypeId) (x:S.T):(n,j)∈Vi→lk j objs=some (.abs j S ty x)→n∈C5→Src objs Vi C5 (n,.abs n S ty x)
def Src.mono{T:A6 (Nat×Nat)}{as':A6 Nat}(h:Src objs T C5 q)(h1:∀p∈T,p∈T')(h2:∀n∈C5,n∈as'):Src objs T' as' q:=by
 cases h with
 |raw n j S ty x cs τ a1 a2 a3 a4=>exact .raw n j S ty x cs τ (h1 _ a1) a2 a3 fun p hp=>h1 _ (a4 p hp)
 |abs n j S ty x a1 a2 a3=>exact .abs n j S ty x (h1 _ a1) a2 (h2 _ a3)
theorem Ao5{objs:A6 (Nat×Af)}:∀(L:A6 (Nat×Sh×A7 TypeId)) (x:B07 L) (σ:A6 (Nat×Nat)),Ajl objs L=some (x,σ)→(∀q∈Afq L x,Src objs σ [] q)∧∀p∈L,(p.1,p.1)∈σ
 |[],x,σ,h=>⟨fun q hq=>(by cases hq),by simp⟩
 |p::r,x,σ,h=>by
  unfold Ajl at h;split at h
  ·rename_i cs ty hl;cases ht:ty==p.2.2 with
   |false=>simp[ht]at h
   |true =>
    simp only[ht,Bna]at h;split at h
    ·rename_i x0 τ xs σ' hc hr;simp only[Bnf,Bo2]at h;obtain⟨rfl,rfl⟩:=h;obtain⟨h1,h2⟩:=Ao5 r xs σ' hr;have e:=eq_of_beq ht;refine⟨fun q hq=>?_,fun q hq=>?_⟩
     ·rcases Bnd.1 hq with rfl|hq
      ·exact .raw p.1 p.1 p.2.1 p.2.2 x0 cs τ Bnm (by rw[hl,e]) hc fun q hq=>Bnl _ (Bo0 _ (Adu hq))
      ·exact(h1 q hq).mono (fun p hp=>Bnl _ (Bnz _ hp)) (by simp)
     ·rcases Bnd.1 hq with rfl|hq
      ·exact Bnm
      ·exact Bnl _ (Bnz _ (h2 q hq))
    ·cases h
  ·cases h
def Avy{S:Sh}{m:Nat}{x:S.T}{τ:A6 (Nat×Nat)}{bs:A6 Nat}(h:B33 S ty m j objs=some (x,τ,bs)):Src objs τ bs (m,.abs m S ty x)∧(m,j)∈τ:=by
 unfold B33 at h;split at h
 ·rename_i cs Xy hl;cases ht:Xy==ty with
  |false=>simp[ht]at h
  |true =>
   simp only[ht,Bna]at h;split at h
   ·rename_i x0 τ' hc;simp only[Bnf,Bo2]at h;obtain⟨rfl,rfl,rfl⟩:=h;exact⟨.raw m j S ty x0 cs τ' Bnm (by rw[hl,eq_of_beq ht]) hc fun q hq=>Bnl _ (Adu hq),Bnm⟩
   ·cases h
 ·split at h
  ·rename_i x0 hk;simp only[Bnf,Bo2]at h;obtain⟨rfl,rfl,rfl⟩:=h;exact⟨.abs m j S ty x0 Bnm (Abg hk) Bnm,Bnm⟩
  ·cases h
inductive A8j(Vi:List (Nat×Nat)):List XV→List XV→Prop
 |nil:A8j Vi [] []
 |d {v:XV} {y:XD} {vs us:List XV}:Z2 v.a (.d y.d)→A8j Vi vs us→A8j Vi (v::vs) (.d y::us)
 |p {j m:Nat} {vs us:List XV}:(m,j)∈Vi→A8j Vi vs us→A8j Vi (.nm j (.p 0)::vs) (.nm m (.p 0)::us)
def A8j.mono{T:A6 (Nat×Nat)}(hT:∀p∈T,p∈T')(h:A8j T vs us):A8j T' vs us:=by
 induction h with
 |nil=>exact .nil
 |d a _ ih=>exact .d a ih
 |p a _ ih=>exact .p (hT _ a) ih
theorem A0f{objs:A6 (Nat×Af)}:∀(L:A6 AR) (vs:A6 XV) (x:Agl L) (σ:A6 (Nat×Nat)) (C5:A6 Nat),Zb objs L vs=some (x,σ,C5)→(∀q∈Uy L x,Src objs σ C5 q)∧A8j σ vs (As5 L x)
 |[],vs,x,σ,C5,h=>by
  unfold Zb at h;split at h
  ·exact⟨fun q hq=>(by cases hq),.nil⟩
  ·cases h
 |.d t::r,vs,x,σ,C5,h=>by
  unfold Zb at h;split at h
  ·rename_i v vs;split at h
   ·rename_i y xs σ' as' hd hr;simp only[Bnf,Bo2]at h;obtain⟨rfl,rfl,rfl⟩:=h;obtain⟨h1,h2⟩:=A0f r vs xs σ' as' hr;refine⟨h1,.d ?_ h2⟩;exact A05 hd
   ·cases h
  ·cases h
 |.n m S ty::r,vs,x,σ,C5,h=>by
  unfold Zb at h;split at h
  ·rename_i v vs;split at h
   ·rename_i j xs σ' as' hr;split at h
    ·rename_i y τ bs hn;simp only[Bnf,Bo2]at h;obtain⟨rfl,rfl,rfl⟩:=h;obtain⟨h1,h2⟩:=A0f r vs xs σ' as' hr;obtain⟨a1,a2⟩:=Avy hn;refine⟨fun q hq=>?_,.p (Bo0 _ a2) (h2.mono fun p hp=>Bnz _ hp)⟩;rcases Bnd.1 hq with rfl|hq
     ·exact a1.mono (fun p hp=>Bo0 _ hp) fun n hn=>Bo0 _ hn
     ·exact(h1 q hq).mono (fun p hp=>Bnz _ hp) fun n hn=>Bnz _ hn
    ·cases h
   ·cases h
  ·cases h
 |.z m S ty::r,vs,x,σ,C5,h=>by
  unfold Zb at h;split at h
  ·rename_i v vs;split at h
   ·rename_i j xs σ' as' hr;split at h
    ·rename_i y τ bs hn;simp only[Bnf,Bo2]at h;obtain⟨rfl,rfl,rfl⟩:=h;obtain⟨h1,h2⟩:=A0f r vs xs σ' as' hr;obtain⟨a1,a2⟩:=Avy hn;refine⟨fun q hq=>?_,.p (Bo0 _ a2) (h2.mono fun p hp=>Bnz _ hp)⟩;simp only[Uy,Bnk,Bnw]at hq;rcases hq with rfl|hq
     ·exact a1.mono (fun p hp=>Bo0 _ hp) fun n hn=>Bo0 _ hn
     ·exact(h1 q hq).mono (fun p hp=>Bnz _ hp) fun n hn=>Bnz _ hn
    ·cases h
   ·rename_i xs σ' as' hr;simp only[Bnf,Bo2]at h;obtain⟨rfl,rfl,rfl⟩:=h;obtain⟨h1,h2⟩:=A0f r vs xs σ' as' hr;refine⟨fun q hq=>?_,.d (.refl _) h2⟩;simp only[Uy,Bou]at hq;exact h1 q hq
   ·cases h
  ·cases h
variable{X Y:Ad}
def HR.Bjf(hr:HR nm B g w X){f:Nat→Nat}(hl:Y.live=[])(Uc:∀k o,Y.objs.lookup k=some o→∃o0,X.objs.lookup (f k)=some o0∧Agj o0 (Ef f o))
  (Ap5:∀k k' o o',Y.objs.lookup k=some o→Y.objs.lookup k'=some o'→f k=f k'→k=k') (hnt:∀k o,Y.objs.lookup k=some o→Vb o=true)
  (hns:∀k∈ns,f k=k∧k∈nm∧(Y.objs.lookup k).isSome):HR ns B (g.pull f) w Y:=by
 refine⟨?_,hr.Iw,hr.base,hr.io,hr.le,hr.frame,?_,?_,?_,?_,?_,by simp[Gh.pull],by simp[Gh.pull],by simp[Gh.pull],by simp[Gh.pull],.off fun _=>rfl⟩
 ·intro k hk;obtain⟨h1,h2,h3⟩:=hns k hk;exact⟨by show g.ρ (f k)=_;rw[h1];exact(hr.Cc k h2).1,h3⟩
 ·intro k o hk;obtain⟨o0,h1,h2⟩:=Uc k o hk;exact Ce.pull (g:=g) (gc:=g.pull f) (f:=f) rfl (fun _=>rfl) (hnt k o hk) (Ajd (hr.objs _ _ h1) h2)
 ·intro k o hk;obtain⟨o0,h1,_⟩:=Uc k o hk;exact hr.Fi _ _ h1
 ·intro k k' o o' hk M1 he;obtain⟨o0,h1,_⟩:=Uc k o hk;obtain⟨o1,h2,_⟩:=Uc k' o' M1;exact Ap5 k k' o o' hk M1 (hr.C1 _ _ _ _ h1 h2 he)
 ·intro k o hk;obtain⟨o0,h1,_⟩:=Uc k o hk;exact hr.Cf _ _ h1
 ·intro n;rw[hl];simp[Gh.pull]
def Tc(b:Nat→Nat):∀(S:Sh) (i:Nat) (x:S.T),Ep (Ae (S.Ds b i x))=true:=by
 have dat:∀l:A6 D,∀m:A6 AV,Ep m=true→Ep (l.map .d++m)=true:=by
  intro l m hm;induction l with
  |nil=>exact hm
  |cons x r ih=>simp only[Bnh,Bpw,Ep,A03,ih,Bpe]
 intro S;induction S with
 |nil=>intro i x;rfl
 |d t r ih=>intro i x;simp only[Sh.Ds,Eg,Wg];exact dat _ _ (ih (i+1) x.2)
 |m kt vt r ih=>intro i x;simp only[Sh.Ds,Ae,Ep,ih,Bq2];cases x.1<;>rfl
 |s a ty r _ ih=>intro i x;simp only[Sh.Ds,Ae,Ep,ih,Bq2];rfl
 |z a ty r _ ih=>intro i x;simp only[Sh.Ds,Ae,Ep,ih,Bq2];cases x.1<;>rfl
def Abh:∀(S:Sh) (h i:Nat) (x:S.T) (p:Nat×Ob),p∈S.C7 h i x→Vb p.2=true:=by
 intro S;induction S with
 |nil=>intro h i x p hp;cases hp
 |d t r ih=>intro h i x p hp;exact ih h (i+1) x.2 p hp
 |m kt vt r ih =>
  intro h i x p hp;rcases Bnk.1 hp with hp|hp
  ·cases hx:x.1 with
   |none=>rw[hx]at hp;cases hp
   |some y=>rw[hx]at hp;rw[Bnw]at hp;subst hp;rfl
  ·exact ih h (i+1) x.2 p hp
 |s a ty r ih1 ih2 =>
  intro h i x p hp;rcases Bnk.1 hp with hp|hp
  ·rcases Bnd.1 hp with rfl|hp
   ·show Ep _=true;rw[a.I9];exact Tc _ a 0 x.1
   ·exact ih1 _ 0 x.1 p hp
  ·exact ih2 h (i+1) x.2 p hp
 |z a ty r ih1 ih2 =>
  intro h i x p hp;rcases Bnk.1 hp with hp|hp
  ·cases hx:x.1 with
   |none=>rw[hx]at hp;cases hp
   |some y =>
    rw[hx]at hp;rcases Bnd.1 hp with rfl|hp
    ·show Ep _=true;rw[a.I9];exact Tc _ a 0 y
    ·exact ih1 _ 0 y p hp
  ·exact ih2 h (i+1) x.2 p hp
def B08:A6 (Nat×Nat)→Bool
 |[]=>true
 |p::r=>cond (cond (Nat.blt p.1 H0) true (Nat.blt ((p.1-H0)/1000) H0)) (B08 r) false
def B09(C5:A6 Nat):A6 (Nat×Nat)→Bool
 |[]=>true
 |p::r=>cond (cond (Nat.blt p.1 H0) true (cond (inl ((p.1-H0)/1000) C5) false true)) (B09 C5 r) false
theorem Ajm:∀ {T:A6 (Nat×Nat)},B08 T=true→∀p∈T,p.1<H0∨(p.1-H0)/1000<H0
 |[],_,p,hp=>by simp at hp
 |q::r,h,p,hp=>by
  obtain⟨h1,h2⟩:=Ap h;rcases Bnd.1 hp with rfl|hp
  ·cases hb:Nat.blt p.1 H0 with
   |true=>rw[Bpb]at hb;exact .inl hb
   |false=>rw[hb,Bnc,Bpb]at h1;exact .inr h1
  ·exact Ajm h2 p hp
theorem Ajn{C5:A6 Nat}:∀ {T:A6 (Nat×Nat)},B09 C5 T=true→∀p∈T,p.1<H0∨(p.1-H0)/1000∉C5
 |[],_,p,hp=>by simp at hp
 |q::r,h,p,hp=>by
  obtain⟨h1,h2⟩:=Ap h;rcases Bnd.1 hp with rfl|hp
  ·cases hb:Nat.blt p.1 H0 with
   |true=>rw[Bpb]at hb;exact .inl hb
   |false =>
    rw[hb,Bnc]at h1;refine .inr fun hm=>?_
    rw[(E7 _ _).2 hm]at h1;cases h1
  ·exact Ajn h2 p hp
def Ajo(objs told:A6 (Nat×Af))(Vi:A6 (Nat×Nat))(C5:A6 Nat):Bool :=
 cond (I7 (Vi.map (·.1))) (cond (I7 (Vi.map (·.2))) (cond (Xz (Vi.map (·.2))) (cond (B08 Vi) (cond (B09 C5 Vi) (cond (Xz (told.map (·.1))) (cond (A9y told) (Pe objs) false) false) false) false) false) false) false
def Ajp{T:A6 (Nat×Nat)}(h:(T.map (·.1)).Nodup){n:Nat}(hp:(n,j)∈T):lk n T=some j:=by rw[Au9];exact Bo h hp
def B34(m j:Nat)(hj:j<1000):(Fu m j-H0)/1000=m:=by unfold Fu;omega
def HR.closed{live:A6 Nat}(hr:HR nm B g w ⟨Aa objs,live⟩)(hs:∀q∈told,Src objs Vi C5 q)(hk:Ajo objs told Vi C5=true)
  (hns:∀k∈ns,k∈nm∧(k,k)∈Vi∧k∈told.map (·.1)):HR ns B (g.pull (ren Vi)) w ⟨Aa told,[]⟩:=by
 unfold Ajo at hk;obtain⟨t1,hk⟩:=Ap hk;obtain⟨t2,hk⟩:=Ap hk;obtain⟨t3,hk⟩:=Ap hk;obtain⟨t4,hk⟩:=Ap hk;obtain⟨t5,hk⟩:=Ap hk;obtain⟨t6,hk⟩:=Ap hk;obtain⟨t7,t8⟩:=Ap hk;replace t1:=D1 t1;replace t2:=D1 t2;replace t3:=R6 t3;replace t4:=Ajm t4;replace t5:=Ajn t5;replace t6:=R6 t6;let f:=ren Vi;have Avz:∀ {n j},(n,j)∈Vi→f n=j:=fun hp=>B30 (Ajp t1 hp)
 have val:∀ {n j},(n,j)∈Vi→j<H0:=fun hp=>t3 _ (Bnr (f:=(·.2)) hp)
 have key:∀ {n j},lk n Vi=some j→(n,j)∈Vi:=fun h=>by rw[Au9]at h;exact D3 h
 have deep:∀ {m j},H0≤m→j<1000→f (Fu m j)=Fu (f m) j:=by
  intro m j hm hj;refine B31 hj ?_;cases hl:lk (Fu m j) Vi with
  |none=>rfl
  |some z =>
   exfalso;rcases t4 _ (key hl)with h|h
   ·have:=R5 m j;simp only at h;omega
   ·simp only[B34 m j hj]at h;omega
 have Bgz:∀ {n},H0≤n→A6s f n:=by
  intro n hn m j hj hm;refine deep ?_ hj;rcases hm with rfl|hm
  ·exact hn
  ·exact hm.ge
 have Bh0:∀ {n},n∈C5→A6s f n:=by
  intro n hn m j hj hm;rcases hm with rfl|hm
  ·refine B31 hj ?_;cases hl:lk (Fu m j) Vi with
   |none=>rfl
   |some z =>
    exfalso;rcases t5 _ (key hl)with h|h
    ·have:=R5 m j;simp only at h;omega
    ·simp only[B34 m j hj]at h;exact h hn
  ·exact deep hm.ge hj
 have inX:∀ {j:Nat} {y:Af} {p:Nat×Ob},lk j objs=some y→(y.C7.map (·.1)).Nodup→p∈y.C7→(Aa objs).lookup p.1=some p.2 :=
  fun hj hn hp=>Acm t8 (Gg hj) (Bo hn hp)
 have small:∀q∈told,∀S ty x,q.2 = .abs q.1 S ty x→S.small 0=true:=by intro q hq S ty x e;have:=R7 t7 q hq;rw[e]at this;exact(Ap this).2
 have names:∀n o,(Aa told).lookup n=some o→∃q∈told,(n=q.1∧o=q.2.o)∨(n,o)∈q.2.C7:=by
  intro n o h;rcases A3c h with ⟨y,hy,rfl⟩|⟨p,hp,h2⟩
  ·exact⟨_,Gg hy,.inl ⟨rfl,rfl⟩⟩
  ·exact⟨p,hp,.inr (G4 h2)⟩
 have kid:∀ {n j:Nat} {S:Sh} {x:S.T} {cs:A6 XV} {τ:A6 (Nat×Nat)},Lg objs 0 S cs=some (x,τ)→(∀p∈τ,(Fu n p.1,p.2)∈Vi)→S.small 0=true →
   CLe cs (S.Ds (fun i=>f (Fu n i)) 0 x)∧∀q∈S.kids (Fu n) 0 x,(∃j',(q.1,j')∈Vi)∧lk (f q.1) objs=some (q.2.re f)∧q.2.Ba6 q.1∧H0≤q.1:=by
  intro n j S x cs τ hc hT G3;obtain⟨c1,c2⟩:=Sl S 0 cs x τ hc (fun i=>f (Fu n i)) fun p hp=>Avz (hT p hp)
  refine⟨c1,fun q hq=>?_⟩;have e1:(f q.1,q.2.re f)∈S.kids (fun i=>f (Fu n i)) 0 x:=by rw[← S.A0a 0 x (f:=f) (b:=Fu n) fun _ _=>rfl];exact Bnr (f:=fun q:Nat×Af=>(f q.1,q.2.re f)) hq
  obtain⟨a1,p,a2,a3,_,_⟩:=c2 _ e1;obtain⟨i,_,hi,hqi⟩:=S.A0b (Fu n) 0 x q hq;have hge:H0≤q.1:=by rw[hqi];exact R5 _ _
  refine⟨?_,a1,S.A5w (Fu n) 0 x G3 q hq,hge⟩;obtain⟨i',_,Md⟩:∃i',True∧q.1=Fu n i':=⟨i,trivial,hqi⟩;have:=Nf hc q hq;obtain⟨p',Vx,e⟩:=this;exact⟨p'.2,by rw[e];exact hT p' Vx⟩
 refine HR.Bjf hr (f:=f) rfl ?_ ?_ ?_ ?_
 ·intro n o h;obtain⟨q,hq,h1⟩:=names n o h;cases hs q hq with
  |raw n' j S ty x cs τ a1 a2 a3 a4 =>
   have G3:=small _ hq S ty x rfl;obtain⟨c1,c2⟩:=kid (n:=n') (j:=j) a3 a4 G3;rcases h1 with ⟨rfl,rfl⟩|h1
   ·refine⟨_,by rw[Avz a1];exact Lc a2,?_⟩;simp only[Af.o,Qp];rw[S.I9,S.Q5 0 x (f:=f) (b:=Fu n) (b':=fun i=>f (Fu n i)) fun _ _=>rfl];refine .cells (by rw[Aq,Aq];exact c1.1) (fun i u v hu hv=>?_) (.inl rfl);rw[M5,Bnn]at hu hv;obtain⟨u',hu',rfl⟩:=hu;obtain⟨v',hv',rfl⟩:=hv;exact c1.2 i u' v' hu' hv'
   ·obtain⟨p,hp,h2⟩:=(S.Oe n' 0 x (n,o)).1 h1;obtain⟨⟨j',b1⟩,b2,b3,b4⟩:=c2 p hp;rcases h2 with h2|h2
    ·cases h2;refine⟨_,Lc b2,?_⟩;rw[Af.Bgy b3 (Bgz b4)];exact .refl _
    ·have e2:(f n,Ef f o)∈(p.2.re f).C7:=by rw[Af.As1 b3 (Bgz b4)];exact Bnr (f:=fun p:Nat×Ob=>(f p.1,Ef f p.2)) h2
     refine⟨_,inX b2 ?_ e2,.refl _⟩;rcases b3 with ⟨kt,vt,es,c,e⟩|⟨a,Xy,y,e,hsa⟩
     ·rw[e];simp[Af.re,Af.C7]
     ·rw[e];exact a.Ia _ 0 y hsa
  |abs n' j S ty x a1 a2 a3 =>
   have G3:=small _ hq S ty x rfl;have hkk:(Af.abs n' S ty x).Ba6 n':=.inr ⟨S,ty,x,rfl,G3⟩;have e0:(Af.abs n' S ty x).re f = .abs j S ty x:=by show Af.abs (f n') S ty x=_;rw[Avz a1]
   rcases h1 with ⟨rfl,rfl⟩|h1
   ·refine⟨_,by rw[Avz a1];exact Lc a2,?_⟩;rw[← Af.Bgy hkk (Bh0 a3),e0];exact .refl _
   ·have e2:(f n,Ef f o)∈(Af.abs j S ty x).C7:=by rw[← e0,Af.As1 hkk (Bh0 a3)];exact Bnr (f:=fun p:Nat×Ob=>(f p.1,Ef f p.2)) h1
    exact⟨_,inX a2 (S.Ia _ 0 x G3) e2,.refl _⟩
 ·intro n n' o o' h h' e;let R:Nat→Prop:=fun r=>∃j,(r,j)∈Vi
  have root:∀n o,(Aa told).lookup n=some o→R n∨∃r,R r∧A6s f r∧Db r n:=by
   intro n o h;obtain⟨q,hq,h1⟩:=names n o h;cases hs q hq with
   |raw n' j S ty x cs τ a1 a2 a3 a4 =>
    have G3:=small _ hq S ty x rfl;obtain⟨c1,c2⟩:=kid (n:=n') (j:=j) a3 a4 G3;rcases h1 with ⟨rfl,rfl⟩|h1
    ·exact .inl ⟨j,a1⟩
    ·obtain⟨p,hp,h2⟩:=(S.Oe n' 0 x (n,o)).1 h1;obtain⟨⟨j',b1⟩,b2,b3,b4⟩:=c2 p hp;rcases h2 with h2|h2
     ·cases h2;exact .inl ⟨j',b1⟩
     ·refine .inr ⟨p.1,⟨j',b1⟩,Bgz b4,?_⟩;rcases b3 with ⟨kt,vt,es,c,e⟩|⟨a,Xy,y,e,hsa⟩
      ·rw[e]at h2;cases h2
      ·rw[e]at h2;exact a.D5 _ 0 y _ hsa h2
   |abs n' j S ty x a1 a2 a3 =>
    have G3:=small _ hq S ty x rfl;rcases h1 with ⟨rfl,rfl⟩|h1
    ·exact .inl ⟨j,a1⟩
    ·exact .inr ⟨n',⟨j,a1⟩,Bh0 a3,S.D5 _ 0 x _ G3 h1⟩
  refine As2 (f:=f) (R:=R) (A:=fun r=>A6s f r) (fun r h=>h) ?_ ?_ (root n o h) (root n' o' h') e
  ·rintro r r' ⟨j,h1⟩ ⟨j',h2⟩ e;rw[Avz h1,Avz h2]at e;subst e;exact Bo7 Prod.fst (Gm t2 h1 h2 rfl)
  ·rintro r r' ⟨j,h1⟩ ⟨j',h2⟩ _ hu;rw[Avz h1]at hu;have:=hu.ge;have:=val h1;omega
 ·intro n o h;obtain⟨q,hq,h1⟩:=names n o h;have:∃n' S ty x,q=(n',Af.abs n' S ty x):=by
   cases hs q hq with
   |raw n' j S ty x cs τ=>exact⟨n',S,ty,x,rfl⟩
   |abs n' j S ty x=>exact⟨n',S,ty,x,rfl⟩
  obtain⟨n',S,ty,x,rfl⟩:=this;rcases h1 with ⟨_,rfl⟩|h1
  ·show Ep _=true;rw[S.I9];exact Tc _ S 0 x
  ·exact Abh S _ 0 x _ h1
 ·intro k M1;obtain⟨h1,h2,h3⟩:=hns k M1;refine⟨Avz h2,h1,?_⟩;show((Aa told).lookup k).isSome;obtain⟨p,hp,rfl⟩:=Bnp.1 h3;have:∀l:A6 (Nat×Af),p∈l→∃y,lk p.1 l=some y:=by
   intro l;induction l with
   |nil=>intro h;cases h
   |cons q r ih =>
    intro h;rw[G7];cases hb:Nat.beq q.1 p.1 with
    |true=>exact⟨_,rfl⟩
    |false =>
     rcases Bnd.1 h with h|h
     ·rw[← h]at hb;simp at hb
     ·exact ih h
  obtain⟨y,hy⟩:=this told hp;rw[Lc hy];rfl
structure ASp where
 args:List AS
 ins:List (Nat×Sh×Option TypeId)
 res:List AR
@[reducible] def ASp.Out (S:ASp):Type:=B07 S.ins×Agl S.res
@[reducible] def B5n:A6 (Nat×Sh×A7 TypeId)→Type→Type
 |[],R=>R
 |p::r,R=>p.2.1.T→B5n r R
@[reducible] def ASp.Cw (S:ASp):Type:=Ado S.args (B5n S.ins (A7 S.Out))
def A0g:A6 (Nat×Sh×A7 TypeId)→A6 Nat
 |[]=>[]
 |p::r=>p.1::A0g r
def ASp.n(S:ASp):Nat:=A8e S.args
def ASp.M8(S:ASp):A6 Nat:=Ars S.args
def Bh1{α:Type}:(l:A6 (Nat×Sh×A7 TypeId))→(A6 (Nat×Af)→α)→A6 (Nat×Af)→B5n l α
 |[],f,acc=>f acc
 |p::r,f,acc=>fun x=>Bh1 r f (acc++[(p.1,.abs p.1 p.2.1 p.2.2 x)])
def Bdc{β:Type}(Q:β→A6 (Nat×Af)→Prop):(l:A6 (Nat×Sh×A7 TypeId))→B5n l β→A6 (Nat×Af)→Prop
 |[],F,acc=>Q F acc
 |p::r,F,acc=>∀x:p.2.1.T,Bdc Q r (F x) (acc++[(p.1,.abs p.1 p.2.1 p.2.2 x)])
theorem Aw0{α:Type}{Q:α→A6 (Nat×Af)→Prop}{f:A6 (Nat×Af)→α}(ns:A6 Nat)(h:∀acc,acc.map (·.1)=ns→Q (f acc) acc):∀(l:A6 (Nat×Sh×A7 TypeId)) (acc:A6 (Nat×Af)),acc.map (·.1)++A0g l=ns→Bdc Q l (Bh1 l f acc) acc
 |[],acc,hm=>h acc (by simpa[A0g]using hm)
 |p::r,acc,hm=>fun x=>Aw0 ns h r _ (by simpa[A0g]using hm)
def Abi:A6 ResultVar→A6 Nat
 |[]=>[]
 |.tmp t::r=>t::Abi r
 |.cell _ _::r=>Abi r
section
variable(P:Program)(Γ:A6 (Ix P))(own:A6 Nat)(N:Nat)(fn:Func)(an:A6 Nat→An)(S:ASp)
def Baa(s:Ak):A7 S.Out :=
 match Ab0 P s fn.results.toList with
 |some rs=>match Ajl s.objs S.ins,Zb s.objs S.res rs with
  |some (out,σ),some (res,τ,C5)=>cond (Ajo s.objs (Afq S.ins out++Uy S.res res) (σ++τ) C5) (some (out,res)) none
  |_,_=>none
 |none=>none
def Bjg:Exit→Ak→A7 S.Out
 |.ret,s=>fzK (Abi fn.results.toList) s (Baa P fn S)
 |.normal,s=>fzK (Abi fn.results.toList) s (Baa P fn S)
 |_,_=>none
def Bab(xs:A6 XV)(l:A6 (Nat×Af)):A7 S.Out :=
 match fn.body with
 |some c=>cond (Nat.ble fn.ntmps GB) (cond (cond (As3 l) (cond (I7 (l.map (·.1))) (Pe l) false) false)
  (A5y l fun objs=>exec P Γ own (A0g S.ins) fn.ntmps N c (an (objs.map (·.1))) ⟨Adj 0 (xs.take S.n)++glE S.M8 (xs.drop S.n),objs,[],[],[]⟩ (Bjg P fn S)) none) none
 |none=>none
def Bdd:S.Cw:=A45 S.args (fun xs=>Bh1 S.ins (fun l=>Bab P Γ own N fn an S xs l) []) []
end
def Agm:A6 XV→Bool
 |[]=>true
 |.d _::r=>Agm r
 |.nm k (.p _)::r=>cond (Nat.blt k 9) (Agm r) false
 |.nm k .m::r=>cond (Nat.blt k 9) (Agm r) false
 |_::_=>false
theorem Aw1:∀ {l:A6 XV},Agm l=true→∀(i:Nat) (x:XV),l[i]? = some x→A03 x.a=true∧E2 (Ou Je) x.a=x.a
 |[],_,i,x,hx=>by simp at hx
 |y::r,h,i,x,hx=>by
  have low:∀ {k},k<9→Ou Je k=k:=fun {k} hk=>by rw[Wy (A1y (by omega)),Abe hk]
  have key:(A03 y.a=true∧E2 (Ou Je) y.a=y.a)∧Agm r=true:=by
   cases y with
   |d d=>exact⟨⟨rfl,rfl⟩,h⟩
   |nm k p =>
    cases p with
    |p off =>obtain⟨h1,h2⟩:=Ap h;rw[Bpb]at h1;exact⟨⟨rfl,by simp only[XV.a,E2,low h1]⟩,h2⟩
    |m =>obtain⟨h1,h2⟩:=Ap h;rw[Bpb]at h1;exact⟨⟨rfl,by simp only[XV.a,E2,low h1]⟩,h2⟩
    |_=>cases h
   |_=>cases h
  cases i with
  |zero=>simp at hx;subst hx;exact key.1
  |succ i=>exact Aw1 key.2 i x (by simpa using hx)
variable{S:ASp}{v:Value}{P:Program}{fn:Func}{an:A6 Nat→An}{st:Ak}
def Bde(hT:(Vi.map (·.1)).Nodup)(h:A8j Vi vs us)(hr:RA g w (A12 (Ae vs)) v):RA (g.pull (ren Vi)) w (A12 (Ae us)) v:=by
 have one:∀ {a b:XV},A8j Vi [a] [b]→∀ {v},RA g w a.a v→RA (g.pull (ren Vi)) w b.a v:=by
  intro a b h v hr;cases h with
  |d h1 _ =>have:=h1 g w v hr;exact this.data rfl (.refl _ _)
  |p h1 _ =>simp only[XV.a]at hr⊢;refine RA.pull (g:=g) (gc:=g.pull (ren Vi)) (f:=ren Vi) rfl (fun _=>rfl) _ v rfl ?_;simp only[E2,B30 (Ajp hT h1)];exact hr
 have len:∀ {vs us:A6 XV},A8j Vi vs us→vs.length=us.length:=by
  intro vs us h;induction h with
  |nil=>rfl
  |d _ _ ih=>simp[ih]
  |p _ _ ih=>simp[ih]
 have at':∀ {vs us:A6 XV},A8j Vi vs us→∀(i:Nat) (a b:XV),vs[i]? = some a→us[i]? = some b→A8j Vi [a] [b]:=by
  intro vs us h;induction h with
  |nil=>intro i a b ha;simp at ha
  |d h1 _ ih =>
   intro i a b ha hb;cases i with
   |zero=>simp at ha hb;subst ha;subst hb;exact .d h1 .nil
   |succ i=>exact ih i a b (by simpa using ha) (by simpa using hb)
  |p h1 _ ih =>
   intro i a b ha hb;cases i with
   |zero=>simp at ha hb;subst ha;subst hb;exact .p h1 .nil
   |succ i=>exact ih i a b (by simpa using ha) (by simpa using hb)
 have many:∀ {vs us:A6 XV},A8j Vi vs us→∀ {v},RA g w (.Er (Ae vs)) v→RA (g.pull (ren Vi)) w (.Er (Ae us)) v:=by
  intro vs us h v hr;cases hr with
  |Er _ ws hl hx =>
   refine .Er _ ws (by rw[Aq]at hl⊢;rw[← len h];exact hl) fun i x v hx' hv=>?_
   rw[M5,Bnn]at hx';obtain⟨b,hb,rfl⟩:=hx';have By:i<vs.length:=by rw[len h];exact(Bnj.1 hb).1
   have ha:vs[i]? = some vs[i]:=by simp[By]
   exact one (at' h i _ _ ha hb) (hx i _ v (by rw[M5,ha];rfl) hv)
 cases vs with
 |nil=>cases h;exact many .nil hr
 |cons a r =>
  cases us with
  |nil=>cases h
  |cons b s =>
   have hl:=len h;cases r with
   |nil =>
    cases s with
    |nil=>exact one h hr
    |cons c s=>simp at hl
   |cons a' r =>
    cases s with
    |nil=>simp at hl
    |cons b' s=>exact many h hr
def Ng(S:ASp)(y:S.Out):A6 (Nat×Af):=Afq S.ins y.1++Uy S.res y.2
def Bez(P:Program)(f:FuncId)(S:ASp)(y:S.Out)(xs:A6 XV)(l:A6 (Nat×Af)):Prop :=
 l.map (·.1)=A0g S.ins∧Pe l=true∧Agm (xs.take S.n)=true ∧
  Avb P f (A0g S.ins) (Ae (xs.take S.n)) (S.M8.zip (Ae (xs.drop S.n))) ⟨Aa l,[]⟩ (Ml (As5 S.res y.2)).a ⟨Aa (Ng S y),[]⟩
theorem A49:∀(L:A6 (Nat×Sh×A7 TypeId)) (x:B07 L),(Afq L x).map (·.1)=A0g L
 |[],x=>rfl
 |p::r,x=>by simp only[Afq,Bnh,A0g,A49 r]
def Aw2(h:Ajo objs told Vi C5=true):Pe told=true∧(Vi.map (·.1)).Nodup:=by unfold Ajo at h;obtain⟨t1,h⟩:=Ap h;obtain⟨t2,h⟩:=Ap h;obtain⟨t3,h⟩:=Ap h;obtain⟨t4,h⟩:=Ap h;obtain⟨t5,h⟩:=Ap h;obtain⟨t6,h⟩:=Ap h;obtain⟨t7,t8⟩:=Ap h;refine⟨?_,D1 t1⟩;unfold Pe;rw[t6,t7];cases E9 told<;>rfl
variable{c f:FuncId}
def Aw3{Γ:A6 (Ix P)}{xs:A6 XV}{y:S.Out}(hm:P.follows .mixedOrders=true)(hf:P.funcs[f]? = some fn)
  (hn:xs.length≤fn.ntmps) (hx:Agm (xs.take S.n)=true) (hd:Ch (Ae (xs.drop S.n))=true) (A46:l.map (·.1)=A0g S.ins) (h:Bab P Γ own N fn an S xs l=some y):Bez P f S y xs l:=by
 unfold Bab at h;split at h
 rotate_left
 ·cases h
 rename_i c hc;obtain⟨hG,h⟩:=Avi h;cases Ba1:cond (As3 l) (cond (I7 (l.map (·.1))) (Pe l) false) false with
 |false=>rw[Ba1]at h;cases h
 |true =>
 rw[Ba1,Bna,A8i]at h;obtain⟨k1,k2⟩:=Ap Ba1;obtain⟨k2,k3⟩:=Ap k2;replace k2:=D1 k2;have G3:∀j∈A0g S.ins,j<1000:=by intro j hj;rw[← A46]at hj;obtain⟨p,hp,rfl⟩:=Bnp.1 hj;have:=(Abd k1 p hp).lt;omega
 have hs:=Ws (S:=⟨fn.ntmps,A0g S.ins,G3⟩) hm rfl c _ _ _ _ _ (.refl _) h;have ends:∀ {e:Exit} {Bw:Ak},Bjg P fn S e Bw=some y→(e = .ret∨e = .normal)∧fzK (Abi fn.results.toList) Bw (Baa P fn S)=some y:=by
  intro e Bw h;cases e with
  |ret=>exact⟨.inl rfl,h⟩
  |normal=>exact⟨.inr rfl,h⟩
  |_=>cases h
 have told:∀ {s1:Ak},Baa P fn S s1=some y→∃rs σ τ C5,Ab0 P s1 fn.results.toList=some rs∧Ajl s1.objs S.ins=some (y.1,σ)∧Zb s1.objs S.res rs=some (y.2,τ,C5)∧Ajo s1.objs (Ng S y) (σ++τ) C5=true:=by
  intro s1 h;unfold Baa at h;split at h
  ·rename_i rs hrs;split at h
   ·rename_i out σ res τ C5 h1 h2;cases ht:Ajo s1.objs (Afq S.ins out++Uy S.res res) (σ++τ) C5 with
    |false=>rw[ht]at h;cases h
    |true =>rw[ht,Bna,Bnf]at h;subst h;exact⟨rs,σ,τ,C5,hrs,h1,h2,ht⟩
   ·cases h
  ·cases h
 have main:Avb P f (A0g S.ins) (Ae (xs.take S.n)) (S.M8.zip (Ae (xs.drop S.n))) ⟨Aa l,[]⟩ (Ml (As5 S.res y.2)).a ⟨Aa (Ng S y),[]⟩:=by
  intro g w vs hr hgs hl ha;have Bjh:=HR.opened k1 k2 k3 hr (fun k hk=>by rw[A46];exact hk);refine Btq hf hc (Bsn (hs (B8.of g w ⟨Aa l,[]⟩) (g.pull (Ou Je)) w _ ?_) ?_)
  ·rw[Aq,Bof]at hl;refine⟨rfl,?_,Bjh,?_⟩
   ·simp;omega
   ·intro s x hx1;have hx':(Eo (Adj 0 (xs.take S.n))++Eo (glE S.M8 (xs.drop S.n))).lookup s=some x:=by rw[Eo,Eo,← Bo4];exact hx1
    rw[Bpp,Ab1]at hx';cases h1:(A30 0 (Ae (xs.take S.n))).lookup s with
    |some x1 =>
     rw[h1]at hx';simp only[Brh,Bnf]at hx';subst hx';obtain⟨_,hx'⟩:=R0 h1;rw[Bpy]at hx';have By:s<vs.size:=by have:=(Bnj.1 hx').1;rw[Aq,Bof]at this;omega
     refine⟨vs[s],?_,?_⟩
     ·rw[Qj (by omega)];rw[Bqj By];simp[By]
     ·have h2:=ha s x1 vs[s] hx' (by simp[By]);rw[M5,Bnn]at hx';obtain⟨z,hz,rfl⟩:=hx';obtain⟨a1,a2⟩:=Aw1 hx s z hz;exact RA.pull (g:=g) (gc:=g.pull (Ou Je)) (f:=Ou Je) rfl (fun _=>rfl) _ _ a1 (by rw[a2];exact h2)
    |none =>rw[h1]at hx';simp only[Brx]at hx';obtain⟨k,rfl,hk⟩:=Arr (D3 hx');refine⟨_,A7n k,(hgs _ hk).data ?_ (.refl _ _)⟩;have:x∈Ae (xs.drop S.n):=(Buh hk).2;obtain⟨i,hi⟩:=Btb this;exact N4 hd hi
  ·rintro e a' w' ⟨s,g',⟨Bw,rfl,hi,hk⟩,Hv⟩;obtain⟨Blq,hfz⟩:=ends hk;have fin:a'.defers=[]∧∃v,(results fn a'.tmps).run P w' = .ok v w'∧∃g' v_1,Ending.returned v=Ending.returned v_1∧RA g' w' (Ml (As5 S.res y.2)).a v_1∧HR (A0g S.ins) (B8.of g w ⟨Aa l,[]⟩) g' w' ⟨Aa (Ng S y),[]⟩:=by
    obtain⟨s1,q1,q2,q3⟩:=Arj (S:=⟨fn.ntmps,A0g S.ins,G3⟩) _ Bw hi hfz;obtain⟨g1,hs1⟩:=q3 _ g' w' a' Hv;obtain⟨rs,σ,τ,C5,e1,e2,e3,e4⟩:=told q1;obtain⟨v,hv,Xt⟩:=Qk (Vf e1) hs1;obtain⟨i1,i2⟩:=Ao5 S.ins y.1 σ e2;obtain⟨r1,r2⟩:=A0f S.res rs y.2 τ C5 e3;have hT:=(Aw2 e4).2;have Bc3:∀q∈Ng S y,Src s1.objs (σ++τ) C5 q:=by
     intro q hq;rcases Bnk.1 hq with hq|hq
     ·exact(i1 q hq).mono (fun p hp=>Bo0 _ hp) (by simp)
     ·exact(r1 q hq).mono (fun p hp=>Bnz _ hp) (fun n hn=>hn)
    have hcl:=HR.closed (ns:=A0g S.ins) hs1.hr Bc3 e4 (by
     intro k hk;have:∀L:A6 (Nat×Sh×A7 TypeId),k∈A0g L→∃p∈L,p.1=k:=by
      intro L;induction L with
      |nil=>intro h;cases h
      |cons p r ih =>
       intro h;rcases Bnd.1 h with rfl|h
       ·exact⟨p,Bnm,rfl⟩
       ·obtain⟨q,hq,e⟩:=ih h;exact⟨q,Bnl _ hq,e⟩
     obtain⟨p,hp,rfl⟩:=this S.ins hk;refine⟨hk,Bo0 _ (i2 p hp),?_⟩;unfold Ng;rw[Bo4,A49];exact Bo0 _ hk)
    refine⟨hs1.defers,v,hv,_,v,rfl,?_,hcl⟩;rw[Sg];exact Bde hT (r2.mono fun p hp=>Bnz _ hp) Xt
   rcases Blq with rfl|rfl
   ·exact fin
   ·exact fin
 exact⟨A46,k3,hx,main⟩
variable{o:Oper}{ts:Array TypeId}
def Aw4{fn:FuncId}{args:Array Operand}{M8:A6 Nat}{xs ys:A6 AV}{res:AV}{Xc Dg:Ad}(f:Nat→Nat)(F:A6 Nat)
  (ho:o.op = .call { callee:=.value (.func fn),args:=args,argTypes:=ts }) (hf:F6 P fn) (hs:Avb P fn ns xs (M8.zip ys) Xc res Dg) (hc:Aqz ns X Xc Dg Y f F)
  (hl:xs.length=args.size) (hd:Ep xs=true) (hy:Ch ys=true) (Y6:∃ks,Cy ks res=true∧∀j∈ks,(Dg.objs.lookup j).isSome) :
  Ca P o (args.toList.zip (Dx f xs)++(M8.map Operand.global).zip ys) X Y F (E2 f res):=by
 intro nm G3 B g w a hr Bg next Q hn
 unfold Oper.wp;have:(execOp a.eval o).run P w = .ok (.enter fn (args.map a.eval)) w:=by simp only[execOp,ho,resolve];simp[Act.eval,Deferred.ofValue,invoke,Dl hf]
 rw[this];have hG:GH g w (M8.zip ys):=by
  intro p hp;have h1:(Operand.global p.1,p.2)∈(M8.map Operand.global).zip ys:=by rw[List.zip_map_left,Bnp];exact⟨p,hp,rfl⟩
  exact Bg _ (Bnz _ h1)
 refine(hs.use (A43 _ hy) hc hd Y6 G3 hr hG (by simpa using hl) (Zt fun p hp=>Bg p (Bo0 _ hp))).mono ?_;rintro e w' ⟨v,g',rfl,h1,h2,h3⟩;exact hn g' w' v h1 h2 h3
def Sh.Amc(h:Nat):Nat→Sh→A6 Nat
 |_,.nil=>[]
 |i,.d _ r=>r.Amc h (i+1)
 |i,.m _ _ r=>Fu h i::r.Amc h (i+1)
 |i,.s a _ r=>Fu h i::(a.Amc (Fu h i) 0++r.Amc h (i+1))
 |i,.z a _ r=>Fu h i::(a.Amc (Fu h i) 0++r.Amc h (i+1))
theorem Sh.Sn:∀(S:Sh) (h i:Nat) (x:S.T) (p:Nat×Ob),p∈S.C7 h i x→p.1∈S.Amc h i
 |.nil,h,i,x,p,hp=>by cases hp
 |.d t r,h,i,x,p,hp=>Sh.Sn r h (i+1) x.2 p hp
 |.m kt vt r,h,i,x,p,hp=>by
  rcases Bnk.1 hp with hp|hp
  ·cases hx:x.1 with
   |none=>rw[hx]at hp;cases hp
   |some y=>rw[hx]at hp;rw[Bnw]at hp;subst hp;exact Bnm
  ·exact Bnl _ (Sh.Sn r h (i+1) x.2 p hp)
 |.s a ty r,h,i,x,p,hp=>by
  rcases Bnk.1 hp with hp|hp
  ·rcases Bnd.1 hp with rfl|hp
   ·exact Bnm
   ·exact Bnl _ (Bo0 _ (Sh.Sn a _ 0 x.1 p hp))
  ·exact Bnl _ (Bnz _ (Sh.Sn r h (i+1) x.2 p hp))
 |.z a ty r,h,i,x,p,hp=>by
  rcases Bnk.1 hp with hp|hp
  ·cases hx:x.1 with
   |none=>rw[hx]at hp;cases hp
   |some y =>
    rw[hx]at hp;rcases Bnd.1 hp with rfl|hp
    ·exact Bnm
    ·exact Bnl _ (Bo0 _ (Sh.Sn a _ 0 y p hp))
  ·exact Bnl _ (Bnz _ (Sh.Sn r h (i+1) x.2 p hp))
theorem Sh.Q6:∀(S:Sh) (h i:Nat),S.small i=true→∀n∈S.Amc h i,Db h n
 |.nil,h,i,hs,n,hn=>by cases hn
 |.d t r,h,i,hs,n,hn=>Sh.Q6 r h (i+1) (Ap hs).2 n hn
 |.m kt vt r,h,i,hs,n,hn=>by
  have hi:i<1000:=by simpa[Bpb] using(Ap hs).1
  rcases Bnd.1 hn with rfl|hn
  ·exact .here i hi
  ·exact Sh.Q6 r h (i+1) (Ap hs).2 n hn
 |.s a ty r,h,i,hs,n,hn=>by
  have hi:i<1000:=by simpa[Bpb] using(Ap hs).1
  have h2:=Ap (Ap hs).2;rcases Bnd.1 hn with rfl|hn
  ·exact .here i hi
  ·rcases Bnk.1 hn with hn|hn
   ·exact(Db.here i hi).trans (Sh.Q6 a _ 0 h2.1 n hn)
   ·exact Sh.Q6 r h (i+1) h2.2 n hn
 |.z a ty r,h,i,hs,n,hn=>by
  have hi:i<1000:=by simpa[Bpb] using(Ap hs).1
  have h2:=Ap (Ap hs).2;rcases Bnd.1 hn with rfl|hn
  ·exact .here i hi
  ·rcases Bnk.1 hn with hn|hn
   ·exact(Db.here i hi).trans (Sh.Q6 a _ 0 h2.1 n hn)
   ·exact Sh.Q6 r h (i+1) h2.2 n hn
def As6{a b:A6 AV}:C2 ks (a++b)=(C2 ks a&&C2 ks b):=by
 induction a with
 |nil=>rfl
 |cons x r ih=>simp only[Bpw,C2,ih,Bool.and_assoc]
def B0a(ks:A6 Nat)(l:A6 D):C2 ks (l.map .d)=true:=by
 induction l with
 |nil=>rfl
 |cons x r ih=>simp only[Bnh,C2,Cy,ih,Bpe]
theorem Sh.Kt(h:Nat):∀(S:Sh) (i:Nat) (x:S.T),(∀p∈S.C7 h i x,p.1∈ks)→C2 ks (Ae (S.cells h i x))=true
 |.nil,i,x,hk=>rfl
 |.d t r,i,x,hk=>by
  simp only[Sh.cells,Eg,Wg,As6,B0a,Bqb];exact Sh.Kt h r (i+1) x.2 hk
 |.m kt vt r,i,x,hk=>by
  have hr:=Sh.Kt h r (i+1) x.2 (fun p hp=>hk p (Bnz _ hp));simp only[Sh.cells,Ae,C2,hr,Bq2];cases hx:x.1 with
  |none=>rfl
  |some y=>exact Boq.2 (hk (Fu h i,B86 kt vt y.1 y.2) (by simp only[Sh.C7,hx];exact Bo0 _ (Bnw.2 rfl)))
 |.s a ty r,i,x,hk=>by
  have hr:=Sh.Kt h r (i+1) x.2 (fun p hp=>hk p (Bnz _ hp));simp only[Sh.cells,Ae,C2,hr,Bq2];exact Boq.2 (hk _ (Bo0 _ Bnm))
 |.z a ty r,i,x,hk=>by
  have hr:=Sh.Kt h r (i+1) x.2 (fun p hp=>hk p (Bnz _ hp));simp only[Sh.cells,Ae,C2,hr,Bq2];cases hx:x.1 with
  |none=>rfl
  |some y=>exact Boq.2 (hk (Fu h i,.cells (Ae (a.cells (Fu h i) 0 y)) ty) (by simp only[Sh.C7,hx];exact Bo0 _ Bnm))
theorem Sh.Nh:∀(S:Sh) (h i:Nat) (x:S.T),(∀p∈S.C7 h i x,p.1∈ks)→∀p∈S.C7 h i x,J3 ks p.2=true
 |.nil,h,i,x,hk,p,hp=>by cases hp
 |.d t r,h,i,x,hk,p,hp=>Sh.Nh r h (i+1) x.2 hk p hp
 |.m kt vt r,h,i,x,hk,p,hp=>by
  rcases Bnk.1 hp with hp|hp
  ·cases hx:x.1 with
   |none=>rw[hx]at hp;cases hp
   |some y=>rw[hx]at hp;rw[Bnw]at hp;subst hp;rfl
  ·exact Sh.Nh r h (i+1) x.2 (fun p hp=>hk p (Bnz _ hp)) p hp
 |.s a ty r,h,i,x,hk,p,hp=>by
  rcases Bnk.1 hp with hp|hp
  ·rcases Bnd.1 hp with rfl|hp
   ·exact a.Kt _ 0 x.1 fun p hp=>hk p (Bo0 _ (Bnl _ hp))
   ·exact Sh.Nh a _ 0 x.1 (fun p hp=>hk p (Bo0 _ (Bnl _ hp))) p hp
  ·exact Sh.Nh r h (i+1) x.2 (fun p hp=>hk p (Bnz _ hp)) p hp
 |.z a ty r,h,i,x,hk,p,hp=>by
  rcases Bnk.1 hp with Vx|Vx
  ·cases hx:x.1 with
   |none=>rw[hx]at Vx;cases Vx
   |some y =>
    have M1:∀p∈(Fu h i,Ob.cells (Ae (a.cells (Fu h i) 0 y)) ty)::a.C7 (Fu h i) 0 y,p.1∈ks:=fun p hp=>hk p (by simp only[Sh.C7,hx];exact Bo0 _ hp)
    rw[hx]at Vx;rcases Bnd.1 Vx with rfl|Vx
    ·exact a.Kt _ 0 y fun p hp=>M1 p (Bnl _ hp)
    ·exact Sh.Nh a _ 0 y (fun p hp=>M1 p (Bnl _ hp)) p Vx
  ·exact Sh.Nh r h (i+1) x.2 (fun p hp=>hk p (Bnz _ hp)) p Vx
def A8k(f:Nat→Nat):A6 (Nat×Af)→A6 (Nat×Af)→A6 (Nat×Af)
 |[],acc=>acc
 |p::r,acc=>A8k f r (Mw (f p.1) (p.2.re f) acc)
theorem Tu{f:Nat→Nat}{j:Nat}:∀ {l acc:A6 (Nat×Af)},(∀q∈l,f q.1≠j)→lk j (A8k f l acc)=lk j acc
 |[],acc,_=>rfl
 |p::r,acc,h=>by
  simp only[A8k];rw[Tu fun q hq=>h q (Bnl _ hq),O9 _ _ _ _ (Bq5 (h p Bnm))]
theorem Ajq{f:Nat→Nat}:∀ {l acc:A6 (Nat×Af)},(l.map fun q=>f q.1).Nodup→∀q∈l,lk (f q.1) (A8k f l acc)=some (q.2.re f)
 |[],acc,_,q,hq=>by cases hq
 |p::r,acc,hn,q,hq=>by
  simp only[Bnh,Boi]at hn;simp only[A8k];rcases Bnd.1 hq with rfl|hq
  ·rw[Tu fun z hz e=>hn.1 (by rw[← e];exact Bnr (f:=fun q:Nat×Af=>f q.1) hz)];exact Apm acc
  ·exact Ajq hn.2 q hq
theorem Aw5{k:Nat}{o:Af}:∀ {l:A6 (Nat×Af)} {p:Nat×Af},p∈Mw k o l→p=(k,o)∨p∈l
 |[],p,h=>by rw[A9z]at h;exact .inl (Bnw.1 h)
 |q::r,p,h=>by
  rw[Vy]at h;cases hb:Nat.beq q.1 k with
  |true =>
   rw[hb,Bna]at h;rcases Bnd.1 h with h|h
   ·exact .inl h
   ·exact .inr (Bnl _ h)
  |false =>
   rw[hb,Bnc]at h;rcases Bnd.1 h with h|h
   ·exact .inr (by rw[h];exact Bnm)
   ·rcases Aw5 h with h|h
    ·exact .inl h
    ·exact .inr (Bnl _ h)
theorem Aw6{f:Nat→Nat}:∀ {l acc:A6 (Nat×Af)} {p:Nat×Af},p∈A8k f l acc→(∃q∈l,p=(f q.1,q.2.re f))∨p∈acc
 |[],acc,p,h=>.inr h
 |q::r,acc,p,h=>by
  simp only[A8k]at h;rcases Aw6 h with ⟨z,hz,e⟩|h
  ·exact .inl ⟨z,Bnl _ hz,e⟩
  ·rcases Aw5 h with h|h
   ·exact .inl ⟨q,Bnm,h⟩
   ·exact .inr h
mutual
theorem As7{F ks:List Nat}(hd:∀k∈ks,F.contains k=false):∀ {x:AV},Cy ks x=true→Gs F x=true
 |.d _,_=>rfl
 |.nm k _,h=>by simp only[Gs,hd k (Boq.1 h),Bpf]
 |.Cv _ _ _ _,h=>by cases h
 |.tpt _ _ _,h=>by cases h
 |.Er l,h=>Pn hd (by simpa[Cy]using h)
 |.agg l,h=>Pn hd (by simpa[Cy]using h)
 |.Ek _ l,h=>Pn hd (by simpa[Cy]using h)
theorem Pn{F ks:List Nat}(hd:∀k∈ks,F.contains k=false):∀ {l:List AV},C2 ks l=true→C9 F l=true
 |[],_=>rfl
 |x::r,h=>by
  simp only[C2,Boo]at h;simp only[C9,As7 hd h.1,Pn hd h.2,Bpe]
end
def Abj{F:A6 Nat}(hd:∀k∈ks,F.contains k=false){o:Ob}(h:J3 ks o=true):Fk F o=true:=by
 cases o with
 |cells cs ty=>exact Pn hd h
 |map l c=>rfl
 |Vw s p=>rfl
 |Kn k a b c=>simp only[Fk,hd k (Boq.1 h),Bpf]
 |E5=>rfl
 |Cx=>cases h
def Adv(f:Nat→Nat):A6 (Nat×Af)→A6 Nat
 |[]=>[]
 |p::r=>(match p.2 with
  |.abs _ S _ _=>S.Amc (f p.1) 0
  |_=>[])++Adv f r
def Afr(ts F:A6 Nat):A6 (Nat×Af)→Bool
 |[]=>true
 |p::r=>cond (inl p.1 ts) (Afr ts F r) (match p.2 with
  |.abs _ _ _ _=>Afr ts F r
  |o=>cond (Yi F o) (Afr ts F r) false)
theorem Ao6{ts F:A6 Nat}:∀ {l:A6 (Nat×Af)},Afr ts F l=true→∀p∈l,p.1∈ts∨p.2.plain=false∨(p.2.plain=true∧Yi F p.2=true)
 |[],_,p,hp=>by cases hp
 |q::r,h,p,hp=>by
  have key:(q.1∈ts∨q.2.plain=false∨(q.2.plain=true∧Yi F q.2=true))∧Afr ts F r=true:=by
   simp only[Afr]at h;cases hi:inl q.1 ts with
   |true=>rw[hi,Bna]at h;exact⟨.inl ((E7 _ _).1 hi),h⟩
   |false =>
    rw[hi,Bnc]at h;cases ho:q.2 with
    |abs=>rw[ho]at h;exact⟨.inr (.inl rfl),h⟩
    |_=>rw[ho]at h;obtain⟨h1,h2⟩:=Ap h;exact⟨.inr (.inr ⟨rfl,h1⟩),h2⟩
  rcases Bnd.1 hp with rfl|hp
  ·exact key.1
  ·exact Ao6 key.2 p hp
structure A8l(l:List (Nat×Af)):Prop where
 ok:Pe l=true
 nd:(l.map (·.1)).Nodup
 ex:∀q∈l,∃S ty x,q.2 = .abs q.1 S ty x∧S.small 0=true
 low:∀q∈l,q.1<H0
def A8l.of(h:Pe l=true)(hn:(l.map (·.1)).Nodup)(he:∀q∈l,∃S ty x,q.2=Af.abs q.1 S ty x):A8l l:=by
 have key:∀q∈l,A9y l=true∧∀p∈l,p.1<H0:=by
  intro q hq;rcases Lb h with h1|h1
  ·obtain⟨S,ty,x,e⟩:=he q hq;have:=H9 h1 q hq;rw[e]at this;cases this
  ·exact h1
 refine⟨h,hn,fun q hq=>?_,fun q hq=>(key q hq).2 q hq⟩;obtain⟨S,ty,x,e⟩:=he q hq;have:=R7 (key q hq).1 q hq;rw[e]at this;exact⟨S,ty,x,e,(Ap this).2⟩
def A8l.names(h:A8l l){n:Nat}{o:Ob}(hl:(Aa l).lookup n=some o):∃q∈l,∃S ty x,q.2 = .abs q.1 S ty x∧S.small 0=true∧((n=q.1∧o = .cells (Ae (S.cells q.1 0 x)) ty)∨(n,o)∈S.C7 q.1 0 x):=by
 rcases A3c hl with ⟨y,hy,rfl⟩|⟨p,hp,h2⟩
 ·have hm:=Gg hy;obtain⟨S,ty,x,e,hs⟩:=h.ex _ hm;exact⟨_,hm,S,ty,x,e,hs,.inl ⟨rfl,by simp only at e;rw[e];rfl⟩⟩
 ·obtain⟨S,ty,x,e,hs⟩:=h.ex _ hp;rw[e]at h2;exact⟨p,hp,S,ty,x,e,hs,.inr (G4 h2)⟩
def A8l.head(h:A8l l)(hq:q∈l):((Aa l).lookup q.1).isSome:=by rw[Lc (Afp h.nd hq)];rfl
def A8l.Fu(h:A8l l)(hq:q∈l){S:Sh}{x:S.T}(e:q.2 = .abs q.1 S ty x)(hs:S.small 0=true){p:Nat×Ob}(hp:p∈S.C7 q.1 0 x):(Aa l).lookup p.1=some p.2 :=
 Acm h.ok hq (by rw[e];exact Bo (S.Ia _ 0 x hs) hp)
theorem Ao7:∀ {l:A6 (Nat×Af)},A9y l=true→∀p∈l,∀q∈l,p.2.plain=false→q.2.plain=false→p.1=q.1→p=q
 |[],_,p,hp,_,_,_,_,_=>by cases hp
 |z::r,h,p,hp,q,hq,h1,h2,e=>by
  have hr:A9y r=true∧(z.2.plain=false→A76 z.1 r=false):=by
   simp only[A9y]at h;cases hz:z.2.plain with
   |true=>rw[hz,Bna]at h;exact⟨h,by simp⟩
   |false =>
    rw[hz,Bnc]at h;have h3:=(Ap h).2;cases ha:A76 z.1 r with
    |true=>rw[ha]at h3;cases h3
    |false=>rw[ha,Bnc]at h3;exact⟨h3,fun _=>rfl⟩
  rcases Bnd.1 hp with e1|Vx<;>rcases Bnd.1 hq with e2|hq'
  ·rw[e1,e2]
  ·subst e1;have:=A5c hq' h2 e.symm;rw[hr.2 h1]at this;cases this
  ·subst e2;have:=A5c Vx h1 e;rw[hr.2 h2]at this;cases this
  ·exact Ao7 hr.1 p Vx q hq' h1 h2 e
def Bdf{tl:A6 (Nat×Af)}{Fv:A6 Nat}(hX:Pe st.objs=true)(hl:A8l l)(ht:A8l tl)(hns:l.map (·.1)=ns)(A9j:∀k∈ns,k∈tl.map (·.1))
  (Uc:∀q∈l,lk (f0 q.1) st.objs=some (q.2.re f0)) (hnd:(tl.map fun q=>f0 q.1).Nodup) (Are:∀q∈tl,f0 q.1<H0) (A7o:∀q∈tl,q.1∈ns∨(1000≤f0 q.1∧f0 q.1∈Fv)) (hFv:Xz Fv=true)
  (hY:Pe (A8k f0 tl st.objs)=true) (Ql:Afr (tl.map fun q=>f0 q.1) (Fv++Adv f0 tl) st.objs=true) :
  Aqz ns st.X ⟨Aa l,[]⟩ ⟨Aa tl,[]⟩ ⟨Aa (A8k f0 tl st.objs),st.live⟩ (Ou f0) (Fv++Adv f0 tl):=by
 let f:=Ou f0;have Agn:∀ {n},n<H0→f n=f0 n:=fun h=>Wy h
 have eqv:∀h,A6s f h:=fun h=>Abf f0 h
 have Bh2:∀q∈l,∃p∈tl,p.1=q.1:=by intro q hq;obtain⟨p,hp,e⟩:=Bnp.1 (A9j q.1 (by rw[← hns];exact Bnr (f:=(·.1)) hq));exact⟨p,hp,e⟩
 have put:∀q∈tl,lk (f0 q.1) (A8k f0 tl st.objs)=some (q.2.re f0):=fun q hq=>Ajq hnd q hq
 have B35:∀ {q:Nat×Af} {S:Sh} {ty:A7 TypeId} {x:S.T},q.1<H0→q.2 = .abs q.1 S ty x→S.small 0=true→(q.2.re f0).o=Ef f (.cells (Ae (S.cells q.1 0 x)) ty)∧(q.2.re f0).C7=(S.C7 q.1 0 x).map (fun p=>(f p.1,Ef f p.2)):=by intro q S ty x hq e hs;rw[e];simp only[Af.re,Af.o,Af.C7,Qp];rw[S.A5v x hs (eqv _),S.Rh q.1 0 x hs (eqv _),Agn hq];exact⟨rfl,rfl⟩
 have Bh3:∀ {q:Nat×Af} {S:Sh} {ty:A7 TypeId} {x:S.T},q.2 = .abs q.1 S ty x→S.small 0=true→((q.2.re f0).C7.map (·.1)).Nodup:=by intro q S ty x e hs;rw[e];exact S.Ia _ 0 x hs
 have look:∀ {objs:A6 (Nat×Af)} {L:A6 (Nat×Af)},Pe objs=true→A8l L→(∀q∈L,lk (f0 q.1) objs=some (q.2.re f0))→∀n o,(Aa L).lookup n=some o→(Aa objs).lookup (f n)=some (Ef f o):=by
  intro objs L hk hL hh n o hn;obtain⟨q,hq,S,ty,x,e,hs,h1⟩:=hL.names hn;obtain⟨m1,m2⟩:=B35 (hL.low q hq) e hs;rcases h1 with ⟨rfl,rfl⟩|h1
  ·rw[Agn (hL.low q hq),Lc (hh q hq),m1]
  ·have:(f n,Ef f o)∈(q.2.re f0).C7:=by rw[m2];exact Bnr (f:=fun p:Nat×Ob=>(f p.1,Ef f p.2)) h1
   exact Acm hk (Gg (hh q hq)) (Bo (Bh3 e hs) this)
 have nt:∀ {L:A6 (Nat×Af)},A8l L→∀n o,(Aa L).lookup n=some o→Vb o=true:=by
  intro L hL n o hn;obtain⟨q,hq,S,ty,x,e,hs,h1⟩:=hL.names hn;rcases h1 with ⟨_,rfl⟩|h1
  ·show Ep _=true;rw[S.I9];exact Tc _ S 0 x
  ·exact Abh S _ 0 x _ h1
 have root:∀ {L:A6 (Nat×Af)},A8l L→(∀q∈L,∃p∈tl,p.1=q.1)→∀n,((Aa L).lookup n).isSome→(∃p∈tl,p.1=n)∨∃r,(∃p∈tl,p.1=r)∧True∧Db r n:=by
  intro L hL Hv n hn;obtain⟨o,ho⟩:=Wq hn;obtain⟨q,hq,S,ty,x,e,hs,h1⟩:=hL.names ho;rcases h1 with ⟨rfl,_⟩|h1
  ·exact .inl (Hv q hq)
  ·exact .inr ⟨q.1,Hv q hq,trivial,S.D5 _ 0 x _ hs h1⟩
 have Bf0:∀n,((Aa l).lookup n).isSome∨((Aa tl).lookup n).isSome→(∃p∈tl,p.1=n)∨∃r,(∃p∈tl,p.1=r)∧True∧Db r n:=by
  intro n hn;rcases hn with hn|hn
  ·exact root hl Bh2 n hn
  ·exact root ht (fun q hq=>⟨q,hq,rfl⟩) n hn
 have Bji:∀ {q:Nat×Af} {S:Sh} {ty:A7 TypeId} {x:S.T},q∈tl→q.2 = .abs q.1 S ty x→∀n∈S.Amc (f0 q.1) 0,n∈Adv f0 tl:=by
  intro q S ty x hq e n hn;have:∀L:A6 (Nat×Af),q∈L→n∈Adv f0 L:=by
   intro L;induction L with
   |nil=>intro h;cases h
   |cons p r ih =>
    intro h;simp only[Adv,Bnk];rcases Bnd.1 h with rfl|h
    ·left;rw[e];exact hn
    ·exact .inr (ih h)
  exact this tl hq
 have Bjj:∀n∈Adv f0 tl,∃q∈tl,Db (f0 q.1) n:=by
  have:∀L:A6 (Nat×Af),(∀q∈L,q∈tl)→∀n∈Adv f0 L,∃q∈tl,Db (f0 q.1) n:=by
   intro L;induction L with
   |nil=>intro _ n hn;cases hn
   |cons p r ih =>
    intro hs n hn;simp only[Adv,Bnk]at hn;rcases hn with hn|hn
    ·obtain⟨S,ty,x,e,G3⟩:=ht.ex p (hs p Bnm);rw[e]at hn;exact⟨p,hs p Bnm,S.Q6 _ 0 G3 n hn⟩
    ·exact ih (fun q hq=>hs q (Bnl _ hq)) n hn
  exact this tl fun q hq=>hq
 have Bf1:∀n,((Aa tl).lookup n).isSome→(∃q∈tl,n=q.1)∨∃q∈tl,∃S ty x,q.2=Af.abs q.1 S ty x∧S.small 0=true∧∃o,(n,o)∈S.C7 q.1 0 x:=by
  intro n hn;obtain⟨o,ho⟩:=Wq hn;obtain⟨q,hq,S,ty,x,e,hs,h1⟩:=ht.names ho;rcases h1 with ⟨rfl,_⟩|h1
  ·exact .inl ⟨q,hq,rfl⟩
  ·exact .inr ⟨q,hq,S,ty,x,e,hs,o,h1⟩
 refine⟨⟨rfl,rfl,rfl⟩,?_,?_,?_,?_,?_,?_,?_,?_,?_⟩
 ·exact look hX hl Uc
 ·exact nt hl
 ·intro k o hk;obtain⟨q,hq,S,ty,x,e,hs,h1⟩:=ht.names hk;refine⟨(S.C7 q.1 0 x).map (·.1),?_,?_⟩
  ·have hkn:∀p∈S.C7 q.1 0 x,p.1∈(S.C7 q.1 0 x).map (·.1):=fun p hp=>Bnr (f:=(·.1)) hp
   rcases h1 with ⟨_,rfl⟩|h1
   ·exact S.Kt _ 0 x hkn
   ·exact S.Nh _ 0 x hkn _ h1
  ·intro j hj;obtain⟨p,hp,rfl⟩:=Bnp.1 hj;show((Aa tl).lookup p.1).isSome;rw[ht.Fu hq e hs hp];rfl
 ·intro k k' hk M1 e;refine As2 (f:=f) (R:=fun r=>∃p∈tl,p.1=r) (A:=fun _=>True) (fun r _=>eqv r) ?_ ?_ (Bf0 k hk) (Bf0 k' M1) e
  ·rintro r r' ⟨p,hp,rfl⟩ ⟨q,hq,rfl⟩ e;rw[Agn (ht.low p hp),Agn (ht.low q hq)]at e;rw[Gm hnd hp hq e]
  ·rintro r r' ⟨p,hp,rfl⟩ ⟨q,hq,rfl⟩ _ hu;rw[Agn (ht.low p hp)]at hu;have:=hu.ge;have:=Are p hp;omega
 ·intro k hk;refine⟨?_,?_⟩
  ·rw[← hns]at hk;obtain⟨q,hq,rfl⟩:=Bnp.1 hk;exact hl.head hq
  ·obtain⟨q,hq,rfl⟩:=Bnp.1 (A9j k hk);exact ht.head hq
 ·exact look hY ht put
 ·intro j o hj;rcases A3c hj with ⟨y,hy,rfl⟩|⟨p,hp,h2⟩
  ·by_cases hex:∃q∈tl,f0 q.1=j
   ·obtain⟨q,hq,rfl⟩:=hex;exact .inl ⟨q.1,ht.head hq,Agn (ht.low q hq)⟩
   ·have hne:∀q∈tl,f0 q.1≠j:=fun q hq e=>hex ⟨q,hq,e⟩
    have hy0:lk j st.objs=some y:=by rw[← Tu hne];exact hy
    refine .inr ⟨Lc hy0,?_,?_⟩
    ·intro k hk e;rcases root hl Bh2 k hk with ⟨p,hp,rfl⟩|⟨r,⟨p,hp,rfl⟩,_,hu⟩
     ·rw[show Ou f0 p.1=f0 p.1 from Agn (ht.low p hp)]at e;exact hne p hp e
     ·have h3:=(hu.map (eqv _)).ge;have:j<H0:=by
       rcases Lb hX with h4|⟨_,h4⟩
       ·obtain⟨q,hq⟩:∃q,q∈l:=by
         cases hl':l with
         |nil=>rw[hl']at hk;cases hk
         |cons q r=>exact⟨q,Bnm⟩
        have:=H9 h4 _ (Gg (Uc q hq));obtain⟨S,ty,x,e',_⟩:=hl.ex q hq;rw[e']at this;cases this
       ·exact h4 _ (Gg hy0)
      rw[← e]at this;have h5:H0≤Ou f0 k:=h3;omega
    ·rcases Ao6 Ql _ (Gg hy0)with h3|h3|⟨_,h3⟩
     ·obtain⟨q,hq,e⟩:=Bnp.1 h3;exact(hne q hq e).elim
     ·right;cases hyy:y with
      |abs h' S ty x =>
       have Jr:=hX;rcases Lb Jr with h4|⟨h4,h5⟩
       ·have:=H9 h4 _ (Gg hy0);rw[hyy]at this;cases this
       ·have Bac:=R7 h4 _ (Gg hy0);rw[hyy]at Bac;obtain⟨t1,t2⟩:=Ap Bac;have t1:=Bne t1;simp only at t1;subst t1;refine Abj (ks:=(S.C7 h' 0 x).map (·.1)) ?_ (S.Kt _ 0 x fun p hp=>Bnr (f:=(·.1)) hp);intro k hk;obtain⟨p,hp,rfl⟩:=Bnp.1 hk;have hu:=S.D5 _ 0 x p t2 hp;cases hc:(Fv++Adv f0 tl).contains p.1 with
        |false=>rfl
        |true =>
         exfalso;rcases Bnk.1 (Boq.1 hc)with h6|h6
         ·have:=R6 hFv _ h6;have:=hu.ge;omega
         ·obtain⟨q,hq,hv⟩:=Bjj _ h6;exact hne q hq (hv.one hu (Are q hq) (h5 _ (Gg hy0)))
      |_=>rw[hyy]at h3;cases h3
     ·exact .inr (Aiw h3)
  ·have Bf2:∀q∈tl,(q.2.re f0).C7.lookup j=some o→(∃k,((Aa tl).lookup k).isSome∧Ou f0 k=j):=by intro q hq h2;obtain⟨S,ty,x,e,hs⟩:=ht.ex q hq;obtain⟨m1,m2⟩:=B35 (ht.low q hq) e hs;rw[m2]at h2;obtain⟨p,hp,e2⟩:=Bnp.1 (G4 h2);cases e2;refine⟨p.1,?_,rfl⟩;rw[ht.Fu hq e hs hp];rfl
   rcases Aw6 hp with ⟨q,hq,rfl⟩|hp0
   ·exact .inl (Bf2 q hq h2)
   ·
    by_cases hex:∃q∈tl,f0 q.1=p.1
    ·obtain⟨q,hq,e⟩:=hex;obtain⟨S,ty,x,e',hs⟩:=ht.ex q hq;have hpp:p.2.plain=false:=by
      cases hh:p.2.plain with
      |false=>rfl
      |true=>rw[Af.Hg hh]at h2;cases h2
     have hqp:(q.2.re f0).plain=false:=by rw[e'];rfl
     have hm:(f0 q.1,q.2.re f0)∈A8k f0 tl st.objs:=Gg (put q hq);rcases Lb hY with h4|⟨h4,_⟩
     ·have:=H9 h4 _ hm;rw[hqp]at this;cases this
     ·have:=Ao7 h4 p hp _ hm hpp hqp e.symm;rw[this]at h2;exact .inl (Bf2 q hq h2)
    ·have hne:∀q∈tl,f0 q.1≠p.1:=fun q hq e=>hex ⟨q,hq,e⟩
     have hu:Db p.1 j:=by
      rcases Lb hX with h4|⟨h4,h5⟩
      ·rw[Af.Hg (H9 h4 p hp0)]at h2;cases h2
      ·exact Af.Acl (R7 h4 p hp0) (G4 h2)
     have Bjk:p.1<H0:=by
      rcases Lb hX with h4|⟨h4,h5⟩
      ·rw[Af.Hg (H9 h4 p hp0)]at h2;cases h2
      ·exact h5 p hp0
     refine .inr ⟨Acm hX hp0 h2,?_,?_⟩
     ·intro k hk e;rcases root hl Bh2 k hk with ⟨q,hq,rfl⟩|⟨r,⟨q,hq,rfl⟩,_,hv⟩
      ·rw[show Ou f0 q.1=f0 q.1 from Agn (ht.low q hq)]at e;have:=hu.ge;have:=Are q hq;omega
      ·have:=hv.map (eqv _);rw[Agn (ht.low q hq)]at this;have e':f k=j:=e;rw[e']at this;exact hne q hq (this.one hu (Are q hq) Bjk)
     ·right;cases hpp:p.2 with
      |abs h' S ty x =>
       rcases Lb hX with h4|⟨h4,h5⟩
       ·have:=H9 h4 p hp0;rw[hpp]at this;cases this
       ·have Bac:=R7 h4 p hp0;rw[hpp]at Bac h2;obtain⟨t1,t2⟩:=Ap Bac;have t1:=Bne t1;refine Abj (ks:=(S.C7 h' 0 x).map (·.1)) ?_ (S.Nh _ 0 x (fun p hp=>Bnr (f:=(·.1)) hp) _ (G4 h2));intro k hk;obtain⟨z,hz,rfl⟩:=Bnp.1 hk;have hw:=S.D5 _ 0 x z t2 hz;rw[t1]at hw;cases hc:(Fv++Adv f0 tl).contains z.1 with
        |false=>rfl
        |true =>
         exfalso;rcases Bnk.1 (Boq.1 hc)with h6|h6
         ·have:=R6 hFv _ h6;have:=hw.ge;omega
         ·obtain⟨q,hq,hv⟩:=Bjj _ h6;exact hne q hq (hv.one hw (Are q hq) Bjk)
      |_=>rw[hpp]at h2;cases h2
 ·intro j hj hs;have hj0:j<H0:=by unfold H0;omega
  have Hv:((Aa st.objs).lookup j).isSome:=hs;rw[B87 hj0]at Hv;refine⟨?_,?_⟩
  ·show((Aa (A8k f0 tl st.objs)).lookup j).isSome;by_cases hex:∃q∈tl,f0 q.1=j
   ·obtain⟨q,hq,rfl⟩:=hex;rw[Lc (put q hq)];rfl
   ·rw[B87 hj0,Tu fun q hq e=>hex ⟨q,hq,e⟩];exact Hv
  ·intro k e hk;rcases Bf1 k hk with ⟨q,hq,rfl⟩|⟨q,hq,S,ty,x,e',G3,o,ho⟩
   ·rcases A7o q hq with h|⟨h,_⟩
    ·exact h
    ·have:f0 q.1=j:=by rw[← Agn (ht.low q hq)];exact e
     omega
   ·have:=((S.D5 _ 0 x _ G3 ho).map (eqv _)).ge;have e':f k=j:=e;simp only at this;omega
 ·intro k hk;rcases Bf1 k hk with ⟨q,hq,rfl⟩|⟨q,hq,S,ty,x,e',G3,o,ho⟩
  ·rcases A7o q hq with h|⟨_,h⟩
   ·exact .inl h
   ·right;show Ou f0 q.1∈_;rw[show Ou f0 q.1=f0 q.1 from Agn (ht.low q hq)];exact Bo0 _ h
  ·right;refine Bnz _ (Bji hq e' _ ?_);have:(f k,Ef f o)∈S.C7 (f q.1) 0 x:=by rw[← S.Rh q.1 0 x G3 (eqv _)];exact Bnr (f:=fun p:Nat×Ob=>(f p.1,Ef f p.2)) ho
   rw[Agn (ht.low q hq)]at this;exact S.Sn _ 0 x _ this
inductive ShA:List AS→List XV→Prop
 |nil:ShA [] []
 |d {t:Ty} {r:List AS} {y:XD} {xs:List XV}:ShA r xs→ShA (.d t::r) (.d y::xs)
 |p {k off:Nat} {r:List AS} {xs:List XV}:k<9→ShA r xs→ShA (.p k off::r) (.nm k (A04 off)::xs)
 |g {k:Nat} {t:Ty} {r:List AS} {y:XD} {xs:List XV}:ShA r xs→ShA (.g k t::r) (.d y::xs)
 |Bh4 {p:Bool} {r:List AS} {xs:List XV}:ShA r xs→ShA (.nil p::r) (Avp p::xs)
def B36:A6 AS→Bool
 |[]=>true
 |.g _ _::r=>B36 r
 |_=>false
def Afs:A6 AS→Bool
 |[]=>true
 |.d _::r=>Afs r
 |.p k off::r=>cond (Nat.blt k 9) (cond (Nat.ble 900000000 off) false (Afs r)) false
 |.g _ _::r=>B36 r
 |.nil _::r=>Afs r
 |_=>false
theorem Ao8{α:Type}{Q:α→A6 XV→Prop}{f:A6 XV→α}:∀(l:A6 AS) (acc:A6 XV),B36 l=true→(∀tail,ShA l tail→Q (f (acc++tail)) (acc++tail))→A2t Q l (A45 l f acc) acc
 |[],acc,_,h=>by have:=h [] .nil;rw[Bom]at this;exact this
 |.g k t::r,acc,ho,h=>fun y=>Ao8 r _ ho fun tail ht=>by have:=h (_::tail) (.g (k:=k) (t:=t) (y:=t.xv y) ht);rw[Bsj]at this;exact this
 |.d _::_,_,ho,_=>by cases ho
 |.p _ _::_,_,ho,_=>by cases ho
 |.os _ _::_,_,ho,_=>by cases ho
 |.oa _ _ _::_,_,ho,_=>by cases ho
 |.nil _::_,_,ho,_=>by cases ho
 |.Ek _ _::_,_,ho,_=>by cases ho
theorem A5z{α:Type}{Q:α→A6 XV→Prop}{f:A6 XV→α}:∀(l:A6 AS) (acc:A6 XV),Afs l=true→(∀tail,ShA l tail→Q (f (acc++tail)) (acc++tail))→A2t Q l (A45 l f acc) acc
 |[],acc,_,h=>by have:=h [] .nil;rw[Bom]at this;exact this
 |.d t::r,acc,ho,h=>fun y=>A5z r _ ho fun tail ht=>by have:=h (_::tail) (.d (t:=t) (y:=t.xv y) ht);rw[Bsj]at this;exact this
 |.p k off::r,acc,ho,h=>by
  obtain⟨h1,h2⟩:=Ap ho;cases hB:Nat.ble 900000000 off with
  |true=>rw[hB]at h2;cases h2
  |false =>
  rw[hB,Bnc]at h2;rw[Bpb]at h1;simp only[A2t,A45];exact A5z r _ h2 fun tail ht=>by have:=h (_::tail) (.p (off:=off) h1 ht);rw[Bsj]at this;exact this
 |.g k t::r,acc,ho,h=>fun y=>Ao8 r _ ho fun tail ht=>by have:=h (_::tail) (.g (k:=k) (t:=t) (y:=t.xv y) ht);rw[Bsj]at this;exact this
 |.os _ _::_,_,ho,_=>by cases ho
 |.oa _ _ _::_,_,ho,_=>by cases ho
 |.nil p::r,acc,ho,h=>by
  simp only[A2t,A45];exact A5z r _ ho fun tail ht=>by have:=h (_::tail) (.Bh4 (p:=p) ht);rw[Bsj]at this;exact this
 |.Ek _ _::_,_,ho,_=>by cases ho
theorem Bf3:∀ {l:A6 AS} {xs:A6 XV},B36 l=true→ShA l xs→A8e l=0∧Ch (Ae xs)=true
 |[],_,_,h=>by cases h;exact⟨rfl,rfl⟩
 |.g k t::r,_,ho,h=>by
  cases h with
  |g h =>have:=(Bf3 (l:=r) ho h).2;exact⟨rfl,by simp only[Ae,Ch,this,Bq2];rfl⟩
 |.d _::_,_,ho,_=>by cases ho
 |.p _ _::_,_,ho,_=>by cases ho
 |.os _ _::_,_,ho,_=>by cases ho
 |.oa _ _ _::_,_,ho,_=>by cases ho
 |.nil _::_,_,ho,_=>by cases ho
 |.Ek _ _::_,_,ho,_=>by cases ho
theorem As8:∀ {l:A6 AS} {xs:A6 XV},Afs l=true→ShA l xs→Agm (xs.take (A8e l))=true∧Ch (Ae (xs.drop (A8e l)))=true∧xs.length=l.length
 |[],_,_,h=>by cases h;exact⟨rfl,rfl,rfl⟩
 |.d t::r,_,ho,h=>by
  cases h with
  |d h =>obtain⟨h1,h2,h3⟩:=As8 (l:=r) ho h;exact⟨h1,h2,by simp[h3]⟩
 |.p k off::r,_,ho,h=>by
  cases h with
  |p hk h =>
   have ho2:=(Ap ho).2;cases hB:Nat.ble 900000000 off with
   |true=>rw[hB]at ho2;cases ho2
   |false =>
   rw[hB,Bnc]at ho2;obtain⟨h1,h2,h3⟩:=As8 (l:=r) ho2 h;refine⟨?_,h2,by simp[h3]⟩;simp only[A8e,Btn];unfold A04;rw[hB,Bnc];cases Nat.beq off pkM with
   |true=>simp only[Bna,Agm,A0c hk,h1]
   |false=>simp only[Bnc,Agm,A0c hk,Bna,h1]
 |.g k t::r,_,ho,h=>by
  have hl:∀ {l:A6 AS} {xs:A6 XV},ShA l xs→xs.length=l.length:=by
   intro l xs h;induction h with
   |nil=>rfl
   |d _ ih=>simp[ih]
   |p _ _ ih=>simp[ih]
   |g _ ih=>simp[ih]
   |Bh4 _ ih=>simp[ih]
  refine⟨rfl,?_,hl h⟩;exact(Bf3 (l:=.g k t::r) ho h).2
 |.os _ _::_,_,ho,_=>by cases ho
 |.oa _ _ _::_,_,ho,_=>by cases ho
 |.nil p::r,_,ho,h=>by
  cases h with
  |Bh4 h =>obtain⟨h1,h2,h3⟩:=As8 (l:=r) ho h;exact⟨h1,h2,by simp[h3]⟩
 |.Ek _ _::_,_,ho,_=>by cases ho
def B37(P:Program)(f:FuncId)(S:ASp)(F:S.Cw):Prop :=
 A2t (fun F' xs=>Bdc (fun F'' l=>∀y,F''=some y→Bez P f S y xs l) S.ins F' []) S.args F []
def B0b{Γ:A6 (Ix P)}(hm:P.follows .mixedOrders=true)(hf:P.funcs[f]? = some fn)
  (hn:Nat.ble S.args.length fn.ntmps=true) (ha:Afs S.args=true):B37 P f S (Bdd P Γ own N fn an S):=by
 unfold B37 Bdd;refine A5z S.args [] ha fun xs hxs=>?_
 rw[Bou];obtain⟨h1,h2,h3⟩:=As8 ha hxs;refine Aw0 (A0g S.ins) (fun l hl=>?_) S.ins [] (by simp);intro y hy;exact Aw3 hm hf (by have:=Bnu hn;omega) h1 h2 hl hy
def Bdg{β R:Type}(f:Nat→Nat)(objs:A6 (Nat×Af)):(L:A6 (Nat×Sh×A7 TypeId))→B5n L β→A6 (Nat×Af)→(β→A6 (Nat×Af)→A7 R)→A7 R
 |[],F,acc,K=>K F acc
 |p::r,F,acc,K=>match Ao4 p.2.1 p.2.2 (f p.1) objs with
  |some x=>Bdg f objs r (F x) (acc++[(p.1,.abs p.1 p.2.1 p.2.2 x)]) K
  |none=>none
theorem B38{β R:Type}{Q:β→A6 (Nat×Af)→Prop}{f:Nat→Nat}{objs:A6 (Nat×Af)}{K:β→A6 (Nat×Af)→A7 R}{r:R}:∀(L:A6 (Nat×Sh×A7 TypeId)) (F:B5n L β) (acc:A6 (Nat×Af)),Bdc Q L F acc →
  (∀q∈acc,(∃S ty x,q.2=Af.abs q.1 S ty x)∧lk (f q.1) objs=some (q.2.re f))→Bdg f objs L F acc K=some r →
  ∃F' l,Q F' l∧(∀q∈l,(∃S ty x,q.2=Af.abs q.1 S ty x)∧lk (f q.1) objs=some (q.2.re f))∧K F' l=some r
 |[],F,acc,hg,ha,h=>⟨F,acc,hg,ha,h⟩
 |p::L,F,acc,hg,ha,h=>by
  unfold Bdg at h;split at h
  ·rename_i x hx;refine B38 L (F x) _ (hg x) ?_ h;intro q hq;rcases Bnk.1 hq with hq|hq
   ·exact ha q hq
   ·rw[Bnw]at hq;subst hq;exact⟨⟨_,_,_,rfl⟩,Abg hx⟩
  ·cases h
def A1z{R:Type}:(L:A6 AR)→Agl L→(Agl L→R)→R
 |[],x,K=>K x
 |.d _::r,x,K=>A1z r x.2 fun y=>K (x.1,y)
 |.n _ _ _::r,x,K=>A1z r x.2 fun y=>K (x.1,y)
 |.z _ _ _::r,x,K=>A9 x.1 (A1z r x.2 fun y=>K (none,y)) fun z=>A1z r x.2 fun y=>K (some z,y)
theorem A60{R:Type}:∀(L:A6 AR) (x:Agl L) (K:Agl L→R),A1z L x K=K x
 |[],x,K=>rfl
 |.d _::r,x,K=>by simp only[A1z,A60 r]
 |.n _ _ _::r,x,K=>by simp only[A1z,A60 r]
 |.z _ _ _::r,x,K=>by
  simp only[A1z,A60 r];obtain⟨a,b⟩:=x;cases a<;>rfl
def B0c(base:Nat):A6 AR→A6 (Nat×Nat)
 |[]=>[]
 |.d _::r=>B0c base r
 |.n m _ _::r=>(m,base+m)::B0c base r
 |.z m _ _::r=>(m,base+m)::B0c base r
def B0d(ns Fv:A6 Nat)(f:Nat→Nat):A6 (Nat×Af)→Bool
 |[]=>true
 |p::r=>cond (cond (inl p.1 ns) true (cond (Nat.ble 1000 (f p.1)) (inl (f p.1) Fv) false)) (B0d ns Fv f r) false
theorem Ajr{ns Fv:A6 Nat}{f:Nat→Nat}:∀ {l:A6 (Nat×Af)},B0d ns Fv f l=true→∀q∈l,q.1∈ns∨(1000≤f q.1∧f q.1∈Fv)
 |[],_,q,hq=>by cases hq
 |p::r,h,q,hq=>by
  obtain⟨h1,h2⟩:=Ap h;rcases Bnd.1 hq with rfl|hq
  ·cases hi:inl q.1 ns with
   |true=>exact .inl ((E7 _ _).1 hi)
   |false =>rw[hi,Bnc]at h1;obtain⟨h3,h4⟩:=Ap h1;exact .inr ⟨Bnu h3,(E7 _ _).1 h4⟩
  ·exact Ajr h2 q hq
def Bjl{P:Program}{R:Type}(S:ASp)(f:Nat→Nat)(Fv:A6 Nat)(st:Ak)(rd:A6 (Operand×XV))(xs:A6 XV)(l:A6 (Nat×Af))(K:Out→A7 R)(y:S.Out):A7 R :=
 cond (Wx (xs.drop S.n)) (cond (Pe st.objs) (cond (I7 (l.map (·.1))) (cond (Pe (Ng S y)) (cond (I7 ((Ng S y).map (·.1))) (cond (I7 ((Ng S y).map fun q=>f q.1)) (cond (Xz ((Ng S y).map fun q=>f q.1))
  (cond (B0d (A0g S.ins) Fv f (Ng S y)) (cond (Xz Fv) (cond (Pe (A8k f (Ng S y) st.objs)) (cond (Afr ((Ng S y).map fun q=>f q.1) (Fv++Adv f (Ng S y)) st.objs)
  (K ⟨.all,(Ml (As5 S.res y.2)).mp f (fun n=>n),rd,A8k f (Ng S y) st.objs,st.live,Fv++Adv f (Ng S y),(Ng S y).map fun q=>f q.1⟩) none) none) none) none) none) none) none) none) none) none) none
def Bh5{P:Program}{R:Type}(S:ASp)(F:S.Cw)(o:Oper)(st:Ak)(vs:A6 XV)(K:Out→A7 R):A7 R :=
 cond (Nat.beq (Cj o).length S.n) (match Ci st (B01 S.M8) with
  |some us=>Ads (Afo S.args vs (B0c (Adr o) S.res)) fun σ=>M9 (nf σ) S.args F (B02 vs us) [] fun F' xs =>
    Bdg (nf σ) st.objs S.ins F' [] fun F'' l=>Option.bind F'' fun y=>A1z S.res y.2 fun z =>Bjl (P:=P) S (nf σ) ((B0c (Adr o) S.res).map (·.2)) st ((B02 (Cj o) (B01 S.M8)).zip (mpL (nf σ) (fun n=>n) xs)) xs l K (y.1,z)
  |none=>none) none
theorem Aw7:∀(L:A6 (Nat×Sh×A7 TypeId)) (x:B07 L),∀q∈Afq L x,∃S ty x,q.2=Af.abs q.1 S ty x
 |[],_,q,hq=>by cases hq
 |p::r,x,q,hq=>by
  rcases Bnd.1 hq with rfl|hq
  ·exact⟨_,_,_,rfl⟩
  ·exact Aw7 r x.2 q hq
theorem Abk:∀(L:A6 AR) (x:Agl L),∀q∈Uy L x,∃S ty x,q.2=Af.abs q.1 S ty x
 |[],_,q,hq=>by cases hq
 |.d _::r,x,q,hq=>Abk r x.2 q hq
 |.n m S ty::r,x,q,hq=>by
  rcases Bnd.1 hq with rfl|hq
  ·exact⟨_,_,_,rfl⟩
  ·exact Abk r x.2 q hq
 |.z m S ty::r,x,q,hq=>by
  rcases Bnk.1 hq with hq|hq
  ·cases hx:x.1 with
   |none=>rw[hx]at hq;cases hq
   |some y=>rw[hx]at hq;rw[Bnw]at hq;subst hq;exact⟨_,_,_,rfl⟩
  ·exact Abk r x.2 q hq
theorem Ah0:∀(L:A6 AR) (x:Agl L),∀v∈As5 L x,(∃y,v = .d y)∨∃m,v = .nm m (.p 0)∧m∈(Uy L x).map (·.1)
 |[],_,v,hv=>by cases hv
 |.d t::r,x,v,hv=>by
  rcases Bnd.1 hv with rfl|hv
  ·exact .inl ⟨_,rfl⟩
  ·exact Ah0 r x.2 v hv
 |.n m S ty::r,x,v,hv=>by
  rcases Bnd.1 hv with rfl|hv
  ·exact .inr ⟨m,rfl,by simp[Uy]⟩
  ·rcases Ah0 r x.2 v hv with h|⟨m',h1,h2⟩
   ·exact .inl h
   ·exact .inr ⟨m',h1,by simp only[Uy,Bnh];exact Bnl _ h2⟩
 |.z m S ty::r,x,v,hv=>by
  rcases Bnd.1 hv with hv|hv
  ·cases hx:x.1 with
   |none=>rw[hx]at hv;exact .inl ⟨_,hv⟩
   |some y=>rw[hx]at hv;exact .inr ⟨m,hv,by simp[Uy,hx]⟩
  ·rcases Ah0 r x.2 v hv with h|⟨m',h1,h2⟩
   ·exact .inl h
   ·exact .inr ⟨m',h1,by simp only[Uy,Bo4];exact Bnz _ h2⟩
def Aw8(h:∀v∈vs,(∃y,v=XV.d y)∨∃m,v = .nm m (.p 0)∧m∈ks):Cy ks (Ml vs).a=true:=by
 have one:∀v∈vs,Cy ks v.a=true:=by
  intro v hv;rcases h v hv with ⟨y,rfl⟩|⟨m,rfl,hm⟩
  ·rfl
  ·exact Boq.2 hm
 have many:∀l:A6 XV,(∀v∈l,Cy ks v.a=true)→C2 ks (Ae l)=true:=by
  intro l;induction l with
  |nil=>intro _;rfl
  |cons x r ih=>intro h;simp only[Ae,C2,h x Bnm,ih fun v hv=>h v (Bnl _ hv),Bpe]
 rw[Sg];cases vs with
 |nil=>rfl
 |cons x r =>
  cases r with
  |nil=>exact one x Bnm
  |cons y r=>exact many _ one
def B5o(h:∀v∈vs,(∃y,v=XV.d y)∨∃m,v = .nm m (.p 0)∧m<H0):E2 (Ou f0) (Ml vs).a=((Ml vs).mp f0 (fun n=>n)).a:=by
 have one:∀v∈vs,E2 (Ou f0) v.a=(v.mp f0 (fun n=>n)).a:=by
  intro v hv;rcases h v hv with ⟨y,rfl⟩|⟨m,rfl,hm⟩
  ·rfl
  ·simp only[XV.a,XV.mp,E2,Wy hm]
 have many:∀l:A6 XV,(∀v∈l,E2 (Ou f0) v.a=(v.mp f0 (fun n=>n)).a)→Dx (Ou f0) (Ae l)=Ae (mpL f0 (fun n=>n) l):=by
  intro l;induction l with
  |nil=>intro _;rfl
  |cons x r ih=>intro h;simp only[Ae,Dx,mpL,h x Bnm,ih fun v hv=>h v (Bnl _ hv)]
 cases vs with
 |nil=>rfl
 |cons x r =>
  cases r with
  |nil=>exact one x Bnm
  |cons y r =>show E2 (Ou f0) (.Er (Ae (x::y::r)))=_;simp only[E2,many _ one];rfl
theorem B39{f0:Nat→Nat}:∀ {xs:A6 XV},Agm xs=true→Dx (Ou f0) (Ae xs)=Ae (mpL f0 (fun n=>n) xs)∧Ep (Ae xs)=true
 |[],_=>⟨rfl,rfl⟩
 |x::r,h=>by
  have key:(E2 (Ou f0) x.a=(x.mp f0 (fun n=>n)).a∧A03 x.a=true)∧Agm r=true:=by
   cases x with
   |d d=>exact⟨⟨rfl,rfl⟩,h⟩
   |nm k p =>
    cases p with
    |p off =>obtain⟨h1,h2⟩:=Ap h;rw[Bpb]at h1;exact⟨⟨by simp only[XV.a,XV.mp,E2,Wy (A1y (show k<1000 by omega))],rfl⟩,h2⟩
    |m =>obtain⟨h1,h2⟩:=Ap h;rw[Bpb]at h1;exact⟨⟨by simp only[XV.a,XV.mp,E2,Wy (A1y (show k<1000 by omega))],rfl⟩,h2⟩
    |_=>cases h
   |_=>cases h
  obtain⟨h1,h2⟩:=B39 (f0:=f0) key.2;exact⟨by simp only[Ae,Dx,mpL,key.1.1,h1],by simp only[Ae,Ep,key.1.2,h2,Bpe]⟩
variable{Cm:Array Operand}
def Bdh{R:Type}{id:FuncId}{F:S.Cw}(hc:F6 P id)(hs:B37 P id S F){K:Out→A7 R}{r:R}
  (ho:o.op = .call { callee:=.value (.func id),args:=Cm,argTypes:=ts }) (hv:Ci st Cm.toList=some vs) (h:Bh5 (P:=P) S F o st vs K=some r):∃out,K out=some r∧Cr P o st out:=by
 have e:Cj o=Cm.toList:=by simp[Cj,ho]
 unfold Bh5 at h;rw[e]at h;cases hb:Nat.beq Cm.toList.length S.n with
 |false=>rw[hb]at h;cases h
 |true =>
 have hn:Cm.toList.length=S.n:=Bne hb;rw[hb,Bna]at h;split at h
 rotate_left
 ·cases h
 rename_i us hus;rw[Agz,Agz,Ab7]at h;rw[Ab7]at hus;rw[W5]at h;generalize Afo S.args vs (B0c (Adr o) S.res)=σ at h;generalize (B0c (Adr o) S.res).map (·.2)=Fv at h;obtain⟨F',xs,q1,a1,h⟩:=Pl (fl:=fun n=>n) S.args F (vs++us) [] [] hs .nil h;obtain⟨F'',l,q2,a2,h⟩:=B38 S.ins F' [] q1 (by simp) h;obtain⟨y,hy,h⟩:=Bor.1 h;rw[Bou]at a1;rw[A60]at h;obtain⟨A46,Blr,Are,Ba2⟩:=q2 y hy;unfold Bjl at h;have c:∀ {a:Bool} {x:A7 R},cond a x none=some r→a=true∧x=some r:=by intro a x h;cases a<;>first|exact⟨rfl,h⟩|cases h
 obtain⟨Ama,h⟩:=c h;obtain⟨k1,h⟩:=c h;obtain⟨k2,h⟩:=c h;obtain⟨k3,h⟩:=c h;obtain⟨k4,h⟩:=c h;obtain⟨k5,h⟩:=c h;obtain⟨k6,h⟩:=c h;obtain⟨k7,h⟩:=c h;obtain⟨k8,h⟩:=c h;obtain⟨k9,h⟩:=c h;obtain⟨k10,h⟩:=c h;have e2:((y.1,y.2):S.Out)=y:=rfl;rw[e2]at *;have hl:A8l l:=.of Blr (D1 k2) fun q hq=>(a2 q hq).1
 have ht:A8l (Ng S y):=.of k3 (D1 k4) fun q hq=>by
  rcases Bnk.1 hq with hq|hq
  ·exact Aw7 _ _ q hq
  ·exact Abk _ _ q hq
 have We:=Bdf (ns:=A0g S.ins) (f0:=nf σ) k1 hl ht A46 (fun k hk=>by
  unfold Ng;rw[Bo4,A49];exact Bo0 _ hk) (fun q hq=>(a2 q hq).2) (D1 k5) (fun q hq=>R6 k6 _ (Bnr (f:=fun q:Nat×Af=>nf σ q.1) hq)) (Ajr k7) k8 k9 k10
 have hxl:xs.length=Cm.toList.length+(S.M8.map Operand.global).length:=by have h1:=a1.length;have h2:=I3 (Pk hv hus);rw[@List.length_append _ Cm.toList]at h2;omega
 have htk:(xs.take S.n).length=Cm.size:=by
  rw[Bof,hxl];have:Cm.toList.length=Cm.size:=by simp
  omega
 refine⟨_,h,⟨a1.V8 (Pk hv hus),?_,fun k x hk hx=>?_⟩⟩
 ·obtain⟨m1,m2⟩:=B39 (f0:=nf σ) Are;have hval:=Ah0 S.res y.2;have Bf4:∀m,m∈(Uy S.res y.2).map (·.1)→m∈(Ng S y).map (·.1):=fun m hm=>by unfold Ng;rw[Bo4];exact Bnz _ hm
  have:=Aw4 (Ou (nf σ)) _ ho hc Ba2 We (by rw[Aq,htk]) m2 (A1w Ama) ⟨(Ng S y).map (·.1),Aw8 fun v hv=>(hval v hv).imp (fun h=>h) fun⟨m,h1,h2⟩=>⟨m,h1,Bf4 m h2⟩,fun j hj=>by
   obtain⟨q,hq,rfl⟩:=Bnp.1 hj;exact ht.head hq⟩
  rw[B5o (f0:=nf σ) fun v hv=>(hval v hv).imp (fun h=>h) fun⟨m,h1,h2⟩=>⟨m,h1,by
   obtain⟨q,hq,rfl⟩:=Bnp.1 (Bf4 m h2);exact ht.low q hq⟩]at this
  have hz:Bc ((Cm.toList++S.M8.map Operand.global).zip (mpL (nf σ) (fun n=>n) xs))=Cm.toList.zip (Dx (Ou (nf σ)) (Ae (xs.take S.n)))++(S.M8.map Operand.global).zip (Ae (xs.drop S.n)):=by
   conv=>lhs;rw[← Bqs S.n xs]
   rw[Wv,Arz Ama,Bst (by rw[Ab8,Bo1,htk];simp),Hs,Kd,Kd,m1]
  show Ca P o (Bc ((Cm.toList++S.M8.map Operand.global).zip (mpL (nf σ) (fun n=>n) xs))) st.X ⟨Aa (A8k (nf σ) (Ng S y) st.objs),st.live⟩ _ _;rw[hz];exact this
 ·rw[Tu]at hx
  ·exact hx
  ·intro q hq e;exact hk (Bnp.2 ⟨q,hq,e⟩)
def Bls{P:Program}(id:FuncId)(S:ASp)(F:S.Cw)(hc:F6 P id)(hs:B37 P id S F):Ix P where
 id:=id
 run:=Bh5 (P:=P) S F
 ok:=by intro R o st Cm ts vs K r ho hv h;exact Bdh hc hs ho hv h
def mkA{P:Program}{Γ:A6 (Ix P)}{own:A6 Nat}{N:Nat}(id:FuncId)(fn:Func)(an:A6 Nat→An)(S:ASp)(F:S.Cw)(hm:P.follows .mixedOrders=true)(hf:P.funcs[id]? = some fn)(hc:F6 P id)
  (hn:Nat.ble S.args.length fn.ntmps=true) (ha:Afs S.args=true) (hE:Bdd P Γ own N fn an S=F):Ix P:=Bls id S F hc (hE▸B0b hm hf hn ha)
def Aw9 {P : Program} (Γ : List (Ix P)) (own : List Nat) (N : Nat) (id : FuncId) {fn : Func} (an : List Nat → An) (S : ASp) (F : S.Cw) (hm : P.follows .mixedOrders = true) (hf : P.funcs[id]? = some fn) (hb : fn.body.isSome = true) (Uv : (fn.name == "runtime.NumGoroutine") = false) (hn : Nat.ble S.args.length fn.ntmps = true) (ha : Afs S.args = true) (hE : Bdd P Γ own N fn an S = F) : Ix P := mkA id fn an S F hm hf (.mk' hf hb Uv) hn ha hE
def Bf5:XV→Bool
 |.d (.v (.pointer none))=>true
 |.d (.v (.map none))=>true
 |_=>false
def Ajs:Nat→A6 XV→Bool
 |0,v::_=>Bf5 v
 |i+1,_::r=>Ajs i r
 |_,[]=>false
def Ajt{P:Program}(id:FuncId)(sel:A6 XV→Bool)(e1 e2:Ix P)(h1:e1.id=id)(h2:e2.id=id):Ix P where
 id:=id
 run:=fun o st vs K=>cond (sel vs) (e1.run o st vs K) (e2.run o st vs K)
 ok:=by
  intro R o st args ts vs K r ho hv h;cases hs:sel vs with
  |true=>rw[hs,Bna]at h;exact e1.ok o st args ts vs K r (h1▸ho) hv h
  |false=>rw[hs,Bnc]at h;exact e2.ok o st args ts vs K r (h2▸ho) hv h
def Sp{P:Program}(id:FuncId)(sel:Ak→A6 XV→Bool)(e1 e2:Ix P)(h1:e1.id=id)(h2:e2.id=id):Ix P where
 id:=id
 run:=fun o st vs K=>cond (sel st vs) (e1.run o st vs K) (e2.run o st vs K)
 ok:=by
  intro R o st args ts vs K r ho hv h;cases hs:sel st vs with
  |true=>rw[hs,Bna]at h;exact e1.ok o st args ts vs K r (h1▸ho) hv h
  |false=>rw[hs,Bnc]at h;exact e2.ok o st args ts vs K r (h2▸ho) hv h
def Bjm:Nat→A6 XV→Bool
 |0,v::_=>Bf5 v
 |j+1,_::r=>Bjm j r
 |_,[]=>false
def Ri(j:Nat)(st:Ak)(vs:A6 XV):Bool :=
 match vs with
 |.nm k _::_=>match lk k st.objs with
  |some (.cells cs _)=>Bjm j cs
  |_=>false
 |_=>false
def Bjn(st:Ak)(vs:A6 XV):Bool :=
 match vs with
 |.nm k _::_=>match lk k st.objs with
  |some (.abs _ _ _ _)=>true
  |_=>false
 |_=>false
def Bjo(n:Nat)(st:Ak)(vs:A6 XV):Bool :=
 match vs with
 |.nm _ (.s _ l _)::_=>Nat.beq l n
 |_=>false
@[reducible] def Jt (kt vt:Ty) (b:Nat) (l:A6 (Nat×kt.T×vt.T)):A7 (Nat×kt.T×vt.T):=A3r (kt:=kt) (vt:=vt) b l
open Go.Sort Go.Proofs Go.Shelf Go.RowKit Go.Lib
def Ty.Plain.one(h:t.Plain)(x:t.T):∀v∈t.Uh x,v.oneCell'=true:=by
 intro v hv;have h1:D.sc v∈t.ds x:=by rw[← h.Uh x];exact Bnr (f:=D.sc) hv
 have:=t.Z1 x _ h1;simpa[A2l]using this
def Ty.Plain.ra(h:t.Plain)(ha:t.agg=true)(x:t.T)(g:Gh)(w:World):RA g w (XV.d (t.xv x)).a (.agg (t.Uh x).toArray):=by
 have e:(XV.d (t.xv x)).a = .d (.agg ((t.Uh x).map .sc)):=by show AV.d (t.dv x)=_;rw[t.A19 x ha,h.Uh]
 rw[e];refine .d _ _ (.agg _ _ (by simp) ?_);intro i c v hc hv;rw[Bni,Bnn]at hc;obtain⟨u,hu,rfl⟩:=hc;simp only[Bqf]at hv;rw[hu]at hv;cases hv;exact .sc _
variable{ρ:Ren}
def Amd(L:SlLaysF0.n6 P ρ)(hf:ρ.f 6=f){T:Ty}(hp:T.Plain)(A6n:T.agg=true)(aE:∀w,(isAgg (ρ.t 24)).run P w = .ok true w)(zE:∀w,(Go.sizeOf (ρ.t 24)).run P w = .ok T.size w)
  (hci:F6 P f) (cf:T.T→T.T→Int) (hO:SWO (ltOf cf)) (hT:∀x y,(ltOf cf) x y=false→(ltOf cf) y x=false→x=y) (hcc:F6 P c)
  (As9:∀x y,Does P c (Ae [.d (T.xv x),.d (T.xv y)]) X0 (.d (.sc (.int .i64 (cf x y)))) X0):Anv P f c T (fun d=>d.mergeSort fun x y=>!(ltOf cf) y x) where
 plain:=hp
 ci:=hci
 len d:=by simp
 none p cap w:=by have:=Bsu L p cap (.func (.func c) #[] #[]) w;rw[hf]at this;exact this
 some:=by
  letI:=Anu T;intro l blk cap w hl hH Bn7;have Au5:CmpLays P c #[] T.Uh T.size cf blk 0 l.toArray.size w:=by
   intro m os dk hs x y;have:=(As9 x y).grown (w:=sortWorldK T.Uh T.size w blk 0 m dk os) (vs:=#[.agg (T.Uh x).toArray,.agg (T.Uh y).toArray]) rfl (by
    intro i z v hz hv
    match i with
    |0=>simp[Ae]at hz hv;subst hz;subst hv;exact hp.ra A6n x _ _
    |1=>simp[Ae]at hz hv;subst hz;subst hv;exact hp.ra A6n y _ _
    |n+2=>simp[Ae]at hz)
   simpa using this
  have:=AnyQ.slices_SortFunc_total L T.size aE zE T.Uh T.A42 hp.one cf hO c #[] blk 0 cap l.toArray w (Dl hcc) Au5 hH Bn7 (by simp;omega) hT;rw[hf]at this;simpa using this
def B5p(T:Ty)(lt:T.T→T.T→Bool)(d:A6 T.T):A6 T.T :=
 letI:=Anu T
 (pdq lt d.toArray 0 d.length (Lib.bitLen d.length) true true).toList
def Ao9{T:Ty}{lt:T.T→T.T→Bool}(hO:SWO lt)(d:A6 T.T):(B5p T lt d).Perm d∧(B5p T lt d).Pairwise (fun x y=>lt y x=false):=by
 letI:=Anu T;obtain⟨⟨h1,_,h2⟩,h3⟩:=pdq_sorts lt hO d.toArray 0 d.length (Lib.bitLen d.length) true true (Bq9 _) (by simp) (Or.inl rfl);have e:(B5p T lt d)=(pdq lt d.toArray 0 d.length (Lib.bitLen d.length) true true).toList:=rfl;generalize pdq lt d.toArray 0 d.length (Lib.bitLen d.length) true true=a at *;simp only[Bq1]at h1;refine⟨?_,?_⟩
 ·rw[e];have h4:a.extract 0 d.length=a:=by rw[← h1];simp
  rw[h4]at h2;simpa using h2
 ·rw[e,Bp6];intro i j hi hj hij;have:=h3 i j (Bq9 _) hij (by simpa[h1]using hj);simpa[hi,hj,show i<a.size by simpa using hi,show j<a.size by simpa using hj]using this
def B0e(L:SlLaysF0.n6 P ρ)(hf:ρ.f 6=f){T:Ty}(hp:T.Plain)(A6n:T.agg=true)(aE:∀w,(isAgg (ρ.t 24)).run P w = .ok true w)(zE:∀w,(Go.sizeOf (ρ.t 24)).run P w = .ok T.size w)
  (hci:F6 P f) (cf:T.T→T.T→Int) (hO:SWO (ltOf cf)) (hcc:F6 P c)
  (As9:∀x y,Does P c (Ae [.d (T.xv x),.d (T.xv y)]) X0 (.d (.sc (.int .i64 (cf x y)))) X0):Anv P f c T (B5p T (ltOf cf)) where
 plain:=hp
 ci:=hci
 len d:=(Ao9 hO d).1.length_eq
 none p cap w:=by have:=Bsu L p cap (.func (.func c) #[] #[]) w;rw[hf]at this;exact this
 some:=by
  letI:=Anu T;intro l blk cap w hl hH Bn7;have Au5:CmpLays P c #[] T.Uh T.size cf blk 0 l.toArray.size w:=by
   intro m os dk hs x y;have:=(As9 x y).grown (w:=sortWorldK T.Uh T.size w blk 0 m dk os) (vs:=#[.agg (T.Uh x).toArray,.agg (T.Uh y).toArray]) rfl (by
    intro i z v hz hv
    match i with
    |0=>simp[Ae]at hz hv;subst hz;subst hv;exact hp.ra A6n x _ _
    |1=>simp[Ae]at hz hv;subst hz;subst hv;exact hp.ra A6n y _ _
    |n+2=>simp[Ae]at hz)
   simpa using this
  have:=AnyQ.slices_SortFunc_eq L T.size aE zE T.Uh T.A42 hp.one cf hO c #[] blk 0 cap l.toArray w (Dl hcc) Au5 hH Bn7 (by simp;omega);rw[hf]at this;simpa[B5p]using this
theorem iter_eq{σ R:Type}{f:(σ→A7 R)→σ→A7 R}{G:σ→A7 R}(I:Nat→σ→Prop)
  (step:∀(n:Nat) (x:σ) (rec:σ→A7 R),I n x→(∀(m:Nat) (y:σ),m<n→I m y→rec y=G y)→f rec x=G x) :
  ∀(N n:Nat) (x:σ),I n x→n<N→iter f N x=G x
 |0,n,x,_,h=>absurd h (Nat.not_lt_zero _)
 |N+1,n,x,hi,h=>by
  simp only[iter];exact step n x _ hi fun m y hm hy=>iter_eq I step N m y hy (by omega)
theorem Dn{σ R:Type}{f:(σ→A7 R)→σ→A7 R}{Q:R→Prop}(I:Nat→σ→Prop)
  (step:∀(n:Nat) (x:σ) (rec:σ→A7 R),I n x→(∀(m:Nat) (y:σ),m<n→I m y→∃r,rec y=some r∧Q r)→∃r,f rec x=some r∧Q r) :
  ∀(N n:Nat) (x:σ),I n x→n<N→∃r,iter f N x=some r∧Q r
 |0,n,x,_,h=>absurd h (Nat.not_lt_zero _)
 |N+1,n,x,hi,h=>by
  simp only[iter];exact step n x _ hi fun m y hm hy=>Dn I step N m y hy (by omega)
@[simp] theorem B0 {α:Type} (l:A6 α) (n:Nat):at? l (n:Int)=l[n]?:=rfl
def Lh{n:Nat}(h:n<9223372036854775808):i64.wrap (n:Int)=(n:Int):=by exact Bt1 _ (by omega)
def Ac{n:Nat}(h:n+1<9223372036854775808):i64.wrap ((n:Int)+1)=((n+1:Nat):Int):=by rw[Bt1 _ (by omega)];rfl
def C4{n:Nat}(h:0<n)(h':n<9223372036854775808):i64.wrap ((n:Int)-1)=((n-1:Nat):Int):=by rw[Bt1 _ (by omega)];omega
def Asa{R:Type}(len:Nat)(g:Nat→A7 R){f:((Int×Unit)×Unit×Unit×Unit→A7 R)→(Int×Unit)×Unit×Unit×Unit→A7 R}(start:Nat)
  (hs:∀(rec:(Int×Unit)×Unit×Unit×Unit→A7 R) (k:Nat),start≤k→k<len→rec ((((k+1:Nat):Int),()),(),(),())=g (k+1)→f rec (((k:Int),()),(),(),())=g k)
  (he:∀rec (k:Nat),len≤k→f rec (((k:Int),()),(),(),())=g k) (N:Nat) (hN:len<N):iter f N (((start:Int),()),(),(),())=g start:=by
 have:=iter_eq (f:=f) (G:=fun z=>g z.1.1.toNat) (fun n z=>∃k:Nat,z=(((k:Int),()),(),(),())∧start≤k∧n=len-k) (by
  rintro n z rec ⟨k,rfl,h1,h2⟩ ih;by_cases hk:k<len
  ·exact hs rec k h1 hk (ih (len-(k+1)) _ (by omega) ⟨k+1,rfl,by omega,rfl⟩)
  ·exact he rec k (by omega)) N (len-start) (((start:Int),()),(),(),()) ⟨start,rfl,Bno _,rfl⟩ (by omega)
 exact this
def Asb{R:Type}{x:A7 R}{t:R}(h:∃r,x=some r∧r=t):x=some t:=by obtain⟨r,h1,rfl⟩:=h;exact h1
def Hy{A X R:Type}(l:A6 X)(g:A→X→A)(a0:A)(fin:A→A7 R){f:((A×Int×Unit)×Unit×Unit×Unit→A7 R)→(A×Int×Unit)×Unit×Unit×Unit→A7 R}
  (hs:∀(rec:(A×Int×Unit)×Unit×Unit×Unit→A7 R) (k:Nat) (a:A) (hk:k<l.length),a=(l.take k).foldl g a0→f rec ((a,(k:Int),()),(),(),())=rec ((g a l[k],((k+1:Nat):Int),()),(),(),()))
  (he:∀(rec:(A×Int×Unit)×Unit×Unit×Unit→A7 R),f rec ((l.foldl g a0,(l.length:Int),()),(),(),())=fin (l.foldl g a0)) (N:Nat) (hN:l.length<N):iter f N ((a0,0,()),(),(),())=fin (l.foldl g a0):=by
 have:=iter_eq (f:=f) (G:=fun _=>fin (l.foldl g a0)) (fun n z=>∃k:Nat,z=(((l.take k).foldl g a0,(k:Int),()),(),(),())∧k≤l.length∧n=l.length-k) (by
  rintro n z rec ⟨k,rfl,h1,h2⟩ ih;by_cases hk:k<l.length
  ·rw[hs rec k _ hk rfl];refine ih (l.length-(k+1)) _ (by omega) ⟨k+1,?_,by omega,rfl⟩;have:l.take (k+1)=l.take k++[l[k]]:=by rw[Bp9,Bng hk];rfl
   rw[this,Bsd];rfl
  ·have:k=l.length:=by omega
   subst this;rw[Boh];exact he rec) N l.length ((a0,((0:Nat):Int),()),(),(),()) ⟨0,by simp,by omega,rfl⟩ hN
 exact this
theorem foldl_filter{X:Type}(p:X→Bool):∀(l a:A6 X),l.foldl (fun a x=>cond (p x) (a++[x]) a) a=a++l.filter p
 |[],a=>by simp
 |x::r,a=>by
  simp only[Bp1,Bq0];rw[foldl_filter p r];cases p x<;>simp
theorem foldl_flatMap{X Y:Type}(h:X→A6 Y):∀(l:A6 X) (a:A6 Y),l.foldl (fun a x=>a++h x) a=a++l.flatMap h
 |[],a=>by simp
 |x::r,a=>by
  simp only[Bp1,Bu6];rw[foldl_flatMap h r];simp
def fit{n bytes:Nat}(h:n*bytes≤140737488355328)(h2:n≤4611686018427387904):Au n bytes=true:=by simp only[Au,Boo,Bpk];exact⟨h,h2⟩
def Li{α:Type}(lt:α→α→Bool)(l:A6 α):Prop:=l.Pairwise fun a b=>lt a b=true
theorem Li.ext{α:Type}{lt:α→α→Bool}(ha:∀x y,lt x y=true→lt y x=false):∀ {l m:A6 α},Li lt l→Li lt m→(∀x,x∈l↔x∈m)→l=m
 |[],[],_,_,_=>rfl
 |[],b::m,_,_,h=>by have:=(h b).2 Bnm;simp at this
 |a::l,[],_,_,h=>by have:=(h a).1 Bnm;simp at this
 |a::l,b::m,hl,hm,h=>by
  have hl':=hl;have Ut:=hm;simp only[Li,Bod]at hl' Ut;have irr:∀x,lt x x=false:=by
   intro x;cases hx:lt x x with
   |false=>rfl
   |true=>have:=ha x x hx;rw[hx]at this;cases this
  have hab:a=b:=by
   rcases Bnd.1 ((h a).1 Bnm)with e|e
   ·exact e
   ·rcases Bnd.1 ((h b).2 Bnm)with e'|e'
    ·exact e'.symm
    ·have h1:=Ut.1 a e;have h2:=hl'.1 b e';rw[ha _ _ h1]at h2;cases h2
  subst hab;congr 1;refine Li.ext ha hl'.2 Ut.2 fun x=>?_
  have hx:=h x;simp only[Bnd]at hx;constructor
  ·intro hxl;rcases hx.1 (.inr hxl)with e|e
   ·subst e;have:=hl'.1 x hxl;rw[irr]at this;cases this
   ·exact e
  ·intro hxm;rcases hx.2 (.inr hxm)with e|e
   ·subst e;have:=Ut.1 x hxm;rw[irr]at this;cases this
   ·exact e
def Yo{α:Type}(cf:α→α→Int):A6 α→Bool
 |[]=>true
 |x::r=>(r.all fun y=>ltOf cf x y||ltOf cf y x)&&Yo cf r
theorem A0h{α:Type}{cf:α→α→Int}:∀ {l:A6 α},Yo cf l=true↔l.Pairwise fun x y=>ltOf cf x y=true∨ltOf cf y x=true
 |[]=>by simp[Yo]
 |x::r=>by simp[Yo,A0h (l:=r),Bod]
def A7h{α:Type}(cf:α→α→Int)(l:A6 α):A6 α:=l.mergeSort fun x y=>!(ltOf cf) y x
def Aoa{α:Type}{lt:α→α→Bool}(h:SWO lt)(x y:α)(h1:lt x y=true):lt y x=false:=by
 cases h2:lt y x with
 |false=>rfl
 |true=>have:=h.trans x y x h1 h2;rw[h.irrefl]at this;cases this
def Ib{α:Type}{cf:α→α→Int}(h:SWO (ltOf cf))(l:A6 α):(A7h cf l).Perm l∧(A7h cf l).Pairwise fun x y=>ltOf cf y x=false:=by
 refine⟨Brg _ _,?_⟩;have:=Brf (le:=fun x y=>!(ltOf cf) y x) (by
  intro a b c h1 h2;simp only[Bqq]at *;exact h.ntrans c b a h2 h1) (by
  intro a b;cases h1:ltOf cf b a with
  |false=>simp
  |true=>simp[Aoa h _ _ h1]) l
 exact this.imp fun {x y} h=>by simpa using h
def Zc{α:Type}{cf:α→α→Int}{r l:A6 α}(hp:r.Perm l)(hd:Yo cf l=true)(hs:r.Pairwise fun x y=>ltOf cf y x=false):Li (ltOf cf) r:=by
 have h1:r.Pairwise fun x y=>ltOf cf x y=true∨ltOf cf y x=true:=(hp.pairwise_iff (R:=fun x y=>ltOf cf x y=true∨ltOf cf y x=true) (fun {x y} h=>h.symm)).2 (A0h.1 hd)
 unfold Li;refine(hs.and h1).imp fun {x y} h=>?_
 rcases h.2 with h2|h2
 ·exact h2
 ·rw[h.1]at h2;cases h2
def A0i{α:Type}{cf:α→α→Int}(h:SWO (ltOf cf)){r l:A6 α}(hd:Yo cf l=true)(hp:r.Perm l)(hs:r.Pairwise fun x y=>ltOf cf y x=false):r=A7h cf l:=by obtain⟨p,s⟩:=Ib h l;exact Li.ext (Aoa h) (Zc hp hd hs) (Zc p hd s) fun x=>by rw[hp.mem_iff,p.mem_iff]
structure Adw(P:Program)(f c:FuncId)(T:Ty)(cf:T.T→T.T→Int)(ok:List T.T→Bool)(φ:List T.T→List T.T):Prop where
 ci:F6 P f
 agg:T.agg=true
 swo:SWO (ltOf cf)
 none:∀p cap w,Calls P f #[.slice p 0 cap,.func (.func c) #[] #[]] w fun e w'=>e = .returned (.tuple #[])∧w'=w
 cmp:∀x y,Does P c (Ae [.d (T.xv x),.d (T.xv y)]) X0 (.d (.sc (.int .i64 (cf x y)))) X0
 any:Au4 P f c T.size
 one:∀l,ok l=true→∀r:List T.T,r.Perm l→r.Pairwise (fun x y=>ltOf cf y x=false)→r=φ l
def Aju{P:Program}{R:Type}(c:FuncId)(T:Ty)(ok:A6 T.T→Bool)(φ:A6 T.T→A6 T.T)(o:Oper)(st:Ak)(vs:A6 XV)(K:Out→A7 R):A7 R :=
 match Cj o,vs with
 |[s,x],[v,.Ek c' []]=>cond (Nat.beq c' c) (match v with
  |.os k t a len=>match lk k st.objs with
   |some (.arr u l)=>if h:u.Jx T=true then cond (t.Jx T) (cond (Nat.beq a 0) (cond (Nat.ble len l.length) (cond (Nat.ble len 4611686018427387903) (cond (ok ((Ty.Av h▸l:A6 T.T).take len))
     (K ⟨.put k (.arr T (φ ((Ty.Av h▸l:A6 T.T).take len)++(Ty.Av h▸l:A6 T.T).drop len)),.Er [],[(s,.os k T 0 len),(x,.Ek c [])],
      Mw k (.arr T (φ ((Ty.Av h▸l:A6 T.T).take len)++(Ty.Av h▸l:A6 T.T).drop len)) st.objs,st.live,[],[k]⟩) none) none) none) none) none else none
   |_=>none
  |v=>match S9 (.sl T) v with
   |some []=>K (Bu st (.Er []) [(s,.d (.sl T [])),(x,.Ek c [])])
   |_=>none) none
 |_,_=>none
def Awa{R:Type}{T:Ty}{cf:T.T→T.T→Int}{ok:A6 T.T→Bool}{φ:A6 T.T→A6 T.T}(hS:Adw P f c T cf ok φ){K:Out→A7 R}{r:R}
  (ho:o.op = .call { callee:=.value (.func f),args:=Cm,argTypes:=ts }) (hv:Ci st Cm.toList=some vs) (h:Aju (P:=P) c T ok φ o st vs K=some r):∃out,K out=some r∧Cr P o st out:=by
 have e:Cj o=Cm.toList:=by simp[Cj,ho]
 unfold Aju at h;rw[e]at h;split at h
 ·rename_i s x v c' hl;have ho':o.op = .call { callee:=.value (.func f),args:=#[s,x],argTypes:=ts }:=by rw[ho,← hl]
  rw[hl]at hv;obtain⟨hs,hv⟩:=Ht hv;obtain⟨hx,_⟩:=Ht hv;cases h1:Nat.beq c' c with
  |false=>simp[h1]at h
  |true =>
  have e1:=Bne h1;subst e1;simp only[h1,Bna]at h;have sx:Fc st.im x (.Ek c' []):=Ax hx;split at h
  ·rename_i k t a len;split at h
   ·rename_i u l hk;split at h
    ·rename_i hu;have e2:=Ty.Av hu;subst e2;cases h2:t.Jx u with
     |false=>simp[h2]at h
     |true =>
     cases h3:Nat.beq a 0 with
     |false=>simp[h2,h3]at h
     |true =>
     cases h4:Nat.ble len l.length with
     |false=>simp[h2,h3,h4]at h
     |true =>
     cases h5:Nat.ble len 4611686018427387903 with
     |false=>simp only[h2,h3,h4,h5,Bna,Bnc]at h;cases h
     |true =>
     cases h6:ok (l.take len) with
     |false=>simp only[h2,h3,h4,h5,h6,Bna,Bnc]at h;cases h
     |true =>
      simp only[h2,h3,h4,h5,h6,Bna]at h;have e3:=Ty.Av h2;have e4:=Bne h3;have e5:=Bnu h4;have e6:=Bnu h5;subst e3;subst e4;refine⟨_,h,⟨?_,⟨⟨Kc hk rfl rfl,rfl⟩,rfl,rfl,fun X hX=>?_⟩,?_⟩⟩
      ·intro p hp;simp only[Bc,Bnh,Bo8,Bnd,Boa,Bpa]at hp;rcases hp with rfl|rfl
       ·exact Ax hs
       ·exact sx
      ·have P7:X.objs.lookup k=some (.cells ((l.map t.ds).flatten.map .d) none):=by rw[hX,show st.X.objs.lookup k=_ from Q1 hk];rfl
       have key:Ca P o (Bc [(s,.os k t 0 len),(x,.Ek c' [])]) X ⟨Ab.setObj k (Af.arr t (φ (l.take len)++l.drop len)).o X.objs,X.live⟩ [] (XV.Er []).a:=by
        have:=B82 (X:=X) (ds:=t.ds) (sz:=t.size) t.Df t.Z1 (φ (l.take len)) ho' hS.ci P7 e5 (by omega) (hS.one _ h6) hS.none hS.swo (fun x y=>by
         have:=hS.cmp x y;simp only[Ae,XV.a]at this;have e:∀x:t.T,(XV.d (t.xv x)).a = .d (.agg (t.ds x)):=fun x=>by
          show AV.d (t.dv x)=_;rw[t.A19 x hS.agg]
         rw[← e x,← e y];exact this) hS.any
        simp only[Bc,Bnh,Bo8,XV.a,Bqv,Ae];exact this
       exact key
      ·intro j y hj hy;simp only[Bnw]at hj;rw[O9 _ _ _ _ hj]at hy;exact hy
    ·cases h
   ·cases h
  ·rename_i v hne;split at h
   ·rename_i hd;refine⟨_,h,Ag ?_ fun X=>?_⟩
    ·intro p hp;simp only[Bc,Bnh,Bo8,Bnd,Boa,Bpa]at hp;rcases hp with rfl|rfl
     ·exact Sj hs hd
     ·exact sx
    ·exact Aey ho' hS.ci hS.none
   ·cases h
 ·cases h
def B3a{P:Program}{f c:FuncId}{T:Ty}{cf:T.T→T.T→Int}{ok:A6 T.T→Bool}{φ:A6 T.T→A6 T.T}(hS:Adw P f c T cf ok φ):Ix P where
 id:=f
 run:=Aju (P:=P) c T ok φ
 ok:=by intro R o st Cm ts vs K r ho hv h;exact Awa hS ho hv h
def B0f{ρ:Shelf.Ren}(L:SlLaysF0.n6 P ρ)(hf:ρ.f 6=f){T:Ty}(A6n:T.agg=true)(aE:∀w,(isAgg (ρ.t 24)).run P w = .ok true w)(zE:∀w,(Go.sizeOf (ρ.t 24)).run P w = .ok T.size w)
  (hci:F6 P f) (cf:T.T→T.T→Int) (hO:SWO (ltOf cf)) (hcc:F6 P c)
  (As9:∀x y,Does P c (Ae [.d (T.xv x),.d (T.xv y)]) X0 (.d (.sc (.int .i64 (cf x y)))) X0):Adw P f c T cf (Yo cf) (A7h cf) where
 ci:=hci
 agg:=A6n
 swo:=hO
 cmp:=As9
 none p cap w:=by have:=Bsu L p cap (.func (.func c) #[] #[]) w;rw[hf]at this;exact this
 any:=by intro α _ enc hk h1 cf hO blk cap d w hl hH hb hs;have:=AnyQ.slices_SortFunc L T.size aE zE enc hk h1 cf hO c #[] blk 0 cap d w (Dl hcc) hl hH hb hs;rw[hf]at this;exact this
 one l hd r hp hs:=A0i hO hd hp hs
section
variable{P:Program}{ρ:Ren}{f:FuncId}
structure Bf6(P:Program)(ρ:Ren)(f:FuncId):Prop where
 L:SlLaysF0.n14 P ρ
 none:∀(p:Option Addr) (cap:Nat) (fv:Value) (w:World),Calls P f #[.slice p 0 cap,fv] w fun e w'=>e = .returned (.tuple #[])∧w'=w
 some:∀(p:Value) (n lim:Nat) (cap:Nat) (q:Option Addr) (fv:Value) (w:World) (Q:Ending→World→Prop),p = .slice q n cap→n<4611686018427387904 →
  Calls P (ρ.f 15) #[.int .u64 (n:Int)] w (fun e w'=>e = .returned (.int .i64 (lim:Nat))∧w'=w) →
  Calls P (ρ.f 14) #[p,.int .i64 0,.int .i64 n,.int .i64 lim,fv] w (fun e w'=>e = .returned (.tuple #[])∧Q e w') →
  Calls P f #[p,fv] w fun e w'=>e = .returned (.tuple #[])∧Q e w'
def Awb(N:Bf6 P ρ f){T:Ty}(A6n:T.agg=true)(aE:∀w,(isAgg (ρ.t 24)).run P w = .ok true w)(zE:∀w,(Go.sizeOf (ρ.t 24)).run P w = .ok T.size w)
  (hci:F6 P f) (cf:T.T→T.T→Int) (hO:SWO (ltOf cf)) (hcc:F6 P c)
  (As9:∀x y,Does P c (Ae [.d (T.xv x),.d (T.xv y)]) X0 (.d (.sc (.int .i64 (cf x y)))) X0):Adw P f c T cf (Yo cf) (A7h cf) where
 ci:=hci
 agg:=A6n
 swo:=hO
 cmp:=As9
 none p cap w:=N.none p cap _ w
 any:=by
  intro α _ enc hk h1 cf hO blk cap d w As9 hH Bn7 Jq;have L:=N.L;have Blt:Lib.bitLen d.size<4611686018427387904:=Nat.lt_of_le_of_lt (Lib.bitLen_le d.size 62 (by omega) (by omega)) (by omega);have hp:=AnyQ.pdqsortCmpFunc_all (P:=P) (ρ:=ρ) L T.size aE zE enc cf c #[] hO blk 0 cap d w (Dl hcc) As9 ⟨hk,h1,hH,Bn7⟩ (d.size+1) 0 d.size (Lib.bitLen d.size) d w (by omega) rfl (SWK.start hH) (Bq9 _) (Bno _) Jq Blt (Or.inl rfl);have hl:Calls P (ρ.f 15) #[.int .u64 (d.size:Int)] w fun e w'=>e = .returned (.int .i64 (Lib.bitLen d.size:Nat))∧w'=w:=by
   have h:=Any.bits_Len (SlLaysF0.n15.bits (P:=P) (ρ:=ρ) { L with }) (d.size:Int) w (by omega) (by omega)
   rwa [Bo6]at h
  refine(N.some _ d.size (Lib.bitLen d.size) cap _ _ w (fun e w'=>∃n os,w'=sortWorldK enc T.size w blk 0 n (pdq (ltOf cf) d 0 d.size (Lib.bitLen d.size) true true) os) rfl Jq hl (hp.mono ?_)).mono ?_
  ·rintro e w' ⟨he,n,os,hw⟩;exact⟨he,n,os,hw⟩
  ·rintro e w' ⟨he,n,os,hw⟩;have h:=pdq_sorts (ltOf cf) hO d 0 d.size (Lib.bitLen d.size) true true (Bq9 _) (Bno _) (Or.inl rfl);exact⟨he,_,n,os,h.1,h.2,hw⟩
 one l hd r hp hs:=A0i hO hd hp hs
end
def B3b{β:Type}:(ks:A6 AK)→Mx ks (A7 β)
 |[]=>none
 |.d _::r=>fun _=>B3b r
 |.c _::r=>B3b r
theorem Adx{β:Type}{Q:β→A6 XV→Prop}:∀(ks:A6 AK) (acc:A6 XV),A6q Q ks (B3b ks) acc
 |[],acc=>fun y h=>by cases h
 |.d _::r,acc=>fun x=>Adx r _
 |.c _::r,acc=>Adx (Q:=Q) r _
noncomputable abbrev FnO(t:Ty)(ks:A6 AK)(rs:A6 RK):Type:=List t.T→Nat→Mx ks (A7 (List t.T×Sk rs))
def Bh6{t:Ty}{ks:A6 AK}{rs:A6 RK}(R:FnO t ks rs→FnO t ks rs):Nat→FnO t ks rs
 |0=>fun _ _=>B3b ks
 |n+1=>R (Bh6 R n)
def B5q(P:Program)(f:FuncId)(t:Ty)(ks:A6 AK)(rs:A6 RK)(F:FnO t ks rs):Prop:=∀l n,Aj6 P f t rs l n ks (F l n) []
theorem Ajv{P:Program}{f:FuncId}{t:Ty}{ks:A6 AK}{rs:A6 RK}{R:FnO t ks rs→FnO t ks rs}(h:∀G,B5q P f t ks rs G→B5q P f t ks rs (R G)) :
  ∀n,B5q P f t ks rs (Bh6 R n)
 |0=>fun l n=>Adx ks []
 |n+1=>h _ (Ajv h n)
def Bh7{P:Program}(id:FuncId)(t:Ty)(ks:A6 AK)(rs:A6 RK)(F:FnO t ks rs)(hc:F6 P id)(hs:B5q P id t ks rs F):Ix P where
 id:=id
 run:=B9i (P:=P) t ks rs F
 ok:=by intro R o st Cm ts vs K r ho hv h;exact Aro hc hs ho hv h
def Bdi{P:Program}(id:FuncId)(t:Ty)(ks:A6 AK)(rs:A6 RK)(F:FnO t ks rs)(F0:Mx ks (A7 (Bd (Wt t rs))))(hc:F6 P id)(hs:B5q P id t ks rs F)(hs0:A6q (Aj8 P id t rs) ks F0 []):Ix P where
 id:=id
 run:=B2q (P:=P) t ks rs F F0
 ok:=by intro R o st Cm ts vs K r ho hv h;exact Avm hc hs hs0 ho hv h
section
variable{kt vt:Ty}
def Ajw(hk:kt.key=true)(a:kt.T):kt.eqv a a=true:=(Ty.Gp kt a a hk).2 rfl
structure WfE(es:F8 kt vt)(M0:Nat):Prop where
 born:(es.map (·.1)).Nodup
 lt:∀e∈es,e.1<M0
 keys:(es.map (·.2.1)).Nodup
def WfE.nil(M0:Nat):WfE (kt:=kt) (vt:=vt) [] M0:=⟨by simp,by simp,by simp⟩
def WfE.tail{e:Nat×kt.T×vt.T}{es:F8 kt vt}(h:WfE (e::es) M0):WfE es M0 :=
 ⟨(Boi.1 h.born).2,fun x hx=>h.lt x (by simp[hx]),(Boi.1 h.keys).2⟩
theorem Ady(hk:kt.key=true)(a:kt.T)(v:vt.T)(c:Nat):∀(es:F8 kt vt) (x:kt.T),x∈(N8 a v c es).map (·.2.1)↔x=a∨x∈es.map (·.2.1)
 |[],x=>by simp[N8]
 |e::r,x=>by
  simp only[N8];cases he:kt.eqv a e.2.1 with
  |true =>
   have e1:=(Ty.Gp kt _ _ hk).1 he;simp only[Bna,Bnh,Bnd,← e1];constructor
   ·rintro (h|h);exact .inl h;exact .inr (.inr h)
   ·rintro (h|h|h);exact .inl h;exact .inl h;exact .inr h
  |false =>
   have ih:=Ady hk a v c r x;simp only[Bnc,Bnh,Bnd,ih];constructor
   ·rintro (h|h|h);exact .inr (.inl h);exact .inl h;exact .inr (.inr h)
   ·rintro (h|h|h);exact .inr (.inl h);exact .inl h;exact .inr (.inr h)
theorem Adz(a:kt.T)(v:vt.T)(c:Nat):∀(es:F8 kt vt) (x:Nat),x∈(N8 a v c es).map (·.1)→x∈es.map (·.1)∨(x=c∧Sf a es=none)
 |[],x,h=>by simp[N8]at h;exact .inr ⟨h,rfl⟩
 |e::r,x,h=>by
  simp only[N8]at h;cases he:kt.eqv a e.2.1 with
  |true=>simp only[he,Bna,Bnh]at h;exact .inl h
  |false =>
   simp only[he,Bnc,Bnh,Bnd]at h;rcases h with h|h
   ·exact .inl (by simp[h])
   ·rcases Adz a v c r x h with h|h
    ·exact .inl (Bnl _ h)
    ·exact .inr ⟨h.1,by simp only[Sf,he,Bnc,h.2]⟩
theorem Aob(hk:kt.key=true){a:kt.T}:∀ {es:F8 kt vt},Sf a es=none↔a∉es.map (·.2.1)
 |[]=>by simp[Sf]
 |e::r=>by
  simp only[Sf,Bnh,Bnd,Brm];cases he:kt.eqv a e.2.1 with
  |true=>have e1:=(Ty.Gp kt _ _ hk).1 he;simp[e1]
  |false =>
   have:a≠e.2.1:=by rintro rfl;rw[Ajw hk]at he;cases he
   simp only[Bnc,Aob hk (es:=r)];exact⟨fun h=>⟨this,h⟩,fun h=>h.2⟩
def WfE.put(hk:kt.key=true){es:F8 kt vt}(h:WfE es M0)(a:kt.T)(v:vt.T):WfE (N8 a v M0 es) (Ry a es M0):=by
 have key:∀ {es:F8 kt vt},WfE es M0→((N8 a v M0 es).map (·.1)).Nodup∧((N8 a v M0 es).map (·.2.1)).Nodup:=by
  intro es h;induction es with
  |nil=>simp[N8]
  |cons e r ih =>
   obtain⟨i1,i2⟩:=ih h.tail;have hb:=Boi.1 h.born;have hkk:=Boi.1 h.keys;simp only[N8];cases he:kt.eqv a e.2.1 with
   |true =>have e1:=(Ty.Gp kt _ _ hk).1 he;simp only[Bna,Bnh,e1];exact⟨h.born,h.keys⟩
   |false =>
    have hne:a≠e.2.1:=by rintro rfl;rw[Ajw hk]at he;cases he
    simp only[Bnc,Bnh,Boi];refine⟨⟨fun hm=>?_,i1⟩,fun hm=>?_,i2⟩
    ·rcases Adz a v M0 r _ hm with hm|⟨hm,_⟩
     ·exact hb.1 hm
     ·have:=h.lt e (by simp);omega
    ·rcases(Ady hk a v M0 r _).1 hm with hm|hm
     ·exact hne hm.symm
     ·exact hkk.1 hm
 refine⟨(key h).1,fun e he=>?_,(key h).2⟩;have hb:=Adz a v M0 es e.1 (Bnr he);unfold Ry;rcases hb with hb|⟨hb,hn⟩
 ·obtain⟨x,hx,hx1⟩:=Bnp.1 hb;have:=h.lt x hx;split<;>omega
 ·rw[hn];simp only;omega
theorem Abl(hk:kt.key=true){a:kt.T}{v:vt.T}:∀ {es:F8 kt vt},(es.map (·.2.1)).Nodup→(Sf a es=some v↔∃i,(i,a,v)∈es)
 |[],_=>by simp[Sf]
 |e::r,hn=>by
  have Th:=Boi.1 hn;simp only[Sf,Bnd];cases he:kt.eqv a e.2.1 with
  |true =>
   have e1:=(Ty.Gp kt _ _ hk).1 he;simp only[Bna,Bnf];constructor
   ·intro h;exact⟨e.1,.inl (by rw[e1,← h])⟩
   ·rintro ⟨i,h|h⟩
    ·rw[← h]
    ·exact absurd (Bnp.2 ⟨_,h,e1⟩) Th.1
  |false =>
   simp only[Bnc,Abl hk Th.2];have hne:a≠e.2.1:=by rintro rfl;rw[Ajw hk]at he;cases he
   constructor
   ·rintro ⟨i,h⟩;exact⟨i,.inr h⟩
   ·rintro ⟨i,h|h⟩
    ·exact absurd (by rw[← h]) hne
    ·exact⟨i,h⟩
theorem Abm(a:kt.T)(v:vt.T)(c:Nat):∀es:F8 kt vt,(N8 a v c es).length≤es.length+1
 |[]=>by simp[N8]
 |e::r=>by
  simp only[N8];have:=Abm a v c r;cases kt.eqv a e.2.1<;>simp<;>omega
end
section
variable{α:Type}
def Asc{since last:Nat}{es:A6 (Nat×α)}(h:∀e∈es,e.1<since)(h':∀e∈es,e.1<last):Rz since last es=true:=by unfold Rz;rw[Bok];intro e he;simp[h e he,h' e he]
structure A0j(es d:List (Nat×α)):Prop where
 nd:(d.map (·.1)).Nodup
 sub:∀e∈d,e∈es
def A0j.nil(es:A6 (Nat×α)):A0j es []:=⟨by simp,by simp⟩
def Wz{es d:A6 (Nat×α)}{e:Nat×α}:e∈Bx (d.map (·.1)) es↔e∈es∧e.1∉d.map (·.1):=by unfold Bx;rw[Bo9];simp only[Bqq,List.contains_eq_mem,Bpr]
def A0j.add{es d:A6 (Nat×α)}(h:A0j es d){e:Nat×α}(he:e∈Bx (d.map (·.1)) es):A0j es (d++[e]):=by
 obtain⟨h1,h2⟩:=Wz.1 he;refine⟨?_,?_⟩
 ·rw[Bo4,Brb];refine⟨h.nd,by simp,?_⟩;intro x hx y hy;simp at hy;subst hy;rintro rfl;exact h2 hx
 ·intro x hx;rcases Bnk.1 hx with hx|hx
  ·exact h.sub x hx
  ·simp at hx;subst hx;exact h1
def A0j.inj{es d:A6 (Nat×α)}(hb:(es.map (·.1)).Nodup){x y:Nat×α}(hx:x∈es)(hy:y∈es)(h:x.1=y.1):x=y:=by
 induction es with
 |nil=>simp at hx
 |cons z es ih =>
  rw[Bnh,Boi]at hb;rcases Bnd.1 hx with ex|hx'<;>rcases Bnd.1 hy with ey|hy'
  ·exact ex.trans ey.symm
  ·subst ex;exact absurd (h▸Bnr (f:=(·.1)) hy') hb.1
  ·subst ey;exact absurd (h▸Bnr (f:=(·.1)) hx') hb.1
  ·exact ih hb.2 hx' hy'
theorem Jf{β:Type}(f:α→β):∀ {l:A6 α},(l.map f).Nodup→l.Nodup
 |[],_=>by simp
 |x::l,h=>by
  rw[Bnh,Boi]at h;exact Boi.2 ⟨fun hm=>h.1 (Bnr hm),Jf f h.2⟩
def A0j.all{es d:A6 (Nat×α)}(h:A0j es d)(hb:(es.map (·.1)).Nodup)(hn:Bx (d.map (·.1)) es=[]):d.Perm es:=by
 classical
 refine(Bsl (Jf _ h.nd) (Jf _ hb)).2 fun x=>⟨h.sub x,fun hx=>?_⟩
 refine Bu9 fun hd=>?_
 have:x∈Bx (d.map (·.1)) es:=Wz.2 ⟨hx,fun hm=>by
  obtain⟨y,hy,hy1⟩:=Bnp.1 hm;exact hd (A0j.inj (d:=d) hb (h.sub y hy) hx hy1▸hy)⟩
 rw[hn]at this;simp at this
theorem Awc{β:Type}:∀ {a l:A6 β},a.Nodup→(∀x∈a,x∈l)→a.length≤l.length
 |[],l,_,_=>by simp
 |x::a,l,hn,hs=>by
  classical
  rw[Boi]at hn;have hx:x∈l:=hs x (by simp);have ih:=Awc (a:=a) (l:=l.erase x) hn.2 fun y hy=>(Btg (by rintro rfl;exact hn.1 hy)).2 (hs y (by simp[hy]))
  rw[Bsz hx]at ih;have:=Bs8 hx;simp only[Bnx];omega
def A0j.len{es d:A6 (Nat×α)}(h:A0j es d):d.length≤es.length:=Awc (Jf _ h.nd) h.sub
def B0g{σ R:Type}{es:A6 (Nat×α)}(hb:(es.map (·.1)).Nodup)(mk:A6 (Nat×α)→σ→Prop){f:(σ→A7 R)→σ→A7 R}(r:R)
  (hs:∀(rec:σ→A7 R) (d:A6 (Nat×α)) (z:σ),A0j es d→mk d z →
   (∀e∈Bx (d.map (·.1)) es,∀z',mk (d++[e]) z'→rec z'=some r)→f rec z=some r)
  (N:Nat) (hN:es.length<N) {z0:σ} (h0:mk [] z0):iter f N z0=some r:=by
 refine iter_eq (f:=f) (G:=fun _=>some r) (fun n z=>∃d,A0j es d∧mk d z∧n=es.length-d.length) ?_ N es.length z0 ⟨[],.nil _,h0,by simp⟩ hN;rintro n z rec ⟨d,hd,hz,rfl⟩ ih;refine hs rec d z hd hz fun e he z' hz'=>?_
 have hl:=(hd.add he).len;refine ih (es.length-(d++[e]).length) z' ?_ ⟨d++[e],hd.add he,hz',rfl⟩;simp only[Bp4,Bqg]at hl⊢;omega
end
structure LO{α:Type}(lt eq:α→α→Bool):Prop where
 asymm:∀x y,lt x y=true→lt y x=false
 ntrans:∀x y z,lt x y=false→lt y z=false→lt x z=false
 eq_def:∀x y,eq x y=(!lt x y && !lt y x)
section
variable{α:Type}{lt eq:α→α→Bool}
def LO.eq_symm(h:LO lt eq)(x y:α):eq x y=eq y x:=by rw[h.eq_def,h.eq_def,Bool.and_comm]
def A8m(lt:α→α→Bool)(x:α):A6 α→A6 α
 |[]=>[x]
 |y::r=>cond (lt x y) (x::y::r) (y::A8m lt x r)
def Asd(lt eq:α→α→Bool)(x:α)(q:A6 α):A6 α:=cond (q.any (eq x)) q (A8m lt x q)
def Bad{x z:α}{l:A6 α}:z∈A8m lt x l↔z=x∨z∈l:=by
 induction l with
 |nil=>simp[A8m]
 |cons y r ih =>
  simp only[A8m];cases lt x y with
  |true=>simp
  |false=>simp[ih];constructor<;>rintro (h|h|h)<;>simp[h]
def Awd(x:α)(l:A6 α):(A8m lt x l).length=l.length+1:=by
 induction l with
 |nil=>rfl
 |cons y r ih =>simp only[A8m];cases lt x y<;>simp[ih]
def B0h{x y:α}{q:A6 α}(hx:lt x y=true):A8m lt x (y::q)=x::y::q:=by simp[A8m,hx]
def B5r{x y:α}{q:A6 α}(hx:lt x y=false):A8m lt x (y::q)=y::A8m lt x q:=by simp[A8m,hx]
end
def Bjp:A6 XV→Bool
 |.os _ _ _ _::_=>true
 |_=>false
def Ty.In:(t:Ty)→t.T→Prop
 |.int k,n=>(Lit.int k n).wf=true
 |.u8,_=>True
 |.bool,_=>True
 |.str,l=>l.length≤maxLen
 |.sl a,l=>l.length≤maxLen∧∀x∈l,a.In x
 |.unit,_=>True
 |.pair a b,x=>a.In x.1∧b.In x.2
 |.st1 a,x=>a.In x
 |.tab _,_=>True
 |.err,_=>True
 |.ic _ _,_=>True
 |.ptr,_=>True
def Ame(P:Program)(rec:TypeId→Ty→Bool):Nat→A6 Field→Ty→Bool
 |off,[f],.st1 a=>cond (Nat.beq f.offset off) (cond (Nat.beq (P.cellsOf f.type) a.size) (rec f.type a) false) false
 |off,[f,g],.pair a b=>cond (Nat.beq f.offset off) (cond (Nat.beq (P.cellsOf f.type) a.size) (cond (rec f.type a) (cond (Nat.beq g.offset (off+a.size)) (cond (Nat.beq (P.cellsOf g.type) b.size) (rec g.type b) false) false) false) false) false
 |off,f::g::h::r,.pair a b=>cond (Nat.beq f.offset off) (cond (Nat.beq (P.cellsOf f.type) a.size) (cond (rec f.type a) (Ame P rec (off+a.size) (g::h::r) b) false) false) false
 |_,_,_=>false
def opB(P:Program):Nat→TypeId→Ty→Bool
 |0,_,_=>false
 |n+1,t,ty =>
  match P.underlying t,ty with
  |some (.int k),.int k'=>cond (M4 k k') true false
  |some (.int .u8),.u8=>true
  |some .bool,.bool=>true
  |some .string,.str=>true
  |some (.slice e),.sl a=>cond (Nat.beq (P.cellsOf e) a.size) (cond (Nat.ble 1 a.size) (opB P n e a) false) false
  |some (.struct fs),a=>cond a.agg (cond (Nat.beq (P.cellsOf t) a.size) (Ame P (opB P n) 0 fs.toList a) false) false
  |_,_=>false
def X2(γ:Nat→Nat)(w:World)(ds:A6 D)(cs:A6 Value):Prop:=ds.length=cs.length∧∀(i:Nat) d v,ds[i]? = some d→cs[i]? = some v→RD γ w d v
def X2.one{d:D}(h:RD γ w d v):X2 γ w [d] [v]:=by
 refine⟨rfl,fun i e u he hu=>?_⟩;cases i with
 |zero=>simp at he hu;subst he;subst hu;exact h
 |succ i=>simp at he
def X2.append{a b:A6 D}{cs ds:A6 Value}(h:X2 γ w a cs)(h':X2 γ w b ds):X2 γ w (a++b) (cs++ds):=by
 refine⟨by simp[h.1,h'.1],fun i e u he hu=>?_⟩;rw[Boz]at he hu;rw[← h.1]at hu;split at he
 ·rename_i By;rw[Bo3 By]at hu;exact h.2 i e u he hu
 ·rename_i hge;rw[Bnv hge]at hu;exact h'.2 _ e u he hu
def cT{a b:Bool}(h:cond a b false=true):a=true∧b=true:=by cases a<;>simp at h;exact⟨rfl,h⟩
section
variable{H:Type}{enc:TypeId×Value→H}{P:Program}{W:World}
def OpR(P:Program)(W:World)(H:Type)(enc:TypeId×Value→H)(fuel:Nat)(rec:TypeId→Ty→Bool):Prop :=
 ∀(t:TypeId) (ty:Ty) (cs:A6 Value) (d:DataW H) (ps:A6 MemPlace),rec t ty=true→DataW.trod enc P W 0 (fun _=>true) true fuel t cs=some (d,ps) →
  ∃x:ty.T,ty.In x∧X2 (Ug W) W (ty.ds x) cs
def take_split{α:Type}(l:A6 α)(off a b:Nat):(l.drop off).take (a+b)=(l.drop off).take a++(l.drop (off+a)).take b:=by rw[List.take_add,Bur]
theorem B3c{fuel:Nat}{rec:TypeId→Ty→Bool}(hr:OpR P W H enc fuel rec){cs:A6 Value}:∀(fs:A6 Field) (off:Nat) (ty:Ty),Ame P rec off fs ty=true →
  (∀f∈fs,∃y,DataW.trod enc P W 0 (fun _=>true) true fuel f.type ((cs.drop f.offset).take (P.cellsOf f.type))=some y) →
  ∃x:ty.T,ty.In x∧X2 (Ug W) W (ty.ds x) ((cs.drop off).take ty.size)
 |[],off,ty,h,hf=>by cases ty<;>simp[Ame]at h
 |[f],off,ty,h,hf=>by
  cases ty with
  |st1 a =>simp only[Ame]at h;obtain⟨h1,h⟩:=cT h;obtain⟨h2,h⟩:=cT h;have h1:=Bne h1;have h2:=Bne h2;obtain⟨y,hy⟩:=hf f (by simp);rw[h1,h2]at hy;exact hr f.type a _ _ _ h hy
  |_=>simp[Ame]at h
 |[f,g],off,ty,h,hf=>by
  cases ty with
  |pair a b =>simp only[Ame]at h;obtain⟨h1,h⟩:=cT h;obtain⟨h2,h⟩:=cT h;obtain⟨h3,h⟩:=cT h;obtain⟨h4,h⟩:=cT h;obtain⟨h5,h⟩:=cT h;have h1:=Bne h1;have h2:=Bne h2;have h4:=Bne h4;have h5:=Bne h5;obtain⟨y,hy⟩:=hf f (by simp);obtain⟨z,hz⟩:=hf g (by simp);rw[h1,h2]at hy;rw[h4,h5]at hz;obtain⟨x1,i1,c1⟩:=hr _ _ _ _ _ h3 hy;obtain⟨x2,i2,c2⟩:=hr _ _ _ _ _ h hz;refine⟨(x1,x2),⟨i1,i2⟩,?_⟩;simp only[Ty.ds,Ty.size];rw[take_split];exact c1.append c2
  |_=>simp[Ame]at h
 |f::g::k::r,off,ty,h,hf=>by
  cases ty with
  |pair a b =>simp only[Ame]at h;obtain⟨h1,h⟩:=cT h;obtain⟨h2,h⟩:=cT h;obtain⟨h3,h⟩:=cT h;have h1:=Bne h1;have h2:=Bne h2;obtain⟨y,hy⟩:=hf f (by simp);rw[h1,h2]at hy;obtain⟨x1,i1,c1⟩:=hr _ _ _ _ _ h3 hy;obtain⟨x2,i2,c2⟩:=B3c hr (g::k::r) (off+a.size) b h (fun q hq=>hf q (Bnl _ hq));refine⟨(x1,x2),⟨i1,i2⟩,?_⟩;simp only[Ty.ds,Ty.size];rw[take_split];exact c1.append c2
  |_=>simp[Ame]at h
def Awe{α β:Type}(p:Nat→β→α→Prop):∀(l:A6 β),(∀i y,l[i]? = some y→∃x,p i y x)→∃xs:A6 α,xs.length=l.length∧∀i y x,l[i]? = some y→xs[i]? = some x→p i y x:=by
 intro l;induction l generalizing p with
 |nil=>intro _;exact⟨[],rfl,by simp⟩
 |cons a r ih =>
  intro h;obtain⟨x,hx⟩:=h 0 a rfl;obtain⟨xs,h1,h2⟩:=ih (fun i=>p (i+1)) (fun i y hy=>h (i+1) y (by simpa using hy));refine⟨x::xs,by simp[h1],fun i y z hy hz=>?_⟩;cases i with
  |zero=>simp at hy hz;subst hy;subst hz;exact hx
  |succ i=>exact h2 i y z (by simpa using hy) (by simpa using hz)
theorem A8n:∀(n fuel:Nat),OpR P W H enc fuel (opB P n)
 |0,fuel=>by intro t ty cs d ps ho;simp[opB]at ho
 |n+1,fuel=>by
  intro t ty cs d ps ho h;unfold opB at ho;split at ho
  ·rename_i k k' hu;obtain⟨hk,_⟩:=cT ho;have:=Hi hk;subst this;obtain⟨m,rfl,_,hw⟩:=DataW.trod_int hu h;exact⟨m,hw,.one (.sc _)⟩
  ·rename_i hu;obtain⟨m,rfl,_,hw⟩:=DataW.trod_int hu h;have hm:0≤m∧m≤255:=by simpa[Lit.wf,IntKind.wrap,IntKind.bits,IntKind.signed,IntKind.min,IntKind.max]using hw
   refine⟨UInt8.ofNat m.toNat,trivial,.one ?_⟩;have:(((UInt8.ofNat m.toNat).toNat:Nat):Int)=m:=by rw[Bs7];omega
   rw[this];exact .sc _
  ·rename_i hu;obtain⟨b,rfl,_⟩:=DataW.trod_bool hu h;exact⟨b,trivial,.one (.sc _)⟩
  ·rename_i hu;obtain⟨s,rfl,_,hw⟩:=DataW.trod_string hu h;exact⟨s.data.toList,by simpa[Ty.In]using hw,.one (.sc _)⟩
  ·rename_i e a hu;obtain⟨h1,ho⟩:=cT ho;obtain⟨h2,ho⟩:=cT ho;have h1:=Bne h1;have h2:=Bnu h2;rcases DataW.trod_slice hu h with ⟨rfl,_⟩|⟨ad,len,cap,elems,Bn4,m,rfl,rfl,_,hb,hl,hc,hel,N0,_,_⟩
   ·exact⟨[],⟨by simp,by simp⟩,.one (.nil _ _ _ fun _=>rfl)⟩
   ·have key:∀i y,(List.range len)[i]? = some y→∃x:a.T,a.In x∧∃Xv,Xv.length=a.size∧X2 (Ug W) W (a.ds x) Xv∧∀j,j<a.size→W.cell? ((ad.add (i*a.size)).add j)=Xv[j]?:=by
     intro i y hi;have By:i<len:=by have:=(Bnj.1 hi).1;simpa using this
     have hc:=N0 i By;obtain⟨z,hz⟩:∃z,elems[i]? = some z:=⟨_,Bng (by omega)⟩;rw[hz,Bor,h1]at hc;obtain⟨Xv,hc1,hc2⟩:=hc;obtain⟨_,hcl,hcc⟩:=World.cells?_some hc1;obtain⟨x,hx1,hx2⟩:=A8n n m _ _ _ _ _ ho hc2;exact⟨x,hx1,Xv,hcl,hx2,hcc⟩
    obtain⟨xs,hxl,hx⟩:=Awe _ _ key;rw[Bu1]at hxl;have hxs:∀i x,xs[i]? = some x→a.In x∧∃Xv,Xv.length=a.size∧X2 (Ug W) W (a.ds x) Xv∧∀j,j<a.size→W.cell? ((ad.add (i*a.size)).add j)=Xv[j]?:=by
     intro i x hi;have By:i<len:=by have:=(Bnj.1 hi).1;omega
     exact hx i i x (by simp[By]) hi
    refine⟨xs,⟨by omega,fun x hm=>?_⟩,.one ?_⟩
    ·obtain⟨i,hi⟩:=Bpu.1 hm;exact(hxs i x hi).1
    ·rcases Bpl len with h0|h0
     ·have:xs=[]:=Brd (by omega);subst this;subst h0;exact .nil _ (some ad) cap (by simp)
     ·have spot:ad.spot=none:=by obtain⟨x0,hx0⟩:∃z,xs[0]? = some z:=⟨_,Bng (by omega)⟩;obtain⟨_,Xv,hl',_,hc'⟩:=hxs 0 x0 hx0;have:=hc' 0 (by omega);rw[Bng (by omega)]at this;have:=World.cell?_spot this;simpa[Addr.add]using this
      obtain⟨b,off,sp⟩:=ad;simp only at spot;subst spot;have Bae:∀i x,xs[i]? = some x→∃Xv,Xv.length=a.size∧X2 (Ug W) W (a.ds x) Xv∧∀j,j<a.size→W.cell? ⟨b,off+(i*a.size+j),none⟩=Xv[j]?:=by
       intro i x hi;obtain⟨_,Xv,hl',hd',hc'⟩:=hxs i x hi;refine⟨Xv,hl',hd',fun j hj=>?_⟩;have:=hc' j hj
       rwa [WideShapes.add_plain,WideShapes.add_plain,Bqa]at this
      refine .Zs (by simp[hxl]) ?_ hl ?_ ?_
      ·obtain⟨x,hx⟩:∃z,xs[len-1]? = some z:=⟨_,Bng (by omega)⟩;obtain⟨Xv,hl',_,hc'⟩:=Bae (len-1) x hx;have:=hc' (a.size-1) (by omega);rw[Bng (by omega)]at this;have:=Au1 this;have e:len*a.size=(len-1)*a.size+a.size:=by rw[← Bpx];congr 1;omega
       show off+len*a.size≤Ug W b;omega
      ·intro i cs hi;rw[Bni,Bnn]at hi;obtain⟨x,_,rfl⟩:=hi;exact a.Df x
      ·intro i j cs c u hi hj hu;rw[Bni,Bnn]at hi;obtain⟨x,hx,rfl⟩:=hi;obtain⟨Xv,hl',hd',hc'⟩:=Bae i x hx;have hjl:j<a.size:=by have:=(Bnj.1 hj).1;rwa [a.Df]at this
       rw[hc' j hjl]at hu;exact hd'.2 j c u hj hu
  ·rename_i fs hu;obtain⟨_,ho⟩:=cT ho;obtain⟨h2,ho⟩:=cT ho;have h2:=Bne h2;obtain⟨xs,m,rfl,_,hl,hxl,Ue⟩:=DataW.trod_struct hu h;obtain⟨x,hx1,hx2⟩:=B3c (A8n n m) (cs:=cs) fs.toList 0 _ ho (by
    intro f hf;obtain⟨i,hi⟩:=Bpu.1 hf;have Md:fs[i]? = some f:=by simpa using hi
    have:=Ue i f Md;rw[this];have By:=(Bny.1 Md).1;exact⟨_,Bng (by omega)⟩)
   refine⟨x,hx1,?_⟩;rw[Bqk,Bpg (by omega)]at hx2;exact hx2
  ·cases ho
def open_arg{b0 n:Nat}{t:TypeId}{ty:Ty}{d:DataW H}{ps:A6 MemPlace}(ho:opB P n t ty=true)(hv:Value.okWide P W .any b0 t v)
  (h:DataW.Trod enc P W 0 (fun _=>true) true t v d ps):∃x:ty.T,ty.In x∧RA (full W) W (XV.d (ty.xv x)).a v:=by
 obtain⟨fuel,hf⟩:=h;obtain⟨x,h1,h2⟩:=A8n n fuel _ _ _ _ _ ho hf;refine⟨x,h1,.d _ _ ?_⟩;show RD (Ug W) W (ty.dv x) v;cases A6n:ty.agg with
 |true =>
  rw[ty.A19 x A6n];have:∃fs,P.underlying t=some (.struct fs):=by
   cases n with
   |zero=>simp[opB]at ho
   |succ n =>unfold opB at ho;split at ho<;>simp_all [Ty.agg]
  obtain⟨fs,hu⟩:=this;obtain⟨cs,rfl,_⟩:=WideShapes.okWide_struct hu hv;simp only[Value.cells]at h2;exact .agg _ _ (by simpa using h2.1) fun i c u hc hu=>h2.2 i c u hc (by simpa using hu)
 |false =>
  rw[ty.A1a x A6n]at h2;have hv':v.cells=#[v]:=by
   have:=h2.1;cases v with
   |agg cs =>
    exfalso;cases n with
    |zero=>simp[opB]at ho
    |succ n =>
     unfold opB at ho;split at ho
     ·rename_i hu;obtain⟨_,e⟩:=WideShapes.okWide_int hu hv;cases e
     ·rename_i hu;obtain⟨_,e⟩:=WideShapes.okWide_int hu hv;cases e
     ·rename_i hu;obtain⟨_,e⟩:=WideShapes.okWide_bool hu hv;cases e
     ·rename_i hu;obtain⟨_,e⟩:=WideShapes.okWide_string hu hv;cases e
     ·rename_i hu;obtain⟨_,_,_,e⟩:=WideShapes.okWide_slice hu hv;cases e
     ·rw[A6n]at ho;simp at ho
     ·cases ho
   |_=>rfl
  rw[hv']at h2;exact h2.2 0 _ _ rfl rfl
end
end Go.Xl
namespace Go.Proofs.Xu
open Go Go.Xl Go.Ab Go.Proofs
def mixed:prog.follows .mixedOrders=true:=by kernel_rfl
def Abn(N:Nat):Cw [(.int .u32)] (A7 (Bd [A4])):=fun(x:Int)=>Ar (fun(z:Bvc×Unit×Unit×Unit)=>Ar
 (fun(z:Bvc×Unit×Unit×Unit)=>[0,1,2,2,3,3,3,3,4,4,4,4,4,4,4,4,5,5,5,5,5,5,5,5,5,5,5,5,5,5,5,5,6,6,6,6,6,6,6,6,6,6,6,6,6,6,6,6,6,6,6,6,6,6,6,6,6,6,6,6,6,6,6,6,7,7,7,7,7,7,7,7,7,7,7,7,7,7,7,7,7,7,7,7,7,7,7,7,7,7,7,7,7,7,7,7,7,7,7,7,7,7,7,7,7,7,7,7,7,7,7,7,7,7,7,7,7,7,7,7,7,7,7,7,7,7,7,7,8,8,8,8,8,8,8,8,8,8,8,8,8,8,8,8,8,8,8,8,8,8,8,8,8,8,8,8,8,8,8,8,8,8,8,8,8,8,8,8,8,8,8,8,8,8,8,8,8,8,8,8,8,8,8,8,8,8,8,8,8,8,8,8,8,8,8,8,8,8,8,8,8,8,8,8,8,8,8,8,8,8,8,8,8,8,8,8,8,8,8,8,8,8,8,8,8,8,8,8,8,8,8,8,8,8,8,8,8,8,8,8,8,8,8,8,8,8,8,8,8,8,8,8,8,8,8,8][(Age
 (IntKind.u8.wrap z.1.1)).toNat]?.bind fun(c:UInt8)=>some (i64.wrap (z.1.2.1+(↑c.toNat:Int)))) fun(k:Bvc×Unit×Unit×Unit→A7 Int)=>bif decide (256≤z.1.1)then k ((z.1.1.fdiv 256,i64.wrap
 (z.1.2.1+8),()),(),(),())else k ((z.1.1,z.1.2.1,()),(),(),())) fun(k:Bvc×Unit×Unit×Unit→A7 Int)=>bif decide (65536≤x)then k ((x.fdiv 65536,16,()),(),(),())else k ((x,0,()),(),(),())
variable(N:Nat){a n b k i j:Nat}
def Abo:=Cn [] [] N 132 (A5 (.join ⟨[(0,.d (.int .u32)),(2,.d A4)],[],[],[],[],[]⟩ .lf (.join ⟨[(0,.d (.int .u32)),(2,.d A4)],[],[],[],[],[]⟩ .lf .lf))) [(.int .u32)] [A4] (Abn N) mixed func132 rfl (by decide) rfl (by kernel_rfl)
def Mp(N:Nat):Cw [(.int .u64)] (A7 (Bd [A4])):=fun(x:Int)=>Ar (fun(z:Bvc×Unit×Unit×Unit)=>Ar (fun(z:Bvc×Unit×Unit×Unit)=>Ar
 (fun(z:Bvc×Unit×Unit×Unit)=>[0,1,2,2,3,3,3,3,4,4,4,4,4,4,4,4,5,5,5,5,5,5,5,5,5,5,5,5,5,5,5,5,6,6,6,6,6,6,6,6,6,6,6,6,6,6,6,6,6,6,6,6,6,6,6,6,6,6,6,6,6,6,6,6,7,7,7,7,7,7,7,7,7,7,7,7,7,7,7,7,7,7,7,7,7,7,7,7,7,7,7,7,7,7,7,7,7,7,7,7,7,7,7,7,7,7,7,7,7,7,7,7,7,7,7,7,7,7,7,7,7,7,7,7,7,7,7,7,8,8,8,8,8,8,8,8,8,8,8,8,8,8,8,8,8,8,8,8,8,8,8,8,8,8,8,8,8,8,8,8,8,8,8,8,8,8,8,8,8,8,8,8,8,8,8,8,8,8,8,8,8,8,8,8,8,8,8,8,8,8,8,8,8,8,8,8,8,8,8,8,8,8,8,8,8,8,8,8,8,8,8,8,8,8,8,8,8,8,8,8,8,8,8,8,8,8,8,8,8,8,8,8,8,8,8,8,8,8,8,8,8,8,8,8,8,8,8,8,8,8,8,8,8,8,8,8][(Age
 (IntKind.u8.wrap z.1.1)).toNat]?.bind fun(c:UInt8)=>some (i64.wrap (z.1.2.1+(↑c.toNat:Int)))) fun(k:Bvc×Unit×Unit×Unit→A7 Int)=>bif decide (256≤z.1.1)then k ((z.1.1.fdiv 256,i64.wrap
 (z.1.2.1+8),()),(),(),())else k ((z.1.1,z.1.2.1,()),(),(),())) fun(k:Bvc×Unit×Unit×Unit→A7 Int)=>bif decide (65536≤z.1.1)then k ((z.1.1.fdiv 65536,i64.wrap (z.1.2.1+16),()),(),(),())else k
 ((z.1.1,z.1.2.1,()),(),(),())) fun(k:Bvc×Unit×Unit×Unit→A7 Int)=>bif decide (4294967296≤x)then k ((x.fdiv 4294967296,32,()),(),(),())else k ((x,0,()),(),(),())
def Abp:=Cn [] [] N 133 (A5 (.join ⟨[(0,.d (.int .u64)),(2,.d A4)],[],[],[],[],[]⟩ .lf (.join ⟨[(0,.d (.int .u64)),(2,.d A4)],[],[],[],[],[]⟩ .lf (.join ⟨[(0,.d (.int .u64)),(2,.d A4)],[],[],[],[],[]⟩ .lf .lf)))) [(.int .u64)] [A4] (Mp N) mixed func133 rfl (by decide) rfl (by kernel_rfl)
def G5:Cw [(.int .u64)] (A7 (Bd [A4])):=fun(x:Int)=>Option.bind (Mp N x) fun(y:Int)=>some y
def Es:=Cn [Abo N,Abp N] [] N 100 .lf [(.int .u64)] [A4] (G5 N) mixed func100 rfl (by decide) rfl (by kernel_rfl)
def Hb:Cw [A4] (A7 (Bd [(.int .u64)])):=fun(x:Int)=>Option.bind (G5 N (u64.wrap x)) fun(y:Int)=>bif decide (0≤y)then some (u64.wrap (1*2 ^ min y.toNat 64))else none
def Kg:=Cn [Es N] [] N 174 .lf [A4] [(.int .u64)] (Hb N) mixed func174 rfl (by decide) rfl (by kernel_rfl)
@[reducible] def Lj:H8:=⟨[.p 1 0],[(1,[.d (.int .u64)],some 210)],[],⟨[(2,.d (.int .u64))],[(1,[.d (.int .u64)],some 210)],[],[],[],[]⟩⟩
def Lk(N:Nat):H8.Cw Lj (A7 Lj.out.T):=fun(y:Int)=>some ((bits BinOp.xor u64 (bits BinOp.xor u64 (bits BinOp.xor u64 y (u64.wrap (y*8192))) ((bits BinOp.xor u64 y
 (u64.wrap (y*8192))).fdiv 128)) (u64.wrap (bits BinOp.xor u64 (bits BinOp.xor u64 y (u64.wrap (y*8192))) ((bits BinOp.xor u64 y (u64.wrap (y*8192))).fdiv
 128)*131072)),()),((bits BinOp.xor u64 (bits BinOp.xor u64 (bits BinOp.xor u64 y (u64.wrap (y*8192))) ((bits BinOp.xor u64 y (u64.wrap (y*8192))).fdiv 128))
 (u64.wrap (bits BinOp.xor u64 (bits BinOp.xor u64 y (u64.wrap (y*8192))) ((bits BinOp.xor u64 y (u64.wrap (y*8192))).fdiv 128)*131072)),()),()),(),())
def Ll:=K1 [] [] N 175 .lf Lj (Lk N) mixed func175 rfl (by decide) rfl rfl rfl (by kernel_rfl)
def Bp(N:Nat):Cw [(.int .u64)] (A7 (Bd [.bool])):=fun(x:Int)=>some (x != x)
def Q7:Am7 prog [] [] N f88 .lf [(.int .u64)] [.bool]=Bp N:=by kernel_rfl
def Q8:Ix prog:=B5b 88 f88 _ [(.int .u64)] [.bool] (Bp N) mixed func88 (.mk' func88 rfl (by decide)) rfl (Q7 N)
def Mq:Cw [(.int .u64),(.int .u64)] (A7 (Bd [.bool])):=fun(x Bh:Int)=>Option.bind (Bp N x) fun(y:Bool)=>bif y then Option.bind (Bp N Bh) fun(y:Bool)=>bif !y then some true else some (decide
 (x<Bh))else some (decide (x<Bh))
def Fp:=Cn [Q8 N] [] N 129 .lf [(.int .u64),(.int .u64)] [.bool] (Mq N) mixed func129 rfl (by decide) rfl (by kernel_rfl)
def Mr(N:Nat):Cw [.u8] (A7 (Bd [.bool])):=fun(x:UInt8)=>some (x != x)
def Abq:=Cn [] [] N 181 .lf [.u8] [.bool] (Mr N) mixed func181 rfl (by decide) rfl (by kernel_rfl)
def Of:Cw [.u8,.u8] (A7 (Bd [.bool])):=fun(x Bh:UInt8)=>Option.bind (Mr N x) fun(y:Bool)=>bif y then Option.bind (Mr N Bh) fun(y:Bool)=>bif !y then some true else some (decide (x<Bh))else some
 (decide (x<Bh))
def Gi:=Cn [Abq N] [] N 140 .lf [.u8,.u8] [.bool] (Of N) mixed func140 rfl (by decide) rfl (by kernel_rfl)
def Lm(N:Nat):Cw [.str] (A7 (Bd [.bool])):=fun(x:Bvi)=>some (x != x)
def A8o:=Cn [] [] N 214 .lf [.str] [.bool] (Lm N) mixed func214 rfl (by decide) rfl (by kernel_rfl)
def Ms:Cw [.str,.str] (A7 (Bd [.bool])):=fun(x Bh:Bvi)=>Option.bind (Lm N x) fun(y:Bool)=>bif y then Option.bind (Lm N Bh) fun(y:Bool)=>bif !y then some true else some (Op.bytesLess x Bh)else
 some (Op.bytesLess x Bh)
def Fq:=Cn [A8o N] [] N 188 .lf [.str,.str] [.bool] (Ms N) mixed func188 rfl (by decide) rfl (by kernel_rfl)
open Go.Sort
class Jg (El:Type) where
 lt:El→El→Bool
 L:El→El→Option Bool
 Arp:El
 hL:∀x y,L x y=some (lt x y)
 swo:SWO lt
 Bdj:∀x y,lt x y=false→lt y x=false→x=y
def J5{El:Type}[Jg El](N:Nat):=fun(l:A6 El) (n:Nat) (x Bh:Int)=>iter (fun(rec:Bv6×Unit×Unit×A6 El×Unit→A7 (A6 El×Unit)) (z:Bv6×Unit×Unit×A6 El×Unit)=>bif decide (z.1.1<Bh)then iter
 (fun(rec_1:Bv6×Unit×Unit×A6 El×Unit→A7 (A6 El×Unit)) (B1:Bv6×Unit×Unit×A6 El×Unit)=>Ar (fun(z:Unit×Unit×Unit×Unit)=>bif decide (0≤i64.wrap (B1.1.1-1))&&decide (i64.wrap (B1.1.1-1)<(↑n:Int))then
 B1.2.2.2.1[0+(i64.wrap (B1.1.1-1)).toNat]?.bind fun(e:El)=>bif decide (0≤B1.1.1)&&decide (B1.1.1<(↑n:Int))then B1.2.2.2.1[0+B1.1.1.toNat]?.bind fun(Dt:El)=>bif decide (0≤B1.1.1)&&decide (B1.1.1<(↑n:Int))then
 B1.2.2.2.1[0+B1.1.1.toNat]?.bind fun(e_2:El)=>bif decide (0≤i64.wrap (B1.1.1-1))&&decide (i64.wrap (B1.1.1-1)<(↑n:Int))then (B1.2.2.2.1.set (0+B1.1.1.toNat) e)[0+(i64.wrap
 (B1.1.1-1)).toNat]?.bind fun(e_3:El)=>rec_1 ((i64.wrap (B1.1.1-1),()),(),(),(B1.2.2.2.1.set (0+B1.1.1.toNat) e).set (0+(i64.wrap (B1.1.1-1)).toNat) Dt,())else none else none else none else none)
 fun(k:Unit×Unit×Unit×Unit→A7 (A6 El×Unit))=>bif decide (x<B1.1.1)then bif decide (0≤B1.1.1)&&decide (B1.1.1<(↑n:Int))then B1.2.2.2.1[0+B1.1.1.toNat]?.bind fun(e:El)=>bif decide (0≤i64.wrap
 (B1.1.1-1))&&decide (i64.wrap (B1.1.1-1)<(↑n:Int))then B1.2.2.2.1[0+(i64.wrap (B1.1.1-1)).toNat]?.bind fun(Dt:El)=>Option.bind (Jg.L e Dt) fun(y:Bool)=>bif y then k ((),(),(),())else rec
 ((i64.wrap (z.1.1+1),()),(),(),B1.2.2.2.1,())else none else none else rec ((i64.wrap (z.1.1+1),()),(),(),B1.2.2.2.1,())) N ((z.1.1,()),(),(),z.2.2.2.1,())else some (z.2.2.2.1,())) N ((i64.wrap
 (x+1),()),(),(),l,())
def Q9{El:Type}[Jg El](N:Nat):=fun(l:A6 El) (n:Nat) (x Bh Ku:Int)=>iter (fun(rec:Bv6×Unit×Unit×A6 El×Unit→A7 (A6 El×Unit)) (z:Bv6×Unit×Unit×A6 El×Unit)=>bif decide (Bh≤i64.wrap
 (i64.wrap (2*z.1.1)+1))then some (z.2.2.2.1,())else Ar (fun(B1:Bv6×Unit×Unit×Unit)=>bif decide (0≤i64.wrap (Ku+z.1.1))&&decide (i64.wrap (Ku+z.1.1)<(↑n:Int))then z.2.2.2.1[0+(i64.wrap
 (Ku+z.1.1)).toNat]?.bind fun(e:El)=>bif decide (0≤i64.wrap (Ku+B1.1.1))&&decide (i64.wrap (Ku+B1.1.1)<(↑n:Int))then z.2.2.2.1[0+(i64.wrap (Ku+B1.1.1)).toNat]?.bind fun(Dt:El)=>Option.bind (Jg.L e
 Dt) fun(y:Bool)=>bif !y then some (z.2.2.2.1,())else bif decide (0≤i64.wrap (Ku+B1.1.1))&&decide (i64.wrap (Ku+B1.1.1)<(↑n:Int))then z.2.2.2.1[0+(i64.wrap (Ku+B1.1.1)).toNat]?.bind fun(e:El)=>bif
 decide (0≤i64.wrap (Ku+z.1.1))&&decide (i64.wrap (Ku+z.1.1)<(↑n:Int))then z.2.2.2.1[0+(i64.wrap (Ku+z.1.1)).toNat]?.bind fun(e_2:El)=>bif decide (0≤i64.wrap (Ku+z.1.1))&&decide
 (i64.wrap (Ku+z.1.1)<(↑n:Int))then z.2.2.2.1[0+(i64.wrap (Ku+z.1.1)).toNat]?.bind fun(e_3:El)=>bif decide (0≤i64.wrap (Ku+B1.1.1))&&decide (i64.wrap (Ku+B1.1.1)<(↑n:Int))then
 (z.2.2.2.1.set (0+(i64.wrap (Ku+z.1.1)).toNat) e)[0+(i64.wrap (Ku+B1.1.1)).toNat]?.bind fun(e_4:El)=>rec ((B1.1.1,()),(),(),(z.2.2.2.1.set (0+(i64.wrap (Ku+z.1.1)).toNat) e).set
 (0+(i64.wrap (Ku+B1.1.1)).toNat) e_2,())else none else none else none else none else none else none) fun(k:Bv6×Unit×Unit×Unit→A7 (A6 El×Unit))=>bif decide (i64.wrap (i64.wrap
 (i64.wrap (2*z.1.1)+1)+1)<Bh)then bif decide (0≤i64.wrap (Ku+i64.wrap (i64.wrap (2*z.1.1)+1)))&&decide (i64.wrap (Ku+i64.wrap (i64.wrap (2*z.1.1)+1))<(↑n:Int))then
 z.2.2.2.1[0+(i64.wrap (Ku+i64.wrap (i64.wrap (2*z.1.1)+1))).toNat]?.bind fun(e:El)=>bif decide (0≤i64.wrap (i64.wrap (Ku+i64.wrap (i64.wrap
 (2*z.1.1)+1))+1))&&decide (i64.wrap (i64.wrap (Ku+i64.wrap (i64.wrap (2*z.1.1)+1))+1)<(↑n:Int))then z.2.2.2.1[0+(i64.wrap (i64.wrap (Ku+i64.wrap (i64.wrap
 (2*z.1.1)+1))+1)).toNat]?.bind fun(Dt:El)=>Option.bind (Jg.L e Dt) fun(y:Bool)=>bif y then k ((i64.wrap (i64.wrap (i64.wrap (2*z.1.1)+1)+1),()),(),(),())else k ((i64.wrap
 (i64.wrap (2*z.1.1)+1),()),(),(),())else none else none else k ((i64.wrap (i64.wrap (2*z.1.1)+1),()),(),(),())) N ((x,()),(),(),l,())
def Sq{El:Type}[Jg El](N:Nat):=fun(l:A6 El) (n:Nat) (x Bh:Int)=>iter (fun(rec:Bv6×Unit×Unit×A6 El×Unit→A7 (A6 El×Unit)) (z:Bv6×Unit×Unit×A6 El×Unit)=>bif decide (0≤z.1.1)then Option.bind (Q9 N
 z.2.2.2.1 n z.1.1 (i64.wrap (Bh-x)) x) fun(y:A6 El×Unit)=>rec ((i64.wrap (z.1.1-1),()),(),(),y.1,())else iter (fun(rec:Bv6×Unit×Unit×A6 El×Unit→A7 (A6 El×Unit)) (z:Bv6×Unit×Unit×List
 El×Unit)=>bif decide (0≤z.1.1)then bif decide (0≤i64.wrap (x+z.1.1))&&decide (i64.wrap (x+z.1.1)<(↑n:Int))then z.2.2.2.1[0+(i64.wrap (x+z.1.1)).toNat]?.bind fun(e:El)=>bif decide (0≤x)&&decide
 (x<(↑n:Int))then z.2.2.2.1[0+x.toNat]?.bind fun(Dt:El)=>bif decide (0≤x)&&decide (x<(↑n:Int))then z.2.2.2.1[0+x.toNat]?.bind fun(e_2:El)=>bif decide (0≤i64.wrap (x+z.1.1))&&decide (i64.wrap
 (x+z.1.1)<(↑n:Int))then (z.2.2.2.1.set (0+x.toNat) e)[0+(i64.wrap (x+z.1.1)).toNat]?.bind fun(e_3:El)=>Option.bind (Q9 N ((z.2.2.2.1.set (0+x.toNat) e).set (0+(i64.wrap (x+z.1.1)).toNat) Dt) n 0 z.1.1 x)
 fun(y:A6 El×Unit)=>rec ((i64.wrap (z.1.1-1),()),(),(),y.1,())else none else none else none else none else some (z.2.2.2.1,())) N ((i64.wrap (i64.wrap (Bh-x)-1),()),(),(),z.2.2.2.1,())) N
 ((i64.wrap ((i64.wrap (i64.wrap (Bh-x)-1)).tdiv 2),()),(),(),l,())
def Hh{El:Type}[Jg El](N:Nat):=fun(l:A6 El) (n:Nat) (x Bh:Int)=>bif decide (8≤i64.wrap (Bh-x))then Option.bind (Hb N (i64.wrap (Bh-x))) fun(y:Int)=>iter (fun(rec:Bv6×Bvp×Unit×List
 El×Unit→A7 (A6 El×Unit)) (z:Bv6×Bvp×Unit×A6 El×Unit)=>bif decide (z.1.1≤i64.wrap (i64.wrap (x+i64.wrap (i64.wrap ((i64.wrap (Bh-x)).tdiv 4)*2))+1))then Option.bind (Lk N
 z.2.1.1.1) fun(B9:Bv6×Bvp×Unit×Unit)=>Ar (fun(B1:Bv6×Unit×Unit×Unit)=>bif decide (0≤i64.wrap (x+B1.1.1))&&decide (i64.wrap (x+B1.1.1)<(↑n:Int))then z.2.2.2.1[0+(i64.wrap (x+B1.1.1)).toNat]?.bind
 fun(e:El)=>bif decide (0≤z.1.1)&&decide (z.1.1<(↑n:Int))then z.2.2.2.1[0+z.1.1.toNat]?.bind fun(Dt:El)=>bif decide (0≤z.1.1)&&decide (z.1.1<(↑n:Int))then z.2.2.2.1[0+z.1.1.toNat]?.bind fun(e_2:El)=>bif decide
 (0≤i64.wrap (x+B1.1.1))&&decide (i64.wrap (x+B1.1.1)<(↑n:Int))then (z.2.2.2.1.set (0+z.1.1.toNat) e)[0+(i64.wrap (x+B1.1.1)).toNat]?.bind fun(e_3:El)=>rec ((i64.wrap
 (z.1.1+1),()),((B9.2.1.1.1,()),()),(),(z.2.2.2.1.set (0+z.1.1.toNat) e).set (0+(i64.wrap (x+B1.1.1)).toNat) Dt,())else none else none else none else none) fun(k:Bv6×Unit×Unit×Unit→A7 (A6 El×Unit))=>bif
 decide (i64.wrap (Bh-x)≤i64.wrap (bits BinOp.and u64 B9.1.1 (u64.wrap (y-1))))then k ((i64.wrap (i64.wrap (bits BinOp.and u64 B9.1.1 (u64.wrap
 (y-1)))-i64.wrap (Bh-x)),()),(),(),())else k ((i64.wrap (bits BinOp.and u64 B9.1.1 (u64.wrap (y-1))),()),(),(),())else some (z.2.2.2.1,())) N ((i64.wrap (i64.wrap
 (x+i64.wrap (i64.wrap ((i64.wrap (Bh-x)).tdiv 4)*2))-1),()),((u64.wrap (i64.wrap (Bh-x)),()),()),(),l,())else some (l,())
def Tv{El:Type}[Jg El](N:Nat):=fun(n:Nat) (y B9 Lo:Int) (l:A6 El)=>bif decide (0≤B9)&&decide (B9<(↑n:Int))then l[0+B9.toNat]?.bind fun(e:El)=>bif decide (0≤y)&&decide (y<(↑n:Int))then l[0+y.toNat]?.bind
 fun(Dt:El)=>Option.bind (Jg.L e Dt) fun(Kv:Bool)=>bif Kv then some ((B9,y,()),((i64.wrap (Lo+1),()),()),(),())else some ((y,B9,()),((Lo,()),()),(),())else none else none
def Tw{El:Type}[Jg El](N:Nat):=fun(n:Nat) (y B9 Lo Kv:Int) (l:A6 El)=>Option.bind (Tv N n y B9 Kv l) fun(y:Bvc×Bvp×Unit×Unit)=>Option.bind (Tv N n y.1.2.1 Lo y.2.1.1.1 l)
 fun(y_4:Bvc×Bvp×Unit×Unit)=>Option.bind (Tv N n y.1.1 y_4.1.1 y_4.2.1.1.1 l) fun(y:Bvc×Bvp×Unit×Unit)=>some ((y.1.2.1,()),((y.2.1.1.1,()),()),(),())
def F9{El:Type}[Jg El](N:Nat):=fun(n:Nat) (y B9:Int) (l:A6 El)=>Option.bind (Tw N n (i64.wrap (y-1)) y (i64.wrap (y+1)) B9 l) fun(y:Bv6×Bvp×Unit×Unit)=>some
 ((y.1.1,()),((y.2.1.1.1,()),()),(),())
def Mg{El:Type}[Jg El](N:Nat):=fun(l:A6 El) (n:Nat) (x Bh:Int)=>Ar (fun(z:Bv6×Bvp×Unit×A6 El×Unit)=>bif z.2.1.1.1==0 then some (z.2.2.2.1,z.1.1,1)else bif z.2.1.1.1==12 then some (z.2.2.2.1,z.1.1,2)else
 some (z.2.2.2.1,z.1.1,0)) fun(k:Bv6×Bvp×Unit×A6 El×Unit→A7 (A6 El×Int×Int))=>bif decide (8≤i64.wrap (Bh-x))then bif decide (50≤i64.wrap (Bh-x))then Option.bind (F9 N n (i64.wrap
 (x+i64.wrap (i64.wrap ((i64.wrap (Bh-x)).tdiv 4)*1))) 0 l) fun(y:Bv6×Bvp×Unit×Unit)=>Option.bind (F9 N n (i64.wrap (x+i64.wrap (i64.wrap ((i64.wrap (Bh-x)).tdiv
 4)*2))) y.2.1.1.1 l) fun(B9:Bv6×Bvp×Unit×Unit)=>Option.bind (F9 N n (i64.wrap (x+i64.wrap (i64.wrap ((i64.wrap (Bh-x)).tdiv 4)*3))) B9.2.1.1.1 l) fun(Lo:Bv6×Bvp×Unit×Unit)=>Option.bind
 (Tw N n y.1.1 B9.1.1 Lo.1.1 Lo.2.1.1.1 l) fun(y:Bv6×Bvp×Unit×Unit)=>k ((y.1.1,()),((y.2.1.1.1,()),()),(),l,())else Option.bind (Tw N n (i64.wrap (x+i64.wrap (i64.wrap ((i64.wrap
 (Bh-x)).tdiv 4)*1))) (i64.wrap (x+i64.wrap (i64.wrap ((i64.wrap (Bh-x)).tdiv 4)*2))) (i64.wrap (x+i64.wrap (i64.wrap ((i64.wrap (Bh-x)).tdiv 4)*3))) 0 l)
 fun(y:Bv6×Bvp×Unit×Unit)=>k ((y.1.1,()),((y.2.1.1.1,()),()),(),l,())else k ((i64.wrap (x+i64.wrap (i64.wrap ((i64.wrap (Bh-x)).tdiv 4)*2)),()),((0,()),()),(),l,())
def Ic{El:Type}[Jg El](N:Nat):=fun(l:A6 El) (n:Nat) (x Bh:Int)=>iter (fun(rec:Bvc×Unit×Unit×A6 El×Unit→A7 (A6 El×Unit)) (z:Bvc×Unit×Unit×A6 El×Unit)=>bif decide (z.1.1<z.1.2.1)then bif decide
 (0≤z.1.2.1)&&decide (z.1.2.1<(↑n:Int))then z.2.2.2.1[0+z.1.2.1.toNat]?.bind fun(e:El)=>bif decide (0≤z.1.1)&&decide (z.1.1<(↑n:Int))then z.2.2.2.1[0+z.1.1.toNat]?.bind fun(Dt:El)=>bif decide (0≤z.1.1)&&decide
 (z.1.1<(↑n:Int))then z.2.2.2.1[0+z.1.1.toNat]?.bind fun(e_2:El)=>bif decide (0≤z.1.2.1)&&decide (z.1.2.1<(↑n:Int))then (z.2.2.2.1.set (0+z.1.1.toNat) e)[0+z.1.2.1.toNat]?.bind fun(e_3:El)=>rec ((i64.wrap
 (z.1.1+1),i64.wrap (z.1.2.1-1),()),(),(),(z.2.2.2.1.set (0+z.1.1.toNat) e).set (0+z.1.2.1.toNat) Dt,())else none else none else none else none else some (z.2.2.2.1,())) N ((x,i64.wrap
 (Bh-1),()),(),(),l,())
def E8{El:Type}[Jg El](N:Nat):=fun(l:A6 El) (n:Nat) (x Bh:Int)=>iter (fun(rec:Bvc×Unit×Unit×A6 El×Unit→A7 (A6 El×Bool)) (z:Bvc×Unit×Unit×A6 El×Unit)=>bif decide (z.1.2.1<5)then Ar
 (fun(B1:Bv6×Unit×Unit×Unit)=>bif B1.1.1==Bh then some (z.2.2.2.1,true)else bif decide (i64.wrap (Bh-x)<50)then some (z.2.2.2.1,false)else bif decide (0≤i64.wrap (B1.1.1-1))&&decide (i64.wrap
 (B1.1.1-1)<(↑n:Int))then z.2.2.2.1[0+(i64.wrap (B1.1.1-1)).toNat]?.bind fun(e:El)=>bif decide (0≤B1.1.1)&&decide (B1.1.1<(↑n:Int))then z.2.2.2.1[0+B1.1.1.toNat]?.bind fun(Dt:El)=>bif decide (0≤B1.1.1)&&decide
 (B1.1.1<(↑n:Int))then z.2.2.2.1[0+B1.1.1.toNat]?.bind fun(e_2:El)=>bif decide (0≤i64.wrap (B1.1.1-1))&&decide (i64.wrap (B1.1.1-1)<(↑n:Int))then (z.2.2.2.1.set (0+B1.1.1.toNat) e)[0+(i64.wrap
 (B1.1.1-1)).toNat]?.bind fun(e_3:El)=>Ar (fun(Po:Unit×Unit×Unit×A6 El×Unit)=>bif decide (2≤i64.wrap (Bh-B1.1.1))then iter (fun(rec_1:Bv6×Unit×Unit×A6 El×Unit→A7 (A6 El×Bool)) (S1:Bv6×Unit×Unit×List
 El×Unit)=>bif decide (S1.1.1<Bh)then bif decide (0≤S1.1.1)&&decide (S1.1.1<(↑n:Int))then S1.2.2.2.1[0+S1.1.1.toNat]?.bind fun(e:El)=>bif decide (0≤i64.wrap (S1.1.1-1))&&decide (i64.wrap
 (S1.1.1-1)<(↑n:Int))then S1.2.2.2.1[0+(i64.wrap (S1.1.1-1)).toNat]?.bind fun(e_4:El)=>Option.bind (Jg.L e e_4) fun(y:Bool)=>bif !y then rec ((B1.1.1,i64.wrap (z.1.2.1+1),()),(),(),S1.2.2.2.1,())else bif
 decide (0≤i64.wrap (S1.1.1-1))&&decide (i64.wrap (S1.1.1-1)<(↑n:Int))then S1.2.2.2.1[0+(i64.wrap (S1.1.1-1)).toNat]?.bind fun(e:El)=>bif decide (0≤S1.1.1)&&decide (S1.1.1<(↑n:Int))then
 S1.2.2.2.1[0+S1.1.1.toNat]?.bind fun(e_5:El)=>bif decide (0≤S1.1.1)&&decide (S1.1.1<(↑n:Int))then S1.2.2.2.1[0+S1.1.1.toNat]?.bind fun(e_6:El)=>bif decide (0≤i64.wrap (S1.1.1-1))&&decide (i64.wrap
 (S1.1.1-1)<(↑n:Int))then (S1.2.2.2.1.set (0+S1.1.1.toNat) e)[0+(i64.wrap (S1.1.1-1)).toNat]?.bind fun(e_7:El)=>rec_1 ((i64.wrap (S1.1.1+1),()),(),(),(S1.2.2.2.1.set (0+S1.1.1.toNat) e).set
 (0+(i64.wrap (S1.1.1-1)).toNat) e_5,())else none else none else none else none else none else none else rec ((B1.1.1,i64.wrap (z.1.2.1+1),()),(),(),S1.2.2.2.1,())) N ((i64.wrap
 (B1.1.1+1),()),(),(),Po.2.2.2.1,())else rec ((B1.1.1,i64.wrap (z.1.2.1+1),()),(),(),Po.2.2.2.1,())) fun(k:Unit×Unit×Unit×A6 El×Unit→A7 (A6 El×Bool))=>bif decide (2≤i64.wrap (B1.1.1-x))then iter
 (fun(rec:Bv6×Unit×Unit×A6 El×Unit→A7 (A6 El×Bool)) (z:Bv6×Unit×Unit×A6 El×Unit)=>bif decide (1≤z.1.1)then bif decide (0≤z.1.1)&&decide (z.1.1<(↑n:Int))then z.2.2.2.1[0+z.1.1.toNat]?.bind fun(e:El)=>bif decide
 (0≤i64.wrap (z.1.1-1))&&decide (i64.wrap (z.1.1-1)<(↑n:Int))then z.2.2.2.1[0+(i64.wrap (z.1.1-1)).toNat]?.bind fun(e_4:El)=>Option.bind (Jg.L e e_4) fun(y:Bool)=>bif !y then k
 ((),(),(),z.2.2.2.1,())else bif decide (0≤i64.wrap (z.1.1-1))&&decide (i64.wrap (z.1.1-1)<(↑n:Int))then z.2.2.2.1[0+(i64.wrap (z.1.1-1)).toNat]?.bind fun(e:El)=>bif decide (0≤z.1.1)&&decide
 (z.1.1<(↑n:Int))then z.2.2.2.1[0+z.1.1.toNat]?.bind fun(e_5:El)=>bif decide (0≤z.1.1)&&decide (z.1.1<(↑n:Int))then z.2.2.2.1[0+z.1.1.toNat]?.bind fun(e_6:El)=>bif decide (0≤i64.wrap (z.1.1-1))&&decide
 (i64.wrap (z.1.1-1)<(↑n:Int))then (z.2.2.2.1.set (0+z.1.1.toNat) e)[0+(i64.wrap (z.1.1-1)).toNat]?.bind fun(e_7:El)=>rec ((i64.wrap (z.1.1-1),()),(),(),(z.2.2.2.1.set (0+z.1.1.toNat) e).set
 (0+(i64.wrap (z.1.1-1)).toNat) e_5,())else none else none else none else none else none else none else k ((),(),(),z.2.2.2.1,())) N ((i64.wrap (B1.1.1-1),()),(),(),(z.2.2.2.1.set (0+B1.1.1.toNat) e).set
 (0+(i64.wrap (B1.1.1-1)).toNat) Dt,())else k ((),(),(),(z.2.2.2.1.set (0+B1.1.1.toNat) e).set (0+(i64.wrap (B1.1.1-1)).toNat) Dt,())else none else none else none else none)
 fun(k:Bv6×Unit×Unit×Unit→A7 (A6 El×Bool))=>iter (fun(rec:Bv6×Unit×Unit×Unit→A7 (A6 El×Bool)) (B1:Bv6×Unit×Unit×Unit)=>bif decide (B1.1.1<Bh)then bif decide (0≤B1.1.1)&&decide (B1.1.1<(↑n:Int))then
 z.2.2.2.1[0+B1.1.1.toNat]?.bind fun(e:El)=>bif decide (0≤i64.wrap (B1.1.1-1))&&decide (i64.wrap (B1.1.1-1)<(↑n:Int))then z.2.2.2.1[0+(i64.wrap (B1.1.1-1)).toNat]?.bind fun(Dt:El)=>Option.bind
 (Jg.L e Dt) fun(y:Bool)=>bif !y then rec ((i64.wrap (B1.1.1+1),()),(),(),())else k ((B1.1.1,()),(),(),())else none else none else k ((B1.1.1,()),(),(),())) N ((z.1.1,()),(),(),())else some (z.2.2.2.1,false)) N
 ((i64.wrap (x+1),0,()),(),(),l,())
def Hz{El:Type}[Jg El](N:Nat):=fun(l:A6 El) (n:Nat) (x Bh Ku:Int)=>bif decide (0≤Ku)&&decide (Ku<(↑n:Int))then l[0+Ku.toNat]?.bind fun(e:El)=>bif decide (0≤x)&&decide (x<(↑n:Int))then l[0+x.toNat]?.bind
 fun(Dt:El)=>bif decide (0≤x)&&decide (x<(↑n:Int))then l[0+x.toNat]?.bind fun(e_2:El)=>bif decide (0≤Ku)&&decide (Ku<(↑n:Int))then (l.set (0+x.toNat) e)[0+Ku.toNat]?.bind fun(e_3:El)=>iter (fun(rec:Bvc×Unit×Unit×List
 El×Unit→A7 (A6 El×Int)) (z:Bvc×Unit×Unit×A6 El×Unit)=>Ar (fun(B1:Bv6×Unit×Unit×Unit)=>Ar (fun(Po:Bv6×Unit×Unit×Unit)=>bif decide (Po.1.1<B1.1.1)then some (z.2.2.2.1,B1.1.1)else bif decide (0≤Po.1.1)&&decide
 (Po.1.1<(↑n:Int))then z.2.2.2.1[0+Po.1.1.toNat]?.bind fun(e:El)=>bif decide (0≤B1.1.1)&&decide (B1.1.1<(↑n:Int))then z.2.2.2.1[0+B1.1.1.toNat]?.bind fun(e_4:El)=>bif decide (0≤B1.1.1)&&decide (B1.1.1<(↑n:Int))then
 z.2.2.2.1[0+B1.1.1.toNat]?.bind fun(e_5:El)=>bif decide (0≤Po.1.1)&&decide (Po.1.1<(↑n:Int))then (z.2.2.2.1.set (0+B1.1.1.toNat) e)[0+Po.1.1.toNat]?.bind fun(e_6:El)=>rec ((i64.wrap (B1.1.1+1),i64.wrap
 (Po.1.1-1),()),(),(),(z.2.2.2.1.set (0+B1.1.1.toNat) e).set (0+Po.1.1.toNat) e_4,())else none else none else none else none) fun(k:Bv6×Unit×Unit×Unit→A7 (A6 El×Int))=>iter (fun(rec:Bv6×Unit×Unit×Unit→A7 (List
 El×Int)) (Po:Bv6×Unit×Unit×Unit)=>bif decide (B1.1.1≤Po.1.1)then bif decide (0≤x)&&decide (x<(↑n:Int))then z.2.2.2.1[0+x.toNat]?.bind fun(e:El)=>bif decide (0≤Po.1.1)&&decide (Po.1.1<(↑n:Int))then
 z.2.2.2.1[0+Po.1.1.toNat]?.bind fun(e_4:El)=>Option.bind (Jg.L e e_4) fun(y:Bool)=>bif y then rec ((i64.wrap (Po.1.1-1),()),(),(),())else k ((Po.1.1,()),(),(),())else none else none else k
 ((Po.1.1,()),(),(),())) N ((z.1.2.1,()),(),(),())) fun(k:Bv6×Unit×Unit×Unit→A7 (A6 El×Int))=>iter (fun(rec:Bv6×Unit×Unit×Unit→A7 (A6 El×Int)) (B1:Bv6×Unit×Unit×Unit)=>bif decide (B1.1.1≤z.1.2.1)then bif
 decide (0≤x)&&decide (x<(↑n:Int))then z.2.2.2.1[0+x.toNat]?.bind fun(e:El)=>bif decide (0≤B1.1.1)&&decide (B1.1.1<(↑n:Int))then z.2.2.2.1[0+B1.1.1.toNat]?.bind fun(e_4:El)=>Option.bind (Jg.L e e_4) fun(y:Bool)=>bif !y
 then rec ((i64.wrap (B1.1.1+1),()),(),(),())else k ((B1.1.1,()),(),(),())else none else none else k ((B1.1.1,()),(),(),())) N ((z.1.1,()),(),(),())) N ((i64.wrap (x+1),i64.wrap
 (Bh-1),()),(),(),(l.set (0+x.toNat) e).set (0+Ku.toNat) Dt,())else none else none else none else none
def Kw{El:Type}[Jg El](N:Nat):=fun(l:A6 El) (n:Nat) (x Bh Ku:Int)=>bif decide (0≤Ku)&&decide (Ku<(↑n:Int))then l[0+Ku.toNat]?.bind fun(e:El)=>bif decide (0≤x)&&decide (x<(↑n:Int))then l[0+x.toNat]?.bind
 fun(Dt:El)=>bif decide (0≤x)&&decide (x<(↑n:Int))then l[0+x.toNat]?.bind fun(e_2:El)=>bif decide (0≤Ku)&&decide (Ku<(↑n:Int))then (l.set (0+x.toNat) e)[0+Ku.toNat]?.bind fun(e_3:El)=>Ar (fun(z:Bv6×Unit×Unit×Unit)=>Ar
 (fun(B1:Bv6×Unit×Unit×Unit)=>bif decide (B1.1.1<z.1.1)then bif decide (0≤x)&&decide (x<(↑n:Int))then ((l.set (0+x.toNat) e).set (0+Ku.toNat) Dt)[0+x.toNat]?.bind fun(e_4:El)=>bif decide (0≤B1.1.1)&&decide
 (B1.1.1<(↑n:Int))then ((l.set (0+x.toNat) e).set (0+Ku.toNat) Dt)[0+B1.1.1.toNat]?.bind fun(e_5:El)=>bif decide (0≤B1.1.1)&&decide (B1.1.1<(↑n:Int))then ((l.set (0+x.toNat) e).set (0+Ku.toNat) Dt)[0+B1.1.1.toNat]?.bind
 fun(e_6:El)=>bif decide (0≤x)&&decide (x<(↑n:Int))then (((l.set (0+x.toNat) e).set (0+Ku.toNat) Dt).set (0+B1.1.1.toNat) e_4)[0+x.toNat]?.bind fun(e_7:El)=>some ((((l.set (0+x.toNat) e).set (0+Ku.toNat) Dt).set
 (0+B1.1.1.toNat) e_4).set (0+x.toNat) e_5,B1.1.1,true)else none else none else none else none else bif decide (0≤B1.1.1)&&decide (B1.1.1<(↑n:Int))then ((l.set (0+x.toNat) e).set (0+Ku.toNat) Dt)[0+B1.1.1.toNat]?.bind
 fun(e_4:El)=>bif decide (0≤z.1.1)&&decide (z.1.1<(↑n:Int))then ((l.set (0+x.toNat) e).set (0+Ku.toNat) Dt)[0+z.1.1.toNat]?.bind fun(e_5:El)=>bif decide (0≤z.1.1)&&decide (z.1.1<(↑n:Int))then ((l.set (0+x.toNat) e).set
 (0+Ku.toNat) Dt)[0+z.1.1.toNat]?.bind fun(e_6:El)=>bif decide (0≤B1.1.1)&&decide (B1.1.1<(↑n:Int))then (((l.set (0+x.toNat) e).set (0+Ku.toNat) Dt).set (0+z.1.1.toNat) e_4)[0+B1.1.1.toNat]?.bind fun(e_7:El)=>Ar
 (fun(z:Bv6×Unit×Unit×A6 El×Unit)=>bif decide (0≤x)&&decide (x<(↑n:Int))then z.2.2.2.1[0+x.toNat]?.bind fun(e:El)=>bif decide (0≤z.1.1)&&decide (z.1.1<(↑n:Int))then z.2.2.2.1[0+z.1.1.toNat]?.bind fun(e_8:El)=>bif
 decide (0≤z.1.1)&&decide (z.1.1<(↑n:Int))then z.2.2.2.1[0+z.1.1.toNat]?.bind fun(e_9:El)=>bif decide (0≤x)&&decide (x<(↑n:Int))then (z.2.2.2.1.set (0+z.1.1.toNat) e)[0+x.toNat]?.bind fun(Blu:El)=>some ((z.2.2.2.1.set
 (0+z.1.1.toNat) e).set (0+x.toNat) e_8,z.1.1,false)else none else none else none else none) fun(k:Bv6×Unit×Unit×A6 El×Unit→A7 (A6 El×Int×Bool))=>iter (fun(rec:Bvc×Unit×Unit×A6 El×Unit→A7 (List
 El×Int×Bool)) (z:Bvc×Unit×Unit×A6 El×Unit)=>Ar (fun(Po:Bv6×Unit×Unit×Unit)=>Ar (fun(S1:Bv6×Unit×Unit×Unit)=>bif decide (S1.1.1<Po.1.1)then k ((S1.1.1,()),(),(),z.2.2.2.1,())else bif decide (0≤S1.1.1)&&decide
 (S1.1.1<(↑n:Int))then z.2.2.2.1[0+S1.1.1.toNat]?.bind fun(e:El)=>bif decide (0≤Po.1.1)&&decide (Po.1.1<(↑n:Int))then z.2.2.2.1[0+Po.1.1.toNat]?.bind fun(e_8:El)=>bif decide (0≤Po.1.1)&&decide (Po.1.1<(↑n:Int))then
 z.2.2.2.1[0+Po.1.1.toNat]?.bind fun(e_9:El)=>bif decide (0≤S1.1.1)&&decide (S1.1.1<(↑n:Int))then (z.2.2.2.1.set (0+Po.1.1.toNat) e)[0+S1.1.1.toNat]?.bind fun(Blu:El)=>rec ((i64.wrap (Po.1.1+1),i64.wrap
 (S1.1.1-1),()),(),(),(z.2.2.2.1.set (0+Po.1.1.toNat) e).set (0+S1.1.1.toNat) e_8,())else none else none else none else none) fun(k:Bv6×Unit×Unit×Unit→A7 (A6 El×Int×Bool))=>iter (fun(rec:Bv6×Unit×Unit×Unit→Option
 (A6 El×Int×Bool)) (S1:Bv6×Unit×Unit×Unit)=>bif decide (Po.1.1≤S1.1.1)then bif decide (0≤S1.1.1)&&decide (S1.1.1<(↑n:Int))then z.2.2.2.1[0+S1.1.1.toNat]?.bind fun(e:El)=>bif decide (0≤x)&&decide (x<(↑n:Int))then
 z.2.2.2.1[0+x.toNat]?.bind fun(e_8:El)=>Option.bind (Jg.L e e_8) fun(y:Bool)=>bif !y then rec ((i64.wrap (S1.1.1-1),()),(),(),())else k ((S1.1.1,()),(),(),())else none else none else k ((S1.1.1,()),(),(),())) N
 ((z.1.2.1,()),(),(),())) fun(k:Bv6×Unit×Unit×Unit→A7 (A6 El×Int×Bool))=>iter (fun(rec:Bv6×Unit×Unit×Unit→A7 (A6 El×Int×Bool)) (Po:Bv6×Unit×Unit×Unit)=>bif decide (Po.1.1≤z.1.2.1)then bif decide
 (0≤Po.1.1)&&decide (Po.1.1<(↑n:Int))then z.2.2.2.1[0+Po.1.1.toNat]?.bind fun(e:El)=>bif decide (0≤x)&&decide (x<(↑n:Int))then z.2.2.2.1[0+x.toNat]?.bind fun(e_8:El)=>Option.bind (Jg.L e e_8) fun(y:Bool)=>bif y then rec
 ((i64.wrap (Po.1.1+1),()),(),(),())else k ((Po.1.1,()),(),(),())else none else none else k ((Po.1.1,()),(),(),())) N ((z.1.1,()),(),(),())) N ((i64.wrap (z.1.1+1),i64.wrap
 (B1.1.1-1),()),(),(),(((l.set (0+x.toNat) e).set (0+Ku.toNat) Dt).set (0+z.1.1.toNat) e_4).set (0+B1.1.1.toNat) e_5,())else none else none else none else none) fun(k:Bv6×Unit×Unit×Unit→A7 (A6 El×Int×Bool))=>iter
 (fun(rec:Bv6×Unit×Unit×Unit→A7 (A6 El×Int×Bool)) (B1:Bv6×Unit×Unit×Unit)=>bif decide (z.1.1≤B1.1.1)then bif decide (0≤B1.1.1)&&decide (B1.1.1<(↑n:Int))then ((l.set (0+x.toNat) e).set (0+Ku.toNat)
 Dt)[0+B1.1.1.toNat]?.bind fun(e_4:El)=>bif decide (0≤x)&&decide (x<(↑n:Int))then ((l.set (0+x.toNat) e).set (0+Ku.toNat) Dt)[0+x.toNat]?.bind fun(e:El)=>Option.bind (Jg.L e_4 e) fun(y:Bool)=>bif !y then rec
 ((i64.wrap (B1.1.1-1),()),(),(),())else k ((B1.1.1,()),(),(),())else none else none else k ((B1.1.1,()),(),(),())) N ((i64.wrap (Bh-1),()),(),(),())) fun(k:Bv6×Unit×Unit×Unit→A7 (List
 El×Int×Bool))=>iter (fun(rec:Bv6×Unit×Unit×Unit→A7 (A6 El×Int×Bool)) (z:Bv6×Unit×Unit×Unit)=>bif decide (z.1.1≤i64.wrap (Bh-1))then bif decide (0≤z.1.1)&&decide (z.1.1<(↑n:Int))then ((l.set (0+x.toNat)
 e).set (0+Ku.toNat) Dt)[0+z.1.1.toNat]?.bind fun(e_4:El)=>bif decide (0≤x)&&decide (x<(↑n:Int))then ((l.set (0+x.toNat) e).set (0+Ku.toNat) Dt)[0+x.toNat]?.bind fun(e:El)=>Option.bind (Jg.L e_4 e) fun(y:Bool)=>bif y
 then rec ((i64.wrap (z.1.1+1),()),(),(),())else k ((z.1.1,()),(),(),())else none else none else k ((z.1.1,()),(),(),())) N ((i64.wrap (x+1),()),(),(),())else none else none else none else none
def Mh{El:Type}[Jg El](N:Nat):=fun(G:A6 El→Nat→Int→Int→Int→A7 (A6 El×Unit)) (l:A6 El) (n:Nat) (x Bh Ku:Int)=>iter (fun(rec:(Int×Int×Int×Bool×Bool×Unit)×Unit×Unit×A6 El×Unit→A7 (List
 El×Unit)) (z:(Int×Int×Int×Bool×Bool×Unit)×Unit×Unit×A6 El×Unit)=>bif decide (i64.wrap (z.1.2.1-z.1.1)≤12)then Option.bind (J5 N z.2.2.2.1 n z.1.1 z.1.2.1) fun(y:A6 El×Unit)=>some (y.1,())else bif
 z.1.2.2.1==0 then Option.bind (Sq N z.2.2.2.1 n z.1.1 z.1.2.1) fun(y:A6 El×Unit)=>some (y.1,())else Ar (fun(B1:Bv6×Unit×Unit×A6 El×Unit)=>Option.bind (Mg N B1.2.2.2.1 n z.1.1 z.1.2.1) fun(y:A6 El×Int×Int)=>Ar
 (fun(Po:Bvc×Unit×Unit×A6 El×Unit)=>Ar (fun(S1:Unit×Unit×Unit×A6 El×Unit)=>bif decide (0<z.1.1)then bif decide (0≤i64.wrap (z.1.1-1))&&decide (i64.wrap (z.1.1-1)<(↑n:Int))then
 S1.2.2.2.1[0+(i64.wrap (z.1.1-1)).toNat]?.bind fun(e:El)=>bif decide (0≤Po.1.1)&&decide (Po.1.1<(↑n:Int))then S1.2.2.2.1[0+Po.1.1.toNat]?.bind fun(Dt:El)=>Option.bind (Jg.L e Dt) fun(y:Bool)=>bif !y then
 Option.bind (Hz N S1.2.2.2.1 n z.1.1 z.1.2.1 Po.1.1) fun(y:A6 El×Int)=>rec ((y.2,z.1.2.1,B1.1.1,z.1.2.2.2.1,z.1.2.2.2.2.1,()),(),(),y.1,())else Option.bind (Kw N S1.2.2.2.1 n z.1.1 z.1.2.1 Po.1.1) fun(y:List
 El×Int×Bool)=>bif decide (i64.wrap (y.2.1-z.1.1)<i64.wrap (z.1.2.1-y.2.1))then (G y.1 n z.1.1 y.2.1 B1.1.1).bind fun(B9:A6 El×Unit)=>rec ((i64.wrap (y.2.1+1),z.1.2.1,B1.1.1,decide
 (i64.wrap ((i64.wrap (z.1.2.1-z.1.1)).tdiv 8)≤i64.wrap (y.2.1-z.1.1)),y.2.2,()),(),(),B9.1,())else (G y.1 n (i64.wrap (y.2.1+1)) z.1.2.1 B1.1.1).bind fun(B9:A6 El×Unit)=>rec
 ((z.1.1,y.2.1,B1.1.1,decide (i64.wrap ((i64.wrap (z.1.2.1-z.1.1)).tdiv 8)≤i64.wrap (z.1.2.1-y.2.1)),y.2.2,()),(),(),B9.1,())else none else none else Option.bind (Kw N S1.2.2.2.1 n z.1.1 z.1.2.1
 Po.1.1) fun(y:A6 El×Int×Bool)=>bif decide (i64.wrap (y.2.1-z.1.1)<i64.wrap (z.1.2.1-y.2.1))then (G y.1 n z.1.1 y.2.1 B1.1.1).bind fun(B9:A6 El×Unit)=>rec ((i64.wrap
 (y.2.1+1),z.1.2.1,B1.1.1,decide (i64.wrap ((i64.wrap (z.1.2.1-z.1.1)).tdiv 8)≤i64.wrap (y.2.1-z.1.1)),y.2.2,()),(),(),B9.1,())else (G y.1 n (i64.wrap (y.2.1+1)) z.1.2.1 B1.1.1).bind
 fun(B9:A6 El×Unit)=>rec ((z.1.1,y.2.1,B1.1.1,decide (i64.wrap ((i64.wrap (z.1.2.1-z.1.1)).tdiv 8)≤i64.wrap (z.1.2.1-y.2.1)),y.2.2,()),(),(),B9.1,())) fun(k:Unit×Unit×Unit×A6 El×Unit→Option
 (A6 El×Unit))=>bif z.1.2.2.2.1 then bif z.1.2.2.2.2.1 then bif Po.1.2.1==1 then Option.bind (E8 N Po.2.2.2.1 n z.1.1 z.1.2.1) fun(y:A6 El×Bool)=>bif y.2 then some (y.1,())else k ((),(),(),y.1,())else k
 ((),(),(),Po.2.2.2.1,())else k ((),(),(),Po.2.2.2.1,())else k ((),(),(),Po.2.2.2.1,())) fun(k:Bvc×Unit×Unit×A6 El×Unit→A7 (A6 El×Unit))=>bif y.2.2==2 then Option.bind (Ic N y.1 n z.1.1 z.1.2.1) fun(B9:List
 El×Unit)=>k ((i64.wrap (i64.wrap (z.1.2.1-1)-i64.wrap (y.2.1-z.1.1)),1,()),(),(),B9.1,())else k ((y.2.1,y.2.2,()),(),(),y.1,())) fun(k:Bv6×Unit×Unit×A6 El×Unit→A7 (A6 El×Unit))=>bif
 !z.1.2.2.2.1 then Option.bind (Hh N z.2.2.2.1 n z.1.1 z.1.2.1) fun(y:A6 El×Unit)=>k ((i64.wrap (z.1.2.2.1-1),()),(),(),y.1,())else k ((z.1.2.2.1,()),(),(),z.2.2.2.1,())) N ((x,Bh,Ku,true,true,()),(),(),l,())
def B0i{El:Type}(R:(A6 El→Nat→Int→Int→Int→A7 (A6 El×Unit))→A6 El→Nat→Int→Int→Int→A7 (A6 El×Unit)):Nat→A6 El→Nat→Int→Int→Int→A7 (A6 El×Unit)
 |0=>fun _ _ _ _ _=>none
 |n+1=>R (B0i R n)
def Aoc{El:Type}[Jg El](N:Nat):A6 El→Nat→Int→Int→Int→A7 (A6 El×Unit):=B0i (Mh N) N
def Ajx{El:Type}[Jg El](N:Nat):=fun(l:A6 El) (n:Nat)=>Option.bind (G5 N (u64.wrap (↑n:Int))) fun(y:Int)=>Option.bind (Aoc N l n 0 (↑n:Int) y) fun(y:A6 El×Unit)=>some (y.1,())
def K2(h:a<n):(decide (0≤(a:Int))&&decide ((a:Int)<(n:Int)))=true:=by simp;omega
def quarter(h:a≤b)(hb:b≤1000000000000)(hk:k≤3) :
  i64.wrap ((a:Int)+i64.wrap (i64.wrap ((i64.wrap ((b:Int)-(a:Int))).tdiv 4)*(k:Int)))=((a+(b-a)/4*k:Nat):Int):=by
 have e1:i64.wrap ((b:Int)-(a:Int))=((b-a:Nat):Int):=by rw[show(b:Int)-(a:Int)=((b-a:Nat):Int) by omega,Lh (by omega)]
 have e2:((b-a:Nat):Int).tdiv 4=(((b-a)/4:Nat):Int):=by rw[Bsm (by omega)];omega
 have hm:(b-a)/4*k≤(b-a)/4*3:=Nat.mul_le_mul_left _ hk;rw[e1,e2,Lh (by omega),← Int.natCast_mul,Lh (by omega),← Bul,Lh (by omega)]
def B5s(h:a+b≤4000000000000):i64.wrap ((a:Int)+(b:Int))=((a+b:Nat):Int):=by rw[← Bul,Lh (by omega)]
def Blv(h:a≤1000000000000):i64.wrap (2*(a:Int))=((2*a:Nat):Int):=by rw[show 2*(a:Int)=((2*a:Nat):Int) by omega,Lh (by omega)]
def Bdk(h:k≤1000000000000):i64.wrap ((k:Int)-1)=(k:Int)-1:=Bt1 _ (by omega)
def Ae0{σ R:Type}{J:σ→A7 R}{B:(σ→A7 R)→A7 R}{r:A7 R}(P:σ→Prop)(G:σ→A7 R)(hJ:∀z,P z→J z=G z)(hB:∀k,(∀z,P z→k z=G z)→B k=r):Ar J B=r:=hB J hJ
def Ni(h:b≤a)(h':a<9223372036854775808):i64.wrap ((a:Int)-(b:Int))=((a-b:Nat):Int):=by rw[show(a:Int)-(b:Int)=((a-b:Nat):Int) by omega,Lh (by omega)]
def dlt(h:a<b):decide ((a:Int)<(b:Int))=true:=by simp;omega
def B5t(h:¬a<b):decide ((a:Int)<(b:Int))=false:=by simp;omega
def dle(h:a≤b):decide ((a:Int)≤(b:Int))=true:=by simp;omega
def Bjq(h:¬a≤b):decide ((a:Int)≤(b:Int))=false:=by simp;omega
abbrev St1:Type:=(Int×Unit)×Unit×Unit×Unit
abbrev st1(i:Nat):St1:=(((i:Int),()),(),(),())
def W7{σ R:Type}{J:σ→A7 R}{B:(σ→A7 R)→A7 R}(x:σ)(h:∀k,B k=k x):Ar J B=J x:=h J
def Sr{σ R:Type}{J:σ→A7 R}{B:(σ→A7 R)→A7 R}{Q:R→Prop}(P:σ→Prop)(hJ:∀z,P z→∃r,J z=some r∧Q r)(hB:∀k,(∀z,P z→∃r,k z=some r∧Q r)→∃r,B k=some r∧Q r):∃r,Ar J B=some r∧Q r:=hB J hJ
def Bdl:((List.range 256).all fun c=>match ([0,1,2,2,3,3,3,3,4,4,4,4,4,4,4,4,5,5,5,5,5,5,5,5,5,5,5,5,5,5,5,5,6,6,6,6,6,6,6,6,6,6,6,6,6,6,6,6,6,6,6,6,6,6,6,6,6,6,6,6,6,6,6,6,7,7,7,7,7,7,7,7,7,7,7,7,7,7,7,7,7,7,7,7,7,7,7,7,7,7,7,7,7,7,7,7,7,7,7,7,7,7,7,7,7,7,7,7,7,7,7,7,7,7,7,7,7,7,7,7,7,7,7,7,7,7,7,7,8,8,8,8,8,8,8,8,8,8,8,8,8,8,8,8,8,8,8,8,8,8,8,8,8,8,8,8,8,8,8,8,8,8,8,8,8,8,8,8,8,8,8,8,8,8,8,8,8,8,8,8,8,8,8,8,8,8,8,8,8,8,8,8,8,8,8,8,8,8,8,8,8,8,8,8,8,8,8,8,8,8,8,8,8,8,8,8,8,8,8,8,8,8,8,8,8,8,8,8,8,8,8,8,8,8,8,8,8,8,8,8,8,8,8,8,8,8,8,8,8,8,8,8,8,8,8,8]:A6 UInt8)[c]? with|some t=>decide (c=0)||decide (2 ^ t.toNat≤2*c)&&decide (t.toNat≤8)|none=>false)=true:=by kernel_rfl
def Bh8(c:Nat)(h1:1≤c)(h2:c<256):∃t:UInt8,([0,1,2,2,3,3,3,3,4,4,4,4,4,4,4,4,5,5,5,5,5,5,5,5,5,5,5,5,5,5,5,5,6,6,6,6,6,6,6,6,6,6,6,6,6,6,6,6,6,6,6,6,6,6,6,6,6,6,6,6,6,6,6,6,7,7,7,7,7,7,7,7,7,7,7,7,7,7,7,7,7,7,7,7,7,7,7,7,7,7,7,7,7,7,7,7,7,7,7,7,7,7,7,7,7,7,7,7,7,7,7,7,7,7,7,7,7,7,7,7,7,7,7,7,7,7,7,7,8,8,8,8,8,8,8,8,8,8,8,8,8,8,8,8,8,8,8,8,8,8,8,8,8,8,8,8,8,8,8,8,8,8,8,8,8,8,8,8,8,8,8,8,8,8,8,8,8,8,8,8,8,8,8,8,8,8,8,8,8,8,8,8,8,8,8,8,8,8,8,8,8,8,8,8,8,8,8,8,8,8,8,8,8,8,8,8,8,8,8,8,8,8,8,8,8,8,8,8,8,8,8,8,8,8,8,8,8,8,8,8,8,8,8,8,8,8,8,8,8,8,8,8,8,8,8,8]:A6 UInt8)[c]? = some t∧2 ^ t.toNat≤2*c∧t.toNat≤8:=by
 have:=Bok.1 Bdl c (by simp[h2]);generalize ([0,1,2,2,3,3,3,3,4,4,4,4,4,4,4,4,5,5,5,5,5,5,5,5,5,5,5,5,5,5,5,5,6,6,6,6,6,6,6,6,6,6,6,6,6,6,6,6,6,6,6,6,6,6,6,6,6,6,6,6,6,6,6,6,7,7,7,7,7,7,7,7,7,7,7,7,7,7,7,7,7,7,7,7,7,7,7,7,7,7,7,7,7,7,7,7,7,7,7,7,7,7,7,7,7,7,7,7,7,7,7,7,7,7,7,7,7,7,7,7,7,7,7,7,7,7,7,7,8,8,8,8,8,8,8,8,8,8,8,8,8,8,8,8,8,8,8,8,8,8,8,8,8,8,8,8,8,8,8,8,8,8,8,8,8,8,8,8,8,8,8,8,8,8,8,8,8,8,8,8,8,8,8,8,8,8,8,8,8,8,8,8,8,8,8,8,8,8,8,8,8,8,8,8,8,8,8,8,8,8,8,8,8,8,8,8,8,8,8,8,8,8,8,8,8,8,8,8,8,8,8,8,8,8,8,8,8,8,8,8,8,8,8,8,8,8,8,8,8,8,8,8,8,8,8,8]:A6 UInt8)[c]? = o at this⊢;cases o with
 |none=>simp at this
 |some t =>
  simp only[Bpc,Boo,Bpk]at this;rcases this with h|h
  ·omega
  ·exact⟨t,rfl,h⟩
def Ajy(a b:Nat):((a:Int)).fdiv ((b:Nat):Int)=((a/b:Nat):Int):=by rw[Btx _ (by omega)];omega
def Ajz{x x' d:Nat}(hb:2 ^ d=b)(h:x'*2 ^ n≤x):x'/b*2 ^ (n+d)≤x:=by
 have:x'/b*2 ^ (n+d)=(x'/b*b)*2 ^ n:=by rw[Nat.pow_add,hb,Nat.mul_assoc,Buz (2 ^ n) b]
 rw[this];exact Bop (Bpn _ (Nat.div_mul_le_self _ _)) h
def Ak0(h:n+k≤1000):i64.wrap ((n:Int)+(k:Int))=((n+k:Nat):Int):=by rw[← Bul,Lh (by omega)]
def Bjr(x:Nat)(r:Int):Prop:=∃k:Nat,r=(k:Int)∧2 ^ k≤2*x∧k≤64
def Baf(N x:Nat)(h1:1≤x)(h2:x<18446744073709551616):∃r,Mp N x=some r∧Bjr x r:=by
 unfold Mp;have e32:(4294967296:Int)=((4294967296:Nat):Int):=rfl;have e16:(65536:Int)=((65536:Nat):Int):=rfl;have e8:(256:Int)=((256:Nat):Int):=rfl;refine Sr (fun z=>∃(y n:Nat),z=(((y:Int),(n:Int),()),(),(),())∧1≤y∧y*2 ^ n≤x∧y<4294967296∧n≤32) ?_ ?_
 ·rintro z ⟨y,n,rfl,g1,g2,g3,g4⟩;refine Sr (fun z=>∃(y n:Nat),z=(((y:Int),(n:Int),()),(),(),())∧1≤y∧y*2 ^ n≤x∧y<65536∧n≤48) ?_ ?_
  ·rintro z ⟨y,n,rfl,g1,g2,g3,g4⟩;refine Sr (fun z=>∃(y n:Nat),z=(((y:Int),(n:Int),()),(),(),())∧1≤y∧y*2 ^ n≤x∧y<256∧n≤56) ?_ ?_
   ·rintro z ⟨y,n,rfl,g1,g2,g3,g4⟩;have hu:(Age (IntKind.u8.wrap (y:Int))).toNat=y:=by
     have:IntKind.u8.wrap (y:Int)=(y:Int):=by simp[IntKind.wrap,IntKind.bits,IntKind.signed];omega
     rw[this];simp[Age];omega
    obtain⟨t,e,k1,k2⟩:=Bh8 y g1 g3;simp only[hu,e,Bnb];refine⟨_,rfl,n+t.toNat,Ak0 (by omega),?_,by omega⟩;rw[Nat.pow_add];have:=Nat.mul_le_mul_left (2 ^ n) k1;have e2:2 ^ n*(2*y)=2*(y*2 ^ n):=by rw[Buz,Nat.mul_assoc]
    omega
   ·intro k hk;by_cases h:256≤y
    ·have d:decide ((256:Int)≤(y:Int))=true:=by simp;omega
     simp only[d,Bna];refine hk _ ⟨y/256,n+8,by rw[e8,Ajy,show(8:Int)=((8:Nat):Int)from rfl,Ak0 (by omega)],by omega,Ajz rfl g2,by omega,by omega⟩
    ·have d:decide ((256:Int)≤(y:Int))=false:=by simp;omega
     simp only[d,Bnc];exact hk _ ⟨y,n,rfl,g1,g2,by omega,by omega⟩
  ·intro k hk;by_cases h:65536≤y
   ·have d:decide ((65536:Int)≤(y:Int))=true:=by simp;omega
    simp only[d,Bna];refine hk _ ⟨y/65536,n+16,by rw[e16,Ajy,show(16:Int)=((16:Nat):Int)from rfl,Ak0 (by omega)],by omega,Ajz rfl g2,by omega,by omega⟩
   ·have d:decide ((65536:Int)≤(y:Int))=false:=by simp;omega
    simp only[d,Bnc];exact hk _ ⟨y,n,rfl,g1,g2,by omega,by omega⟩
 ·intro k hk;by_cases h:4294967296≤x
  ·have d:decide ((4294967296:Int)≤(x:Int))=true:=by simp;omega
   simp only[d,Bna];refine hk _ ⟨x/4294967296,32,by rw[e32,Ajy];rfl,by omega,by have:=Ajz (x:=x) (x':=x) (n:=0) (d:=32) (b:=4294967296) rfl (by omega);simpa using this,by omega,by omega⟩
  ·have d:decide ((4294967296:Int)≤(x:Int))=false:=by simp;omega
   simp only[d,Bnc];exact hk _ ⟨x,0,rfl,h1,by omega,by omega,by omega⟩
def Bag(N x:Nat)(h1:1≤x)(h2:x<18446744073709551616):∃r,G5 N x=some r∧Bjr x r:=by unfold G5;obtain⟨r,e,h⟩:=Baf N x h1 h2;rw[e];exact⟨r,rfl,h⟩
def Abr(h:n<18446744073709551616):u64.wrap (n:Int)=(n:Int):=by simp[IntKind.wrap,IntKind.bits,IntKind.signed];omega
def Bdm(N x:Nat)(h1:1≤x)(h2:x≤1000000000000):∃m:Nat,Hb N x=some ((m:Nat):Int)∧1≤m∧m≤2*x:=by
 unfold Hb;rw[Abr (by omega)];obtain⟨r,e,k,rfl,g1,g2⟩:=Bag N x h1 (by omega);rw[e,Bnb];have d:decide ((0:Int)≤(k:Int))=true:=by simp
 simp only[d,Bna,Bo6,Buj g2];have hp:1≤2 ^ k:=Nat.one_le_two_pow;refine⟨2 ^ k,?_,hp,g1⟩;have:(1:Int)*2 ^ k=((2 ^ k:Nat):Int):=by rw[Int.one_mul,Int.natCast_pow];rfl
 rw[this,Abr (by omega)]
def Bdn(x:Int)(m:Nat)(hm:m<9223372036854775808):∃r:Nat,bits BinOp.and u64 x (m:Int)=(r:Int)∧r≤m:=by
 refine⟨(BitVec.ofInt 64 x &&& BitVec.ofInt 64 (m:Int)).toNat,?_,?_⟩
 ·have hle:(BitVec.ofInt 64 x &&& BitVec.ofInt 64 (m:Int)).toNat<18446744073709551616:=BitVec.isLt _;unfold bits;exact Abr hle
 ·rw[BitVec.toNat_and];refine Bop Nat.and_le_right ?_;simp;omega
section
variable{El:Type}[Jg El]
instance Bmm:Inhabited El:=⟨Jg.Arp⟩
def Dk(x y:El):Bool:=Jg.lt x y
def Og(x y:El):Jg.L x y=some (Dk x y):=Jg.hL x y
def Ae1(l:A6 El)(a b:Nat)(s:Int)(ha:a<l.length)(hb:b<l.length) :
  ∃(p q:Nat) (s':Int),Tv N l.length a b s l=some (((p:Int),(q:Int),()),((s',()),()),(),())∧((p=a∧q=b)∨(p=b∧q=a)):=by
 unfold Tv;simp only[K2 ha,K2 hb,Bna,Bog,Bo6,Bng ha,Bng hb,Bnb,Og];cases Dk l[b] l[a] with
 |true=>exact⟨b,a,_,rfl,.inr ⟨rfl,rfl⟩⟩
 |false=>exact⟨a,b,_,rfl,.inl ⟨rfl,rfl⟩⟩
def Ae2(l:A6 El)(a b c:Nat)(s:Int)(ha:a<l.length)(hb:b<l.length)(hc:c<l.length) :
  ∃(p:Nat) (s':Int),Tw N l.length a b c s l=some (((p:Int),()),((s',()),()),(),())∧(p=a∨p=b∨p=c):=by
 unfold Tw;obtain⟨p1,q1,s1,e1,h1⟩:=Ae1 N l a b s ha hb;rw[e1,Bnb];obtain⟨p2,q2,s2,e2,h2⟩:=Ae1 N l q1 c s1 (by omega) hc;simp only[e2,Bnb];obtain⟨p3,q3,s3,e3,h3⟩:=Ae1 N l p1 p2 s2 (by omega) (by omega);simp only[e3,Bnb];exact⟨q3,s3,rfl,by omega⟩
def Rj(l:A6 El)(a:Nat)(s:Int)(h1:1≤a)(h2:a+1<l.length)(hl:l.length≤1000000000000) :
  ∃(p:Nat) (s':Int),F9 N l.length a s l=some (((p:Int),()),((s',()),()),(),())∧(p=a-1∨p=a∨p=a+1):=by
 unfold F9;rw[C4 (by omega) (by omega),Ac (by omega)];obtain⟨p,s',e,h⟩:=Ae2 N l (a-1) a (a+1) s (by omega) (by omega) h2;rw[e,Bnb];exact⟨p,s',rfl,h⟩
set_option maxHeartbeats 1000000 in
def choosePivot_eq(l:A6 El)(a b:Nat)(hab:a<b)(hb:b≤l.length)(hl:l.length≤1000000000000) :
  ∃(p:Nat) (h:Int),Mg N l l.length a b=some (l,(p:Int),h)∧a≤p∧p<b:=by
 unfold Mg;have q1:=quarter (k:=1) (show a≤b by omega) (by omega) (by omega);have q2:=quarter (k:=2) (show a≤b by omega) (by omega) (by omega);have q3:=quarter (k:=3) (show a≤b by omega) (by omega) (by omega);simp only[show((1:Nat):Int)=1 from rfl,show((2:Nat):Int)=2 from rfl,show((3:Nat):Int)=3 from rfl]at q1 q2 q3;have e1:i64.wrap ((b:Int)-(a:Int))=((b-a:Nat):Int):=by rw[show(b:Int)-(a:Int)=((b-a:Nat):Int) by omega,Lh (by omega)]
 have fin:∀(p:Nat) (s:Int),a≤p→p<b→∃(p':Nat) (h:Int),(bif s==0 then some (l,((p:Int),(1:Int)))else bif s==12 then some (l,((p:Int),(2:Int)))else some (l,((p:Int),(0:Int))))=some (l,(p':Int),h)∧a≤p'∧p'<b:=by
  intro p s h1 h2;cases s==0 with
  |true=>exact⟨p,1,rfl,h1,h2⟩
  |false =>
   cases s==12 with
   |true=>exact⟨p,2,rfl,h1,h2⟩
   |false=>exact⟨p,0,rfl,h1,h2⟩
 rw[e1]at q1 q2 q3;simp only[Ar,e1,q1,q2,q3];have hv1:4*((b-a)/4)≤b-a:=Nat.mul_div_le _ _;have hv2:b-a<4*((b-a)/4)+4:=by omega
 have hv3:50≤b-a→12≤(b-a)/4:=by omega
 clear q1 q2 q3 e1;generalize (b-a)/4=v at *;by_cases h8:8≤b-a
 ·have d8:decide ((8:Int)≤((b-a:Nat):Int))=true:=by simp;omega
  rw[d8,Bna];by_cases h50:50≤b-a
  ·have d50:decide ((50:Int)≤((b-a:Nat):Int))=true:=by simp;omega
   rw[d50,Bna];obtain⟨p1,s1,f1,g1⟩:=Rj N l (a+v*1) 0 (by omega) (by omega) hl;obtain⟨p2,s2,f2,g2⟩:=Rj N l (a+v*2) s1 (by omega) (by omega) hl;obtain⟨p3,s3,f3,g3⟩:=Rj N l (a+v*3) s2 (by omega) (by omega) hl;obtain⟨p4,s4,f4,g4⟩:=Ae2 N l p1 p2 p3 s3 (by omega) (by omega) (by omega);simp only[f1,f2,f3,f4,Bnb];exact fin p4 s4 (by omega) (by omega)
  ·have d50:decide ((50:Int)≤((b-a:Nat):Int))=false:=by simp;omega
   rw[d50,Bnc];obtain⟨p4,s4,f4,g4⟩:=Ae2 N l (a+v*1) (a+v*2) (a+v*3) 0 (by omega) (by omega) (by omega);simp only[f4,Bnb];exact fin p4 s4 (by omega) (by omega)
 ·have d8:decide ((8:Int)≤((b-a:Nat):Int))=false:=by simp;omega
  rw[d8,Bnc];exact fin (a+v*2) 0 (by omega) (by omega)
def swL(l:A6 El)(i j:Nat):A6 El:=(swp l.toArray i j).toList
def Nj{l:A6 El}(hi:i<l.length)(hj:j<l.length):(l.set i l[j]).set j l[i]=swL l i j:=by unfold swL swp;simp[hi,hj]
def Ie(l:A6 El)(i j:Nat):(swL l i j).length=l.length:=by simp[swL,swp]
def Iz(a b:Nat)(l l':A6 El):Prop:=PermIn a b l.toArray l'.toArray
def Iz.len{l l':A6 El}(h:Iz a b l l'):l'.length=l.length:=by simpa using h.1
def Iz.refl(a b:Nat)(l:A6 El):Iz a b l l:=permIn_refl _ _ _
def Iz.trans{l l' l'':A6 El}(h:Iz a b l l')(h':Iz a b l' l''):Iz a b l l'':=permIn_trans _ _ _ _ _ h h'
def Iz.swap{l:A6 El}(h1:a≤i)(h2:i<b)(h3:a≤j)(h4:j<b)(hb:b≤l.length):Iz a b l (swL l i j):=by have:=swp_permIn (α:=El) l.toArray a b i j h1 h2 h3 h4 (by simpa using hb);simpa[Iz,swL]using this
def Ck{l:A6 El}(hi:i<l.length)(hj:j<l.length):(l.set i l[j])[j]? = some l[j]:=by
 by_cases h:i=j
 ·subst h;simp[hi]
 ·simp[h,hj]
def Ago(l:A6 El)(a b len:Nat)(hab:a<b)(hlen:l.length=len)(hb:b≤len)(hl:len≤1000000000000)(hN:1000000000000<N) :
  ∃l',Ic N l len a b=some (l',())∧Iz a b l l':=by
 suffices H:∃r,Ic N l len a b=some r∧∃l',r=(l',())∧Iz a b l l' by obtain⟨r,h1,l',rfl,h2⟩:=H;exact⟨l',h1,h2⟩
 unfold Ic;rw[C4 (by omega) (by omega)];refine Dn (Q:=fun r:A6 El×Unit=>∃l',r=(l',())∧Iz a b l l') (fun q z=>∃(i j:Nat) (m:A6 El),z=(((i:Int),(j:Int),()),(),(),m,())∧a≤i∧j<b∧q=b-i∧i≤b∧Iz a b l m) ?_ N (b-a) _
  ⟨a,b-1,l,rfl,Bno _,by omega,rfl,by omega,.refl _ _ _⟩ (by omega)
 rintro q z rec ⟨i,j,m,rfl,h1,h2,rfl,h3,h4⟩ ih;have hm:m.length=len:=by rw[h4.len,hlen]
 by_cases hij:i<j
 ·have d1:decide ((i:Int)<(j:Int))=true:=by simp;omega
  have hi:i<m.length:=by omega
  have hj:j<m.length:=by omega
  simp only[d1,Bna,← hm,K2 hi,K2 hj,Bog,Bo6,Bng hi,Bng hj,Bnb,Ck hi hj,Nj hi hj,Ac (show i+1<9223372036854775808 by omega),C4 (show 0<j by omega) (show j<9223372036854775808 by omega)];exact ih (b-(i+1)) _ (by omega) ⟨i+1,j-1,swL m i j,rfl,by omega,by omega,rfl,by omega,h4.trans (.swap h1 (by omega) (by omega) h2 (by omega))⟩
 ·have d1:decide ((i:Int)<(j:Int))=false:=by simp;omega
  simp only[d1,Bnc];exact⟨_,rfl,m,rfl,h4⟩
def Qs{l:A6 El}(h:i<l.length):l.toArray[i]! = l[i]:=by simp[h]
def swA(l:A6 El)(i j:Nat):swp l.toArray i j=(swL l i j).toArray:=by simp[swL]
def Aft(l:A6 El)(lo hi first len:Nat)(hlen:l.length=len)(hf:first+hi≤len)(hlo:lo≤1000000000000)(hl:len≤1000000000000)(hN:1000000000000<N) :
  Q9 N l len lo hi first=some ((siftDown Dk hi first lo l.toArray).toList,()):=by
 unfold Q9;refine(iter_eq (G:=fun z=>some ((siftDown Dk hi first z.1.1.toNat z.2.2.2.1.toArray).toList,())) (fun q z=>∃(r:Nat) (m:A6 El),z=(((r:Int),()),(),(),m,())∧m.length=len∧r≤1000000000000∧q=hi-r) ?_ N (hi-lo) _ ⟨lo,l,rfl,hlen,hlo,rfl⟩ (by omega)).trans (by simp);rintro q z rec ⟨r,m,rfl,hm,hr,rfl⟩ ih;have e1:i64.wrap (i64.wrap (2*(r:Int))+1)=((2*r+1:Nat):Int):=by rw[Blv hr,Ac (by omega)]
 have e2:i64.wrap (((2*r+1:Nat):Int)+1)=((2*r+2:Nat):Int):=Ac (by omega);simp only[e1,e2,Bo6];rw[siftDown];by_cases h:2*r+1≥hi
 ·have d:decide ((hi:Int)≤((2*r+1:Nat):Int))=true:=by simp;omega
  simp only[d,Bna,Bud h,List.toList_toArray]
 ·have d:decide ((hi:Int)≤((2*r+1:Nat):Int))=false:=by simp;omega
  rw[dif_neg h];have f0:first+r<m.length:=by omega
  have f1:first+(2*r+1)<m.length:=by omega
  have a0:i64.wrap ((first:Int)+(r:Int))=((first+r:Nat):Int):=B5s (by omega);have a1:i64.wrap ((first:Int)+((2*r+1:Nat):Int))=((first+(2*r+1):Nat):Int):=B5s (by omega);have a2:i64.wrap (((first+(2*r+1):Nat):Int)+1)=((first+(2*r+1)+1:Nat):Int):=Ac (by omega);have Gu:∀c:Nat,c=2*r+1∨c=2*r+2→c<hi→rec (((c:Int),()),(),(),swL m (first+r) (first+c),())=some ((siftDown Dk hi first c (swL m (first+r) (first+c)).toArray).toList,()):=by intro c hc hch;exact ih (hi-c) _ (by omega) ⟨c,_,rfl,by rw[Ie,hm],by omega,rfl⟩
  simp only[d,Bnc,Ar,a0,a1,a2,← hm,K2 f0,K2 f1,Bna,Bog,Bo6,Bng f0,Bng f1,Bnb,Og];by_cases h2:2*r+2<hi
  ·have f2:first+(2*r+1)+1<m.length:=by omega
   have f3:first+(2*r+2)<m.length:=by omega
   have a3:i64.wrap ((first:Int)+((2*r+2:Nat):Int))=((first+(2*r+2):Nat):Int):=B5s (by omega);have d2:decide (((2*r+2:Nat):Int)<(hi:Int))=true:=by simp;omega
   have d3:decide (2*r+1+1<hi)=true:=by simp;omega
   have g3:m[first+(2*r+1)+1]=m[first+(2*r+2)]:=rfl;simp only[d2,Bna,K2 f2,Bng f2,Bnb,Qs f0,Qs f1,Qs f2,Qs f3,d3,Bqb,a3,K2 f3,Bud h2,swA];cases Dk m[first+(2*r+1)] m[first+(2*r+1)+1] with
   |true =>
    simp only[Bna,Bpz,Bng f3,Bnb,Bo6];cases Dk m[first+r] m[first+(2*r+2)] with
    |true=>simp only[Bp8,Bnc,Ck f0 f3,Bnb,Nj f0 f3,Bon,Bpi,Gu (2*r+2) (.inr rfl) h2]
    |false=>simp
   |false =>
    simp only[Bnc,Bon,Bpi,Bo6];cases Dk m[first+r] m[first+(2*r+1)] with
    |true=>simp only[Bp8,Bnc,Ck f0 f1,Bnb,Nj f0 f1,Bon,Bpi,Gu (2*r+1) (.inl rfl) (by omega)]
    |false=>simp
  ·have d2:decide (((2*r+2:Nat):Int)<(hi:Int))=false:=by simp;omega
   have d3:decide (2*r+1+1<hi)=false:=by simp;omega
   simp only[d2,Bnc,d3,Bool.false_and,Bon,Bpi,Qs f0,Qs f1,swA];cases Dk m[first+r] m[first+(2*r+1)] with
   |true=>simp only[Bp8,Bnc,Ck f0 f1,Bnb,Nj f0 f1,Bon,Bpi,Gu (2*r+1) (.inl rfl) (by omega)]
   |false=>simp
def Aod(hi F:Nat):∀(n root:Nat) (d:Array El),hi-root≤n→(siftDown Dk hi F root d).size=d.size:=by
 intro n;induction n with
 |zero =>intro root d h;rw[siftDown,Bud (by omega)]
 |succ n ih =>
  intro root d h;rw[siftDown];split
  ·rfl
  ·repeat' split
   all_goals first|rfl|rw[ih _ _ (by omega),size_swp]
def Awf(l:A6 El)(a b len:Nat)(hlen:l.length=len)(hab:a<b)(hb:b≤len)(hl:len≤1000000000000)(hN:1000000000000<N) :
  Sq N l len a b=some ((heapSort Dk l.toArray a b).toList,()):=by
 unfold Sq heapSort;have e1:i64.wrap ((b:Int)-(a:Int))=((b-a:Nat):Int):=by rw[show(b:Int)-(a:Int)=((b-a:Nat):Int) by omega,Lh (by omega)]
 have e2:i64.wrap (((b-a:Nat):Int)-1)=((b-a:Nat):Int)-1:=Bdk (by omega);have e3:(((b-a:Nat):Int)-1).tdiv 2=(((b-a-1)/2+1:Nat):Int)-1:=by rw[Bsm (by omega)];omega
 have e4:i64.wrap ((((b-a-1)/2+1:Nat):Int)-1)=(((b-a-1)/2+1:Nat):Int)-1:=Bdk (by omega);simp only[e1,e2,e3,e4];refine(iter_eq (G:=fun z=>some ((heapPop Dk a (b-a) (heapBuild Dk (b-a) a (z.1.1+1).toNat z.2.2.2.1.toArray)).toList,())) (fun q z=>∃(k:Nat) (m:A6 El),z=(((k:Int)-1,()),(),(),m,())∧m.length=len∧k≤len∧q=k) ?_ N ((b-a-1)/2+1) _ ⟨(b-a-1)/2+1,l,rfl,hlen,by omega,rfl⟩ (by omega)).trans ?_
 ·rintro q z rec ⟨k,m,rfl,hm,hk,hq⟩ ih;subst hq;rcases Bpl q with h0|h0
  ·subst h0;have d:decide ((0:Int)≤(((0:Nat):Int)-1))=false:=by decide
   simp only[d,Bnc];refine(iter_eq (G:=fun z=>some ((heapPop Dk a (z.1.1+1).toNat z.2.2.2.1.toArray).toList,())) (fun q z=>∃(m:A6 El),z=(((q:Int)-1,()),(),(),m,())∧m.length=len∧q≤b-a) ?_ N (b-a) _ ⟨m,rfl,hm,Bno _⟩ (by omega)).trans ?_
   ·rintro q z Blw ⟨m,rfl,hm,hq⟩ ih2;rcases Bpl q with h0|h0
    ·subst h0;simp only[d,Bnc];have t:(((0:Nat):Int)-1+1).toNat=0:=rfl;simp only[t,heapPop,List.toList_toArray]
    ·obtain⟨k,rfl⟩:∃k,q=k+1:=⟨q-1,by omega⟩;have ek:(((k+1:Nat):Int)-1)=(k:Int):=by omega
     have dk:decide ((0:Int)≤(k:Int))=true:=by simp
     have fa:a<m.length:=by omega
     have fk:a+k<m.length:=by omega
     have t2:((k:Int)+1).toNat=k+1:=by omega
     have t1:((k:Int)-1+1).toNat=k:=by omega
     have hl2:(swL m a (a+k)).length=len:=by rw[Ie,hm]
     have hs:=Aft N (swL m a (a+k)) 0 k a len hl2 (by omega) (by omega) hl hN;have hn:=ih2 k ((((k:Int)-1),()),(),(),(siftDown Dk k a 0 (swL m a (a+k)).toArray).toList,()) (by omega) ⟨_,rfl,by rw[Bp2,Aod k a k 0 _ (by omega)];simpa using hl2,by omega⟩;have hz:((0:Nat):Int)=(0:Int):=rfl;rw[hz]at hs;simp only[ek,dk,Bna,B5s (show a+k≤4000000000000 by omega),← hm,K2 fa,K2 fk,Bog,Bo6,Bng fa,Bng fk,Bnb,Ck fa fk,Nj fa fk,Bdk (show k≤1000000000000 by omega)];rw[hm,hs,Bnb,hn];simp only[t1,t2,heapPop,swA]
   ·have t:(((b-a:Nat):Int)-1+1).toNat=b-a:=by omega
    have t0:(((0:Nat):Int)-1+1).toNat=0:=rfl;simp only[t,t0,heapBuild]
  ·obtain⟨k,rfl⟩:∃k,q=k+1:=⟨q-1,by omega⟩;have ek:(((k+1:Nat):Int)-1)=(k:Int):=by omega
   have dk:decide ((0:Int)≤(k:Int))=true:=by simp
   have t2:((k:Int)+1).toNat=k+1:=by omega
   have t1:((k:Int)-1+1).toNat=k:=by omega
   have hn:=ih k ((((k:Int)-1),()),(),(),(siftDown Dk (b-a) a k m.toArray).toList,()) (by omega) ⟨k,_,rfl,by rw[Bp2,Aod (b-a) a (b-a) k _ (by omega)];simpa using hm,by omega,rfl⟩;simp only[ek,dk,Bna,Aft N m k (b-a) a len hm (by omega) (by omega) hl hN,Bnb,Bdk (show k≤1000000000000 by omega)];rw[hn];simp only[t1,t2,heapBuild]
 ·have t:((((b-a-1)/2+1:Nat):Int)-1+1).toNat=(b-a-1)/2+1:=by omega
  simp only[t]
def Ae3(l:A6 El)(a b len:Nat)(hlen:l.length=len)(hab:a≤b)(hb:b≤len)(hl:len≤1000000000000)(hN:1000000000000<N) :
  J5 N l len a b=some ((insertionSort Dk l.toArray a b).toList,()):=by
 unfold J5 insertionSort;rw[Ac (by omega)];refine(iter_eq (G:=fun z=>some ((insOuter Dk a b z.1.1.toNat z.2.2.2.1.toArray).toList,())) (fun q z=>∃(i:Nat) (m:A6 El),z=(((i:Int),()),(),(),m,())∧m.length=len∧a<i∧i≤len+1∧q=b-i) ?_ N (b-(a+1)) _ ⟨a+1,l,rfl,hlen,by omega,by omega,rfl⟩ (by omega)).trans (by simp);rintro q z rec ⟨i,m,rfl,hm,hi,hi2,rfl⟩ ih;simp only[Bo6];rw[insOuter];by_cases h:i<b
 ·have d:decide ((i:Int)<(b:Int))=true:=by simp;omega
  rw[Bo3 h];simp only[d,Bna];have hn:∀m':A6 El,m'.length=len→rec ((((i+1:Nat):Int),()),(),(),m',())=some ((insOuter Dk a b (i+1) m'.toArray).toList,()):=fun m' h'=>ih (b-(i+1)) _ (by omega) ⟨i+1,m',rfl,h',by omega,by omega,rfl⟩
  refine(iter_eq (G:=fun z=>some ((insOuter Dk a b (i+1) (insInner Dk a z.1.1.toNat z.2.2.2.1.toArray)).toList,())) (fun q z=>∃(m:A6 El),z=(((q:Int),()),(),(),m,())∧m.length=len∧q<len∧a≤q) ?_ N i _ ⟨m,rfl,hm,by omega,by omega⟩ (by omega)).trans (by simp);rintro j z Blw ⟨m,rfl,hm,hj,haj⟩ ih2;by_cases hj0:a<j
  ·obtain⟨k,rfl⟩:∃k,j=k+1:=⟨j-1,by omega⟩;have d2:decide ((a:Int)<((k+1:Nat):Int))=true:=by simp;omega
   have w:i64.wrap (((k+1:Nat):Int)-1)=(k:Int):=by rw[C4 (by omega) (by omega)];rfl
   have f1:k+1<m.length:=by omega
   have f0:k<m.length:=by omega
   have hgt:decide (k+1>a)=true:=by simp;omega
   have hn2:=ih2 k (((k:Int),()),(),(),swL m (k+1) k,()) (by omega) ⟨_,rfl,by rw[Ie,hm],by omega,by omega⟩;simp only[Ar,d2,Bna,w,← hm,K2 f1,K2 f0,Bog,Bo6,Bng f1,Bng f0,Bnb,Og,insInner,hgt,Bqb,Qs f1,Qs f0,Ac (show i+1<9223372036854775808 by omega),Ck f1 f0,Nj f1 f0,hn2,swA];cases Dk m[k+1] m[k] with
   |true=>simp
   |false=>simp only[Bnc,Bon,Bpi];exact hn m hm
  ·have:j=a:=by omega
   subst this;have d2:decide ((j:Int)<(j:Int))=false:=by simp
   simp only[Ar,d2,Bnc,Ac (show i+1<9223372036854775808 by omega),hn m hm,Bo6];cases j with
   |zero=>rfl
   |succ k=>simp[insInner]
 ·have d:decide ((i:Int)<(b:Int))=false:=by simp;omega
  rw[Bnv h];simp only[d,Bnc]
def Zd(a b s i:Nat)(d:Array El):partialIns Dk a b (s+1) i d =
  if scanSorted Dk d b i=b then (d,true)else if b-a<50 then (d,false) else
   partialIns Dk a b s (scanSorted Dk d b i) (fixUp Dk b (scanSorted Dk d b i) (fixDown Dk a (scanSorted Dk d b i) (swp d (scanSorted Dk d b i) (scanSorted Dk d b i-1)))):=rfl
set_option maxHeartbeats 2000000 in
def A0k(l:A6 El)(a b len:Nat)(hlen:l.length=len)(hab:a<b)(hb:b≤len)(hl:len≤1000000000000)(hN:1000000000000<N) :
  E8 N l len a b=some ((partialInsertionSort Dk l.toArray a b).1.toList,(partialInsertionSort Dk l.toArray a b).2):=by
 unfold E8 partialInsertionSort;rw[Ac (by omega)];refine(iter_eq (G:=fun z=>some ((partialIns Dk a b (5-z.1.2.1).toNat z.1.1.toNat z.2.2.2.1.toArray).1.toList,(partialIns Dk a b (5-z.1.2.1).toNat z.1.1.toNat z.2.2.2.1.toArray).2)) (fun q z=>∃(i:Nat) (m:A6 El),z=(((i:Int),(5:Int)-(q:Int),()),(),(),m,())∧m.length=len∧a<i∧i≤b∧q≤5) ?_ N 5 _ ⟨a+1,l,rfl,hlen,by omega,by omega,by omega⟩ (by omega)).trans rfl;rintro q z rec ⟨i,m,rfl,hm,hai,hib,hq⟩ ih;have hs0:((5:Int)-((5:Int)-(q:Int))).toNat=q:=by omega
 simp only[hs0,Bo6];cases q with
 |zero=>rfl
 |succ s =>
  have dq:decide ((5:Int)-((s+1:Nat):Int)<5)=true:=by simp;omega
  have wq:i64.wrap ((5:Int)-((s+1:Nat):Int)+1)=(5:Int)-(s:Int):=by rw[Bt1 _ (by omega)];omega
  have hs1:((5:Int)-((5:Int)-(s:Int))).toNat=s:=by omega
  have Gu:∀(i':Nat) (m':A6 El),m'.length=len→a<i'→i'≤b→rec (((i':Int),(5:Int)-(s:Int),()),(),(),m',())=some ((partialIns Dk a b s i' m'.toArray).1.toList,(partialIns Dk a b s i' m'.toArray).2):=by intro i' m' h1 h2 h3;have:=ih s (((i':Int),(5:Int)-(s:Int),()),(),(),m',()) (by omega) ⟨i',m',rfl,h1,h2,h3,by omega⟩;simpa only [hs1,Bo6]using this
  simp only[dq,Bna,wq];refine Ae0 (fun z=>∃k:Nat,z=(((k:Int),()),(),(),())∧a<k∧k≤b∧scanSorted Dk m.toArray b k=k) (fun z=>some ((partialIns Dk a b (s+1) z.1.1.toNat m.toArray).1.toList,(partialIns Dk a b (s+1) z.1.1.toNat m.toArray).2)) ?_ ?_
  ·rintro z ⟨k,rfl,hak,hkb,hk⟩;simp only[Bo6];rw[Zd,hk];by_cases e:k=b
   ·subst e;simp
   ·have eb:((k:Int)==(b:Int))=false:=by simp;omega
    rw[Bnv e];simp only[eb,Bnc,Ni (show a≤b by omega) (show b<9223372036854775808 by omega)];by_cases h50:b-a<50
    ·have d50:decide (((b-a:Nat):Int)<50)=true:=by simp;omega
     simp[d50,h50]
    ·have d50:decide (((b-a:Nat):Int)<50)=false:=by simp;omega
     have f1:k<m.length:=by omega
     have f0:k-1<m.length:=by omega
     rw[Bnv h50];simp only[d50,Bnc,C4 (show 0<k by omega) (show k<9223372036854775808 by omega),← hm,K2 f1,K2 f0,Bna,Bog,Bo6,Bng f1,Bng f0,Bnb,Ck f1 f0,Nj f1 f0];have hm1:(swL m k (k-1)).length=len:=by rw[Ie,hm]
     rw[swA];generalize swL m k (k-1)=m1 at hm1;refine Ae0 (fun z=>∃m2:A6 El,z=((),(),(),m2,())∧m2.length=len) (fun z=>some ((partialIns Dk a b s k (fixUp Dk b k z.2.2.2.1.toArray)).1.toList,(partialIns Dk a b s k (fixUp Dk b k z.2.2.2.1.toArray)).2)) ?_ ?_
     ·rintro z ⟨m2,rfl,hm2⟩;simp only[Ni (show k≤b by omega) (show b<9223372036854775808 by omega),Ac (show k+1<9223372036854775808 by omega)];unfold fixUp;by_cases h2:b-k≥2
      ·have d2:decide ((2:Int)≤((b-k:Nat):Int))=true:=by simp;omega
       simp only[d2,Bna,Bo3 h2];refine(iter_eq (G:=fun z=>some ((partialIns Dk a b s k (shiftUp Dk b z.1.1.toNat z.2.2.2.1.toArray)).1.toList,(partialIns Dk a b s k (shiftUp Dk b z.1.1.toNat z.2.2.2.1.toArray)).2)) (fun q z=>∃(j:Nat) (m:A6 El),z=(((j:Int),()),(),(),m,())∧m.length=len∧k<j∧j≤b∧q=b-j) ?_ N (b-(k+1)) _ ⟨k+1,m2,rfl,hm2,by omega,by omega,rfl⟩ (by omega)).trans (by simp);rintro q z Amf ⟨j,m3,rfl,hm3,hj1,hj2,rfl⟩ ih1;simp only[Bo6];rw[shiftUp];by_cases hj:j<b
       ·have g1:j<m3.length:=by omega
        have g0:j-1<m3.length:=by omega
        rw[Bo3 hj];have hr:=ih1 (b-(j+1)) ((((j+1:Nat):Int),()),(),(),swL m3 j (j-1),()) (by omega) ⟨j+1,_,rfl,by rw[Ie,hm3],by omega,by omega,rfl⟩;simp only[dlt hj,Bna,C4 (show 0<j by omega) (show j<9223372036854775808 by omega),hm,← hm3,K2 g1,K2 g0,Bo6,Bng g1,Bng g0,Bnb,Og,Ck g1 g0,Nj g1 g0,Qs g1,Qs g0,Ac (show j+1<9223372036854775808 by omega),hr,swA];cases Dk m3[j] m3[j-1] with
        |true=>simp
        |false=>simp only[Bpf,Bna,Bpz];exact Gu k m3 hm3 (by omega) (by omega)
       ·rw[Bnv hj];simp only[B5t hj,Bnc];exact Gu k m3 hm3 (by omega) (by omega)
      ·have d2:decide ((2:Int)≤((b-k:Nat):Int))=false:=by simp;omega
       simp only[d2,Bnc,Bnv h2];exact Gu k m2 hm2 (by omega) (by omega)
     ·intro k2 hk2;simp only[Ni (show a≤k by omega) (show k<9223372036854775808 by omega)];unfold fixDown;by_cases h2:k-a≥2
      ·have d2:decide ((2:Int)≤((k-a:Nat):Int))=true:=by simp;omega
       simp only[d2,Bna,Bo3 h2];refine(iter_eq (G:=fun z=>some ((partialIns Dk a b s k (fixUp Dk b k (shiftDown Dk z.1.1.toNat z.2.2.2.1.toArray))).1.toList,(partialIns Dk a b s k (fixUp Dk b k (shiftDown Dk z.1.1.toNat z.2.2.2.1.toArray))).2)) (fun q z=>∃(m:A6 El),z=(((q:Int),()),(),(),m,())∧m.length=len∧q<len) ?_ N (k-1) _ ⟨m1,rfl,hm1,by omega⟩ (by omega)).trans (by simp);rintro j z Amf ⟨m3,rfl,hm3,hj⟩ ih1;simp only[Bo6];cases j with
       |zero =>
        have d1:decide ((1:Int)≤((0:Nat):Int))=false:=by decide
        simp only[d1,Bnc];exact hk2 ((),(),(),m3,()) ⟨m3,rfl,hm3⟩
       |succ j =>
        have d1:decide ((1:Int)≤((j+1:Nat):Int))=true:=by simp;omega
        have g1:j+1<m3.length:=by omega
        have g0:j<m3.length:=by omega
        have w:i64.wrap (((j+1:Nat):Int)-1)=(j:Int):=by rw[C4 (by omega) (by omega)];rfl
        rw[shiftDown];have hr:=ih1 j (((j:Int),()),(),(),swL m3 (j+1) j,()) (by omega) ⟨_,rfl,by rw[Ie,hm3],by omega⟩;simp only[d1,Bna,w,hm,← hm3,K2 g1,K2 g0,Bo6,Bng g1,Bng g0,Bnb,Og,Ck g1 g0,Nj g1 g0,Qs g1,Qs g0,hr,swA];cases Dk m3[j+1] m3[j] with
        |true=>simp
        |false=>simp only[Bpf,Bna,Bpz];exact hk2 ((),(),(),m3,()) ⟨m3,rfl,hm3⟩
      ·have d2:decide ((2:Int)≤((k-a:Nat):Int))=false:=by simp;omega
       simp only[d2,Bnc,Bnv h2];exact hk2 ((),(),(),m1,()) ⟨m1,rfl,hm1⟩
  ·intro k hk;refine(iter_eq (G:=fun z=>some ((partialIns Dk a b (s+1) z.1.1.toNat m.toArray).1.toList,(partialIns Dk a b (s+1) z.1.1.toNat m.toArray).2)) (fun q z=>∃(j:Nat),z=(((j:Int),()),(),(),())∧a<j∧j≤b∧q=b-j) ?_ N (b-i) _ ⟨i,rfl,by omega,by omega,rfl⟩ (by omega)).trans (by simp);rintro q z Amf ⟨j,rfl,hj1,hj2,rfl⟩ ih1;simp only[Bo6];by_cases hj:j<b
   ·have g1:j<m.length:=by omega
    have g0:j-1<m.length:=by omega
    have hr:=ih1 (b-(j+1)) ((((j+1:Nat):Int),()),(),(),()) (by omega) ⟨j+1,rfl,by omega,by omega,rfl⟩;simp only[dlt hj,Bna,C4 (show 0<j by omega) (show j<9223372036854775808 by omega),← hm,K2 g1,K2 g0,Bog,Bo6,Bng g1,Bng g0,Bnb,Og,Ac (show j+1<9223372036854775808 by omega),hr];cases By:Dk m[j] m[j-1] with
    |true =>
     simp only[Bp8,Bnc];have hst:scanSorted Dk m.toArray b j=j:=by rw[scanSorted,Qs g1,Qs g0,By];simp
     exact hk (((j:Int),()),(),(),()) ⟨j,rfl,hj1,hj2,hst⟩
    |false =>
     simp only[Bpf,Bna];have hst:scanSorted Dk m.toArray b j=scanSorted Dk m.toArray b (j+1):=by rw[scanSorted,Qs g1,Qs g0,By];simp[hj]
     rw[Zd a b s j,Zd a b s (j+1),hst]
   ·simp only[B5t hj,Bnc];have hst:scanSorted Dk m.toArray b j=j:=by rw[scanSorted];simp[hj]
    exact hk (((j:Int),()),(),(),()) ⟨j,rfl,hj1,hj2,hst⟩
def Bah{R:Type}(p:El→Bool)(d:Array El)(j i0:Nat)(k:St1→A7 R){f:(St1→A7 R)→St1→A7 R}(hs:∀rec (i:Nat),i0≤i→f rec (st1 i)=if (decide (i≤j)&&p d[i]!)=true then rec (st1 (i+1))else k (st1 i))
  (N:Nat) (hN:j+1<N) (i:Nat) (hi:i0≤i):iter f N (st1 i)=k (st1 (scanUp p d j i)):=by
 refine(iter_eq (G:=fun z=>k (st1 (scanUp p d j z.1.1.toNat))) (fun q z=>∃i:Nat,z=st1 i∧i0≤i∧q=j+1-i) ?_ N (j+1-i) _ ⟨i,rfl,hi,rfl⟩ (by omega)).trans (by simp);rintro q z rec ⟨i,rfl,hi,rfl⟩ ih;rw[hs rec i hi];simp only[Bo6];rw[scanUp];by_cases h:(decide (i≤j)&&p d[i]!)=true
 ·have hij:i≤j:=by simp at h;exact h.1
  rw[Bo3 h,Bo3 h,ih (j+1-(i+1)) (st1 (i+1)) (by omega) ⟨i+1,rfl,by omega,rfl⟩];simp
 ·rw[Bnv h,Bnv h]
def Ase{R:Type}(p:El→Bool)(d:Array El)(i b:Nat)(h1:1≤i)(k:St1→A7 R){f:(St1→A7 R)→St1→A7 R}(hs:∀rec (j:Nat),j<b→f rec (st1 j)=if (decide (i≤j)&&p d[j]!)=true then rec (st1 (j-1))else k (st1 j))
  (N:Nat) (hN:b<N) (j:Nat) (hj:j<b):iter f N (st1 j)=k (st1 (scanDown p d i j)):=by
 refine(iter_eq (G:=fun z=>k (st1 (scanDown p d i z.1.1.toNat))) (fun q z=>z=st1 q∧q<b) ?_ N j _ ⟨rfl,hj⟩ (by omega)).trans (by simp);rintro q z rec ⟨rfl,hq⟩ ih;rw[hs rec q hq];simp only[Bo6];cases q with
 |zero =>
  have h:¬((decide (i≤0)&&p d[0]!)=true):=by simp;omega
  rw[Bnv h,scanDown]
 |succ q =>
  rw[scanDown];by_cases h:(decide (i≤q+1)&&p d[q+1]!)=true
  ·rw[Bo3 h,Bo3 h,show q+1-1=q from rfl,ih q (st1 q) (by omega) ⟨rfl,by omega⟩];simp
  ·rw[Bnv h,Bnv h]
def A8p(p:El→Bool)(d:Array El)(j i:Nat)(h:i≤j+1):scanUp p d j i≤j+1:=(scanUp_spec p d j _ i rfl).2.1 h
def A20(p:El→Bool)(d:Array El)(i j:Nat)(h:i≤j+1):i≤scanDown p d i j+1:=(Bty p d i j).2.1 h
set_option maxHeartbeats 2000000 in
def Abs(l:A6 El)(a b p len:Nat)(hlen:l.length=len)(hap:a≤p)(hpb:p<b)(hb:b≤len)(hl:len≤1000000000000)(hN:1000000000000<N) :
  Hz N l len a b p=some ((partitionEqual Dk l.toArray a b p).2.toList,((partitionEqual Dk l.toArray a b p).1:Int)):=by
 unfold Hz partitionEqual;have fa:a<l.length:=by omega
 have fp:p<l.length:=by omega
 simp only[← hlen,K2 fa,K2 fp,Bna,Bog,Bo6,Bng fa,Bng fp,Bnb,Ck fa fp,Nj fa fp,Ac (show a+1<9223372036854775808 by omega),C4 (show 0<b by omega) (show b<9223372036854775808 by omega)];have hm0:(swL l a p).length=len:=by rw[Ie,hlen]
 rw[swA];generalize swL l a p=m0 at hm0;rw[hlen];refine(iter_eq (G:=fun z=>some ((partEqLoop Dk a z.1.1.toNat z.1.2.1.toNat z.2.2.2.1.toArray).2.toList,((partEqLoop Dk a z.1.1.toNat z.1.2.1.toNat z.2.2.2.1.toArray).1:Int))) (fun q z=>∃(i j:Nat) (m:A6 El),z=(((i:Int),(j:Int),()),(),(),m,())∧m.length=len∧a<i∧i≤j+1∧j<b∧q=j+1-i) ?_ N (b-1+1-(a+1)) _ ⟨a+1,b-1,m0,rfl,hm0,by omega,by omega,by omega,rfl⟩ (by omega)).trans (by simp);rintro q z rec ⟨i,j,m,rfl,hm,hai,hij,hjb,rfl⟩ ih;simp only[Bo6];rw[partEqLoop_eq];have ga:a<m.length:=by omega
 have u1:=scanUp_ge (fun x=>!Dk m.toArray[a]! x) m.toArray j i;have w1:=(scanUp_spec (fun x=>!Dk m.toArray[a]! x) m.toArray j _ i rfl).2.2.2;have u2:=A8p (fun x=>!Dk m.toArray[a]! x) m.toArray j i hij;refine(W7 _ fun k=>Bah (fun x=>!Dk m.toArray[a]! x) m.toArray j (a+1) k ?_ N (by omega) i hai).trans ?_
 ·intro Amf i1 hi1;by_cases h:i1≤j
  ·have g1:i1<m.length:=by omega
   simp only[dle h,Bna,← hm,K2 g1,Bo6,Bng ga,Bng g1,Bnb,Og,Qs ga,Qs g1,Ac (show i1+1<9223372036854775808 by omega),Bnq h,Bqb];cases Dk m[a] m[i1]<;>rfl
  ·simp[h]
 generalize scanUp (fun x=>!Dk m.toArray[a]! x) m.toArray j i=i2 at u1 u2 w1⊢;have v1:=scanDown_le (fun x=>Dk m.toArray[a]! x) m.toArray i2 j;have w2:=(Bty (fun x=>Dk m.toArray[a]! x) m.toArray i2 j).2.2.2;have v2:=A20 (fun x=>Dk m.toArray[a]! x) m.toArray i2 j u2;refine(W7 _ fun k=>Ase (fun x=>Dk m.toArray[a]! x) m.toArray i2 b (by omega) k ?_ N (by omega) j hjb).trans ?_
 ·intro Amf j1 hj1;by_cases h:i2≤j1
  ·have g1:j1<m.length:=by omega
   simp only[dle h,Bna,← hm,K2 g1,Bo6,Bng ga,Bng g1,Bnb,Og,Qs ga,Qs g1,C4 (show 0<j1 by omega) (show j1<9223372036854775808 by omega),Bnq h,Bqb];cases Dk m[a] m[j1]<;>rfl
  ·simp[h]
 generalize scanDown (fun x=>Dk m.toArray[a]! x) m.toArray i2 j=j2 at v1 v2 w2⊢;by_cases h:i2>j2
 ·simp only[dlt h,Bna,Bo3 h]
 ·have hne:i2<j2:=by
   rcases Bpt i2 j2 with h3|h3
   ·exact h3
   ·have e:j2=i2:=by omega
    subst e;have:=w1 (by omega);have h4:=w2 (Bno _) (by omega);generalize Dk m.toArray[a]! m.toArray[j2]! = v at this h4;cases v<;>simp at this h4
  have g1:i2<m.length:=by omega
  have g2:j2<m.length:=by omega
  have hr:=ih (j2-1+1-(i2+1)) ((((i2+1:Nat):Int),((j2-1:Nat):Int),()),(),(),swL m i2 j2,()) (by omega) ⟨i2+1,j2-1,_,rfl,by rw[Ie,hm],by omega,by omega,by omega,rfl⟩;simp only[Bo6]at hr;simp only[B5t h,Bnc,Bnv h,← hm,K2 g1,K2 g2,Bna,Bo6,Bng g1,Bng g2,Bnb,Ck g1 g2,Nj g1 g2,Ac (show i2+1<9223372036854775808 by omega),C4 (show 0<j2 by omega) (show j2<9223372036854775808 by omega),hr,swA]
set_option maxHeartbeats 4000000 in
def Asf(l:A6 El)(a b p len:Nat)(hlen:l.length=len)(hap:a≤p)(hpb:p<b)(hb:b≤len)(hl:len≤1000000000000)(hN:1000000000000<N) :
  Kw N l len a b p=some ((partition Dk l.toArray a b p).2.2.toList,((partition Dk l.toArray a b p).1:Int),(partition Dk l.toArray a b p).2.1):=by
 unfold Kw partition;have fa:a<l.length:=by omega
 have fp:p<l.length:=by omega
 simp only[← hlen,K2 fa,K2 fp,Bna,Bog,Bo6,Bng fa,Bng fp,Bnb,Ck fa fp,Nj fa fp,Ac (show a+1<9223372036854775808 by omega),C4 (show 0<b by omega) (show b<9223372036854775808 by omega)];have hm:(swL l a p).length=len:=by rw[Ie,hlen]
 rw[swA];generalize swL l a p=m at hm;rw[hlen];have ga:a<m.length:=by omega
 have u1:=scanUp_ge (fun x=>Dk x m.toArray[a]!) m.toArray (b-1) (a+1);have w1:=(scanUp_spec (fun x=>Dk x m.toArray[a]!) m.toArray (b-1) _ (a+1) rfl).2.2.2;have u2:=A8p (fun x=>Dk x m.toArray[a]!) m.toArray (b-1) (a+1) (by omega);refine(W7 _ fun k=>Bah (fun x=>Dk x m.toArray[a]!) m.toArray (b-1) (a+1) k ?_ N (by omega) (a+1) (Bno _)).trans ?_
 ·intro Amf i1 hi1;by_cases h:i1≤b-1
  ·have g1:i1<m.length:=by omega
   simp only[dle h,Bna,← hm,K2 g1,Bo6,Bng ga,Bng g1,Bnb,Og,Qs ga,Qs g1,Ac (show i1+1<9223372036854775808 by omega),Bnq h,Bqb];cases Dk m[i1] m[a]<;>rfl
  ·simp[h]
 generalize scanUp (fun x=>Dk x m.toArray[a]!) m.toArray (b-1) (a+1)=i2 at u1 u2 w1⊢;have v1:=scanDown_le (fun x=>!Dk x m.toArray[a]!) m.toArray i2 (b-1);have w2:=(Bty (fun x=>!Dk x m.toArray[a]!) m.toArray i2 (b-1)).2.2.2;have v2:=A20 (fun x=>!Dk x m.toArray[a]!) m.toArray i2 (b-1) u2;refine(W7 _ fun k=>Ase (fun x=>!Dk x m.toArray[a]!) m.toArray i2 b (by omega) k ?_ N (by omega) (b-1) (by omega)).trans ?_
 ·intro Amf j1 hj1;by_cases h:i2≤j1
  ·have g1:j1<m.length:=by omega
   simp only[dle h,Bna,← hm,K2 g1,Bo6,Bng ga,Bng g1,Bnb,Og,Qs ga,Qs g1,C4 (show 0<j1 by omega) (show j1<9223372036854775808 by omega),Bnq h,Bqb];cases Dk m[j1] m[a]<;>rfl
  ·simp[h]
 generalize scanDown (fun x=>!Dk x m.toArray[a]!) m.toArray i2 (b-1)=j2 at v1 v2 w2⊢;have gj:j2<m.length:=by omega
 by_cases h:i2>j2
 ·simp only[dlt h,Bna,Bo3 h,← hm,K2 gj,Bo6,Bng ga,Bng gj,Bnb,Ck gj ga,Nj gj ga,swA]
 ·have hne:i2<j2:=by
   rcases Bpt i2 j2 with h3|h3
   ·exact h3
   ·have e:j2=i2:=by omega
    subst e;have:=w1 (by omega);have h4:=w2 (Bno _) (by omega);generalize Dk m.toArray[j2]! m.toArray[a]! = v at this h4;cases v<;>simp at this h4
  have gi:i2<m.length:=by omega
  simp only[B5t h,Bnc,Bnv h,← hm,K2 gi,K2 gj,Bna,Bo6,Bng gi,Bng gj,Bnb,Ck gi gj,Nj gi gj,Ac (show i2+1<9223372036854775808 by omega),C4 (show 0<j2 by omega) (show j2<9223372036854775808 by omega),swA];rw[hm];have hm1:(swL m i2 j2).length=len:=by rw[Ie,hm]
  generalize swL m i2 j2=m1 at hm1;refine Ae0 (fun z=>∃(j:Nat) (m:A6 El),z=(((j:Int),()),(),(),m,())∧m.length=len∧a≤j∧j<b) (fun z=>some ((swp z.2.2.2.1.toArray z.1.1.toNat a).toList,((z.1.1.toNat:Nat):Int),false)) ?_ ?_
  ·rintro z ⟨j,m3,rfl,hm3,haj,hjb⟩;have g1:a<m3.length:=by omega
   have g2:j<m3.length:=by omega
   simp only[← hm3,K2 g2,Bna,Bo6,Bng g1,Bng g2,Bnb,Ck g2 g1,Nj g2 g1,swA]
  ·intro k hk;refine(iter_eq (G:=fun z=>some ((swp (partLoop Dk a z.1.1.toNat z.1.2.1.toNat z.2.2.2.1.toArray).2 (partLoop Dk a z.1.1.toNat z.1.2.1.toNat z.2.2.2.1.toArray).1 a).toList,((partLoop Dk a z.1.1.toNat z.1.2.1.toNat z.2.2.2.1.toArray).1:Int),false)) (fun q z=>∃(i j:Nat) (m:A6 El),z=(((i:Int),(j:Int),()),(),(),m,())∧m.length=len∧a<i∧i≤j+1∧j<b∧q=j+1-i) ?_ N (j2-1+1-(i2+1)) _ ⟨i2+1,j2-1,m1,rfl,hm1,by omega,by omega,by omega,rfl⟩ (by omega)).trans (by simp);rintro q z rec ⟨i,j,m,rfl,hm,hai,hij,hjb,rfl⟩ ih;simp only[Bo6];rw[partLoop_eq];have ga:a<m.length:=by omega
   have u1:=scanUp_ge (fun x=>Dk x m.toArray[a]!) m.toArray j i;have w1:=(scanUp_spec (fun x=>Dk x m.toArray[a]!) m.toArray j _ i rfl).2.2.2;have u2:=A8p (fun x=>Dk x m.toArray[a]!) m.toArray j i hij;refine(W7 _ fun k=>Bah (fun x=>Dk x m.toArray[a]!) m.toArray j (a+1) k ?_ N (by omega) i hai).trans ?_
   ·intro Amf i1 hi1;by_cases h:i1≤j
    ·have g1:i1<m.length:=by omega
     simp only[dle h,Bna,← hm,K2 g1,Bo6,Bng ga,Bng g1,Bnb,Og,Qs ga,Qs g1,Ac (show i1+1<9223372036854775808 by omega),Bnq h,Bqb];cases Dk m[i1] m[a]<;>rfl
    ·simp[h]
   generalize scanUp (fun x=>Dk x m.toArray[a]!) m.toArray j i=i3 at u1 u2 w1⊢;have v1:=scanDown_le (fun x=>!Dk x m.toArray[a]!) m.toArray i3 j;have w2:=(Bty (fun x=>!Dk x m.toArray[a]!) m.toArray i3 j).2.2.2;have v2:=A20 (fun x=>!Dk x m.toArray[a]!) m.toArray i3 j u2;refine(W7 _ fun k=>Ase (fun x=>!Dk x m.toArray[a]!) m.toArray i3 b (by omega) k ?_ N (by omega) j hjb).trans ?_
   ·intro Amf j1 hj1;by_cases h:i3≤j1
    ·have g1:j1<m.length:=by omega
     simp only[dle h,Bna,← hm,K2 g1,Bo6,Bng ga,Bng g1,Bnb,Og,Qs ga,Qs g1,C4 (show 0<j1 by omega) (show j1<9223372036854775808 by omega),Bnq h,Bqb];cases Dk m[j1] m[a]<;>rfl
    ·simp[h]
   generalize scanDown (fun x=>!Dk x m.toArray[a]!) m.toArray i3 j=j3 at v1 v2 w2⊢;by_cases h:i3>j3
   ·simp only[dlt h,Bna,Bo3 h];refine(hk (((j3:Int),()),(),(),m,()) ⟨j3,m,rfl,hm,by omega,by omega⟩).trans ?_;simp
   ·have hne:i3<j3:=by
     rcases Bpt i3 j3 with h3|h3
     ·exact h3
     ·have e:j3=i3:=by omega
      subst e;have:=w1 (by omega);have h4:=w2 (Bno _) (by omega);generalize Dk m.toArray[j3]! m.toArray[a]! = v at this h4;cases v<;>simp at this h4
    have g1:i3<m.length:=by omega
    have g2:j3<m.length:=by omega
    have hr:=ih (j3-1+1-(i3+1)) ((((i3+1:Nat):Int),((j3-1:Nat):Int),()),(),(),swL m i3 j3,()) (by omega) ⟨i3+1,j3-1,_,rfl,by rw[Ie,hm],by omega,by omega,by omega,rfl⟩;simp only[Bo6]at hr;simp only[B5t h,Bnc,Bnv h,← hm,K2 g1,K2 g2,Bna,Bo6,Bng g1,Bng g2,Bnb,Ck g1 g2,Nj g1 g2,Ac (show i3+1<9223372036854775808 by omega),C4 (show 0<j3 by omega) (show j3<9223372036854775808 by omega),hr,swA]
set_option maxHeartbeats 1000000 in
set_option maxHeartbeats 1000000 in
def Ae4(l:A6 El)(a b len:Nat)(hab:a<b)(hlen:l.length=len)(hb:b≤len)(hl:len≤1000000000000)(hN:1000000000000<N) :
  ∃l',Hh N l len a b=some (l',())∧Iz a b l l':=by
 suffices H:∃r,Hh N l len a b=some r∧∃l',r=(l',())∧Iz a b l l' by obtain⟨r,h1,l',rfl,h2⟩:=H;exact⟨l',h1,h2⟩
 unfold Hh;simp only[Ni (show a≤b by omega) (show b<9223372036854775808 by omega)];by_cases h8:8≤b-a
 ·have d8:decide ((8:Int)≤((b-a:Nat):Int))=true:=by simp;omega
  obtain⟨m,e,m1,m2⟩:=Bdm N (b-a) (by omega) (by omega);simp only[d8,Bna,e,Bnb];have e4:((b-a:Nat):Int).tdiv 4=(((b-a)/4:Nat):Int):=by rw[Bsm (by omega)];omega
  have e2:i64.wrap ((((b-a)/4:Nat):Int)*2)=(((b-a)/4*2:Nat):Int):=by rw[show(((b-a)/4:Nat):Int)*2=(((b-a)/4*2:Nat):Int) by omega,Lh (by omega)]
  have eM:u64.wrap ((m:Int)-1)=((m-1:Nat):Int):=by rw[show(m:Int)-1=((m-1:Nat):Int) by omega,Abr (by omega)]
  rw[e4,Lh (show(b-a)/4<9223372036854775808 by omega),e2,B5s (show a+(b-a)/4*2≤4000000000000 by omega)];have hq:(b-a)/4*2≤b-a-2:=by omega
  have hq2:2≤(b-a)/4*2:=by omega
  generalize (b-a)/4*2=v at hq hq2;rw[C4 (show 0<a+v by omega) (by omega),Ac (show a+v+1<9223372036854775808 by omega)];simp only[eM];refine Dn (Q:=fun r:A6 El×Unit=>∃l',r=(l',())∧Iz a b l l') (fun q z=>∃(i:Nat) (s:Int) (m:A6 El),z=(((i:Int),()),((s,()),()),(),m,())∧a≤i∧i≤a+v+2∧q=a+v+2-i∧Iz a b l m) ?_ N (a+v+2-(a+v-1)) _
   ⟨a+v-1,_,l,rfl,by omega,by omega,rfl,.refl _ _ _⟩ (by omega)
  rintro q z rec ⟨i,s,l1,rfl,h1,h2,rfl,hp⟩ ih;have hl1:l1.length=len:=by rw[hp.len,hlen]
  by_cases hi:i≤a+v+1
  ·simp only[dle hi,Bna,Lk,Bnb];generalize hs:bits BinOp.xor u64 (bits BinOp.xor u64 (bits BinOp.xor u64 s (u64.wrap (s*8192))) ((bits BinOp.xor u64 s (u64.wrap (s*8192))).fdiv 128)) (u64.wrap (bits BinOp.xor u64 (bits BinOp.xor u64 s (u64.wrap (s*8192))) ((bits BinOp.xor u64 s (u64.wrap (s*8192))).fdiv 128)*131072))=s';obtain⟨o,eo,ho⟩:=Bdn s' (m-1) (by omega);simp only[eo,Lh (show o<9223372036854775808 by omega)];refine Sr (fun z=>∃(o:Nat),z=(((o:Int),()),(),(),())∧o<b-a) ?_ ?_
   ·rintro z ⟨o,rfl,ho⟩;have gi:i<l1.length:=by omega
    have go:a+o<l1.length:=by omega
    simp only[B5s (show a+o≤4000000000000 by omega),← hl1,K2 gi,K2 go,Bna,Bog,Bo6,Bng gi,Bng go,Bnb,Ck gi go,Nj gi go,Ac (show i+1<9223372036854775808 by omega)];exact ih (a+v+2-(i+1)) _ (by omega) ⟨i+1,_,swL l1 i (a+o),rfl,by omega,by omega,rfl,hp.trans (.swap h1 (by omega) (by omega) (by omega) (by omega))⟩
   ·intro k hk;by_cases ho2:b-a≤o
    ·simp only[dle ho2,Bna,Ni ho2 (show o<9223372036854775808 by omega)];exact hk _ ⟨o-(b-a),rfl,by omega⟩
    ·simp only[Bjq ho2,Bnc];exact hk _ ⟨o,rfl,by omega⟩
  ·simp only[Bjq hi,Bnc];exact⟨_,rfl,l1,rfl,hp⟩
 ·have d8:decide ((8:Int)≤((b-a:Nat):Int))=false:=by simp;omega
  simp only[d8,Bnc];exact⟨_,rfl,l,rfl,.refl _ _ _⟩
def A61:SWO (Dk (El:=El)):=Jg.swo
def A62(a b:Nat)(l:A6 El):Prop:=SortedIn Dk a b l.toArray
def Ze(a b:Nat)(l:A6 El):Prop:=Below Dk a b l.toArray
def SQ(A B:Nat)(l:A6 El)(r:A6 El×Unit):Prop:=∃l',r=(l',())∧Iz A B l l'∧A62 A B l'
def Fin(A B:Nat)(l:A6 El)(a b:Nat)(m:A6 El):Prop:=∀R,Iz a b m R→A62 a b R→Iz A B l R∧A62 A B R
def Iz.below{l m:A6 El}(h:Iz a b l m)(hb:b≤l.length)(hB:Ze a b l):Ze a b m :=
 Below.perm (α:=El) hB (by simpa using hb) h
def Agp(l:A6 El)(a b:Nat)(hab:a≤b)(hb:b≤l.length):Iz a b l (insertionSort Dk l.toArray a b).toList∧A62 a b (insertionSort Dk l.toArray a b).toList:=by have:=insertionSort_holds (lt:=Dk) A61 l.toArray a b hab (by simpa using hb);exact⟨this.1,this.2⟩
def B0j(l:A6 El)(a b:Nat)(hab:a≤b)(hb:b≤l.length):Iz a b l (heapSort Dk l.toArray a b).toList∧A62 a b (heapSort Dk l.toArray a b).toList:=by have:=heapSort_holds (lt:=Dk) A61 l.toArray a b hab (by simpa using hb);exact⟨this.1,this.2⟩
def Amg(l:A6 El)(a b:Nat)(hab:a<b)(hb:b≤l.length)(hB:Ze a b l):Iz a b l (partialInsertionSort Dk l.toArray a b).1.toList∧((partialInsertionSort Dk l.toArray a b).2=true→A62 a b (partialInsertionSort Dk l.toArray a b).1.toList):=by have:=partialInsertionSort_holds (lt:=Dk) A61 l.toArray a b hab (by simpa using hb) hB;exact⟨this.1,this.2⟩
section
variable{N len:Nat}{G:Nat→A6 El→Nat→Int→Int→Int→A7 (A6 El×Unit)}
def B0k(A B:Nat)(l:A6 El)(rec:(Int×Int×Int×Bool×Bool×Unit)×Unit×Unit×A6 El×Unit→A7 (A6 El×Unit))(H:A6 El→Nat→Int→Int→Int→A7 (A6 El×Unit))
  (a b p:Nat) (lim:Int) (m:A6 El) (hm:m.length=len) (hap:a≤p) (hpb:p<b) (hb:b≤len) (hl:len≤1000000000000) (hN:1000000000000<N) (hB:Ze a b m) (hF:Fin A B l a b m)
  (ih:∀(a' b':Nat) (Ak1:Int) (wb wp:Bool) (m':A6 El),b'-a'<b-a→m'.length=len→a'≤b'→b'≤len→Ze a' b' m'→Fin A B l a' b' m'→∃r,rec (((a':Int),(b':Int),Ak1,wb,wp,()),(),(),m',())=some r∧SQ A B l r)
  (hH:∀(a' b':Nat) (Ak1:Int) (m':A6 El),b'-a'<b-a→m'.length=len→a'≤b'→b'≤len→Ze a' b' m'→∃r,H m' len a' b' Ak1=some r∧SQ a' b' m' r) :
  ∃r,(Option.bind (Kw N m len a b p) fun(y:A6 El×Int×Bool) =>
   bif decide (i64.wrap (y.snd.fst-(a:Int))<i64.wrap ((b:Int)-y.snd.fst)) then
    (H y.fst len a y.snd.fst lim).bind fun(B9:A6 El×Unit) =>rec ((i64.wrap (y.snd.fst+1),(b:Int),lim,decide (i64.wrap ((i64.wrap ((b:Int)-(a:Int))).tdiv 8)≤i64.wrap (y.snd.fst-(a:Int))),y.snd.snd,()),(),(),B9.fst,())
   else
    (H y.fst len (i64.wrap (y.snd.fst+1)) b lim).bind fun(B9:A6 El×Unit) =>
     rec (((a:Int),y.snd.fst,lim,decide (i64.wrap ((i64.wrap ((b:Int)-(a:Int))).tdiv 8)≤i64.wrap ((b:Int)-y.snd.fst)),y.snd.snd,()),(),(),B9.fst,()))=some r∧SQ A B l r:=by
 rw[Asf N m a b p len hm hap hpb hb hl hN,Bnb];have hbm:b≤m.toArray.size:=by simp;omega
 obtain⟨h1,h2,hs,hBa,hBr,hL,hR⟩:=round_part (lt:=Dk) A61 (partition_holds Dk) (d3:=m.toArray) (a:=a) (b:=b) (pivot:=p) (mid:=(partition Dk m.toArray a b p).1) (ap:=(partition Dk m.toArray a b p).2.1) (d4:=(partition Dk m.toArray a b p).2.2) hap hpb hbm hB rfl;generalize (partition Dk m.toArray a b p).1=mid at *;generalize (partition Dk m.toArray a b p).2.1=ap at *;generalize (partition Dk m.toArray a b p).2.2=d4 at *;have hs4:d4.toList.length=len:=by rw[Bp2,hs];simpa using hm
 simp only[Ni (show a≤mid by omega) (show mid<9223372036854775808 by omega),Ni (show mid≤b by omega) (show b<9223372036854775808 by omega),Ac (show mid+1<9223372036854775808 by omega)];by_cases By:mid-a<b-mid
 ·simp only[dlt By,Bna];obtain⟨r,e,l',rfl,q1,q2⟩:=hH a mid lim d4.toList (by omega) hs4 h1 (by omega) hBa;rw[e,Bnb];obtain⟨hB2,A9g⟩:=hL l'.toArray q1 q2;refine ih (mid+1) b lim _ _ l' (by omega) (by rw[q1.len,hs4]) (by omega) hb hB2 fun R hR1 hR2=>?_
  obtain⟨c1,c2⟩:=A9g R.toArray hR1 hR2;exact hF R c1 c2
 ·simp only[B5t By,Bnc];obtain⟨r,e,l',rfl,q1,q2⟩:=hH (mid+1) b lim d4.toList (by omega) hs4 (by omega) hb hBr;rw[e,Bnb];obtain⟨hB2,A9g⟩:=hR l'.toArray q1 q2;refine ih a mid lim _ _ l' (by omega) (by rw[q1.len,hs4]) h1 (by omega) hB2 fun R hR1 hR2=>?_
  obtain⟨c1,c2⟩:=A9g R.toArray hR1 hR2;exact hF R c1 c2
end
set_option maxHeartbeats 2000000 in
def Bh9(N len:Nat)(hl:len≤1000000000000)(hN:1000000000000<N):∀(n:Nat) (l:A6 El) (a b:Nat) (lim:Int),b-a<n→l.length=len→a≤b→b≤len→Ze a b l →
  ∃r,B0i (Mh (El:=El) N) n l len a b lim=some r∧SQ a b l r:=by
 intro n;induction n with
 |zero=>intro l a b lim h;omega
 |succ n ihn =>
  intro l A B Bjs hn hlen hAB hBl Blx;show ∃r,Mh (El:=El) N (B0i (Mh (El:=El) N) n) l len A B Bjs=some r∧SQ A B l r;generalize hH:B0i (Mh (El:=El) N) n=H at *;unfold Mh;refine Dn (Q:=SQ A B l) (fun q z=>∃(a b:Nat) (lim:Int) (wb wp:Bool) (m:A6 El),z=(((a:Int),(b:Int),lim,wb,wp,()),(),(),m,())∧m.length=len∧a≤b∧b≤len∧b-a≤B-A∧Ze a b m∧Fin A B l a b m∧q=b-a) ?_ N (B-A) _
   ⟨A,B,Bjs,true,true,l,rfl,hlen,hAB,hBl,Bno _,Blx,fun R h1 h2=>⟨h1,h2⟩,rfl⟩ (by omega)
  rintro q z rec ⟨a,b,lim,wb,wp,m,rfl,hm,hab,hb,hle,Bjt,A9g,rfl⟩ ih;have ih':∀(a' b':Nat) (Ak1:Int) (wb wp:Bool) (m':A6 El),b'-a'<b-a→m'.length=len→a'≤b'→b'≤len→Ze a' b' m'→Fin A B l a' b' m'→∃r,rec (((a':Int),(b':Int),Ak1,wb,wp,()),(),(),m',())=some r∧SQ A B l r :=
   fun a' b' Ak1 wb wp m' h1 h2 h3 h4 h5 h6=>ih (b'-a') _ h1 ⟨a',b',Ak1,wb,wp,m',rfl,h2,h3,h4,by omega,h5,h6,rfl⟩
  have hH':∀(a' b':Nat) (Ak1:Int) (m':A6 El),b'-a'<b-a→m'.length=len→a'≤b'→b'≤len→Ze a' b' m'→∃r,H m' len a' b' Ak1=some r∧SQ a' b' m' r :=
   fun a' b' Ak1 m' h1 h2 h3 h4 h5=>ihn m' a' b' Ak1 (by omega) h2 h3 h4 h5
  simp only[Ni hab (show b<9223372036854775808 by omega)];by_cases h12:b-a≤12
  ·have d:decide (((b-a:Nat):Int)≤12)=true:=by simp;omega
   simp only[d,Bna,Ae3 N m a b len hm hab hb hl hN,Bnb];obtain⟨f1,f2⟩:=Agp m a b hab (by omega);obtain⟨c1,c2⟩:=A9g _ f1 f2;exact⟨_,rfl,_,rfl,c1,c2⟩
  have d:decide (((b-a:Nat):Int)≤12)=false:=by simp;omega
  simp only[d,Bnc];cases hz:lim==0 with
  |true =>simp only[Bna,Awf N m a b len hm (by omega) hb hl hN,Bnb];obtain⟨f1,f2⟩:=B0j m a b hab (by omega);obtain⟨c1,c2⟩:=A9g _ f1 f2;exact⟨_,rfl,_,rfl,c1,c2⟩
  |false =>
   simp only[Bnc];have By:a<b:=by omega
   refine Sr (fun z=>∃(lim:Int) (m1:A6 El),z=((lim,()),(),(),m1,())∧Iz a b m m1) ?_ ?_
   ·rintro z ⟨Bju,m1,rfl,p1⟩;have l1:m1.length=len:=by rw[p1.len,hm]
    obtain⟨p,h,e,ep1,ep2⟩:=choosePivot_eq N m1 a b By (by omega) (by omega);rw[l1]at e;simp only[e,Bnb];refine Sr (fun z=>∃(p:Nat) (h:Int) (m2:A6 El),z=(((p:Int),h,()),(),(),m2,())∧a≤p∧p<b∧Iz a b m m2) ?_ ?_
    ·rintro z ⟨p,h,m2,rfl,ep1,ep2,p2⟩;have l2:m2.length=len:=by rw[p2.len,hm]
     have B2:=p2.below (by omega) Bjt;refine Sr (fun z=>∃(m3:A6 El),z=((),(),(),m3,())∧Iz a b m m3) ?_ ?_
     ·rintro z ⟨m3,rfl,p3⟩;have l3:m3.length=len:=by rw[p3.len,hm]
      have B3:=p3.below (by omega) Bjt;have F3:Fin A B l a b m3:=fun R h1 h2=>A9g R (p3.trans h1) h2
      have Ahj:=B0k A B l rec H a b p Bju m3 l3 ep1 ep2 hb hl hN B3 F3 ih' hH';simp only[Ni hab (show b<9223372036854775808 by omega)]at Ahj;by_cases h0:0<a
      ·have d0:decide ((0:Int)<(a:Int))=true:=by simp;omega
       have g1:a-1<m3.length:=by omega
       have g2:p<m3.length:=by omega
       simp only[d0,Bna,C4 h0 (show a<9223372036854775808 by omega),← l3,K2 g1,K2 g2,Bog,Bo6,Bng g1,Bng g2,Bnb,Og];rw[l3];cases Bly:Dk m3[a-1] m3[p] with
       |true =>simp only[Bp8,Bnc];exact Ahj
       |false =>
        simp only[Bpf,Bna,Abs N m3 a b p len l3 ep1 ep2 hb hl hN,Bnb];have hnl:Dk m3.toArray[a-1]! m3.toArray[p]! = false:=by rw[Qs g1,Qs g2];exact Bly
        obtain⟨c1,c2,c3,c4,c5⟩:=round_eq (lt:=Dk) A61 (partitionEqual_holds Dk) (d3:=m3.toArray) (a:=a) (b:=b) (pivot:=p) (mid:=(partitionEqual Dk m3.toArray a b p).1) (d4:=(partitionEqual Dk m3.toArray a b p).2) h0 ep1 ep2 (by simp;omega) B3 hnl rfl;refine ih' _ b Bju wb wp _ (by omega) (by rw[Bp2,c3];simpa using l3) c2 hb c4 fun R hR1 hR2=>?_
        obtain⟨e1,e2⟩:=c5 R.toArray hR1 hR2;exact F3 R e1 e2
      ·have d0:decide ((0:Int)<(a:Int))=false:=by simp;omega
       simp only[d0,Bnc];exact Ahj
     ·intro k hk;have k2:=hk ((),(),(),m2,()) ⟨m2,rfl,p2⟩;cases wb with
      |false=>simp only[Bnc];exact k2
      |true =>
       cases wp with
       |false=>simp only[Bnc,Bna];exact k2
       |true =>
        cases h==1 with
        |false=>simp only[Bnc,Bna];exact k2
        |true =>
         obtain⟨f1,f2⟩:=Amg m2 a b By (by omega) B2;simp only[Bna,A0k N m2 a b len l2 By hb hl hN,Bnb];cases hx:(partialInsertionSort Dk m2.toArray a b).2 with
         |true =>simp only[Bna];obtain⟨c1,c2⟩:=A9g _ (p2.trans f1) (f2 hx);exact⟨_,rfl,_,rfl,c1,c2⟩
         |false =>simp only[Bnc];exact hk _ ⟨_,rfl,p2.trans f1⟩
    ·intro k hk;cases h==2 with
     |false=>simp only[Bnc];exact hk _ ⟨p,h,m1,rfl,ep1,ep2,p1⟩
     |true =>obtain⟨m2,e2,p2⟩:=Ago N m1 a b len By l1 hb hl hN;simp only[Bna,e2,Bnb,C4 (show 0<b by omega) (show b<9223372036854775808 by omega),Ni ep1 (show p<9223372036854775808 by omega),Ni (show p-a≤b-1 by omega) (show b-1<9223372036854775808 by omega)];exact hk _ ⟨b-1-(p-a),1,m2,rfl,by omega,by omega,p1.trans p2⟩
   ·intro k hk;cases wb with
    |true=>simp only[Bp8,Bnc];exact hk _ ⟨lim,m,rfl,.refl _ _ _⟩
    |false =>obtain⟨m1,e1,p1⟩:=Ae4 N m a b len By hm hb hl hN;simp only[Bpf,Bna,e1,Bnb];exact hk _ ⟨_,m1,rfl,p1⟩
def srt(l:A6 El):A6 El:=l.mergeSort (fun x y=>!Dk y x)
def Vj(l:A6 El)(hl:l.length≤1000000000000)(hN:1000000000000<N):Ajx N l l.length=some (srt l,()):=by
 unfold Ajx Aoc;have fin:∀lim:Int,∃r,B0i (Mh (El:=El) N) N l l.length 0 l.length lim=some r∧SQ 0 l.length l r :=
  fun lim=>Bh9 N l.length hl hN N l 0 l.length lim (by omega) rfl (by omega) (Bno _) (.inl rfl)
 have hlen:∃y,G5 N (u64.wrap (l.length:Int))=some y:=by
  rw[Abr (by omega)];rcases Bpl l.length with h|h
  ·rw[h];exact⟨0,by kernel_rfl⟩
  ·obtain⟨r,e,_⟩:=Bag N l.length h (by omega);exact⟨r,e⟩
 obtain⟨y,e⟩:=hlen;obtain⟨r,e2,l',rfl,h1,h2⟩:=fin y;rw[e,Bnb];have e3:B0i (Mh (El:=El) N) N l l.length 0 (l.length:Int) y=some (l',()):=e2;rw[e3,Bnb];have:=sorted_unique_holds (lt:=Dk) A61 (fun x y h1 h2=>Jg.Bdj x y h1 h2) l.toArray l'.toArray (show PermIn 0 l.toArray.size l.toArray l'.toArray by rw[Bq1];exact h1) (show SortedIn Dk 0 l.toArray.size l'.toArray by rw[Bq1];exact h2);simp only[]at this;rw[this];rfl
end
theorem Bha(x y:Int):Mq N x y=some (decide (x<y)):=by
 simp only[Mq,Bp,cond_eq_ite,Bnb]
 grind
theorem Bjv(x y:UInt8):Of N x y=some (decide (x<y)):=by
 simp only[Of,Mr,cond_eq_ite,Bnb]
 grind
theorem Bjw(x y:A6 UInt8):Ms N x y=some (Op.bytesLess x y):=by
 simp only[Ms,Lm,cond_eq_ite,Bnb]
 grind
namespace S
theorem Rk:∀x y:A6 UInt8,Op.bytesLess x y=decide (x<y)
 |[],[]=>by simp[Op.bytesLess]
 |[],_::_=>by simp[Op.bytesLess]
 |_::_,[]=>by simp[Op.bytesLess]
 |a::r,b::s=>by
  simp only[Op.bytesLess,Rk r s];by_cases h:a<b
  ·simp[h,But]
  ·by_cases h2:b<a
   ·have:a≠b:=fun e=>by subst e;exact h h2
    simp[h,But,this]
   ·have:a=b:=Brp.1 (by rw[Bq8]at h h2;omega);subst this;simp[UInt8.lt_irrefl]
def Awg:Op.bytesLess=ltStr:=by funext x y;exact Rk x y
end S
noncomputable instance Blz:Jg Int where
 lt x y:=decide (x<y)
 L:=Mq 0
 Arp:=0
 hL:=Bha 0
 swo :=
  {irrefl:=fun x=>by simp
   trans:=fun x y z h1 h2=>by
    simp only[Bpk]at *;exact Int.lt_trans h1 h2
   ntrans:=fun x y z h1 h2=>by
    simp only[Bpr]at *;exact Bua.2 (Int.le_trans (Bua.1 h2) (Bua.1 h1)) }
 Bdj x y h1 h2:=by simp only[Bpr]at *;exact Int.le_antisymm (Bua.1 h2) (Bua.1 h1)
noncomputable instance Bm0:Jg UInt8 where
 lt x y:=decide (x<y)
 L:=Of 0
 Arp:=0
 hL:=Bjv 0
 swo :=
  {irrefl:=fun x=>by simp
   trans:=fun x y z h1 h2=>by
    simp only[Bpk,Bq8]at *;exact Nat.lt_trans h1 h2
   ntrans:=fun x y z h1 h2=>by
    simp only[Bpr,Bq8]at *;exact Bub.2 (Bop (Bub.1 h2) (Bub.1 h1)) }
 Bdj x y h1 h2:=by simp only[Bpr,Bq8]at *;exact Brp.1 (Nat.le_antisymm (Bub.1 h2) (Bub.1 h1))
noncomputable instance Bm1:Jg (A6 UInt8) where
 lt:=Op.bytesLess
 L:=Ms 0
 Arp:=[]
 hL:=Bjw 0
 swo:=by rw[S.Awg];exact swo_ltStr
 Bdj x y h1 h2:=by rw[S.Awg]at h1 h2;simp only[ltStr,Bpr]at *;exact List.le_antisymm (List.not_lt.1 h2) (List.not_lt.1 h1)
end Go.Proofs.Xu
namespace Go.Proofs.Xu
open Go Go.Xl Go.Ab Go.Proofs
def Ul(t:Ty):An:=(A5 (.blk (.loop ⟨[(6,.d A4)],[],[0,1,2],[],[],[(1,.arr t)]⟩ (A5 (.seq (.blk (A5 (.blk (.loop ⟨[(7,.d A4)],[],[0,1,2,6],[],[],[(1,.arr t)]⟩ (.join ⟨[],[],[0,1,2,6,7],[1],[],[]⟩ .lf .lf))))) .lf)))))
def Um:An:=(A5 (.blk (.loop ⟨[(6,.d A4)],[],[0,1,2],[],[],[]⟩ (A5 (.seq (.blk (A5 (.blk (.loop ⟨[(7,.d A4)],[],[0,1,2,6],[],[],[]⟩ (.join ⟨[],[],[0,1,2,6,7],[],[],[]⟩ .lf .lf))))) .lf)))))
def A8q(t:Ty):An:=(A5 (.blk (.loop ⟨[(8,.d A4)],[],[0,2,3],[],[],[(1,.arr t)]⟩ (.blk (A5 (A5 (.join ⟨[(9,.d A4)],[],[0,2,3,8],[1],[],[]⟩ .lf .lf)))))))
def A8r(t:Ty):An:=(A5 (A5 (A5 (.seq (A5 (.blk (.loop ⟨[(9,.d A4)],[],[0,6,7,8],[],[],[(1,.arr t)]⟩ .lf))) (A5 (.blk (.loop ⟨[(10,.d A4)],[],[0,6,7],[],[],[(1,.arr t)]⟩ .lf)))))))
def Un(t:Ty):An:=(A5 (A5 (.cond (A5 (A5 (A5 (.blk (.loop ⟨[(9,.d A4)],[(1007,[.d (.int .u64)],some 210)],[0,1,6,7,8],[],[],[(1,.arr t)]⟩ (A5 (.seq (.blk (A5 (.join ⟨[(10,.d A4)],[],[0,1,6,7,8,9],[1,1007],[],[]⟩ .lf .lf))) .lf))))))) .lf)))
@[reducible] def Ak2 (t:Ty):H8:=⟨[.os 1 t,.d A4,.d A4,.p 2 0],[(2,[.d A4],some 3)],[(1,.arr t)],⟨[(8,.d A4),(9,.d A4)],[(2,[.d A4],some 3)],[],[1],[],[]⟩⟩
@[reducible] def Ak3 (t:Ty):H8:=⟨[.os 1 t,.d A4,.d A4,.d A4,.p 2 0],[(2,[.d A4],some 3)],[(1,.arr t)],⟨[(10,.d A4)],[(2,[.d A4],some 3)],[],[1],[],[]⟩⟩
@[reducible] def Ss (t:Ty):H8:=⟨[.os 1 t,.d A4,.p 2 0],[(2,[.d A4],some 3)],[(1,.arr t)],⟨[(6,.d A4)],[(2,[.d A4],some 3)],[],[1],[],[]⟩⟩
def Zf(t:Ty):An:=(A5 (A5 (A5 (A5 (A5 (A5 (.join ⟨[(11,.d A4)],[(1009,[.d A4],some 3)],[9],[],[],[(1,.arr t)]⟩ .lf .lf)))))))
def X3(t:Ty):An:=(A5 (A5 (.blk (.loop ⟨[(6,.d A4),(7,.d A4)],[],[0],[],[],[(1,.arr t)]⟩ .lf))))
def Lp(t:Ty):An:=(A5 (A5 (.seq (A5 (.blk (.loop ⟨[(7,.d A4),(8,.d A4)],[],[0,1,2],[],[],[(1,.arr t)]⟩ (A5 (.seq (.blk (.join ⟨[(7,.d A4)],[],[0,1,2,8],[1],[],[]⟩ (.blk (.loop ⟨[(7,.d A4)],[],[0,1,2,8],[1],[],[]⟩ .lf)) (A5 (A5 (A5 (.join ⟨[],[],[0,1,2,7,8],[],[],[(1,.arr t)]⟩ (A5 (.cond (A5 (.blk (.loop ⟨[(9,.d A4)],[],[0,1,2,7,8],[],[],[(1,.arr t)]⟩ .lf))) .lf)) (A5 (.cond (A5 (.blk (.loop ⟨[(10,.d A4)],[],[0,1,2,7,8],[],[],[(1,.arr t)]⟩ .lf))) .lf)))))))) .lf))))) .lf)))
def Su(t:Ty):An:=(A5 (A5 (A5 (.seq (.blk (.loop ⟨[(9,.d A4),(10,.d A4)],[],[0,1],[],[],[(1,.arr t)]⟩ (.blk (.join ⟨[(9,.d A4)],[],[0,1,10],[1],[],[]⟩ (.blk (.loop ⟨[(9,.d A4)],[],[0,1,10],[1],[],[]⟩ .lf)) (.join ⟨[(10,.d A4)],[],[0,1,9],[1],[],[]⟩ (.blk (.loop ⟨[(10,.d A4)],[],[0,1,9],[1],[],[]⟩ .lf)) .lf))))) .lf))))
def A4a(t:Ty):An:=(A5 (A5 (A5 (.join ⟨[(10,.d A4)],[],[0,1,11],[1],[],[]⟩ (.blk (.loop ⟨[(10,.d A4)],[],[0,1,11],[1],[],[]⟩ .lf)) (.join ⟨[(11,.d A4)],[],[0,1,10],[1],[],[]⟩ (.blk (.loop ⟨[(11,.d A4)],[],[0,1,10],[1],[],[]⟩ .lf)) (A5 (A5 (A5 (A5 (.join ⟨[(11,.d A4)],[],[0,1],[],[],[(1,.arr t)]⟩ (.blk (.loop ⟨[(10,.d A4),(11,.d A4)],[],[0,1],[],[],[(1,.arr t)]⟩ (.blk (.join ⟨[(10,.d A4)],[],[0,1,11],[1],[],[]⟩ (.blk (.loop ⟨[(10,.d A4)],[],[0,1,11],[1],[],[]⟩ .lf)) (.join ⟨[(11,.d A4)],[],[0,1,10],[1],[],[]⟩ (.blk (.loop ⟨[(11,.d A4)],[],[0,1,10],[1],[],[]⟩ .lf)) .lf))))) .lf))))))))))
def B5u(t:Ty):An:=(A5 (A5 (.blk (.loop ⟨[(1,.d A4),(2,.d A4),(3,.d A4),(8,.d .bool),(9,.d .bool)],[],[0],[],[],[(1,.arr t)]⟩ (.blk (A5 (A5 (A5 (.join ⟨[(3,.d A4)],[],[0,1,2,8,9,10],[],[],[(1,.arr t)]⟩ .lf (A5 (.join ⟨[(11,.d A4),(12,.d A4)],[],[0,1,2,3,8,9,10],[],[],[(1,.arr t)]⟩ .lf (.join ⟨[],[],[0,1,2,3,8,9,10,11],[],[],[(1,.arr t)]⟩ .lf .lf))))))))))))
def B5v:An:=(A5 (A5 (.blk (.loop ⟨[(1,.d A4),(2,.d A4),(3,.d A4),(8,.d .bool),(9,.d .bool)],[],[0],[],[],[]⟩ (.blk (A5 (A5 (A5 (.join ⟨[(3,.d A4)],[],[0,1,2,8,9,10],[],[],[]⟩ .lf (A5 (.join ⟨[(11,.d A4),(12,.d A4)],[],[0,1,2,3,8,9,10],[],[],[]⟩ .lf (.join ⟨[],[],[0,1,2,3,8,9,10,11],[],[],[]⟩ .lf .lf))))))))))))
def J6{El:Type}[Jg El](N:Nat):Int→Int→A7 Unit :=
 fun(x Bh:Int) =>
 iter
  (fun(rec:(Int×Unit)×Unit×Unit×Unit→A7 Unit) (z:(Int×Unit)×Unit×Unit×Unit) =>
   bif decide (z.fst.fst<Bh) then
    iter
     (fun(rec_1:(Int×Unit)×Unit×Unit×Unit→A7 Unit)
       (B1:(Int×Unit)×Unit×Unit×Unit) =>
      Ar
       (fun(z:Unit×Unit×Unit×Unit) =>
        (at? ([]:A6 El) (i64.wrap (B1.fst.fst-1))).bind fun(e:El) =>
         (at? ([]:A6 El) B1.fst.fst).bind fun(e:El)=>(at? ([]:A6 El) B1.fst.fst).bind fun(e:El)=>none)
       fun(k:Unit×Unit×Unit×Unit→A7 Unit) =>
       bif decide (x<B1.fst.fst) then
        (at? ([]:A6 El) B1.fst.fst).bind fun(e:El) =>
         (at? ([]:A6 El) (i64.wrap (B1.fst.fst-1))).bind fun(Dt:El) =>Option.bind (Jg.L e Dt) fun(y:Bool) =>bif y then k ((),(),(),())else rec ((i64.wrap (z.fst.fst+1),()),(),(),())
       else rec ((i64.wrap (z.fst.fst+1),()),(),(),()))
     N ((z.fst.fst,()),(),(),())
   else some ())
  N ((i64.wrap (x+1),()),(),(),())
def A0l{El:Type}[Jg El](N:Nat):Int→Int→Int→A7 Unit :=
 fun(x Bh Ku:Int) =>
 iter
  (fun(rec:(Int×Int×Int×Bool×Bool×Unit)×Unit×Unit×Unit→A7 Unit)
    (z:(Int×Int×Int×Bool×Bool×Unit)×Unit×Unit×Unit) =>
   bif decide (i64.wrap (z.fst.snd.fst-z.fst.fst)≤12) then
    Option.bind (J6 (El:=El) N z.fst.fst z.fst.snd.fst) fun(y:Unit)=>some ()
   else
    bif z.fst.snd.snd.fst==0 then none
    else
     Ar (fun(z:(Int×Unit)×Unit×Unit×Unit)=>none)
      fun(k:(Int×Unit)×Unit×Unit×Unit→A7 Unit) =>
      bif !z.fst.snd.snd.snd.fst then none else k ((z.fst.snd.snd.fst,()),(),(),()))
  N ((x,Bh,Ku,true,true,()),(),(),())
def Zg{El:Type}[Jg El](N:Nat):A7 Unit :=
 Option.bind (G5 N 0) fun(y:Int) =>Option.bind (A0l (El:=El) N 0 0 y) fun(y:Unit)=>some ()
@[reducible] def k3:A6 AK:=[.d A4,.d A4,.d A4]
def Bai {P : Program} (t : Ty) [I : Jg t.T] (Γ : List (Ix P)) (N : Nat) (id : FuncId) {fn : Func} (hm : P.follows .mixedOrders = true) (hf : P.funcs[id]? = some fn) (hb : fn.body.isSome = true) (Uv : (fn.name == "runtime.NumGoroutine") = false) (hn : Nat.ble (k3.length + 1) fn.ntmps = true)
  (hE:∀(G:FnO t k3 []) (hG:B5q P id t k3 [] G),Arm P (Bh7 id t k3 [] G (.mk' hf hb Uv) hG::Γ) [] N fn (B5u t) t k3 []=Mh (El:=t.T) N G) (hE0:Ant P Γ [] N fn B5v t k3 []=A0l (El:=t.T) N):Ix P :=
 Bdi id t k3 [] (Bh6 (Mh (El:=t.T) N) N) (A0l (El:=t.T) N) (.mk' hf hb Uv) (Ajv (fun G hG l k=>hE G hG▸A1u hm hf hn l k) N) (hE0▸A41 hm hf hn)
variable(N:Nat)
def Ov:=Afh [Fp N] [] N 123 (Ul (.int .u64)) Um (.int .u64) [.d A4,.d A4] [] (J5 (El:=Int) N) (J6 (El:=Int) N) mixed func123 rfl (by decide) rfl (by kernel_rfl) (by kernel_rfl)
def S2:=Vg [Fp N] [] N 173 (A8q (.int .u64)) (.int .u64) [.d A4,.d A4,.d A4] [] (Q9 (El:=Int) N) mixed func173 rfl (by decide) rfl (by kernel_rfl)
def S3:=Vg [S2 N] [] N 124 (A8r (.int .u64)) (.int .u64) [.d A4,.d A4] [] (Sq (El:=Int) N) mixed func124 rfl (by decide) rfl (by kernel_rfl)
def Ow:=Vg [Kg N,Ll N] [] N 125 (Un (.int .u64)) (.int .u64) [.d A4,.d A4] [] (Hh (El:=Int) N) mixed func125 rfl (by decide) rfl (by kernel_rfl)
def Tx:=K1 [Fp N] [] N 209 .lf (Ak2 (.int .u64)) (Tv (El:=Int) N) mixed func209 rfl (by decide) rfl rfl rfl (by kernel_rfl)
def Kx:=K1 [Tx N] [] N 177 .lf (Ak3 (.int .u64)) (Tw (El:=Int) N) mixed func177 rfl (by decide) rfl rfl rfl (by kernel_rfl)
def Oh:=K1 [Kx N] [] N 176 .lf (Ss (.int .u64)) (F9 (El:=Int) N) mixed func176 rfl (by decide) rfl rfl rfl (by kernel_rfl)
def Qa:=Vg [Oh N,Kx N] [] N 126 (Zf (.int .u64)) (.int .u64) [.d A4,.d A4] [.d A4,.d A4] (Mg (El:=Int) N) mixed func126 rfl (by decide) rfl (by kernel_rfl)
def Pp:=Vg [] [] N 127 (X3 (.int .u64)) (.int .u64) [.d A4,.d A4] [] (Ic (El:=Int) N) mixed func127 rfl (by decide) rfl (by kernel_rfl)
def Kp:=Vg [Fp N] [] N 128 (Lp (.int .u64)) (.int .u64) [.d A4,.d A4] [.d .bool] (E8 (El:=Int) N) mixed func128 rfl (by decide) rfl (by kernel_rfl)
def Oi:=Vg [Fp N] [] N 130 (Su (.int .u64)) (.int .u64) [.d A4,.d A4,.d A4] [.d A4] (Hz (El:=Int) N) mixed func130 rfl (by decide) rfl (by kernel_rfl)
def Rm:=Vg [Fp N] [] N 131 (A4a (.int .u64)) (.int .u64) [.d A4,.d A4,.d A4] [.d A4,.d .bool] (Kw (El:=Int) N) mixed func131 rfl (by decide) rfl (by kernel_rfl)
def Sv:Ix prog:=Bai (.int .u64) (I:=Blz) [Ov N,S3 N,Ow N,Qa N,Pp N,Kp N,Fp N,Oi N,Rm N] N 99 mixed func99 rfl (by decide) rfl (fun G hG=>by kernel_rfl) (by kernel_rfl)
def Et:FnO (.int .u64) [] []:=Ajx (El:=Int) N
def Uo:=Afh [Es N,Sv N] [] N 61 .lf .lf (.int .u64) [] [] (Et N) (Zg (El:=Int) N) mixed func61 rfl (by decide) rfl (by kernel_rfl) (by kernel_rfl)
def Pq:=Afh [Gi N] [] N 134 (Ul .u8) Um .u8 [.d A4,.d A4] [] (J5 (El:=UInt8) N) (J6 (El:=UInt8) N) mixed func134 rfl (by decide) rfl (by kernel_rfl) (by kernel_rfl)
def Sw:=Vg [Gi N] [] N 178 (A8q .u8) .u8 [.d A4,.d A4,.d A4] [] (Q9 (El:=UInt8) N) mixed func178 rfl (by decide) rfl (by kernel_rfl)
def Sx:=Vg [Sw N] [] N 135 (A8r .u8) .u8 [.d A4,.d A4] [] (Sq (El:=UInt8) N) mixed func135 rfl (by decide) rfl (by kernel_rfl)
def Pr:=Vg [Kg N,Ll N] [] N 136 (Un .u8) .u8 [.d A4,.d A4] [] (Hh (El:=UInt8) N) mixed func136 rfl (by decide) rfl (by kernel_rfl)
def Up:=K1 [Gi N] [] N 210 .lf (Ak2 .u8) (Tv (El:=UInt8) N) mixed func210 rfl (by decide) rfl rfl rfl (by kernel_rfl)
def Ma:=K1 [Up N] [] N 180 .lf (Ak3 .u8) (Tw (El:=UInt8) N) mixed func180 rfl (by decide) rfl rfl rfl (by kernel_rfl)
def Ox:=K1 [Ma N] [] N 179 .lf (Ss .u8) (F9 (El:=UInt8) N) mixed func179 rfl (by decide) rfl rfl rfl (by kernel_rfl)
def Qt:=Vg [Ox N,Ma N] [] N 137 (Zf .u8) .u8 [.d A4,.d A4] [.d A4,.d A4] (Mg (El:=UInt8) N) mixed func137 rfl (by decide) rfl (by kernel_rfl)
def Qb:=Vg [] [] N 138 (X3 .u8) .u8 [.d A4,.d A4] [] (Ic (El:=UInt8) N) mixed func138 rfl (by decide) rfl (by kernel_rfl)
def Lq:=Vg [Gi N] [] N 139 (Lp .u8) .u8 [.d A4,.d A4] [.d .bool] (E8 (El:=UInt8) N) mixed func139 rfl (by decide) rfl (by kernel_rfl)
def Oy:=Vg [Gi N] [] N 141 (Su .u8) .u8 [.d A4,.d A4,.d A4] [.d A4] (Hz (El:=UInt8) N) mixed func141 rfl (by decide) rfl (by kernel_rfl)
def S4:=Vg [Gi N] [] N 142 (A4a .u8) .u8 [.d A4,.d A4,.d A4] [.d A4,.d .bool] (Kw (El:=UInt8) N) mixed func142 rfl (by decide) rfl (by kernel_rfl)
def C6:Ix prog:=Bai .u8 (I:=Bm0) [Pq N,Sx N,Pr N,Qt N,Qb N,Lq N,Gi N,Oy N,S4 N] N 102 mixed func102 rfl (by decide) rfl (fun G hG=>by kernel_rfl) (by kernel_rfl)
def Ig:FnO .u8 [] []:=Ajx (El:=UInt8) N
def X4:Arm prog [Es N,C6 N] [] N f66 .lf .u8 [] []=(Ig N):=by kernel_rfl
def Vk:Ant prog [Es N,C6 N] [] N f66 .lf .u8 [] []=(Zg (El:=UInt8) N):=by kernel_rfl
def Oz:=Afh [Fq N] [] N 182 (Ul .str) Um .str [.d A4,.d A4] [] (J5 (El:=(A6 UInt8)) N) (J6 (El:=(A6 UInt8)) N) mixed func182 rfl (by decide) rfl (by kernel_rfl) (by kernel_rfl)
def S5:=Vg [Fq N] [] N 211 (A8q .str) .str [.d A4,.d A4,.d A4] [] (Q9 (El:=(A6 UInt8)) N) mixed func211 rfl (by decide) rfl (by kernel_rfl)
def S6:=Vg [S5 N] [] N 183 (A8r .str) .str [.d A4,.d A4] [] (Sq (El:=(A6 UInt8)) N) mixed func183 rfl (by decide) rfl (by kernel_rfl)
def P0:=Vg [Kg N,Ll N] [] N 184 (Un .str) .str [.d A4,.d A4] [] (Hh (El:=(A6 UInt8)) N) mixed func184 rfl (by decide) rfl (by kernel_rfl)
def Tz:=K1 [Fq N] [] N 222 .lf (Ak2 .str) (Tv (El:=(A6 UInt8)) N) mixed func222 rfl (by decide) rfl rfl rfl (by kernel_rfl)
def Ky:=K1 [Tz N] [] N 213 .lf (Ak3 .str) (Tw (El:=(A6 UInt8)) N) mixed func213 rfl (by decide) rfl rfl rfl (by kernel_rfl)
def Oj:=K1 [Ky N] [] N 212 .lf (Ss .str) (F9 (El:=(A6 UInt8)) N) mixed func212 rfl (by decide) rfl rfl rfl (by kernel_rfl)
def Qc:=Vg [Oj N,Ky N] [] N 185 (Zf .str) .str [.d A4,.d A4] [.d A4,.d A4] (Mg (El:=(A6 UInt8)) N) mixed func185 rfl (by decide) rfl (by kernel_rfl)
def Ps:=Vg [] [] N 186 (X3 .str) .str [.d A4,.d A4] [] (Ic (El:=(A6 UInt8)) N) mixed func186 rfl (by decide) rfl (by kernel_rfl)
def Kq:=Vg [Fq N] [] N 187 (Lp .str) .str [.d A4,.d A4] [.d .bool] (E8 (El:=(A6 UInt8)) N) mixed func187 rfl (by decide) rfl (by kernel_rfl)
def Ol:=Vg [Fq N] [] N 189 (Su .str) .str [.d A4,.d A4,.d A4] [.d A4] (Hz (El:=(A6 UInt8)) N) mixed func189 rfl (by decide) rfl (by kernel_rfl)
def Rn:=Vg [Fq N] [] N 190 (A4a .str) .str [.d A4,.d A4,.d A4] [.d A4,.d .bool] (Kw (El:=(A6 UInt8)) N) mixed func190 rfl (by decide) rfl (by kernel_rfl)
def Sy:Ix prog:=Bai .str (I:=Bm1) [Oz N,S6 N,P0 N,Qc N,Ps N,Kq N,Fq N,Ol N,Rn N] N 143 mixed func143 rfl (by decide) rfl (fun G hG=>by kernel_rfl) (by kernel_rfl)
def Eu:FnO .str [] []:=Ajx (El:=Bvi) N
def Uq:=Afh [Es N,Sy N] [] N 107 .lf .lf .str [] [] (Eu N) (Zg (El:=(A6 UInt8)) N) mixed func107 rfl (by decide) rfl (by kernel_rfl) (by kernel_rfl)
open Go.Sort
namespace B
def Dk(x y:UInt8):Bool:=decide (x<y)
def srt(l:A6 UInt8):A6 UInt8:=l.mergeSort (fun x y=>!Dk y x)
theorem Vj(l:A6 UInt8)(hl:l.length≤1000000000000)(hN:1000000000000<N):Ig N l l.length=some (srt l,()):=Xu.Vj N l hl hN
end B
namespace S
def srt(l:A6 (A6 UInt8)):A6 (A6 UInt8):=l.mergeSort (fun x y=>!Op.bytesLess y x)
theorem Vj(l:A6 (A6 UInt8))(hl:l.length≤1000000000000)(hN:1000000000000<N):Eu N l l.length=some (srt l,()):=Xu.Vj N l hl hN
end S
namespace U
def srt(l:A6 Int):A6 Int:=l.mergeSort (fun x y=>!decide (y<x))
theorem Vj(l:A6 Int)(hl:l.length≤1000000000000)(hN:1000000000000<N):Et N l l.length=some (srt l,()):=Xu.Vj N l hl hN
end U
end Go.Proofs.Xu
namespace Go.Proofs.Pc
abbrev D8:Type:=Int×Int
def Dy(r:D8):Bool:=decide (1≤r.1)&&decide (r.1≤r.2)&&decide (r.2≤281474976710655)
def inR(r:D8)(n:Int):Bool:=Dy r&&decide (r.1≤n)&&decide (n≤r.2)
def Em(l:A6 D8)(n:Int):Bool:=l.any fun r=>inR r n
variable{r:D8}{n d lo hi:Int}{l a out b:A6 D8}{f:Int→Bool}{P:A6 Int}
def Cl:Dy r=true↔1≤r.1∧r.1≤r.2∧r.2≤281474976710655:=by simp[Dy,Bv0]
def K5:inR r n=true↔Dy r=true∧r.1≤n∧n≤r.2:=by simp[inR,Bv0]
def Fs:Em l n=true↔∃r∈l,Dy r=true∧r.1≤n∧n≤r.2:=by simp[Em,K5]
def Dj(a b:A6 D8)(n:Int):Em (a++b) n=(Em a n||Em b n):=by simp[Em]
def Vm(n:Int):Em [] n=false:=rfl
def Ro(r:D8)(a:A6 D8)(n:Int):Em (r::a) n=(inR r n||Em a n):=rfl
def B5w(h:Em l n=true):1≤n∧n≤281474976710655:=by obtain⟨r,_,hm,h1,h2⟩:=Fs.1 h;rw[Cl]at hm;omega
structure Ee(out:List D8):Prop where
 may:∀r∈out,Dy r=true
 apart:out.Pairwise fun a b=>a.2+1<b.1
def Ee.nil:Ee []:=⟨by simp,by simp⟩
def Ee.tail(h:Ee (r::l)):Ee l:=⟨fun x hx=>h.may x (by simp[hx]),(Bod.1 h.apart).2⟩
def Ee.head(h:Ee (r::l)):(1≤r.1∧r.1≤r.2∧r.2≤281474976710655)∧∀n,Em l n=true→r.2+1<n:=by refine⟨Cl.1 (h.may r (by simp)),fun n hn=>?_⟩;obtain⟨q,hq,_,h1,_⟩:=Fs.1 hn;have:=(Bod.1 h.apart).1 q hq;omega
def Ee.least(h:Ee (r::l))(hn:Em (r::l) n=true):r.1≤n:=by
 obtain⟨h1,h2⟩:=h.head;rw[Ro,Bpc]at hn;rcases hn with hn|hn
 ·exact(K5.1 hn).2.1
 ·have:=h2 n hn;omega
def Ee.A8s(h:Ee (r::l))(h1:r.1≤n)(h2:n≤r.2):Em (r::l) n=true:=by rw[Ro,Bpc];exact .inl (K5.2 ⟨h.may r (by simp),h1,h2⟩)
def Ee.gap(h:Ee (r::l)):Em (r::l) (r.2+1)=false:=by
 cases hc:Em (r::l) (r.2+1) with
 |false=>rfl
 |true =>
  rw[Ro,Bpc]at hc;rcases hc with hc|hc
  ·have:=(K5.1 hc).2.2;omega
  ·have:=h.head.2 _ hc;omega
theorem Ee.ext:∀ {a b:A6 D8},Ee a→Ee b→(∀n,Em a n=Em b n)→a=b
 |[],[],_,_,_=>rfl
 |[],r::b,_,hb,h=>by
  have:=hb.A8s (Btr _) hb.head.1.2.1;rw[← h,Vm]at this;cases this
 |r::a,[],ha,_,h=>by
  have:=ha.A8s (Btr _) ha.head.1.2.1;rw[h,Vm]at this;cases this
 |r::a,q::b,ha,hb,h=>by
  have e1:r.1=q.1:=by have x1:=ha.least (by rw[h];exact hb.A8s (Btr _) hb.head.1.2.1);have x2:=hb.least (by rw[← h];exact ha.A8s (Btr _) ha.head.1.2.1);omega
  have e2:r.2=q.2:=by
   rcases Int.lt_trichotomy r.2 q.2 with By|heq|hgt
   ·have x1:=ha.gap;have hh:=ha.head.1;rw[h,hb.A8s (by omega) (by omega)]at x1;cases x1
   ·exact heq
   ·have x1:=hb.gap;have hh:=hb.head.1;rw[← h,ha.A8s (by omega) (by omega)]at x1;cases x1
  have e:r=q:=Prod.ext e1 e2;subst e;congr 1;refine Ee.ext ha.tail hb.tail fun n=>?_
  have hn:=h n;rw[Ro,Ro]at hn;cases hr:inR r n with
  |false=>simpa[hr]using hn
  |true =>
   have h1:Em a n=false:=by
    cases hc:Em a n with
    |false=>rfl
    |true=>have:=ha.head.2 n hc;have:=(K5.1 hr).2.2;omega
   have h2:Em b n=false:=by
    cases hc:Em b n with
    |false=>rfl
    |true=>have:=hb.head.2 n hc;have:=(K5.1 hr).2.2;omega
   rw[h1,h2]
theorem A0m{α:Type}[BEq α][LawfulBEq α]:∀ {a l:A6 α},a.Nodup→(∀x∈a,x∈l)→a.length≤l.length
 |[],l,_,_=>by simp
 |x::a,l,hn,hs=>by
  rw[Boi]at hn;have hx:x∈l:=hs x (by simp);have ih:=A0m (a:=a) (l:=l.erase x) hn.2 fun y hy=>(Btg (by rintro rfl;exact hn.1 hy)).2 (hs y (by simp[hy]))
  rw[Bsz hx]at ih;have:=Bs8 hx;simp only[Bnx];omega
def Ee.short(ha:Ee a)(h:∀n,Em a n=Em l n):a.length≤l.length:=by
 have nd:(a.map (·.1)).Nodup:=by
  have hap:=ha.apart;have hmy:=ha.may;clear h ha;induction a with
  |nil=>simp
  |cons r a ih =>rw[Bod]at hap;rw[Bnh,Boi];refine⟨fun hm=>?_,ih hap.2 fun x hx=>hmy x (by simp[hx])⟩;obtain⟨q,hq,he⟩:=Bnp.1 hm;have h1:=hap.1 q hq;have h2:=Cl.1 (hmy r (by simp));omega
 have sub:∀x∈a.map (·.1),x∈l.map (·.1):=by
  intro x hx;obtain⟨r,hr,rfl⟩:=Bnp.1 hx;have hm:=Cl.1 (ha.may r hr);have hc:Em a r.1=true:=Fs.2 ⟨r,hr,ha.may r hr,by omega,by omega⟩;rw[h]at hc;obtain⟨q,hq,hqm,q1,q2⟩:=Fs.1 hc;have Bn2:=Cl.1 hqm;refine Bnp.2 ⟨q,hq,?_⟩;rcases Int.lt_or_le q.1 r.1 with By|hge
  ·exfalso;have hc2:Em a (r.1-1)=true:=by rw[h];exact Fs.2 ⟨q,hq,hqm,by omega,by omega⟩
   obtain⟨p,hp,hpm,p1,p2⟩:=Fs.1 hc2;have key:∀ {l:A6 D8},l.Pairwise (fun a b:D8=>a.2+1<b.1)→∀x∈l,∀y∈l,x=y∨x.2+1<y.1∨y.2+1<x.1:=by
    intro l hl;induction l with
    |nil=>intro x hx;simp at hx
    |cons z l ih =>
     rw[Bod]at hl;intro x hx y hy;rcases Bnd.1 hx with ex|hx'<;>rcases Bnd.1 hy with ey|hy'
     ·exact .inl (ex.trans ey.symm)
     ·subst ex;exact .inr (.inl (hl.1 y hy'))
     ·subst ey;exact .inr (.inr (hl.1 x hx'))
     ·exact ih hl.2 x hx' y hy'
   rcases key ha.apart p hp r hr with rfl|h1|h1
   ·omega
   ·omega
   ·have:=Cl.1 hpm;omega
  ·omega
 have:(a.map (·.1)).length≤(l.map (·.1)).length:=A0m nd sub;simpa using this
def G6(out:A6 D8)(x:D8):A6 D8 :=
 match out.getLast? with
 |none=>[x]
 |some e=>if x.1≤e.2+1 then out.set (out.length-1) (e.1,if x.2>e.2 then x.2 else e.2)else out++[x]
def A63(x:D8):G6 [] x=[x]:=rfl
def Sz(o:A6 D8)(e x:D8):G6 (o++[e]) x=if x.1≤e.2+1 then o++[(e.1,if x.2>e.2 then x.2 else e.2)]else (o++[e])++[x]:=by
 simp only[G6,Bsk,Bs5,Brh];split
 ·simp
 ·rfl
def Ih{α:Type}(l:A6 α):l=[]∨∃o e,l=o++[e]:=by
 rcases Buu l with h|⟨o,e,h⟩
 ·exact .inl h
 ·exact .inr ⟨o,e,by simpa using h⟩
def A4b{x:D8}(h:Ee out)(hx:Dy x=true)(hle:∀r∈out,r.1≤x.1) :
  Ee (G6 out x)∧(∀n,Em (G6 out x) n=(Em out n||inR x n))∧(∀r∈G6 out x,r.1≤x.1):=by
 rcases Ih out with rfl|⟨o,e,rfl⟩
 ·rw[A63];refine⟨⟨by simpa using hx,by simp⟩,fun n=>by simp[Em],by simp⟩
 ·have he:=h.may e (by simp);have hee:=hle e (by simp);rw[Cl]at he hx;have hap:=h.apart;rw[Bq4]at hap;obtain⟨p1,_,p3⟩:=hap;rw[Sz];split
  ·rename_i hm;refine⟨⟨?_,?_⟩,?_,?_⟩
   ·intro r hr;rcases Bnk.1 hr with hr|hr
    ·exact h.may r (by simp[hr])
    ·simp at hr;subst hr;rw[Cl];simp only;split<;>omega
   ·rw[Bq4];refine⟨p1,by simp,?_⟩;intro a ha b hb;simp at hb;subst hb;exact p3 a ha e (by simp)
   ·intro n;rw[Dj,Dj];have:Em [(e.1,if x.2>e.2 then x.2 else e.2)] n=(Em [e] n||inR x n):=by rw[Box];simp only[Em,Brc,Bs3,Brs,Bpc,K5,Cl];split<;>constructor<;>intro hh<;>omega
    rw[this,Btz]
   ·intro r hr;rcases Bnk.1 hr with hr|hr
    ·exact hle r (by simp[hr])
    ·simp at hr;subst hr;exact hee
  ·rename_i hm;refine⟨⟨?_,?_⟩,?_,?_⟩
   ·intro r hr;rcases Bnk.1 hr with hr|hr
    ·exact h.may r hr
    ·simp at hr;subst hr;rw[Cl];exact hx
   ·rw[Bq4];refine⟨h.apart,by simp,?_⟩;intro a ha b hb;simp at hb;subst hb;rcases Bnk.1 ha with ha|ha
    ·have:=p3 a ha e (by simp);omega
    ·simp at ha;subst ha;omega
   ·intro n;rw[Dj];simp[Em]
   ·intro r hr;rcases Bnk.1 hr with hr|hr
    ·exact hle r hr
    ·simp at hr;subst hr;omega
theorem T0:∀(s out:A6 D8),Ee out→(∀x∈s,Dy x=true)→s.Pairwise (fun x y=>x.1≤y.1)→(∀r∈out,∀x∈s,r.1≤x.1) →
  Ee (s.foldl G6 out)∧∀n,Em (s.foldl G6 out) n=(Em out n||Em s n)
 |[],out,h,_,_,_=>⟨h,fun n=>by simp[Vm]⟩
 |x::s,out,h,hs,hp,hle=>by
  obtain⟨h1,h2,h3⟩:=A4b h (hs x (by simp)) fun r hr=>hle r hr x (by simp)
  rw[Bod]at hp;obtain⟨i1,i2⟩:=T0 s (G6 out x) h1 (fun y hy=>hs y (by simp[hy])) hp.2 (fun r hr y hy=>by
   have:=h3 r hr;have:=hp.1 y hy;omega)
  refine⟨i1,fun n=>?_⟩;rw[Bp1,i2 n,h2 n,Ro,Btz]
def Ak4(h:a.Perm b)(n:Int):Em a n=Em b n:=by
 rw[Box,Fs,Fs];constructor<;>rintro ⟨r,hr,hh⟩
 ·exact⟨r,h.mem_iff.1 hr,hh⟩
 ·exact⟨r,h.mem_iff.2 hr,hh⟩
def A8t(l:A6 D8)(n:Int):Em (l.filter Dy) n=Em l n:=by
 rw[Box,Fs,Fs];constructor
 ·rintro ⟨r,hr,hh⟩;exact⟨r,(Bo9.1 hr).1,hh⟩
 ·rintro ⟨r,hr,hh⟩;exact⟨r,Bo9.2 ⟨hr,hh.1⟩,hh⟩
def A21(out:A6 D8)(x:D8):(G6 out x).length≤out.length+1:=by
 rcases Ih out with rfl|⟨o,e,rfl⟩
 ·simp[G6]
 ·rw[Sz];split<;>simp
theorem U0:∀(s out:A6 D8),(s.foldl G6 out).length≤out.length+s.length
 |[],out=>by simp
 |x::s,out=>by
  have:=U0 s (G6 out x);have:=A21 out x;simp only[Bp1,Bnx];omega
def P1(l:A6 D8):A6 D8:=((l.filter Dy).mergeSort fun x y=>decide (x.1≤y.1)).foldl G6 []
def Ak5(l:A6 D8):Ee (P1 l)∧∀n,Em (P1 l) n=Em l n:=by
 have p1:=Brg (l.filter Dy) fun x y=>decide (x.1≤y.1)
 have p2:=Brf (le:=fun x y:D8=>decide (x.1≤y.1)) (by intro a b c h1 h2;simp at *;omega) (by intro a b;simp;omega) (l.filter Dy);obtain⟨h1,h2⟩:=T0 _ [] .nil (fun x hx=>(Bo9.1 (p1.mem_iff.1 hx)).2) (p2.imp fun {x y} h=>by simpa using h) (by simp);refine⟨h1,fun n=>?_⟩;unfold P1;rw[h2 n,Vm,Bs6,Ak4 p1,A8t]
def X5(l:A6 D8):Ee (P1 l):=(Ak5 l).1
def Rp(l:A6 D8)(n:Int):Em (P1 l) n=Em l n:=(Ak5 l).2 n
def U1(l:A6 D8):(P1 l).length≤l.length:=(X5 l).short (Rp l)
def Asg{r:A6 D8}(h:Ee r)(hc:∀n,Em r n=Em l n):r=P1 l:=h.ext (X5 l) fun n=>by rw[hc,Rp]
def Awh(h:∀n,Em a n=Em b n):P1 a=P1 b:=(X5 a).ext (X5 b) fun n=>by rw[Rp,Rp,h]
def Bdo(h:Ee l):P1 l=l:=(Asg h fun _=>rfl).symm
def Abt:P1 []=[]:=Bdo .nil
def Awi(a b:A6 D8):P1 (P1 a++b)=P1 (a++b):=Awh fun n=>by rw[Dj,Dj,Rp]
def B5x(a b:A6 D8):P1 (a++P1 b)=P1 (a++b):=Awh fun n=>by rw[Dj,Dj,Rp]
abbrev Part:Type:=Int×A6 D8
def tl(c:A6 Part)(dev:Int):A6 D8:=(c.filter fun p=>p.1==dev).flatMap (·.2)
def A6t(c:A6 Part)(d n:Int):Bool:=decide (0<d)&&Em (tl c d) n
def A22(p:Part)(c:A6 Part)(d:Int):tl (p::c) d=if p.1=d then p.2++tl c d else tl c d:=by unfold tl;by_cases h:p.1=d<;>simp[h]
def B5y(a b:A6 Part)(d:Int):tl (a++b) d=tl a d++tl b d:=by simp[tl]
variable{c:A6 Part}{p:Part}
def A64(h:∀p∈c,p.1≠d):tl c d=[]:=by unfold tl;rw[List.filter_eq_nil_iff.2 (by simpa using h)];rfl
structure Vn(c:List Part):Prop where
 asc:c.Pairwise fun a b=>a.1<b.1
 pos:∀p∈c,0<p.1
 ne:∀p∈c,p.2≠[]
 ch:∀p∈c,Ee p.2
def Vn.tail(h:Vn (p::c)):Vn c :=
 ⟨(Bod.1 h.asc).2,fun q hq=>h.pos q (by simp[hq]),fun q hq=>h.ne q (by simp[hq]),fun q hq=>h.ch q (by simp[hq])⟩
def Vn.Ash(h:Vn (p::c)):tl (p::c) p.1=p.2:=by rw[A22,Bo3 rfl,A64 fun q hq=>by have:=(Bod.1 h.asc).1 q hq;omega,Bom]
def Vn.Baj(h:Vn (p::c))(hd:d≤p.1):tl c d=[] :=
 A64 fun q hq=>by have:=(Bod.1 h.asc).1 q hq;omega
def Vn.Bak(h:Vn c)(hp:p∈c):tl c p.1=p.2:=by
 induction c with
 |nil=>simp at hp
 |cons q c ih =>
  rcases Bnd.1 hp with e|Vx
  ·subst e;exact h.Ash
  ·have:=(Bod.1 h.asc).1 p Vx;rw[A22,Bnv (by omega),ih h.tail Vx]
def Bal(h:Ee l)(hn:l≠[]):∃n,Em l n=true:=by
 cases l with
 |nil=>exact absurd rfl hn
 |cons r l=>exact⟨r.1,h.A8s (Btr _) h.head.1.2.1⟩
def Vn.has(h:Vn c)(hp:p∈c):∃n,A6t c p.1 n=true:=by obtain⟨n,hn⟩:=Bal (h.ch p hp) (h.ne p hp);exact⟨n,by simp[A6t,h.Bak hp,hn,h.pos p hp]⟩
def Vn.mem_of(h:A6t c d n=true):∃p∈c,p.1=d:=by
 refine Bu9 fun hh=>?_
 have:tl c d=[]:=A64 fun p hp he=>hh ⟨p,hp,he⟩
 simp[A6t,this,Em]at h
theorem Vn.ext:∀ {a b:A6 Part},Vn a→Vn b→(∀d n,A6t a d n=A6t b d n)→a=b
 |[],[],_,_,_=>rfl
 |[],q::b,_,hb,h=>by
  obtain⟨n,hn⟩:=hb.has (p:=q) (by simp);rw[← h]at hn;obtain⟨p,hp,_⟩:=Vn.mem_of hn;simp at hp
 |p::a,[],ha,_,h=>by
  obtain⟨n,hn⟩:=ha.has (p:=p) (by simp);rw[h]at hn;obtain⟨q,hq,_⟩:=Vn.mem_of hn;simp at hq
 |p::a,q::b,ha,hb,h=>by
  have e1:p.1=q.1:=by
   obtain⟨n,hn⟩:=ha.has (p:=p) (by simp);rw[h]at hn;obtain⟨x,hx,hx1⟩:=Vn.mem_of hn;obtain⟨m,hm⟩:=hb.has (p:=q) (by simp);rw[← h]at hm;obtain⟨y,hy,hy1⟩:=Vn.mem_of hm;have l1:q.1≤p.1:=by
    rcases Bnd.1 hx with e|hx'
    ·subst e;omega
    ·have:=(Bod.1 hb.asc).1 x hx';omega
   have l2:p.1≤q.1:=by
    rcases Bnd.1 hy with e|hy'
    ·subst e;omega
    ·have:=(Bod.1 ha.asc).1 y hy';omega
   omega
  have e2:p.2=q.2:=by
   refine(ha.ch p (by simp)).ext (hb.ch q (by simp)) fun n=>?_
   have hn:=h p.1 n;have h2:=hb.Ash;rw[← e1]at h2;have hp:=ha.pos p (by simp);simpa[A6t,ha.Ash,h2,hp]using hn
  have e:p=q:=Prod.ext e1 e2;subst e;congr 1;refine Vn.ext ha.tail hb.tail fun d n=>?_
  have hn:=h d n;rcases Int.lt_or_le p.1 d with By|hle
  ·simp only[A6t,A22,Bnv (show ¬p.1=d by omega)]at hn;simpa[A6t]using hn
  ·simp only[A6t,ha.Baj hle,hb.Baj hle]
def Gc(n:Int):A6 Int→A6 Int
 |[]=>[n]
 |x::r=>if n<x then n::x::r else if x=n then x::r else x::Gc n r
theorem Pt{n y:Int}:∀ {l:A6 Int},y∈Gc n l↔y=n∨y∈l
 |[]=>by simp[Gc]
 |x::r=>by
  unfold Gc;split
  ·simp
  ·split
   ·rename_i h;subst h;simp
   ·rw[Bnd,Pt,Bnd];constructor<;>intro hh<;>rcases hh with hh|hh|hh<;>simp[hh]
theorem Rq(n:Int):∀l:A6 Int,(Gc n l).length≤l.length+1
 |[]=>by simp[Gc]
 |x::r=>by
  unfold Gc;have:=Rq n r;split
  ·simp
  ·split<;>simp;omega
theorem U2(n:Int):∀ {l:A6 Int},l.Pairwise (· < ·)→(Gc n l).Pairwise (· < ·)
 |[],_=>by simp[Gc]
 |x::r,h=>by
  unfold Gc;have h':=Bod.1 h;split
  ·rename_i By;rw[Bod];refine⟨fun y hy=>?_,h⟩;rcases Bnd.1 hy with e|hy
   ·omega
   ·have:=h'.1 y hy;omega
  ·split
   ·exact h
   ·rename_i h1 h2;rw[Bod];refine⟨fun y hy=>?_,U2 n h'.2⟩;rcases Pt.1 hy with e|hy
    ·omega
    ·exact h'.1 y hy
def A7i(l:A6 Int):A6 Int:=l.foldl (fun q n=>Gc n q) []
theorem Yp:∀(l q:A6 Int),q.Pairwise (· < ·)→(l.foldl (fun q n=>Gc n q) q).Pairwise (· < ·)∧(∀x,x∈l.foldl (fun q n=>Gc n q) q↔x∈q∨x∈l)∧(l.foldl (fun q n=>Gc n q) q).length≤q.length+l.length
 |[],q,h=>⟨h,by simp,by simp⟩
 |n::l,q,h=>by
  obtain⟨h1,h2,h3⟩:=Yp l (Gc n q) (U2 n h);refine⟨h1,fun x=>?_,?_⟩
  ·rw[Bp1,h2,Pt,Bnd,or_assoc];constructor<;>intro hh<;>rcases hh with hh|hh|hh<;>simp[hh]
  ·have:=Rq n q;simp only[Bp1,Bnx];omega
def A65(l:A6 Int):(A7i l).Pairwise (· < ·):=(Yp l [] .nil).1
def Ae5(l:A6 Int)(x:Int):x∈A7i l↔x∈l:=by have:=(Yp l [] .nil).2.1 x;simpa[A7i]using this
def Aoe(l:A6 Int):(A7i l).length≤l.length:=by have:=(Yp l [] .nil).2.2;simpa[A7i]using this
def B5z{l:A6 Int}(h:l.Pairwise (· < ·)):l.Nodup:=h.imp fun {a b} h=>by omega
def partsOf(f:Int→A6 D8)(ds:A6 Int):A6 Part:=(ds.map fun d=>(d,f d)).filter fun p=>!p.2.isEmpty
def Awj{f:Int→A6 D8}{ds:A6 Int}(h:ds.Pairwise (· < ·))(hp:∀d∈ds,0<d)(hc:∀d∈ds,Ee (f d)):Vn (partsOf f ds):=by
 refine⟨?_,?_,?_,?_⟩
 ·refine Br9 _ ?_;rw[Bra];exact h
 ·intro p Vx;obtain⟨h1,_⟩:=Bo9.1 Vx;obtain⟨d,hd,rfl⟩:=Bnp.1 h1;exact hp d hd
 ·intro p Vx;obtain⟨_,h2⟩:=Bo9.1 Vx;intro he;rw[he]at h2;simp at h2
 ·intro p Vx;obtain⟨h1,_⟩:=Bo9.1 Vx;obtain⟨d,hd,rfl⟩:=Bnp.1 h1;exact hc d hd
theorem Ak6{f:Int→A6 D8}:∀ {ds:A6 Int},ds.Pairwise (· < ·)→∀d,tl (partsOf f ds) d=if d∈ds then f d else []
 |[],_,d=>by simp[partsOf,tl]
 |x::ds,h,d=>by
  have h':=Bod.1 h;have ih:=Ak6 (f:=f) h'.2 d;have e:partsOf f (x::ds)=(if (f x).isEmpty then partsOf f ds else (x,f x)::partsOf f ds):=by unfold partsOf;rw[Bnh,Bq0];cases(f x).isEmpty<;>simp
  rw[e];by_cases hx:x=d
  ·subst hx;have hn:x∉ds:=fun hm=>by have:=h'.1 x hm;omega
   rw[Bnv hn]at ih;cases hf:f x with
   |nil=>simp[ih]
   |cons a b=>simp[A22,ih]
  ·cases hf:f x with
   |nil=>simp only[List.isEmpty_nil,Bpz,ih,Bnd];simp[show ¬d=x from fun e=>hx e.symm]
   |cons a b=>simp only[Brt,Bpi,Bon,A22,Bnv hx,ih,Bnd];simp[show ¬d=x from fun e=>hx e.symm]
def Awk(c:A6 Part):A6 Part:=partsOf (fun d=>P1 (tl c d)) (A7i ((c.map (·.1)).filter fun d=>decide (0<d)))
def Bam(c:A6 Part):Vn (Awk c):=by
 refine Awj (A65 _) (fun d hd=>?_) fun d _=>X5 _
 have:=(Ae5 _ d).1 hd;simpa using(Bo9.1 this).2
def Bdp(c:A6 Part)(hd:0<d):tl (Awk c) d=P1 (tl c d):=by
 unfold Awk;rw[Ak6 (A65 _)];split
 ·rfl
 ·rename_i h;rw[Ae5,Bo9]at h;rw[A64 (c:=c) fun p hp he=>h ⟨Bnp.2 ⟨p,hp,he⟩,by simpa using hd⟩,Abt]
def Ban(c:A6 Part)(d n:Int):A6t (Awk c) d n=A6t c d n:=by
 unfold A6t;by_cases hd:0<d
 ·rw[Bdp c hd,Rp]
 ·simp[hd]
def Bdq{r:A6 Part}(h:Vn r)(hc:∀d n,A6t r d n=A6t c d n):r=Awk c:=h.ext (Bam c) fun d n=>by rw[hc,Ban]
def W8(c:A6 Part):Nat:=(c.flatMap (·.2)).length
def A0n(p:Part)(c:A6 Part):W8 (p::c)=p.2.length+W8 c:=by simp[W8]
def Ak7(a b:A6 Part):W8 (a++b)=W8 a+W8 b:=by simp[W8]
def Aof(c:A6 Part)(d:Int):(tl c d).length≤W8 c:=by
 induction c with
 |nil=>simp[tl,W8]
 |cons p c ih=>rw[A22,A0n];split<;>(try rw[Bp4])<;>omega
theorem Bao:∀(c:A6 Part) {ds:A6 Int},ds.Nodup→(ds.map fun d=>(tl c d).length).sum≤W8 c
 |[],ds,_=>by
  have:∀ds:A6 Int,(ds.map fun d=>(tl [] d).length).sum=0:=by
   intro ds;induction ds with
   |nil=>rfl
   |cons x ds ih=>rw[Bnh,List.sum_cons,ih];rfl
  rw[this];exact Bq9 _
 |p::c,ds,h=>by
  have ih:=Bao c h;rw[A0n];have key:∀ {es:A6 Int},es.Nodup→(es.map fun d=>(tl (p::c) d).length).sum≤(if p.1∈es then p.2.length else 0)+(es.map fun d=>(tl c d).length).sum:=by
   intro es he;induction es with
   |nil=>simp
   |cons x es ihe =>
    rw[Boi]at he;have ih2:=ihe he.2;simp only[Bnh,List.sum_cons,A22,Bnd]at ih2⊢;by_cases hx:p.1=x
    ·subst hx;rw[Bnv he.1]at ih2;simp;omega
    ·simp only[hx,Bue,Bpi];omega
  have:=key h;split at this<;>omega
theorem Afu(f:Int→A6 D8):∀ds:A6 Int,W8 (partsOf f ds)=(ds.map fun d=>(f d).length).sum
 |[]=>rfl
 |x::ds=>by
  have ih:=Afu f ds;unfold partsOf at ih⊢;rw[Bnh,Bq0];cases hf:f x with
  |nil=>simpa[hf]using ih
  |cons a b=>simp[A0n,ih,hf]
theorem Bap{f g:Int→Nat}(h:∀d,f d≤g d):∀ds:A6 Int,(ds.map f).sum≤(ds.map g).sum
 |[]=>by simp
 |x::ds=>by have:=Bap h ds;have:=h x;simp;omega
def Afv(f:Int→A6 D8)(ds:A6 Int):(partsOf f ds).length≤ds.length:=by unfold partsOf;have:=Bov (fun p:Part=>!p.2.isEmpty) (ds.map fun d=>(d,f d));simpa using this
def get?{α:Type}{l:A6 α}{i:Nat}(h:i<l.length):l[i]? = some l[i]:=Bng h
def Ua(l:A6 D8):A6 Int:=l.foldl (fun q r=>bif Dy r then Gc (r.2+1) (Gc r.1 q)else q) []
theorem Kz:∀(l:A6 D8) (q:A6 Int),q.Pairwise (· < ·) →
  (l.foldl (fun q r=>bif Dy r then Gc (r.2+1) (Gc r.1 q)else q) q).Pairwise (· < ·) ∧
  (∀p,p∈l.foldl (fun q r=>bif Dy r then Gc (r.2+1) (Gc r.1 q)else q) q↔p∈q∨∃r∈l,Dy r=true∧(p=r.1∨p=r.2+1)) ∧
  (l.foldl (fun q r=>bif Dy r then Gc (r.2+1) (Gc r.1 q)else q) q).length≤q.length+2*l.length
 |[],q,h=>⟨h,by simp,by simp⟩
 |r::l,q,h=>by
  simp only[Bp1];cases hm:Dy r with
  |false =>obtain⟨i1,i2,i3⟩:=Kz l q h;simp only[Bnc];refine⟨i1,fun p=>?_,by simp only[Bnx];omega⟩;rw[i2 p];simp[hm]
  |true =>
   obtain⟨i1,i2,i3⟩:=Kz l (Gc (r.2+1) (Gc r.1 q)) (U2 _ (U2 _ h));have h1:=Rq (r.2+1) (Gc r.1 q);have h2:=Rq r.1 q;simp only[Bna];refine⟨i1,fun p=>?_,by simp only[Bnx];omega⟩;rw[i2 p,Pt,Pt];simp only[Bnd,exists_eq_or_imp,hm,Bsy]
   grind
def Om(l:A6 D8):(Ua l).Pairwise (· < ·)∧(∀p,p∈Ua l↔∃r∈l,Dy r=true∧(p=r.1∨p=r.2+1))∧(Ua l).length≤2*l.length:=by obtain⟨h1,h2,h3⟩:=Kz l [] (by simp);exact⟨h1,fun p=>by have:=h2 p;simpa[Ua]using this,by simpa[Ua]using h3⟩
structure Ak8(P:List Int)(f:Int→Bool):Prop where
 asc:P.Pairwise (· < ·)
 seg:∀(k:Nat) (lo hi n:Int),P[k]? = some lo→P[k+1]? = some hi→lo≤n→n<hi→f n=f lo
 low:∀n,f n=true→∃k p q,P[k]? = some p∧P[k+1]? = some q∧p≤n∧n<q
 rng:∀p∈P,1≤p∧p≤281474976710656
def B2i(h:P.Pairwise (· < ·)){p:Int}(hp:p∈P)(hn:p≤n){q:Int}(hq:q∈P)(hn2:n<q):∃(k:Nat) (a b:Int),P[k]? = some a∧P[k+1]? = some b∧a≤n∧n<b:=by
 induction P generalizing p with
 |nil=>simp at hp
 |cons x P ih =>
  have h':=Bod.1 h;have hxn:x≤n:=by
   rcases Bnd.1 hp with e|hm
   ·omega
   ·have:=h'.1 p hm;omega
  cases P with
  |nil=>simp at hq;omega
  |cons y P =>
   by_cases hy:n<y
   ·exact⟨0,x,y,rfl,rfl,hxn,hy⟩
   ·have hq':q∈y::P:=by
     rcases Bnd.1 hq with e|hm
     ·omega
     ·exact hm
    obtain⟨k,a,b,h1,h2,h3,h4⟩:=ih (p:=y) h'.2 (by simp) (by omega) hq';exact⟨k+1,a,b,by simpa using h1,by simpa using h2,h3,h4⟩
variable{k:Nat}
def gap(h:P.Pairwise (· < ·))(h0:P[k]? = some lo)(h1:P[k+1]? = some hi):∀p∈P,p≤lo∨hi≤p:=by
 intro p hp;obtain⟨j,hj⟩:=Bpu.1 hp;obtain⟨l0,rfl⟩:=Bnj.1 h0;obtain⟨l1,rfl⟩:=Bnj.1 h1;obtain⟨lj,rfl⟩:=Bnj.1 hj;have hp:=Bp6.1 h;rcases Bu5 j k with h|h|h
 ·have:=hp j k lj l0 h;omega
 ·subst h;omega
 ·by_cases h2:j=k+1
  ·subst h2;omega
  ·have:=hp (k+1) j l1 lj (by omega);omega
def B60{m:A6 D8}(hs:∀r∈m,r∈l):Ak8 (Ua l) (Em m):=by
 obtain⟨p1,p2,_⟩:=Om l;refine⟨p1,?_,?_,?_⟩
 ·intro k lo hi n h0 h1 ha hb;have hg:=gap p1 h0 h1;rw[Box,Fs,Fs];constructor
  ·rintro ⟨r,hr,hm,h2,h3⟩;have:=hg r.1 ((p2 r.1).2 ⟨r,hs r hr,hm,.inl rfl⟩);exact⟨r,hr,hm,by omega,by omega⟩
  ·rintro ⟨r,hr,hm,h2,h3⟩;have:=hg (r.2+1) ((p2 (r.2+1)).2 ⟨r,hs r hr,hm,.inr rfl⟩);exact⟨r,hr,hm,by omega,by omega⟩
 ·intro n hn;obtain⟨r,hr,hm,h2,h3⟩:=Fs.1 hn;obtain⟨k,a,b,x1,x2,x3,x4⟩:=B2i p1 ((p2 r.1).2 ⟨r,hs r hr,hm,.inl rfl⟩) h2 ((p2 (r.2+1)).2 ⟨r,hs r hr,hm,.inr rfl⟩) (by omega);exact⟨k,a,b,x1,x2,x3,x4⟩
 ·intro p hp;obtain⟨r,hr,hm,h⟩:=(p2 p).1 hp;have:=Cl.1 hm;omega
def opB(how:Int)(x y:Bool):Bool:=if how=1 then x&&y else if how=2 then x && !y else x||y
def X6(out:A6 D8)(lo hi:Int):A6 D8 :=
 match out.getLast? with
 |none=>[(lo,hi-1)]
 |some e=>if e.2+1=lo then out.set (out.length-1) (e.1,hi-1)else out++[(lo,hi-1)]
def A66(o:A6 D8)(e:D8)(lo hi:Int):X6 (o++[e]) lo hi=if e.2+1=lo then o++[(e.1,hi-1)]else (o++[e])++[(lo,hi-1)]:=by
 simp only[X6,Bsk,Bs5,Brh];split
 ·simp
 ·rfl
def A8u(h:Ee out)(hl:∀r∈out,r.2+1≤lo)(h1:1≤lo)(h2:lo<hi)(h3:hi≤281474976710656) :
  Ee (X6 out lo hi)∧(∀r∈X6 out lo hi,r.2+1≤hi)∧(∀n,Em (X6 out lo hi) n=true↔Em out n=true∨(lo≤n∧n<hi))∧(X6 out lo hi).length≤out.length+1:=by
 rcases Ih out with rfl|⟨o,e,rfl⟩
 ·refine⟨⟨?_,by simp[X6]⟩,?_,?_,by simp[X6]⟩
  ·intro r hr;simp[X6]at hr;subst hr;rw[Cl];simp only;omega
  ·intro r hr;simp[X6]at hr;subst hr;simp only;omega
  ·intro n;simp only[X6,List.getLast?_nil,Em,Brc,Bs3,Brs,K5,Cl,Bon,Bue];omega
 ·have he:=Cl.1 (h.may e (by simp));have hel:=hl e (by simp);have hap:=h.apart;rw[Bq4]at hap;obtain⟨p1,_,p3⟩:=hap;rw[A66];split
  ·rename_i heq;refine⟨⟨?_,?_⟩,?_,?_,by simp⟩
   ·intro r hr;rcases Bnk.1 hr with hr|hr
    ·exact h.may r (by simp[hr])
    ·simp at hr;subst hr;rw[Cl];simp only;omega
   ·rw[Bq4];refine⟨p1,by simp,fun a ha b hb=>?_⟩;simp at hb;subst hb;exact p3 a ha e (by simp)
   ·intro r hr;rcases Bnk.1 hr with hr|hr
    ·have:=hl r (by simp[hr]);omega
    ·simp at hr;subst hr;simp only;omega
   ·intro n;rw[Dj,Dj];simp only[Em,Brc,Bs3,Brs,Bpc,K5,Cl];constructor
    ·rintro (h|h)
     ·exact .inl (.inl h)
     ·omega
    ·rintro ((h|h)|h)
     ·exact .inl h
     ·exact .inr (by omega)
     ·exact .inr (by omega)
  ·rename_i hne;refine⟨⟨?_,?_⟩,?_,?_,by simp⟩
   ·intro r hr;rcases Bnk.1 hr with hr|hr
    ·exact h.may r hr
    ·simp at hr;subst hr;rw[Cl];simp only;omega
   ·rw[Bq4];refine⟨h.apart,by simp,fun a ha b hb=>?_⟩;simp at hb;subst hb;simp only;rcases Bnk.1 ha with ha|ha
    ·have:=p3 a ha e (by simp);omega
    ·simp at ha;subst ha;omega
   ·intro r hr;rcases Bnk.1 hr with hr|hr
    ·have:=hl r hr;omega
    ·simp at hr;subst hr;simp only;omega
   ·intro n;rw[Dj];simp only[Em,Brc,Bs3,Brs,Bpc,K5,Cl];constructor
    ·rintro (h|h)
     ·exact .inl h
     ·omega
    ·rintro (h|h)
     ·exact .inl h
     ·exact .inr (by omega)
structure A8v(P:List Int)(f:Int→Bool)(k:Nat)(out:List D8):Prop where
 ch:Ee out
 hi:∀p,P[k]? = some p→∀r∈out,r.2+1≤p
 len:out.length≤k
 Em:∀n,Em out n=true↔f n=true∧∃p,P[k]? = some p∧n<p
def Aog(h:Ak8 P f):A8v P f 0 []:=by
 refine⟨.nil,by simp,by simp,fun n=>?_⟩;rw[Vm];simp only[Bon,false_iff];rintro ⟨h1,p,hp,hn⟩;obtain⟨k,a,b,x1,x2,x3,x4⟩:=h.low n h1;obtain⟨l0,rfl⟩:=Bnj.1 hp;obtain⟨lk,rfl⟩:=Bnj.1 x1;rcases Bpl k with h0|h0
 ·subst h0;omega
 ·have:=Bp6.1 h.asc 0 k l0 lk h0;omega
def B61(h:Ak8 P f)(h0:P[k]? = some lo)(h1:P[k+1]? = some hi):lo<hi∧1≤lo∧hi≤281474976710656:=by have a:=h.rng lo (Boe h0);have b:=h.rng hi (Boe h1);obtain⟨l0,rfl⟩:=Bnj.1 h0;obtain⟨l1,rfl⟩:=Bnj.1 h1;have:=Bp6.1 h.asc k (k+1) l0 l1 (by omega);omega
def B3d(ht:Ak8 P f)(h:A8v P f k out)(h0:P[k]? = some lo)(h1:P[k+1]? = some hi)(hc:f lo=true):A8v P f (k+1) (X6 out lo hi):=by
 obtain⟨e1,e2,e3⟩:=B61 ht h0 h1;obtain⟨s1,s2,s3,s4⟩:=A8u h.ch (h.hi lo h0) e2 e1 e3;refine⟨s1,fun p hp=>?_,by have:=h.len;omega,fun n=>?_⟩
 ·rw[h1]at hp;cases hp;exact s2
 ·rw[s3 n,h.Em n,h0,h1];simp only[Bnf,Bth];constructor
  ·rintro (⟨a1,a2⟩|⟨a1,a2⟩)
   ·exact⟨a1,by omega⟩
   ·exact⟨by rw[ht.seg k lo hi n h0 h1 a1 a2];exact hc,a2⟩
  ·rintro ⟨a1,a2⟩;by_cases h:n<lo
   ·exact .inl ⟨a1,h⟩
   ·exact .inr ⟨by omega,a2⟩
def Awl(ht:Ak8 P f)(h:A8v P f k out)(h0:P[k]? = some lo)(h1:P[k+1]? = some hi)(hc:f lo=false):A8v P f (k+1) out:=by
 obtain⟨e1,e2,e3⟩:=B61 ht h0 h1;refine⟨h.ch,fun p hp r hr=>?_,by have:=h.len;omega,fun n=>?_⟩
 ·rw[h1]at hp;cases hp;have:=h.hi lo h0 r hr;omega
 ·rw[h.Em n,h0,h1];simp only[Bnf,Bth];constructor
  ·rintro ⟨a1,a2⟩;exact⟨a1,by omega⟩
  ·rintro ⟨a1,a2⟩;by_cases h:n<lo
   ·exact⟨a1,h⟩
   ·rw[ht.seg k lo hi n h0 h1 (by omega) a2,hc]at a1;cases a1
def Awm(ht:Ak8 P f)(h:A8v P f k out)(hk:P.length≤k+1)(hk2:k<P.length∨P.length=0)(n:Int):Pc.Em out n=f n:=by
 rw[Box,h.Em n];constructor
 ·exact fun hh=>hh.1
 ·intro hc;refine⟨hc,?_⟩;obtain⟨j,a,b,x1,x2,x3,x4⟩:=ht.low n hc;obtain⟨lj,rfl⟩:=Bnj.1 x2;have I1:k<P.length:=by omega
  refine⟨P[k],get? I1,?_⟩;rcases Bpt (j+1) k with h|h
  ·have:=Bp6.1 ht.asc (j+1) k lj I1 h;omega
  ·have:j+1=k:=by omega
   subst this;omega
end Go.Proofs.Pc
namespace Go.Proofs
open Go.Shelf
def Tryz.Awn:Go.Shelf.Ren:=⟨fun|6=>95|15=>100|14=>121|28=>132|29=>133|20=>157|21=>158|22=>159|23=>160|24=>161|25=>162|26=>163|27=>164|46=>203|47=>174|48=>175|49=>204|50=>205|57=>220|n=>n,fun|22=>50|24=>49|25=>71|3=>3|39=>153|0=>0|53=>180|55=>23|4=>4|46=>172|45=>171|50=>177|5=>5|9=>9|66=>210|70=>214|76=>236|77=>237|n=>n,fun|n=>n⟩
def Tryz.Bdr:Go.Proofs.SlLaysF0.n6 prog Tryz.Awn:={
 mixed:=by kernel_rfl
 f6:=⟨f95.name,by decide,func95.trans (Bo7 some (by kernel_rfl))⟩
 f14:=⟨f121.name,by decide,func121.trans (Bo7 some (by kernel_rfl))⟩
 f15:=func100.trans (Bo7 some (by kernel_rfl))
 f20:=⟨f157.name,by decide,func157.trans (Bo7 some (by kernel_rfl))⟩
 f21:=⟨f158.name,by decide,func158.trans (Bo7 some (by kernel_rfl))⟩
 f22:=⟨f159.name,by decide,func159.trans (Bo7 some (by kernel_rfl))⟩
 f23:=⟨f160.name,by decide,func160.trans (Bo7 some (by kernel_rfl))⟩
 f24:=⟨f161.name,by decide,func161.trans (Bo7 some (by kernel_rfl))⟩
 f25:=⟨f162.name,by decide,func162.trans (Bo7 some (by kernel_rfl))⟩
 f26:=⟨f163.name,by decide,func163.trans (Bo7 some (by kernel_rfl))⟩
 f27:=⟨f164.name,by decide,func164.trans (Bo7 some (by kernel_rfl))⟩
 f28:=func132.trans (Bo7 some (by kernel_rfl))
 f29:=func133.trans (Bo7 some (by kernel_rfl))
 f46:=⟨f203.name,by decide,func203.trans (Bo7 some (by kernel_rfl))⟩
 f47:=func174.trans (Bo7 some (by kernel_rfl))
 f48:=func175.trans (Bo7 some (by kernel_rfl))
 f49:=⟨f204.name,by decide,func204.trans (Bo7 some (by kernel_rfl))⟩
 f50:=⟨f205.name,by decide,func205.trans (Bo7 some (by kernel_rfl))⟩
 f57:=⟨f220.name,by decide,func220.trans (Bo7 some (by kernel_rfl))⟩
 t0:=underlying0
 a0:=isAgg0
 z0:=sizeOf0
 v0:=zeroValue0
 t3:=underlying3
 a3:=isAgg3
 z3:=sizeOf3
 v3:=zeroValue3
 t4:=underlying4
 a4:=isAgg4
 z4:=sizeOf4
 v4:=zeroValue4
 t5:=underlying5
 a5:=isAgg5
 z5:=sizeOf5
 v5:=zeroValue5
 t9:=underlying9
 a9:=isAgg9
 z9:=sizeOf9
 v9:=zeroValue9
 t22:=underlying50
 a22:=isAgg50
 z22:=sizeOf50
 v22:=zeroValue50
 t25:=underlying71
 a25:=isAgg71
 z25:=sizeOf71
 v25:=zeroValue71
 t39:=underlying153
 a39:=isAgg153
 z39:=sizeOf153
 v39:=zeroValue153
 t45:=underlying171
 a45:=isAgg171
 z45:=sizeOf171
 v45:=zeroValue171
 t46:=underlying172
 a46:=isAgg172
 z46:=sizeOf172
 v46:=zeroValue172
 t50:=underlying177
 a50:=isAgg177
 z50:=sizeOf177
 v50:=zeroValue177
 t53:=underlying180
 a53:=isAgg180
 z53:=sizeOf180
 v53:=zeroValue180
 t55:=underlying23
 a55:=isAgg23
 z55:=sizeOf23
 v55:=zeroValue23
 t66:=underlying210
 a66:=isAgg210
 z66:=sizeOf210
 v66:=zeroValue210
 t70:=underlying214
 a70:=isAgg214
 z70:=sizeOf214
 v70:=zeroValue214
 t76:=underlying236
 a76:=isAgg236
 z76:=sizeOf236
 v76:=zeroValue236
 t77:=underlying237
 a77:=isAgg237
 z77:=sizeOf237
 v77:=zeroValue237 }
def Tryz.Awo:Go.Shelf.Ren:=⟨fun|6=>115|15=>100|14=>145|28=>132|29=>133|20=>192|21=>193|22=>194|23=>195|24=>196|25=>197|26=>198|27=>199|46=>216|47=>174|48=>175|49=>217|50=>218|57=>223|n=>n,fun|22=>80|24=>134|25=>166|3=>3|39=>153|0=>0|53=>180|55=>23|4=>4|46=>172|45=>171|50=>177|5=>5|9=>9|66=>210|70=>214|76=>236|77=>237|n=>n,fun|n=>n⟩
def Tryz.Ab6:Go.Proofs.SlLaysF0.n6 prog Tryz.Awo:={
 mixed:=by kernel_rfl
 f6:=⟨f115.name,by decide,func115.trans (Bo7 some (by kernel_rfl))⟩
 f14:=⟨f145.name,by decide,func145.trans (Bo7 some (by kernel_rfl))⟩
 f15:=func100.trans (Bo7 some (by kernel_rfl))
 f20:=⟨f192.name,by decide,func192.trans (Bo7 some (by kernel_rfl))⟩
 f21:=⟨f193.name,by decide,func193.trans (Bo7 some (by kernel_rfl))⟩
 f22:=⟨f194.name,by decide,func194.trans (Bo7 some (by kernel_rfl))⟩
 f23:=⟨f195.name,by decide,func195.trans (Bo7 some (by kernel_rfl))⟩
 f24:=⟨f196.name,by decide,func196.trans (Bo7 some (by kernel_rfl))⟩
 f25:=⟨f197.name,by decide,func197.trans (Bo7 some (by kernel_rfl))⟩
 f26:=⟨f198.name,by decide,func198.trans (Bo7 some (by kernel_rfl))⟩
 f27:=⟨f199.name,by decide,func199.trans (Bo7 some (by kernel_rfl))⟩
 f28:=func132.trans (Bo7 some (by kernel_rfl))
 f29:=func133.trans (Bo7 some (by kernel_rfl))
 f46:=⟨f216.name,by decide,func216.trans (Bo7 some (by kernel_rfl))⟩
 f47:=func174.trans (Bo7 some (by kernel_rfl))
 f48:=func175.trans (Bo7 some (by kernel_rfl))
 f49:=⟨f217.name,by decide,func217.trans (Bo7 some (by kernel_rfl))⟩
 f50:=⟨f218.name,by decide,func218.trans (Bo7 some (by kernel_rfl))⟩
 f57:=⟨f223.name,by decide,func223.trans (Bo7 some (by kernel_rfl))⟩
 t0:=underlying0
 a0:=isAgg0
 z0:=sizeOf0
 v0:=zeroValue0
 t3:=underlying3
 a3:=isAgg3
 z3:=sizeOf3
 v3:=zeroValue3
 t4:=underlying4
 a4:=isAgg4
 z4:=sizeOf4
 v4:=zeroValue4
 t5:=underlying5
 a5:=isAgg5
 z5:=sizeOf5
 v5:=zeroValue5
 t9:=underlying9
 a9:=isAgg9
 z9:=sizeOf9
 v9:=zeroValue9
 t22:=underlying80
 a22:=isAgg80
 z22:=sizeOf80
 v22:=zeroValue80
 t25:=underlying166
 a25:=isAgg166
 z25:=sizeOf166
 v25:=zeroValue166
 t39:=underlying153
 a39:=isAgg153
 z39:=sizeOf153
 v39:=zeroValue153
 t45:=underlying171
 a45:=isAgg171
 z45:=sizeOf171
 v45:=zeroValue171
 t46:=underlying172
 a46:=isAgg172
 z46:=sizeOf172
 v46:=zeroValue172
 t50:=underlying177
 a50:=isAgg177
 z50:=sizeOf177
 v50:=zeroValue177
 t53:=underlying180
 a53:=isAgg180
 z53:=sizeOf180
 v53:=zeroValue180
 t55:=underlying23
 a55:=isAgg23
 z55:=sizeOf23
 v55:=zeroValue23
 t66:=underlying210
 a66:=isAgg210
 z66:=sizeOf210
 v66:=zeroValue210
 t70:=underlying214
 a70:=isAgg214
 z70:=sizeOf214
 v70:=zeroValue214
 t76:=underlying236
 a76:=isAgg236
 z76:=sizeOf236
 v76:=zeroValue236
 t77:=underlying237
 a77:=isAgg237
 z77:=sizeOf237
 v77:=zeroValue237 }
def Tryz.Rr:Go.Shelf.Ren:=⟨fun|14=>117|20=>146|21=>147|22=>148|23=>149|24=>150|25=>151|26=>152|27=>153|46=>200|47=>174|48=>175|49=>201|50=>202|15=>100|57=>219|28=>132|29=>133|n=>n,fun|24=>82|22=>26|3=>3|25=>139|4=>4|0=>0|46=>172|45=>171|50=>177|66=>210|39=>153|55=>23|70=>214|76=>236|77=>237|53=>180|5=>5|9=>9|n=>n,fun|n=>n⟩
def Tryz.Ak9:Go.Proofs.SlLaysF0.n14 prog Tryz.Rr:={
 mixed:=by kernel_rfl
 f14:=⟨f117.name,by decide,func117.trans (Bo7 some (by kernel_rfl))⟩
 f15:=func100.trans (Bo7 some (by kernel_rfl))
 f20:=⟨f146.name,by decide,func146.trans (Bo7 some (by kernel_rfl))⟩
 f21:=⟨f147.name,by decide,func147.trans (Bo7 some (by kernel_rfl))⟩
 f22:=⟨f148.name,by decide,func148.trans (Bo7 some (by kernel_rfl))⟩
 f23:=⟨f149.name,by decide,func149.trans (Bo7 some (by kernel_rfl))⟩
 f24:=⟨f150.name,by decide,func150.trans (Bo7 some (by kernel_rfl))⟩
 f25:=⟨f151.name,by decide,func151.trans (Bo7 some (by kernel_rfl))⟩
 f26:=⟨f152.name,by decide,func152.trans (Bo7 some (by kernel_rfl))⟩
 f27:=⟨f153.name,by decide,func153.trans (Bo7 some (by kernel_rfl))⟩
 f28:=func132.trans (Bo7 some (by kernel_rfl))
 f29:=func133.trans (Bo7 some (by kernel_rfl))
 f46:=⟨f200.name,by decide,func200.trans (Bo7 some (by kernel_rfl))⟩
 f47:=func174.trans (Bo7 some (by kernel_rfl))
 f48:=func175.trans (Bo7 some (by kernel_rfl))
 f49:=⟨f201.name,by decide,func201.trans (Bo7 some (by kernel_rfl))⟩
 f50:=⟨f202.name,by decide,func202.trans (Bo7 some (by kernel_rfl))⟩
 f57:=⟨f219.name,by decide,func219.trans (Bo7 some (by kernel_rfl))⟩
 t0:=underlying0
 a0:=isAgg0
 z0:=sizeOf0
 v0:=zeroValue0
 t3:=underlying3
 a3:=isAgg3
 z3:=sizeOf3
 v3:=zeroValue3
 t4:=underlying4
 a4:=isAgg4
 z4:=sizeOf4
 v4:=zeroValue4
 t5:=underlying5
 a5:=isAgg5
 z5:=sizeOf5
 v5:=zeroValue5
 t9:=underlying9
 a9:=isAgg9
 z9:=sizeOf9
 v9:=zeroValue9
 t22:=underlying26
 a22:=isAgg26
 z22:=sizeOf26
 v22:=zeroValue26
 t25:=underlying139
 a25:=isAgg139
 z25:=sizeOf139
 v25:=zeroValue139
 t39:=underlying153
 a39:=isAgg153
 z39:=sizeOf153
 v39:=zeroValue153
 t45:=underlying171
 a45:=isAgg171
 z45:=sizeOf171
 v45:=zeroValue171
 t46:=underlying172
 a46:=isAgg172
 z46:=sizeOf172
 v46:=zeroValue172
 t50:=underlying177
 a50:=isAgg177
 z50:=sizeOf177
 v50:=zeroValue177
 t53:=underlying180
 a53:=isAgg180
 z53:=sizeOf180
 v53:=zeroValue180
 t55:=underlying23
 a55:=isAgg23
 z55:=sizeOf23
 v55:=zeroValue23
 t66:=underlying210
 a66:=isAgg210
 z66:=sizeOf210
 v66:=zeroValue210
 t70:=underlying214
 a70:=isAgg214
 z70:=sizeOf214
 v70:=zeroValue214
 t76:=underlying236
 a76:=isAgg236
 z76:=sizeOf236
 v76:=zeroValue236
 t77:=underlying237
 a77:=isAgg237
 z77:=sizeOf237
 v77:=zeroValue237 }
def Tryz.Amh:Go.Shelf.Ren:=⟨fun|6=>97|15=>100|14=>122|28=>132|29=>133|20=>165|21=>166|22=>167|23=>168|24=>169|25=>170|26=>171|27=>172|46=>206|47=>174|48=>175|49=>207|50=>208|57=>221|n=>n,fun|22=>28|24=>52|25=>150|3=>3|39=>153|0=>0|53=>180|55=>23|4=>4|46=>172|45=>171|50=>177|5=>5|9=>9|66=>210|70=>214|76=>236|77=>237|n=>n,fun|n=>n⟩
def Tryz.B62:Go.Proofs.SlLaysF0.n6 prog Tryz.Amh:={
 mixed:=by kernel_rfl
 f6:=⟨f97.name,by decide,func97.trans (Bo7 some (by kernel_rfl))⟩
 f14:=⟨f122.name,by decide,func122.trans (Bo7 some (by kernel_rfl))⟩
 f15:=func100.trans (Bo7 some (by kernel_rfl))
 f20:=⟨f165.name,by decide,func165.trans (Bo7 some (by kernel_rfl))⟩
 f21:=⟨f166.name,by decide,func166.trans (Bo7 some (by kernel_rfl))⟩
 f22:=⟨f167.name,by decide,func167.trans (Bo7 some (by kernel_rfl))⟩
 f23:=⟨f168.name,by decide,func168.trans (Bo7 some (by kernel_rfl))⟩
 f24:=⟨f169.name,by decide,func169.trans (Bo7 some (by kernel_rfl))⟩
 f25:=⟨f170.name,by decide,func170.trans (Bo7 some (by kernel_rfl))⟩
 f26:=⟨f171.name,by decide,func171.trans (Bo7 some (by kernel_rfl))⟩
 f27:=⟨f172.name,by decide,func172.trans (Bo7 some (by kernel_rfl))⟩
 f28:=func132.trans (Bo7 some (by kernel_rfl))
 f29:=func133.trans (Bo7 some (by kernel_rfl))
 f46:=⟨f206.name,by decide,func206.trans (Bo7 some (by kernel_rfl))⟩
 f47:=func174.trans (Bo7 some (by kernel_rfl))
 f48:=func175.trans (Bo7 some (by kernel_rfl))
 f49:=⟨f207.name,by decide,func207.trans (Bo7 some (by kernel_rfl))⟩
 f50:=⟨f208.name,by decide,func208.trans (Bo7 some (by kernel_rfl))⟩
 f57:=⟨f221.name,by decide,func221.trans (Bo7 some (by kernel_rfl))⟩
 t0:=underlying0
 a0:=isAgg0
 z0:=sizeOf0
 v0:=zeroValue0
 t3:=underlying3
 a3:=isAgg3
 z3:=sizeOf3
 v3:=zeroValue3
 t4:=underlying4
 a4:=isAgg4
 z4:=sizeOf4
 v4:=zeroValue4
 t5:=underlying5
 a5:=isAgg5
 z5:=sizeOf5
 v5:=zeroValue5
 t9:=underlying9
 a9:=isAgg9
 z9:=sizeOf9
 v9:=zeroValue9
 t22:=underlying28
 a22:=isAgg28
 z22:=sizeOf28
 v22:=zeroValue28
 t25:=underlying150
 a25:=isAgg150
 z25:=sizeOf150
 v25:=zeroValue150
 t39:=underlying153
 a39:=isAgg153
 z39:=sizeOf153
 v39:=zeroValue153
 t45:=underlying171
 a45:=isAgg171
 z45:=sizeOf171
 v45:=zeroValue171
 t46:=underlying172
 a46:=isAgg172
 z46:=sizeOf172
 v46:=zeroValue172
 t50:=underlying177
 a50:=isAgg177
 z50:=sizeOf177
 v50:=zeroValue177
 t53:=underlying180
 a53:=isAgg180
 z53:=sizeOf180
 v53:=zeroValue180
 t55:=underlying23
 a55:=isAgg23
 z55:=sizeOf23
 v55:=zeroValue23
 t66:=underlying210
 a66:=isAgg210
 z66:=sizeOf210
 v66:=zeroValue210
 t70:=underlying214
 a70:=isAgg214
 z70:=sizeOf214
 v70:=zeroValue214
 t76:=underlying236
 a76:=isAgg236
 z76:=sizeOf236
 v76:=zeroValue236
 t77:=underlying237
 a77:=isAgg237
 z77:=sizeOf237
 v77:=zeroValue237 }
end Go.Proofs
namespace Go.Proofs.Xg
open Go Go.Xl Go.Ab Go.Proofs
def mixed:prog.follows .mixedOrders=true:=by kernel_rfl
@[reducible] def Al:Ty:=(.pair (.int .u16) (.int .u64))
@[reducible] def A8:Ty:=(.pair Al (.pair .u8 (.pair (.int .u64) (.pair .u8 (.pair .str (.sl Al))))))
@[reducible] def Bn:Ty:=(.pair (.int .u64) (.int .u64))
@[reducible] def Bb:Ty:=(.pair (.int .u16) (.sl Bn))
def Gj(N:Nat):Cw [(.int .u16)] (A7 (Bd [.bool])):=fun(x:Int)=>some (x != x)
variable(N:Nat)
def A8w:=Cn [] [] N 87 .lf [(.int .u16)] [.bool] (Gj N) mixed func87 rfl (by decide) rfl (by kernel_rfl)
def D2:Cw [(.int .u16),(.int .u16)] (A7 (Bd [A4])):=fun(x Bh:Int)=>Option.bind (Gj N x) fun(y:Bool)=>Option.bind (Gj N Bh) fun(B9:Bool)=>bif y then bif B9 then some 0 else some (-1)else
 bif B9 then some 1 else bif decide (x<Bh)then some (-1)else bif decide (Bh<x)then some 1 else some 0
def Gw:=Cn [A8w N] [] N 53 .lf [(.int .u16),(.int .u16)] [A4] (D2 N) mixed func53 rfl (by decide) rfl (by kernel_rfl)
def Bp(N:Nat):Cw [(.int .u64)] (A7 (Bd [.bool])):=fun(x:Int)=>some (x != x)
def Q7:Am7 prog [] [] N f88 .lf [(.int .u64)] [.bool]=Bp N:=by kernel_rfl
def Q8:Ix prog:=B5b 88 f88 _ [(.int .u64)] [.bool] (Bp N) mixed func88 (.mk' func88 rfl (by decide)) rfl (Q7 N)
def C0:Cw [(.int .u64),(.int .u64)] (A7 (Bd [A4])):=fun(x Bh:Int)=>Option.bind (Bp N x) fun(y:Bool)=>Option.bind (Bp N Bh) fun(B9:Bool)=>bif y then bif B9 then some 0 else some (-1)else
 bif B9 then some 1 else bif decide (x<Bh)then some (-1)else bif decide (Bh<x)then some 1 else some 0
def Fa:=Cn [Q8 N] [] N 54 .lf [(.int .u64),(.int .u64)] [A4] (C0 N) mixed func54 rfl (by decide) rfl (by kernel_rfl)
def Kh:Cw [Al,Al] (A7 (Bd [A4])):=fun(x Bh:Bv3)=>Option.bind (D2 N x.1 Bh.1) fun(y:Int)=>bif y != 0 then some y else Option.bind (C0 N x.2 Bh.2) fun(y:Int)=>some y
def Aoh:Am7 prog [Gw N,Fa N] [] N f21 .lf [Al,Al] [A4]=Kh N:=by kernel_rfl
def A0o:Ix prog:=B5b 21 f21 _ [Al,Al] [A4] (Kh N) mixed func21 (.mk' func21 rfl (by decide)) rfl (Aoh N)
def Nk(N:Nat):Mx [] (A7 (Bd (Wt Al [.s]))):=some []
def G8:A6 (Al:Ty).T→Nat→Mx [] (A7 (A6 (Al:Ty).T×Sk [.s])):=fun(l:Bvj) (n:Nat)=>bif decide ((↑n:Int)<2)then some (l,n)else iter (fun(rec:Bv6×Unit×Unit×A6 Bv3×Unit→A7 (A6 Bv3×Nat))
 (z:Bv6×Unit×Unit×A6 Bv3×Unit)=>bif decide (z.1.1<(↑n:Int))then bif decide (0≤z.1.1)&&decide (z.1.1<(↑n:Int))then z.2.2.2.1[0+z.1.1.toNat]?.bind fun(e:Bv3)=>bif decide (0≤i64.wrap (z.1.1-1))&&decide
 (i64.wrap (z.1.1-1)<(↑n:Int))then z.2.2.2.1[0+(i64.wrap (z.1.1-1)).toNat]?.bind fun(Dt:Bv3)=>bif e.1==Dt.1&&e.2==Dt.2 then bif Ew z.1.1 (↑n:Int) n then iter (fun(rec:Bvc×Unit×Unit×A6 Bv3×Unit→Option
 (A6 Bv3×Nat)) (B1:Bvc×Unit×Unit×A6 Bv3×Unit)=>bif decide (B1.1.2.1<(↑((↑n:Int).toNat-z.1.1.toNat):Int))then bif decide (0≤B1.1.2.1)&&decide (B1.1.2.1<(↑((↑n:Int).toNat-z.1.1.toNat):Int))then
 B1.2.2.2.1[0+z.1.1.toNat+B1.1.2.1.toNat]?.bind fun(e:Bv3)=>bif decide (0≤i64.wrap (B1.1.2.1-1))&&decide (i64.wrap (B1.1.2.1-1)<(↑((↑n:Int).toNat-z.1.1.toNat):Int))then
 B1.2.2.2.1[0+z.1.1.toNat+(i64.wrap (B1.1.2.1-1)).toNat]?.bind fun(e_2:Bv3)=>bif !(e.1==e_2.1&&e.2==e_2.2)then bif decide (0≤B1.1.2.1)&&decide (B1.1.2.1<(↑((↑n:Int).toNat-z.1.1.toNat):Int))then
 B1.2.2.2.1[0+z.1.1.toNat+B1.1.2.1.toNat]?.bind fun(e:Bv3)=>bif decide (0≤B1.1.1)&&decide (B1.1.1<(↑n:Int))then B1.2.2.2.1[0+B1.1.1.toNat]?.bind fun(e_3:Bv3)=>rec ((i64.wrap (B1.1.1+1),i64.wrap
 (B1.1.2.1+1),()),(),(),B1.2.2.2.1.set (0+B1.1.1.toNat) e,())else none else none else rec ((B1.1.1,i64.wrap (B1.1.2.1+1),()),(),(),B1.2.2.2.1,())else none else none else bif Ew B1.1.1 (↑n:Int) n then bif Ew 0
 B1.1.1 n then some (List.take (0+B1.1.1.toNat) B1.2.2.2.1,B1.1.1.toNat-0)else none else none) N ((z.1.1,1,()),(),(),z.2.2.2.1,())else none else rec ((i64.wrap (z.1.1+1),()),(),(),z.2.2.2.1,())else none else none
 else some (z.2.2.2.1,n)) N ((1,()),(),(),l,())
def Y0:=Afh [] [] N 96 (A5 (A5 (.seq (A5 (.blk (.loop ⟨[(3,.d A4)],[],[0],[],[],[(1,.arr Al)]⟩ (A5 (.seq (.blk (A5 (.cond (A5 (.seq (A5 (.blk (.loop ⟨[(3,.d A4),(5,.d A4)],[],[0,4],[],[],[(1,.arr Al)]⟩ .lf))) .lf)) .lf))) .lf))))) .lf))) (A5 (A5 (.seq (A5 (.blk (.loop ⟨[(3,.d A4)],[],[0],[],[],[]⟩ (A5 (.seq (.blk (A5 (.cond (A5 (.seq (A5 (.blk (.loop ⟨[(3,.d A4),(5,.d A4)],[],[0,4],[],[],[]⟩ .lf))) .lf)) .lf))) .lf))))) .lf))) Al [] [.s] (G8 N) (Nk N) mixed func96 rfl (by decide) rfl (by kernel_rfl) (by kernel_rfl)
def Td:Cw [Bn,Bn] (A7 (Bd [A4])):=fun(x Bh:Bv3)=>Option.bind (C0 N x.1 Bh.1) fun(y:Int)=>some y
def A7j:Am7 prog [Fa N] [] N f116 .lf [Bn,Bn] [A4]=Td N:=by kernel_rfl
def Ami:Ix prog:=B5b 116 f116 _ [Bn,Bn] [A4] (Td N) mixed func116 (.mk' func116 rfl (by decide)) rfl (A7j N)
def Te:Cw [Bb,Bb] (A7 (Bd [A4])):=fun(x Bh:Bv7)=>Option.bind (D2 N x.1 Bh.1) fun(y:Int)=>some y
def A7k:Am7 prog [Gw N] [] N f85 .lf [Bb,Bb] [A4]=Te N:=by kernel_rfl
def Amj:Ix prog:=B5b 85 f85 _ [Bb,Bb] [A4] (Te N) mixed func85 (.mk' func85 rfl (by decide)) rfl (A7k N)
def Zh:Cw [A8,A8] (A7 (Bd [A4])):=fun(x Bh:Bv3×UInt8×Int×UInt8×A6 UInt8×A6 Bv3)=>Option.bind (Kh N x.1 Bh.1) fun(y:Int)=>some y
def Amk:Am7 prog [A0o N] [] N f98 .lf [A8,A8] [A4]=Zh N:=by kernel_rfl
open Go.Sort Go.Shelf Go.RowKit Go.Lib
def Aoi(N:Nat):A6q (Ab5 prog 90 Al) [.d (.sl Al)] (A8a Al 16) [] :=
 Avo (own:=[5,7]) (N:=N) (an:=.lf) mixed func90 rfl (fun y r=>by kernel_rfl) (by kernel_rfl) (fun a cap=>by kernel_rfl)
def A0p:Ix prog:=Blk 90 Al [.d (.sl Al)] (A8a Al 16) (.mk' func90 rfl (by decide)) (Aoi N)
def G9(N:Nat):Cw [(.sl Al)] (A7 (Bd [(.sl Al)])):=Ajb Al 16
def Y1:Ix prog:=Bex 90 [(.sl Al)] [(.sl Al)] (G9 N) (.mk' func90 rfl (by decide)) (Arq (Aoi N))
def L0(x y:Int×Int):Int:=if x.1<y.1 then -1 else if y.1<x.1 then 1 else if x.2<y.2 then -1 else if y.2<x.2 then 1 else 0
theorem Asi(x y:Int×Int):Kh N x y=some (L0 x y):=by
 simp only[Kh,D2,C0,Gj,Bp,L0,cond_eq_ite,Bnb]
 grind
def Baq(x y:Int×Int):Does prog 21 (Ae [.d (Al.xv x),.d (Al.xv y)]) X0 (.d (.sc (.int .i64 (L0 x y)))) X0 :=
 (Si (Γ:=[Gw 0,Fa 0]) (own:=[]) (N:=0) (an:=.lf) (args:=[Al,Al]) (res:=[.int .i64]) mixed func21 rfl) x y _ ((Bt7 (Bt7 (Aoh 0) x) y).trans (Asi 0 x y))
theorem Ur(x y:Int×Int):ltOf L0 x y=decide (x.1<y.1∨x.1=y.1∧x.2<y.2):=by
 unfold ltOf L0
 grind
def Abu:SWO (ltOf L0) where
 irrefl x:=by rw[Ur];simp
 trans x y z h1 h2:=by rw[Ur]at *;simp at *;omega
 ntrans x y z h1 h2:=by rw[Ur]at *;simp at *;omega
def Ae6(x y:Int×Int)(h1:ltOf L0 x y=false)(h2:ltOf L0 y x=false):x=y:=by rw[Ur]at *;simp at *;obtain⟨a,b⟩:=x;obtain⟨c,d⟩:=y;simp at *;omega
def B63:Al.Plain:=⟨fun x=>rfl⟩
def Dz(d:A6 (Int×Int)):A6 (Int×Int):=d.mergeSort fun x y=>!(ltOf L0) y x
def B64:Anv prog 95 21 Al Dz :=
 Amd Tryz.Bdr (by kernel_rfl) B63 rfl isAgg49 sizeOf49 (.mk' func95 rfl (by decide)) L0 Abu Ae6 (.mk' func21 rfl (by decide)) Baq
def X7(N:Nat):Ix prog:=mkSort B64
def Afw(x y:Int×Int):Int:=if x.1<y.1 then -1 else if y.1<x.1 then 1 else 0
theorem Bds(x y:Int×Int):Td N x y=some (Afw x y):=by
 simp only[Td,C0,Bp,Afw,cond_eq_ite,Bnb]
 grind
def B65(x y:Int×Int):Does prog 116 (Ae [.d (Bn.xv x),.d (Bn.xv y)]) X0 (.d (.sc (.int .i64 (Afw x y)))) X0 :=
 (Si (Γ:=[Fa 0]) (own:=[]) (N:=0) (an:=.lf) (args:=[Bn,Bn]) (res:=[.int .i64]) mixed func116 rfl) x y _ ((Bt7 (Bt7 (A7j 0) x) y).trans (Bds 0 x y))
theorem Asj(x y:Int×Int):ltOf Afw x y=decide (x.1<y.1):=by
 unfold ltOf Afw
 grind
def B3e:SWO (ltOf Afw) where
 irrefl x:=by rw[Asj];simp
 trans x y z h1 h2:=by rw[Asj]at *;simp at *;omega
 ntrans x y z h1 h2:=by rw[Asj]at *;simp at *;omega
def B66:Bn.Plain:=⟨fun x=>rfl⟩
def E0(d:Bvj):A6 Bv3:=B5p Bn (ltOf Afw) d
def B67:Anv prog 115 116 Bn E0 :=
 B0e Tryz.Ab6 (by kernel_rfl) B66 rfl isAgg134 sizeOf134 (.mk' func115 rfl (by decide)) Afw B3e (.mk' func116 rfl (by decide)) B65
def X8(N:Nat):Ix prog:=mkSort B67
def Vo(d:A6 (Int×Int)):(E0 d).Perm d∧(E0 d).Pairwise (fun x y=>x.1≤y.1):=by obtain⟨h1,h2⟩:=Ao9 (T:=Bn) B3e d;refine⟨h1,h2.imp fun {x y} h=>?_⟩;rw[Asj]at h;simpa using h
def Us(x y:Int×A6 (Int×Int)):Int:=if x.1<y.1 then -1 else if y.1<x.1 then 1 else 0
theorem Bdt(x y:Int×A6 (Int×Int)):Te N x y=some (Us x y):=by
 simp only[Te,D2,Gj,Us,cond_eq_ite,Bnb]
 grind
def B68(x y:Int×A6 (Int×Int)):Does prog 85 (Ae [.d (Bb.xv x),.d (Bb.xv y)]) X0 (.d (.sc (.int .i64 (Us x y)))) X0 :=
 (Si (Γ:=[Gw 0]) (own:=[]) (N:=0) (an:=.lf) (args:=[Bb,Bb]) (res:=[.int .i64]) mixed func85 rfl) x y _ ((Bt7 (Bt7 (A7k 0) x) y).trans (Bdt 0 x y))
theorem A67(x y:Int×A6 (Int×Int)):ltOf Us x y=decide (x.1<y.1):=by
 unfold ltOf Us
 grind
def A0q:SWO (ltOf Us) where
 irrefl x:=by rw[A67];simp
 trans x y z h1 h2:=by rw[A67]at *;simp at *;omega
 ntrans x y z h1 h2:=by rw[A67]at *;simp at *;omega
def Py(d:A6 (Int×A6 (Int×Int))):A6 (Int×A6 (Int×Int)):=A7h Us d
def A4c(d:A6 (Int×A6 (Int×Int))):Bool:=Yo Us d
set_option maxHeartbeats 2000000 in
def B0l:Bf6 prog Tryz.Rr 84 where
 L:=Tryz.Ak9
 none:=by
  intro p cap fv w;have L:=Tryz.Ak9;have mixed:=L.mixed;have e14:∀args w,(callFunc 117 args).run prog w = .ok (.enter 117 args) w:=L.f14.enters rfl;have e15:∀args w,(callFunc 100 args).run prog w = .ok (.enter 100 args) w:=enters_of L.f15 (by kernel_rfl) rfl;have hp:=fun lim W=>AnyF.pdqsortCmpFunc_none (P:=prog) (ρ:=Tryz.Rr) L p cap lim fv W
  have hl:∀W,Calls prog (Tryz.Rr.f 15) #[.int .u64 0] W fun e w'=>e = .returned (.int .i64 (Lib.bitLen 0:Nat))∧w'=W:=fun W=>by
   have h:=Any.bits_Len (SlLaysF0.n15.bits (P:=prog) (ρ:=Tryz.Rr) { L with }) 0 W (by omega) (by omega);exact h
  change ∀lim W,Calls prog 117 _ W _ at hp;change ∀W,Calls prog 100 _ W _ at hl;have t0:=underlying0;have t3:=underlying3;have a3:=isAgg3;have z3:=sizeOf3;have v3:=zeroValue3;have t39:=underlying153;have a39:=isAgg153;have z39:=sizeOf153;have v39:=zeroValue153;have t22:=underlying27;have a22:=isAgg27;have z22:=sizeOf27;have v22:=zeroValue27
  go_enter func84,ntmps84
  go_wp2_with (first|(go_at_fn (100);refine(hl _).mono ?_;rintro e w' ⟨rfl,rfl⟩)|(go_at_fn (117);refine(hp _ _).mono ?_;rintro e w' ⟨rfl,rfl⟩))
  go_end0
  exact⟨rfl,rfl⟩
 some:=by
  intro p n lim cap q fv w Q hpv hn hl hp;subst hpv;have L:=Tryz.Ak9;have mixed:=L.mixed;have e14:∀args w,(callFunc 117 args).run prog w = .ok (.enter 117 args) w:=L.f14.enters rfl;have e15:∀args w,(callFunc 100 args).run prog w = .ok (.enter 100 args) w:=enters_of L.f15 (by kernel_rfl) rfl;change Calls prog 117 _ w _ at hp;change Calls prog 100 _ w _ at hl;have wr:u64.wrap (n:Int)=n:=by simp[IntKind.wrap,IntKind.bits,IntKind.signed];omega
  have t0:=underlying0;have t3:=underlying3;have a3:=isAgg3;have z3:=sizeOf3;have v3:=zeroValue3;have t39:=underlying153;have a39:=isAgg153;have z39:=sizeOf153;have v39:=zeroValue153;have t22:=underlying27;have a22:=isAgg27;have z22:=sizeOf27;have v22:=zeroValue27
  go_enter func84,ntmps84
  go_wp2_with (first|(go_at_fn (100);refine hl.mono ?_;rintro e w' ⟨rfl,rfl⟩)|(go_at_fn (117);refine hp.mono ?_;rintro e w' ⟨rfl,hq⟩))
  go_end0
  exact⟨rfl,hq⟩
def B0m:Adw prog 84 85 Bb Us A4c Py :=
 Awb (T:=Bb) B0l rfl isAgg82 sizeOf82 (.mk' func84 rfl (by decide)) Us A0q (.mk' func85 rfl (by decide)) B68
def X9(N:Nat):Ix prog:=B3a B0m
def Rs(x y:(Int×Int)×UInt8×Int×UInt8×A6 UInt8×A6 (Int×Int)):Int:=L0 x.1 y.1
def Bdu(x y:(Int×Int)×UInt8×Int×UInt8×A6 UInt8×A6 (Int×Int)):Zh N x y=some (Rs x y):=by simp only[Zh,Asi,Bnb];rfl
def B69(x y:(Int×Int)×UInt8×Int×UInt8×A6 UInt8×A6 (Int×Int)):Does prog 98 (Ae [.d (A8.xv x),.d (A8.xv y)]) X0 (.d (.sc (.int .i64 (Rs x y)))) X0 :=
 (Si (Γ:=[A0o 0]) (own:=[]) (N:=0) (an:=.lf) (args:=[A8,A8]) (res:=[.int .i64]) mixed func98 rfl) x y _ ((Bt7 (Bt7 (Amk 0) x) y).trans (Bdu 0 x y))
def On:SWO (ltOf Rs) where
 irrefl x:=Abu.irrefl _
 trans x y z:=Abu.trans _ _ _
 ntrans x y z:=Abu.ntrans _ _ _
def Aj(d:A6 ((Int×Int)×UInt8×Int×UInt8×A6 UInt8×A6 (Int×Int))):A6 ((Int×Int)×UInt8×Int×UInt8×A6 UInt8×A6 (Int×Int)):=A7h Rs d
def D6(d:A6 ((Int×Int)×UInt8×Int×UInt8×A6 UInt8×A6 (Int×Int))):Bool:=Yo Rs d
def Awp:Adw prog 97 98 A8 Rs D6 Aj :=
 B0f (T:=A8) Tryz.B62 (by kernel_rfl) rfl isAgg52 sizeOf52 (.mk' func97 rfl (by decide)) Rs On (.mk' func98 rfl (by decide)) B69
def Bf(N:Nat):Ix prog:=B3a Awp
end Go.Proofs.Xg
