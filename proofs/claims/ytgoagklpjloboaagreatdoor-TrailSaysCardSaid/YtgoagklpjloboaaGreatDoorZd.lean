import Derived.Test.YtgoagklpjloboaaGreatDoorZc
import Derived.Laws.StandIn
import Derived.Lib.Bytealg
import Derived.Shelf.SlSortCmp.NoneTotal
import Derived.IntWalk
import Derived.Test.YtgoagklpjloboaaGreatDoorZb
import Derived.OpenShut
import Derived.FnData
import Derived.LaidSub
import Derived.Shelf.SlGeneric
import Derived.Ground.SlsfProg
import Derived.Test.YtgoagklpjloboaaGreatDoorProg
import Derived.KernelRfl
import Derived.Test.YtgoagklpjloboaaGreatDoorZa
set_option linter.all false
set_option maxRecDepth 100000
open Go.IntKind (i64 u64 u16)
open Go.Proofs.Tryz
noncomputable section
namespace Go.Xl
open Go.Ab
def Ag6(k off:Nat):XV→Bool
 |.nm k' p=>cond (Nat.beq k' k) (B6r p off) false
 |_=>false
variable{k off a r m j h n' N Iq fuel:Nat}{v x res:XV}{f fl b' f0 γ:Nat→Nat}{ex Bou:Bool}{sp:Nat→Bool}
def Ak0(h:Ag6 k off v=true):v = .nm k (A07 off):=by
 unfold Ag6 at h;split at h
 ·rename_i k' Rs;cases h1:Nat.beq k' k with
  |false=>simp[h1]at h
  |true =>simp only[h1,Bov]at h;rw[Boy h1,B3n h]
 ·cases h
def Bet(k:Nat)(t:Ty):XV→A3 Nat
 |.os k' t' a n=>cond (Nat.beq k' k) (cond (t'.Jm t) (cond (Nat.beq a 0) (some n) none) none) none
 |_=>none
variable{t:Ty}
def B43{n:Nat}(h:Bet k t v=some n):v = .os k t 0 n:=by
 unfold Bet at h;split at h
 ·rename_i k' t' a m;cases h1:Nat.beq k' k with
  |false=>simp[h1]at h
  |true =>
  cases h2:t'.Jm t with
  |false=>simp[h1,h2]at h
  |true =>
  cases h3:Nat.beq a 0 with
  |false=>simp[h1,h2,h3]at h
  |true =>simp only[h1,h2,h3,Bov,Bp0]at h;rw[Boy h1,Ty.Am h2,Boy h3,h]
 ·cases h
def Bb7(k a:Nat)(t:Ty):XV→A3 Nat
 |.os k' t' a' n=>cond (Nat.beq k' k) (cond (t'.Jm t) (cond (Nat.beq a' a) (some n) none) none) none
 |_=>none
def Bb8{n:Nat}(h:Bb7 k a t v=some n):v = .os k t a n:=by
 unfold Bb7 at h;split at h
 ·rename_i k' t' a' m;cases h1:Nat.beq k' k with
  |false=>simp[h1]at h
  |true =>
  cases h2:t'.Jm t with
  |false=>simp[h1,h2]at h
  |true =>
  cases h3:Nat.beq a' a with
  |false=>simp[h1,h2,h3]at h
  |true =>simp only[h1,h2,h3,Bov,Bp0]at h;rw[Boy h1,Ty.Am h2,Boy h3,h]
 ·cases h
def Aei(f:Nat→Nat):A2 (Nat×Nat)→A2 XV→Bool
 |[],[]=>true
 |p::ps,c::cs=>cond (Ag6 (f p.1) p.2 c) (Aei f ps cs) false
 |_,_=>false
theorem Ap0{f fl:Nat→Nat}:∀ {ps:A2 (Nat×Nat)} {cs:A2 XV},Aei f ps cs=true→cs=mpL f fl (psX ps)
 |[],[],_=>rfl
 |[],_::_,h=>by simp[Aei]at h
 |_::_,[],h=>by simp[Aei]at h
 |p::ps,c::cs,h=>by
  simp only[Aei]at h;cases h1:Ag6 (f p.1) p.2 c with
  |false=>simp[h1]at h
  |true =>simp only[h1,Bov]at h;have e:=Ap0 (fl:=fl) h;rw[Ak0 h1,e];rfl
def At1(f:Nat→Nat)(g:Nat)(ps:A2 (Nat×Nat)):XV→Bool
 |.F1 g' Jd=>cond (Nat.beq g' g) (Aei f ps Jd) false
 |_=>false
def B6z{g:Nat}{ps:A2 (Nat×Nat)}(h:At1 f g ps v=true):v=(XV.F1 g (psX ps)).mp f fl:=by
 unfold At1 at h;split at h
 ·rename_i g' Jd;cases h1:Nat.beq g' g with
  |false=>simp[h1]at h
  |true =>simp only[h1,Bov]at h;rw[Boy h1,Ap0 (fl:=fl) h];rfl
 ·cases h
inductive Tp(f fl:Nat→Nat):List XV→List XV→Prop
 |nil:Tp f fl [] []
 |dat {t:Ty} {v:XV} {y:t.T} {vs xs:List XV}:S0 t v=some y→Tp f fl vs xs→Tp f fl (v::vs) (.d (t.xv y)::xs)
 |same {v x:XV} {vs xs:List XV}:v=x.mp f fl→Tp f fl vs xs→Tp f fl (v::vs) (x::xs)
variable{b d xs vs us:A2 XV}{F ns C2 own ks:A2 Nat}{τ T' Ve:A2 (Nat×Nat)}
def Tp.app{a c:A2 XV}(h:Tp f fl a b)(h':Tp f fl c d):Tp f fl (a++c) (b++d):=by
 induction h with
 |nil=>exact h'
 |dat h1 _ ih=>exact .dat h1 ih
 |same h1 _ ih=>exact .same h1 ih
theorem Tp.length{a:A2 XV}(h:Tp f fl a b):a.length=b.length:=by
 induction h with
 |nil=>rfl
 |dat _ _ ih=>simp[ih]
 |same _ _ ih=>simp[ih]
theorem Tp.split:∀ {a c xs:A2 XV},Tp f fl (a++c) xs→∃b d,xs=b++d∧Tp f fl a b∧Tp f fl c d
 |[],c,xs,h=>⟨[],xs,rfl,.nil,h⟩
 |v::a,c,xs,h=>by
  rw[Br1]at h;cases h with
  |dat h1 h2 =>obtain⟨b,d,rfl,h3,h4⟩:=Tp.split h2;exact⟨_::b,d,rfl,.dat h1 h3,h4⟩
  |same h1 h2 =>obtain⟨b,d,rfl,h3,h4⟩:=Tp.split h2;exact⟨_::b,d,rfl,.same h1 h3,h4⟩
def Aej:A2 XV→Bool
 |[]=>true
 |.nm _ _::r=>Aej r
 |_::_=>false
theorem Tp.Jd:∀ {cs xs:A2 XV},Tp f fl cs xs→Aej cs=true→cs=mpL f fl xs
 |[],xs,h,_=>by cases h;rfl
 |v::cs,xs,h,hn=>by
  cases v with
  |nm k p =>
   simp only[Aej]at hn;cases h with
   |dat h1 h2=>simp[S0]at h1
   |same h1 h2=>rw[h1,Tp.Jd h2 hn];rfl
  |_=>simp[Aej]at hn
variable{st:Af}
theorem Tp.Rr:∀ {ops:A2 Operand} {vs xs:A2 XV},Bx st ops=some vs→Tp f fl vs xs→∀p∈Ay (ops.zip (mpL f fl xs)),Dx st.im p.1 p.2
 |[],vs,xs,hv,h=>by simp[Ay]
 |x::ops,[],xs,hv,h=>by have:=Hz hv;simp at this
 |x::ops,v::vs,xs,hv,h=>by
  obtain⟨hx,Pk⟩:=Ew hv;cases h with
  |dat h1 h2 =>
   intro p hp;simp only[mpL,Brx,Ay,Bp3,Boz]at hp;rcases hp with rfl|hp
   ·exact Py hx h1
   ·exact Tp.Rr Pk h2 p hp
  |same h1 h2 =>
   intro p hp;simp only[mpL,Brx,Ay,Bp3,Boz]at hp;rcases hp with rfl|hp
   ·rw[← h1];exact Aj hx
   ·exact Tp.Rr Pk h2 p hp
def Ll{β R:Type}(f:Nat→Nat):(l:A2 AS)→A8z l β→A2 XV→A2 XV→(β→A2 XV→A3 R)→A3 R
 |[],F,[],acc,K=>K F acc
 |.d t::r,F,v::vs,acc,K=>match S0 t v with
  |some y=>Ll f r (F y) vs (acc++[.d (t.xv y)]) K
  |none=>none
 |.p k off::r,F,v::vs,acc,K=>cond (Ag6 (f k) off v) (Ll f r F vs (acc++[.nm k (A07 off)]) K) none
 |.os k t::r,F,v::vs,acc,K=>match Bet (f k) t v with
  |some n=>Ll f r (F n) vs (acc++[.os k t 0 n]) K
  |none=>none
 |.oa k a t::r,F,v::vs,acc,K=>match Bb7 (f k) a t v with
  |some n=>Ll f r (F n) vs (acc++[.os k t a n]) K
  |none=>none
 |.F1 g ps::r,F,v::vs,acc,K=>cond (At1 f g ps v) (Ll f r F vs (acc++[.F1 g (psX ps)]) K) none
 |.g _ t::r,F,v::vs,acc,K=>match S0 t v with
  |some y=>Ll f r (F y) vs (acc++[.d (t.xv y)]) K
  |none=>none
 |.nil p::r,F,v::vs,acc,K=>cond (A1i p v) (Ll f r F vs (acc++[A40 p]) K) none
 |_,_,_,_,_=>none
theorem P8{β R:Type}{Q:β→A2 XV→Prop}{f fl:Nat→Nat}{K:β→A2 XV→A3 R}{r:R}:∀(l:A2 AS) (F:A8z l β) (vs us acc:A2 XV),J2 Q l F acc→Tp f fl us acc→Ll f l F vs acc K=some r →
  ∃F' xs,Q F' xs∧Tp f fl (us++vs) xs∧K F' xs=some r
 |[],F,[],us,acc,hg,hr,h=>⟨F,acc,hg,by simpa using hr,h⟩
 |[],F,_::_,us,acc,hg,hr,h=>by simp[Ll]at h
 |.d t::l,F,[],us,acc,hg,hr,h=>by simp[Ll]at h
 |.p k off::l,F,[],us,acc,hg,hr,h=>by simp[Ll]at h
 |.os k t::l,F,[],us,acc,hg,hr,h=>by simp[Ll]at h
 |.F1 g ps::l,F,[],us,acc,hg,hr,h=>by simp[Ll]at h
 |.g k t::l,F,[],us,acc,hg,hr,h=>by simp[Ll]at h
 |.oa k a t::l,F,[],us,acc,hg,hr,h=>by simp[Ll]at h
 |.nil p::l,F,[],us,acc,hg,hr,h=>by simp[Ll]at h
 |.nil p::l,F,v::vs,us,acc,hg,hr,h=>by
  simp only[Ll]at h;cases hp:A1i p v with
  |false=>simp[hp]at h
  |true =>simp only[hp,Bov]at h;obtain⟨F',xs,h1,h2,h3⟩:=P8 l F vs (us++[v]) (acc++[A40 p]) hg (hr.app (.same (x:=A40 p) (by rw[Ae5 hp];rfl) .nil)) h;exact⟨F',xs,h1,by simpa using h2,h3⟩
 |.oa k a t::l,F,v::vs,us,acc,hg,hr,h=>by
  simp only[Ll]at h;split at h
  ·rename_i n hn;obtain⟨F',xs,h1,h2,h3⟩:=P8 l (F n) vs (us++[v]) _ (hg n) (hr.app (.same (x:=.os k t a n) (Bb8 hn) .nil)) h;exact⟨F',xs,h1,by simpa using h2,h3⟩
  ·cases h
 |.g k t::l,F,v::vs,us,acc,hg,hr,h=>by
  simp only[Ll]at h;split at h
  ·rename_i y hy;obtain⟨F',xs,h1,h2,h3⟩:=P8 l (F y) vs (us++[v]) _ (hg y) (hr.app (.dat hy .nil)) h;exact⟨F',xs,h1,by simpa using h2,h3⟩
  ·cases h
 |.d t::l,F,v::vs,us,acc,hg,hr,h=>by
  simp only[Ll]at h;split at h
  ·rename_i y hy;obtain⟨F',xs,h1,h2,h3⟩:=P8 l (F y) vs (us++[v]) _ (hg y) (hr.app (.dat hy .nil)) h;exact⟨F',xs,h1,by simpa using h2,h3⟩
  ·cases h
 |.p k off::l,F,v::vs,us,acc,hg,hr,h=>by
  simp only[Ll]at h;cases hp:Ag6 (f k) off v with
  |false=>simp[hp]at h
  |true =>simp only[hp,Bov]at h;obtain⟨F',xs,h1,h2,h3⟩:=P8 l F vs (us++[v]) (acc++[.nm k (A07 off)]) hg (hr.app (.same (x:=.nm k (A07 off)) (Ak0 hp) .nil)) h;exact⟨F',xs,h1,by simpa using h2,h3⟩
 |.os k t::l,F,v::vs,us,acc,hg,hr,h=>by
  simp only[Ll]at h;split at h
  ·rename_i n hn;obtain⟨F',xs,h1,h2,h3⟩:=P8 l (F n) vs (us++[v]) _ (hg n) (hr.app (.same (x:=.os k t 0 n) (B43 hn) .nil)) h;exact⟨F',xs,h1,by simpa using h2,h3⟩
  ·cases h
 |.F1 g ps::l,F,v::vs,us,acc,hg,hr,h=>by
  simp only[Ll]at h;cases hp:At1 f g ps v with
  |false=>simp[hp]at h
  |true =>simp only[hp,Bov]at h;obtain⟨F',xs,h1,h2,h3⟩:=P8 l F vs (us++[v]) (acc++[.F1 g (psX ps)]) hg (hr.app (.same (B6z hp) .nil)) h;exact⟨F',xs,h1,by simpa using h2,h3⟩
def Zh:XD→Bool
 |.v _=>false
 |.ic _ _ _=>false
 |_=>true
def Ij:A2 XD→Bool
 |[]=>true
 |x::r=>cond (Zh x) (Ij r) false
def Hn{x:XD}{r:A2 XD}(h:Ij (x::r)=true):Zh x=true∧Ij r=true:=by
 simp only[Ij]at h;cases hx:Zh x with
 |false=>simp[hx]at h
 |true=>simp only[hx,Bov]at h;exact⟨rfl,h⟩
def B70:∀(t:Ty) {cs:A2 XD} {x:t.T} {r:A2 XD},Ij cs=true→t.dec cs=some (x,r)→D1 cs=t.ds x++D1 r∧Ij r=true:=by
 intro t;induction t with
 |int k =>
  intro cs x r hp h;simp only[Ty.dec]at h;unfold Bdo at h;split at h
  ·rename_i k' n r';cases hk:Le k' k with
   |false=>simp[hk]at h
   |true =>have:=Hd hk;subst this;simp only[hk,Bov,Bp0,Bpm]at h;obtain⟨rfl,rfl⟩:=h;exact⟨rfl,(Hn hp).2⟩
  ·rename_i x' r';cases hk:Le .u8 k with
   |false=>simp[hk]at h
   |true =>have:=Hd hk;subst this;simp only[hk,Bov,Bp0,Bpm]at h;obtain⟨rfl,rfl⟩:=h;exact⟨rfl,(Hn hp).2⟩
  ·cases h
 |u8 =>
  intro cs x r hp h;simp only[Ty.dec]at h;unfold B2y at h;split at h
  ·cases h;exact⟨rfl,(Hn hp).2⟩
  ·cases h
 |bool =>
  intro cs x r hp h;simp only[Ty.dec]at h;unfold Bdp at h;split at h
  ·cases h;exact⟨rfl,(Hn hp).2⟩
  ·cases h
 |str =>
  intro cs x r hp h;simp only[Ty.dec]at h;unfold Bdq at h;split at h
  ·cases h;exact⟨rfl,(Hn hp).2⟩
  ·cases h
 |sl t ih =>
  intro cs x r hp h;simp only[Ty.dec]at h;unfold Bdr at h;split at h
  ·rename_i t' l r';split at h
   ·rename_i ht;have e:=Ty.Am ht;subst e;cases h;exact⟨rfl,(Hn hp).2⟩
   ·cases h
  ·simp[Ij,Zh]at hp
  ·simp[Ij,Zh]at hp
  ·cases h
 |unit =>intro cs x r hp h;simp[Ty.dec]at h;subst h;exact⟨rfl,hp⟩
 |pair a b iha ihb =>
  intro cs x r hp h;unfold Ty.dec at h;split at h
  ·rename_i p hpa;split at h
   ·rename_i q hq;cases h;obtain⟨h1,h2⟩:=iha (x:=p.1) (r:=p.2) hp hpa;obtain⟨h3,h4⟩:=ihb (x:=q.1) (r:=q.2) h2 hq;exact⟨by rw[h1,h3];simp[Ty.ds],h4⟩
   ·cases h
  ·cases h
 |st1 a iha =>intro cs x r hp h;exact iha hp h
 |tab t ih =>
  intro cs x r hp h;simp only[Ty.dec]at h;unfold Bds at h;split at h
  ·rename_i t' l r';split at h
   ·rename_i ht;have e:=Ty.Am ht;subst e;cases h;exact⟨rfl,(Hn hp).2⟩
   ·cases h
  ·cases h
 |err =>
  intro cs x r hp h;simp only[Ty.dec]at h;unfold Bdt at h;split at h
  ·cases h;exact⟨rfl,(Hn hp).2⟩
  ·simp[Ij,Zh]at hp
  ·simp[Ij,Zh]at hp
  ·cases h
 |ic t k =>
  intro cs x r hp h;simp only[Ty.dec]at h;unfold B2z at h;split at h
  ·simp[Ij,Zh]at hp
  ·simp[Ij,Zh]at hp
  ·cases h
 |ptr =>
  intro cs x r hp h;simp only[Ty.dec]at h;unfold Bdu at h;split at h
  ·cases h;exact⟨rfl,(Hn hp).2⟩
  ·simp[Ij,Zh]at hp
  ·cases h
def Bb9(m:Nat)(t:Ty)(ty:A3 TypeId):XV→A3 (List t.T)
 |.Be m' t' l Y8=>cond (Nat.beq m' m) (cond (Abg Y8 ty) (if h:t'.Jm t=true then some (Ty.Am h▸l)else none) none) none
 |_=>none
variable{ty:A3 TypeId}{ds:A2 XD}
def Bba{l:List t.T}(h:Bb9 m t ty v=some l):v = .Be m t l ty:=by
 unfold Bb9 at h;split at h
 ·rename_i m' t' l' Y8;cases h1:Nat.beq m' m with
  |false=>simp[h1]at h
  |true =>
  cases h2:Abg Y8 ty with
  |false=>simp[h1,h2]at h
  |true =>
   simp only[h1,h2,Bov]at h;split at h
   ·rename_i ht;have e:=Ty.Am ht;subst e;cases h;rw[Boy h1,Ajf h2]
   ·cases h
 ·cases h
def zOf(m off:Nat)(ex:Bool):XV→A3 Bool
 |.nm k' (.z b Rs)=>cond (Nat.beq k' m) (cond (Nat.beq Rs off) (some b) none) none
 |.nm k' (.p Rs)=>cond ex none (cond (Nat.beq k' m) (cond (Nat.beq Rs off) (some false) none) none)
 |.d (.v (.pointer none))=>cond ex none (some true)
 |_=>none
def A0b(f fl:Nat→Nat)(ex:Bool)(cs xs:A2 XV):Prop:=Ru (A7 cs) (A7 (mpL f fl xs))∧(ex=true→A7 cs=A7 (mpL f fl xs))
theorem Ru.refl:∀(l:A2 AV),Ru l l
 |[]=>.nil
 |x::r=>.cons (.refl x) (Ru.refl r)
def Ru.append{a b c d:A2 AV}(h:Ru a b)(h':Ru c d):Ru (a++c) (b++d):=by
 induction h with
 |nil=>exact h'
 |cons h1 _ ih=>exact .cons h1 ih
def Ww(f fl:Nat→Nat)(a b:A2 XV):mpL f fl (a++b)=mpL f fl a++mpL f fl b:=by simp[Abw]
def A0b.app{a c:A2 XV}(h:A0b f fl ex a b)(h':A0b f fl ex c d):A0b f fl ex (a++c) (b++d):=by
 refine⟨?_,fun e=>?_⟩
 ·rw[Dc,Ww,Dc];exact h.1.append h'.1
 ·rw[Dc,Ww,Dc,h.2 e,h'.2 e]
def A0b.same(h:v=x.mp f fl):A0b f fl ex [v] [x]:=by subst h;exact⟨.refl _,fun _=>rfl⟩
def Z0(l:A2 XD):A7 (l.map .d)=(D1 l).map .d:=by rw[Qu,He];simp[XV.a]
def Ap1(f fl:Nat→Nat)(l:A2 XD):mpL f fl (l.map .d)=l.map .d:=by rw[Abw];simp[XV.mp]
def Lw.as{a b:A2 D}(h:Lw a b):Ru (a.map .d) (b.map .d):=by
 induction h with
 |nil=>exact .nil
 |cons h1 _ ih=>exact .cons (Ya.d h1) ih
def A0b.data{y:t.T}(h:t.dec ds=some (y,[]))(hex:ex=true→Ij ds=true):A0b f fl ex (ds.map .d) ((t.enc y).map .d):=by
 refine⟨?_,fun e=>?_⟩
 ·obtain⟨ds',h1,h2⟩:=t.Wh h;rw[Ap1,Z0,Z0,t.Mu];simp only[D1,Bq0]at h1;rw[h1];exact h2.as
 ·obtain⟨h1,_⟩:=B70 t (hex e) h;rw[Ap1,Z0,Z0,t.Mu,h1];simp[D1]
def Beu{b:Bool}(h:zOf (f k) off ex v=some b):A0b f fl ex [v] [.nm k (.z b off)]:=by
 have mk:(∀(g:Gh) (w:World) (u:Value),RA g w v.a u→RA g w (XV.nm (f k) (.z b off)).a u)→(ex=true→v = .nm (f k) (.z b off))→A0b f fl ex [v] [.nm k (.z b off)]:=by intro h1 h2;refine⟨.cons h1 .nil,fun he=>?_⟩;rw[h2 he];rfl
 unfold zOf at h;split at h
 ·rename_i k' b' Rs;cases h1:Nat.beq k' (f k) with
  |false=>simp[h1]at h
  |true =>
   cases h2:Nat.beq Rs off with
   |false=>simp[h1,h2]at h
   |true =>simp only[h1,h2,Bov,Bp0]at h;have e1:=Boy h1;have e2:=Boy h2;subst e1;subst e2;subst h;exact mk (fun _ _ _ h=>h) (fun _=>rfl)
 ·rename_i k' Rs;cases hx:ex with
  |true=>simp[hx]at h
  |false =>
   rw[hx]at mk;cases h1:Nat.beq k' (f k) with
   |false=>simp[h1,hx]at h
   |true =>
    cases h2:Nat.beq Rs off with
    |false=>simp[h1,h2,hx]at h
    |true =>
     simp only[h1,h2,hx,Bov,Box,Bp0]at h;have e1:=Boy h1;have e2:=Boy h2;subst e1;subst e2;subst h;refine mk (fun g w u hr=>?_) (fun e=>by cases e);simp only[XV.a]at hr⊢;cases hr with
     |nm _ _ _ h=>exact .nm _ _ _ h
 ·cases hx:ex with
  |true=>simp[hx]at h
  |false =>
   rw[hx]at mk;simp only[hx,Box,Bp0]at h;subst h;refine mk (fun g w u hr=>?_) (fun e=>by cases e);simp only[XV.a,XD.d]at hr⊢;cases hr with
   |d _ _ h1=>cases h1;exact .nm _ _ _ rfl
 ·cases h
def P9{β R:Type}(f fl:Nat→Nat)(ex:Bool):(l:A2 VK)→Ajy l β→A2 XV→A2 XV→(β→A2 XV→A3 R)→A3 R
 |[],F,[],acc,K=>K F acc
 |.d t::r,F,cs,acc,K=>match A3l (cs.take t.size) with
  |some ds=>cond (cond ex (Ij ds) true) (match t.dec ds with
   |some (y,[])=>P9 f fl ex r (F y) (cs.drop t.size) (acc++(t.enc y).map .d) K
   |_=>none) none
  |none=>none
 |.p k off::r,F,c::cs,acc,K=>cond (Ag6 (f k) off c) (P9 f fl ex r F cs (acc++[.nm k (A07 off)]) K) none
 |.z k off::r,F,c::cs,acc,K=>match zOf (f k) off ex c with
  |some b=>P9 f fl ex r (F b) cs (acc++[.nm k (.z b off)]) K
  |none=>none
 |.Px p::r,F,c::cs,acc,K=>cond (A1i p c) (P9 f fl ex r F cs (acc++[A40 p]) K) none
 |.os k t::r,F,c::cs,acc,K=>match Bet (f k) t c with
  |some n=>P9 f fl ex r (F n) cs (acc++[.os k t 0 n]) K
  |none=>none
 |.Be n t ty::r,F,c::cs,acc,K=>match Bb9 (fl n) t ty c with
  |some l=>P9 f fl ex r (F l) cs (acc++[.Be n t l ty]) K
  |none=>none
 |_,_,_,_,_=>none
theorem Wx{β R:Type}{Q:β→A2 XV→Prop}{f fl:Nat→Nat}{ex:Bool}{K:β→A2 XV→A3 R}{r:R}:∀(l:A2 VK) (F:Ajy l β) (cs us acc:A2 XV),Ajz Q l F acc→A0b f fl ex us acc→P9 f fl ex l F cs acc K=some r →
  ∃F' xs,Q F' xs∧A0b f fl ex (us++cs) xs∧K F' xs=some r
 |[],F,[],us,acc,hg,hr,h=>⟨F,acc,hg,by simpa using hr,h⟩
 |[],F,_::_,us,acc,hg,hr,h=>by simp[P9]at h
 |.p k off::l,F,[],us,acc,hg,hr,h=>by simp[P9]at h
 |.Be n t ty::l,F,[],us,acc,hg,hr,h=>by simp[P9]at h
 |.z k off::l,F,[],us,acc,hg,hr,h=>by simp[P9]at h
 |.os k t::l,F,[],us,acc,hg,hr,h=>by simp[P9]at h
 |.Px p::l,F,[],us,acc,hg,hr,h=>by simp[P9]at h
 |.Px p::l,F,c::cs,us,acc,hg,hr,h=>by
  simp only[P9]at h;cases hp:A1i p c with
  |false=>simp[hp]at h
  |true =>simp only[hp,Bov]at h;obtain⟨F',xs,h1,h2,h3⟩:=Wx l F cs (us++[c]) (acc++[A40 p]) hg (hr.app (.same (x:=A40 p) (by rw[Ae5 hp];rcases p with _|_|_<;>rfl))) h;exact⟨F',xs,h1,by simpa using h2,h3⟩
 |.d t::l,F,cs,us,acc,hg,hr,h=>by
  unfold P9 at h;split at h
  ·rename_i ds hds;have hex:ex=true→Ij ds=true:=by
    intro e;subst e;cases hp:Ij ds with
    |true=>rfl
    |false=>simp[hp]at h
   have h:(match t.dec ds with
    |some (y,[])=>P9 f fl ex l (F y) (cs.drop t.size) (acc++(t.enc y).map .d) K
    |_=>none)=some r:=by
    cases hc:(cond ex (Ij ds) true) with
    |true=>simpa[hc]using h
    |false=>simp[hc]at h
   split at h
   ·rename_i y hy;have e1:=Awm hds;have Bl5:=A0b.data (f:=f) (fl:=fl) (ex:=ex) hy hex;rw[← e1]at Bl5;obtain⟨F',xs,h1,h2,h3⟩:=Wx l (F y) (cs.drop t.size) (us++cs.take t.size) _ (hg y) (hr.app Bl5) h;refine⟨F',xs,h1,?_,h3⟩;rw[Bru,Bra]at h2;exact h2
   ·cases h
  ·cases h
 |.p k off::l,F,c::cs,us,acc,hg,hr,h=>by
  simp only[P9]at h;cases hp:Ag6 (f k) off c with
  |false=>simp[hp]at h
  |true =>simp only[hp,Bov]at h;obtain⟨F',xs,h1,h2,h3⟩:=Wx l F cs (us++[c]) (acc++[.nm k (A07 off)]) hg (hr.app (.same (x:=.nm k (A07 off)) (Ak0 hp))) h;exact⟨F',xs,h1,by simpa using h2,h3⟩
 |.z k off::l,F,c::cs,us,acc,hg,hr,h=>by
  simp only[P9]at h;split at h
  ·rename_i b hb;obtain⟨F',xs,h1,h2,h3⟩:=Wx l (F b) cs (us++[c]) _ (hg b) (hr.app (Beu hb)) h;exact⟨F',xs,h1,by simpa using h2,h3⟩
  ·cases h
 |.os k t::l,F,c::cs,us,acc,hg,hr,h=>by
  simp only[P9]at h;split at h
  ·rename_i n hn;obtain⟨F',xs,h1,h2,h3⟩:=Wx l (F n) cs (us++[c]) _ (hg n) (hr.app (.same (x:=.os k t 0 n) (B43 hn))) h;exact⟨F',xs,h1,by simpa using h2,h3⟩
  ·cases h
 |.Be n t ty::l,F,c::cs,us,acc,hg,hr,h=>by
  simp only[P9]at h;split at h
  ·rename_i u hu;obtain⟨F',xs,h1,h2,h3⟩:=Wx l (F u) cs (us++[c]) _ (hg u) (hr.app (.same (x:=.Be n t u ty) (Bba hu))) h;exact⟨F',xs,h1,by simpa using h2,h3⟩
  ·cases h
def InR(f fl:Nat→Nat)(ko:A2 Nat)(objs:A2 (Nat×A9))(p:Nat×A9):Prop :=
 ∃o,lk (f p.1) objs=some o∧Agy o.o (p.2.mp f fl).o∧(inl p.1 ko=true→o.o=(p.2.mp f fl).o)
def B44{β R:Type}(f fl:Nat→Nat)(ko:A2 Nat)(objs:A2 (Nat×A9)):(l:A2 (Nat×A2 VK×A3 TypeId))→B6x l β→A2 (Nat×A9)→(β→A2 (Nat×A9)→A3 R)→A3 R
 |[],F,acc,K=>K F acc
 |p::r,F,acc,K=>match lk (f p.1) objs with
  |some (.cells cs ty)=>cond (Abg ty p.2.2) (P9 f fl (inl p.1 ko) p.2.1 F cs [] fun F' xs=>B44 f fl ko objs r F' (acc++[(p.1,.cells xs p.2.2)]) K) none
  |_=>none
def Ru.obs{a b:A2 AV}(h:Ru a b):Agy (.cells a ty) (.cells b ty):=by refine .cells h.length (fun i x y hx hy=>?_) (.inl rfl);obtain⟨x',hx',hle⟩:=h.get hy;rw[hx]at hx';cases hx';exact hle
theorem Ak1{β R:Type}{Q:β→A2 (Nat×A9)→Prop}{f fl:Nat→Nat}{ko:A2 Nat}{objs:A2 (Nat×A9)}{K:β→A2 (Nat×A9)→A3 R}{r:R}:∀(l:A2 (Nat×A2 VK×A3 TypeId)) (F:B6x l β) (acc:A2 (Nat×A9)),Bep Q l F acc→(∀p∈acc,InR f fl ko objs p)→B44 f fl ko objs l F acc K=some r →
  ∃F' os,Q F' os∧(∀p∈os,InR f fl ko objs p)∧K F' os=some r
 |[],F,acc,hg,hr,h=>⟨F,acc,hg,hr,h⟩
 |q::l,F,acc,hg,hr,h=>by
  simp only[B44]at h;split at h
  ·rename_i cs ty hk;cases ht:Abg ty q.2.2 with
   |false=>simp[ht]at h
   |true =>
    simp only[ht,Bov]at h;have e:=Ajf ht;subst e;obtain⟨F',xs,h1,h2,h3⟩:=Wx q.2.1 F cs [] [] hg ⟨.nil,fun _=>rfl⟩ h;refine Ak1 l F' _ h1 ?_ h3;intro p hp;rcases Bp4.1 hp with hp|hp
    ·exact hr p hp
    ·simp only[Bpg]at hp;subst hp;refine⟨_,hk,?_,fun hh=>?_⟩
     ·simp only[A9.o,A9.mp];exact Ru.obs h2.1
     ·simp only[A9.o,A9.mp];have:=h2.2 hh;rw[Bpx]at this;rw[this]
  ·cases h
def OK.okc(f:Nat→Nat):OK→Bool
 |.Jo m=>Nat.beq (f m) m
 |.Cf _ _ _=>false
 |_=>true
def OK.Bbb{o:OK}{y:o.T}(h:o.okc f=true):(o.ob y).mp f fl=o.ob y:=by
 cases o with
 |Jo m=>show A9.Jo (f m) _ _ _=_;rw[Boy h];rfl
 |Cf L k v=>simp[OK.okc]at h
 |_=>rfl
def B45{β R:Type}(f:Nat→Nat)(objs:A2 (Nat×A9)):(l:A2 (Nat×OK))→B6y l β→A2 (Nat×A9)→(β→A2 (Nat×A9)→A3 R)→A3 R
 |[],F,acc,K=>K F acc
 |p::r,F,acc,K=>match lk (f p.1) objs with
  |some o=>match p.2.dec o with
   |some y=>cond (p.2.okc f) (B45 f objs r (F y) (acc++[(p.1,p.2.ob y)]) K) none
   |none=>none
  |none=>none
theorem Ak2{β R:Type}{Q:β→A2 (Nat×A9)→Prop}{f fl:Nat→Nat}{ko:A2 Nat}{objs:A2 (Nat×A9)}{K:β→A2 (Nat×A9)→A3 R}{r:R}:∀(l:A2 (Nat×OK)) (F:B6y l β) (acc:A2 (Nat×A9)),Beq Q l F acc→(∀p∈acc,InR f fl ko objs p)→B45 f objs l F acc K=some r →
  ∃F' os,Q F' os∧(∀p∈os,InR f fl ko objs p)∧K F' os=some r
 |[],F,acc,hg,hr,h=>⟨F,acc,hg,hr,h⟩
 |q::l,F,acc,hg,hr,h=>by
  obtain⟨qk,qt⟩:=q;simp only[B45]at h;split at h
  ·rename_i o hk;split at h
   ·rename_i y hy;cases hc:qt.okc f with
    |false=>simp[hc]at h
    |true =>
    simp only[hc,Bov]at h;refine Ak2 l _ _ (hg y) ?_ h;intro p hp;rcases Bp4.1 hp with hp|hp
    ·exact hr p hp
    ·simp only[Bpg]at hp;subst hp;refine⟨_,hk,?_,fun _=>?_⟩
     ·rw[OK.Bbb hc,OK.Asi hy];exact .refl _
     ·rw[OK.Bbb hc,OK.Asi hy]
   ·cases h
  ·cases h
def A6z(c:Cut)(y:c.T):A2 (Nat×A9):=R4 c.objs y.2.1++(Sz c.own y.2.2.1++Ma c.R3 y.2.2.2)
def Ax2(s0:Af)(c:Cut)(y:c.T):(gen s0 c y).objs=A6z c y++Mv s0.objs c.P7:=by simp[gen,A6z]
def Ax3(ns:A2 Nat)(f:Nat→Nat)(F:A2 Nat)(objs:A2 (Nat×A9)):A2 (Nat×A9)→Bool
 |[]=>true
 |p::r=>cond (cond (inl p.1 ns) true (cond (inl (f p.1) F) (match lk (f p.1) objs with
  |none=>true
  |some _=>false) false)) (Ax3 ns f F objs r) false
theorem Ak3{ns:A2 Nat}{f:Nat→Nat}{F:A2 Nat}{objs:A2 (Nat×A9)}:∀ {l:A2 (Nat×A9)},Ax3 ns f F objs l=true→∀p∈l,p.1∈ns∨(f p.1∈F∧lk (f p.1) objs=none)
 |[],_=>by simp
 |q::r,h=>by
  simp only[Ax3]at h;have hr:Ax3 ns f F objs r=true∧(q.1∈ns∨(f q.1∈F∧lk (f q.1) objs=none)):=by
   cases h1:inl q.1 ns with
   |true=>simp only[h1,Bov]at h;exact⟨h,.inl ((Cx _ _).1 h1)⟩
   |false =>
    cases h2:inl (f q.1) F with
    |false=>simp[h1,h2]at h
    |true =>
     cases h3:lk (f q.1) objs with
     |some _=>simp[h1,h2,h3]at h
     |none=>simp only[h1,h2,h3,Bov,Box]at h;exact⟨h,.inr ⟨(Cx _ _).1 h2,rfl⟩⟩
  intro p hp;rcases Boz.1 hp with rfl|hp
  ·exact hr.2
  ·exact Ak3 hr.1 p hp
def At2(fl:Nat→Nat)(E9 live:A2 Nat):A2 Nat→Bool
 |[]=>true
 |n::r=>cond (cond (inl (fl n) live) (inl (fl n) (E9.map fl)) true) (At2 fl E9 live r) false
theorem A4e{fl:Nat→Nat}{E9 live:A2 Nat}:∀ {l:A2 Nat},At2 fl E9 live l=true→∀n∈l,fl n∈live→fl n∈E9.map fl
 |[],_=>by simp
 |m::r,h=>by
  simp only[At2]at h;intro n hn hl;cases h1:inl (fl m) live with
  |false =>
   simp only[h1,Box,Bov]at h;rcases Boz.1 hn with rfl|hn
   ·rw[(Cx _ _).2 hl]at h1;cases h1
   ·exact A4e h n hn hl
  |true =>
   cases h2:inl (fl m) (E9.map fl) with
   |false=>simp[h1,h2]at h
   |true =>
    simp only[h1,h2,Bov]at h;rcases Boz.1 hn with rfl|hn
    ·exact(Cx _ _).1 h2
    ·exact A4e h n hn hl
def Bev(S:Dr)(f fl:Nat→Nat)(F:A2 Nat)(st:Af)(xs:A2 XV)(Kd s1o:A2 (Nat×A9))(s1l:A2 Nat)(res:XV):Bool :=
 cond (Dt st.objs) (cond (I0 S.names) (cond (I0 (S.names.map f)) (cond (Vd S.names S.E9 Kd) (cond (Vd (s1o.map (·.1)) s1l s1o) (cond (I0 (s1o.map fun p=>f p.1)) (cond (Ax3 S.names f F st.objs s1o)
 (cond (An3 S.names (s1o.map (·.1))) (cond (Fk F (Abx f fl Kd st.objs)) (cond (An3 (S.E9.map fl) st.live) (cond (I0 (S.E9.map fl)) (cond (I0 (s1l.map fl)) (cond (An3 (s1l.map fl) F)
 (cond (At2 fl S.E9 st.live s1l) (cond (A8v S.names S.E9 xs) (res.nms (s1o.map (·.1)) s1l) false) false) false) false) false) false) false) false) false) false) false) false) false) false) false
structure Bl6(S:Dr)(f fl:Nat→Nat)(F:List Nat)(st:Af)(xs:List XV)(Kd s1o:List (Nat×A9))(s1l:List Nat)(res:XV):Prop where
 Bio:Dt st.objs=true
 nd1:S.names.Nodup
 nd2:(S.names.map f).Nodup
 Bl7:Vd S.names S.E9 Kd=true
 B46:Vd (s1o.map (·.1)) s1l s1o=true
 nd3:(s1o.map fun p=>f p.1).Nodup
 new:∀p∈s1o,p.1∈S.names∨(f p.1∈F∧lk (f p.1) st.objs=none)
 sub:∀x∈S.names,x∈s1o.map (·.1)
 free:Fk F (Abx f fl Kd st.objs)=true
 l1:∀x∈S.E9.map fl,x∈st.live
 l2:(S.E9.map fl).Nodup
 l3:(s1l.map fl).Nodup
 l4:∀x∈s1l.map fl,x∈F
 l5:∀n∈s1l,fl n∈st.live→fl n∈S.E9.map fl
 xsn:A8v S.names S.E9 xs=true
 Bnc:res.nms (s1o.map (·.1)) s1l=true
variable{g:Gh}{S:Dr}{Kd l objs told:A2 (Nat×A9)}{w:World}{cs:A2 Value}{q:Nat×A9}{gs:A2 (Nat×AV)}
def B71{s1o:A2 (Nat×A9)}{s1l:A2 Nat}(h:Bev S f fl F st xs Kd s1o s1l res=true):Bl6 S f fl F st xs Kd s1o s1l res:=by
 unfold Bev at h;have c:∀ {a b:Bool},cond a b false=true→a=true∧b=true:=by intro a b h;cases a<;>simp at h;exact⟨rfl,h⟩
 obtain⟨h0,h⟩:=c h;obtain⟨h1,h⟩:=c h;obtain⟨h2,h⟩:=c h;obtain⟨h3,h⟩:=c h;obtain⟨h4,h⟩:=c h;obtain⟨h5,h⟩:=c h;obtain⟨h6,h⟩:=c h;obtain⟨h7,h⟩:=c h;obtain⟨h8,h⟩:=c h;obtain⟨h9,h⟩:=c h;obtain⟨h10,h⟩:=c h;obtain⟨h11,h⟩:=c h;obtain⟨h12,h⟩:=c h;obtain⟨h13,h⟩:=c h;obtain⟨h14,h⟩:=c h;exact⟨h0,Ch h1,Ch h2,h3,h4,Ch h5,Ak3 h6,Vy h7,h8,Vy h9,Ch h10,Ch h11,Vy h12,A4e h13,h14,h⟩
variable{p:Nat×Ob}
def At3(hl:Dt l=true)(h:p∈A4 l):∃q∈l,p=(q.1,q.2.o):=by rw[A3g hl]at h;obtain⟨q,hq,rfl⟩:=Bpc.1 h;exact⟨q,hq,rfl⟩
variable{acc:A2 (Nat×Ob)}
def Mb(hl:Dt l=true)(h:∀p∈l,f p.1≠j):(Cr f fl (A4 l) acc).lookup j=acc.lookup j:=by
 refine Mt _ _ j fun p hp=>?_
 obtain⟨q,hq,rfl⟩:=At3 hl hp;exact h q hq
def Uf{p:Nat×A9}(hl:Dt l=true)(hn:(l.map fun p=>f p.1).Nodup)(h:p∈l):(Cr f fl (A4 l) acc).lookup (f p.1)=some (p.2.mp f fl).o:=by have:=V6 (f:=f) (fl:=fl) (A4 l) acc (p.1,p.2.o) (by rw[A3g hl];simpa[Bsd]using hn) (by rw[A3g hl];exact Bpe (f:=fun p:Nat×A9=>(p.1,p.2.o)) h);rw[A9.Bil f fl (Gw hl p h)];exact this
variable{o:Oper}{P:Program}{X:A5}
def B72{rd:A2 (Operand×AV)}{y:S.out.T}
  (hc:Bl6 S f fl F st xs Kd (gen (S.s0 xs Kd) S.out y).objs (gen (S.s0 xs Kd) S.out y).live res) (We:Kd.map (·.1)=S.names)
  (Vu:∀p∈Kd,∃o,X.objs.lookup (f p.1)=some o∧Agy o (p.2.mp f fl).o∧(inl p.1 S.out.P7=true→o=(p.2.mp f fl).o))
  (A32:∀p∈(gen (S.s0 xs Kd) S.out y).objs,p.1∈S.names∨(f p.1∈F∧X.objs.lookup (f p.1)=none))
  (Qe:B1 F ⟨Cr f fl (A4 Kd) X.objs,X.live⟩=true) (hl1:∀x∈S.E9.map fl,x∈X.live) (hl5:∀n∈(gen (S.s0 xs Kd) S.out y).live,fl n∈X.live→fl n∈S.E9.map fl)
  (H:∀Y,A13 Y ⟨A4 Kd,S.E9⟩ (gen (S.s0 xs Kd) S.out y).X f fl F→Bi P o rd Y ⟨Cr f fl (gen (S.s0 xs Kd) S.out y).X.objs Y.objs,Hw fl Y ⟨A4 Kd,S.E9⟩ (gen (S.s0 xs Kd) S.out y).X⟩ F (res.mp f fl).a) :
  Bi P o rd X ⟨Cr f fl (A4 (A6z S.out y)) X.objs,Hw fl X ⟨A4 Kd,S.E9⟩ (gen (S.s0 xs Kd) S.out y).X⟩ F (res.mp f fl).a:=by
 generalize hs1:gen (S.s0 xs Kd) S.out y=s1 at *;have B47:s1.objs=A6z S.out y++Mv Kd S.out.P7:=by rw[← hs1,Ax2];rfl
 have nIn:Dt Kd=true:=Ls hc.Bl7;have B73:Dt s1.objs=true:=Ls hc.B46;have nW:Dt (A6z S.out y)=true:=Ave fun p hp=>Gw B73 p (by rw[B47];exact Bpi _ hp)
 have nd2:(Kd.map fun p=>f p.1).Nodup:=by have:=hc.nd2;rw[← We,Brv]at this;exact this
 let Y:A5:=⟨Cr f fl (A4 Kd) X.objs,X.live⟩;have yIn:∀p∈Kd,Y.objs.lookup (f p.1)=some (p.2.mp f fl).o:=fun p hp=>Uf nIn nd2 hp
 have At4:∀j,(∀p∈Kd,f p.1≠j)→Y.objs.lookup j=X.objs.lookup j:=fun j hj=>Mb nIn hj
 have Bbc:∀j,(∃p∈Kd,f p.1=j)∨∀p∈Kd,f p.1≠j:=by
  intro j;by_cases h:∃p∈Kd,f p.1=j
  ·exact .inl h
  ·exact .inr fun p hp e=>h ⟨p,hp,e⟩
 have hle:∀k o',Y.objs.lookup k=some o'→∃o,X.objs.lookup k=some o∧Agy o o':=by
  intro k o' ho;rcases Bbc k with ⟨p,hp,rfl⟩|hn
  ·rw[yIn p hp]at ho;cases ho;obtain⟨o,h1,h2,_⟩:=Vu p hp;exact⟨o,h1,h2⟩
  ·rw[At4 k hn]at ho;exact⟨o',ho,.refl _⟩
 have hkk:∀k,(X.objs.lookup k).isSome→(Y.objs.lookup k).isSome:=by
  intro k hk;rcases Bbc k with ⟨p,hp,rfl⟩|hn
  ·rw[yIn p hp];rfl
  ·rw[At4 k hn];exact hk
 have hXn:s1.X.objs.map (·.1)=s1.objs.map (·.1):=Hm B73;have Bbd:A13 Y ⟨A4 Kd,S.E9⟩ s1.X f fl F:=by
  refine⟨?_,?_,?_,?_,?_,?_,?_,fun j o hj _=>Hj Qe hj,?_,hc.l2,hc.l3,fun n hn=>hc.l4 _ (Bpe hn),hl5⟩
  ·intro p hp;obtain⟨q,hq,rfl⟩:=At3 nIn hp;rw[yIn q hq,A9.Bil f fl (Gw nIn q hq)]
  ·simp only[Hm nIn,We];exact A8x hc.Bl7
  ·rw[hXn];exact A8x hc.B46
  ·have:=hc.nd3;show((A4 s1.objs).map _).Nodup;rw[A3g B73];simpa[Bsd]using this
  ·simp only[Hm nIn,We];exact hc.nd1
  ·intro p hp;obtain⟨q,hq,rfl⟩:=At3 B73 hp;simp only[Hm nIn,We];rcases A32 q hq with h|⟨h1,h2⟩
   ·exact .inl h
   ·refine .inr ⟨h1,?_⟩;rw[At4]
    ·exact h2
    ·intro p hp e;obtain⟨o,h3,_⟩:=Vu p hp;rw[e,h2]at h3;cases h3
  ·intro p hp;obtain⟨q,hq,rfl⟩:=At3 nIn hp;rw[hXn];exact hc.sub _ (by rw[← We];exact Bpe (f:=fun p:Nat×A9=>p.1) hq)
  ·intro n hn;exact hl1 _ (Bpe hn)
 have h1:=Bb3 (H Y Bbd) hle hkk rfl;have ndo:=hc.nd3;rw[B47]at ndo;have same:∀j,(Cr f fl (A4 (A6z S.out y)) X.objs).lookup j=(Cr f fl s1.X.objs Y.objs).lookup j:=by
  intro j;by_cases hj:∃p∈s1.objs,f p.1=j
  ·obtain⟨p,hp,rfl⟩:=hj;have e1:(Cr f fl s1.X.objs Y.objs).lookup (f p.1)=some (p.2.mp f fl).o:=Uf B73 hc.nd3 hp;rw[e1];rw[B47]at hp;rcases Bp4.1 hp with hp|hp
   ·exact Uf nW (by
     rw[Bpn]at ndo;exact(A60 ndo).1) hp
   ·rw[Mb nW]
    ·obtain⟨hk1,hk2⟩:=Nx hp;have Oy:p∈Kd:=G5 hk2;obtain⟨o,h3,_,h4⟩:=Vu p Oy;rw[h3,h4 ((Cx _ _).2 hk1)]
    ·intro q hq e;rw[Bpn]at ndo;exact(A60 ndo).2.2 (f q.1) (Bpe (f:=fun p:Nat×A9=>f p.1) hq) (by rw[e];exact Bpe (f:=fun p:Nat×A9=>f p.1) hp)
  ·have hn:∀p∈s1.objs,f p.1≠j:=fun p hp e=>hj ⟨p,hp,e⟩
   have e1:(Cr f fl s1.X.objs Y.objs).lookup j=Y.objs.lookup j:=Mb B73 hn;rw[e1,At4 j ?_,Mb nW ?_]
   ·intro p hp;exact hn p (by rw[B47];exact Bpi _ hp)
   ·intro p hp e;have:=hc.sub p.1 (by rw[← We];exact Bpe (f:=fun p:Nat×A9=>p.1) hp);obtain⟨q,hq,hqe⟩:=Bpc.1 this;exact hn q hq (by rw[hqe];exact e)
 intro nm Ej B g w a hr Au next Q hn
 refine h1 nm Ej B g w a hr Au next Q fun g' w' v hr' ht hv=>hn g' w' v ?_ ht hv
 refine B42 hr' (fun k o' ho=>⟨o',?_,.refl _⟩) (fun k hk=>?_) rfl
 ·rw[← same k];exact ho
 ·rw[same k];exact hk
def Aek(o:Oper):Nat:=match o.dst with
 |some d=>1000000+1000*d
 |none=>999000
def Bbe:A2 (Nat×Nat)→A2 XV→A2 (Nat×Nat)→A2 (Nat×Nat)
 |p::ps,.nm k _::cs,σ=>Bbe ps cs ((p.1,k)::σ)
 |_::ps,_::cs,σ=>Bbe ps cs σ
 |_,_,σ=>σ
def Ag7:A2 AS→A2 XV→A2 (Nat×Nat)→A2 (Nat×Nat)
 |.p k _::r,.nm k' _::vs,σ=>Ag7 r vs ((k,k')::σ)
 |.os k _::r,.os k' _ _ _::vs,σ=>Ag7 r vs ((k,k')::σ)
 |.oa k _ _::r,.os k' _ _ _::vs,σ=>Ag7 r vs ((k,k')::σ)
 |.F1 _ ps::r,.F1 _ Jd::vs,σ=>Ag7 r vs (Bbe ps Jd σ)
 |_::r,_::vs,σ=>Ag7 r vs σ
 |_,_,σ=>σ
def Ax4:A2 VK→A2 XV→A2 (Nat×Nat)×A2 (Nat×Nat)→A2 (Nat×Nat)×A2 (Nat×Nat)
 |.d t::r,cs,σ=>Ax4 r (cs.drop t.size) σ
 |.p k _::r,.nm k' _::cs,σ=>Ax4 r cs ((k,k')::σ.1,σ.2)
 |.Be n _ _::r,.Be n' _ _ _::cs,σ=>Ax4 r cs (σ.1,(n,n')::σ.2)
 |_::r,_::cs,σ=>Ax4 r cs σ
 |_,_,σ=>σ
def Bbf(objs:A2 (Nat×A9)):A2 (Nat×A2 VK×A3 TypeId)→A2 (Nat×Nat)×A2 (Nat×Nat)→A2 (Nat×Nat)×A2 (Nat×Nat)
 |[],σ=>σ
 |p::r,σ=>match lk (nf σ.1 p.1) objs with
  |some (.cells cs _)=>Bbf objs r (Ax4 p.2.1 cs σ)
  |_=>Bbf objs r σ
def Bbg(ns:A2 Nat)(b:Nat):A2 Nat→A2 (Nat×Nat)
 |[]=>[]
 |k::r=>cond (inl k ns) (Bbg ns b r) ((k,b+k)::Bbg ns b r)
def Bgr(b:Nat):A2 Nat→A2 (Nat×Nat)
 |[]=>[]
 |n::r=>(n,b)::Bgr (b+1) r
def Bl8(S:Dr)(o:Oper):A2 (Nat×Nat):=Bbg S.names (Aek o) (Ii S.out.objs++(ownNames S.out.own++Fc S.out.R3))
def Ap2(S:Dr)(o:Oper)(st:Af)(vs:A2 XV):A2 (Nat×Nat)×A2 (Nat×Nat) :=
 let σ:=Bbf st.objs S.objs (Ag7 S.args vs [],[])
 (σ.1++Bl8 S o,σ.2++Bgr (3000000+Aek o) S.out.E9)
def Ug{α:Type}:A2 α→Bool
 |[]=>true
 |_=>false
def Wy:A2 XV→Bool
 |[]=>true
 |.d _::r=>Wy r
 |_=>false
theorem At5{f fl:Nat→Nat}:∀ {l:A2 XV},Wy l=true→mpL f fl l=l
 |[],_=>rfl
 |.d x::r,h=>by
  have:=At5 (f:=f) (fl:=fl) (l:=r) h;simp only[mpL,XV.mp,this]
 |.nm _ _::_,h=>by simp[Wy]at h
 |.Be _ _ _ _::_,h=>by simp[Wy]at h
 |.F2 _::_,h=>by simp[Wy]at h
 |.agg _::_,h=>by simp[Wy]at h
 |.F1 _ _::_,h=>by simp[Wy]at h
 |.os _ _ _ _::_,h=>by simp[Wy]at h
 |.el _ _ _ _::_,h=>by simp[Wy]at h
 |.Vs _ _ _ _::_,h=>by simp[Wy]at h
theorem A1r:∀ {l:A2 XV},Wy l=true→Az (A7 l)=true
 |[],_=>rfl
 |.d x::r,h=>by
  have:=A1r (l:=r) h;simp only[A7,XV.a,Az,Kq,this,Bqo]
 |.nm _ _::_,h=>by simp[Wy]at h
 |.Be _ _ _ _::_,h=>by simp[Wy]at h
 |.F2 _::_,h=>by simp[Wy]at h
 |.agg _::_,h=>by simp[Wy]at h
 |.F1 _ _::_,h=>by simp[Wy]at h
 |.os _ _ _ _::_,h=>by simp[Wy]at h
 |.el _ _ _ _::_,h=>by simp[Wy]at h
 |.Vs _ _ _ _::_,h=>by simp[Wy]at h
def Bip{R:Type}(P:Program)(fn:Func)(S:Dr)(f fl:Nat→Nat)(nw:A2 Nat)(st:Af)(rd:A2 (Operand×XV))(xs:A2 XV)(Kd:A2 (Nat×A9))(K:Out→A3 R)(y:S.out.T):A3 R :=
 match Abp P (gen (S.s0 xs Kd) S.out y) fn.results.toList with
 |some rs=>cond (Wy (xs.drop S.n)) (
  cond (Bev S f fl (nw++(gen (S.s0 xs Kd) S.out y).live.map fl) st xs Kd (gen (S.s0 xs Kd) S.out y).objs (gen (S.s0 xs Kd) S.out y).live (Lj rs))
   (cond (cond (Ug (A6z S.out y)) (cond (Ug (nw++(gen (S.s0 xs Kd) S.out y).live.map fl)) (Ug S.E9) false) false)
    (K ⟨.look (S.names.map f),(Lj rs).mp f fl,rd,st.objs,st.live,[],[]⟩)
    (K ⟨.all,(Lj rs).mp f fl,rd,Abx f fl (A6z S.out y) st.objs,Hw fl st.X ⟨[],S.E9⟩ ⟨[],(gen (S.s0 xs Kd) S.out y).live⟩,nw++(gen (S.s0 xs Kd) S.out y).live.map fl,(A6z S.out y).map fun p=>f p.1⟩)) none) none
 |none=>none
def Ael{R:Type}:A2 (Nat×Nat)→(A2 (Nat×Nat)→R)→R
 |[],K=>K []
 |p::r,K=>Ael r fun r'=>K ((p.1,p.2)::r')
theorem W0{R:Type}:∀(l:A2 (Nat×Nat)) (K:A2 (Nat×Nat)→R),Ael l K=K l
 |[],K=>rfl
 |p::r,K=>by
  simp only[Ael];rw[W0 r]
def B48{R:Type}(P:Program)(fn:Func)(S:Dr)(F:S.Bb (A3 S.out.T))(o:Oper)(st:Af)(rd:A2 XV→A2 (Operand×XV))(vs:A2 XV)(K:Out→A3 R):A3 R :=
 Ael (Ap2 S o st vs).1 fun σ=>Ael (Ap2 S o st vs).2 fun τ =>
  Ll (nf σ) S.args F vs [] fun F' xs =>
   B44 (nf σ) (nf τ) S.out.P7 st.objs S.objs F' [] fun F'' os =>B45 (nf σ) st.objs S.R3 F'' os fun F3 os' =>Option.bind F3 fun y=>T1 S.out.own y.2.2.1 fun u=>Bip P fn S (nf σ) (nf τ) ((Bl8 S o).map (·.2)) st (rd (mpL (nf σ) (nf τ) xs)) xs os' K (y.1,y.2.1,u,y.2.2.2)
def Biq{R:Type}(P:Program)(fn:Func)(S:Dr)(F:S.Bb (A3 S.out.T))(o:Oper)(st:Af)(vs:A2 XV)(K:Out→A3 R):A3 R :=
 cond (Nat.beq (B9 o).length S.n) (match Bx st (Asy S.D2) with
  |some us=>B48 P fn S F o st (fun ms=>(Asz (B9 o) (Asy S.D2)).zip ms) (Asz vs us) K
  |none=>none) none
def Ak4(o:Oper):Operand :=
 match o.op with
 |.call c=>match c.callee with
  |.value x=>x
  |_=>.const undef
 |_=>.const undef
def Bbh{R:Type}(P:Program)(id:FuncId)(fn:Func)(S:Dr)(F:S.Bb (A3 S.out.T))(o:Oper)(st:Af)(Jd vs:A2 XV)(K:Out→A3 R):A3 R :=
 cond (cond (Aej Jd) (cond (Ug S.D2) (Nat.beq S.n (vs.length+Jd.length)) false) false) (B48 P fn S F o st (fun ms=>(Ak4 o,.F1 id Jd)::(B9 o).zip ms) (vs++Jd) K) none
def A67{α:Type}{l:A2 α}(h:Ug l=true):l=[]:=by cases l<;>simp[Ug]at h;rfl
variable{c:FuncId}{fn:Func}{Y:A5}
def B49{R:Type}{id:FuncId}{nw:A2 Nat}{rd:A2 (Operand×XV)}{K:Out→A3 R}{y:S.out.T}{r:R}
  (hg:Bb5 P id fn S y xs Kd) (Vu:∀p∈Kd,InR f fl S.out.P7 st.objs p) (A6y:∀p∈Ay rd,Dx st.im p.1 p.2)
  (H:∀(rs:A2 XV) (F:A2 Nat) (Y:A5),Wy (xs.drop S.n)=true→Afh P id (A7 (xs.take S.n)) (S.D2.zip (A7 (xs.drop S.n))) ⟨A4 Kd,S.E9⟩ (Lj rs).a (gen (S.s0 xs Kd) S.out y).X→A8v S.names S.E9 xs=true→Kd.map (·.1)=S.names→(Dt Kd=true∧Dt (gen (S.s0 xs Kd) S.out y).objs=true)→(Lj rs).nms ((gen (S.s0 xs Kd) S.out y).objs.map (·.1)) (gen (S.s0 xs Kd) S.out y).live=true→A13 Y ⟨A4 Kd,S.E9⟩ (gen (S.s0 xs Kd) S.out y).X f fl F →
   Bi P o (Ay rd) Y ⟨Cr f fl (gen (S.s0 xs Kd) S.out y).X.objs Y.objs,Hw fl Y ⟨A4 Kd,S.E9⟩ (gen (S.s0 xs Kd) S.out y).X⟩ F ((Lj rs).mp f fl).a)
  (h:Bip P fn S f fl nw st rd xs Kd K y=some r):∃out,K out=some r∧Bp P o st out:=by
 unfold Bip at h;split at h
 ·rename_i rs hrs;cases An7:Wy (xs.drop S.n) with
  |false=>rw[An7]at h;cases h
  |true =>
  rw[An7,Bov]at h;generalize Bbi:Bev S f fl (nw++(gen (S.s0 xs Kd) S.out y).live.map fl) st xs Kd (gen (S.s0 xs Kd) S.out y).objs (gen (S.s0 xs Kd) S.out y).live (Lj rs)=b at h;cases b with
  |false=>cases h
  |true =>
   have hc:=B71 Bbi;simp only[Bov]at h;obtain⟨We,nIn,Bbj⟩:=hg;have hd:=Bbj rs hrs;have core:∀X:A5,(∀p∈Kd,∃o,X.objs.lookup (f p.1)=some o∧Agy o (p.2.mp f fl).o∧(inl p.1 S.out.P7=true→o=(p.2.mp f fl).o)) →
     (∀p∈(gen (S.s0 xs Kd) S.out y).objs,p.1∈S.names∨(f p.1∈(nw++(gen (S.s0 xs Kd) S.out y).live.map fl)∧X.objs.lookup (f p.1)=none)) →
     B1 (nw++(gen (S.s0 xs Kd) S.out y).live.map fl) ⟨Cr f fl (A4 Kd) X.objs,X.live⟩=true→(∀x∈S.E9.map fl,x∈X.live)→(∀n∈(gen (S.s0 xs Kd) S.out y).live,fl n∈X.live→fl n∈S.E9.map fl) →
     Bi P o (Ay rd) X ⟨Cr f fl (A4 (A6z S.out y)) X.objs,Hw fl X ⟨A4 Kd,S.E9⟩ (gen (S.s0 xs Kd) S.out y).X⟩ (nw++(gen (S.s0 xs Kd) S.out y).live.map fl) ((Lj rs).mp f fl).a:=by
    intro X h1 h2 h3 h4 h5;exact B72 hc We h1 h2 h3 h4 h5 (fun Y hY=>H rs _ Y An7 hd hc.xsn We ⟨nIn,Ls hc.B46⟩ hc.Bnc hY)
   cases A7k:(cond (Ug (A6z S.out y)) (cond (Ug (nw++(gen (S.s0 xs Kd) S.out y).live.map fl)) (Ug S.E9) false) false) with
   |true =>
    rw[A7k]at h;simp only[Bov]at h;have hl:A6z S.out y=[]∧nw++(gen (S.s0 xs Kd) S.out y).live.map fl=[]∧S.E9=[]:=by
     cases e1:Ug (A6z S.out y) with
     |false=>simp[e1]at A7k
     |true =>
      cases e2:Ug (nw++(gen (S.s0 xs Kd) S.out y).live.map fl) with
      |false=>simp[e1,e2]at A7k
      |true=>simp only[e1,e2,Bov]at A7k;exact⟨A67 e1,A67 e2,A67 A7k⟩
    obtain⟨w1,w2,w3⟩:=hl;refine⟨_,h,⟨A6y,⟨rfl,rfl,rfl,fun X hX=>?_⟩,fun _ _ _ h=>h⟩⟩;have hlv:(gen (S.s0 xs Kd) S.out y).live=[]:=by have:=(List.append_eq_nil_iff.1 w2).2;simpa using this
    have Mk:∀p∈Kd,X.objs.lookup (f p.1)=st.X.objs.lookup (f p.1):=fun p hp=>hX _ (Bpc.2 ⟨p.1,by rw[← We];exact Bpe (f:=fun p:Nat×A9=>p.1) hp,rfl⟩)
    have c1:=core X (fun p hp=>by
      obtain⟨o,h1,h2,h3⟩:=Vu p hp;exact⟨o.o,by rw[Mk p hp];exact Pv h1,h2,h3⟩) (fun p hp=>by
      rcases hc.new p hp with h|⟨h,_⟩
      ·exact .inl h
      ·rw[w2]at h;cases h) (by rw[w2];rfl) (by rw[w3];simp) (by rw[hlv];simp)
    rw[w2,w1]at c1;have e:Hw fl X ⟨A4 Kd,S.E9⟩ (gen (S.s0 xs Kd) S.out y).X=X.live:=by unfold Hw;show(gen (S.s0 xs Kd) S.out y).live.map fl++_=_;rw[hlv,w3];simp
    rw[e]at c1;exact c1
   |false =>
    rw[A7k]at h;simp only[Box]at h;refine⟨_,h,⟨A6y,?_,fun j x hj hx=>?_⟩⟩
    ·have c1 := core st.X (fun p hp => by
       obtain⟨o,h1,h2,h3⟩:=Vu p hp;exact⟨o.o,Pv h1,h2,h3⟩) (fun p hp=>by
       rcases hc.new p hp with h|⟨h,h'⟩
       ·exact .inl h
       ·refine .inr ⟨h,?_⟩;show(A4 st.objs).lookup _=none;rw[Bdv hc.Bio,h'];rfl) (by
       have:=V7 (live:=st.live) hc.free;rw[Ajw f fl nIn hc.Bio]at this;exact this) hc.l1 hc.l5
     have e1:A4 (Abx f fl (A6z S.out y) st.objs)=Cr f fl (A4 (A6z S.out y)) st.X.objs:=Ajw f fl (Ave fun p hp=>Gw (Ls hc.B46) p (by rw[Ax2];exact Bpi _ hp)) hc.Bio;show Bi P o (Ay rd) st.X ⟨A4 (Abx f fl (A6z S.out y) st.objs),_⟩ _ _;rw[e1];exact c1
    ·rw[Ag4]at hx
     ·exact hx
     ·intro p hp e;exact hj (Bpc.2 ⟨p,hp,e⟩)
 ·cases h
theorem Ax5{α β:Type}:∀(a:A2 α) (b c:A2 β),a.length=b.length→a.zip (b++c)=a.zip b
 |[],b,c,h=>by simp
 |x::a,[],c,h=>by simp at h
 |x::a,y::b,c,h=>by simp only[Br1,Brx];rw[Ax5 a b c (by simpa using h)]
theorem Ap3{ks ls:A2 Nat}:∀ {l:A2 XV} (n:Nat),A8v ks ls l=true→A8v ks ls (l.take n)=true
 |[],n,_=>by simp[A8v]
 |x::r,0,_=>rfl
 |x::r,n+1,h=>by
  simp only[A8v]at h;cases hx:x.nms ks ls with
  |false=>simp[hx]at h
  |true =>simp only[hx,Bov]at h;simp only[Btn,A8v,hx,Bov];exact Ap3 n h
variable{Bf:Array Operand}{ts:Array TypeId}
def Bew{R:Type}{id:FuncId}{F:S.Bb (A3 S.out.T)}(hc:Ed P id)(hs:Bb6 P id fn S F){K:Out→A3 R}{r:R}
  (ho:o.op = .call { callee:=.value (.func id),args:=Bf,argTypes:=ts }) (hv:Bx st Bf.toList=some vs) (h:Biq P fn S F o st vs K=some r):∃out,K out=some r∧Bp P o st out:=by
 have e:B9 o=Bf.toList:=by simp[B9,ho]
 unfold Biq at h;rw[e]at h;cases hb:Nat.beq Bf.toList.length S.n with
 |false=>rw[hb]at h;cases h
 |true =>
 have hn:Bf.toList.length=S.n:=Boy hb;rw[hb,Bov]at h;split at h
 ·rename_i us hus;rw[A65,A65,A0a]at h;rw[A0a]at hus;unfold B48 at h;rw[W0,W0]at h;generalize (Ap2 S o st (vs++us)).1=σ at h;generalize (Ap2 S o st (vs++us)).2=τ at h;obtain⟨F',xs,q1,a1,h⟩:=P8 (fl:=nf τ) S.args F (vs++us) [] [] hs .nil h;obtain⟨F'',os,q2,a2,h⟩:=Ak1 S.objs F' [] q1 (by simp) h;obtain⟨F3,os',q3,a3,h⟩:=Ak2 (fl:=nf τ) (ko:=S.out.P7) S.R3 F'' os q2 a2 h;obtain⟨y,hy,h⟩:=Bq3.1 h;rw[Mz]at h;rw[Bpx]at a1;refine B49 (q3 y hy) a3 (a1.Rr (Lr hv hus)) ?_ h;intro rs Fr Y An7 hd hx We hna hr Bbd;have hxl:xs.length=Bf.toList.length+(S.D2.map Operand.global).length:=by have h1:=a1.length;have h2:=Hz (Lr hv hus);rw[@List.length_append _ Bf.toList]at h2;omega
  have htk:(xs.take S.n).length=Bf.size:=by
   rw[Bq1,hxl];have:Bf.toList.length=Bf.size:=by simp
   omega
  have:=An5 (X:=Y) (D2:=S.D2) (ys:=A7 (xs.drop S.n)) (nf σ) (nf τ) Fr ho hc hd Bbd (by rw[Ah,htk]) (by
    simp only[Hm hna.1,We];refine A8w ?_;exact Ap3 _ hx) (A1r An7) (by
    have e:(gen (S.s0 xs os') S.out y).X.objs.map (·.1)=(gen (S.s0 xs os') S.out y).objs.map (·.1):=Hm hna.2;rw[e];exact XV.Bb1 hr)
  have hz:Ay ((Bf.toList++S.D2.map Operand.global).zip (mpL (nf σ) (nf τ) xs))=Bf.toList.zip (Oz (nf σ) (nf τ) (A7 (xs.take S.n)))++(S.D2.map Operand.global).zip (A7 (xs.drop S.n)):=by
   conv=>lhs;rw[← Bra S.n xs]
   rw[Ww,At5 An7,Bt8 (by rw[Abw,Bpl,htk];simp),Eu,J0,J0,Ag3]
  rw[hz,← XV.Bik]at *;exact this
 ·cases h
def Bbk{R:Type}{id:FuncId}{F:S.Bb (A3 S.out.T)}(hc:Ed P id)(hs:Bb6 P id fn S F){t:Tmp}{Jd:A2 XV}{K:Out→A3 R}{r:R}
  (ho:o.op = .call { callee:=.value (.tmp t),args:=Bf,argTypes:=ts }) (B6o:Av st (.tmp t)=some (.F1 id Jd)) (hv:Bx st Bf.toList=some vs) (h:Bbh P id fn S F o st Jd vs K=some r):∃out,K out=some r∧Bp P o st out:=by
 have e:B9 o=Bf.toList:=by simp[B9,ho]
 have e2:Ak4 o = .tmp t:=by simp[Ak4,ho]
 unfold Bbh B48 at h;cases Bbl:Aej Jd with
 |false=>simp[Bbl]at h
 |true =>
 cases hgn:Ug S.D2 with
 |false=>simp[Bbl,hgn]at h
 |true =>
 have Bl9:=A67 hgn;cases hbn:Nat.beq S.n (vs.length+Jd.length) with
 |false=>simp[Bbl,hgn,hbn]at h
 |true =>
 simp only[Bbl,hgn,hbn,Bov]at h;rw[e,e2,W0,W0]at h;generalize (Ap2 S o st (vs++Jd)).1=σ at h;generalize (Ap2 S o st (vs++Jd)).2=τ at h;obtain⟨F',xs,q1,a1,h⟩:=P8 (fl:=nf τ) S.args F (vs++Jd) [] [] hs .nil h;obtain⟨F'',os,q2,a2,h⟩:=Ak1 S.objs F' [] q1 (by simp) h;obtain⟨F3,os',q3,a3,h⟩:=Ak2 (fl:=nf τ) (ko:=S.out.P7) S.R3 F'' os q2 a2 h;obtain⟨y,hy,h⟩:=Bq3.1 h;rw[Mz]at h;rw[Bpx]at a1;have a1':=a1;obtain⟨xa,xc,rfl,a4,a5⟩:=a1.split;have Bla:=a5.Jd Bbl;have hlen:Bf.toList.length=(mpL (nf σ) (nf τ) xa).length:=by rw[Abw,Bpl,← a4.length,Hz hv]
 rw[Ww,Ax5 _ _ _ hlen]at h;have hSn:S.n=(xa++xc).length:=by have h1:=a1.length;have h2:=Boy hbn;simp only[Bq2]at h1⊢;omega
 refine B49 (q3 y hy) a3 ?_ ?_ h
 ·intro p hp;simp only[Ay,Bp3,Boz]at hp;rcases hp with rfl|hp
  ·exact Aj (x:=.tmp t) B6o
  ·exact a4.Rr hv p hp
 ·intro rs Fr Y An7 hd hx We hna hr Bbd;rw[hSn,Bpy,Bst,Bl9]at hd;rw[Dc]at hd;have:=Agz (X:=Y) (nf σ) (nf τ) Fr ho hc hd.plain Bbd (by
    have h1:=a4.length;have h2:=Hz hv;rw[Ah,← h1,h2];simp) (by
    simp only[Hm hna.1,We];have:=A8w hx;rw[Dc]at this;exact this) (by
    have e:(gen (S.s0 (xa++xc) os') S.out y).X.objs.map (·.1)=(gen (S.s0 (xa++xc) os') S.out y).objs.map (·.1):=Hm hna.2;rw[e];exact XV.Bb1 hr)
  rw[← Ag3,← Ag3,← Bla,← J0,← XV.Bik]at this;exact this
def Bnd{P:Program}(id:FuncId)(fn:Func)(S:Dr)(F:S.Bb (A3 S.out.T))(hc:Ed P id)(hs:Bb6 P id fn S F):Ft P where
 id:=id
 run:=Biq P fn S F
 ok:=by intro R o st Bf ts vs K r ho hv h;exact Bew hc hs ho hv h
 Bib:=Bbh P id fn S F
 cok:=by intro R o st t Jd Bf ts vs K r ho B6o hv h;exact Bbk hc hs ho B6o hv h
def mkC{P:Program}{Γ:A2 (Ft P)}{own:A2 Nat}{N:Nat}(id:FuncId)(fn:Func)(an:An)(S:Dr)(F:S.Bb (A3 S.out.T))(hm:P.follows .mixedOrders=true)(hf:P.funcs[id]? = some fn)
  (hc:Ed P id) (hn:Nat.ble S.args.length fn.ntmps=true) (Ej:A90 S.names=true) (hks:Aby S=true) (hE:Bes P Γ own N fn an S=F):Ft P :=
 Bnd id fn S F hc (hE▸B11 hm hf hn Ej hks)
def H8 {P : Program} (Γ : List (Ft P)) (own : List Nat) (N : Nat) (id : FuncId) {fn : Func} (an : An) (S : Dr) (F : S.Bb (Option S.out.T)) (hm : P.follows .mixedOrders = true) (hf : P.funcs[id]? = some fn) (hb : fn.body.isSome = true) (We : (fn.name == "runtime.NumGoroutine") = false) (hn : Nat.ble S.args.length fn.ntmps = true) (Ej : A90 S.names = true) (hks : Aby S = true) (hE : Bes P Γ own N fn an S = F) : Ft P := mkC id fn an S F hm hf (.mk' hf hb We) hn Ej hks hE
def Bex (P : Program) (f : FuncId) : Prop := ∃ fn, P.funcs[f]? = some fn ∧ (fn.name == "runtime.NumGoroutine") = false ∧ fn.body = none ∧ Extern.findNext fn = none ∧ Extern.find fn = some Extern.AbiNoEscape.same
def Ax6{R:Type}(o:Oper)(st:Af)(vs:A2 XV)(K:Out→A3 R):A3 R :=
 match o.op with
 |.call c=>match c.args.toList,vs with
  |[x],[v]=>K (B0 st v [(x,v)])
  |_,_=>none
 |_=>none
def Bey{P:Program}(f:FuncId)(h:Bex P f):Ft P where
 id:=f
 run:=Ax6
 ok:=by
  intro R o st args ts vs K r ho hv hr;unfold Ax6 at hr;rw[ho]at hr;simp only at hr;split at hr
  ·rename_i x v hx;have ha:args=#[x]:=Bvr.1 hx;subst ha;refine⟨_,hr,Aa ?_ fun X=>Aql ho h⟩;simp only[Bx]at hv;split at hv
   ·rename_i y ys hy hys;simp only[Bp0,Bt7]at hv;obtain⟨rfl,_⟩:=hv;exact Cy hy
   ·cases hv
  ·cases hr
def Sh.len:Sh→Nat
 |.nil=>0
 |.d _ r=>r.len+1
 |.m _ _ r=>r.len+1
 |.s _ _ r=>r.len+1
 |.z _ _ r=>r.len+1
def Sh.D6(b:Nat→Nat):(i:Nat)→(S:Sh)→S.T→A2 XV
 |_,.nil,_=>[]
 |i,.d t r,x=>(t.enc x.1).map .d++r.D6 b (i+1) x.2
 |i,.m _ _ r,x=>(match x.1 with
  |none=>.d (.v (.map none))
  |some _=>.nm (b i) .m)::r.D6 b (i+1) x.2
 |i,.s _ _ r,x=>.nm (b i) (.p 0)::r.D6 b (i+1) x.2
 |i,.z _ _ r,x=>(match x.1 with
  |none=>.d (.v (.pointer none))
  |some _=>.nm (b i) (.p 0))::r.D6 b (i+1) x.2
def Sh.kids(b:Nat→Nat):(i:Nat)→(S:Sh)→S.T→A2 (Nat×A9)
 |_,.nil,_=>[]
 |i,.d _ r,x=>r.kids b (i+1) x.2
 |i,.m kt vt r,x=>(match x.1 with
  |none=>[]
  |some y=>[(b i,.map kt vt y.1 y.2)])++r.kids b (i+1) x.2
 |i,.s a ty r,x=>(b i,.abs (b i) a ty x.1)::r.kids b (i+1) x.2
 |i,.z a ty r,x=>(match x.1 with
  |none=>[]
  |some y=>[(b i,.abs (b i) a ty y)])++r.kids b (i+1) x.2
theorem Sh.I2(h:Nat):∀(S:Sh) (i:Nat) (x:S.T),S.cells h i x=S.D6 (Fj h) i x
 |.nil,i,x=>rfl
 |.d t r,i,x=>by simp only[Sh.cells,Sh.D6,Sh.I2 h r]
 |.m kt vt r,i,x=>by simp only[Sh.cells,Sh.D6,Sh.I2 h r];cases x.1<;>rfl
 |.s a ty r,i,x=>by simp only[Sh.cells,Sh.D6,Sh.I2 h r]
 |.z a ty r,i,x=>by simp only[Sh.cells,Sh.D6,Sh.I2 h r];cases x.1<;>rfl
theorem Sh.Ny(h:Nat):∀(S:Sh) (i:Nat) (x:S.T) (p:Nat×Ob),p∈S.C1 h i x↔∃q∈S.kids (Fj h) i x,p=(q.1,q.2.o)∨p∈q.2.C1
 |.nil,i,x,p=>by simp[Sh.C1,Sh.kids]
 |.d t r,i,x,p=>Sh.Ny h r (i+1) x.2 p
 |.m kt vt r,i,x,p=>by
  simp only[Sh.C1,Sh.kids,Bp4,Sh.Ny h r];constructor
  ·rintro (hp|⟨q,hq,h⟩)
   ·cases hx:x.1 with
    |none=>rw[hx]at hp;cases hp
    |some y=>rw[hx]at hp;rw[Bpg]at hp;exact⟨_,.inl (Bpg.2 rfl),.inl hp⟩
   ·exact⟨q,.inr hq,h⟩
  ·rintro ⟨q,hq|hq,h⟩
   ·cases hx:x.1 with
    |none=>rw[hx]at hq;cases hq
    |some y =>
     rw[hx]at hq;rw[Bpg]at hq;subst hq;rcases h with h|h
     ·exact .inl (Bpg.2 h)
     ·cases h
   ·exact .inr ⟨q,hq,h⟩
 |.s a ty r,i,x,p=>by
  simp only[Sh.C1,Sh.kids,Bp4,Boz,Sh.Ny h r];constructor
  ·rintro ((hp|hp)|⟨q,hq,h⟩)
   ·exact⟨_,.inl rfl,.inl hp⟩
   ·exact⟨_,.inl rfl,.inr hp⟩
   ·exact⟨q,.inr hq,h⟩
  ·rintro ⟨q,rfl|hq,h⟩
   ·exact .inl h
   ·exact .inr ⟨q,hq,h⟩
 |.z a ty r,i,x,p=>by
  simp only[Sh.C1,Sh.kids,Bp4,Sh.Ny h r];constructor
  ·rintro (hp|⟨q,hq,h⟩)
   ·cases hx:x.1 with
    |none=>rw[hx]at hp;cases hp
    |some y =>
     rw[hx]at hp;refine⟨_,.inl (Bpg.2 rfl),?_⟩;rcases Boz.1 hp with hp|hp
     ·exact .inl hp
     ·exact .inr hp
   ·exact⟨q,.inr hq,h⟩
  ·rintro ⟨q,hq|hq,h⟩
   ·cases hx:x.1 with
    |none=>rw[hx]at hq;cases hq
    |some y =>rw[hx]at hq;rw[Bpg]at hq;subst hq;exact .inl (Boz.2 h)
   ·exact .inr ⟨q,hq,h⟩
theorem Sh.W1(b:Nat→Nat):∀(S:Sh) (i:Nat) (x:S.T),S.small i=true→∀q∈S.kids b i x,∃j,i≤j∧j<1000∧q.1=b j∧((∃kt vt es c,q.2 = .map kt vt es c)∨∃a ty y,q.2 = .abs (b j) a ty y∧a.small 0=true)
 |.nil,i,x,hs,q,hq=>by cases hq
 |.d t r,i,x,hs,q,hq=>by
  obtain⟨j,h1,h2⟩:=Sh.W1 b r (i+1) x.2 (Ai hs).2 q hq;exact⟨j,by omega,h2⟩
 |.m kt vt r,i,x,hs,q,hq=>by
  have hi:i<1000:=by simpa[Bqx] using(Ai hs).1
  rcases Bp4.1 hq with hq|hq
  ·cases hx:x.1 with
   |none=>rw[hx]at hq;cases hq
   |some y=>rw[hx]at hq;rw[Bpg]at hq;subst hq;exact⟨i,Bpa _,hi,rfl,.inl ⟨_,_,_,_,rfl⟩⟩
  ·obtain⟨j,h1,h2⟩:=Sh.W1 b r (i+1) x.2 (Ai hs).2 q hq;exact⟨j,by omega,h2⟩
 |.s a ty r,i,x,hs,q,hq=>by
  have hi:i<1000:=by simpa[Bqx] using(Ai hs).1
  have h2:=Ai (Ai hs).2;rcases Boz.1 hq with rfl|hq
  ·exact⟨i,Bpa _,hi,rfl,.inr ⟨_,_,_,rfl,h2.1⟩⟩
  ·obtain⟨j,h3,h4⟩:=Sh.W1 b r (i+1) x.2 h2.2 q hq;exact⟨j,by omega,h4⟩
 |.z a ty r,i,x,hs,q,hq=>by
  have hi:i<1000:=by simpa[Bqx] using(Ai hs).1
  have h2:=Ai (Ai hs).2;rcases Bp4.1 hq with hq|hq
  ·cases hx:x.1 with
   |none=>rw[hx]at hq;cases hq
   |some y=>rw[hx]at hq;rw[Bpg]at hq;subst hq;exact⟨i,Bpa _,hi,rfl,.inr ⟨_,_,_,rfl,h2.1⟩⟩
  ·obtain⟨j,h3,h4⟩:=Sh.W1 b r (i+1) x.2 h2.2 q hq;exact⟨j,by omega,h4⟩
def Cs.lt{n:Nat}(h:Cs a n):a<n:=by
 induction h with
 |here i hi=>unfold Fj H0;omega
 |deep i hi _ ih=>unfold Fj H0;omega
def Cs.two{b n:Nat}(h:Cs a n)(h':Cs b n):a=b∨Cs a b∨Cs b a:=by
 induction h generalizing b with
 |here i hi =>
  generalize hn:Fj a i=n at h';cases h' with
  |here j hj=>exact .inl (Gx hi hj hn).1
  |deep j hj h2=>have:=(Gx hi hj hn).1;subst this;exact .inr (.inr h2)
 |deep i hi h1 ih =>
  rename_i m;generalize hn:Fj m i=n at h';cases h' with
  |here j hj=>have:=(Gx hi hj hn).1;subst this;exact .inr (.inl h1)
  |deep j hj h2=>have:=(Gx hi hj hn).1;subst this;exact ih h2
def Uh{α:Type}{a b:A2 α}(h1:a.Nodup)(h2:b.Nodup)(h3:∀x∈a,x∉b):(a++b).Nodup:=Btu.2 ⟨h1,h2,fun x hx y hy e=>h3 x hx (e▸hy)⟩
def Sh.At6:∀(S:Sh) (h i:Nat) (x:S.T) (p:Nat×Ob),S.small i=true→p∈S.C1 h i x→∃j,i≤j∧j<1000∧(p.1=Fj h j∨Cs (Fj h j) p.1):=by
 intro S h i x p hs hp;obtain⟨q,hq,hh⟩:=(Sh.Ny h S i x p).1 hp;obtain⟨j,h1,h2,h3,h4⟩:=S.W1 (Fj h) i x hs q hq;refine⟨j,h1,h2,?_⟩;rcases hh with rfl|hh
 ·exact .inl h3
 ·right;rcases h4 with ⟨kt,vt,es,c,e⟩|⟨a,ty,y,e,Ej⟩
  ·rw[e]at hh;cases hh
  ·rw[e]at hh;exact a.Ck _ 0 y p Ej hh
theorem Sh.I3:∀(S:Sh) (h i:Nat) (x:S.T),S.small i=true→((S.C1 h i x).map (·.1)).Nodup
 |.nil,h,i,x,hs=>by simp[Sh.C1]
 |.d t r,h,i,x,hs=>Sh.I3 r h (i+1) x.2 (Ai hs).2
 |.m kt vt r,h,i,x,hs=>by
  have hi:i<1000:=by simpa[Bqx] using(Ai hs).1
  simp only[Sh.C1,Bpn];refine Uh (by cases x.1<;>simp) (Sh.I3 r h (i+1) x.2 (Ai hs).2) ?_;intro n hn Ke;obtain⟨p,hp,rfl⟩:=Bpc.1 hn;obtain⟨q,hq,e⟩:=Bpc.1 Ke;obtain⟨j,h1,h2,h3⟩:=r.At6 h (i+1) x.2 q (Ai hs).2 hq;have hp1:p.1=Fj h i:=by
   cases hx:x.1 with
   |none=>rw[hx]at hp;cases hp
   |some y=>rw[hx]at hp;rw[Bpg]at hp;rw[hp]
  rw[e,hp1]at h3;rcases h3 with h3|h3
  ·have:=(Gx hi h2 h3).2;omega
  ·rcases(Cs.here (k:=h) i hi).two h3 with h5|h5|h5
   ·have:=Qv h j;have:=h3.lt;unfold Fj at *;omega
   ·have:=h5.lt;have:=h3.lt;unfold Fj at *;omega
   ·have:=h5.lt;unfold Fj H0 at *;omega
 |.s a ty r,h,i,x,hs=>by
  have hi:i<1000:=by simpa[Bqx] using(Ai hs).1
  have h2:=Ai (Ai hs).2;simp only[Sh.C1,Bpn,Bp3];refine Uh (Bqg.2 ⟨?_,Sh.I3 a _ 0 x.1 h2.1⟩) (Sh.I3 r h (i+1) x.2 h2.2) ?_
  ·intro hm;obtain⟨q,hq,e⟩:=Bpc.1 hm;have:=(a.Ck _ 0 x.1 q h2.1 hq).lt;omega
  ·intro n hn Ke;obtain⟨q,hq,e⟩:=Bpc.1 Ke;obtain⟨j,k1,k2,k3⟩:=r.At6 h (i+1) x.2 q h2.2 hq;have hn1:n=Fj h i∨Cs (Fj h i) n:=by
    rcases Boz.1 hn with rfl|hn
    ·exact .inl rfl
    ·obtain⟨p,hp,rfl⟩:=Bpc.1 hn;exact .inr (a.Ck _ 0 x.1 p h2.1 hp)
   rw[e]at k3;exact Sh.Abz hi k2 (by omega) hn1 k3
 |.z a ty r,h,i,x,hs=>by
  have hi:i<1000:=by simpa[Bqx] using(Ai hs).1
  have h2:=Ai (Ai hs).2;simp only[Sh.C1,Bpn];refine Uh ?_ (Sh.I3 r h (i+1) x.2 h2.2) ?_
  ·cases hx:x.1 with
   |none=>simp
   |some y =>simp only[Bp3];refine Bqg.2 ⟨?_,Sh.I3 a _ 0 y h2.1⟩;intro hm;obtain⟨q,hq,e⟩:=Bpc.1 hm;have:=(a.Ck _ 0 y q h2.1 hq).lt;omega
  ·intro n hn Ke;obtain⟨q,hq,e⟩:=Bpc.1 Ke;obtain⟨j,k1,k2,k3⟩:=r.At6 h (i+1) x.2 q h2.2 hq;have hn1:n=Fj h i∨Cs (Fj h i) n:=by
    cases hx:x.1 with
    |none=>rw[hx]at hn;cases hn
    |some y =>
     rw[hx]at hn;rcases Boz.1 hn with rfl|hn
     ·exact .inl rfl
     ·obtain⟨p,hp,rfl⟩:=Bpc.1 hn;exact .inr (a.Ck _ 0 y p h2.1 hp)
   rw[e]at k3;exact Sh.Abz hi k2 (by omega) hn1 k3
where
 Sh.Abz {h i j n:Nat} (hi:i<1000) (hj:j<1000) (hne:i≠j) (h1:n=Fj h i∨Cs (Fj h i) n) (h2:n=Fj h j∨Cs (Fj h j) n):False:=by
  have key:∀ {i j:Nat},i<1000→j<1000→i≠j→¬Cs (Fj h i) (Fj h j):=by
   intro i j hi hj hne hu;generalize hm:Fj h j=m at hu;cases hu with
   |here l hl=>have:=(Gx hj hl hm).1;unfold Fj H0 at this;omega
   |deep l hl h3=>have:=(Gx hj hl hm).1;subst this;have:=h3.lt;unfold Fj H0 at this;omega
  rcases h1 with rfl|h1<;>rcases h2 with e|h2
  ·exact hne (Gx hi hj e).2
  ·exact key hj hi (Brl hne) h2
  ·subst e;exact key hi hj hne h1
  ·rcases h1.two h2 with e|e|e
   ·exact hne (Gx hi hj e).2
   ·exact key hi hj hne e
   ·exact key hj hi (Brl hne) e
def B12(f:Nat→Nat)(a b:A2 AV):Db f (a++b)=Db f a++Db f b:=by simp[G3]
def Bbm(f:Nat→Nat)(l:A2 D):Db f (l.map .d)=l.map .d:=by
 induction l with
 |nil=>rfl
 |cons x r ih=>simp only[Bp3,Db,Dk,ih]
def Qh(f:Nat→Nat)(cs:A2 AV)(ty:A3 TypeId):E6 f (.cells cs ty) = .cells (Db f cs) ty:=rfl
def A70(f:Nat→Nat)(h:Nat):Prop:=∀m j,j<1000→(m=h∨Cs h m)→f (Fj m j)=Fj (f m) j
def A70.sub(he:A70 f h)(hj:j<1000):A70 f (Fj h j):=by
 intro m l hl hm;refine he m l hl (.inr ?_);rcases hm with rfl|hm
 ·exact .here j hj
 ·exact(Cs.here j hj).trans hm
theorem Sh.A0c:∀(S:Sh) (i:Nat),S.small i=true→i≤1000→i+S.len≤1000
 |.nil,i,h,hi=>by simpa[Sh.len]using hi
 |.d t r,i,h,hi=>by
  have h1:i<1000:=by simpa[Bqx] using(Ai h).1
  have:=Sh.A0c r (i+1) (Ai h).2 h1;simp only[Sh.len];omega
 |.m _ _ r,i,h,hi=>by
  have h1:i<1000:=by simpa[Bqx] using(Ai h).1
  have:=Sh.A0c r (i+1) (Ai h).2 h1;simp only[Sh.len];omega
 |.s _ _ r,i,h,hi=>by
  have h1:i<1000:=by simpa[Bqx] using(Ai h).1
  have:=Sh.A0c r (i+1) (Ai (Ai h).2).2 h1;simp only[Sh.len];omega
 |.z _ _ r,i,h,hi=>by
  have h1:i<1000:=by simpa[Bqx] using(Ai h).1
  have:=Sh.A0c r (i+1) (Ai (Ai h).2).2 h1;simp only[Sh.len];omega
theorem Sh.Pz{b:Nat→Nat}:∀(S:Sh) (i:Nat) (x:S.T),(∀j,j<i+S.len→f (b j)=b' j)→Db f (A7 (S.D6 b i x))=A7 (S.D6 b' i x)
 |.nil,i,x,hb=>rfl
 |.d t r,i,x,hb=>by
  have Fp:∀j,j<i+1+r.len→f (b j)=b' j:=fun j hj=>hb j (by simp only[Sh.len];omega)
  simp only[Sh.D6,Dc,B12,Wi,Bbm,Sh.Pz r (i+1) x.2 Fp]
 |.m kt vt r,i,x,hb=>by
  have Fp:∀j,j<i+1+r.len→f (b j)=b' j:=fun j hj=>hb j (by simp only[Sh.len];omega)
  have hi:f (b i)=b' i:=hb i (by simp only[Sh.len];omega);simp only[Sh.D6,A7,Db,Sh.Pz r (i+1) x.2 Fp];cases x.1 with
  |none=>rfl
  |some y=>simp only[XV.a,Dk,hi]
 |.s a ty r,i,x,hb=>by
  have Fp:∀j,j<i+1+r.len→f (b j)=b' j:=fun j hj=>hb j (by simp only[Sh.len];omega)
  have hi:f (b i)=b' i:=hb i (by simp only[Sh.len];omega);simp only[Sh.D6,A7,Db,Sh.Pz r (i+1) x.2 Fp,XV.a,Dk,hi]
 |.z a ty r,i,x,hb=>by
  have Fp:∀j,j<i+1+r.len→f (b j)=b' j:=fun j hj=>hb j (by simp only[Sh.len];omega)
  have hi:f (b i)=b' i:=hb i (by simp only[Sh.len];omega);simp only[Sh.D6,A7,Db,Sh.Pz r (i+1) x.2 Fp];cases x.1 with
  |none=>rfl
  |some y=>simp only[XV.a,Dk,hi]
def Sh.A68(S:Sh)(x:S.T)(hs:S.small 0=true)(he:A70 f h):Db f (A7 (S.cells h 0 x))=A7 (S.cells (f h) 0 x):=by rw[S.I2,S.I2];exact S.Pz 0 x fun j hj=>he h j (by have:=S.A0c 0 hs (by omega);omega) (.inl rfl)
theorem Sh.R7:∀(S:Sh) (h i:Nat) (x:S.T),S.small i=true→A70 f h→(S.C1 h i x).map (fun p=>(f p.1,E6 f p.2))=S.C1 (f h) i x
 |.nil,h,i,x,hs,he=>rfl
 |.d t r,h,i,x,hs,he=>Sh.R7 r h (i+1) x.2 (Ai hs).2 he
 |.m kt vt r,h,i,x,hs,he=>by
  have hi:i<1000:=by simpa[Bqx] using(Ai hs).1
  simp only[Sh.C1,Bpn,Sh.R7 r h (i+1) x.2 (Ai hs).2 he];cases x.1 with
  |none=>rfl
  |some y=>simp only[Bp3,Bpz,he h i hi (.inl rfl),B9g,E6]
 |.s a ty r,h,i,x,hs,he=>by
  have hi:i<1000:=by simpa[Bqx] using(Ai hs).1
  have h2:=Ai (Ai hs).2;have e1:=he h i hi (.inl rfl);have e2:=Sh.R7 a (Fj h i) 0 x.1 h2.1 (he.sub hi);rw[e1]at e2;have e3:=a.A68 x.1 h2.1 (he.sub hi);rw[e1]at e3;simp only[Sh.C1,Bpn,Bp3,Sh.R7 r h (i+1) x.2 h2.2 he,e1,e2,Qh,e3]
 |.z a ty r,h,i,x,hs,he=>by
  have hi:i<1000:=by simpa[Bqx] using(Ai hs).1
  have h2:=Ai (Ai hs).2;have e1:=he h i hi (.inl rfl);simp only[Sh.C1,Bpn,Sh.R7 r h (i+1) x.2 h2.2 he];cases x.1 with
  |none=>rfl
  |some y =>have e2:=Sh.R7 a (Fj h i) 0 y h2.1 (he.sub hi);rw[e1]at e2;have e3:=a.A68 y h2.1 (he.sub hi);rw[e1]at e3;simp only[Bp3,e1,e2,Qh,e3]
def A9.re(f:Nat→Nat):A9→A9
 |.abs h S ty x=>.abs (f h) S ty x
 |o=>o
def A9.Bbn(n:Nat)(o:A9):Prop:=(∃kt vt es c,o = .map kt vt es c)∨∃a ty y,o = .abs n a ty y∧a.small 0=true
def A9.Bir{n:Nat}{o:A9}(hk:o.Bbn n)(he:A70 f n):(o.re f).o=E6 f o.o:=by
 rcases hk with ⟨kt,vt,es,c,rfl⟩|⟨a,ty,y,rfl,hs⟩
 ·rfl
 ·simp only[A9.re,A9.o,Qh,a.A68 y hs he]
def A9.At7{n:Nat}{o:A9}(hk:o.Bbn n)(he:A70 f n):(o.re f).C1=o.C1.map (fun p=>(f p.1,E6 f p.2)):=by
 rcases hk with ⟨kt,vt,es,c,rfl⟩|⟨a,ty,y,rfl,hs⟩
 ·rfl
 ·simp only[A9.re,A9.C1,a.R7 n 0 y hs he]
theorem Sh.A0d{b:Nat→Nat}:∀(S:Sh) (i:Nat) (x:S.T),(∀j,j<i+S.len→f (b j)=b' j)→(S.kids b i x).map (fun q=>(f q.1,q.2.re f))=S.kids b' i x
 |.nil,i,x,hb=>rfl
 |.d t r,i,x,hb=>Sh.A0d r (i+1) x.2 fun j hj=>hb j (by simp only[Sh.len];omega)
 |.m kt vt r,i,x,hb=>by
  have Fp:∀j,j<i+1+r.len→f (b j)=b' j:=fun j hj=>hb j (by simp only[Sh.len];omega)
  have hi:f (b i)=b' i:=hb i (by simp only[Sh.len];omega);simp only[Sh.kids,Bpn,Sh.A0d r (i+1) x.2 Fp];cases x.1 with
  |none=>rfl
  |some y=>simp only[Bp3,Bpz,hi,A9.re]
 |.s a ty r,i,x,hb=>by
  have Fp:∀j,j<i+1+r.len→f (b j)=b' j:=fun j hj=>hb j (by simp only[Sh.len];omega)
  have hi:f (b i)=b' i:=hb i (by simp only[Sh.len];omega);have:=Sh.A0d r (i+1) x.2 Fp;simp only[Sh.kids,Bp3,this];rw[hi,show(A9.abs (b i) a ty x.1).re f = .abs (f (b i)) a ty x.1 from rfl,hi]
 |.z a ty r,i,x,hb=>by
  have Fp:∀j,j<i+1+r.len→f (b j)=b' j:=fun j hj=>hb j (by simp only[Sh.len];omega)
  have hi:f (b i)=b' i:=hb i (by simp only[Sh.len];omega);simp only[Sh.kids,Bpn,Sh.A0d r (i+1) x.2 Fp];cases x.1 with
  |none=>rfl
  |some y=>simp only[Bp3,Bpz,hi,A9.re]
def Sh.A69(b:Nat→Nat)(S:Sh)(i:Nat)(x:S.T)(hs:S.small i=true):∀q∈S.kids b i x,q.2.Bbn q.1:=by
 intro q hq;obtain⟨j,h1,h2,h3,h4⟩:=S.W1 b i x hs q hq;rcases h4 with h4|⟨a,ty,y,h5,h6⟩
 ·exact .inl h4
 ·exact .inr ⟨a,ty,y,by rw[h3];exact h5,h6⟩
theorem Sh.A0e(b:Nat→Nat):∀(S:Sh) (i:Nat) (x:S.T),∀q∈S.kids b i x,∃j,i≤j∧j<i+S.len∧q.1=b j
 |.nil,i,x,q,hq=>by cases hq
 |.d t r,i,x,q,hq=>by
  obtain⟨j,h1,h2,h3⟩:=Sh.A0e b r (i+1) x.2 q hq;exact⟨j,by omega,by simp only[Sh.len];omega,h3⟩
 |.m kt vt r,i,x,q,hq=>by
  rcases Bp4.1 hq with hq|hq
  ·cases hx:x.1 with
   |none=>rw[hx]at hq;cases hq
   |some y=>rw[hx]at hq;rw[Bpg]at hq;subst hq;exact⟨i,Bpa _,by simp only[Sh.len];omega,rfl⟩
  ·obtain⟨j,h1,h2,h3⟩:=Sh.A0e b r (i+1) x.2 q hq;exact⟨j,by omega,by simp only[Sh.len];omega,h3⟩
 |.s a ty r,i,x,q,hq=>by
  rcases Boz.1 hq with rfl|hq
  ·exact⟨i,Bpa _,by simp only[Sh.len];omega,rfl⟩
  ·obtain⟨j,h1,h2,h3⟩:=Sh.A0e b r (i+1) x.2 q hq;exact⟨j,by omega,by simp only[Sh.len];omega,h3⟩
 |.z a ty r,i,x,q,hq=>by
  rcases Bp4.1 hq with hq|hq
  ·cases hx:x.1 with
   |none=>rw[hx]at hq;cases hq
   |some y=>rw[hx]at hq;rw[Bpg]at hq;subst hq;exact⟨i,Bpa _,by simp only[Sh.len];omega,rfl⟩
  ·obtain⟨j,h1,h2,h3⟩:=Sh.A0e b r (i+1) x.2 q hq;exact⟨j,by omega,by simp only[Sh.len];omega,h3⟩
def Ac0(τ:A2 (Nat×Nat)):Nat→Nat→Nat
 |0,n=>n
 |fuel+1,n=>match lk n τ with
  |some j=>j
  |none=>cond (Nat.blt n H0) n (Fj (Ac0 τ fuel ((n-H0)/1000)) ((n-H0) % 1000))
def ren(τ:A2 (Nat×Nat))(n:Nat):Nat:=Ac0 τ (n+1) n
def Bbo{n:Nat}(h:H0≤n):(n-H0)/1000<n:=by unfold H0 at *;omega
def A0f{b:Nat}(h:a<b):Nat.blt a b=true:=by rw[Bqx];exact h
def A6a{b:Nat}(h:b≤a):Nat.blt a b=false:=by
 cases hb:Nat.blt a b with
 |false=>rfl
 |true=>rw[Bqx]at hb;omega
def A91{f n:Nat}(h:lk n τ=some j):Ac0 τ (f+1) n=j:=by show(match lk n τ with|some j=>j|none=>cond (Nat.blt n H0) n (Fj (Ac0 τ f ((n-H0)/1000)) ((n-H0) % 1000)))=j;rw[h]
def A92{f n:Nat}(h:lk n τ=none):Ac0 τ (f+1) n=cond (Nat.blt n H0) n (Fj (Ac0 τ f ((n-H0)/1000)) ((n-H0) % 1000)):=by show(match lk n τ with|some j=>j|none=>cond (Nat.blt n H0) n (Fj (Ac0 τ f ((n-H0)/1000)) ((n-H0) % 1000)))=_;rw[h]
def B13(τ:A2 (Nat×Nat)):∀(n f g:Nat),n<f→n<g→Ac0 τ f n=Ac0 τ g n:=by
 intro n;induction n using Nat.strongRecOn with
 |ind n ih =>
  intro f g hf hg;obtain⟨f,rfl⟩:∃f',f=f'+1:=⟨f-1,by omega⟩;obtain⟨g,rfl⟩:∃g',g=g'+1:=⟨g-1,by omega⟩;cases hl:lk n τ with
  |some j=>rw[A91 hl,A91 hl]
  |none =>
   rw[A92 hl,A92 hl];by_cases Bg:n<H0
   ·rw[A0f Bg,Bov,Bov]
   ·have hp:=Bbo (Bss Bg);rw[A6a (Bss Bg),Box,Box,ih _ hp f g (by omega) (by omega)]
def B4a{n:Nat}(h:lk n τ=some j):ren τ n=j:=A91 h
def B4b(hj:j<1000)(h:lk (Fj m j) τ=none):ren τ (Fj m j)=Fj (ren τ m) j:=by
 have e1:(Fj m j-H0)/1000=m:=by unfold Fj;omega
 have e2:(Fj m j-H0) % 1000=j:=by unfold Fj;omega
 have Bg:m<Fj m j:=by unfold Fj H0;omega
 unfold ren;rw[A92 h,A6a (Qv m j),Box,e1,e2,B13 τ m (Fj m j) (m+1) Bg (by omega)]
def Ap4(base:Nat→Nat):Nat→Nat→Nat
 |0,n=>n
 |fuel+1,n=>cond (Nat.blt n H0) (base n) (Fj (Ap4 base fuel ((n-H0)/1000)) ((n-H0) % 1000))
def O9(base:Nat→Nat)(n:Nat):Nat:=Ap4 base (n+1) n
def A1s(base:Nat→Nat)(f n:Nat):Ap4 base (f+1) n=cond (Nat.blt n H0) (base n) (Fj (Ap4 base f ((n-H0)/1000)) ((n-H0) % 1000)):=rfl
def B14(base:Nat→Nat):∀(n f g:Nat),n<f→n<g→Ap4 base f n=Ap4 base g n:=by
 intro n;induction n using Nat.strongRecOn with
 |ind n ih =>
  intro f g hf hg;obtain⟨f,rfl⟩:∃f',f=f'+1:=⟨f-1,by omega⟩;obtain⟨g,rfl⟩:∃g',g=g'+1:=⟨g-1,by omega⟩;rw[A1s,A1s];by_cases Bg:n<H0
  ·rw[A0f Bg,Bov,Bov]
  ·have hp:=Bbo (Bss Bg);rw[A6a (Bss Bg),Box,Box,ih _ hp f g (by omega) (by omega)]
def Wz{base:Nat→Nat}{n:Nat}(hn:n<H0):O9 base n=base n:=by unfold O9;rw[A1s,A0f hn,Bov]
def Bbp{base:Nat→Nat}(hj:j<1000):O9 base (Fj m j)=Fj (O9 base m) j:=by
 have e1:(Fj m j-H0)/1000=m:=by unfold Fj;omega
 have e2:(Fj m j-H0) % 1000=j:=by unfold Fj;omega
 have Bg:m<Fj m j:=by unfold Fj H0;omega
 unfold O9;rw[A1s,A6a (Qv m j),Box,e1,e2,B14 base m (Fj m j) (m+1) Bg (by omega)]
def Cs.map{n:Nat}(h:Cs r n)(he:A70 f r):Cs (f r) (f n):=by
 induction h with
 |here i hi=>rw[he r i hi (.inl rfl)];exact .here i hi
 |deep i hi h1 ih=>rw[he _ i hi (.inr h1)];exact .deep i hi ih
def B74{n:Nat}(he:A70 f r)(h:Cs r n)(h':Cs r n')(e:f n=f n'):n=n':=by
 induction h generalizing n' with
 |here i hi =>
  cases h' with
  |here j hj =>rw[he r i hi (.inl rfl),he r j hj (.inl rfl)]at e;rw[(Gx hi hj e).2]
  |deep j hj h2 =>rw[he r i hi (.inl rfl),he _ j hj (.inr h2)]at e;have:=(Gx hi hj e).1;have:=(h2.map he).lt;omega
 |deep i hi h1 ih =>
  cases h' with
  |here j hj =>rw[he _ i hi (.inr h1),he r j hj (.inl rfl)]at e;have:=(Gx hi hj e).1;have:=(h1.map he).lt;omega
  |deep j hj h2 =>rw[he _ i hi (.inr h1),he _ j hj (.inr h2)]at e;obtain⟨e1,e2⟩:=Gx hi hj e;rw[ih h2 e1,e2]
def At8{R A:Nat→Prop}(hA:∀r,A r→A70 f r)(h1:∀r r',R r→R r'→f r=f r'→r=r')(h2:∀r r',R r→R r'→A r'→¬Cs (f r') (f r)){n:Nat}
  (hn:R n∨∃r,R r∧A r∧Cs r n) (Ke:R n'∨∃r,R r∧A r∧Cs r n') (e:f n=f n'):n=n':=by
 rcases hn with hn|⟨r,a1,a2,a3⟩<;>rcases Ke with Ke|⟨r',b1,b2,b3⟩
 ·exact h1 _ _ hn Ke e
 ·have:=b3.map (hA r' b2);rw[← e]at this;exact(h2 _ _ hn b1 b2 this).elim
 ·have:=a3.map (hA r a2);rw[e]at this;exact(h2 _ _ Ke a1 a2 this).elim
 ·have u:=a3.map (hA r a2);have v:=b3.map (hA r' b2);rw[e]at u;rcases u.two v with h|h|h
  ·have:=h1 _ _ a1 b1 h;subst this;exact B74 (hA r a2) a3 b3 e
  ·exact(h2 _ _ b1 a1 a2 h).elim
  ·exact(h2 _ _ a1 b1 b2 h).elim
def A2j{R:Type}(b:Nat→Nat):(i:Nat)→(S:Sh)→S.T→(A2 XV→A2 (Nat×A9)→R)→R
 |_,.nil,_,K=>K [] []
 |i,.d t r,x,K=>A2j b (i+1) r x.2 fun cs ks=>K ((t.enc x.1).map .d++cs) ks
 |i,.m kt vt r,x,K=>A6 x.1 (A2j b (i+1) r x.2 fun cs ks=>K (.d (.v (.map none))::cs) ks) fun y=>A2j b (i+1) r x.2 fun cs ks=>K (.nm (b i) .m::cs) ((b i,.map kt vt y.1 y.2)::ks)
 |i,.s a ty r,x,K=>A2j b (i+1) r x.2 fun cs ks=>K (.nm (b i) (.p 0)::cs) ((b i,.abs (b i) a ty x.1)::ks)
 |i,.z a ty r,x,K=>A6 x.1 (A2j b (i+1) r x.2 fun cs ks=>K (.d (.v (.pointer none))::cs) ks) fun y=>A2j b (i+1) r x.2 fun cs ks=>K (.nm (b i) (.p 0)::cs) ((b i,.abs (b i) a ty y)::ks)
theorem A4f{R:Type}(b:Nat→Nat):∀(S:Sh) (i:Nat) (x:S.T) (K:A2 XV→A2 (Nat×A9)→R),A2j b i S x K=K (S.D6 b i x) (S.kids b i x)
 |.nil,i,x,K=>rfl
 |.d t r,i,x,K=>by simp only[A2j,A4f b r,Sh.D6,Sh.kids]
 |.m kt vt r,i,x,K=>by
  simp only[A2j,A4f b r,Sh.D6,Sh.kids];cases x.1<;>rfl
 |.s a ty r,i,x,K=>by simp only[A2j,A4f b r,Sh.D6,Sh.kids]
 |.z a ty r,i,x,K=>by
  simp only[A2j,A4f b r,Sh.D6,Sh.kids];cases x.1<;>rfl
def A0g(k i:Nat):Nat:=100*(k+1)+i
def A6b{R:Type}:A2 (Nat×A9)→(A2 (Nat×A9)→R)→R
 |[],K=>K []
 |p::r,K=>match p.2 with
  |.abs h S ty x=>A2j (A0g p.1) 0 S x fun cs ks=>A6b r fun os=>K ((p.1,.cells cs ty)::(ks++os))
  |o=>A6b r fun os=>K ((p.1,o)::os)
def A0h:A2 (Nat×A9)→A2 (Nat×A9)
 |[]=>[]
 |p::r=>(match p.2 with
  |.abs h S ty x=>(p.1,.cells (S.D6 (A0g p.1) 0 x) ty)::S.kids (A0g p.1) 0 x
  |o=>[(p.1,o)])++A0h r
theorem A93{R:Type}:∀(l:A2 (Nat×A9)) (K:A2 (Nat×A9)→R),A6b l K=K (A0h l)
 |[],K=>rfl
 |p::r,K=>by
  obtain⟨k,o⟩:=p;cases o with
  |abs h S ty x=>simp only[A6b,A0h,A4f,A93 r];rfl
  |_=>simp only[A6b,A0h,A93 r];rfl
def At9:A2 (Nat×A9)→Bool
 |[]=>true
 |p::r=>match p.2 with
  |.abs h S _ _=>cond (Nat.beq h p.1) (cond (S.small 0) (cond (Nat.ble S.len 100) (cond (Nat.blt p.1 9) (At9 r) false) false) false) false
  |_=>false
structure Blb(p:Nat×A9):Prop where
 ex:∃S ty x,p.2 = .abs p.1 S ty x∧S.small 0=true∧S.len≤100
 lt:p.1<9
theorem Ac1:∀ {l:A2 (Nat×A9)},At9 l=true→∀p∈l,Blb p
 |[],_,p,hp=>by simp at hp
 |q::r,h,p,hp=>by
  obtain⟨k,o⟩:=q;simp only[At9]at h;cases o with
  |abs h' S ty x =>
   simp only at h;obtain⟨h1,h⟩:=Ai h;obtain⟨h2,h⟩:=Ai h;obtain⟨h3,h⟩:=Ai h;obtain⟨h4,h⟩:=Ai h;rcases Boz.1 hp with rfl|hp
   ·exact⟨⟨S,ty,x,by rw[Boy h1],h2,Bpf h3⟩,by simpa[Bqx]using h4⟩
   ·exact Ac1 h p hp
  |_=>cases h
theorem Aem{q:Nat×A9}:∀ {l:A2 (Nat×A9)},At9 l=true→q∈A0h l→∃k S ty x,(k,A9.abs k S ty x)∈l∧k<9∧S.small 0=true∧S.len≤100∧(q=(k,.cells (S.D6 (A0g k) 0 x) ty)∨q∈S.kids (A0g k) 0 x)
 |[],_,hq=>by cases hq
 |p::r,h,hq=>by
  obtain⟨⟨S,ty,x,e,h2,h3⟩,h4⟩:=Ac1 h p Bp6;obtain⟨k,o⟩:=p;simp only at e h4;subst e;have hr:At9 r=true:=by simp only[At9]at h;exact(Ai (Ai (Ai (Ai h).2).2).2).2
  simp only[A0h,Bp4,Boz]at hq;rcases hq with (hq|hq)|hq
  ·exact⟨k,S,ty,x,Bp6,h4,h2,h3,.inl hq⟩
  ·exact⟨k,S,ty,x,Bp6,h4,h2,h3,.inr hq⟩
  ·obtain⟨k',S',Y8,x',a1,a2⟩:=Aem hr hq;exact⟨k',S',Y8,x',Bp5 _ a1,a2⟩
def J3(n:Nat):Nat:=cond (Nat.ble 100 n) (cond (Nat.blt n 1000) (Fj (n/100-1) (n % 100)) n) n
def Ata(hk:k<9)(hj:j<100):J3 (A0g k j)=Fj k j:=by unfold J3 A0g;rw[Bqd (show 100≤100*(k+1)+j by omega),A0f (show 100*(k+1)+j<1000 by omega),Bov,Bov];congr 1<;>omega
def Ac2(hk:k<9):J3 k=k:=by
 unfold J3;cases hb:Nat.ble 100 k with
 |true=>have:=Bpf hb;omega
 |false=>rfl
def Bez(hk:k<9)(hj:j<100):A0g k j<1000:=by unfold A0g;omega
def A1t{n:Nat}(h:n<1000):n<H0:=by unfold H0;omega
def Ac3(base:Nat→Nat)(h:Nat):A70 (O9 base) h:=fun m j hj _=>Bbp hj
def Ag8(h:(l.map (·.1)).Nodup){p:Nat×A9}(hp:p∈l):lk p.1 l=some p.2:=by rw[Avf];exact B5 h hp
def An8{b i:Nat}(ha:a<H0)(hi:i<1000)(hj:j<1000):¬Cs (Fj b j) (Fj a i):=by
 intro h;generalize hn:Fj a i=n at h;cases h with
 |here l hl=>have:=(Gx hi hl hn).1;have:=Qv b j;omega
 |deep l hl h2=>have:=(Gx hi hl hn).1;subst this;have:=h2.ge;omega
variable{B:B8}{an:A2 Nat→An}
def HR.opened(ho:At9 l=true)(hn:(l.map (·.1)).Nodup)(ha:P2 l=true)(hr:HR ns B g w ⟨A4 l,[]⟩)(hns:∀k∈ns,k∈l.map (·.1)) :
  HR ns B (g.pull (O9 J3)) w ⟨A4 (A0h l),[]⟩:=by
 let f:=O9 J3;have fk:∀ {k},k<9→f k=k:=fun {k} hk=>by show O9 J3 k=k;rw[Wz (A1t (by omega)),Ac2 hk]
 have Ax7:∀ {k j},k<9→j<100→f (A0g k j)=Fj k j:=fun {k j} hk hj=>by show O9 J3 _=_;rw[Wz (A1t (Bez hk hj)),Ata hk hj]
 have names:∀n o,(A4 (A0h l)).lookup n=some o→∃k S ty x,(k,A9.abs k S ty x)∈l∧k<9∧S.small 0=true∧S.len≤100 ∧
   ((n=k∧o=(A9.cells (S.D6 (A0g k) 0 x) ty).o)∨∃q∈S.kids (A0g k) 0 x,(n=q.1∧o=q.2.o)∨(n,o)∈q.2.C1):=by
  intro n o h;rcases A3h h with ⟨y,hy,rfl⟩|⟨p,hp,h2⟩
  ·have hm:=G5 hy;obtain⟨k,S,ty,x,a1,a2,a3,a4,a5⟩:=Aem ho hm;refine⟨k,S,ty,x,a1,a2,a3,a4,?_⟩;rcases a5 with a5|a5
   ·cases a5;exact .inl ⟨rfl,rfl⟩
   ·exact .inr ⟨_,a5,.inl ⟨rfl,rfl⟩⟩
  ·obtain⟨k,S,ty,x,a1,a2,a3,a4,a5⟩:=Aem ho hp;refine⟨k,S,ty,x,a1,a2,a3,a4,?_⟩;rcases a5 with a5|a5
   ·rw[a5]at h2;cases h2
   ·exact .inr ⟨_,a5,.inr (Fs h2)⟩
 have inX:∀ {k S ty x},(k,A9.abs k S ty x)∈l→S.small 0=true→∀p∈S.C1 k 0 x,(A4 l).lookup p.1=some p.2:=by intro k S ty x hm hs p hp;exact Ade ha hm (B5 (S.I3 k 0 x hs) hp)
 refine hr.pull (f:=f) rfl ?_ ?_ ?_ ?_
 ·intro n o h;obtain⟨k,S,ty,x,a1,a2,a3,a4,a5⟩:=names n o h;rcases a5 with ⟨rfl,rfl⟩|⟨q,hq,a5⟩
  ·rw[fk a2];have:=Hy (Ag8 hn a1);show(A4 l).lookup n=_;rw[this];simp only[A9.o,Qh];rw[S.Pz 0 x (b':=Fj n) fun j hj=>Ax7 a2 (by omega),S.I2]
  ·have e1:(f q.1,q.2.re f)∈S.kids (Fj k) 0 x:=by rw[← S.A0d 0 x (f:=f) (b:=A0g k) fun j hj=>Ax7 a2 (by omega)];exact Bpe (f:=fun q:Nat×A9=>(f q.1,q.2.re f)) hq
   have hk:=S.A69 (A0g k) 0 x a3 q hq;rcases a5 with ⟨rfl,rfl⟩|a5
   ·have:=(S.Ny k 0 x (f q.1,(q.2.re f).o)).2 ⟨_,e1,.inl rfl⟩;have:=inX a1 a3 _ this;rw[A9.Bir hk (Ac3 _ _)]at this;exact this
   ·have e2:(f n,E6 f o)∈(q.2.re f).C1:=by rw[A9.At7 hk (Ac3 _ _)];exact Bpe (f:=fun p:Nat×Ob=>(f p.1,E6 f p.2)) a5
    exact inX a1 a3 _ ((S.Ny k 0 x _).2 ⟨_,e1,.inr e2⟩)
 ·intro n n' o o' h h' e;let R:Nat→Prop:=fun r=>r<9∨∃k j,k<9∧j<100∧r=A0g k j
  let A:Nat→Prop:=fun r=>∃k j,k<9∧j<100∧r=A0g k j
  have root:∀n o,(A4 (A0h l)).lookup n=some o→R n∨∃r,R r∧A r∧Cs r n:=by
   intro n o h;obtain⟨k,S,ty,x,a1,a2,a3,a4,a5⟩:=names n o h;rcases a5 with ⟨rfl,_⟩|⟨q,hq,a5⟩
   ·exact .inl (.inl a2)
   ·obtain⟨j,_,hj,hqj⟩:=S.A0e (A0g k) 0 x q hq;rcases a5 with ⟨rfl,_⟩|a5
    ·exact .inl (.inr ⟨k,j,a2,by omega,hqj⟩)
    ·refine .inr ⟨q.1,.inr ⟨k,j,a2,by omega,hqj⟩,⟨k,j,a2,by omega,hqj⟩,?_⟩;rcases S.A69 (A0g k) 0 x a3 q hq with ⟨kt,vt,es,c,e⟩|⟨a,Y8,y,e,hs⟩
     ·rw[e]at a5;cases a5
     ·rw[e]at a5;exact a.Ck _ 0 y _ hs a5
  refine At8 (f:=f) (R:=R) (A:=A) (fun r _=>Ac3 _ r) ?_ ?_ (root n o h) (root n' o' h') e
  ·rintro r r' (h1|⟨k,j,h1,h2,rfl⟩) (h3|⟨k',j',h3,h4,rfl⟩) e
   ·rw[fk h1,fk h3]at e;exact e
   ·rw[fk h1,Ax7 h3 h4]at e;have:=Qv k' j';have:=A1t (n:=r) (by omega);omega
   ·rw[fk h3,Ax7 h1 h2]at e;have:=Qv k j;have:=A1t (n:=r') (by omega);omega
   ·rw[Ax7 h1 h2,Ax7 h3 h4]at e;obtain⟨rfl,rfl⟩:=Gx (by omega) (by omega) e;rfl
  ·rintro r r' hr ha' ⟨k',j',h3,h4,rfl⟩ hu;rw[Ax7 h3 h4]at hu;rcases hr with h1|⟨k,j,h1,h2,rfl⟩
   ·rw[fk h1]at hu;have:=hu.ge;have:=A1t (n:=r) (by omega);omega
   ·rw[Ax7 h1 h2]at hu;exact An8 (A1t (by omega)) (by omega) (by omega) hu
 ·intro n o h;obtain⟨k,S,ty,x,a1,a2,a3,a4,a5⟩:=names n o h;have cells:∀(b:Nat→Nat) (S:Sh) (i:Nat) (x:S.T),Ef (A7 (S.D6 b i x))=true:=by
   have dat:∀l:A2 D,∀m:A2 AV,Ef m=true→Ef (l.map .d++m)=true:=by
    intro l m hm;induction l with
    |nil=>exact hm
    |cons x r ih=>simp only[Bp3,Br1,Ef,A06,ih,Bqo]
   intro b S;induction S with
   |nil=>intro i x;rfl
   |d t r ih=>intro i x;simp only[Sh.D6,Dc,Wi];exact dat _ _ (ih (i+1) x.2)
   |m kt vt r ih=>intro i x;simp only[Sh.D6,A7,Ef,ih,Bro];cases x.1<;>rfl
   |s a ty r _ ih=>intro i x;simp only[Sh.D6,A7,Ef,ih,Bro];rfl
   |z a ty r _ ih=>intro i x;simp only[Sh.D6,A7,Ef,ih,Bro];cases x.1<;>rfl
  have C1:∀(S:Sh) (h i:Nat) (x:S.T) (p:Nat×Ob),p∈S.C1 h i x→V9 p.2=true:=by
   intro S;induction S with
   |nil=>intro h i x p hp;cases hp
   |d t r ih=>intro h i x p hp;exact ih h (i+1) x.2 p hp
   |m kt vt r ih =>
    intro h i x p hp;rcases Bp4.1 hp with hp|hp
    ·cases hx:x.1 with
     |none=>rw[hx]at hp;cases hp
     |some y=>rw[hx]at hp;rw[Bpg]at hp;subst hp;rfl
    ·exact ih h (i+1) x.2 p hp
   |s a ty r ih1 ih2 =>
    intro h i x p hp;rcases Bp4.1 hp with hp|hp
    ·rcases Boz.1 hp with rfl|hp
     ·show Ef _=true;rw[a.I2];exact cells _ a 0 x.1
     ·exact ih1 _ 0 x.1 p hp
    ·exact ih2 h (i+1) x.2 p hp
   |z a ty r ih1 ih2 =>
    intro h i x p hp;rcases Bp4.1 hp with hp|hp
    ·cases hx:x.1 with
     |none=>rw[hx]at hp;cases hp
     |some y =>
      rw[hx]at hp;rcases Boz.1 hp with rfl|hp
      ·show Ef _=true;rw[a.I2];exact cells _ a 0 y
      ·exact ih1 _ 0 y p hp
    ·exact ih2 h (i+1) x.2 p hp
  rcases a5 with ⟨_,rfl⟩|⟨q,hq,a5⟩
  ·exact cells _ S 0 x
  ·rcases S.A69 (A0g k) 0 x a3 q hq with ⟨kt,vt,es,c,e⟩|⟨a,Y8,y,e,hs⟩
   ·rcases a5 with ⟨_,rfl⟩|a5
    ·rw[e];rfl
    ·rw[e]at a5;cases a5
   ·rcases a5 with ⟨_,rfl⟩|a5
    ·rw[e];show Ef _=true;rw[a.I2];exact cells _ a 0 y
    ·rw[e]at a5;exact C1 a _ 0 y _ a5
 ·intro k hk;obtain⟨p,hp,rfl⟩:=Bpc.1 (hns k hk);obtain⟨⟨S,ty,x,e,h2,h3⟩,h4⟩:=Ac1 ho p hp;refine⟨fk h4,hk,?_⟩;show((A4 (A0h l)).lookup p.1).isSome;have:∃y,lk p.1 (A0h l)=some y:=by
   have hm:∀l:A2 (Nat×A9),p∈l→(p.1,A9.cells (S.D6 (A0g p.1) 0 x) ty)∈A0h l:=by
    intro l;induction l with
    |nil=>intro h;cases h
    |cons q r ih =>
     intro h;simp only[A0h,Bp4];rcases Boz.1 h with rfl|h
     ·left;rw[e];exact Bp6
     ·exact .inr (ih h)
   have h5:=hm l hp;have:∀l:A2 (Nat×A9),(∃y,(p.1,y)∈l)→∃y,lk p.1 l=some y:=by
    intro l;induction l with
    |nil=>rintro ⟨y,h⟩;cases h
    |cons q r ih =>
     rintro ⟨y,h⟩;rw[F9];cases hb:Nat.beq q.1 p.1 with
     |true=>exact⟨_,rfl⟩
     |false =>
      rcases Boz.1 h with h|h
      ·rw[← h]at hb;simp at hb
      ·exact ih ⟨y,h⟩
   exact this _ ⟨_,h5⟩
  obtain⟨y,hy⟩:=this;rw[Hy hy];rfl
def Ap5(a:Sh)(ty:A3 TypeId)(j:Nat)(objs:A2 (Nat×A9)):Option a.T :=
 match lk j objs with
 |some (.abs h a' Y8 y)=>if e:a'.Jm a=true then cond (Nat.beq h j) (cond (Y8==ty) (some (Sh.Am e▸y)) none) none else none
 |_=>none
def Ac4{a:Sh}{y:a.T}(h:Ap5 a ty j objs=some y):lk j objs=some (.abs j a ty y):=by
 unfold Ap5 at h;split at h
 ·rename_i h' a' Y8 z hl;split at h
  ·rename_i e;have e':=Sh.Am e;cases hb:Nat.beq h' j with
   |false=>simp[hb]at h
   |true =>
    cases ht:Y8==ty with
    |false=>simp[hb,ht]at h
    |true =>subst e';simp only[hb,ht,Bov,Bp0]at h;subst h;rw[hl,Boy hb,eq_of_beq ht]
  ·cases h
 ·cases h
def mapOf(kt vt:Ty)(j:Nat)(objs:A2 (Nat×A9)):A3 (A2 (Nat×kt.T×vt.T)×Nat) :=
 match lk j objs with
 |some o=>(OK.map kt vt).dec o
 |none=>none
def Bbq{kt vt:Ty}{y:A2 (Nat×kt.T×vt.T)×Nat}(h:mapOf kt vt j objs=some y):lk j objs=some (.map kt vt y.1 y.2):=by
 unfold mapOf at h;split at h
 ·rename_i o hl;rw[hl,OK.Asi h];rfl
 ·cases h
def Ky(objs:A2 (Nat×A9)):(i:Nat)→(S:Sh)→A2 XV→A3 (S.T×A2 (Nat×Nat))
 |_,.nil,cs=>match cs with
  |[]=>some ((),[])
  |_=>none
 |i,.d t r,cs=>match Aje (cs.take t.size) with
  |some ds=>match t.dec ds with
   |some (x,[])=>match Ky objs (i+1) r (cs.drop t.size) with
    |some (y,τ)=>some ((x,y),τ)
    |none=>none
   |_=>none
  |none=>none
 |i,.m kt vt r,cs=>match cs with
  |c::cs=>match Ky objs (i+1) r cs with
   |some (y,τ)=>match c with
    |.d (.v (.map none))=>some ((none,y),τ)
    |.nm j .m=>match mapOf kt vt j objs with
     |some z=>some ((some z,y),(i,j)::τ)
     |none=>none
    |_=>none
   |none=>none
  |[]=>none
 |i,.s a ty r,cs=>match cs with
  |c::cs=>match Ky objs (i+1) r cs with
   |some (y,τ)=>match c with
    |.nm j (.p 0)=>match Ap5 a ty j objs with
     |some z=>some ((z,y),(i,j)::τ)
     |none=>none
    |_=>none
   |none=>none
  |[]=>none
 |i,.z a ty r,cs=>match cs with
  |c::cs=>match Ky objs (i+1) r cs with
   |some (y,τ)=>match c with
    |.d (.v (.pointer none))=>some ((none,y),τ)
    |.nm j (.p 0)=>match Ap5 a ty j objs with
     |some z=>some ((some z,y),(i,j)::τ)
     |none=>none
    |_=>none
   |none=>none
  |[]=>none
def CLe(cs ds:A2 XV):Prop:=cs.length=ds.length∧∀(i:Nat) (x y:XV),cs[i]? = some x→ds[i]? = some y→Ya x.a y.a
def CLe.nil:CLe [] []:=⟨rfl,by simp⟩
def CLe.cons{y:XV}{cs ds:A2 XV}(h:Ya x.a y.a)(h':CLe cs ds):CLe (x::cs) (y::ds):=by
 refine⟨by simp[h'.1],fun i a b ha hb=>?_⟩;cases i with
 |zero=>simp at ha hb;subst ha;subst hb;exact h
 |succ i=>exact h'.2 i a b (by simpa using ha) (by simpa using hb)
def CLe.app{a c:A2 XV}(h:CLe a b)(h':CLe c d):CLe (a++c) (b++d):=by
 refine⟨by simp[h.1,h'.1],fun i x y hx hy=>?_⟩;rw[Bqh]at hx hy;rw[h.1]at hx;split at hx
 ·rename_i Bg;rw[Bq6 Bg]at hy;exact h.2 i x y hx hy
 ·rename_i Bg;rw[Bpp Bg]at hy;exact h'.2 _ x y hx hy
def Bf0{cs:A2 XV}{x:t.T}(h:Aje cs=some ds)(h':t.dec ds=some (x,[])):CLe cs ((t.enc x).map .d):=by
 obtain⟨h1,h2⟩:=Ae7 h;obtain⟨ds',e1,e2⟩:=t.Wh h';simp only[D1,Bq0]at e1;have hl:ds.length=(t.enc x).length:=by
  have a1:(D1 ds).length=ds.length:=Gj ds;have a2:(t.ds x).length=(t.enc x).length:=by rw[← Ty.Mu,He,Bpl]
  rw[e1]at a1;have:=e2.length;omega
 refine⟨by rw[h1,hl,Bpl],fun i u v hu hv=>?_⟩;rw[Bp1,Bp8]at hv;obtain⟨d,hd,rfl⟩:=hv;have Bg:i<ds.length:=by rw[hl];exact(Bp2.1 hd).1
 have a1:=h2 i u ds[i] hu (by simp[Bg]);intro g w v hr;have a2:=a1 g w v hr;have a3:DLe (ds[i]).d d.d:=by
  have b1:(t.ds x)[i]? = some d.d:=by rw[← Ty.Mu,He,Bp1,hd];rfl
  obtain⟨z,b2,b3⟩:=e2.get b1;rw[← e1,He,Bp1]at b2;simp only[Bg,Bpd,Bq8,Bp0]at b2;rw[b2];exact b3
 exact Ya.d a3 g w v a2
theorem Sb{objs:A2 (Nat×A9)}:∀(S:Sh) (i:Nat) (cs:A2 XV) (x:S.T) (τ:A2 (Nat×Nat)),Ky objs i S cs=some (x,τ)→∀b:Nat→Nat,(∀p∈τ,b p.1=p.2) →
  CLe cs (S.D6 b i x)∧∀q∈S.kids b i x,lk q.1 objs=some q.2∧∃p∈τ,q.1=b p.1∧i≤p.1∧p.1<i+S.len
 |.nil,i,cs,x,τ,h,b,hb=>by
  unfold Ky at h;split at h
  ·exact⟨.nil,fun q hq=>by cases hq⟩
  ·cases h
 |.d t r,i,cs,x,τ,h,b,hb=>by
  unfold Ky at h;split at h
  ·rename_i ds hds;split at h
   ·rename_i x0 Bi0;split at h
    ·rename_i y τ' hr;simp only[Bp0,Bpm]at h;obtain⟨rfl,rfl⟩:=h;obtain⟨h1,h2⟩:=Sb r (i+1) _ y τ' hr b hb;refine⟨?_,fun q hq=>?_⟩
     ·rw[← Bra t.size cs];exact(Bf0 hds Bi0).app h1
     ·obtain⟨a1,p,a2,a3,a4,a5⟩:=h2 q hq;exact⟨a1,p,a2,a3,by omega,by simp only[Sh.len];omega⟩
    ·cases h
   ·cases h
  ·cases h
 |.m kt vt r,i,cs,x,τ,h,b,hb=>by
  unfold Ky at h;split at h
  ·rename_i c cs;split at h
   ·rename_i y τ' hr;split at h
    ·simp only[Bp0,Bpm]at h;obtain⟨rfl,rfl⟩:=h;obtain⟨h1,h2⟩:=Sb r (i+1) _ y τ' hr b hb;refine⟨.cons (.refl _) h1,fun q hq=>?_⟩;obtain⟨a1,p,a2,a3,a4,a5⟩:=h2 q hq;exact⟨a1,p,a2,a3,by omega,by simp only[Sh.len];omega⟩
    ·rename_i j;split at h
     ·rename_i z hz;simp only[Bp0,Bpm]at h;obtain⟨rfl,rfl⟩:=h;obtain⟨h1,h2⟩:=Sb r (i+1) _ y τ' hr b fun p hp=>hb p (Bp5 _ hp)
      have hj:b i=j:=hb (i,j) Bp6;refine⟨.cons (by rw[hj];exact .refl _) h1,fun q hq=>?_⟩;rcases Bp4.1 hq with hq|hq
      ·rw[Bpg]at hq;subst hq;refine⟨by rw[hj];exact Bbq hz,(i,j),Bp6,rfl,Bpa _,by simp only[Sh.len];omega⟩
      ·obtain⟨a1,p,a2,a3,a4,a5⟩:=h2 q hq;exact⟨a1,p,Bp5 _ a2,a3,by omega,by simp only[Sh.len];omega⟩
     ·cases h
    ·cases h
   ·cases h
  ·cases h
 |.s a ty r,i,cs,x,τ,h,b,hb=>by
  unfold Ky at h;split at h
  ·rename_i c cs;split at h
   ·rename_i y τ' hr;split at h
    ·rename_i j;split at h
     ·rename_i z hz;simp only[Bp0,Bpm]at h;obtain⟨rfl,rfl⟩:=h;obtain⟨h1,h2⟩:=Sb r (i+1) _ y τ' hr b fun p hp=>hb p (Bp5 _ hp)
      have hj:b i=j:=hb (i,j) Bp6;refine⟨.cons (by rw[hj];exact .refl _) h1,fun q hq=>?_⟩;rcases Boz.1 hq with rfl|hq
      ·refine⟨by rw[hj];exact Ac4 hz,(i,j),Bp6,rfl,Bpa _,by simp only[Sh.len];omega⟩
      ·obtain⟨a1,p,a2,a3,a4,a5⟩:=h2 q hq;exact⟨a1,p,Bp5 _ a2,a3,by omega,by simp only[Sh.len];omega⟩
     ·cases h
    ·cases h
   ·cases h
  ·cases h
 |.z a ty r,i,cs,x,τ,h,b,hb=>by
  unfold Ky at h;split at h
  ·rename_i c cs;split at h
   ·rename_i y τ' hr;split at h
    ·simp only[Bp0,Bpm]at h;obtain⟨rfl,rfl⟩:=h;obtain⟨h1,h2⟩:=Sb r (i+1) _ y τ' hr b hb;refine⟨.cons (.refl _) h1,fun q hq=>?_⟩;obtain⟨a1,p,a2,a3,a4,a5⟩:=h2 q hq;exact⟨a1,p,a2,a3,by omega,by simp only[Sh.len];omega⟩
    ·rename_i j;split at h
     ·rename_i z hz;simp only[Bp0,Bpm]at h;obtain⟨rfl,rfl⟩:=h;obtain⟨h1,h2⟩:=Sb r (i+1) _ y τ' hr b fun p hp=>hb p (Bp5 _ hp)
      have hj:b i=j:=hb (i,j) Bp6;refine⟨.cons (by rw[hj];exact .refl _) h1,fun q hq=>?_⟩;rcases Bp4.1 hq with hq|hq
      ·rw[Bpg]at hq;subst hq;refine⟨by rw[hj];exact Ac4 hz,(i,j),Bp6,rfl,Bpa _,by simp only[Sh.len];omega⟩
      ·obtain⟨a1,p,a2,a3,a4,a5⟩:=h2 q hq;exact⟨a1,p,Bp5 _ a2,a3,by omega,by simp only[Sh.len];omega⟩
     ·cases h
    ·cases h
   ·cases h
  ·cases h
theorem N0{objs:A2 (Nat×A9)}{b:Nat→Nat}:∀ {S:Sh} {i:Nat} {cs:A2 XV} {x:S.T} {τ:A2 (Nat×Nat)},Ky objs i S cs=some (x,τ)→∀q∈S.kids b i x,∃p∈τ,q.1=b p.1
 |.nil,i,cs,x,τ,h,q,hq=>by cases hq
 |.d t r,i,cs,x,τ,h,q,hq=>by
  unfold Ky at h;split at h
  ·split at h
   ·split at h
    ·rename_i y τ' hr;simp only[Bp0,Bpm]at h;obtain⟨rfl,rfl⟩:=h;exact N0 hr q hq
    ·cases h
   ·cases h
  ·cases h
 |.m kt vt r,i,cs,x,τ,h,q,hq=>by
  unfold Ky at h;split at h
  ·split at h
   ·rename_i y τ' hr;split at h
    ·simp only[Bp0,Bpm]at h;obtain⟨rfl,rfl⟩:=h;exact N0 hr q hq
    ·split at h
     ·simp only[Bp0,Bpm]at h;obtain⟨rfl,rfl⟩:=h;rcases Bp4.1 hq with hq|hq
      ·rw[Bpg]at hq;subst hq;exact⟨_,Bp6,rfl⟩
      ·obtain⟨p,hp,e⟩:=N0 hr q hq;exact⟨p,Bp5 _ hp,e⟩
     ·cases h
    ·cases h
   ·cases h
  ·cases h
 |.s a ty r,i,cs,x,τ,h,q,hq=>by
  unfold Ky at h;split at h
  ·split at h
   ·rename_i y τ' hr;split at h
    ·split at h
     ·simp only[Bp0,Bpm]at h;obtain⟨rfl,rfl⟩:=h;rcases Boz.1 hq with rfl|hq
      ·exact⟨_,Bp6,rfl⟩
      ·obtain⟨p,hp,e⟩:=N0 hr q hq;exact⟨p,Bp5 _ hp,e⟩
     ·cases h
    ·cases h
   ·cases h
  ·cases h
 |.z a ty r,i,cs,x,τ,h,q,hq=>by
  unfold Ky at h;split at h
  ·split at h
   ·rename_i y τ' hr;split at h
    ·simp only[Bp0,Bpm]at h;obtain⟨rfl,rfl⟩:=h;exact N0 hr q hq
    ·split at h
     ·simp only[Bp0,Bpm]at h;obtain⟨rfl,rfl⟩:=h;rcases Bp4.1 hq with hq|hq
      ·rw[Bpg]at hq;subst hq;exact⟨_,Bp6,rfl⟩
      ·obtain⟨p,hp,e⟩:=N0 hr q hq;exact⟨p,Bp5 _ hp,e⟩
     ·cases h
    ·cases h
   ·cases h
  ·cases h
inductive AR where
 |d (t:Ty)
 |n (m:Nat) (S:Sh) (ty:Option TypeId)
 |z (m:Nat) (S:Sh) (ty:Option TypeId)
@[reducible] def B15:A2 (Nat×Sh×A3 TypeId)→Type
 |[]=>Unit
 |p::r=>p.2.1.T×B15 r
@[reducible] def AR.T:AR→Type
 |.d t=>t.T
 |.n _ S _=>S.T
 |.z _ S _=>A3 S.T
@[reducible] def Ah0:A2 AR→Type
 |[]=>Unit
 |p::r=>p.T×Ah0 r
def B4c(n:Nat):A2 (Nat×Nat)→A2 (Nat×Nat)
 |[]=>[]
 |p::r=>(Fj n p.1,p.2)::B4c n r
theorem Aen{n:Nat}:∀ {τ:A2 (Nat×Nat)} {p:Nat×Nat},p∈τ→(Fj n p.1,p.2)∈B4c n τ
 |q::r,p,h=>by
  rcases Boz.1 h with rfl|h
  ·exact Bp6
  ·exact Bp5 _ (Aen h)
def Ak5(objs:A2 (Nat×A9)):(L:A2 (Nat×Sh×A3 TypeId))→A3 (B15 L×A2 (Nat×Nat))
 |[]=>some ((),[])
 |p::r=>match lk p.1 objs with
  |some (.cells cs ty)=>cond (ty==p.2.2) (match Ky objs 0 p.2.1 cs,Ak5 objs r with
   |some (x,τ),some (xs,σ)=>some ((x,xs),(p.1,p.1)::(B4c p.1 τ++σ))
   |_,_=>none) none
  |_=>none
def B4d(S:Sh)(ty:A3 TypeId)(m j:Nat)(objs:A2 (Nat×A9)):A3 (S.T×A2 (Nat×Nat)×A2 Nat) :=
 match lk j objs with
 |some (.cells cs Y8)=>cond (Y8==ty) (match Ky objs 0 S cs with
  |some (x,τ)=>some (x,(m,j)::B4c m τ,[])
  |none=>none) none
 |_=>match Ap5 S ty j objs with
  |some x=>some (x,[(m,j)],[m])
  |none=>none
def Zi(objs:A2 (Nat×A9)):(L:A2 AR)→A2 XV→A3 (Ah0 L×A2 (Nat×Nat)×A2 Nat)
 |[],vs=>match vs with
  |[]=>some ((),[],[])
  |_=>none
 |.d t::r,vs=>match vs with
  |v::vs=>match S0 t v,Zi objs r vs with
   |some x,some (xs,σ,C2)=>some ((x,xs),σ,C2)
   |_,_=>none
  |[]=>none
 |.n m S ty::r,vs=>match vs with
  |v::vs=>match v,Zi objs r vs with
   |.nm j (.p 0),some (xs,σ,C2)=>match B4d S ty m j objs with
    |some (x,τ,bs)=>some ((x,xs),τ++σ,bs++C2)
    |none=>none
   |_,_=>none
  |[]=>none
 |.z m S ty::r,vs=>match vs with
  |v::vs=>match v,Zi objs r vs with
   |.nm j (.p 0),some (xs,σ,C2)=>match B4d S ty m j objs with
    |some (x,τ,bs)=>some ((some x,xs),τ++σ,bs++C2)
    |none=>none
   |.d (.v (.pointer none)),some (xs,σ,C2)=>some ((none,xs),σ,C2)
   |_,_=>none
  |[]=>none
def Ag9:(L:A2 (Nat×Sh×A3 TypeId))→B15 L→A2 (Nat×A9)
 |[],_=>[]
 |p::r,x=>(p.1,.abs p.1 p.2.1 p.2.2 x.1)::Ag9 r x.2
def Uw:(L:A2 AR)→Ah0 L→A2 (Nat×A9)
 |[],_=>[]
 |.d _::r,x=>Uw r x.2
 |.n m S ty::r,x=>(m,.abs m S ty x.1)::Uw r x.2
 |.z m S ty::r,x=>(match x.1 with
  |some y=>[(m,.abs m S ty y)]
  |none=>[])++Uw r x.2
def Atb:(L:A2 AR)→Ah0 L→A2 XV
 |[],_=>[]
 |.d t::r,x=>.d (t.xv x.1)::Atb r x.2
 |.n m _ _::r,x=>.nm m (.p 0)::Atb r x.2
 |.z m _ _::r,x=>(match x.1 with
  |some _=>.nm m (.p 0)
  |none=>.d (.v (.pointer none)))::Atb r x.2
inductive Src(objs:List (Nat×A9))(Ve:List (Nat×Nat))(C2:List Nat):Nat×A9→Prop
 |raw (n j:Nat) (S:Sh) (ty:Option TypeId) (x:S.T) (cs:List XV) (τ:List (Nat×Nat)):(n,j)∈Ve→lk j objs=some (.cells cs ty)→Ky objs 0 S cs=some (x,τ)→(∀p∈τ,(Fj n p.1,p.2)∈Ve)→Src objs Ve C2 (n,.abs n S ty x)
 |abs (n j:Nat) (S:Sh) (ty:Option TypeId) (x:S.T):(n,j)∈Ve→lk j objs=some (.abs j S ty x)→n∈C2→Src objs Ve C2 (n,.abs n S ty x)
def Src.mono{T:A2 (Nat×Nat)}{as':A2 Nat}(h:Src objs T C2 q)(h1:∀p∈T,p∈T')(h2:∀n∈C2,n∈as'):Src objs T' as' q:=by
 cases h with
 |raw n j S ty x cs τ a1 a2 a3 a4=>exact .raw n j S ty x cs τ (h1 _ a1) a2 a3 fun p hp=>h1 _ (a4 p hp)
 |abs n j S ty x a1 a2 a3=>exact .abs n j S ty x (h1 _ a1) a2 (h2 _ a3)
theorem Ap6{objs:A2 (Nat×A9)}:∀(L:A2 (Nat×Sh×A3 TypeId)) (x:B15 L) (σ:A2 (Nat×Nat)),Ak5 objs L=some (x,σ)→(∀q∈Ag9 L x,Src objs σ [] q)∧∀p∈L,(p.1,p.1)∈σ
 |[],x,σ,h=>⟨fun q hq=>(by cases hq),by simp⟩
 |p::r,x,σ,h=>by
  unfold Ak5 at h;split at h
  ·rename_i cs ty hl;cases ht:ty==p.2.2 with
   |false=>simp[ht]at h
   |true =>
    simp only[ht,Bov]at h;split at h
    ·rename_i x0 τ xs σ' hc hr;simp only[Bp0,Bpm]at h;obtain⟨rfl,rfl⟩:=h;obtain⟨h1,h2⟩:=Ap6 r xs σ' hr;have e:=eq_of_beq ht;refine⟨fun q hq=>?_,fun q hq=>?_⟩
     ·rcases Boz.1 hq with rfl|hq
      ·exact .raw p.1 p.1 p.2.1 p.2.2 x0 cs τ Bp6 (by rw[hl,e]) hc fun q hq=>Bp5 _ (Bpi _ (Aen hq))
      ·exact(h1 q hq).mono (fun p hp=>Bp5 _ (Bph _ hp)) (by simp)
     ·rcases Boz.1 hq with rfl|hq
      ·exact Bp6
      ·exact Bp5 _ (Bph _ (h2 q hq))
    ·cases h
  ·cases h
def Ax8{S:Sh}{x:S.T}{bs:A2 Nat}(h:B4d S ty m j objs=some (x,τ,bs)):Src objs τ bs (m,.abs m S ty x)∧(m,j)∈τ:=by
 unfold B4d at h;split at h
 ·rename_i cs Y8 hl;cases ht:Y8==ty with
  |false=>simp[ht]at h
  |true =>
   simp only[ht,Bov]at h;split at h
   ·rename_i x0 τ' hc;simp only[Bp0,Bpm]at h;obtain⟨rfl,rfl,rfl⟩:=h;exact⟨.raw m j S ty x0 cs τ' Bp6 (by rw[hl,eq_of_beq ht]) hc fun q hq=>Bp5 _ (Aen hq),Bp6⟩
   ·cases h
 ·split at h
  ·rename_i x0 hk;simp only[Bp0,Bpm]at h;obtain⟨rfl,rfl,rfl⟩:=h;exact⟨.abs m j S ty x0 Bp6 (Ac4 hk) Bp6,Bp6⟩
  ·cases h
inductive A94(Ve:List (Nat×Nat)):List XV→List XV→Prop
 |nil:A94 Ve [] []
 |d {v:XV} {y:XD} {vs us:List XV}:Ya v.a (.d y.d)→A94 Ve vs us→A94 Ve (v::vs) (.d y::us)
 |p {j m:Nat} {vs us:List XV}:(m,j)∈Ve→A94 Ve vs us→A94 Ve (.nm j (.p 0)::vs) (.nm m (.p 0)::us)
def A94.mono{T:A2 (Nat×Nat)}(hT:∀p∈T,p∈T')(h:A94 T vs us):A94 T' vs us:=by
 induction h with
 |nil=>exact .nil
 |d a _ ih=>exact .d a ih
 |p a _ ih=>exact .p (hT _ a) ih
theorem A0i{objs:A2 (Nat×A9)}:∀(L:A2 AR) (vs:A2 XV) (x:Ah0 L) (σ:A2 (Nat×Nat)) (C2:A2 Nat),Zi objs L vs=some (x,σ,C2)→(∀q∈Uw L x,Src objs σ C2 q)∧A94 σ vs (Atb L x)
 |[],vs,x,σ,C2,h=>by
  unfold Zi at h;split at h
  ·exact⟨fun q hq=>(by cases hq),.nil⟩
  ·cases h
 |.d t::r,vs,x,σ,C2,h=>by
  unfold Zi at h;split at h
  ·rename_i v vs;split at h
   ·rename_i y xs σ' as' hd hr;simp only[Bp0,Bpm]at h;obtain⟨rfl,rfl,rfl⟩:=h;obtain⟨h1,h2⟩:=A0i r vs xs σ' as' hr;refine⟨h1,.d ?_ h2⟩;exact A08 hd
   ·cases h
  ·cases h
 |.n m S ty::r,vs,x,σ,C2,h=>by
  unfold Zi at h;split at h
  ·rename_i v vs;split at h
   ·rename_i j xs σ' as' hr;split at h
    ·rename_i y τ bs hn;simp only[Bp0,Bpm]at h;obtain⟨rfl,rfl,rfl⟩:=h;obtain⟨h1,h2⟩:=A0i r vs xs σ' as' hr;obtain⟨a1,a2⟩:=Ax8 hn;refine⟨fun q hq=>?_,.p (Bpi _ a2) (h2.mono fun p hp=>Bph _ hp)⟩;rcases Boz.1 hq with rfl|hq
     ·exact a1.mono (fun p hp=>Bpi _ hp) fun n hn=>Bpi _ hn
     ·exact(h1 q hq).mono (fun p hp=>Bph _ hp) fun n hn=>Bph _ hn
    ·cases h
   ·cases h
  ·cases h
 |.z m S ty::r,vs,x,σ,C2,h=>by
  unfold Zi at h;split at h
  ·rename_i v vs;split at h
   ·rename_i j xs σ' as' hr;split at h
    ·rename_i y τ bs hn;simp only[Bp0,Bpm]at h;obtain⟨rfl,rfl,rfl⟩:=h;obtain⟨h1,h2⟩:=A0i r vs xs σ' as' hr;obtain⟨a1,a2⟩:=Ax8 hn;refine⟨fun q hq=>?_,.p (Bpi _ a2) (h2.mono fun p hp=>Bph _ hp)⟩;simp only[Uw,Bp4,Bpg]at hq;rcases hq with rfl|hq
     ·exact a1.mono (fun p hp=>Bpi _ hp) fun n hn=>Bpi _ hn
     ·exact(h1 q hq).mono (fun p hp=>Bph _ hp) fun n hn=>Bph _ hn
    ·cases h
   ·rename_i xs σ' as' hr;simp only[Bp0,Bpm]at h;obtain⟨rfl,rfl,rfl⟩:=h;obtain⟨h1,h2⟩:=A0i r vs xs σ' as' hr;refine⟨fun q hq=>?_,.d (.refl _) h2⟩;simp only[Uw,Bpx]at hq;exact h1 q hq
   ·cases h
  ·cases h
def HR.Blc{nm:A2 Nat}(hr:HR nm B g w X)(hl:Y.live=[])(Vu:∀k o,Y.objs.lookup k=some o→∃o0,X.objs.lookup (f k)=some o0∧Agy o0 (E6 f o))
  (Aq7:∀k k' o o',Y.objs.lookup k=some o→Y.objs.lookup k'=some o'→f k=f k'→k=k') (hnt:∀k o,Y.objs.lookup k=some o→V9 o=true)
  (hns:∀k∈ns,f k=k∧k∈nm∧(Y.objs.lookup k).isSome):HR ns B (g.pull f) w Y:=by
 refine⟨?_,hr.Ip,hr.base,hr.io,hr.le,hr.frame,?_,?_,?_,?_,?_,by simp[Gh.pull],by simp[Gh.pull],by simp[Gh.pull],by simp[Gh.pull],.off fun _=>rfl⟩
 ·intro k hk;obtain⟨h1,h2,h3⟩:=hns k hk;exact⟨by show g.ρ (f k)=_;rw[h1];exact(hr.D4 k h2).1,h3⟩
 ·intro k o hk;obtain⟨o0,h1,h2⟩:=Vu k o hk;exact Bv.pull (g:=g) (gc:=g.pull f) (f:=f) rfl (fun _=>rfl) (hnt k o hk) (Ajx (hr.objs _ _ h1) h2)
 ·intro k o hk;obtain⟨o0,h1,_⟩:=Vu k o hk;exact hr.Fq _ _ h1
 ·intro k k' o o' hk Lb he;obtain⟨o0,h1,_⟩:=Vu k o hk;obtain⟨o1,h2,_⟩:=Vu k' o' Lb;exact Aq7 k k' o o' hk Lb (hr.Br _ _ _ _ h1 h2 he)
 ·intro k o hk;obtain⟨o0,h1,_⟩:=Vu k o hk;exact hr.Ca _ _ h1
 ·intro n;rw[hl];simp[Gh.pull]
def T3(b:Nat→Nat):∀(S:Sh) (i:Nat) (x:S.T),Ef (A7 (S.D6 b i x))=true:=by
 have dat:∀l:A2 D,∀m:A2 AV,Ef m=true→Ef (l.map .d++m)=true:=by
  intro l m hm;induction l with
  |nil=>exact hm
  |cons x r ih=>simp only[Bp3,Br1,Ef,A06,ih,Bqo]
 intro S;induction S with
 |nil=>intro i x;rfl
 |d t r ih=>intro i x;simp only[Sh.D6,Dc,Wi];exact dat _ _ (ih (i+1) x.2)
 |m kt vt r ih=>intro i x;simp only[Sh.D6,A7,Ef,ih,Bro];cases x.1<;>rfl
 |s a ty r _ ih=>intro i x;simp only[Sh.D6,A7,Ef,ih,Bro];rfl
 |z a ty r _ ih=>intro i x;simp only[Sh.D6,A7,Ef,ih,Bro];cases x.1<;>rfl
def Ac5:∀(S:Sh) (h i:Nat) (x:S.T) (p:Nat×Ob),p∈S.C1 h i x→V9 p.2=true:=by
 intro S;induction S with
 |nil=>intro h i x p hp;cases hp
 |d t r ih=>intro h i x p hp;exact ih h (i+1) x.2 p hp
 |m kt vt r ih =>
  intro h i x p hp;rcases Bp4.1 hp with hp|hp
  ·cases hx:x.1 with
   |none=>rw[hx]at hp;cases hp
   |some y=>rw[hx]at hp;rw[Bpg]at hp;subst hp;rfl
  ·exact ih h (i+1) x.2 p hp
 |s a ty r ih1 ih2 =>
  intro h i x p hp;rcases Bp4.1 hp with hp|hp
  ·rcases Boz.1 hp with rfl|hp
   ·show Ef _=true;rw[a.I2];exact T3 _ a 0 x.1
   ·exact ih1 _ 0 x.1 p hp
  ·exact ih2 h (i+1) x.2 p hp
 |z a ty r ih1 ih2 =>
  intro h i x p hp;rcases Bp4.1 hp with hp|hp
  ·cases hx:x.1 with
   |none=>rw[hx]at hp;cases hp
   |some y =>
    rw[hx]at hp;rcases Boz.1 hp with rfl|hp
    ·show Ef _=true;rw[a.I2];exact T3 _ a 0 y
    ·exact ih1 _ 0 y p hp
  ·exact ih2 h (i+1) x.2 p hp
def B16:A2 (Nat×Nat)→Bool
 |[]=>true
 |p::r=>cond (cond (Nat.blt p.1 H0) true (Nat.blt ((p.1-H0)/1000) H0)) (B16 r) false
def B17(C2:A2 Nat):A2 (Nat×Nat)→Bool
 |[]=>true
 |p::r=>cond (cond (Nat.blt p.1 H0) true (cond (inl ((p.1-H0)/1000) C2) false true)) (B17 C2 r) false
theorem Ak6:∀ {T:A2 (Nat×Nat)},B16 T=true→∀p∈T,p.1<H0∨(p.1-H0)/1000<H0
 |[],_,p,hp=>by simp at hp
 |q::r,h,p,hp=>by
  obtain⟨h1,h2⟩:=Ai h;rcases Boz.1 hp with rfl|hp
  ·cases hb:Nat.blt p.1 H0 with
   |true=>rw[Bqx]at hb;exact .inl hb
   |false=>rw[hb,Box,Bqx]at h1;exact .inr h1
  ·exact Ak6 h2 p hp
theorem Ak7{C2:A2 Nat}:∀ {T:A2 (Nat×Nat)},B17 C2 T=true→∀p∈T,p.1<H0∨(p.1-H0)/1000∉C2
 |[],_,p,hp=>by simp at hp
 |q::r,h,p,hp=>by
  obtain⟨h1,h2⟩:=Ai h;rcases Boz.1 hp with rfl|hp
  ·cases hb:Nat.blt p.1 H0 with
   |true=>rw[Bqx]at hb;exact .inl hb
   |false =>
    rw[hb,Box]at h1;refine .inr fun hm=>?_
    rw[(Cx _ _).2 hm]at h1;cases h1
  ·exact Ak7 h2 p hp
def Ak8(objs told:A2 (Nat×A9))(Ve:A2 (Nat×Nat))(C2:A2 Nat):Bool :=
 cond (I0 (Ve.map (·.1))) (cond (I0 (Ve.map (·.2))) (cond (Y9 (Ve.map (·.2))) (cond (B16 Ve) (cond (B17 C2 Ve) (cond (Y9 (told.map (·.1))) (cond (Aao told) (P2 objs) false) false) false) false) false) false) false
def Ak9{T:A2 (Nat×Nat)}(h:(T.map (·.1)).Nodup){n:Nat}(hp:(n,j)∈T):lk n T=some j:=by rw[Avf];exact B5 h hp
def B4e(m j:Nat)(hj:j<1000):(Fj m j-H0)/1000=m:=by unfold Fj;omega
def HR.closed{nm:A2 Nat}{live:A2 Nat}(hr:HR nm B g w ⟨A4 objs,live⟩)(hs:∀q∈told,Src objs Ve C2 q)(hk:Ak8 objs told Ve C2=true)
  (hns:∀k∈ns,k∈nm∧(k,k)∈Ve∧k∈told.map (·.1)):HR ns B (g.pull (ren Ve)) w ⟨A4 told,[]⟩:=by
 unfold Ak8 at hk;obtain⟨t1,hk⟩:=Ai hk;obtain⟨t2,hk⟩:=Ai hk;obtain⟨t3,hk⟩:=Ai hk;obtain⟨t4,hk⟩:=Ai hk;obtain⟨t5,hk⟩:=Ai hk;obtain⟨t6,hk⟩:=Ai hk;obtain⟨t7,t8⟩:=Ai hk;replace t1:=Ch t1;replace t2:=Ch t2;replace t3:=Qw t3;replace t4:=Ak6 t4;replace t5:=Ak7 t5;replace t6:=Qw t6;let f:=ren Ve;have Ax9:∀ {n j},(n,j)∈Ve→f n=j:=fun hp=>B4a (Ak9 t1 hp)
 have val:∀ {n j},(n,j)∈Ve→j<H0:=fun hp=>t3 _ (Bpe (f:=(·.2)) hp)
 have key:∀ {n j},lk n Ve=some j→(n,j)∈Ve:=fun h=>by rw[Avf]at h;exact Da h
 have deep:∀ {m j},H0≤m→j<1000→f (Fj m j)=Fj (f m) j:=by
  intro m j hm hj;refine B4b hj ?_;cases hl:lk (Fj m j) Ve with
  |none=>rfl
  |some z =>
   exfalso;rcases t4 _ (key hl)with h|h
   ·have:=Qv m j;simp only at h;omega
   ·simp only[B4e m j hj]at h;omega
 have Bis:∀ {n},H0≤n→A70 f n:=by
  intro n hn m j hj hm;refine deep ?_ hj;rcases hm with rfl|hm
  ·exact hn
  ·exact hm.ge
 have Bit:∀ {n},n∈C2→A70 f n:=by
  intro n hn m j hj hm;rcases hm with rfl|hm
  ·refine B4b hj ?_;cases hl:lk (Fj m j) Ve with
   |none=>rfl
   |some z =>
    exfalso;rcases t5 _ (key hl)with h|h
    ·have:=Qv m j;simp only at h;omega
    ·simp only[B4e m j hj]at h;exact h hn
  ·exact deep hm.ge hj
 have inX:∀ {j:Nat} {y:A9} {p:Nat×Ob},lk j objs=some y→(y.C1.map (·.1)).Nodup→p∈y.C1→(A4 objs).lookup p.1=some p.2 :=
  fun hj hn hp=>Ade t8 (G5 hj) (B5 hn hp)
 have small:∀q∈told,∀S ty x,q.2 = .abs q.1 S ty x→S.small 0=true:=by intro q hq S ty x e;have:=Qx t7 q hq;rw[e]at this;exact(Ai this).2
 have names:∀n o,(A4 told).lookup n=some o→∃q∈told,(n=q.1∧o=q.2.o)∨(n,o)∈q.2.C1:=by
  intro n o h;rcases A3h h with ⟨y,hy,rfl⟩|⟨p,hp,h2⟩
  ·exact⟨_,G5 hy,.inl ⟨rfl,rfl⟩⟩
  ·exact⟨p,hp,.inr (Fs h2)⟩
 have kid:∀ {n j:Nat} {S:Sh} {x:S.T} {cs:A2 XV} {τ:A2 (Nat×Nat)},Ky objs 0 S cs=some (x,τ)→(∀p∈τ,(Fj n p.1,p.2)∈Ve)→S.small 0=true →
   CLe cs (S.D6 (fun i=>f (Fj n i)) 0 x)∧∀q∈S.kids (Fj n) 0 x,(∃j',(q.1,j')∈Ve)∧lk (f q.1) objs=some (q.2.re f)∧q.2.Bbn q.1∧H0≤q.1:=by
  intro n j S x cs τ hc hT Ej;obtain⟨c1,c2⟩:=Sb S 0 cs x τ hc (fun i=>f (Fj n i)) fun p hp=>Ax9 (hT p hp)
  refine⟨c1,fun q hq=>?_⟩;have e1:(f q.1,q.2.re f)∈S.kids (fun i=>f (Fj n i)) 0 x:=by rw[← S.A0d 0 x (f:=f) (b:=Fj n) fun _ _=>rfl];exact Bpe (f:=fun q:Nat×A9=>(f q.1,q.2.re f)) hq
  obtain⟨a1,p,a2,a3,_,_⟩:=c2 _ e1;obtain⟨i,_,hi,hqi⟩:=S.A0e (Fj n) 0 x q hq;have hge:H0≤q.1:=by rw[hqi];exact Qv _ _
  refine⟨?_,a1,S.A69 (Fj n) 0 x Ej q hq,hge⟩;obtain⟨i',_,M9⟩:∃i',True∧q.1=Fj n i':=⟨i,trivial,hqi⟩;have:=N0 hc q hq;obtain⟨p',hp',e⟩:=this;exact⟨p'.2,by rw[e];exact hT p' hp'⟩
 refine HR.Blc hr (f:=f) rfl ?_ ?_ ?_ ?_
 ·intro n o h;obtain⟨q,hq,h1⟩:=names n o h;cases hs q hq with
  |raw n' j S ty x cs τ a1 a2 a3 a4 =>
   have Ej:=small _ hq S ty x rfl;obtain⟨c1,c2⟩:=kid (n:=n') (j:=j) a3 a4 Ej;rcases h1 with ⟨rfl,rfl⟩|h1
   ·refine⟨_,by rw[Ax9 a1];exact Hy a2,?_⟩;simp only[A9.o,Qh];rw[S.I2,S.Pz 0 x (f:=f) (b:=Fj n) (b':=fun i=>f (Fj n i)) fun _ _=>rfl];refine .cells (by rw[Ah,Ah];exact c1.1) (fun i u v hu hv=>?_) (.inl rfl);rw[Lf,Bp8]at hu hv;obtain⟨u',hu',rfl⟩:=hu;obtain⟨v',hv',rfl⟩:=hv;exact c1.2 i u' v' hu' hv'
   ·obtain⟨p,hp,h2⟩:=(S.Ny n' 0 x (n,o)).1 h1;obtain⟨⟨j',b1⟩,b2,b3,b4⟩:=c2 p hp;rcases h2 with h2|h2
    ·cases h2;refine⟨_,Hy b2,?_⟩;rw[A9.Bir b3 (Bis b4)];exact .refl _
    ·have e2:(f n,E6 f o)∈(p.2.re f).C1:=by rw[A9.At7 b3 (Bis b4)];exact Bpe (f:=fun p:Nat×Ob=>(f p.1,E6 f p.2)) h2
     refine⟨_,inX b2 ?_ e2,.refl _⟩;rcases b3 with ⟨kt,vt,es,c,e⟩|⟨a,Y8,y,e,hsa⟩
     ·rw[e];simp[A9.re,A9.C1]
     ·rw[e];exact a.I3 _ 0 y hsa
  |abs n' j S ty x a1 a2 a3 =>
   have Ej:=small _ hq S ty x rfl;have hkk:(A9.abs n' S ty x).Bbn n':=.inr ⟨S,ty,x,rfl,Ej⟩;have e0:(A9.abs n' S ty x).re f = .abs j S ty x:=by show A9.abs (f n') S ty x=_;rw[Ax9 a1]
   rcases h1 with ⟨rfl,rfl⟩|h1
   ·refine⟨_,by rw[Ax9 a1];exact Hy a2,?_⟩;rw[← A9.Bir hkk (Bit a3),e0];exact .refl _
   ·have e2:(f n,E6 f o)∈(A9.abs j S ty x).C1:=by rw[← e0,A9.At7 hkk (Bit a3)];exact Bpe (f:=fun p:Nat×Ob=>(f p.1,E6 f p.2)) h1
    exact⟨_,inX a2 (S.I3 _ 0 x Ej) e2,.refl _⟩
 ·intro n n' o o' h h' e;let R:Nat→Prop:=fun r=>∃j,(r,j)∈Ve
  have root:∀n o,(A4 told).lookup n=some o→R n∨∃r,R r∧A70 f r∧Cs r n:=by
   intro n o h;obtain⟨q,hq,h1⟩:=names n o h;cases hs q hq with
   |raw n' j S ty x cs τ a1 a2 a3 a4 =>
    have Ej:=small _ hq S ty x rfl;obtain⟨c1,c2⟩:=kid (n:=n') (j:=j) a3 a4 Ej;rcases h1 with ⟨rfl,rfl⟩|h1
    ·exact .inl ⟨j,a1⟩
    ·obtain⟨p,hp,h2⟩:=(S.Ny n' 0 x (n,o)).1 h1;obtain⟨⟨j',b1⟩,b2,b3,b4⟩:=c2 p hp;rcases h2 with h2|h2
     ·cases h2;exact .inl ⟨j',b1⟩
     ·refine .inr ⟨p.1,⟨j',b1⟩,Bis b4,?_⟩;rcases b3 with ⟨kt,vt,es,c,e⟩|⟨a,Y8,y,e,hsa⟩
      ·rw[e]at h2;cases h2
      ·rw[e]at h2;exact a.Ck _ 0 y _ hsa h2
   |abs n' j S ty x a1 a2 a3 =>
    have Ej:=small _ hq S ty x rfl;rcases h1 with ⟨rfl,rfl⟩|h1
    ·exact .inl ⟨j,a1⟩
    ·exact .inr ⟨n',⟨j,a1⟩,Bit a3,S.Ck _ 0 x _ Ej h1⟩
  refine At8 (f:=f) (R:=R) (A:=fun r=>A70 f r) (fun r h=>h) ?_ ?_ (root n o h) (root n' o' h') e
  ·rintro r r' ⟨j,h1⟩ ⟨j',h2⟩ e;rw[Ax9 h1,Ax9 h2]at e;subst e;exact Bpj Prod.fst (Jf t2 h1 h2 rfl)
  ·rintro r r' ⟨j,h1⟩ ⟨j',h2⟩ _ hu;rw[Ax9 h1]at hu;have:=hu.ge;have:=val h1;omega
 ·intro n o h;obtain⟨q,hq,h1⟩:=names n o h;have:∃n' S ty x,q=(n',A9.abs n' S ty x):=by
   cases hs q hq with
   |raw n' j S ty x cs τ=>exact⟨n',S,ty,x,rfl⟩
   |abs n' j S ty x=>exact⟨n',S,ty,x,rfl⟩
  obtain⟨n',S,ty,x,rfl⟩:=this;rcases h1 with ⟨_,rfl⟩|h1
  ·show Ef _=true;rw[S.I2];exact T3 _ S 0 x
  ·exact Ac5 S _ 0 x _ h1
 ·intro k Lb;obtain⟨h1,h2,h3⟩:=hns k Lb;refine⟨Ax9 h2,h1,?_⟩;show((A4 told).lookup k).isSome;obtain⟨p,hp,rfl⟩:=Bpc.1 h3;have:∀l:A2 (Nat×A9),p∈l→∃y,lk p.1 l=some y:=by
   intro l;induction l with
   |nil=>intro h;cases h
   |cons q r ih =>
    intro h;rw[F9];cases hb:Nat.beq q.1 p.1 with
    |true=>exact⟨_,rfl⟩
    |false =>
     rcases Boz.1 h with h|h
     ·rw[← h]at hb;simp at hb
     ·exact ih h
  obtain⟨y,hy⟩:=this told hp;rw[Hy hy];rfl
structure ASp where
 args:List AS
 ins:List (Nat×Sh×Option TypeId)
 res:List AR
@[reducible] def ASp.Out (S:ASp):Type:=B15 S.ins×Ah0 S.res
@[reducible] def Axa:A2 (Nat×Sh×A3 TypeId)→Type→Type
 |[],R=>R
 |p::r,R=>p.2.1.T→Axa r R
@[reducible] def ASp.Bb (S:ASp):Type:=A8z S.args (Axa S.ins (A3 S.Out))
def A0j:A2 (Nat×Sh×A3 TypeId)→A2 Nat
 |[]=>[]
 |p::r=>p.1::A0j r
def ASp.n(S:ASp):Nat:=A8y S.args
def ASp.D2(S:ASp):A2 Nat:=At0 S.args
def Biu{α:Type}:(l:A2 (Nat×Sh×A3 TypeId))→(A2 (Nat×A9)→α)→A2 (Nat×A9)→Axa l α
 |[],f,acc=>f acc
 |p::r,f,acc=>fun x=>Biu r f (acc++[(p.1,.abs p.1 p.2.1 p.2.2 x)])
def Ac6{β:Type}(Q:β→A2 (Nat×A9)→Prop):(l:A2 (Nat×Sh×A3 TypeId))→Axa l β→A2 (Nat×A9)→Prop
 |[],F,acc=>Q F acc
 |p::r,F,acc=>∀x:p.2.1.T,Ac6 Q r (F x) (acc++[(p.1,.abs p.1 p.2.1 p.2.2 x)])
theorem Axb{α:Type}{Q:α→A2 (Nat×A9)→Prop}{f:A2 (Nat×A9)→α}(ns:A2 Nat)(h:∀acc,acc.map (·.1)=ns→Q (f acc) acc):∀(l:A2 (Nat×Sh×A3 TypeId)) (acc:A2 (Nat×A9)),acc.map (·.1)++A0j l=ns→Ac6 Q l (Biu l f acc) acc
 |[],acc,hm=>h acc (by simpa[A0j]using hm)
 |p::r,acc,hm=>fun x=>Axb ns h r _ (by simpa[A0j]using hm)
def Ac7:A2 ResultVar→A2 Nat
 |[]=>[]
 |.tmp t::r=>t::Ac7 r
 |.cell _ _::r=>Ac7 r
section
variable(P:Program)(Γ:A2 (Ft P))(own:A2 Nat)(N:Nat)(fn:Func)(an:A2 Nat→An)(S:ASp)
def Bbr(s:Af):A3 S.Out :=
 match Abp P s fn.results.toList with
 |some rs=>match Ak5 s.objs S.ins,Zi s.objs S.res rs with
  |some (out,σ),some (res,τ,C2)=>cond (Ak8 s.objs (Ag9 S.ins out++Uw S.res res) (σ++τ) C2) (some (out,res)) none
  |_,_=>none
 |none=>none
def Bld:Exit→Af→A3 S.Out
 |.ret,s=>fzK (Ac7 fn.results.toList) s (Bbr P fn S)
 |.normal,s=>fzK (Ac7 fn.results.toList) s (Bbr P fn S)
 |_,_=>none
def Bbs(xs:A2 XV)(l:A2 (Nat×A9)):A3 S.Out :=
 match fn.body with
 |some c=>cond (Nat.ble fn.ntmps GB) (cond (cond (At9 l) (cond (I0 (l.map (·.1))) (P2 l) false) false)
  (A6b l fun objs=>exec P Γ own (A0j S.ins) fn.ntmps N c (an (objs.map (·.1))) ⟨A8q 0 (xs.take S.n)++glE S.D2 (xs.drop S.n),objs,[],[],[]⟩ (Bld P fn S)) none) none
 |none=>none
def An9:S.Bb:=A4c S.args (fun xs=>Biu S.ins (fun l=>Bbs P Γ own N fn an S xs l) []) []
end
def Ah1:A2 XV→Bool
 |[]=>true
 |.d _::r=>Ah1 r
 |.nm k (.p _)::r=>cond (Nat.blt k 9) (Ah1 r) false
 |.nm k .m::r=>cond (Nat.blt k 9) (Ah1 r) false
 |_::_=>false
theorem Axc:∀ {l:A2 XV},Ah1 l=true→∀(i:Nat) (x:XV),l[i]? = some x→A06 x.a=true∧Dk (O9 J3) x.a=x.a
 |[],_,i,x,hx=>by simp at hx
 |y::r,h,i,x,hx=>by
  have low:∀ {k},k<9→O9 J3 k=k:=fun {k} hk=>by rw[Wz (A1t (by omega)),Ac2 hk]
  have key:(A06 y.a=true∧Dk (O9 J3) y.a=y.a)∧Ah1 r=true:=by
   cases y with
   |d d=>exact⟨⟨rfl,rfl⟩,h⟩
   |nm k p =>
    cases p with
    |p off =>obtain⟨h1,h2⟩:=Ai h;rw[Bqx]at h1;exact⟨⟨rfl,by simp only[XV.a,Dk,low h1]⟩,h2⟩
    |m =>obtain⟨h1,h2⟩:=Ai h;rw[Bqx]at h1;exact⟨⟨rfl,by simp only[XV.a,Dk,low h1]⟩,h2⟩
    |_=>cases h
   |_=>cases h
  cases i with
  |zero=>simp at hx;subst hx;exact key.1
  |succ i=>exact Axc key.2 i x (by simpa using hx)
def Bf1(hT:(Ve.map (·.1)).Nodup)(h:A94 Ve vs us){v:Value}(hr:RA g w (A0x (A7 vs)) v):RA (g.pull (ren Ve)) w (A0x (A7 us)) v:=by
 have one:∀ {a b:XV},A94 Ve [a] [b]→∀ {v},RA g w a.a v→RA (g.pull (ren Ve)) w b.a v:=by
  intro a b h v hr;cases h with
  |d h1 _ =>have:=h1 g w v hr;exact this.data rfl (.refl _ _)
  |p h1 _ =>simp only[XV.a]at hr⊢;refine RA.pull (g:=g) (gc:=g.pull (ren Ve)) (f:=ren Ve) rfl (fun _=>rfl) _ v rfl ?_;simp only[Dk,B4a (Ak9 hT h1)];exact hr
 have len:∀ {vs us:A2 XV},A94 Ve vs us→vs.length=us.length:=by
  intro vs us h;induction h with
  |nil=>rfl
  |d _ _ ih=>simp[ih]
  |p _ _ ih=>simp[ih]
 have at':∀ {vs us:A2 XV},A94 Ve vs us→∀(i:Nat) (a b:XV),vs[i]? = some a→us[i]? = some b→A94 Ve [a] [b]:=by
  intro vs us h;induction h with
  |nil=>intro i a b ha;simp at ha
  |d h1 _ ih =>
   intro i a b ha hb;cases i with
   |zero=>simp at ha hb;subst ha;subst hb;exact .d h1 .nil
   |succ i=>exact ih i a b (by simpa using ha) (by simpa using hb)
  |p h1 _ ih =>
   intro i a b ha hb;cases i with
   |zero=>simp at ha hb;subst ha;subst hb;exact .p h1 .nil
   |succ i=>exact ih i a b (by simpa using ha) (by simpa using hb)
 have many:∀ {vs us:A2 XV},A94 Ve vs us→∀ {v},RA g w (.F2 (A7 vs)) v→RA (g.pull (ren Ve)) w (.F2 (A7 us)) v:=by
  intro vs us h v hr;cases hr with
  |F2 _ ws hl hx =>
   refine .F2 _ ws (by rw[Ah]at hl⊢;rw[← len h];exact hl) fun i x v hx' hv=>?_
   rw[Lf,Bp8]at hx';obtain⟨b,hb,rfl⟩:=hx';have Bg:i<vs.length:=by rw[len h];exact(Bp2.1 hb).1
   have ha:vs[i]? = some vs[i]:=by simp[Bg]
   exact one (at' h i _ _ ha hb) (hx i _ v (by rw[Lf,ha];rfl) hv)
 cases vs with
 |nil=>cases h;exact many .nil hr
 |cons a r =>
  cases us with
  |nil=>cases h
  |cons b s =>
   have hl:=len h;cases r with
   |nil =>
    cases s with
    |nil=>exact one h hr
    |cons c s=>simp at hl
   |cons a' r =>
    cases s with
    |nil=>simp at hl
    |cons b' s=>exact many h hr
def Lm(S:ASp)(y:S.Out):A2 (Nat×A9):=Ag9 S.ins y.1++Uw S.res y.2
def Bbt(P:Program)(f:FuncId)(S:ASp)(y:S.Out)(xs:A2 XV)(l:A2 (Nat×A9)):Prop :=
 l.map (·.1)=A0j S.ins∧P2 l=true∧Ah1 (xs.take S.n)=true ∧
  Awi P f (A0j S.ins) (A7 (xs.take S.n)) (S.D2.zip (A7 (xs.drop S.n))) ⟨A4 l,[]⟩ (Lj (Atb S.res y.2)).a ⟨A4 (Lm S y),[]⟩
theorem A4g:∀(L:A2 (Nat×Sh×A3 TypeId)) (x:B15 L),(Ag9 L x).map (·.1)=A0j L
 |[],x=>rfl
 |p::r,x=>by simp only[Ag9,Bp3,A0j,A4g r]
def Axd(h:Ak8 objs told Ve C2=true):P2 told=true∧(Ve.map (·.1)).Nodup:=by unfold Ak8 at h;obtain⟨t1,h⟩:=Ai h;obtain⟨t2,h⟩:=Ai h;obtain⟨t3,h⟩:=Ai h;obtain⟨t4,h⟩:=Ai h;obtain⟨t5,h⟩:=Ai h;obtain⟨t6,h⟩:=Ai h;obtain⟨t7,t8⟩:=Ai h;refine⟨?_,Ch t1⟩;unfold P2;rw[t6,t7];cases Dt told<;>rfl
def Axe{Γ:A2 (Ft P)}{f:FuncId}{S:ASp}{y:S.Out}(hm:P.follows .mixedOrders=true)(hf:P.funcs[f]? = some fn)
  (hn:xs.length≤fn.ntmps) (hx:Ah1 (xs.take S.n)=true) (hd:Az (A7 (xs.drop S.n))=true) (A4d:l.map (·.1)=A0j S.ins) (h:Bbs P Γ own N fn an S xs l=some y):Bbt P f S y xs l:=by
 unfold Bbs at h;split at h
 rotate_left
 ·cases h
 rename_i c hc;obtain⟨hG,h⟩:=Aos h;cases Bbi:cond (At9 l) (cond (I0 (l.map (·.1))) (P2 l) false) false with
 |false=>rw[Bbi]at h;cases h
 |true =>
 rw[Bbi,Bov,A93]at h;obtain⟨k1,k2⟩:=Ai Bbi;obtain⟨k2,k3⟩:=Ai k2;replace k2:=Ch k2;have Ej:∀j∈A0j S.ins,j<1000:=by intro j hj;rw[← A4d]at hj;obtain⟨p,hp,rfl⟩:=Bpc.1 hj;have:=(Ac1 k1 p hp).lt;omega
 have hs:=S9 (S:=⟨fn.ntmps,A0j S.ins,Ej⟩) hm rfl c _ _ _ _ _ (.refl _) h;have ends:∀ {e:Exit} {Bd:Af},Bld P fn S e Bd=some y→(e = .ret∨e = .normal)∧fzK (Ac7 fn.results.toList) Bd (Bbr P fn S)=some y:=by
  intro e Bd h;cases e with
  |ret=>exact⟨.inl rfl,h⟩
  |normal=>exact⟨.inr rfl,h⟩
  |_=>cases h
 have told:∀ {s1:Af},Bbr P fn S s1=some y→∃rs σ τ C2,Abp P s1 fn.results.toList=some rs∧Ak5 s1.objs S.ins=some (y.1,σ)∧Zi s1.objs S.res rs=some (y.2,τ,C2)∧Ak8 s1.objs (Lm S y) (σ++τ) C2=true:=by
  intro s1 h;unfold Bbr at h;split at h
  ·rename_i rs hrs;split at h
   ·rename_i out σ res τ C2 h1 h2;cases ht:Ak8 s1.objs (Ag9 S.ins out++Uw S.res res) (σ++τ) C2 with
    |false=>rw[ht]at h;cases h
    |true =>rw[ht,Bov,Bp0]at h;subst h;exact⟨rs,σ,τ,C2,hrs,h1,h2,ht⟩
   ·cases h
  ·cases h
 have main:Awi P f (A0j S.ins) (A7 (xs.take S.n)) (S.D2.zip (A7 (xs.drop S.n))) ⟨A4 l,[]⟩ (Lj (Atb S.res y.2)).a ⟨A4 (Lm S y),[]⟩:=by
  intro g w vs hr hgs hl ha;have Ble:=HR.opened k1 k2 k3 hr (fun k hk=>by rw[A4d];exact hk);refine Buk hf hc (Btw (hs (B8.of g w ⟨A4 l,[]⟩) (g.pull (O9 J3)) w _ ?_) ?_)
  ·rw[Ah,Bq1]at hl;refine⟨rfl,?_,Ble,?_⟩
   ·simp;omega
   ·intro s x hx1;have hx':(Ds (A8q 0 (xs.take S.n))++Ds (glE S.D2 (xs.drop S.n))).lookup s=some x:=by rw[Ds,Ds,← Bpn];exact hx1
    rw[Br0,A61]at hx';cases h1:(A2e 0 (A7 (xs.take S.n))).lookup s with
    |some x1 =>
     rw[h1]at hx';simp only[Bsw,Bp0]at hx';subst hx';obtain⟨_,hx'⟩:=Nn h1;rw[Bs3]at hx';have Bg:s<vs.size:=by have:=(Bp2.1 hx').1;rw[Ah,Bq1]at this;omega
     refine⟨vs[s],?_,?_⟩
     ·rw[S2 (by omega)];rw[Brh Bg];simp[Bg]
     ·have h2:=ha s x1 vs[s] hx' (by simp[Bg]);rw[Lf,Bp8]at hx';obtain⟨z,hz,rfl⟩:=hx';obtain⟨a1,a2⟩:=Axc hx s z hz;exact RA.pull (g:=g) (gc:=g.pull (O9 J3)) (f:=O9 J3) rfl (fun _=>rfl) _ _ a1 (by rw[a2];exact h2)
    |none =>rw[h1]at hx';simp only[Bt3]at hx';obtain⟨k,rfl,hk⟩:=Ahe (Da hx');refine⟨_,A0w k,(hgs _ hk).data ?_ (.refl _ _)⟩;have:x∈A7 (xs.drop S.n):=(Bvw hk).2;obtain⟨i,hi⟩:=Bu0 this;exact Ix hd hi
  ·rintro e a' w' ⟨s,g',⟨Bd,rfl,hi,hk⟩,Gu⟩;obtain⟨Bne,hfz⟩:=ends hk;have fin:a'.defers=[]∧∃v,(results fn a'.tmps).run P w' = .ok v w'∧∃g' v_1,Ending.returned v=Ending.returned v_1∧RA g' w' (Lj (Atb S.res y.2)).a v_1∧HR (A0j S.ins) (B8.of g w ⟨A4 l,[]⟩) g' w' ⟨A4 (Lm S y),[]⟩:=by
    obtain⟨s1,q1,q2,q3⟩:=Asr (S:=⟨fn.ntmps,A0j S.ins,Ej⟩) _ Bd hi hfz;obtain⟨g1,hs1⟩:=q3 _ g' w' a' Gu;obtain⟨rs,σ,τ,C2,e1,e2,e3,e4⟩:=told q1;obtain⟨v,hv,Ua⟩:=Mq (T2 e1) hs1;obtain⟨i1,i2⟩:=Ap6 S.ins y.1 σ e2;obtain⟨r1,r2⟩:=A0i S.res rs y.2 τ C2 e3;have hT:=(Axd e4).2;have Bdi:∀q∈Lm S y,Src s1.objs (σ++τ) C2 q:=by
     intro q hq;rcases Bp4.1 hq with hq|hq
     ·exact(i1 q hq).mono (fun p hp=>Bpi _ hp) (by simp)
     ·exact(r1 q hq).mono (fun p hp=>Bph _ hp) (fun n hn=>hn)
    have hcl:=HR.closed (ns:=A0j S.ins) hs1.hr Bdi e4 (by
     intro k hk;have:∀L:A2 (Nat×Sh×A3 TypeId),k∈A0j L→∃p∈L,p.1=k:=by
      intro L;induction L with
      |nil=>intro h;cases h
      |cons p r ih =>
       intro h;rcases Boz.1 h with rfl|h
       ·exact⟨p,Bp6,rfl⟩
       ·obtain⟨q,hq,e⟩:=ih h;exact⟨q,Bp5 _ hq,e⟩
     obtain⟨p,hp,rfl⟩:=this S.ins hk;refine⟨hk,Bpi _ (i2 p hp),?_⟩;unfold Lm;rw[Bpn,A4g];exact Bpi _ hk)
    refine⟨hs1.defers,v,hv,_,v,rfl,?_,hcl⟩;rw[R5];exact Bf1 hT (r2.mono fun p hp=>Bph _ hp) Ua
   rcases Bne with rfl|rfl
   ·exact fin
   ·exact fin
 exact⟨A4d,k3,hx,main⟩
def Axf{fn:FuncId}{args:Array Operand}{D2:A2 Nat}{xs ys:A2 AV}{res:AV}{Xc Cw:A5}(f:Nat→Nat)(F:A2 Nat)
  (ho:o.op = .call { callee:=.value (.func fn),args:=args,argTypes:=ts }) (hf:Ed P fn) (hs:Awi P fn ns xs (D2.zip ys) Xc res Cw) (hc:As7 ns X Xc Cw Y f F)
  (hl:xs.length=args.size) (hd:Ef xs=true) (hy:Az ys=true) (Vv:∃ks,Cd ks res=true∧∀j∈ks,(Cw.objs.lookup j).isSome) :
  Bi P o (args.toList.zip (Db f xs)++(D2.map Operand.global).zip ys) X Y F (Dk f res):=by
 intro nm Ej B g w a hr Au next Q hn
 unfold Oper.wp;have:(execOp a.eval o).run P w = .ok (.enter fn (args.map a.eval)) w:=by simp only[execOp,ho,resolve];simp[Act.eval,Deferred.ofValue,invoke,D0 hf]
 rw[this];have hG:GH g w (D2.zip ys):=by
  intro p hp;have h1:(Operand.global p.1,p.2)∈(D2.map Operand.global).zip ys:=by rw[Bvk,Bpc];exact⟨p,hp,rfl⟩
  exact Au _ (Bph _ h1)
 refine(hs.use (Yz _ hy) hc hd Vv Ej hr hG (by simpa using hl) (Wd fun p hp=>Au p (Bpi _ hp))).mono ?_;rintro e w' ⟨v,g',rfl,h1,h2,h3⟩;exact hn g' w' v h1 h2 h3
def Sh.Ana(h:Nat):Nat→Sh→A2 Nat
 |_,.nil=>[]
 |i,.d _ r=>r.Ana h (i+1)
 |i,.m _ _ r=>Fj h i::r.Ana h (i+1)
 |i,.s a _ r=>Fj h i::(a.Ana (Fj h i) 0++r.Ana h (i+1))
 |i,.z a _ r=>Fj h i::(a.Ana (Fj h i) 0++r.Ana h (i+1))
theorem Sh.Sc:∀(S:Sh) (h i:Nat) (x:S.T) (p:Nat×Ob),p∈S.C1 h i x→p.1∈S.Ana h i
 |.nil,h,i,x,p,hp=>by cases hp
 |.d t r,h,i,x,p,hp=>Sh.Sc r h (i+1) x.2 p hp
 |.m kt vt r,h,i,x,p,hp=>by
  rcases Bp4.1 hp with hp|hp
  ·cases hx:x.1 with
   |none=>rw[hx]at hp;cases hp
   |some y=>rw[hx]at hp;rw[Bpg]at hp;subst hp;exact Bp6
  ·exact Bp5 _ (Sh.Sc r h (i+1) x.2 p hp)
 |.s a ty r,h,i,x,p,hp=>by
  rcases Bp4.1 hp with hp|hp
  ·rcases Boz.1 hp with rfl|hp
   ·exact Bp6
   ·exact Bp5 _ (Bpi _ (Sh.Sc a _ 0 x.1 p hp))
  ·exact Bp5 _ (Bph _ (Sh.Sc r h (i+1) x.2 p hp))
 |.z a ty r,h,i,x,p,hp=>by
  rcases Bp4.1 hp with hp|hp
  ·cases hx:x.1 with
   |none=>rw[hx]at hp;cases hp
   |some y =>
    rw[hx]at hp;rcases Boz.1 hp with rfl|hp
    ·exact Bp6
    ·exact Bp5 _ (Bpi _ (Sh.Sc a _ 0 y p hp))
  ·exact Bp5 _ (Bph _ (Sh.Sc r h (i+1) x.2 p hp))
theorem Sh.Q0:∀(S:Sh) (h i:Nat),S.small i=true→∀n∈S.Ana h i,Cs h n
 |.nil,h,i,hs,n,hn=>by cases hn
 |.d t r,h,i,hs,n,hn=>Sh.Q0 r h (i+1) (Ai hs).2 n hn
 |.m kt vt r,h,i,hs,n,hn=>by
  have hi:i<1000:=by simpa[Bqx] using(Ai hs).1
  rcases Boz.1 hn with rfl|hn
  ·exact .here i hi
  ·exact Sh.Q0 r h (i+1) (Ai hs).2 n hn
 |.s a ty r,h,i,hs,n,hn=>by
  have hi:i<1000:=by simpa[Bqx] using(Ai hs).1
  have h2:=Ai (Ai hs).2;rcases Boz.1 hn with rfl|hn
  ·exact .here i hi
  ·rcases Bp4.1 hn with hn|hn
   ·exact(Cs.here i hi).trans (Sh.Q0 a _ 0 h2.1 n hn)
   ·exact Sh.Q0 r h (i+1) h2.2 n hn
 |.z a ty r,h,i,hs,n,hn=>by
  have hi:i<1000:=by simpa[Bqx] using(Ai hs).1
  have h2:=Ai (Ai hs).2;rcases Boz.1 hn with rfl|hn
  ·exact .here i hi
  ·rcases Bp4.1 hn with hn|hn
   ·exact(Cs.here i hi).trans (Sh.Q0 a _ 0 h2.1 n hn)
   ·exact Sh.Q0 r h (i+1) h2.2 n hn
def Atc{a b:A2 AV}:Bo ks (a++b)=(Bo ks a&&Bo ks b):=by
 induction a with
 |nil=>rfl
 |cons x r ih=>simp only[Br1,Bo,ih,Bool.and_assoc]
def B18(ks:A2 Nat)(l:A2 D):Bo ks (l.map .d)=true:=by
 induction l with
 |nil=>rfl
 |cons x r ih=>simp only[Bp3,Bo,Cd,ih,Bqo]
theorem Sh.Kj(h:Nat):∀(S:Sh) (i:Nat) (x:S.T),(∀p∈S.C1 h i x,p.1∈ks)→Bo ks (A7 (S.cells h i x))=true
 |.nil,i,x,hk=>rfl
 |.d t r,i,x,hk=>by
  simp only[Sh.cells,Dc,Wi,Atc,B18,Bsn];exact Sh.Kj h r (i+1) x.2 hk
 |.m kt vt r,i,x,hk=>by
  have hr:=Sh.Kj h r (i+1) x.2 (fun p hp=>hk p (Bph _ hp));simp only[Sh.cells,A7,Bo,hr,Bro];cases hx:x.1 with
  |none=>rfl
  |some y=>exact Bqc.2 (hk (Fj h i,B9g kt vt y.1 y.2) (by simp only[Sh.C1,hx];exact Bpi _ (Bpg.2 rfl)))
 |.s a ty r,i,x,hk=>by
  have hr:=Sh.Kj h r (i+1) x.2 (fun p hp=>hk p (Bph _ hp));simp only[Sh.cells,A7,Bo,hr,Bro];exact Bqc.2 (hk _ (Bpi _ Bp6))
 |.z a ty r,i,x,hk=>by
  have hr:=Sh.Kj h r (i+1) x.2 (fun p hp=>hk p (Bph _ hp));simp only[Sh.cells,A7,Bo,hr,Bro];cases hx:x.1 with
  |none=>rfl
  |some y=>exact Bqc.2 (hk (Fj h i,.cells (A7 (a.cells (Fj h i) 0 y)) ty) (by simp only[Sh.C1,hx];exact Bpi _ Bp6))
theorem Sh.N1:∀(S:Sh) (h i:Nat) (x:S.T),(∀p∈S.C1 h i x,p.1∈ks)→∀p∈S.C1 h i x,Iu ks p.2=true
 |.nil,h,i,x,hk,p,hp=>by cases hp
 |.d t r,h,i,x,hk,p,hp=>Sh.N1 r h (i+1) x.2 hk p hp
 |.m kt vt r,h,i,x,hk,p,hp=>by
  rcases Bp4.1 hp with hp|hp
  ·cases hx:x.1 with
   |none=>rw[hx]at hp;cases hp
   |some y=>rw[hx]at hp;rw[Bpg]at hp;subst hp;rfl
  ·exact Sh.N1 r h (i+1) x.2 (fun p hp=>hk p (Bph _ hp)) p hp
 |.s a ty r,h,i,x,hk,p,hp=>by
  rcases Bp4.1 hp with hp|hp
  ·rcases Boz.1 hp with rfl|hp
   ·exact a.Kj _ 0 x.1 fun p hp=>hk p (Bpi _ (Bp5 _ hp))
   ·exact Sh.N1 a _ 0 x.1 (fun p hp=>hk p (Bpi _ (Bp5 _ hp))) p hp
  ·exact Sh.N1 r h (i+1) x.2 (fun p hp=>hk p (Bph _ hp)) p hp
 |.z a ty r,h,i,x,hk,p,hp=>by
  rcases Bp4.1 hp with hp'|hp'
  ·cases hx:x.1 with
   |none=>rw[hx]at hp';cases hp'
   |some y =>
    have Lb:∀p∈(Fj h i,Ob.cells (A7 (a.cells (Fj h i) 0 y)) ty)::a.C1 (Fj h i) 0 y,p.1∈ks:=fun p hp=>hk p (by simp only[Sh.C1,hx];exact Bpi _ hp)
    rw[hx]at hp';rcases Boz.1 hp' with rfl|hp'
    ·exact a.Kj _ 0 y fun p hp=>Lb p (Bp5 _ hp)
    ·exact Sh.N1 a _ 0 y (fun p hp=>Lb p (Bp5 _ hp)) p hp'
  ·exact Sh.N1 r h (i+1) x.2 (fun p hp=>hk p (Bph _ hp)) p hp'
def A4h(f:Nat→Nat):A2 (Nat×A9)→A2 (Nat×A9)→A2 (Nat×A9)
 |[],acc=>acc
 |p::r,acc=>A4h f r (Lg (f p.1) (p.2.re f) acc)
theorem Tq{f:Nat→Nat}{j:Nat}:∀ {l acc:A2 (Nat×A9)},(∀q∈l,f q.1≠j)→lk j (A4h f l acc)=lk j acc
 |[],acc,_=>rfl
 |p::r,acc,h=>by
  simp only[A4h];rw[Tq fun q hq=>h q (Bp5 _ hq),Nu _ _ _ _ (Brl (h p Bp6))]
theorem Aka{f:Nat→Nat}:∀ {l acc:A2 (Nat×A9)},(l.map fun q=>f q.1).Nodup→∀q∈l,lk (f q.1) (A4h f l acc)=some (q.2.re f)
 |[],acc,_,q,hq=>by cases hq
 |p::r,acc,hn,q,hq=>by
  simp only[Bp3,Bqg]at hn;simp only[A4h];rcases Boz.1 hq with rfl|hq
  ·rw[Tq fun z hz e=>hn.1 (by rw[← e];exact Bpe (f:=fun q:Nat×A9=>f q.1) hz)];exact Aqu acc
  ·exact Aka hn.2 q hq
theorem Axg{k:Nat}{o:A9}:∀ {l:A2 (Nat×A9)} {p:Nat×A9},p∈Lg k o l→p=(k,o)∨p∈l
 |[],p,h=>by rw[Aap]at h;exact .inl (Bpg.1 h)
 |q::r,p,h=>by
  rw[S6]at h;cases hb:Nat.beq q.1 k with
  |true =>
   rw[hb,Bov]at h;rcases Boz.1 h with h|h
   ·exact .inl h
   ·exact .inr (Bp5 _ h)
  |false =>
   rw[hb,Box]at h;rcases Boz.1 h with h|h
   ·exact .inr (by rw[h];exact Bp6)
   ·rcases Axg h with h|h
    ·exact .inl h
    ·exact .inr (Bp5 _ h)
theorem Axh{f:Nat→Nat}:∀ {l acc:A2 (Nat×A9)} {p:Nat×A9},p∈A4h f l acc→(∃q∈l,p=(f q.1,q.2.re f))∨p∈acc
 |[],acc,p,h=>.inr h
 |q::r,acc,p,h=>by
  simp only[A4h]at h;rcases Axh h with ⟨z,hz,e⟩|h
  ·exact .inl ⟨z,Bp5 _ hz,e⟩
  ·rcases Axg h with h|h
   ·exact .inl ⟨q,Bp6,h⟩
   ·exact .inr h
mutual
theorem Atd{F ks:List Nat}(hd:∀k∈ks,F.contains k=false):∀ {x:AV},Cd ks x=true→Gi F x=true
 |.d _,_=>rfl
 |.nm k _,h=>by simp only[Gi,hd k (Bqc.1 h),Brm]
 |.Be _ _ _ _,h=>by cases h
 |.Vs _ _ _,h=>by cases h
 |.F2 l,h=>Pa hd (by simpa[Cd]using h)
 |.agg l,h=>Pa hd (by simpa[Cd]using h)
 |.F1 _ l,h=>Pa hd (by simpa[Cd]using h)
theorem Pa{F ks:List Nat}(hd:∀k∈ks,F.contains k=false):∀ {l:List AV},Bo ks l=true→Bq F l=true
 |[],_=>rfl
 |x::r,h=>by
  simp only[Bo,Bq4]at h;simp only[Bq,Atd hd h.1,Pa hd h.2,Bqo]
end
def Ac8(hd:∀k∈ks,F.contains k=false){o:Ob}(h:Iu ks o=true):F4 F o=true:=by
 cases o with
 |cells cs ty=>exact Pa hd h
 |map l c=>rfl
 |Vt s p=>rfl
 |Jo k a b c=>simp only[F4,hd k (Bqc.1 h),Brm]
 |Dl=>rfl
 |Cf=>cases h
def Aeo(f:Nat→Nat):A2 (Nat×A9)→A2 Nat
 |[]=>[]
 |p::r=>(match p.2 with
  |.abs _ S _ _=>S.Ana (f p.1) 0
  |_=>[])++Aeo f r
def Aga(ts F:A2 Nat):A2 (Nat×A9)→Bool
 |[]=>true
 |p::r=>cond (inl p.1 ts) (Aga ts F r) (match p.2 with
  |.abs _ _ _ _=>Aga ts F r
  |o=>cond (Yv F o) (Aga ts F r) false)
theorem Ap7{ts F:A2 Nat}:∀ {l:A2 (Nat×A9)},Aga ts F l=true→∀p∈l,p.1∈ts∨p.2.plain=false∨(p.2.plain=true∧Yv F p.2=true)
 |[],_,p,hp=>by cases hp
 |q::r,h,p,hp=>by
  have key:(q.1∈ts∨q.2.plain=false∨(q.2.plain=true∧Yv F q.2=true))∧Aga ts F r=true:=by
   simp only[Aga]at h;cases hi:inl q.1 ts with
   |true=>rw[hi,Bov]at h;exact⟨.inl ((Cx _ _).1 hi),h⟩
   |false =>
    rw[hi,Box]at h;cases ho:q.2 with
    |abs=>rw[ho]at h;exact⟨.inr (.inl rfl),h⟩
    |_=>rw[ho]at h;obtain⟨h1,h2⟩:=Ai h;exact⟨.inr (.inr ⟨rfl,h1⟩),h2⟩
  rcases Boz.1 hp with rfl|hp
  ·exact key.1
  ·exact Ap7 key.2 p hp
structure A95(l:List (Nat×A9)):Prop where
 ok:P2 l=true
 nd:(l.map (·.1)).Nodup
 ex:∀q∈l,∃S ty x,q.2 = .abs q.1 S ty x∧S.small 0=true
 low:∀q∈l,q.1<H0
def A95.of(h:P2 l=true)(hn:(l.map (·.1)).Nodup)(he:∀q∈l,∃S ty x,q.2=A9.abs q.1 S ty x):A95 l:=by
 have key:∀q∈l,Aao l=true∧∀p∈l,p.1<H0:=by
  intro q hq;rcases Kv h with h1|h1
  ·obtain⟨S,ty,x,e⟩:=he q hq;have:=Gw h1 q hq;rw[e]at this;cases this
  ·exact h1
 refine⟨h,hn,fun q hq=>?_,fun q hq=>(key q hq).2 q hq⟩;obtain⟨S,ty,x,e⟩:=he q hq;have:=Qx (key q hq).1 q hq;rw[e]at this;exact⟨S,ty,x,e,(Ai this).2⟩
def A95.names(h:A95 l){n:Nat}{o:Ob}(hl:(A4 l).lookup n=some o):∃q∈l,∃S ty x,q.2 = .abs q.1 S ty x∧S.small 0=true∧((n=q.1∧o = .cells (A7 (S.cells q.1 0 x)) ty)∨(n,o)∈S.C1 q.1 0 x):=by
 rcases A3h hl with ⟨y,hy,rfl⟩|⟨p,hp,h2⟩
 ·have hm:=G5 hy;obtain⟨S,ty,x,e,hs⟩:=h.ex _ hm;exact⟨_,hm,S,ty,x,e,hs,.inl ⟨rfl,by simp only at e;rw[e];rfl⟩⟩
 ·obtain⟨S,ty,x,e,hs⟩:=h.ex _ hp;rw[e]at h2;exact⟨p,hp,S,ty,x,e,hs,.inr (Fs h2)⟩
def A95.head(h:A95 l)(hq:q∈l):((A4 l).lookup q.1).isSome:=by rw[Hy (Ag8 h.nd hq)];rfl
def A95.Fj(h:A95 l)(hq:q∈l){S:Sh}{x:S.T}(e:q.2 = .abs q.1 S ty x)(hs:S.small 0=true)(hp:p∈S.C1 q.1 0 x):(A4 l).lookup p.1=some p.2 :=
 Ade h.ok hq (by rw[e];exact B5 (S.I3 _ 0 x hs) hp)
theorem Ap8:∀ {l:A2 (Nat×A9)},Aao l=true→∀p∈l,∀q∈l,p.2.plain=false→q.2.plain=false→p.1=q.1→p=q
 |[],_,p,hp,_,_,_,_,_=>by cases hp
 |z::r,h,p,hp,q,hq,h1,h2,e=>by
  have hr:Aao r=true∧(z.2.plain=false→A7l z.1 r=false):=by
   simp only[Aao]at h;cases hz:z.2.plain with
   |true=>rw[hz,Bov]at h;exact⟨h,by simp⟩
   |false =>
    rw[hz,Box]at h;have h3:=(Ai h).2;cases ha:A7l z.1 r with
    |true=>rw[ha]at h3;cases h3
    |false=>rw[ha,Box]at h3;exact⟨h3,fun _=>rfl⟩
  rcases Boz.1 hp with e1|hp'<;>rcases Boz.1 hq with e2|hq'
  ·rw[e1,e2]
  ·subst e1;have:=A5k hq' h2 e.symm;rw[hr.2 h1]at this;cases this
  ·subst e2;have:=A5k hp' h1 e;rw[hr.2 h2]at this;cases this
  ·exact Ap8 hr.1 p hp' q hq' h1 h2 e
def Bf2{tl:A2 (Nat×A9)}{Fv:A2 Nat}(hX:P2 st.objs=true)(hl:A95 l)(ht:A95 tl)(hns:l.map (·.1)=ns)(Aaa:∀k∈ns,k∈tl.map (·.1))
  (Vu:∀q∈l,lk (f0 q.1) st.objs=some (q.2.re f0)) (hnd:(tl.map fun q=>f0 q.1).Nodup) (Asn:∀q∈tl,f0 q.1<H0) (A32:∀q∈tl,q.1∈ns∨(1000≤f0 q.1∧f0 q.1∈Fv)) (hFv:Y9 Fv=true)
  (hY:P2 (A4h f0 tl st.objs)=true) (Qe:Aga (tl.map fun q=>f0 q.1) (Fv++Aeo f0 tl) st.objs=true) :
  As7 ns st.X ⟨A4 l,[]⟩ ⟨A4 tl,[]⟩ ⟨A4 (A4h f0 tl st.objs),st.live⟩ (O9 f0) (Fv++Aeo f0 tl):=by
 let f:=O9 f0;have Ah2:∀ {n},n<H0→f n=f0 n:=fun h=>Wz h
 have eqv:∀h,A70 f h:=fun h=>Ac3 f0 h
 have Biv:∀q∈l,∃p∈tl,p.1=q.1:=by intro q hq;obtain⟨p,hp,e⟩:=Bpc.1 (Aaa q.1 (by rw[← hns];exact Bpe (f:=(·.1)) hq));exact⟨p,hp,e⟩
 have put:∀q∈tl,lk (f0 q.1) (A4h f0 tl st.objs)=some (q.2.re f0):=fun q hq=>Aka hnd q hq
 have B4f:∀ {q:Nat×A9} {S:Sh} {ty:A3 TypeId} {x:S.T},q.1<H0→q.2 = .abs q.1 S ty x→S.small 0=true→(q.2.re f0).o=E6 f (.cells (A7 (S.cells q.1 0 x)) ty)∧(q.2.re f0).C1=(S.C1 q.1 0 x).map (fun p=>(f p.1,E6 f p.2)):=by intro q S ty x hq e hs;rw[e];simp only[A9.re,A9.o,A9.C1,Qh];rw[S.A68 x hs (eqv _),S.R7 q.1 0 x hs (eqv _),Ah2 hq];exact⟨rfl,rfl⟩
 have Biw:∀ {q:Nat×A9} {S:Sh} {ty:A3 TypeId} {x:S.T},q.2 = .abs q.1 S ty x→S.small 0=true→((q.2.re f0).C1.map (·.1)).Nodup:=by intro q S ty x e hs;rw[e];exact S.I3 _ 0 x hs
 have look:∀ {objs:A2 (Nat×A9)} {L:A2 (Nat×A9)},P2 objs=true→A95 L→(∀q∈L,lk (f0 q.1) objs=some (q.2.re f0))→∀n o,(A4 L).lookup n=some o→(A4 objs).lookup (f n)=some (E6 f o):=by
  intro objs L hk hL hh n o hn;obtain⟨q,hq,S,ty,x,e,hs,h1⟩:=hL.names hn;obtain⟨m1,m2⟩:=B4f (hL.low q hq) e hs;rcases h1 with ⟨rfl,rfl⟩|h1
  ·rw[Ah2 (hL.low q hq),Hy (hh q hq),m1]
  ·have:(f n,E6 f o)∈(q.2.re f0).C1:=by rw[m2];exact Bpe (f:=fun p:Nat×Ob=>(f p.1,E6 f p.2)) h1
   exact Ade hk (G5 (hh q hq)) (B5 (Biw e hs) this)
 have nt:∀ {L:A2 (Nat×A9)},A95 L→∀n o,(A4 L).lookup n=some o→V9 o=true:=by
  intro L hL n o hn;obtain⟨q,hq,S,ty,x,e,hs,h1⟩:=hL.names hn;rcases h1 with ⟨_,rfl⟩|h1
  ·show Ef _=true;rw[S.I2];exact T3 _ S 0 x
  ·exact Ac5 S _ 0 x _ h1
 have root:∀ {L:A2 (Nat×A9)},A95 L→(∀q∈L,∃p∈tl,p.1=q.1)→∀n,((A4 L).lookup n).isSome→(∃p∈tl,p.1=n)∨∃r,(∃p∈tl,p.1=r)∧True∧Cs r n:=by
  intro L hL Gu n hn;obtain⟨o,ho⟩:=Ws hn;obtain⟨q,hq,S,ty,x,e,hs,h1⟩:=hL.names ho;rcases h1 with ⟨rfl,_⟩|h1
  ·exact .inl (Gu q hq)
  ·exact .inr ⟨q.1,Gu q hq,trivial,S.Ck _ 0 x _ hs h1⟩
 have Bgs:∀n,((A4 l).lookup n).isSome∨((A4 tl).lookup n).isSome→(∃p∈tl,p.1=n)∨∃r,(∃p∈tl,p.1=r)∧True∧Cs r n:=by
  intro n hn;rcases hn with hn|hn
  ·exact root hl Biv n hn
  ·exact root ht (fun q hq=>⟨q,hq,rfl⟩) n hn
 have Blf:∀ {q:Nat×A9} {S:Sh} {ty:A3 TypeId} {x:S.T},q∈tl→q.2 = .abs q.1 S ty x→∀n∈S.Ana (f0 q.1) 0,n∈Aeo f0 tl:=by
  intro q S ty x hq e n hn;have:∀L:A2 (Nat×A9),q∈L→n∈Aeo f0 L:=by
   intro L;induction L with
   |nil=>intro h;cases h
   |cons p r ih =>
    intro h;simp only[Aeo,Bp4];rcases Boz.1 h with rfl|h
    ·left;rw[e];exact hn
    ·exact .inr (ih h)
  exact this tl hq
 have Blg:∀n∈Aeo f0 tl,∃q∈tl,Cs (f0 q.1) n:=by
  have:∀L:A2 (Nat×A9),(∀q∈L,q∈tl)→∀n∈Aeo f0 L,∃q∈tl,Cs (f0 q.1) n:=by
   intro L;induction L with
   |nil=>intro _ n hn;cases hn
   |cons p r ih =>
    intro hs n hn;simp only[Aeo,Bp4]at hn;rcases hn with hn|hn
    ·obtain⟨S,ty,x,e,Ej⟩:=ht.ex p (hs p Bp6);rw[e]at hn;exact⟨p,hs p Bp6,S.Q0 _ 0 Ej n hn⟩
    ·exact ih (fun q hq=>hs q (Bp5 _ hq)) n hn
  exact this tl fun q hq=>hq
 have Bgt:∀n,((A4 tl).lookup n).isSome→(∃q∈tl,n=q.1)∨∃q∈tl,∃S ty x,q.2=A9.abs q.1 S ty x∧S.small 0=true∧∃o,(n,o)∈S.C1 q.1 0 x:=by
  intro n hn;obtain⟨o,ho⟩:=Ws hn;obtain⟨q,hq,S,ty,x,e,hs,h1⟩:=ht.names ho;rcases h1 with ⟨rfl,_⟩|h1
  ·exact .inl ⟨q,hq,rfl⟩
  ·exact .inr ⟨q,hq,S,ty,x,e,hs,o,h1⟩
 refine⟨⟨rfl,rfl,rfl⟩,?_,?_,?_,?_,?_,?_,?_,?_,?_⟩
 ·exact look hX hl Vu
 ·exact nt hl
 ·intro k o hk;obtain⟨q,hq,S,ty,x,e,hs,h1⟩:=ht.names hk;refine⟨(S.C1 q.1 0 x).map (·.1),?_,?_⟩
  ·have hkn:∀p∈S.C1 q.1 0 x,p.1∈(S.C1 q.1 0 x).map (·.1):=fun p hp=>Bpe (f:=(·.1)) hp
   rcases h1 with ⟨_,rfl⟩|h1
   ·exact S.Kj _ 0 x hkn
   ·exact S.N1 _ 0 x hkn _ h1
  ·intro j hj;obtain⟨p,hp,rfl⟩:=Bpc.1 hj;show((A4 tl).lookup p.1).isSome;rw[ht.Fj hq e hs hp];rfl
 ·intro k k' hk Lb e;refine At8 (f:=f) (R:=fun r=>∃p∈tl,p.1=r) (A:=fun _=>True) (fun r _=>eqv r) ?_ ?_ (Bgs k hk) (Bgs k' Lb) e
  ·rintro r r' ⟨p,hp,rfl⟩ ⟨q,hq,rfl⟩ e;rw[Ah2 (ht.low p hp),Ah2 (ht.low q hq)]at e;rw[Jf hnd hp hq e]
  ·rintro r r' ⟨p,hp,rfl⟩ ⟨q,hq,rfl⟩ _ hu;rw[Ah2 (ht.low p hp)]at hu;have:=hu.ge;have:=Asn p hp;omega
 ·intro k hk;refine⟨?_,?_⟩
  ·rw[← hns]at hk;obtain⟨q,hq,rfl⟩:=Bpc.1 hk;exact hl.head hq
  ·obtain⟨q,hq,rfl⟩:=Bpc.1 (Aaa k hk);exact ht.head hq
 ·exact look hY ht put
 ·intro j o hj;rcases A3h hj with ⟨y,hy,rfl⟩|⟨p,hp,h2⟩
  ·by_cases hex:∃q∈tl,f0 q.1=j
   ·obtain⟨q,hq,rfl⟩:=hex;exact .inl ⟨q.1,ht.head hq,Ah2 (ht.low q hq)⟩
   ·have hne:∀q∈tl,f0 q.1≠j:=fun q hq e=>hex ⟨q,hq,e⟩
    have hy0:lk j st.objs=some y:=by rw[← Tq hne];exact hy
    refine .inr ⟨Hy hy0,?_,?_⟩
    ·intro k hk e;rcases root hl Biv k hk with ⟨p,hp,rfl⟩|⟨r,⟨p,hp,rfl⟩,_,hu⟩
     ·rw[show O9 f0 p.1=f0 p.1 from Ah2 (ht.low p hp)]at e;exact hne p hp e
     ·have h3:=(hu.map (eqv _)).ge;have:j<H0:=by
       rcases Kv hX with h4|⟨_,h4⟩
       ·obtain⟨q,hq⟩:∃q,q∈l:=by
         cases hl':l with
         |nil=>rw[hl']at hk;cases hk
         |cons q r=>exact⟨q,Bp6⟩
        have:=Gw h4 _ (G5 (Vu q hq));obtain⟨S,ty,x,e',_⟩:=hl.ex q hq;rw[e']at this;cases this
       ·exact h4 _ (G5 hy0)
      rw[← e]at this;have h5:H0≤O9 f0 k:=h3;omega
    ·rcases Ap7 Qe _ (G5 hy0)with h3|h3|⟨_,h3⟩
     ·obtain⟨q,hq,e⟩:=Bpc.1 h3;exact(hne q hq e).elim
     ·right;cases hyy:y with
      |abs h' S ty x =>
       have Je:=hX;rcases Kv Je with h4|⟨h4,h5⟩
       ·have:=Gw h4 _ (G5 hy0);rw[hyy]at this;cases this
       ·have Bbu:=Qx h4 _ (G5 hy0);rw[hyy]at Bbu;obtain⟨t1,t2⟩:=Ai Bbu;have t1:=Boy t1;simp only at t1;subst t1;refine Ac8 (ks:=(S.C1 h' 0 x).map (·.1)) ?_ (S.Kj _ 0 x fun p hp=>Bpe (f:=(·.1)) hp);intro k hk;obtain⟨p,hp,rfl⟩:=Bpc.1 hk;have hu:=S.Ck _ 0 x p t2 hp;cases hc:(Fv++Aeo f0 tl).contains p.1 with
        |false=>rfl
        |true =>
         exfalso;rcases Bp4.1 (Bqc.1 hc)with h6|h6
         ·have:=Qw hFv _ h6;have:=hu.ge;omega
         ·obtain⟨q,hq,hv⟩:=Blg _ h6;exact hne q hq (hv.one hu (Asn q hq) (h5 _ (G5 hy0)))
      |_=>rw[hyy]at h3;cases h3
     ·exact .inr (Ajg h3)
  ·have Bgu:∀q∈tl,(q.2.re f0).C1.lookup j=some o→(∃k,((A4 tl).lookup k).isSome∧O9 f0 k=j):=by intro q hq h2;obtain⟨S,ty,x,e,hs⟩:=ht.ex q hq;obtain⟨m1,m2⟩:=B4f (ht.low q hq) e hs;rw[m2]at h2;obtain⟨p,hp,e2⟩:=Bpc.1 (Fs h2);cases e2;refine⟨p.1,?_,rfl⟩;rw[ht.Fj hq e hs hp];rfl
   rcases Axh hp with ⟨q,hq,rfl⟩|hp0
   ·exact .inl (Bgu q hq h2)
   ·
    by_cases hex:∃q∈tl,f0 q.1=p.1
    ·obtain⟨q,hq,e⟩:=hex;obtain⟨S,ty,x,e',hs⟩:=ht.ex q hq;have hpp:p.2.plain=false:=by
      cases hh:p.2.plain with
      |false=>rfl
      |true=>rw[A9.H6 hh]at h2;cases h2
     have hqp:(q.2.re f0).plain=false:=by rw[e'];rfl
     have hm:(f0 q.1,q.2.re f0)∈A4h f0 tl st.objs:=G5 (put q hq);rcases Kv hY with h4|⟨h4,_⟩
     ·have:=Gw h4 _ hm;rw[hqp]at this;cases this
     ·have:=Ap8 h4 p hp _ hm hpp hqp e.symm;rw[this]at h2;exact .inl (Bgu q hq h2)
    ·have hne:∀q∈tl,f0 q.1≠p.1:=fun q hq e=>hex ⟨q,hq,e⟩
     have hu:Cs p.1 j:=by
      rcases Kv hX with h4|⟨h4,h5⟩
      ·rw[A9.H6 (Gw h4 p hp0)]at h2;cases h2
      ·exact A9.Adc (Qx h4 p hp0) (Fs h2)
     have Blh:p.1<H0:=by
      rcases Kv hX with h4|⟨h4,h5⟩
      ·rw[A9.H6 (Gw h4 p hp0)]at h2;cases h2
      ·exact h5 p hp0
     refine .inr ⟨Ade hX hp0 h2,?_,?_⟩
     ·intro k hk e;rcases root hl Biv k hk with ⟨q,hq,rfl⟩|⟨r,⟨q,hq,rfl⟩,_,hv⟩
      ·rw[show O9 f0 q.1=f0 q.1 from Ah2 (ht.low q hq)]at e;have:=hu.ge;have:=Asn q hq;omega
      ·have:=hv.map (eqv _);rw[Ah2 (ht.low q hq)]at this;have e':f k=j:=e;rw[e']at this;exact hne q hq (this.one hu (Asn q hq) Blh)
     ·right;cases hpp:p.2 with
      |abs h' S ty x =>
       rcases Kv hX with h4|⟨h4,h5⟩
       ·have:=Gw h4 p hp0;rw[hpp]at this;cases this
       ·have Bbu:=Qx h4 p hp0;rw[hpp]at Bbu h2;obtain⟨t1,t2⟩:=Ai Bbu;have t1:=Boy t1;refine Ac8 (ks:=(S.C1 h' 0 x).map (·.1)) ?_ (S.N1 _ 0 x (fun p hp=>Bpe (f:=(·.1)) hp) _ (Fs h2));intro k hk;obtain⟨z,hz,rfl⟩:=Bpc.1 hk;have hw:=S.Ck _ 0 x z t2 hz;rw[t1]at hw;cases hc:(Fv++Aeo f0 tl).contains z.1 with
        |false=>rfl
        |true =>
         exfalso;rcases Bp4.1 (Bqc.1 hc)with h6|h6
         ·have:=Qw hFv _ h6;have:=hw.ge;omega
         ·obtain⟨q,hq,hv⟩:=Blg _ h6;exact hne q hq (hv.one hw (Asn q hq) Blh)
      |_=>rw[hpp]at h2;cases h2
 ·intro j hj hs;have hj0:j<H0:=by unfold H0;omega
  have Gu:((A4 st.objs).lookup j).isSome:=hs;rw[B9h hj0]at Gu;refine⟨?_,?_⟩
  ·show((A4 (A4h f0 tl st.objs)).lookup j).isSome;by_cases hex:∃q∈tl,f0 q.1=j
   ·obtain⟨q,hq,rfl⟩:=hex;rw[Hy (put q hq)];rfl
   ·rw[B9h hj0,Tq fun q hq e=>hex ⟨q,hq,e⟩];exact Gu
  ·intro k e hk;rcases Bgt k hk with ⟨q,hq,rfl⟩|⟨q,hq,S,ty,x,e',Ej,o,ho⟩
   ·rcases A32 q hq with h|⟨h,_⟩
    ·exact h
    ·have:f0 q.1=j:=by rw[← Ah2 (ht.low q hq)];exact e
     omega
   ·have:=((S.Ck _ 0 x _ Ej ho).map (eqv _)).ge;have e':f k=j:=e;simp only at this;omega
 ·intro k hk;rcases Bgt k hk with ⟨q,hq,rfl⟩|⟨q,hq,S,ty,x,e',Ej,o,ho⟩
  ·rcases A32 q hq with h|⟨_,h⟩
   ·exact .inl h
   ·right;show O9 f0 q.1∈_;rw[show O9 f0 q.1=f0 q.1 from Ah2 (ht.low q hq)];exact Bpi _ h
  ·right;refine Bph _ (Blf hq e' _ ?_);have:(f k,E6 f o)∈S.C1 (f q.1) 0 x:=by rw[← S.R7 q.1 0 x Ej (eqv _)];exact Bpe (f:=fun p:Nat×Ob=>(f p.1,E6 f p.2)) ho
   rw[Ah2 (ht.low q hq)]at this;exact S.Sc _ 0 x _ this
inductive ShA:List AS→List XV→Prop
 |nil:ShA [] []
 |d {t:Ty} {r:List AS} {y:XD} {xs:List XV}:ShA r xs→ShA (.d t::r) (.d y::xs)
 |p {k off:Nat} {r:List AS} {xs:List XV}:k<9→ShA r xs→ShA (.p k off::r) (.nm k (A07 off)::xs)
 |g {k:Nat} {t:Ty} {r:List AS} {y:XD} {xs:List XV}:ShA r xs→ShA (.g k t::r) (.d y::xs)
 |Px {p:Option Bool} {r:List AS} {xs:List XV}:ShA r xs→ShA (.nil p::r) (A40 p::xs)
def B4g:A2 AS→Bool
 |[]=>true
 |.g _ _::r=>B4g r
 |_=>false
def Ac9:A2 AS→Bool
 |[]=>true
 |.d _::r=>Ac9 r
 |.p k off::r=>cond (Nat.blt k 9) (cond (Nat.ble 900000000 off) false (Ac9 r)) false
 |.g _ _::r=>B4g r
 |.nil _::r=>Ac9 r
 |_=>false
theorem Ap9{α:Type}{Q:α→A2 XV→Prop}{f:A2 XV→α}:∀(l:A2 AS) (acc:A2 XV),B4g l=true→(∀tail,ShA l tail→Q (f (acc++tail)) (acc++tail))→J2 Q l (A4c l f acc) acc
 |[],acc,_,h=>by have:=h [] .nil;rw[Bq0]at this;exact this
 |.g k t::r,acc,ho,h=>fun y=>Ap9 r _ ho fun tail ht=>by have:=h (_::tail) (.g (k:=k) (t:=t) (y:=t.xv y) ht);rw[Bu1]at this;exact this
 |.d _::_,_,ho,_=>by cases ho
 |.p _ _::_,_,ho,_=>by cases ho
 |.os _ _::_,_,ho,_=>by cases ho
 |.oa _ _ _::_,_,ho,_=>by cases ho
 |.nil _::_,_,ho,_=>by cases ho
 |.F1 _ _::_,_,ho,_=>by cases ho
theorem A6c{α:Type}{Q:α→A2 XV→Prop}{f:A2 XV→α}:∀(l:A2 AS) (acc:A2 XV),Ac9 l=true→(∀tail,ShA l tail→Q (f (acc++tail)) (acc++tail))→J2 Q l (A4c l f acc) acc
 |[],acc,_,h=>by have:=h [] .nil;rw[Bq0]at this;exact this
 |.d t::r,acc,ho,h=>fun y=>A6c r _ ho fun tail ht=>by have:=h (_::tail) (.d (t:=t) (y:=t.xv y) ht);rw[Bu1]at this;exact this
 |.p k off::r,acc,ho,h=>by
  obtain⟨h1,h2⟩:=Ai ho;cases hB:Nat.ble 900000000 off with
  |true=>rw[hB]at h2;cases h2
  |false =>
  rw[hB,Box]at h2;rw[Bqx]at h1;simp only[J2,A4c];exact A6c r _ h2 fun tail ht=>by have:=h (_::tail) (.p (off:=off) h1 ht);rw[Bu1]at this;exact this
 |.g k t::r,acc,ho,h=>fun y=>Ap9 r _ ho fun tail ht=>by have:=h (_::tail) (.g (k:=k) (t:=t) (y:=t.xv y) ht);rw[Bu1]at this;exact this
 |.os _ _::_,_,ho,_=>by cases ho
 |.oa _ _ _::_,_,ho,_=>by cases ho
 |.nil p::r,acc,ho,h=>by
  simp only[J2,A4c];exact A6c r _ ho fun tail ht=>by have:=h (_::tail) (.Px (p:=p) ht);rw[Bu1]at this;exact this
 |.F1 _ _::_,_,ho,_=>by cases ho
theorem Bgv:∀ {l:A2 AS} {xs:A2 XV},B4g l=true→ShA l xs→A8y l=0∧Az (A7 xs)=true
 |[],_,_,h=>by cases h;exact⟨rfl,rfl⟩
 |.g k t::r,_,ho,h=>by
  cases h with
  |g h =>have:=(Bgv (l:=r) ho h).2;exact⟨rfl,by simp only[A7,Az,this,Bro];rfl⟩
 |.d _::_,_,ho,_=>by cases ho
 |.p _ _::_,_,ho,_=>by cases ho
 |.os _ _::_,_,ho,_=>by cases ho
 |.oa _ _ _::_,_,ho,_=>by cases ho
 |.nil _::_,_,ho,_=>by cases ho
 |.F1 _ _::_,_,ho,_=>by cases ho
theorem Ate:∀ {l:A2 AS} {xs:A2 XV},Ac9 l=true→ShA l xs→Ah1 (xs.take (A8y l))=true∧Az (A7 (xs.drop (A8y l)))=true∧xs.length=l.length
 |[],_,_,h=>by cases h;exact⟨rfl,rfl,rfl⟩
 |.d t::r,_,ho,h=>by
  cases h with
  |d h =>obtain⟨h1,h2,h3⟩:=Ate (l:=r) ho h;exact⟨h1,h2,by simp[h3]⟩
 |.p k off::r,_,ho,h=>by
  cases h with
  |p hk h =>
   have ho2:=(Ai ho).2;cases hB:Nat.ble 900000000 off with
   |true=>rw[hB]at ho2;cases ho2
   |false =>
   rw[hB,Box]at ho2;obtain⟨h1,h2,h3⟩:=Ate (l:=r) ho2 h;refine⟨?_,h2,by simp[h3]⟩;simp only[A8y,Btn];unfold A07;rw[hB,Box];cases Nat.beq off pkM with
   |true=>simp only[Bov,Ah1,A0f hk,h1]
   |false=>simp only[Box,Ah1,A0f hk,Bov,h1]
 |.g k t::r,_,ho,h=>by
  have hl:∀ {l:A2 AS} {xs:A2 XV},ShA l xs→xs.length=l.length:=by
   intro l xs h;induction h with
   |nil=>rfl
   |d _ ih=>simp[ih]
   |p _ _ ih=>simp[ih]
   |g _ ih=>simp[ih]
   |Px _ ih=>simp[ih]
  refine⟨rfl,?_,hl h⟩;exact(Bgv (l:=.g k t::r) ho h).2
 |.os _ _::_,_,ho,_=>by cases ho
 |.oa _ _ _::_,_,ho,_=>by cases ho
 |.nil p::r,_,ho,h=>by
  cases h with
  |Px h =>obtain⟨h1,h2,h3⟩:=Ate (l:=r) ho h;exact⟨h1,h2,by simp[h3]⟩
 |.F1 _ _::_,_,ho,_=>by cases ho
def Agb(P:Program)(f:FuncId)(S:ASp)(F:S.Bb):Prop :=
 J2 (fun F' xs=>Ac6 (fun F'' l=>∀y,F''=some y→Bbt P f S y xs l) S.ins F' []) S.args F []
def Akb{Γ:A2 (Ft P)}{f:FuncId}{S:ASp}(hm:P.follows .mixedOrders=true)(hf:P.funcs[f]? = some fn)
  (hn:Nat.ble S.args.length fn.ntmps=true) (ha:Ac9 S.args=true):Agb P f S (An9 P Γ own N fn an S):=by
 unfold Agb An9;refine A6c S.args [] ha fun xs hxs=>?_
 rw[Bpx];obtain⟨h1,h2,h3⟩:=Ate ha hxs;refine Axb (A0j S.ins) (fun l hl=>?_) S.ins [] (by simp);intro y hy;exact Axe hm hf (by have:=Bpf hn;omega) h1 h2 hl hy
def Bf3{β R:Type}(f:Nat→Nat)(objs:A2 (Nat×A9)):(L:A2 (Nat×Sh×A3 TypeId))→Axa L β→A2 (Nat×A9)→(β→A2 (Nat×A9)→A3 R)→A3 R
 |[],F,acc,K=>K F acc
 |p::r,F,acc,K=>match Ap5 p.2.1 p.2.2 (f p.1) objs with
  |some x=>Bf3 f objs r (F x) (acc++[(p.1,.abs p.1 p.2.1 p.2.2 x)]) K
  |none=>none
theorem B4h{β R:Type}{Q:β→A2 (Nat×A9)→Prop}{f:Nat→Nat}{objs:A2 (Nat×A9)}{K:β→A2 (Nat×A9)→A3 R}{r:R}:∀(L:A2 (Nat×Sh×A3 TypeId)) (F:Axa L β) (acc:A2 (Nat×A9)),Ac6 Q L F acc →
  (∀q∈acc,(∃S ty x,q.2=A9.abs q.1 S ty x)∧lk (f q.1) objs=some (q.2.re f))→Bf3 f objs L F acc K=some r →
  ∃F' l,Q F' l∧(∀q∈l,(∃S ty x,q.2=A9.abs q.1 S ty x)∧lk (f q.1) objs=some (q.2.re f))∧K F' l=some r
 |[],F,acc,hg,ha,h=>⟨F,acc,hg,ha,h⟩
 |p::L,F,acc,hg,ha,h=>by
  unfold Bf3 at h;split at h
  ·rename_i x hx;refine B4h L (F x) _ (hg x) ?_ h;intro q hq;rcases Bp4.1 hq with hq|hq
   ·exact ha q hq
   ·rw[Bpg]at hq;subst hq;exact⟨⟨_,_,_,rfl⟩,Ac4 hx⟩
  ·cases h
def A1u{R:Type}:(L:A2 AR)→Ah0 L→(Ah0 L→R)→R
 |[],x,K=>K x
 |.d _::r,x,K=>A1u r x.2 fun y=>K (x.1,y)
 |.n _ _ _::r,x,K=>A1u r x.2 fun y=>K (x.1,y)
 |.z _ _ _::r,x,K=>A6 x.1 (A1u r x.2 fun y=>K (none,y)) fun z=>A1u r x.2 fun y=>K (some z,y)
theorem A6d{R:Type}:∀(L:A2 AR) (x:Ah0 L) (K:Ah0 L→R),A1u L x K=K x
 |[],x,K=>rfl
 |.d _::r,x,K=>by simp only[A1u,A6d r]
 |.n _ _ _::r,x,K=>by simp only[A1u,A6d r]
 |.z _ _ _::r,x,K=>by
  simp only[A1u,A6d r];obtain⟨a,b⟩:=x;cases a<;>rfl
def B19(base:Nat):A2 AR→A2 (Nat×Nat)
 |[]=>[]
 |.d _::r=>B19 base r
 |.n m _ _::r=>(m,base+m)::B19 base r
 |.z m _ _::r=>(m,base+m)::B19 base r
def B1a(ns Fv:A2 Nat)(f:Nat→Nat):A2 (Nat×A9)→Bool
 |[]=>true
 |p::r=>cond (cond (inl p.1 ns) true (cond (Nat.ble 1000 (f p.1)) (inl (f p.1) Fv) false)) (B1a ns Fv f r) false
theorem Akc{ns Fv:A2 Nat}{f:Nat→Nat}:∀ {l:A2 (Nat×A9)},B1a ns Fv f l=true→∀q∈l,q.1∈ns∨(1000≤f q.1∧f q.1∈Fv)
 |[],_,q,hq=>by cases hq
 |p::r,h,q,hq=>by
  obtain⟨h1,h2⟩:=Ai h;rcases Boz.1 hq with rfl|hq
  ·cases hi:inl q.1 ns with
   |true=>exact .inl ((Cx _ _).1 hi)
   |false =>rw[hi,Box]at h1;obtain⟨h3,h4⟩:=Ai h1;exact .inr ⟨Bpf h3,(Cx _ _).1 h4⟩
  ·exact Akc h2 q hq
def Bli{P:Program}{R:Type}(S:ASp)(f:Nat→Nat)(Fv:A2 Nat)(st:Af)(rd:A2 (Operand×XV))(xs:A2 XV)(l:A2 (Nat×A9))(K:Out→A3 R)(y:S.Out):A3 R :=
 cond (Wy (xs.drop S.n)) (cond (P2 st.objs) (cond (I0 (l.map (·.1))) (cond (P2 (Lm S y)) (cond (I0 ((Lm S y).map (·.1))) (cond (I0 ((Lm S y).map fun q=>f q.1)) (cond (Y9 ((Lm S y).map fun q=>f q.1))
  (cond (B1a (A0j S.ins) Fv f (Lm S y)) (cond (Y9 Fv) (cond (P2 (A4h f (Lm S y) st.objs)) (cond (Aga ((Lm S y).map fun q=>f q.1) (Fv++Aeo f (Lm S y)) st.objs)
  (K ⟨.all,(Lj (Atb S.res y.2)).mp f (fun n=>n),rd,A4h f (Lm S y) st.objs,st.live,Fv++Aeo f (Lm S y),(Lm S y).map fun q=>f q.1⟩) none) none) none) none) none) none) none) none) none) none) none
def Bf4{P:Program}{R:Type}(S:ASp)(F:S.Bb)(o:Oper)(st:Af)(vs:A2 XV)(K:Out→A3 R):A3 R :=
 cond (Nat.beq (B9 o).length S.n) (match Bx st (Asy S.D2) with
  |some us=>Ael (Ag7 S.args vs (B19 (Aek o) S.res)) fun σ=>Ll (nf σ) S.args F (Asz vs us) [] fun F' xs =>
    Bf3 (nf σ) st.objs S.ins F' [] fun F'' l=>Option.bind F'' fun y=>A1u S.res y.2 fun z =>Bli (P:=P) S (nf σ) ((B19 (Aek o) S.res).map (·.2)) st ((Asz (B9 o) (Asy S.D2)).zip (mpL (nf σ) (fun n=>n) xs)) xs l K (y.1,z)
  |none=>none) none
theorem Axi:∀(L:A2 (Nat×Sh×A3 TypeId)) (x:B15 L),∀q∈Ag9 L x,∃S ty x,q.2=A9.abs q.1 S ty x
 |[],_,q,hq=>by cases hq
 |p::r,x,q,hq=>by
  rcases Boz.1 hq with rfl|hq
  ·exact⟨_,_,_,rfl⟩
  ·exact Axi r x.2 q hq
theorem Aca:∀(L:A2 AR) (x:Ah0 L),∀q∈Uw L x,∃S ty x,q.2=A9.abs q.1 S ty x
 |[],_,q,hq=>by cases hq
 |.d _::r,x,q,hq=>Aca r x.2 q hq
 |.n m S ty::r,x,q,hq=>by
  rcases Boz.1 hq with rfl|hq
  ·exact⟨_,_,_,rfl⟩
  ·exact Aca r x.2 q hq
 |.z m S ty::r,x,q,hq=>by
  rcases Bp4.1 hq with hq|hq
  ·cases hx:x.1 with
   |none=>rw[hx]at hq;cases hq
   |some y=>rw[hx]at hq;rw[Bpg]at hq;subst hq;exact⟨_,_,_,rfl⟩
  ·exact Aca r x.2 q hq
theorem Ahf:∀(L:A2 AR) (x:Ah0 L),∀v∈Atb L x,(∃y,v = .d y)∨∃m,v = .nm m (.p 0)∧m∈(Uw L x).map (·.1)
 |[],_,v,hv=>by cases hv
 |.d t::r,x,v,hv=>by
  rcases Boz.1 hv with rfl|hv
  ·exact .inl ⟨_,rfl⟩
  ·exact Ahf r x.2 v hv
 |.n m S ty::r,x,v,hv=>by
  rcases Boz.1 hv with rfl|hv
  ·exact .inr ⟨m,rfl,by simp[Uw]⟩
  ·rcases Ahf r x.2 v hv with h|⟨m',h1,h2⟩
   ·exact .inl h
   ·exact .inr ⟨m',h1,by simp only[Uw,Bp3];exact Bp5 _ h2⟩
 |.z m S ty::r,x,v,hv=>by
  rcases Boz.1 hv with hv|hv
  ·cases hx:x.1 with
   |none=>rw[hx]at hv;exact .inl ⟨_,hv⟩
   |some y=>rw[hx]at hv;exact .inr ⟨m,hv,by simp[Uw,hx]⟩
  ·rcases Ahf r x.2 v hv with h|⟨m',h1,h2⟩
   ·exact .inl h
   ·exact .inr ⟨m',h1,by simp only[Uw,Bpn];exact Bph _ h2⟩
def Axj(h:∀v∈vs,(∃y,v=XV.d y)∨∃m,v = .nm m (.p 0)∧m∈ks):Cd ks (Lj vs).a=true:=by
 have one:∀v∈vs,Cd ks v.a=true:=by
  intro v hv;rcases h v hv with ⟨y,rfl⟩|⟨m,rfl,hm⟩
  ·rfl
  ·exact Bqc.2 hm
 have many:∀l:A2 XV,(∀v∈l,Cd ks v.a=true)→Bo ks (A7 l)=true:=by
  intro l;induction l with
  |nil=>intro _;rfl
  |cons x r ih=>intro h;simp only[A7,Bo,h x Bp6,ih fun v hv=>h v (Bp5 _ hv),Bqo]
 rw[R5];cases vs with
 |nil=>rfl
 |cons x r =>
  cases r with
  |nil=>exact one x Bp6
  |cons y r=>exact many _ one
def B75(h:∀v∈vs,(∃y,v=XV.d y)∨∃m,v = .nm m (.p 0)∧m<H0):Dk (O9 f0) (Lj vs).a=((Lj vs).mp f0 (fun n=>n)).a:=by
 have one:∀v∈vs,Dk (O9 f0) v.a=(v.mp f0 (fun n=>n)).a:=by
  intro v hv;rcases h v hv with ⟨y,rfl⟩|⟨m,rfl,hm⟩
  ·rfl
  ·simp only[XV.a,XV.mp,Dk,Wz hm]
 have many:∀l:A2 XV,(∀v∈l,Dk (O9 f0) v.a=(v.mp f0 (fun n=>n)).a)→Db (O9 f0) (A7 l)=A7 (mpL f0 (fun n=>n) l):=by
  intro l;induction l with
  |nil=>intro _;rfl
  |cons x r ih=>intro h;simp only[A7,Db,mpL,h x Bp6,ih fun v hv=>h v (Bp5 _ hv)]
 cases vs with
 |nil=>rfl
 |cons x r =>
  cases r with
  |nil=>exact one x Bp6
  |cons y r =>show Dk (O9 f0) (.F2 (A7 (x::y::r)))=_;simp only[Dk,many _ one];rfl
theorem B4i{f0:Nat→Nat}:∀ {xs:A2 XV},Ah1 xs=true→Db (O9 f0) (A7 xs)=A7 (mpL f0 (fun n=>n) xs)∧Ef (A7 xs)=true
 |[],_=>⟨rfl,rfl⟩
 |x::r,h=>by
  have key:(Dk (O9 f0) x.a=(x.mp f0 (fun n=>n)).a∧A06 x.a=true)∧Ah1 r=true:=by
   cases x with
   |d d=>exact⟨⟨rfl,rfl⟩,h⟩
   |nm k p =>
    cases p with
    |p off =>obtain⟨h1,h2⟩:=Ai h;rw[Bqx]at h1;exact⟨⟨by simp only[XV.a,XV.mp,Dk,Wz (A1t (show k<1000 by omega))],rfl⟩,h2⟩
    |m =>obtain⟨h1,h2⟩:=Ai h;rw[Bqx]at h1;exact⟨⟨by simp only[XV.a,XV.mp,Dk,Wz (A1t (show k<1000 by omega))],rfl⟩,h2⟩
    |_=>cases h
   |_=>cases h
  obtain⟨h1,h2⟩:=B4i (f0:=f0) key.2;exact⟨by simp only[A7,Db,mpL,key.1.1,h1],by simp only[A7,Ef,key.1.2,h2,Bqo]⟩
theorem J2.and{β:Type}{Q Q':β→A2 XV→Prop}:∀ {l:A2 AS} {F:A8z l β} {acc:A2 XV},J2 Q l F acc→J2 Q' l F acc→J2 (fun a b=>Q a b∧Q' a b) l F acc
 |[],_,_,h,h'=>⟨h,h'⟩
 |.d _::_,_,_,h,h'=>fun y=>J2.and (h y) (h' y)
 |.p _ _::r,_,_,h,h'=>J2.and (l:=r) h h'
 |.os _ _::_,_,_,h,h'=>fun n=>J2.and (h n) (h' n)
 |.oa _ _ _::_,_,_,h,h'=>fun n=>J2.and (h n) (h' n)
 |.F1 _ _::r,_,_,h,h'=>J2.and (l:=r) h h'
 |.g _ _::_,_,_,h,h'=>fun y=>J2.and (h y) (h' y)
 |.nil _::r,_,_,h,h'=>J2.and (l:=r) h h'
theorem J2.imp{β:Type}{Q Q':β→A2 XV→Prop}(hi:∀a b,Q a b→Q' a b):∀ {l:A2 AS} {F:A8z l β} {acc:A2 XV},J2 Q l F acc→J2 Q' l F acc
 |[],_,_,h=>hi _ _ h
 |.d _::_,_,_,h=>fun y=>J2.imp hi (h y)
 |.p _ _::r,_,_,h=>J2.imp hi (l:=r) h
 |.os _ _::_,_,_,h=>fun n=>J2.imp hi (h n)
 |.oa _ _ _::_,_,_,h=>fun n=>J2.imp hi (h n)
 |.F1 _ _::r,_,_,h=>J2.imp hi (l:=r) h
 |.g _ _::_,_,_,h=>fun y=>J2.imp hi (h y)
 |.nil _::r,_,_,h=>J2.imp hi (l:=r) h
theorem Ac6.Bix{β:Type}{Q Q' Q'':β→A2 (Nat×A9)→Prop}(hi:∀a b,Q a b→Q' a b→Q'' a b):∀ {l:A2 (Nat×Sh×A3 TypeId)} {F:Axa l β} {acc:A2 (Nat×A9)},Ac6 Q l F acc→Ac6 Q' l F acc→Ac6 Q'' l F acc
 |[],_,_,h,h'=>hi _ _ h h'
 |_::_,_,_,h,h'=>fun x=>Ac6.Bix hi (h x) (h' x)
def Akd(S:ASp)(F:S.Bb):Prop:=J2 (fun F' _=>Ac6 (fun F'' l=>∀y,F''=some y→Lm S y=l) S.ins F' []) S.args F []
def Biy(P:Program)(f:FuncId)(S:ASp)(F:S.Bb)(Lk:Prop):Prop :=
 J2 (fun F' xs=>Ac6 (fun F'' l=>∀y,F''=some y→Bbt P f S y xs l∧(Lk→Lm S y=l)) S.ins F' []) S.args F []
def Agb.quiet{f:FuncId}{S:ASp}{F:S.Bb}(h:Agb P f S F):Biy P f S F False :=
 J2.imp (fun _ _ h=>Ac6.Bix (Q':=fun _ _=>True) (fun _ _ h _ y e=>⟨h y e,False.elim⟩) h (by
  have:∀ {β:Type} (l:A2 (Nat×Sh×A3 TypeId)) (F:Axa l β) (acc:A2 (Nat×A9)),Ac6 (fun _ _=>True) l F acc:=by
   intro β l;induction l with
   |nil=>intro _ _;exact trivial
   |cons p r ih=>intro F acc x;exact ih _ _
  exact this _ _ _)) h
def Agb.look{f:FuncId}{S:ASp}{F:S.Bb}(h:Agb P f S F)(hl:Akd S F):Biy P f S F True :=
 J2.imp (fun _ _ h=>Ac6.Bix (fun _ _ h h' y e=>⟨h y e,fun _=>h' y e⟩) h.1 h.2) (J2.and h hl)
theorem Apa{k:Nat}{o:A9}:∀ {l:A2 (Nat×A9)},lk k l=some o→Lg k o l=l
 |[],h=>by cases h
 |(i,x)::r,h=>by
  rw[F9]at h;rw[S6];cases hb:Nat.beq i k with
  |true =>rw[hb,Bov]at h;rw[Bov,Boy hb,← Brf h]
  |false =>rw[hb,Box]at h;rw[Box,Apa h]
theorem Apb{f:Nat→Nat}{acc:A2 (Nat×A9)}:∀ {l:A2 (Nat×A9)},(∀q∈l,lk (f q.1) acc=some (q.2.re f))→A4h f l acc=acc
 |[],_=>rfl
 |p::r,h=>by
  rw[A4h,Apa (h p Bp6)];exact Apb fun q hq=>h q (Bp5 _ hq)
def B4j{R:Type}{id:FuncId}{S:ASp}{F:S.Bb}{Lk:Prop}(hc:Ed P id)(hs:Biy P id S F Lk){K:Out→A3 R}{r:R}
  (ho:o.op = .call { callee:=.value (.func id),args:=Bf,argTypes:=ts }) (hv:Bx st Bf.toList=some vs) (h:Bf4 (P:=P) S F o st vs K=some r):∃out,K out=some r∧Bp P o st out∧out.Ur = .all∧(Lk→out.objs=st.objs):=by
 have e:B9 o=Bf.toList:=by simp[B9,ho]
 unfold Bf4 at h;rw[e]at h;cases hb:Nat.beq Bf.toList.length S.n with
 |false=>rw[hb]at h;cases h
 |true =>
 have hn:Bf.toList.length=S.n:=Boy hb;rw[hb,Bov]at h;split at h
 rotate_left
 ·cases h
 rename_i us hus;rw[A65,A65,A0a]at h;rw[A0a]at hus;rw[W0]at h;generalize Ag7 S.args vs (B19 (Aek o) S.res)=σ at h;generalize (B19 (Aek o) S.res).map (·.2)=Fv at h;obtain⟨F',xs,q1,a1,h⟩:=P8 (fl:=fun n=>n) S.args F (vs++us) [] [] hs .nil h;obtain⟨F'',l,q2,a2,h⟩:=B4h S.ins F' [] q1 (by simp) h;obtain⟨y,hy,h⟩:=Bq3.1 h;rw[Bpx]at a1;rw[A6d]at h;obtain⟨⟨A4d,Bnf,Asn,Bbj⟩,A7k⟩:=q2 y hy;unfold Bli at h;have c:∀ {a:Bool} {x:A3 R},cond a x none=some r→a=true∧x=some r:=by intro a x h;cases a<;>first|exact⟨rfl,h⟩|cases h
 obtain⟨An7,h⟩:=c h;obtain⟨k1,h⟩:=c h;obtain⟨k2,h⟩:=c h;obtain⟨k3,h⟩:=c h;obtain⟨k4,h⟩:=c h;obtain⟨k5,h⟩:=c h;obtain⟨k6,h⟩:=c h;obtain⟨k7,h⟩:=c h;obtain⟨k8,h⟩:=c h;obtain⟨k9,h⟩:=c h;obtain⟨k10,h⟩:=c h;have e2:((y.1,y.2):S.Out)=y:=rfl;rw[e2]at *;have hl:A95 l:=.of Bnf (Ch k2) fun q hq=>(a2 q hq).1
 have ht:A95 (Lm S y):=.of k3 (Ch k4) fun q hq=>by
  rcases Bp4.1 hq with hq|hq
  ·exact Axi _ _ q hq
  ·exact Aca _ _ q hq
 have Us:=Bf2 (ns:=A0j S.ins) (f0:=nf σ) k1 hl ht A4d (fun k hk=>by
  unfold Lm;rw[Bpn,A4g];exact Bpi _ hk) (fun q hq=>(a2 q hq).2) (Ch k5) (fun q hq=>Qw k6 _ (Bpe (f:=fun q:Nat×A9=>nf σ q.1) hq)) (Akc k7) k8 k9 k10
 have hxl:xs.length=Bf.toList.length+(S.D2.map Operand.global).length:=by have h1:=a1.length;have h2:=Hz (Lr hv hus);rw[@List.length_append _ Bf.toList]at h2;omega
 have htk:(xs.take S.n).length=Bf.size:=by
  rw[Bq1,hxl];have:Bf.toList.length=Bf.size:=by simp
  omega
 refine⟨_,h,⟨a1.Rr (Lr hv hus),?_,fun k x hk hx=>?_⟩,rfl,fun hL=>?_⟩
 ·obtain⟨m1,m2⟩:=B4i (f0:=nf σ) Asn;have hval:=Ahf S.res y.2;have Bgw:∀m,m∈(Uw S.res y.2).map (·.1)→m∈(Lm S y).map (·.1):=fun m hm=>by unfold Lm;rw[Bpn];exact Bph _ hm
  have:=Axf (O9 (nf σ)) _ ho hc Bbj Us (by rw[Ah,htk]) m2 (A1r An7) ⟨(Lm S y).map (·.1),Axj fun v hv=>(hval v hv).imp (fun h=>h) fun⟨m,h1,h2⟩=>⟨m,h1,Bgw m h2⟩,fun j hj=>by
   obtain⟨q,hq,rfl⟩:=Bpc.1 hj;exact ht.head hq⟩
  rw[B75 (f0:=nf σ) fun v hv=>(hval v hv).imp (fun h=>h) fun⟨m,h1,h2⟩=>⟨m,h1,by
   obtain⟨q,hq,rfl⟩:=Bpc.1 (Bgw m h2);exact ht.low q hq⟩]at this
  have hz:Ay ((Bf.toList++S.D2.map Operand.global).zip (mpL (nf σ) (fun n=>n) xs))=Bf.toList.zip (Db (O9 (nf σ)) (A7 (xs.take S.n)))++(S.D2.map Operand.global).zip (A7 (xs.drop S.n)):=by
   conv=>lhs;rw[← Bra S.n xs]
   rw[Ww,At5 An7,Bt8 (by rw[Abw,Bpl,htk];simp),Eu,J0,J0,m1]
  show Bi P o (Ay ((Bf.toList++S.D2.map Operand.global).zip (mpL (nf σ) (fun n=>n) xs))) st.X ⟨A4 (A4h (nf σ) (Lm S y) st.objs),st.live⟩ _ _;rw[hz];exact this
 ·rw[Tq]at hx
  ·exact hx
  ·intro q hq e;exact hk (Bpc.2 ⟨q,hq,e⟩)
 ·rw[A7k hL];exact Apb fun q hq=>(a2 q hq).2
def Bng{P:Program}(id:FuncId)(S:ASp)(F:S.Bb)(hc:Ed P id)(hs:Agb P id S F):Ft P where
 id:=id
 run:=Bf4 (P:=P) S F
 ok:=by intro R o st Bf ts vs K r ho hv h;obtain⟨out,h1,h2,_⟩:=B4j hc hs.quiet ho hv h;exact⟨out,h1,h2⟩
def mkA{P:Program}{Γ:A2 (Ft P)}{own:A2 Nat}{N:Nat}(id:FuncId)(fn:Func)(an:A2 Nat→An)(S:ASp)(F:S.Bb)(hm:P.follows .mixedOrders=true)(hf:P.funcs[id]? = some fn)(hc:Ed P id)
  (hn:Nat.ble S.args.length fn.ntmps=true) (ha:Ac9 S.args=true) (hE:An9 P Γ own N fn an S=F):Ft P:=Bng id S F hc (hE▸Akb hm hf hn ha)
def Bnh {P : Program} (Γ : List (Ft P)) (own : List Nat) (N : Nat) (id : FuncId) {fn : Func} (an : List Nat → An) (S : ASp) (F : S.Bb) (hm : P.follows .mixedOrders = true) (hf : P.funcs[id]? = some fn) (hb : fn.body.isSome = true) (We : (fn.name == "runtime.NumGoroutine") = false) (hn : Nat.ble S.args.length fn.ntmps = true) (ha : Ac9 S.args = true) (hE : An9 P Γ own N fn an S = F) : Ft P := mkA id fn an S F hm hf (.mk' hf hb We) hn ha hE
def mkL{P:Program}{Γ:A2 (Ft P)}{own:A2 Nat}{N:Nat}(id:FuncId)(fn:Func)(an:A2 Nat→An)(S:ASp)(F:S.Bb)(hm:P.follows .mixedOrders=true)(hf:P.funcs[id]? = some fn)(hc:Ed P id)
  (hn:Nat.ble S.args.length fn.ntmps=true) (ha:Ac9 S.args=true) (hE:An9 P Γ own N fn an S=F) (hl:Akd S F):Ft P where
 id:=id
 run:=fun o st vs K=>Bf4 (P:=P) S F o st vs fun out=>K ⟨.lab,out.res,out.rd,st.objs,out.live,out.F,[]⟩
 ok:=by
  intro R o st Bf ts vs K r ho hv h;obtain⟨out,h1,h2,h3,h4⟩:=B4j hc (Agb.look (hE▸Akb hm hf hn ha) hl) ho hv h;refine⟨_,h1,⟨h2.Rr,⟨rfl,?_⟩,fun _ _ _ h=>h⟩⟩;have:=h2.op;rw[h3]at this;have e:Out.X out=⟨A4 st.objs,out.live⟩:=by rw[Out.X,h4 trivial]
  rw[e]at this;exact this
def Bgx:XV→Bool
 |.d (.v (.pointer none))=>true
 |.d (.v (.map none))=>true
 |.d (.v (.slice none 0 0))=>true
 |_=>false
def Ake:Nat→A2 XV→Bool
 |0,v::_=>Bgx v
 |i+1,_::r=>Ake i r
 |_,[]=>false
def Akf{P:Program}(id:FuncId)(sel:A2 XV→Bool)(e1 e2:Ft P)(h1:e1.id=id)(h2:e2.id=id):Ft P where
 id:=id
 run:=fun o st vs K=>cond (sel vs) (e1.run o st vs K) (e2.run o st vs K)
 ok:=by
  intro R o st args ts vs K r ho hv h;cases hs:sel vs with
  |true=>rw[hs,Bov]at h;exact e1.ok o st args ts vs K r (h1▸ho) hv h
  |false=>rw[hs,Box]at h;exact e2.ok o st args ts vs K r (h2▸ho) hv h
def Ho{P:Program}(id:FuncId)(sel:Af→A2 XV→Bool)(e1 e2:Ft P)(h1:e1.id=id)(h2:e2.id=id):Ft P where
 id:=id
 run:=fun o st vs K=>cond (sel st vs) (e1.run o st vs K) (e2.run o st vs K)
 ok:=by
  intro R o st args ts vs K r ho hv h;cases hs:sel st vs with
  |true=>rw[hs,Bov]at h;exact e1.ok o st args ts vs K r (h1▸ho) hv h
  |false=>rw[hs,Box]at h;exact e2.ok o st args ts vs K r (h2▸ho) hv h
def Blj:Nat→A2 XV→Bool
 |0,v::_=>Bgx v
 |j+1,_::r=>Blj j r
 |_,[]=>false
def Ff(j:Nat)(st:Af)(vs:A2 XV):Bool :=
 match vs with
 |.nm k _::_=>match lk k st.objs with
  |some (.cells cs _)=>Blj j cs
  |_=>false
 |_=>false
def Blk(n:Nat)(st:Af)(vs:A2 XV):Bool :=
 match vs with
 |.nm _ (.s _ l _)::_=>Nat.beq l n
 |_=>false
@[reducible] def A1v (kt vt:Ty) (b:Nat) (l:A2 (Nat×kt.T×vt.T)):A3 (Nat×kt.T×vt.T):=A3x (kt:=kt) (vt:=vt) b l
open Go.Sort Go.Proofs Go.Shelf Go.RowKit Go.Lib
def Ty.Plain.one(h:t.Plain)(x:t.T):∀v∈t.Cz x,v.oneCell'=true:=by
 intro v hv;have h1:D.sc v∈t.ds x:=by rw[← h.Cz x];exact Bpe (f:=D.sc) hv
 have:=t.Wg x _ h1;simpa[A0z]using this
def Ty.Plain.ra(h:t.Plain)(ha:t.agg=true)(x:t.T)(g:Gh)(w:World):RA g w (XV.d (t.xv x)).a (.agg (t.Cz x).toArray):=by
 have e:(XV.d (t.xv x)).a = .d (.agg ((t.Cz x).map .sc)):=by show AV.d (t.dv x)=_;rw[t.A14 x ha,h.Cz]
 rw[e];refine .d _ _ (.agg _ _ (by simp) ?_);intro i c v hc hv;rw[Bp1,Bp8]at hc;obtain⟨u,hu,rfl⟩:=hc;simp only[Bsg]at hv;rw[hu]at hv;cases hv;exact .sc _
variable{ρ:Ren}
def Anb(L:SlLaysF0.n6 P ρ){f:FuncId}(hf:ρ.f 6=f){T:Ty}(hp:T.Plain)(A6u:T.agg=true)(aE:∀w,(isAgg (ρ.t 24)).run P w = .ok true w)(zE:∀w,(Go.sizeOf (ρ.t 24)).run P w = .ok T.size w)
  (hci:Ed P f) (cf:T.T→T.T→Int) (hO:SWO (ltOf cf)) (hT:∀x y,(ltOf cf) x y=false→(ltOf cf) y x=false→x=y) (hcc:Ed P c)
  (Atf:∀x y,Mj P c (A7 [.d (T.xv x),.d (T.xv y)]) X0 (.d (.sc (.int .i64 (cf x y)))) X0):Aoy P f c T (fun d=>d.mergeSort fun x y=>!(ltOf cf) y x) where
 plain:=hp
 ci:=hci
 len d:=by simp
 none p cap w:=by have:=Bub L p cap (.func (.func c) #[] #[]) w;rw[hf]at this;exact this
 some:=by
  letI:=Aox T;intro l blk cap w hl hH Bor;have Avb:CmpLays P c #[] T.Cz T.size cf blk 0 l.toArray.size w:=by
   intro m os dk hs x y;have:=(Atf x y).grown (w:=sortWorldK T.Cz T.size w blk 0 m dk os) (vs:=#[.agg (T.Cz x).toArray,.agg (T.Cz y).toArray]) rfl (by
    intro i z v hz hv
    match i with
    |0=>simp[A7]at hz hv;subst hz;subst hv;exact hp.ra A6u x _ _
    |1=>simp[A7]at hz hv;subst hz;subst hv;exact hp.ra A6u y _ _
    |n+2=>simp[A7]at hz)
   simpa using this
  have:=AnyQ.slices_SortFunc_total L T.size aE zE T.Cz T.A4a hp.one cf hO c #[] blk 0 cap l.toArray w (D0 hcc) Avb hH Bor (by simp;omega) hT;rw[hf]at this;simpa using this
def B76(T:Ty)(lt:T.T→T.T→Bool)(d:A2 T.T):A2 T.T :=
 letI:=Aox T
 (pdq lt d.toArray 0 d.length (Lib.bitLen d.length) true true).toList
def Apc{T:Ty}{lt:T.T→T.T→Bool}(hO:SWO lt)(d:A2 T.T):(B76 T lt d).Perm d∧(B76 T lt d).Pairwise (fun x y=>lt y x=false):=by
 letI:=Aox T;obtain⟨⟨h1,_,h2⟩,h3⟩:=pdq_sorts lt hO d.toArray 0 d.length (Lib.bitLen d.length) true true (Brw _) (by simp) (Or.inl rfl);have e:(B76 T lt d)=(pdq lt d.toArray 0 d.length (Lib.bitLen d.length) true true).toList:=rfl;generalize pdq lt d.toArray 0 d.length (Lib.bitLen d.length) true true=a at *;simp only[Brn]at h1;refine⟨?_,?_⟩
 ·rw[e];have h4:a.extract 0 d.length=a:=by rw[← h1];simp
  rw[h4]at h2;simpa using h2
 ·rw[e,Bqk];intro i j hi hj hij;have:=h3 i j (Brw _) hij (by simpa[h1]using hj);simpa[hi,hj,show i<a.size by simpa using hi,show j<a.size by simpa using hj]using this
def B1b(L:SlLaysF0.n6 P ρ){f:FuncId}(hf:ρ.f 6=f){T:Ty}(hp:T.Plain)(A6u:T.agg=true)(aE:∀w,(isAgg (ρ.t 24)).run P w = .ok true w)(zE:∀w,(Go.sizeOf (ρ.t 24)).run P w = .ok T.size w)
  (hci:Ed P f) (cf:T.T→T.T→Int) (hO:SWO (ltOf cf)) (hcc:Ed P c)
  (Atf:∀x y,Mj P c (A7 [.d (T.xv x),.d (T.xv y)]) X0 (.d (.sc (.int .i64 (cf x y)))) X0):Aoy P f c T (B76 T (ltOf cf)) where
 plain:=hp
 ci:=hci
 len d:=(Apc hO d).1.length_eq
 none p cap w:=by have:=Bub L p cap (.func (.func c) #[] #[]) w;rw[hf]at this;exact this
 some:=by
  letI:=Aox T;intro l blk cap w hl hH Bor;have Avb:CmpLays P c #[] T.Cz T.size cf blk 0 l.toArray.size w:=by
   intro m os dk hs x y;have:=(Atf x y).grown (w:=sortWorldK T.Cz T.size w blk 0 m dk os) (vs:=#[.agg (T.Cz x).toArray,.agg (T.Cz y).toArray]) rfl (by
    intro i z v hz hv
    match i with
    |0=>simp[A7]at hz hv;subst hz;subst hv;exact hp.ra A6u x _ _
    |1=>simp[A7]at hz hv;subst hz;subst hv;exact hp.ra A6u y _ _
    |n+2=>simp[A7]at hz)
   simpa using this
  have:=AnyQ.slices_SortFunc_eq L T.size aE zE T.Cz T.A4a hp.one cf hO c #[] blk 0 cap l.toArray w (D0 hcc) Avb hH Bor (by simp;omega);rw[hf]at this;simpa[B76]using this
theorem iter_eq{σ R:Type}{f:(σ→A3 R)→σ→A3 R}{G:σ→A3 R}(I:Nat→σ→Prop)
  (step:∀(n:Nat) (x:σ) (rec:σ→A3 R),I n x→(∀(m:Nat) (y:σ),m<n→I m y→rec y=G y)→f rec x=G x) :
  ∀(N n:Nat) (x:σ),I n x→n<N→iter f N x=G x
 |0,n,x,_,h=>absurd h (Nat.not_lt_zero _)
 |N+1,n,x,hi,h=>by
  simp only[iter];exact step n x _ hi fun m y hm hy=>iter_eq I step N m y hy (by omega)
theorem Gy{σ R:Type}{f:(σ→A3 R)→σ→A3 R}{Q:R→Prop}(I:Nat→σ→Prop)
  (step:∀(n:Nat) (x:σ) (rec:σ→A3 R),I n x→(∀(m:Nat) (y:σ),m<n→I m y→∃r,rec y=some r∧Q r)→∃r,f rec x=some r∧Q r) :
  ∀(N n:Nat) (x:σ),I n x→n<N→∃r,iter f N x=some r∧Q r
 |0,n,x,_,h=>absurd h (Nat.not_lt_zero _)
 |N+1,n,x,hi,h=>by
  simp only[iter];exact step n x _ hi fun m y hm hy=>Gy I step N m y hy (by omega)
@[simp] theorem Aq {α:Type} (l:A2 α) (n:Nat):at? l (n:Int)=l[n]?:=rfl
def B4k{n:Nat}(h:n<9223372036854775808):i64.wrap (n:Int)=(n:Int):=by exact Bsk _ (by omega)
def Ad{n:Nat}(h:n+1<9223372036854775808):i64.wrap ((n:Int)+1)=((n+1:Nat):Int):=by rw[Bsk _ (by omega)];rfl
def Ln{n:Nat}(h:0<n)(h':n<9223372036854775808):i64.wrap ((n:Int)-1)=((n-1:Nat):Int):=by rw[Bsk _ (by omega)];omega
def Nz{R:Type}(len:Nat)(g:Nat→A3 R){f:((Int×Unit)×Unit×Unit×Unit→A3 R)→(Int×Unit)×Unit×Unit×Unit→A3 R}(start:Nat)
  (hs:∀(rec:(Int×Unit)×Unit×Unit×Unit→A3 R) (k:Nat),start≤k→k<len→rec ((((k+1:Nat):Int),()),(),(),())=g (k+1)→f rec (((k:Int),()),(),(),())=g k)
  (he:∀rec (k:Nat),len≤k→f rec (((k:Int),()),(),(),())=g k) (N:Nat) (hN:len<N):iter f N (((start:Int),()),(),(),())=g start:=by
 have:=iter_eq (f:=f) (G:=fun z=>g z.1.1.toNat) (fun n z=>∃k:Nat,z=(((k:Int),()),(),(),())∧start≤k∧n=len-k) (by
  rintro n z rec ⟨k,rfl,h1,h2⟩ ih;by_cases hk:k<len
  ·exact hs rec k h1 hk (ih (len-(k+1)) _ (by omega) ⟨k+1,rfl,by omega,rfl⟩)
  ·exact he rec k (by omega)) N (len-start) (((start:Int),()),(),(),()) ⟨start,rfl,Bpa _,rfl⟩ (by omega)
 exact this
def Atg{R:Type}{x:A3 R}{t:R}(h:∃r,x=some r∧r=t):x=some t:=by obtain⟨r,h1,rfl⟩:=h;exact h1
def Fl{A X R:Type}(l:A2 X)(g:A→X→A)(a0:A)(fin:A→A3 R){f:((A×Int×Unit)×Unit×Unit×Unit→A3 R)→(A×Int×Unit)×Unit×Unit×Unit→A3 R}
  (hs:∀(rec:(A×Int×Unit)×Unit×Unit×Unit→A3 R) (k:Nat) (a:A) (hk:k<l.length),a=(l.take k).foldl g a0→f rec ((a,(k:Int),()),(),(),())=rec ((g a l[k],((k+1:Nat):Int),()),(),(),()))
  (he:∀(rec:(A×Int×Unit)×Unit×Unit×Unit→A3 R),f rec ((l.foldl g a0,(l.length:Int),()),(),(),())=fin (l.foldl g a0)) (N:Nat) (hN:l.length<N):iter f N ((a0,0,()),(),(),())=fin (l.foldl g a0):=by
 have:=iter_eq (f:=f) (G:=fun _=>fin (l.foldl g a0)) (fun n z=>∃k:Nat,z=(((l.take k).foldl g a0,(k:Int),()),(),(),())∧k≤l.length∧n=l.length-k) (by
  rintro n z rec ⟨k,rfl,h1,h2⟩ ih;by_cases hk:k<l.length
  ·rw[hs rec k _ hk rfl];refine ih (l.length-(k+1)) _ (by omega) ⟨k+1,?_,by omega,rfl⟩;have:l.take (k+1)=l.take k++[l[k]]:=by rw[Bqu,Bpd hk];rfl
   rw[this,Bui];rfl
  ·have:k=l.length:=by omega
   subst this;rw[Bpy];exact he rec) N l.length ((a0,((0:Nat):Int),()),(),(),()) ⟨0,by simp,by omega,rfl⟩ hN
 exact this
theorem foldl_filter{X:Type}(p:X→Bool):∀(l a:A2 X),l.foldl (fun a x=>cond (p x) (a++[x]) a) a=a++l.filter p
 |[],a=>by simp
 |x::r,a=>by
  simp only[Bqp,Br4];rw[foldl_filter p r];cases p x<;>simp
theorem foldl_flatMap{X Y:Type}(h:X→A2 Y):∀(l:A2 X) (a:A2 Y),l.foldl (fun a x=>a++h x) a=a++l.flatMap h
 |[],a=>by simp
 |x::r,a=>by
  simp only[Bqp,Btv];rw[foldl_flatMap h r];simp
def fit{n bytes:Nat}(h:n*bytes≤140737488355328)(h2:n≤4611686018427387904):Ao n bytes=true:=by simp only[Ao,Bq4,Bsf];exact⟨h,h2⟩
def Sd{α:Type}(lt:α→α→Bool)(l:A2 α):Prop:=l.Pairwise fun a b=>lt a b=true
theorem Sd.ext{α:Type}{lt:α→α→Bool}(ha:∀x y,lt x y=true→lt y x=false):∀ {l m:A2 α},Sd lt l→Sd lt m→(∀x,x∈l↔x∈m)→l=m
 |[],[],_,_,_=>rfl
 |[],b::m,_,_,h=>by have:=(h b).2 Bp6;simp at this
 |a::l,[],_,_,h=>by have:=(h a).1 Bp6;simp at this
 |a::l,b::m,hl,hm,h=>by
  have hl':=hl;have Uc:=hm;simp only[Sd,Bpw]at hl' Uc;have irr:∀x,lt x x=false:=by
   intro x;cases hx:lt x x with
   |false=>rfl
   |true=>have:=ha x x hx;rw[hx]at this;cases this
  have hab:a=b:=by
   rcases Boz.1 ((h a).1 Bp6)with e|e
   ·exact e
   ·rcases Boz.1 ((h b).2 Bp6)with e'|e'
    ·exact e'.symm
    ·have h1:=Uc.1 a e;have h2:=hl'.1 b e';rw[ha _ _ h1]at h2;cases h2
  subst hab;congr 1;refine Sd.ext ha hl'.2 Uc.2 fun x=>?_
  have hx:=h x;simp only[Boz]at hx;constructor
  ·intro hxl;rcases hx.1 (.inr hxl)with e|e
   ·subst e;have:=hl'.1 x hxl;rw[irr]at this;cases this
   ·exact e
  ·intro hxm;rcases hx.2 (.inr hxm)with e|e
   ·subst e;have:=Uc.1 x hxm;rw[irr]at this;cases this
   ·exact e
def K8{α:Type}(cf:α→α→Int):A2 α→Bool
 |[]=>true
 |x::r=>(r.all fun y=>ltOf cf x y||ltOf cf y x)&&K8 cf r
theorem Qi{α:Type}{cf:α→α→Int}:∀ {l:A2 α},K8 cf l=true↔l.Pairwise fun x y=>ltOf cf x y=true∨ltOf cf y x=true
 |[]=>by simp[K8]
 |x::r=>by simp[K8,Qi (l:=r),Bpw]
def Lo{α:Type}(cf:α→α→Int)(l:A2 α):A2 α:=l.mergeSort fun x y=>!(ltOf cf) y x
def Aep{α:Type}{lt:α→α→Bool}(h:SWO lt)(x y:α)(h1:lt x y=true):lt y x=false:=by
 cases h2:lt y x with
 |false=>rfl
 |true=>have:=h.trans x y x h1 h2;rw[h.irrefl]at this;cases this
def G6{α:Type}{cf:α→α→Int}(h:SWO (ltOf cf))(l:A2 α):(Lo cf l).Perm l∧(Lo cf l).Pairwise fun x y=>ltOf cf y x=false:=by
 refine⟨Bv1 _ _,?_⟩;have:=Buf (le:=fun x y=>!(ltOf cf) y x) (by
  intro a b c h1 h2;simp only[Btc]at *;exact h.ntrans c b a h2 h1) (by
  intro a b;cases h1:ltOf cf b a with
  |false=>simp
  |true=>simp[Aep h _ _ h1]) l
 exact this.imp fun {x y} h=>by simpa using h
def T4{α:Type}{cf:α→α→Int}{r l:A2 α}(hp:r.Perm l)(hd:K8 cf l=true)(hs:r.Pairwise fun x y=>ltOf cf y x=false):Sd (ltOf cf) r:=by
 have h1:r.Pairwise fun x y=>ltOf cf x y=true∨ltOf cf y x=true:=(hp.pairwise_iff (R:=fun x y=>ltOf cf x y=true∨ltOf cf y x=true) (fun {x y} h=>h.symm)).2 (Qi.1 hd)
 unfold Sd;refine(hs.and h1).imp fun {x y} h=>?_
 rcases h.2 with h2|h2
 ·exact h2
 ·rw[h.1]at h2;cases h2
def Qj{α:Type}{cf:α→α→Int}(h:SWO (ltOf cf)){r l:A2 α}(hd:K8 cf l=true)(hp:r.Perm l)(hs:r.Pairwise fun x y=>ltOf cf y x=false):r=Lo cf l:=by obtain⟨p,s⟩:=G6 h l;exact Sd.ext (Aep h) (T4 hp hd hs) (T4 p hd s) fun x=>by rw[hp.mem_iff,p.mem_iff]
structure A96(P:Program)(f c:FuncId)(T:Ty)(cf:T.T→T.T→Int)(ok:List T.T→Bool)(φ:List T.T→List T.T):Prop where
 ci:Ed P f
 agg:T.agg=true
 swo:SWO (ltOf cf)
 none:∀p cap w,Calls P f #[.slice p 0 cap,.func (.func c) #[] #[]] w fun e w'=>e = .returned (.tuple #[])∧w'=w
 cmp:∀x y,Mj P c (A7 [.d (T.xv x),.d (T.xv y)]) X0 (.d (.sc (.int .i64 (cf x y)))) X0
 any:Ava P f c T.size
 one:∀l,ok l=true→∀r:List T.T,r.Perm l→r.Pairwise (fun x y=>ltOf cf y x=false)→r=φ l
def Akg{P:Program}{R:Type}(c:FuncId)(T:Ty)(ok:A2 T.T→Bool)(φ:A2 T.T→A2 T.T)(o:Oper)(st:Af)(vs:A2 XV)(K:Out→A3 R):A3 R :=
 match B9 o,vs with
 |[s,x],[v,.F1 c' []]=>cond (Nat.beq c' c) (match v with
  |.os k t a len=>match lk k st.objs with
   |some (.arr u l)=>if h:u.Jm T=true then cond (t.Jm T) (cond (Nat.beq a 0) (cond (Nat.ble len l.length) (cond (Nat.ble len 4611686018427387903) (cond (ok ((Ty.Am h▸l:A2 T.T).take len))
     (K ⟨.put k (.arr T (φ ((Ty.Am h▸l:A2 T.T).take len)++(Ty.Am h▸l:A2 T.T).drop len)),.F2 [],[(s,.os k T 0 len),(x,.F1 c [])],
      Lg k (.arr T (φ ((Ty.Am h▸l:A2 T.T).take len)++(Ty.Am h▸l:A2 T.T).drop len)) st.objs,st.live,[],[k]⟩) none) none) none) none) none else none
   |_=>none
  |v=>match S0 (.sl T) v with
   |some []=>K (B0 st (.F2 []) [(s,.d (.sl T [])),(x,.F1 c [])])
   |_=>none) none
 |_,_=>none
def Axk{R:Type}{f:FuncId}{T:Ty}{cf:T.T→T.T→Int}{ok:A2 T.T→Bool}{φ:A2 T.T→A2 T.T}(hS:A96 P f c T cf ok φ){K:Out→A3 R}{r:R}
  (ho:o.op = .call { callee:=.value (.func f),args:=Bf,argTypes:=ts }) (hv:Bx st Bf.toList=some vs) (h:Akg (P:=P) c T ok φ o st vs K=some r):∃out,K out=some r∧Bp P o st out:=by
 have e:B9 o=Bf.toList:=by simp[B9,ho]
 unfold Akg at h;rw[e]at h;split at h
 ·rename_i s x v c' hl;have ho':o.op = .call { callee:=.value (.func f),args:=#[s,x],argTypes:=ts }:=by rw[ho,← hl]
  rw[hl]at hv;obtain⟨hs,hv⟩:=Ew hv;obtain⟨hx,_⟩:=Ew hv;cases h1:Nat.beq c' c with
  |false=>simp[h1]at h
  |true =>
  have e1:=Boy h1;subst e1;simp only[h1,Bov]at h;have sx:Dx st.im x (.F1 c' []):=Aj hx;split at h
  ·rename_i k t a len;split at h
   ·rename_i u l hk;split at h
    ·rename_i hu;have e2:=Ty.Am hu;subst e2;cases h2:t.Jm u with
     |false=>simp[h2]at h
     |true =>
     cases h3:Nat.beq a 0 with
     |false=>simp[h2,h3]at h
     |true =>
     cases h4:Nat.ble len l.length with
     |false=>simp[h2,h3,h4]at h
     |true =>
     cases h5:Nat.ble len 4611686018427387903 with
     |false=>simp only[h2,h3,h4,h5,Bov,Box]at h;cases h
     |true =>
     cases h6:ok (l.take len) with
     |false=>simp only[h2,h3,h4,h5,h6,Bov,Box]at h;cases h
     |true =>
      simp only[h2,h3,h4,h5,h6,Bov]at h;have e3:=Ty.Am h2;have e4:=Boy h3;have e5:=Bpf h4;have e6:=Bpf h5;subst e3;subst e4;refine⟨_,h,⟨?_,⟨⟨K4 hk rfl rfl,rfl⟩,rfl,rfl,fun X hX=>?_⟩,?_⟩⟩
      ·intro p hp;simp only[Ay,Bp3,Bpz,Boz,Bpt,Bqy]at hp;rcases hp with rfl|rfl
       ·exact Aj hs
       ·exact sx
      ·have Mk:X.objs.lookup k=some (.cells ((l.map t.ds).flatten.map .d) none):=by rw[hX,show st.X.objs.lookup k=_ from Pv hk];rfl
       have key:Bi P o (Ay [(s,.os k t 0 len),(x,.F1 c' [])]) X ⟨Ab.setObj k (A9.arr t (φ (l.take len)++l.drop len)).o X.objs,X.live⟩ [] (XV.F2 []).a:=by
        have:=B9d (X:=X) (ds:=t.ds) (sz:=t.size) t.Cj t.Wg (φ (l.take len)) ho' hS.ci Mk e5 (by omega) (hS.one _ h6) hS.none hS.swo (fun x y=>by
         have:=hS.cmp x y;simp only[A7,XV.a]at this;have e:∀x:t.T,(XV.d (t.xv x)).a = .d (.agg (t.ds x)):=fun x=>by
          show AV.d (t.dv x)=_;rw[t.A14 x hS.agg]
         rw[← e x,← e y];exact this) hS.any
        simp only[Ay,Bp3,Bpz,XV.a,Bsh,A7];exact this
       exact key
      ·intro j y hj hy;simp only[Bpg]at hj;rw[Nu _ _ _ _ hj]at hy;exact hy
    ·cases h
   ·cases h
  ·rename_i v hne;split at h
   ·rename_i hd;refine⟨_,h,Aa ?_ fun X=>?_⟩
    ·intro p hp;simp only[Ay,Bp3,Bpz,Boz,Bpt,Bqy]at hp;rcases hp with rfl|rfl
     ·exact Py hs hd
     ·exact sx
    ·exact Afi ho' hS.ci hS.none
   ·cases h
 ·cases h
def Ath{P:Program}{f c:FuncId}{T:Ty}{cf:T.T→T.T→Int}{ok:A2 T.T→Bool}{φ:A2 T.T→A2 T.T}(hS:A96 P f c T cf ok φ):Ft P where
 id:=f
 run:=Akg (P:=P) c T ok φ
 ok:=by intro R o st Bf ts vs K r ho hv h;exact Axk hS ho hv h
def B1c{ρ:Shelf.Ren}(L:SlLaysF0.n6 P ρ){f:FuncId}(hf:ρ.f 6=f){T:Ty}(A6u:T.agg=true)(aE:∀w,(isAgg (ρ.t 24)).run P w = .ok true w)(zE:∀w,(Go.sizeOf (ρ.t 24)).run P w = .ok T.size w)
  (hci:Ed P f) (cf:T.T→T.T→Int) (hO:SWO (ltOf cf)) (hcc:Ed P c)
  (Atf:∀x y,Mj P c (A7 [.d (T.xv x),.d (T.xv y)]) X0 (.d (.sc (.int .i64 (cf x y)))) X0):A96 P f c T cf (K8 cf) (Lo cf) where
 ci:=hci
 agg:=A6u
 swo:=hO
 cmp:=Atf
 none p cap w:=by have:=Bub L p cap (.func (.func c) #[] #[]) w;rw[hf]at this;exact this
 any:=by intro α _ enc hk h1 cf hO blk cap d w hl hH hb hs;have:=AnyQ.slices_SortFunc L T.size aE zE enc hk h1 cf hO c #[] blk 0 cap d w (D0 hcc) hl hH hb hs;rw[hf]at this;exact this
 one l hd r hp hs:=Qj hO hd hp hs
section
variable{P:Program}{ρ:Ren}{f:FuncId}
structure Bbv(P:Program)(ρ:Ren)(f:FuncId):Prop where
 L:SlLaysF0.n14 P ρ
 none:∀(p:Option Addr) (cap:Nat) (fv:Value) (w:World),Calls P f #[.slice p 0 cap,fv] w fun e w'=>e = .returned (.tuple #[])∧w'=w
 some:∀(p:Value) (n lim:Nat) (cap:Nat) (q:Option Addr) (fv:Value) (w:World) (Q:Ending→World→Prop),p = .slice q n cap→n<4611686018427387904 →
  Calls P (ρ.f 15) #[.int .u64 (n:Int)] w (fun e w'=>e = .returned (.int .i64 (lim:Nat))∧w'=w) →
  Calls P (ρ.f 14) #[p,.int .i64 0,.int .i64 n,.int .i64 lim,fv] w (fun e w'=>e = .returned (.tuple #[])∧Q e w') →
  Calls P f #[p,fv] w fun e w'=>e = .returned (.tuple #[])∧Q e w'
def Agc(N:Bbv P ρ f){T:Ty}(A6u:T.agg=true)(aE:∀w,(isAgg (ρ.t 24)).run P w = .ok true w)(zE:∀w,(Go.sizeOf (ρ.t 24)).run P w = .ok T.size w)
  (hci:Ed P f) (cf:T.T→T.T→Int) (hO:SWO (ltOf cf)) (hcc:Ed P c)
  (Atf:∀x y,Mj P c (A7 [.d (T.xv x),.d (T.xv y)]) X0 (.d (.sc (.int .i64 (cf x y)))) X0):A96 P f c T cf (K8 cf) (Lo cf) where
 ci:=hci
 agg:=A6u
 swo:=hO
 cmp:=Atf
 none p cap w:=N.none p cap _ w
 any:=by
  intro α _ enc hk h1 cf hO blk cap d w Atf hH Bor Hc;have L:=N.L;have Bni:Lib.bitLen d.size<4611686018427387904:=Bv5 (Lib.bitLen_le d.size 62 (by omega) (by omega)) (by omega);have hp:=AnyQ.pdqsortCmpFunc_all (P:=P) (ρ:=ρ) L T.size aE zE enc cf c #[] hO blk 0 cap d w (D0 hcc) Atf ⟨hk,h1,hH,Bor⟩ (d.size+1) 0 d.size (Lib.bitLen d.size) d w (by omega) rfl (SWK.start hH) (Brw _) (Bpa _) Hc Bni (Or.inl rfl);have hl:Calls P (ρ.f 15) #[.int .u64 (d.size:Int)] w fun e w'=>e = .returned (.int .i64 (Lib.bitLen d.size:Nat))∧w'=w:=by
   have h:=Any.bits_Len (Bvl (P:=P) (ρ:=ρ) { L with }) (d.size:Int) w (by omega) (by omega)
   rwa [Brp]at h
  refine(N.some _ d.size (Lib.bitLen d.size) cap _ _ w (fun e w'=>∃n os,w'=sortWorldK enc T.size w blk 0 n (pdq (ltOf cf) d 0 d.size (Lib.bitLen d.size) true true) os) rfl Hc hl (hp.mono ?_)).mono ?_
  ·rintro e w' ⟨he,n,os,hw⟩;exact⟨he,n,os,hw⟩
  ·rintro e w' ⟨he,n,os,hw⟩;have h:=pdq_sorts (ltOf cf) hO d 0 d.size (Lib.bitLen d.size) true true (Brw _) (Bpa _) (Or.inl rfl);exact⟨he,_,n,os,h.1,h.2,hw⟩
 one l hd r hp hs:=Qj hO hd hp hs
end
def Bbw{β:Type}:(ts:A2 Ty)→Bb ts (A3 β)
 |[]=>none
 |_::r=>fun _=>Bbw r
theorem Agd{P:Program}{f:FuncId}{res:A2 Ty}:∀(ts:A2 Ty) (acc:A2 XV),Ue P f res ts (Bbw ts) acc
 |[],_=>fun y h=>by cases h
 |_::r,acc=>fun x=>Agd r _
def B77{args res:A2 Ty}(R:Bb args (A3 (Al res))→Bb args (A3 (Al res))):Nat→Bb args (A3 (Al res))
 |0=>Bbw args
 |n+1=>R (B77 R n)
theorem Akh{P:Program}{f:FuncId}{args res:A2 Ty}{R:Bb args (A3 (Al res))→Bb args (A3 (Al res))}(h:∀G,Ue P f res args G []→Ue P f res args (R G) []) :
  ∀n,Ue P f res args (B77 R n) []
 |0=>Agd args []
 |n+1=>h _ (Akh h n)
def mkNone{P:Program}(f:FuncId):Ft P where
 id:=f
 run:=fun _ _ _ _=>none
 ok:=by intros;contradiction
def Bll:A2 XV→Bool
 |.os _ _ _ _::_=>true
 |_=>false
def Ati{R:Type}(t:TypeId)(o:Oper)(st:Af)(vs:A2 XV)(K:Out→A3 R):A3 R :=
 match B9 o,vs,Ail o with
 |[s,x],[.nm k (.p 0),.d (.i .i64 n)],some m=>match lk k st.objs with
  |some (.cells [c0,.d (.v (.slice none 0 0))] ty)=>cond (decide (0≤n)) (cond (decide (n≤140737488355328)) (cond (Qy m st.live st)
    (K ⟨.O7 k (.cells [c0,.Be m .u8 [] (some t)] ty),.F2 [],[(s,.nm k (.p 0)),(x,.d (.i .i64 n))],Lg k (.cells [c0,.Be m .u8 [] (some t)] ty) st.objs,m::st.live,[m],[k]⟩) none) none) none
  |_=>none
 |_,_,_=>none
def B1d{R:Type}{f:FuncId}{t:TypeId}(hf:Ed P f)(hC:B9f P f t){K:Out→A3 R}{r:R}
  (ho:o.op = .call { callee:=.value (.func f),args:=Bf,argTypes:=ts }) (hv:Bx st Bf.toList=some vs) (h:Ati t o st vs K=some r):∃out,K out=some r∧Bp P o st out:=by
 have e:B9 o=Bf.toList:=by simp[B9,ho]
 unfold Ati at h;rw[e]at h;split at h
 ·rename_i s x k n m hl hm;have ho':o.op = .call { callee:=.value (.func f),args:=#[s,x],argTypes:=ts }:=by rw[ho,← hl]
  rw[hl]at hv;obtain⟨hs,hv⟩:=Ew hv;obtain⟨hx,_⟩:=Ew hv;split at h
  ·rename_i c0 ty hk;cases h1:decide (0≤n) with
   |false=>simp[h1]at h
   |true =>
   cases h2:decide (n≤140737488355328) with
   |false=>simp[h1,h2]at h
   |true =>
   cases h3:Qy m st.live st with
   |false=>simp[h1,h2,h3]at h
   |true =>
    simp only[h1,h2,h3,Bov]at h;have n1:0≤n:=Bte h1;have n2:n≤140737488355328:=Bte h2;obtain⟨f1,f2⟩:=Vw h3;have hp:Yl k (.cells [c0,.Be m .u8 [] (some t)] ty) st.objs=true:=K4 hk rfl rfl;refine⟨_,h,⟨?_,?_,fun j z hj hz=>?_⟩⟩
    ·intro p hp;simp only[Ay,Bp3,Bpz,Boz,Bpt,Bqy]at hp;rcases hp with rfl|rfl
     ·exact Aj hs
     ·exact Aj hx
    ·refine⟨⟨hp,rfl⟩,?_⟩;show Bi P o _ st.X ⟨A4 (Lg k _ st.objs),_⟩ [m] _;rw[V8 hp];obtain⟨q,rfl⟩:∃q:Nat,n=(q:Int):=⟨n.toNat,by omega⟩;exact Bdl (X:=st.X) ho' hf hC (by omega) (Ao5 hk) f1 f2
    ·simp only[Boz,Bpt,Bqy]at hj
     rwa [Nu _ _ _ _ hj]at hz
  ·cases h
 ·cases h
def Biz{P:Program}{f:FuncId}{t:TypeId}(hf:Ed P f)(hC:B9f P f t):Ft P where
 id:=f
 run:=Ati t
 ok:=by intro R o st Bf ts vs K r ho hv h;exact B1d hf hC ho hv h
section
variable{kt vt:Ty}
def A4i(hk:kt.key=true)(a:kt.T):kt.eqv a a=true:=(Ty.Jq kt a a hk).2 rfl
def B1e(hk:kt.key=true){a b:kt.T}(h:a≠b):kt.eqv a b=false:=by rw[Bsz];exact fun hh=>h ((Ty.Jq kt a b hk).1 hh)
structure WfE(es:G0 kt vt)(Iq:Nat):Prop where
 born:(es.map (·.1)).Nodup
 lt:∀e∈es,e.1<Iq
 keys:(es.map (·.2.1)).Nodup
def WfE.nil(Iq:Nat):WfE (kt:=kt) (vt:=vt) [] Iq:=⟨by simp,by simp,by simp⟩
def WfE.tail{e:Nat×kt.T×vt.T}{es:G0 kt vt}(h:WfE (e::es) Iq):WfE es Iq :=
 ⟨(Bqg.1 h.born).2,fun x hx=>h.lt x (by simp[hx]),(Bqg.1 h.keys).2⟩
theorem Axl(hk:kt.key=true)(a:kt.T)(v:vt.T)(c:Nat)(b:kt.T)[DecidableEq kt.T]:∀es:G0 kt vt,Ml b (Mm a v c es)=if b=a then some v else Ml b es
 |[]=>by
  by_cases h:b=a
  ·subst h;simp[Mm,Ml,A4i hk]
  ·simp[Mm,Ml,B1e hk h,h]
 |e::r=>by
  simp only[Mm];cases he:kt.eqv a e.2.1 with
  |true =>
   have e1:=(Ty.Jq kt _ _ hk).1 he;simp only[Bov,Ml];by_cases h:b=a
   ·subst h;simp[A4i hk]
   ·rw[← e1];simp[B1e hk h,h]
  |false =>
   have ih:=Axl hk a v c b r;simp only[Box,Ml,ih];by_cases h:b=a
   ·subst h;simp[he]
   ·simp[h]
theorem Aeq(hk:kt.key=true)(a:kt.T)(v:vt.T)(c:Nat):∀(es:G0 kt vt) (x:kt.T),x∈(Mm a v c es).map (·.2.1)↔x=a∨x∈es.map (·.2.1)
 |[],x=>by simp[Mm]
 |e::r,x=>by
  simp only[Mm];cases he:kt.eqv a e.2.1 with
  |true =>
   have e1:=(Ty.Jq kt _ _ hk).1 he;simp only[Bov,Bp3,Boz,← e1];constructor
   ·rintro (h|h);exact .inl h;exact .inr (.inr h)
   ·rintro (h|h|h);exact .inl h;exact .inl h;exact .inr h
  |false =>
   have ih:=Aeq hk a v c r x;simp only[Box,Bp3,Boz,ih];constructor
   ·rintro (h|h|h);exact .inr (.inl h);exact .inl h;exact .inr (.inr h)
   ·rintro (h|h|h);exact .inr (.inl h);exact .inl h;exact .inr (.inr h)
theorem Aer(a:kt.T)(v:vt.T)(c:Nat):∀(es:G0 kt vt) (x:Nat),x∈(Mm a v c es).map (·.1)→x∈es.map (·.1)∨(x=c∧Ml a es=none)
 |[],x,h=>by simp[Mm]at h;exact .inr ⟨h,rfl⟩
 |e::r,x,h=>by
  simp only[Mm]at h;cases he:kt.eqv a e.2.1 with
  |true=>simp only[he,Bov,Bp3]at h;exact .inl h
  |false =>
   simp only[he,Box,Bp3,Boz]at h;rcases h with h|h
   ·exact .inl (by simp[h])
   ·rcases Aer a v c r x h with h|h
    ·exact .inl (Bp5 _ h)
    ·exact .inr ⟨h.1,by simp only[Ml,he,Box,h.2]⟩
theorem Apd(hk:kt.key=true){a:kt.T}:∀ {es:G0 kt vt},Ml a es=none↔a∉es.map (·.2.1)
 |[]=>by simp[Ml]
 |e::r=>by
  simp only[Ml,Bp3,Boz,Bt5];cases he:kt.eqv a e.2.1 with
  |true=>have e1:=(Ty.Jq kt _ _ hk).1 he;simp[e1]
  |false =>
   have:a≠e.2.1:=by rintro rfl;rw[A4i hk]at he;cases he
   simp only[Box,Apd hk (es:=r)];exact⟨fun h=>⟨this,h⟩,fun h=>h.2⟩
def WfE.put(hk:kt.key=true){es:G0 kt vt}(h:WfE es Iq)(a:kt.T)(v:vt.T):WfE (Mm a v Iq es) (Rt a es Iq):=by
 have key:∀ {es:G0 kt vt},WfE es Iq→((Mm a v Iq es).map (·.1)).Nodup∧((Mm a v Iq es).map (·.2.1)).Nodup:=by
  intro es h;induction es with
  |nil=>simp[Mm]
  |cons e r ih =>
   obtain⟨i1,i2⟩:=ih h.tail;have hb:=Bqg.1 h.born;have hkk:=Bqg.1 h.keys;simp only[Mm];cases he:kt.eqv a e.2.1 with
   |true =>have e1:=(Ty.Jq kt _ _ hk).1 he;simp only[Bov,Bp3,e1];exact⟨h.born,h.keys⟩
   |false =>
    have hne:a≠e.2.1:=by rintro rfl;rw[A4i hk]at he;cases he
    simp only[Box,Bp3,Bqg];refine⟨⟨fun hm=>?_,i1⟩,fun hm=>?_,i2⟩
    ·rcases Aer a v Iq r _ hm with hm|⟨hm,_⟩
     ·exact hb.1 hm
     ·have:=h.lt e (by simp);omega
    ·rcases(Aeq hk a v Iq r _).1 hm with hm|hm
     ·exact hne hm.symm
     ·exact hkk.1 hm
 refine⟨(key h).1,fun e he=>?_,(key h).2⟩;have hb:=Aer a v Iq es e.1 (Bpe he);unfold Rt;rcases hb with hb|⟨hb,hn⟩
 ·obtain⟨x,hx,hx1⟩:=Bpc.1 hb;have:=h.lt x hx;split<;>omega
 ·rw[hn];simp only;omega
theorem A4j(hk:kt.key=true){a:kt.T}{v:vt.T}:∀ {es:G0 kt vt},(es.map (·.2.1)).Nodup→(Ml a es=some v↔∃i,(i,a,v)∈es)
 |[],_=>by simp[Ml]
 |e::r,hn=>by
  have Ke:=Bqg.1 hn;simp only[Ml,Boz];cases he:kt.eqv a e.2.1 with
  |true =>
   have e1:=(Ty.Jq kt _ _ hk).1 he;simp only[Bov,Bp0];constructor
   ·intro h;exact⟨e.1,.inl (by rw[e1,← h])⟩
   ·rintro ⟨i,h|h⟩
    ·rw[← h]
    ·exact absurd (Bpc.2 ⟨_,h,e1⟩) Ke.1
  |false =>
   simp only[Box,A4j hk Ke.2];have hne:a≠e.2.1:=by rintro rfl;rw[A4i hk]at he;cases he
   constructor
   ·rintro ⟨i,h⟩;exact⟨i,.inr h⟩
   ·rintro ⟨i,h|h⟩
    ·exact absurd (by rw[← h]) hne
    ·exact⟨i,h⟩
theorem Aki(a:kt.T)(v:vt.T)(c:Nat):∀es:G0 kt vt,(Mm a v c es).length≤es.length+1
 |[]=>by simp[Mm]
 |e::r=>by
  simp only[Mm];have:=Aki a v c r;cases kt.eqv a e.2.1<;>simp<;>omega
end
section
variable{α:Type}
def Atj{since last:Nat}{es:A2 (Nat×α)}(h:∀e∈es,e.1<since)(h':∀e∈es,e.1<last):A6w since last es=true:=by unfold A6w;rw[Bqb];intro e he;simp[h e he,h' e he]
structure A0k(es d:List (Nat×α)):Prop where
 nd:(d.map (·.1)).Nodup
 sub:∀e∈d,e∈es
def A0k.nil(es:A2 (Nat×α)):A0k es []:=⟨by simp,by simp⟩
def X2{es d:A2 (Nat×α)}{e:Nat×α}:e∈Cb (d.map (·.1)) es↔e∈es∧e.1∉d.map (·.1):=by unfold Cb;rw[Bpv];simp only[Btc,List.contains_eq_mem,Bug]
def A0k.add{es d:A2 (Nat×α)}(h:A0k es d){e:Nat×α}(he:e∈Cb (d.map (·.1)) es):A0k es (d++[e]):=by
 obtain⟨h1,h2⟩:=X2.1 he;refine⟨?_,?_⟩
 ·rw[Bpn,Btu];refine⟨h.nd,by simp,?_⟩;intro x hx y hy;simp at hy;subst hy;rintro rfl;exact h2 hx
 ·intro x hx;rcases Bp4.1 hx with hx|hx
  ·exact h.sub x hx
  ·simp at hx;subst hx;exact h1
def A0k.inj{es d:A2 (Nat×α)}(hb:(es.map (·.1)).Nodup){x y:Nat×α}(hx:x∈es)(hy:y∈es)(h:x.1=y.1):x=y:=by
 induction es with
 |nil=>simp at hx
 |cons z es ih =>
  rw[Bp3,Bqg]at hb;rcases Boz.1 hx with ex|hx'<;>rcases Boz.1 hy with ey|hy'
  ·exact ex.trans ey.symm
  ·subst ex;exact absurd (h▸Bpe (f:=(·.1)) hy') hb.1
  ·subst ey;exact absurd (h▸Bpe (f:=(·.1)) hx') hb.1
  ·exact ih hb.2 hx' hy'
theorem Vf{β:Type}(f:α→β):∀ {l:A2 α},(l.map f).Nodup→l.Nodup
 |[],_=>by simp
 |x::l,h=>by
  rw[Bp3,Bqg]at h;exact Bqg.2 ⟨fun hm=>h.1 (Bpe hm),Vf f h.2⟩
def A0k.all{es d:A2 (Nat×α)}(h:A0k es d)(hb:(es.map (·.1)).Nodup)(hn:Cb (d.map (·.1)) es=[]):d.Perm es:=by
 classical
 refine(List.perm_ext_iff_of_nodup (Vf _ h.nd) (Vf _ hb)).2 fun x=>⟨h.sub x,fun hx=>?_⟩
 refine Btf fun hd=>?_
 have:x∈Cb (d.map (·.1)) es:=X2.2 ⟨hx,fun hm=>by
  obtain⟨y,hy,hy1⟩:=Bpc.1 hm;exact hd (A0k.inj (d:=d) hb (h.sub y hy) hx hy1▸hy)⟩
 rw[hn]at this;simp at this
theorem Axm{β:Type}:∀ {a l:A2 β},a.Nodup→(∀x∈a,x∈l)→a.length≤l.length
 |[],l,_,_=>by simp
 |x::a,l,hn,hs=>by
  classical
  rw[Bqg]at hn;have hx:x∈l:=hs x (by simp);have ih:=Axm (a:=a) (l:=l.erase x) hn.2 fun y hy=>(List.mem_erase_of_ne (by rintro rfl;exact hn.1 hy)).2 (hs y (by simp[hy]))
  rw[Bvs hx]at ih;have:=Bw4 hx;simp only[Bpk];omega
def A0k.len{es d:A2 (Nat×α)}(h:A0k es d):d.length≤es.length:=Axm (Vf _ h.nd) h.sub
def B1f{σ R:Type}{es:A2 (Nat×α)}(hb:(es.map (·.1)).Nodup)(mk:A2 (Nat×α)→σ→Prop){f:(σ→A3 R)→σ→A3 R}(r:R)
  (hs:∀(rec:σ→A3 R) (d:A2 (Nat×α)) (z:σ),A0k es d→mk d z →
   (∀e∈Cb (d.map (·.1)) es,∀z',mk (d++[e]) z'→rec z'=some r)→f rec z=some r)
  (N:Nat) (hN:es.length<N) {z0:σ} (h0:mk [] z0):iter f N z0=some r:=by
 refine iter_eq (f:=f) (G:=fun _=>some r) (fun n z=>∃d,A0k es d∧mk d z∧n=es.length-d.length) ?_ N es.length z0 ⟨[],.nil _,h0,by simp⟩ hN;rintro n z rec ⟨d,hd,hz,rfl⟩ ih;refine hs rec d z hd hz fun e he z' hz'=>?_
 have hl:=(hd.add he).len;refine ih (es.length-(d++[e]).length) z' ?_ ⟨d++[e],hd.add he,hz',rfl⟩;simp only[Bq2,Bs5]at hl⊢;omega
end
structure LO{α:Type}(lt eq:α→α→Bool):Prop where
 asymm:∀x y,lt x y=true→lt y x=false
 ntrans:∀x y z,lt x y=false→lt y z=false→lt x z=false
 eq_def:∀x y,eq x y=(!lt x y && !lt y x)
section
variable{α:Type}{lt eq:α→α→Bool}
def LO.irrefl(h:LO lt eq)(x:α):lt x x=false:=by
 cases hx:lt x x with
 |false=>rfl
 |true=>have:=h.asymm x x hx;rw[hx]at this;cases this
def LO.trans(h:LO lt eq){x y z:α}(h1:lt x y=true)(h2:lt y z=true):lt x z=true:=by
 cases hx:lt x z with
 |true=>rfl
 |false =>have:=h.ntrans x z y hx (h.asymm _ _ h2);rw[h1]at this;cases this
def LO.Blm(h:LO lt eq){x y z:α}(h1:lt x y=true)(h2:lt z y=false):lt x z=true:=by
 cases hx:lt x z with
 |true=>rfl
 |false=>have:=h.ntrans x z y hx h2;rw[h1]at this;cases this
def LO.eq_true(h:LO lt eq){x y:α}:eq x y=true↔lt x y=false∧lt y x=false:=by rw[h.eq_def];simp
def LO.eq_symm(h:LO lt eq)(x y:α):eq x y=eq y x:=by rw[h.eq_def,h.eq_def,Bwi]
def N2(lt:α→α→Bool)(x:α):A2 α→A2 α
 |[]=>[x]
 |y::r=>cond (lt x y) (x::y::r) (y::N2 lt x r)
def Fg(lt:α→α→Bool)(l:A2 α):A2 α:=l.foldl (fun p x=>N2 lt x p) []
def Asc(lt:α→α→Bool)(l:A2 α):Prop:=l.Pairwise fun a b=>lt b a=false
def Akj(lt eq:α→α→Bool)(x:α)(q:A2 α):A2 α:=cond (q.any (eq x)) q (N2 lt x q)
def Acb{x z:α}{l:A2 α}:z∈N2 lt x l↔z=x∨z∈l:=by
 induction l with
 |nil=>simp[N2]
 |cons y r ih =>
  simp only[N2];cases lt x y with
  |true=>simp
  |false=>simp[ih];constructor<;>rintro (h|h|h)<;>simp[h]
def Z1(x:α)(l:A2 α):(N2 lt x l).length=l.length+1:=by
 induction l with
 |nil=>rfl
 |cons y r ih =>simp only[N2];cases lt x y<;>simp[ih]
def Bbx(h:LO lt eq){x:α}{l:A2 α}(hl:Asc lt l):Asc lt (N2 lt x l):=by
 induction l with
 |nil=>simp[N2,Asc]
 |cons y r ih =>
  simp only[Asc,Bpw]at hl⊢;simp only[N2];cases hx:lt x y with
  |true =>
   simp only[Bov,Bpw,Boz];refine⟨?_,hl.1,hl.2⟩;rintro z (rfl|hz)
   ·exact h.asymm _ _ hx
   ·exact h.asymm _ _ (h.Blm hx (hl.1 z hz))
  |false =>
   simp only[Box,Bpw];refine⟨fun z hz=>?_,ih hl.2⟩;rcases Acb.1 hz with rfl|hz
   ·exact hx
   ·exact hl.1 z hz
def A97(l:A2 α)(x:α):Fg lt (l++[x])=N2 lt x (Fg lt l):=by simp[Fg]
def B78(h:LO lt eq)(l:A2 α):Asc lt (Fg lt l):=by
 have:∀(l p:A2 α),Asc lt p→Asc lt (l.foldl (fun p x=>N2 lt x p) p):=by
  intro l;induction l with
  |nil=>intro p hp;exact hp
  |cons y r ih=>intro p hp;exact ih _ (Bbx h hp)
 exact this l [] (by simp[Asc])
def O0(l:A2 α):(Fg lt l).length=l.length:=by
 have:∀(l p:A2 α),(l.foldl (fun p x=>N2 lt x p) p).length=p.length+l.length:=by
  intro l;induction l with
  |nil=>intro p;simp
  |cons y r ih=>intro p;rw[Bqp,ih,Z1];simp;omega
 simpa[Fg]using this l []
theorem Ape{z:α}(l:A2 α):z∈Fg lt l↔z∈l:=by
 have:∀(l p:A2 α),z∈l.foldl (fun p x=>N2 lt x p) p↔z∈p∨z∈l:=by
  intro l;induction l with
  |nil=>intro p;simp
  |cons y r ih=>intro p;rw[Bqp,ih,Acb];simp;constructor<;>rintro (h|h)<;>grind
 simpa[Fg]using this l []
def Se{x y:α}{q:A2 α}(hx:lt x y=true):N2 lt x (y::q)=x::y::q:=by simp[N2,hx]
def W2{x y:α}{q:A2 α}(hx:lt x y=false):N2 lt x (y::q)=y::N2 lt x q:=by simp[N2,hx]
end
def Ty.In:(t:Ty)→t.T→Prop
 |.int k,n=>(Lit.int k n).wf=true
 |.u8,_=>True
 |.bool,_=>True
 |.str,l=>l.length≤maxLen
 |.sl a,l=>l.length≤maxLen∧∀x∈l,a.In x
 |.unit,_=>True
 |.pair a b,x=>a.In x.1∧b.In x.2
 |.st1 a,x=>a.In x
 |.tab _,_=>True
 |.err,_=>True
 |.ic _ _,_=>True
 |.ptr,_=>True
def Anc(P:Program)(rec:TypeId→Ty→Bool):Nat→A2 Field→Ty→Bool
 |off,[f],.st1 a=>cond (Nat.beq f.offset off) (cond (Nat.beq (P.cellsOf f.type) a.size) (rec f.type a) false) false
 |off,[f,g],.pair a b=>cond (Nat.beq f.offset off) (cond (Nat.beq (P.cellsOf f.type) a.size) (cond (rec f.type a) (cond (Nat.beq g.offset (off+a.size)) (cond (Nat.beq (P.cellsOf g.type) b.size) (rec g.type b) false) false) false) false) false
 |off,f::g::h::r,.pair a b=>cond (Nat.beq f.offset off) (cond (Nat.beq (P.cellsOf f.type) a.size) (cond (rec f.type a) (Anc P rec (off+a.size) (g::h::r) b) false) false) false
 |_,_,_=>false
def opB(P:Program):Nat→TypeId→Ty→Bool
 |0,_,_=>false
 |n+1,t,ty =>
  match P.underlying t,ty with
  |some (.int k),.int k'=>cond (Le k k') true false
  |some (.int .u8),.u8=>true
  |some .bool,.bool=>true
  |some .string,.str=>true
  |some (.slice e),.sl a=>cond (Nat.beq (P.cellsOf e) a.size) (cond (Nat.ble 1 a.size) (opB P n e a) false) false
  |some (.struct fs),a=>cond a.agg (cond (Nat.beq (P.cellsOf t) a.size) (Anc P (opB P n) 0 fs.toList a) false) false
  |_,_=>false
def X3(γ:Nat→Nat)(w:World)(ds:A2 D)(cs:A2 Value):Prop:=ds.length=cs.length∧∀(i:Nat) d v,ds[i]? = some d→cs[i]? = some v→RD γ w d v
def X3.one{d:D}{v:Value}(h:RD γ w d v):X3 γ w [d] [v]:=by
 refine⟨rfl,fun i e u he hu=>?_⟩;cases i with
 |zero=>simp at he hu;subst he;subst hu;exact h
 |succ i=>simp at he
def X3.append{a b:A2 D}{ds:A2 Value}(h:X3 γ w a cs)(h':X3 γ w b ds):X3 γ w (a++b) (cs++ds):=by
 refine⟨by simp[h.1,h'.1],fun i e u he hu=>?_⟩;rw[Bqh]at he hu;rw[← h.1]at hu;split at he
 ·rename_i Bg;rw[Bq6 Bg]at hu;exact h.2 i e u he hu
 ·rename_i hge;rw[Bpp hge]at hu;exact h'.2 _ e u he hu
def cT{a b:Bool}(h:cond a b false=true):a=true∧b=true:=by cases a<;>simp at h;exact⟨rfl,h⟩
section
variable{H:Type}{enc:TypeId×Value→H}{P:Program}{W:World}
def OpR(P:Program)(W:World)(H:Type)(enc:TypeId×Value→H)(fuel:Nat)(rec:TypeId→Ty→Bool):Prop :=
 ∀(t:TypeId) (ty:Ty) (cs:A2 Value) (d:DataW H) (ps:A2 MemPlace),rec t ty=true→DataW.trod enc P W 0 (fun _=>true) true fuel t cs=some (d,ps) →
  ∃x:ty.T,ty.In x∧X3 (Qt W) W (ty.ds x) cs
def take_split{α:Type}(l:A2 α)(off a b:Nat):(l.drop off).take (a+b)=(l.drop off).take a++(l.drop (off+a)).take b:=by rw[List.take_add,Bwb]
theorem B4l{fuel:Nat}{rec:TypeId→Ty→Bool}(hr:OpR P W H enc fuel rec){cs:A2 Value}:∀(fs:A2 Field) (off:Nat) (ty:Ty),Anc P rec off fs ty=true →
  (∀f∈fs,∃y,DataW.trod enc P W 0 (fun _=>true) true fuel f.type ((cs.drop f.offset).take (P.cellsOf f.type))=some y) →
  ∃x:ty.T,ty.In x∧X3 (Qt W) W (ty.ds x) ((cs.drop off).take ty.size)
 |[],off,ty,h,hf=>by cases ty<;>simp[Anc]at h
 |[f],off,ty,h,hf=>by
  cases ty with
  |st1 a =>simp only[Anc]at h;obtain⟨h1,h⟩:=cT h;obtain⟨h2,h⟩:=cT h;have h1:=Boy h1;have h2:=Boy h2;obtain⟨y,hy⟩:=hf f (by simp);rw[h1,h2]at hy;exact hr f.type a _ _ _ h hy
  |_=>simp[Anc]at h
 |[f,g],off,ty,h,hf=>by
  cases ty with
  |pair a b =>simp only[Anc]at h;obtain⟨h1,h⟩:=cT h;obtain⟨h2,h⟩:=cT h;obtain⟨h3,h⟩:=cT h;obtain⟨h4,h⟩:=cT h;obtain⟨h5,h⟩:=cT h;have h1:=Boy h1;have h2:=Boy h2;have h4:=Boy h4;have h5:=Boy h5;obtain⟨y,hy⟩:=hf f (by simp);obtain⟨z,hz⟩:=hf g (by simp);rw[h1,h2]at hy;rw[h4,h5]at hz;obtain⟨x1,i1,c1⟩:=hr _ _ _ _ _ h3 hy;obtain⟨x2,i2,c2⟩:=hr _ _ _ _ _ h hz;refine⟨(x1,x2),⟨i1,i2⟩,?_⟩;simp only[Ty.ds,Ty.size];rw[take_split];exact c1.append c2
  |_=>simp[Anc]at h
 |f::g::k::r,off,ty,h,hf=>by
  cases ty with
  |pair a b =>simp only[Anc]at h;obtain⟨h1,h⟩:=cT h;obtain⟨h2,h⟩:=cT h;obtain⟨h3,h⟩:=cT h;have h1:=Boy h1;have h2:=Boy h2;obtain⟨y,hy⟩:=hf f (by simp);rw[h1,h2]at hy;obtain⟨x1,i1,c1⟩:=hr _ _ _ _ _ h3 hy;obtain⟨x2,i2,c2⟩:=B4l hr (g::k::r) (off+a.size) b h (fun q hq=>hf q (Bp5 _ hq));refine⟨(x1,x2),⟨i1,i2⟩,?_⟩;simp only[Ty.ds,Ty.size];rw[take_split];exact c1.append c2
  |_=>simp[Anc]at h
def Axn{α β:Type}(p:Nat→β→α→Prop):∀(l:A2 β),(∀i y,l[i]? = some y→∃x,p i y x)→∃xs:A2 α,xs.length=l.length∧∀i y x,l[i]? = some y→xs[i]? = some x→p i y x:=by
 intro l;induction l generalizing p with
 |nil=>intro _;exact⟨[],rfl,by simp⟩
 |cons a r ih =>
  intro h;obtain⟨x,hx⟩:=h 0 a rfl;obtain⟨xs,h1,h2⟩:=ih (fun i=>p (i+1)) (fun i y hy=>h (i+1) y (by simpa using hy));refine⟨x::xs,by simp[h1],fun i y z hy hz=>?_⟩;cases i with
  |zero=>simp at hy hz;subst hy;subst hz;exact hx
  |succ i=>exact h2 i y z (by simpa using hy) (by simpa using hz)
theorem A98:∀(n fuel:Nat),OpR P W H enc fuel (opB P n)
 |0,fuel=>by intro t ty cs d ps ho;simp[opB]at ho
 |n+1,fuel=>by
  intro t ty cs d ps ho h;unfold opB at ho;split at ho
  ·rename_i k k' hu;obtain⟨hk,_⟩:=cT ho;have:=Hd hk;subst this;obtain⟨m,rfl,_,hw⟩:=DataW.trod_int hu h;exact⟨m,hw,.one (.sc _)⟩
  ·rename_i hu;obtain⟨m,rfl,_,hw⟩:=DataW.trod_int hu h;have hm:0≤m∧m≤255:=by simpa[Lit.wf,IntKind.wrap,IntKind.bits,IntKind.signed,IntKind.min,IntKind.max]using hw
   refine⟨UInt8.ofNat m.toNat,trivial,.one ?_⟩;have:(((UInt8.ofNat m.toNat).toNat:Nat):Int)=m:=by rw[Bv9];omega
   rw[this];exact .sc _
  ·rename_i hu;obtain⟨b,rfl,_⟩:=DataW.trod_bool hu h;exact⟨b,trivial,.one (.sc _)⟩
  ·rename_i hu;obtain⟨s,rfl,_,hw⟩:=DataW.trod_string hu h;exact⟨s.data.toList,by simpa[Ty.In]using hw,.one (.sc _)⟩
  ·rename_i e a hu;obtain⟨h1,ho⟩:=cT ho;obtain⟨h2,ho⟩:=cT ho;have h1:=Boy h1;have h2:=Bpf h2;rcases DataW.trod_slice hu h with ⟨rfl,_⟩|⟨ad,len,cap,elems,Boq,m,rfl,rfl,_,hb,hl,hc,hel,K2,_,_⟩
   ·exact⟨[],⟨by simp,by simp⟩,.one (.nil _ _ _ fun _=>rfl)⟩
   ·have key:∀i y,(List.range len)[i]? = some y→∃x:a.T,a.In x∧∃Y3,Y3.length=a.size∧X3 (Qt W) W (a.ds x) Y3∧∀j,j<a.size→W.cell? ((ad.add (i*a.size)).add j)=Y3[j]?:=by
     intro i y hi;have Bg:i<len:=by have:=(Bp2.1 hi).1;simpa using this
     have hc:=K2 i Bg;obtain⟨z,hz⟩:∃z,elems[i]? = some z:=⟨_,Bpd (by omega)⟩;rw[hz,Bq3,h1]at hc;obtain⟨Y3,hc1,hc2⟩:=hc;obtain⟨_,hcl,hcc⟩:=World.cells?_some hc1;obtain⟨x,hx1,hx2⟩:=A98 n m _ _ _ _ _ ho hc2;exact⟨x,hx1,Y3,hcl,hx2,hcc⟩
    obtain⟨xs,hxl,hx⟩:=Axn _ _ key;rw[Bvf]at hxl;have hxs:∀i x,xs[i]? = some x→a.In x∧∃Y3,Y3.length=a.size∧X3 (Qt W) W (a.ds x) Y3∧∀j,j<a.size→W.cell? ((ad.add (i*a.size)).add j)=Y3[j]?:=by
     intro i x hi;have Bg:i<len:=by have:=(Bp2.1 hi).1;omega
     exact hx i i x (by simp[Bg]) hi
    refine⟨xs,⟨by omega,fun x hm=>?_⟩,.one ?_⟩
    ·obtain⟨i,hi⟩:=Br9.1 hm;exact(hxs i x hi).1
    ·rcases Br8 len with h0|h0
     ·have:xs=[]:=Bts (by omega);subst this;subst h0;exact .nil _ (some ad) cap (by simp)
     ·have spot:ad.spot=none:=by obtain⟨x0,hx0⟩:∃z,xs[0]? = some z:=⟨_,Bpd (by omega)⟩;obtain⟨_,Y3,hl',_,hc'⟩:=hxs 0 x0 hx0;have:=hc' 0 (by omega);rw[Bpd (by omega)]at this;have:=World.cell?_spot this;simpa[Addr.add]using this
      obtain⟨b,off,sp⟩:=ad;simp only at spot;subst spot;have Bby:∀i x,xs[i]? = some x→∃Y3,Y3.length=a.size∧X3 (Qt W) W (a.ds x) Y3∧∀j,j<a.size→W.cell? ⟨b,off+(i*a.size+j),none⟩=Y3[j]?:=by
       intro i x hi;obtain⟨_,Y3,hl',hd',hc'⟩:=hxs i x hi;refine⟨Y3,hl',hd',fun j hj=>?_⟩;have:=hc' j hj
       rwa [WideShapes.add_plain,WideShapes.add_plain,Bs6]at this
      refine .Ox (by simp[hxl]) ?_ hl ?_ ?_
      ·obtain⟨x,hx⟩:∃z,xs[len-1]? = some z:=⟨_,Bpd (by omega)⟩;obtain⟨Y3,hl',_,hc'⟩:=Bby (len-1) x hx;have:=hc' (a.size-1) (by omega);rw[Bpd (by omega)]at this;have:=Av8 this;have e:len*a.size=(len-1)*a.size+a.size:=by rw[← Brj];congr 1;omega
       show off+len*a.size≤Qt W b;omega
      ·intro i cs hi;rw[Bp1,Bp8]at hi;obtain⟨x,_,rfl⟩:=hi;exact a.Cj x
      ·intro i j cs c u hi hj hu;rw[Bp1,Bp8]at hi;obtain⟨x,hx,rfl⟩:=hi;obtain⟨Y3,hl',hd',hc'⟩:=Bby i x hx;have hjl:j<a.size:=by have:=(Bp2.1 hj).1;rwa [a.Cj]at this
       rw[hc' j hjl]at hu;exact hd'.2 j c u hj hu
  ·rename_i fs hu;obtain⟨_,ho⟩:=cT ho;obtain⟨h2,ho⟩:=cT ho;have h2:=Boy h2;obtain⟨xs,m,rfl,_,hl,hxl,hall⟩:=DataW.trod_struct hu h;obtain⟨x,hx1,hx2⟩:=B4l (A98 n m) (cs:=cs) fs.toList 0 _ ho (by
    intro f hf;obtain⟨i,hi⟩:=Br9.1 hf;have M9:fs[i]? = some f:=by simpa using hi
    have:=hall i f M9;rw[this];have Bg:=(Bpo.1 M9).1;exact⟨_,Bpd (by omega)⟩)
   refine⟨x,hx1,?_⟩;rw[Brr,Brc (by omega)]at hx2;exact hx2
  ·cases ho
def open_arg{b0 n:Nat}{t:TypeId}{ty:Ty}{v:Value}{d:DataW H}{ps:A2 MemPlace}(ho:opB P n t ty=true)(hv:Value.okWide P W .any b0 t v)
  (h:DataW.Trod enc P W 0 (fun _=>true) true t v d ps):∃x:ty.T,ty.In x∧RA (full W) W (XV.d (ty.xv x)).a v:=by
 obtain⟨fuel,hf⟩:=h;obtain⟨x,h1,h2⟩:=A98 n fuel _ _ _ _ _ ho hf;refine⟨x,h1,.d _ _ ?_⟩;show RD (Qt W) W (ty.dv x) v;cases A6u:ty.agg with
 |true =>
  rw[ty.A14 x A6u];have:∃fs,P.underlying t=some (.struct fs):=by
   cases n with
   |zero=>simp[opB]at ho
   |succ n =>unfold opB at ho;split at ho<;>simp_all [Ty.agg]
  obtain⟨fs,hu⟩:=this;obtain⟨cs,rfl,_⟩:=WideShapes.okWide_struct hu hv;simp only[Value.cells]at h2;exact .agg _ _ (by simpa using h2.1) fun i c u hc hu=>h2.2 i c u hc (by simpa using hu)
 |false =>
  rw[ty.A15 x A6u]at h2;have hv':v.cells=#[v]:=by
   have:=h2.1;cases v with
   |agg cs =>
    exfalso;cases n with
    |zero=>simp[opB]at ho
    |succ n =>
     unfold opB at ho;split at ho
     ·rename_i hu;obtain⟨_,e⟩:=WideShapes.okWide_int hu hv;cases e
     ·rename_i hu;obtain⟨_,e⟩:=WideShapes.okWide_int hu hv;cases e
     ·rename_i hu;obtain⟨_,e⟩:=WideShapes.okWide_bool hu hv;cases e
     ·rename_i hu;obtain⟨_,e⟩:=WideShapes.okWide_string hu hv;cases e
     ·rename_i hu;obtain⟨_,_,_,e⟩:=WideShapes.okWide_slice hu hv;cases e
     ·rw[A6u]at ho;simp at ho
     ·cases ho
   |_=>rfl
  rw[hv']at h2;exact h2.2 0 _ _ rfl rfl
end
def Axo:Lit→Value
 |.bool b=>.bool b
 |.int k n=>.int k n
 |.string s=>.string ⟨s.toArray⟩
 |.float k b=>.float k b
 |.nil=>.nilIface
def Bbz{H:Type}{enc:TypeId×Value→H}{base:Nat}{t:TypeId}{l:Lit}{p:A2 MemPlace}
  (h:DataW.trod enc P w base sp Bou fuel t cs=some (.lit l,p)):cs=[Axo l]:=by
 cases fuel with
 |zero=>simp[DataW.trod]at h
 |succ m =>
  unfold DataW.trod at h;split at h<;>simp_all [Axo,Bp8,Bq3]
  all_goals first
   |(obtain⟨_,h,_⟩:=h;subst h;rfl)
   |(obtain⟨h,_⟩:=h;subst h;rfl)
   |(subst h;rfl)
   |(split at h<;>simp_all [Bq3,Bp8]<;>(try (obtain⟨_,_,_,_,h⟩:=h;split at h<;>simp_all)))
   |skip
def B1g{H:Type}{enc:TypeId×Value→H}{base:Nat}{t e:TypeId}{n:Nat}{ls:A2 Lit}{p:A2 MemPlace}
  (ht:P.underlying t=some (.array n e)) (he:P.cellsOf e=1) (hn:P.cellsOf t=ls.length) (Ke:n=ls.length) (h:DataW.trod enc P w base sp Bou fuel t cs=some (.agg (ls.map .lit),p)):cs=ls.map Axo:=by
 obtain⟨xs,m,rfl,hx,hl,hxl,hc⟩:=DataW.trod_array ht h;simp only[Bpm,DataW.agg.injEq]at hx;apply Bsc;intro i;by_cases hi:i<ls.length
 ·have h1:=hc i (by omega);have h2:(xs.map (·.1))[i]? = (ls.map DataW.lit)[i]?:=by rw[← hx.1]
  rw[Bpd (l:=xs) (by omega)]at h1;simp only[Bp1,Bpd (l:=xs) (show i<xs.length by omega),Bpd hi,Bq8,Bp0]at h2;generalize xs[i]=x at h1 h2;obtain⟨x1,x2⟩:=x;simp only at h2;subst h2;have:=Bbz h1;rw[he,Buj]at this;have hd:(cs.drop i)[0]? = some (Axo ls[i]):=by
   have h3:((cs.drop i).take 1)[0]? = some (Axo ls[i]):=by rw[this];rfl
   simpa using h3
  simp only[Bqn,Bs7]at hd;rw[hd];simp[hi]
 ·rw[Bqz (by omega),Bqz (by simpa using hi)]
def Akk:(ty:Ty)→ty.T→Lit
 |.int k,n=>.int k n
 |.u8,x=>.int .u8 (x.toNat:Int)
 |.bool,b=>.bool b
 |.str,l=>.string l
 |_,_=>.nil
def Bf5:Ty→Bool
 |.int _|.u8|.bool|.str=>true
 |_=>false
def Bln{ty:Ty}(h:Bf5 ty=true)(x:ty.T):ty.ds x=[.sc (Axo (Akk ty x))]:=by cases ty<;>simp[Bf5]at h<;>rfl
theorem B4m{ty:Ty}(h:Bf5 ty=true):∀(l:List ty.T),(l.map ty.ds).flatten=l.map fun x=>.sc (Axo (Akk ty x))
 |[]=>rfl
 |x::r=>by rw[Bp3,Bqt,B4m h r,Bln h x];rfl
def laid_tab{laid:A2 (String×DataW Unit)}(h:laidMetH P laid w)(n:String)(g t e k:Nat)(ty:Ty)(l:List ty.T)
  (hf:laid.filter (fun x=>x.1==n)=[(n,.agg (l.map fun x=>.lit (Akk ty x)))]) (hg:P.globalNamed n=some g) (ht:(P.globals[g]?).map (·.type)=some t)
  (hu:P.underlying t=some (.array k e)) (he:P.cellsOf e=1) (hn:P.cellsOf t=k) (hk:k=l.length) (hs:Bf5 ty=true) :
  RA (full w) w (XV.d (.pa ty l)).a (.pointer (some ⟨g,0,none⟩)):=by
 have h1:=h.filter (fun x=>x.1==n);rw[hf]at h1;have h2:laidMet P [(n,.agg (l.map fun x=>.lit (Akk ty x)))] w:=h1;obtain⟨ps,hl,_,_⟩:=h2;obtain⟨g',t',cs,fuel,p,q,e1,e2,e3,e4,_,_⟩:=hl;rw[hg]at e1;cases e1;rw[ht]at e2;cases e2;have e4':DataW.trod (fun _=>()) P w 0 (fun _=>true) false fuel t cs.toList=some (.agg ((l.map (Akk ty)).map .lit),p):=by rw[Brv];exact e4
 have hc:=B1g (ls:=l.map (Akk ty)) hu he (by simp;omega) (by simp;omega) e4';have K2:∀i,w.cell? ⟨g,i,none⟩=(l.map fun x=>Axo (Akk ty x))[i]?:=by intro i;rw[World.var?_cell hg e3 i,← Br7,hc,Brv];rfl
 refine .d _ _ ?_;show RD (Qt w) w (.ep ((l.map ty.ds).flatten)) _;rw[B4m hs];refine .ep _ _ _ ?_ ?_
 ·rw[Bq7,Bpl];have h0:w.heap[g]? = some (.cells cs ((w.heap[g]?).elim 0 (fun b=>match b with|.cells _ t _=>t|_=>0)) ((w.heap[g]?).elim (0,0) (fun b=>match b with|.cells _ _ f=>f|_=>(0,0)))):=by
   unfold World.var? at e3;rw[hg,Bow]at e3;split at e3
   ·rename_i Y3 T fr hh;cases e3;rw[hh];rfl
   ·cases e3
  unfold Qt;rw[h0];have:cs.toList.length=l.length:=by rw[hc];simp
  simp at this;simp[this]
 ·intro j c v hc1 hc2;rw[Bq7,K2 j]at hc2;simp only[Bp1,Bp8]at hc1 hc2;obtain⟨x,hx,rfl⟩:=hc1;obtain⟨y,hy,rfl⟩:=hc2;rw[hx]at hy;cases hy;exact .sc _
def DoesG.lawAs{f:FuncId}{args:A2 AV}(h:DoesG P f args gs (.d (.sc (.bool true)))){vs:Array Value}(ha:RAs (full w) w args vs.toList)(hg:GHold (full w) w gs) :
  Calls P f vs w fun e w'=>e = .returned (.bool true)∧Below w.heap.size w w':=by
 refine(h (full w) w vs (B2w w) hg (by have:=ha.get.1;simpa using this) fun i x v hx hv=>ha.get.2 i x v hx (by simpa using hv)).mono ?_;rintro e w' ⟨g',v,rfl,hr,h1⟩;refine⟨by rw[hr.Ap],⟨h1.io.1,h1.io.2.2.1,h1.io.2.1,h1.base,fun b hb=>(h1.frame b hb ?_).1⟩⟩;rintro (⟨k,o,hk,_⟩|⟨n,hn⟩)
 ·simp[X0]at hk
 ·simp[full]at hn
def GHold.nil(g:Gh)(w:World):GHold g w []:=by intro p hp;cases hp
def GHold.cons{a:AV}(h:RA g w a (.pointer (some ⟨k,0,none⟩)))(h':GHold g w gs):GHold g w ((k,a)::gs):=by
 intro p hp;rcases Boz.1 hp with rfl|hp
 ·exact h
 ·exact h' p hp
end Go.Xl
namespace Go.Proofs.Pc
abbrev Cl:Type:=Int×Int
def D8(r:Cl):Bool:=decide (1≤r.1)&&decide (r.1≤r.2)&&decide (r.2≤281474976710655)
def inR(r:Cl)(n:Int):Bool:=D8 r&&decide (r.1≤n)&&decide (n≤r.2)
def Eb(l:A2 Cl)(n:Int):Bool:=l.any fun r=>inR r n
variable{r:Cl}{n d lo hi:Int}{l a out b:A2 Cl}{f:Int→Bool}{P:A2 Int}
def Bt:D8 r=true↔1≤r.1∧r.1≤r.2∧r.2≤281474976710655:=by simp[D8,Bwm]
def Js:inR r n=true↔D8 r=true∧r.1≤n∧n≤r.2:=by simp[inR,Bwm]
def Fh:Eb l n=true↔∃r∈l,D8 r=true∧r.1≤n∧n≤r.2:=by simp[Eb,Js]
def Cm(a b:A2 Cl)(n:Int):Eb (a++b) n=(Eb a n||Eb b n):=by simp[Eb]
def Vg(n:Int):Eb [] n=false:=rfl
def Pb(r:Cl)(a:A2 Cl)(n:Int):Eb (r::a) n=(inR r n||Eb a n):=rfl
def B79(h:Eb l n=true):1≤n∧n≤281474976710655:=by obtain⟨r,_,hm,h1,h2⟩:=Fh.1 h;rw[Bt]at hm;omega
structure E5(out:List Cl):Prop where
 may:∀r∈out,D8 r=true
 apart:out.Pairwise fun a b=>a.2+1<b.1
def E5.nil:E5 []:=⟨by simp,by simp⟩
def E5.tail(h:E5 (r::l)):E5 l:=⟨fun x hx=>h.may x (by simp[hx]),(Bpw.1 h.apart).2⟩
def E5.head(h:E5 (r::l)):(1≤r.1∧r.1≤r.2∧r.2≤281474976710655)∧∀n,Eb l n=true→r.2+1<n:=by refine⟨Bt.1 (h.may r (by simp)),fun n hn=>?_⟩;obtain⟨q,hq,_,h1,_⟩:=Fh.1 hn;have:=(Bpw.1 h.apart).1 q hq;omega
def E5.least(h:E5 (r::l))(hn:Eb (r::l) n=true):r.1≤n:=by
 obtain⟨h1,h2⟩:=h.head;rw[Pb,Br3]at hn;rcases hn with hn|hn
 ·exact(Js.1 hn).2.1
 ·have:=h2 n hn;omega
def E5.A99(h:E5 (r::l))(h1:r.1≤n)(h2:n≤r.2):Eb (r::l) n=true:=by rw[Pb,Br3];exact .inl (Js.2 ⟨h.may r (by simp),h1,h2⟩)
def E5.gap(h:E5 (r::l)):Eb (r::l) (r.2+1)=false:=by
 cases hc:Eb (r::l) (r.2+1) with
 |false=>rfl
 |true =>
  rw[Pb,Br3]at hc;rcases hc with hc|hc
  ·have:=(Js.1 hc).2.2;omega
  ·have:=h.head.2 _ hc;omega
theorem E5.ext:∀ {a b:A2 Cl},E5 a→E5 b→(∀n,Eb a n=Eb b n)→a=b
 |[],[],_,_,_=>rfl
 |[],r::b,_,hb,h=>by
  have:=hb.A99 (Bv4 _) hb.head.1.2.1;rw[← h,Vg]at this;cases this
 |r::a,[],ha,_,h=>by
  have:=ha.A99 (Bv4 _) ha.head.1.2.1;rw[h,Vg]at this;cases this
 |r::a,q::b,ha,hb,h=>by
  have e1:r.1=q.1:=by have x1:=ha.least (by rw[h];exact hb.A99 (Bv4 _) hb.head.1.2.1);have x2:=hb.least (by rw[← h];exact ha.A99 (Bv4 _) ha.head.1.2.1);omega
  have e2:r.2=q.2:=by
   rcases Int.lt_trichotomy r.2 q.2 with Bg|heq|hgt
   ·have x1:=ha.gap;have hh:=ha.head.1;rw[h,hb.A99 (by omega) (by omega)]at x1;cases x1
   ·exact heq
   ·have x1:=hb.gap;have hh:=hb.head.1;rw[← h,ha.A99 (by omega) (by omega)]at x1;cases x1
  have e:r=q:=Prod.ext e1 e2;subst e;congr 1;refine E5.ext ha.tail hb.tail fun n=>?_
  have hn:=h n;rw[Pb,Pb]at hn;cases hr:inR r n with
  |false=>simpa[hr]using hn
  |true =>
   have h1:Eb a n=false:=by
    cases hc:Eb a n with
    |false=>rfl
    |true=>have:=ha.head.2 n hc;have:=(Js.1 hr).2.2;omega
   have h2:Eb b n=false:=by
    cases hc:Eb b n with
    |false=>rfl
    |true=>have:=hb.head.2 n hc;have:=(Js.1 hr).2.2;omega
   rw[h1,h2]
theorem Aes{α:Type}[BEq α][LawfulBEq α]:∀ {a l:A2 α},a.Nodup→(∀x∈a,x∈l)→a.length≤l.length
 |[],l,_,_=>by simp
 |x::a,l,hn,hs=>by
  rw[Bqg]at hn;have hx:x∈l:=hs x (by simp);have ih:=Aes (a:=a) (l:=l.erase x) hn.2 fun y hy=>(List.mem_erase_of_ne (by rintro rfl;exact hn.1 hy)).2 (hs y (by simp[hy]))
  rw[Bvs hx]at ih;have:=Bw4 hx;simp only[Bpk];omega
def E5.short(ha:E5 a)(h:∀n,Eb a n=Eb l n):a.length≤l.length:=by
 have nd:(a.map (·.1)).Nodup:=by
  have hap:=ha.apart;have hmy:=ha.may;clear h ha;induction a with
  |nil=>simp
  |cons r a ih =>rw[Bpw]at hap;rw[Bp3,Bqg];refine⟨fun hm=>?_,ih hap.2 fun x hx=>hmy x (by simp[hx])⟩;obtain⟨q,hq,he⟩:=Bpc.1 hm;have h1:=hap.1 q hq;have h2:=Bt.1 (hmy r (by simp));omega
 have sub:∀x∈a.map (·.1),x∈l.map (·.1):=by
  intro x hx;obtain⟨r,hr,rfl⟩:=Bpc.1 hx;have hm:=Bt.1 (ha.may r hr);have hc:Eb a r.1=true:=Fh.2 ⟨r,hr,ha.may r hr,by omega,by omega⟩;rw[h]at hc;obtain⟨q,hq,hqm,q1,q2⟩:=Fh.1 hc;have Boj:=Bt.1 hqm;refine Bpc.2 ⟨q,hq,?_⟩;rcases Int.lt_or_le q.1 r.1 with Bg|hge
  ·exfalso;have hc2:Eb a (r.1-1)=true:=by rw[h];exact Fh.2 ⟨q,hq,hqm,by omega,by omega⟩
   obtain⟨p,hp,hpm,p1,p2⟩:=Fh.1 hc2;have key:∀ {l:A2 Cl},l.Pairwise (fun a b:Cl=>a.2+1<b.1)→∀x∈l,∀y∈l,x=y∨x.2+1<y.1∨y.2+1<x.1:=by
    intro l hl;induction l with
    |nil=>intro x hx;simp at hx
    |cons z l ih =>
     rw[Bpw]at hl;intro x hx y hy;rcases Boz.1 hx with ex|hx'<;>rcases Boz.1 hy with ey|hy'
     ·exact .inl (ex.trans ey.symm)
     ·subst ex;exact .inr (.inl (hl.1 y hy'))
     ·subst ey;exact .inr (.inr (hl.1 x hx'))
     ·exact ih hl.2 x hx' y hy'
   rcases key ha.apart p hp r hr with rfl|h1|h1
   ·omega
   ·omega
   ·have:=Bt.1 hpm;omega
  ·omega
 have:(a.map (·.1)).length≤(l.map (·.1)).length:=Aes nd sub;simpa using this
def Fu(out:A2 Cl)(x:Cl):A2 Cl :=
 match out.getLast? with
 |none=>[x]
 |some e=>if x.1≤e.2+1 then out.set (out.length-1) (e.1,if x.2>e.2 then x.2 else e.2)else out++[x]
def A6e(x:Cl):Fu [] x=[x]:=rfl
def Sf(o:A2 Cl)(e x:Cl):Fu (o++[e]) x=if x.1≤e.2+1 then o++[(e.1,if x.2>e.2 then x.2 else e.2)]else (o++[e])++[x]:=by
 simp only[Fu,Bu2,Btp,Bsw];split
 ·simp
 ·rfl
def Fi{α:Type}(l:A2 α):l=[]∨∃o e,l=o++[e]:=by
 rcases Buq l with h|⟨o,e,h⟩
 ·exact .inl h
 ·exact .inr ⟨o,e,by simpa using h⟩
def A4k{x:Cl}(h:E5 out)(hx:D8 x=true)(hle:∀r∈out,r.1≤x.1) :
  E5 (Fu out x)∧(∀n,Eb (Fu out x) n=(Eb out n||inR x n))∧(∀r∈Fu out x,r.1≤x.1):=by
 rcases Fi out with rfl|⟨o,e,rfl⟩
 ·rw[A6e];refine⟨⟨by simpa using hx,by simp⟩,fun n=>by simp[Eb],by simp⟩
 ·have he:=h.may e (by simp);have hee:=hle e (by simp);rw[Bt]at he hx;have hap:=h.apart;rw[Bqr]at hap;obtain⟨p1,_,p3⟩:=hap;rw[Sf];split
  ·rename_i hm;refine⟨⟨?_,?_⟩,?_,?_⟩
   ·intro r hr;rcases Bp4.1 hr with hr|hr
    ·exact h.may r (by simp[hr])
    ·simp at hr;subst hr;rw[Bt];simp only;split<;>omega
   ·rw[Bqr];refine⟨p1,by simp,?_⟩;intro a ha b hb;simp at hb;subst hb;exact p3 a ha e (by simp)
   ·intro n;rw[Cm,Cm];have:Eb [(e.1,if x.2>e.2 then x.2 else e.2)] n=(Eb [e] n||inR x n):=by rw[Bqq];simp only[Eb,Bt1,Btk,Bt2,Br3,Js,Bt];split<;>constructor<;>intro hh<;>omega
    rw[this,Bvd]
   ·intro r hr;rcases Bp4.1 hr with hr|hr
    ·exact hle r (by simp[hr])
    ·simp at hr;subst hr;exact hee
  ·rename_i hm;refine⟨⟨?_,?_⟩,?_,?_⟩
   ·intro r hr;rcases Bp4.1 hr with hr|hr
    ·exact h.may r hr
    ·simp at hr;subst hr;rw[Bt];exact hx
   ·rw[Bqr];refine⟨h.apart,by simp,?_⟩;intro a ha b hb;simp at hb;subst hb;rcases Bp4.1 ha with ha|ha
    ·have:=p3 a ha e (by simp);omega
    ·simp at ha;subst ha;omega
   ·intro n;rw[Cm];simp[Eb]
   ·intro r hr;rcases Bp4.1 hr with hr|hr
    ·exact hle r hr
    ·simp at hr;subst hr;omega
theorem Sg:∀(s out:A2 Cl),E5 out→(∀x∈s,D8 x=true)→s.Pairwise (fun x y=>x.1≤y.1)→(∀r∈out,∀x∈s,r.1≤x.1) →
  E5 (s.foldl Fu out)∧∀n,Eb (s.foldl Fu out) n=(Eb out n||Eb s n)
 |[],out,h,_,_,_=>⟨h,fun n=>by simp[Vg]⟩
 |x::s,out,h,hs,hp,hle=>by
  obtain⟨h1,h2,h3⟩:=A4k h (hs x (by simp)) fun r hr=>hle r hr x (by simp)
  rw[Bpw]at hp;obtain⟨i1,i2⟩:=Sg s (Fu out x) h1 (fun y hy=>hs y (by simp[hy])) hp.2 (fun r hr y hy=>by
   have:=h3 r hr;have:=hp.1 y hy;omega)
  refine⟨i1,fun n=>?_⟩;rw[Bqp,i2 n,h2 n,Pb,Bvd]
def Akl(h:a.Perm b)(n:Int):Eb a n=Eb b n:=by
 rw[Bqq,Fh,Fh];constructor<;>rintro ⟨r,hr,hh⟩
 ·exact⟨r,h.mem_iff.1 hr,hh⟩
 ·exact⟨r,h.mem_iff.2 hr,hh⟩
def A9a(l:A2 Cl)(n:Int):Eb (l.filter D8) n=Eb l n:=by
 rw[Bqq,Fh,Fh];constructor
 ·rintro ⟨r,hr,hh⟩;exact⟨r,(Bpv.1 hr).1,hh⟩
 ·rintro ⟨r,hr,hh⟩;exact⟨r,Bpv.2 ⟨hr,hh.1⟩,hh⟩
def A1w(out:A2 Cl)(x:Cl):(Fu out x).length≤out.length+1:=by
 rcases Fi out with rfl|⟨o,e,rfl⟩
 ·simp[Fu]
 ·rw[Sf];split<;>simp
theorem Tr:∀(s out:A2 Cl),(s.foldl Fu out).length≤out.length+s.length
 |[],out=>by simp
 |x::s,out=>by
  have:=Tr s (Fu out x);have:=A1w out x;simp only[Bqp,Bpk];omega
def Oa(l:A2 Cl):A2 Cl:=((l.filter D8).mergeSort fun x y=>decide (x.1≤y.1)).foldl Fu []
def Akm(l:A2 Cl):E5 (Oa l)∧∀n,Eb (Oa l) n=Eb l n:=by
 have p1:=Bv1 (l.filter D8) fun x y=>decide (x.1≤y.1)
 have p2:=Buf (le:=fun x y:Cl=>decide (x.1≤y.1)) (by intro a b c h1 h2;simp at *;omega) (by intro a b;simp;omega) (l.filter D8);obtain⟨h1,h2⟩:=Sg _ [] .nil (fun x hx=>(Bpv.1 (p1.mem_iff.1 hx)).2) (p2.imp fun {x y} h=>by simpa using h) (by simp);refine⟨h1,fun n=>?_⟩;unfold Oa;rw[h2 n,Vg,Bta,Akl p1,A9a]
def Si(l:A2 Cl):E5 (Oa l):=(Akm l).1
def Pd(l:A2 Cl)(n:Int):Eb (Oa l) n=Eb l n:=(Akm l).2 n
def Ts(l:A2 Cl):(Oa l).length≤l.length:=(Si l).short (Pd l)
def Atk{r:A2 Cl}(h:E5 r)(hc:∀n,Eb r n=Eb l n):r=Oa l:=h.ext (Si l) fun n=>by rw[hc,Pd]
def Axp(h:∀n,Eb a n=Eb b n):Oa a=Oa b:=(Si a).ext (Si b) fun n=>by rw[Pd,Pd,h]
def Bf6(h:E5 l):Oa l=l:=(Atk h fun _=>rfl).symm
def Acd:Oa []=[]:=Bf6 .nil
def Axq(a b:A2 Cl):Oa (Oa a++b)=Oa (a++b):=Axp fun n=>by rw[Cm,Cm,Pd]
def B7a(a b:A2 Cl):Oa (a++Oa b)=Oa (a++b):=Axp fun n=>by rw[Cm,Cm,Pd]
abbrev Part:Type:=Int×A2 Cl
def tl(c:A2 Part)(dev:Int):A2 Cl:=(c.filter fun p=>p.1==dev).flatMap (·.2)
def Zj(c:A2 Part)(d n:Int):Bool:=decide (0<d)&&Eb (tl c d) n
def A1x(p:Part)(c:A2 Part)(d:Int):tl (p::c) d=if p.1=d then p.2++tl c d else tl c d:=by unfold tl;by_cases h:p.1=d<;>simp[h]
def Apf(a b:A2 Part)(d:Int):tl (a++b) d=tl a d++tl b d:=by simp[tl]
variable{c:A2 Part}{p:Part}
def A1y(h:∀p∈c,p.1≠d):tl c d=[]:=by unfold tl;rw[Bw5.2 (by simpa using h)];rfl
def Axr(a b:A2 Part)(d n:Int):Zj (a++b) d n=(Zj a d n||Zj b d n):=by simp only[Zj,Apf,Cm];cases decide (0<d)<;>simp
structure Ui(c:List Part):Prop where
 asc:c.Pairwise fun a b=>a.1<b.1
 pos:∀p∈c,0<p.1
 ne:∀p∈c,p.2≠[]
 ch:∀p∈c,E5 p.2
def Ui.tail(h:Ui (p::c)):Ui c :=
 ⟨(Bpw.1 h.asc).2,fun q hq=>h.pos q (by simp[hq]),fun q hq=>h.ne q (by simp[hq]),fun q hq=>h.ch q (by simp[hq])⟩
def Ui.Atl(h:Ui (p::c)):tl (p::c) p.1=p.2:=by rw[A1x,Bq6 rfl,A1y fun q hq=>by have:=(Bpw.1 h.asc).1 q hq;omega,Bq0]
def Ui.Bc0(h:Ui (p::c))(hd:d≤p.1):tl c d=[] :=
 A1y fun q hq=>by have:=(Bpw.1 h.asc).1 q hq;omega
def Ui.Bc1(h:Ui c)(hp:p∈c):tl c p.1=p.2:=by
 induction c with
 |nil=>simp at hp
 |cons q c ih =>
  rcases Boz.1 hp with e|hp'
  ·subst e;exact h.Atl
  ·have:=(Bpw.1 h.asc).1 p hp';rw[A1x,Bpp (by omega),ih h.tail hp']
def Bc2(h:E5 l)(hn:l≠[]):∃n,Eb l n=true:=by
 cases l with
 |nil=>exact absurd rfl hn
 |cons r l=>exact⟨r.1,h.A99 (Bv4 _) h.head.1.2.1⟩
def Ui.has(h:Ui c)(hp:p∈c):∃n,Zj c p.1 n=true:=by obtain⟨n,hn⟩:=Bc2 (h.ch p hp) (h.ne p hp);exact⟨n,by simp[Zj,h.Bc1 hp,hn,h.pos p hp]⟩
def Ui.mem_of(h:Zj c d n=true):∃p∈c,p.1=d:=by
 refine Btf fun hh=>?_
 have:tl c d=[]:=A1y fun p hp he=>hh ⟨p,hp,he⟩
 simp[Zj,this,Eb]at h
theorem Ui.ext:∀ {a b:A2 Part},Ui a→Ui b→(∀d n,Zj a d n=Zj b d n)→a=b
 |[],[],_,_,_=>rfl
 |[],q::b,_,hb,h=>by
  obtain⟨n,hn⟩:=hb.has (p:=q) (by simp);rw[← h]at hn;obtain⟨p,hp,_⟩:=Ui.mem_of hn;simp at hp
 |p::a,[],ha,_,h=>by
  obtain⟨n,hn⟩:=ha.has (p:=p) (by simp);rw[h]at hn;obtain⟨q,hq,_⟩:=Ui.mem_of hn;simp at hq
 |p::a,q::b,ha,hb,h=>by
  have e1:p.1=q.1:=by
   obtain⟨n,hn⟩:=ha.has (p:=p) (by simp);rw[h]at hn;obtain⟨x,hx,hx1⟩:=Ui.mem_of hn;obtain⟨m,hm⟩:=hb.has (p:=q) (by simp);rw[← h]at hm;obtain⟨y,hy,hy1⟩:=Ui.mem_of hm;have l1:q.1≤p.1:=by
    rcases Boz.1 hx with e|hx'
    ·subst e;omega
    ·have:=(Bpw.1 hb.asc).1 x hx';omega
   have l2:p.1≤q.1:=by
    rcases Boz.1 hy with e|hy'
    ·subst e;omega
    ·have:=(Bpw.1 ha.asc).1 y hy';omega
   omega
  have e2:p.2=q.2:=by
   refine(ha.ch p (by simp)).ext (hb.ch q (by simp)) fun n=>?_
   have hn:=h p.1 n;have h2:=hb.Atl;rw[← e1]at h2;have hp:=ha.pos p (by simp);simpa[Zj,ha.Atl,h2,hp]using hn
  have e:p=q:=Prod.ext e1 e2;subst e;congr 1;refine Ui.ext ha.tail hb.tail fun d n=>?_
  have hn:=h d n;rcases Int.lt_or_le p.1 d with Bg|hle
  ·simp only[Zj,A1x,Bpp (show ¬p.1=d by omega)]at hn;simpa[Zj]using hn
  ·simp only[Zj,ha.Bc0 hle,hb.Bc0 hle]
def G1(n:Int):A2 Int→A2 Int
 |[]=>[n]
 |x::r=>if n<x then n::x::r else if x=n then x::r else x::G1 n r
theorem Pe{n y:Int}:∀ {l:A2 Int},y∈G1 n l↔y=n∨y∈l
 |[]=>by simp[G1]
 |x::r=>by
  unfold G1;split
  ·simp
  ·split
   ·rename_i h;subst h;simp
   ·rw[Boz,Pe,Boz];constructor<;>intro hh<;>rcases hh with hh|hh|hh<;>simp[hh]
theorem R8(n:Int):∀l:A2 Int,(G1 n l).length≤l.length+1
 |[]=>by simp[G1]
 |x::r=>by
  unfold G1;have:=R8 n r;split
  ·simp
  ·split<;>simp;omega
theorem Tt(n:Int):∀ {l:A2 Int},l.Pairwise (· < ·)→(G1 n l).Pairwise (· < ·)
 |[],_=>by simp[G1]
 |x::r,h=>by
  unfold G1;have h':=Bpw.1 h;split
  ·rename_i Bg;rw[Bpw];refine⟨fun y hy=>?_,h⟩;rcases Boz.1 hy with e|hy
   ·omega
   ·have:=h'.1 y hy;omega
  ·split
   ·exact h
   ·rename_i h1 h2;rw[Bpw];refine⟨fun y hy=>?_,Tt n h'.2⟩;rcases Pe.1 hy with e|hy
    ·omega
    ·exact h'.1 y hy
def A2k(l:A2 Int):A2 Int:=l.foldl (fun q n=>G1 n q) []
theorem Z2:∀(l q:A2 Int),q.Pairwise (· < ·)→(l.foldl (fun q n=>G1 n q) q).Pairwise (· < ·)∧(∀x,x∈l.foldl (fun q n=>G1 n q) q↔x∈q∨x∈l)∧(l.foldl (fun q n=>G1 n q) q).length≤q.length+l.length
 |[],q,h=>⟨h,by simp,by simp⟩
 |n::l,q,h=>by
  obtain⟨h1,h2,h3⟩:=Z2 l (G1 n q) (Tt n h);refine⟨h1,fun x=>?_,?_⟩
  ·rw[Bqp,h2,Pe,Boz,or_assoc];constructor<;>intro hh<;>rcases hh with hh|hh|hh<;>simp[hh]
  ·have:=R8 n q;simp only[Bqp,Bpk];omega
def W3(l:A2 Int):(A2k l).Pairwise (· < ·):=(Z2 l [] .nil).1
def A0l(l:A2 Int)(x:Int):x∈A2k l↔x∈l:=by have:=(Z2 l [] .nil).2.1 x;simpa[A2k]using this
def Apg(l:A2 Int):(A2k l).length≤l.length:=by have:=(Z2 l [] .nil).2.2;simpa[A2k]using this
def B7b{l:A2 Int}(h:l.Pairwise (· < ·)):l.Nodup:=h.imp fun {a b} h=>by omega
def partsOf(f:Int→A2 Cl)(ds:A2 Int):A2 Part:=(ds.map fun d=>(d,f d)).filter fun p=>!p.2.isEmpty
def Age{f:Int→A2 Cl}{ds:A2 Int}(h:ds.Pairwise (· < ·))(hp:∀d∈ds,0<d)(hc:∀d∈ds,E5 (f d)):Ui (partsOf f ds):=by
 refine⟨?_,?_,?_,?_⟩
 ·refine Bu3 _ ?_;rw[Bse];exact h
 ·intro p hp';obtain⟨h1,_⟩:=Bpv.1 hp';obtain⟨d,hd,rfl⟩:=Bpc.1 h1;exact hp d hd
 ·intro p hp';obtain⟨_,h2⟩:=Bpv.1 hp';intro he;rw[he]at h2;simp at h2
 ·intro p hp';obtain⟨h1,_⟩:=Bpv.1 hp';obtain⟨d,hd,rfl⟩:=Bpc.1 h1;exact hc d hd
theorem A9b{f:Int→A2 Cl}:∀ {ds:A2 Int},ds.Pairwise (· < ·)→∀d,tl (partsOf f ds) d=if d∈ds then f d else []
 |[],_,d=>by simp[partsOf,tl]
 |x::ds,h,d=>by
  have h':=Bpw.1 h;have ih:=A9b (f:=f) h'.2 d;have e:partsOf f (x::ds)=(if (f x).isEmpty then partsOf f ds else (x,f x)::partsOf f ds):=by unfold partsOf;rw[Bp3,Br4];cases(f x).isEmpty<;>simp
  rw[e];by_cases hx:x=d
  ·subst hx;have hn:x∉ds:=fun hm=>by have:=h'.1 x hm;omega
   rw[Bpp hn]at ih;cases hf:f x with
   |nil=>simp[ih]
   |cons a b=>simp[A1x,ih]
  ·cases hf:f x with
   |nil=>simp only[List.isEmpty_nil,Brg,ih,Boz];simp[show ¬d=x from fun e=>hx e.symm]
   |cons a b=>simp only[Btd,Bre,Bqs,A1x,Bpp hx,ih,Boz];simp[show ¬d=x from fun e=>hx e.symm]
def Kg(c:A2 Part):A2 Part:=partsOf (fun d=>Oa (tl c d)) (A2k ((c.map (·.1)).filter fun d=>decide (0<d)))
def Akn(c:A2 Part):Ui (Kg c):=by
 refine Age (W3 _) (fun d hd=>?_) fun d _=>Si _
 have:=(A0l _ d).1 hd;simpa using(Bpv.1 this).2
def Bf7(c:A2 Part)(hd:0<d):tl (Kg c) d=Oa (tl c d):=by
 unfold Kg;rw[A9b (W3 _)];split
 ·rfl
 ·rename_i h;rw[A0l,Bpv]at h;rw[A1y (c:=c) fun p hp he=>h ⟨Bpc.2 ⟨p,hp,he⟩,by simpa using hd⟩,Acd]
def Axs(c:A2 Part)(d n:Int):Zj (Kg c) d n=Zj c d n:=by
 unfold Zj;by_cases hd:0<d
 ·rw[Bf7 c hd,Pd]
 ·simp[hd]
def Atm{r:A2 Part}(h:Ui r)(hc:∀d n,Zj r d n=Zj c d n):r=Kg c:=h.ext (Akn c) fun d n=>by rw[hc,Axs]
def Bf8(h:Ui c):Kg c=c:=(Atm h fun _ _=>rfl).symm
def B7c(c:A2 Part):Kg (Kg c)=Kg c:=Bf8 (Akn c)
def U7(c:A2 Part):Nat:=(c.flatMap (·.2)).length
def A0m(p:Part)(c:A2 Part):U7 (p::c)=p.2.length+U7 c:=by simp[U7]
def Ako(a b:A2 Part):U7 (a++b)=U7 a+U7 b:=by simp[U7]
def Aph(c:A2 Part)(d:Int):(tl c d).length≤U7 c:=by
 induction c with
 |nil=>simp[tl,U7]
 |cons p c ih=>rw[A1x,A0m];split<;>(try rw[Bq2])<;>omega
theorem Bc3:∀(c:A2 Part) {ds:A2 Int},ds.Nodup→(ds.map fun d=>(tl c d).length).sum≤U7 c
 |[],ds,_=>by
  have:∀ds:A2 Int,(ds.map fun d=>(tl [] d).length).sum=0:=by
   intro ds;induction ds with
   |nil=>rfl
   |cons x ds ih=>rw[Bp3,Bwj,ih];rfl
  rw[this];exact Brw _
 |p::c,ds,h=>by
  have ih:=Bc3 c h;rw[A0m];have key:∀ {es:A2 Int},es.Nodup→(es.map fun d=>(tl (p::c) d).length).sum≤(if p.1∈es then p.2.length else 0)+(es.map fun d=>(tl c d).length).sum:=by
   intro es he;induction es with
   |nil=>simp
   |cons x es ihe =>
    rw[Bqg]at he;have ih2:=ihe he.2;simp only[Bp3,Bwj,A1x,Boz]at ih2⊢;by_cases hx:p.1=x
    ·subst hx;rw[Bpp he.1]at ih2;simp;omega
    ·simp only[hx,Bvn,Bre];omega
  have:=key h;split at this<;>omega
theorem Agf(f:Int→A2 Cl):∀ds:A2 Int,U7 (partsOf f ds)=(ds.map fun d=>(f d).length).sum
 |[]=>rfl
 |x::ds=>by
  have ih:=Agf f ds;unfold partsOf at ih⊢;rw[Bp3,Br4];cases hf:f x with
  |nil=>simpa[hf]using ih
  |cons a b=>simp[A0m,ih,hf]
theorem Bc4{f g:Int→Nat}(h:∀d,f d≤g d):∀ds:A2 Int,(ds.map f).sum≤(ds.map g).sum
 |[]=>by simp
 |x::ds=>by have:=Bc4 h ds;have:=h x;simp;omega
def Axt(c:A2 Part):U7 (Kg c)≤U7 c:=by unfold Kg;rw[Agf];exact Bqf (Bc4 (fun d=>Ts (tl c d)) _) (Bc3 c (B7b (W3 _)))
def Agg(f:Int→A2 Cl)(ds:A2 Int):(partsOf f ds).length≤ds.length:=by unfold partsOf;have:=Bq9 (fun p:Part=>!p.2.isEmpty) (ds.map fun d=>(d,f d));simpa using this
def Axu(c:A2 Part):(Kg c).length≤c.length:=by unfold Kg;have h1:=Agg (fun d=>Oa (tl c d)) (A2k ((c.map (·.1)).filter fun d=>decide (0<d)));have h2:=Apg ((c.map (·.1)).filter fun d=>decide (0<d));have h3:=Bq9 (fun d:Int=>decide (0<d)) (c.map (·.1));simp at h3;omega
def get?{α:Type}{l:A2 α}{i:Nat}(h:i<l.length):l[i]? = some l[i]:=Bpd h
def U8(l:A2 Cl):A2 Int:=l.foldl (fun q r=>bif D8 r then G1 (r.2+1) (G1 r.1 q)else q) []
theorem Kk:∀(l:A2 Cl) (q:A2 Int),q.Pairwise (· < ·) →
  (l.foldl (fun q r=>bif D8 r then G1 (r.2+1) (G1 r.1 q)else q) q).Pairwise (· < ·) ∧
  (∀p,p∈l.foldl (fun q r=>bif D8 r then G1 (r.2+1) (G1 r.1 q)else q) q↔p∈q∨∃r∈l,D8 r=true∧(p=r.1∨p=r.2+1)) ∧
  (l.foldl (fun q r=>bif D8 r then G1 (r.2+1) (G1 r.1 q)else q) q).length≤q.length+2*l.length
 |[],q,h=>⟨h,by simp,by simp⟩
 |r::l,q,h=>by
  simp only[Bqp];cases hm:D8 r with
  |false =>obtain⟨i1,i2,i3⟩:=Kk l q h;simp only[Box];refine⟨i1,fun p=>?_,by simp only[Bpk];omega⟩;rw[i2 p];simp[hm]
  |true =>
   obtain⟨i1,i2,i3⟩:=Kk l (G1 (r.2+1) (G1 r.1 q)) (Tt _ (Tt _ h));have h1:=R8 (r.2+1) (G1 r.1 q);have h2:=R8 r.1 q;simp only[Bov];refine⟨i1,fun p=>?_,by simp only[Bpk];omega⟩;rw[i2 p,Pe,Pe];simp only[Boz,exists_eq_or_imp,hm,Bum]
   grind
def O2(l:A2 Cl):(U8 l).Pairwise (· < ·)∧(∀p,p∈U8 l↔∃r∈l,D8 r=true∧(p=r.1∨p=r.2+1))∧(U8 l).length≤2*l.length:=by obtain⟨h1,h2,h3⟩:=Kk l [] (by simp);exact⟨h1,fun p=>by have:=h2 p;simpa[U8]using this,by simpa[U8]using h3⟩
structure Akp(P:List Int)(f:Int→Bool):Prop where
 asc:P.Pairwise (· < ·)
 seg:∀(k:Nat) (lo hi n:Int),P[k]? = some lo→P[k+1]? = some hi→lo≤n→n<hi→f n=f lo
 low:∀n,f n=true→∃k p q,P[k]? = some p∧P[k+1]? = some q∧p≤n∧n<q
 rng:∀p∈P,1≤p∧p≤281474976710656
def B3q(h:P.Pairwise (· < ·)){p:Int}(hp:p∈P)(hn:p≤n){q:Int}(hq:q∈P)(hn2:n<q):∃(k:Nat) (a b:Int),P[k]? = some a∧P[k+1]? = some b∧a≤n∧n<b:=by
 induction P generalizing p with
 |nil=>simp at hp
 |cons x P ih =>
  have h':=Bpw.1 h;have hxn:x≤n:=by
   rcases Boz.1 hp with e|hm
   ·omega
   ·have:=h'.1 p hm;omega
  cases P with
  |nil=>simp at hq;omega
  |cons y P =>
   by_cases hy:n<y
   ·exact⟨0,x,y,rfl,rfl,hxn,hy⟩
   ·have hq':q∈y::P:=by
     rcases Boz.1 hq with e|hm
     ·omega
     ·exact hm
    obtain⟨k,a,b,h1,h2,h3,h4⟩:=ih (p:=y) h'.2 (by simp) (by omega) hq';exact⟨k+1,a,b,by simpa using h1,by simpa using h2,h3,h4⟩
variable{k:Nat}
def gap(h:P.Pairwise (· < ·))(h0:P[k]? = some lo)(h1:P[k+1]? = some hi):∀p∈P,p≤lo∨hi≤p:=by
 intro p hp;obtain⟨j,hj⟩:=Br9.1 hp;obtain⟨l0,rfl⟩:=Bp2.1 h0;obtain⟨l1,rfl⟩:=Bp2.1 h1;obtain⟨lj,rfl⟩:=Bp2.1 hj;have hp:=Bqk.1 h;rcases Bvj j k with h|h|h
 ·have:=hp j k lj l0 h;omega
 ·subst h;omega
 ·by_cases h2:j=k+1
  ·subst h2;omega
  ·have:=hp (k+1) j l1 lj (by omega);omega
def B7d{m:A2 Cl}(hs:∀r∈m,r∈l):Akp (U8 l) (Eb m):=by
 obtain⟨p1,p2,_⟩:=O2 l;refine⟨p1,?_,?_,?_⟩
 ·intro k lo hi n h0 h1 ha hb;have hg:=gap p1 h0 h1;rw[Bqq,Fh,Fh];constructor
  ·rintro ⟨r,hr,hm,h2,h3⟩;have:=hg r.1 ((p2 r.1).2 ⟨r,hs r hr,hm,.inl rfl⟩);exact⟨r,hr,hm,by omega,by omega⟩
  ·rintro ⟨r,hr,hm,h2,h3⟩;have:=hg (r.2+1) ((p2 (r.2+1)).2 ⟨r,hs r hr,hm,.inr rfl⟩);exact⟨r,hr,hm,by omega,by omega⟩
 ·intro n hn;obtain⟨r,hr,hm,h2,h3⟩:=Fh.1 hn;obtain⟨k,a,b,x1,x2,x3,x4⟩:=B3q p1 ((p2 r.1).2 ⟨r,hs r hr,hm,.inl rfl⟩) h2 ((p2 (r.2+1)).2 ⟨r,hs r hr,hm,.inr rfl⟩) (by omega);exact⟨k,a,b,x1,x2,x3,x4⟩
 ·intro p hp;obtain⟨r,hr,hm,h⟩:=(p2 p).1 hp;have:=Bt.1 hm;omega
def opB(how:Int)(x y:Bool):Bool:=if how=1 then x&&y else if how=2 then x && !y else x||y
def X4(out:A2 Cl)(lo hi:Int):A2 Cl :=
 match out.getLast? with
 |none=>[(lo,hi-1)]
 |some e=>if e.2+1=lo then out.set (out.length-1) (e.1,hi-1)else out++[(lo,hi-1)]
def A6f(o:A2 Cl)(e:Cl)(lo hi:Int):X4 (o++[e]) lo hi=if e.2+1=lo then o++[(e.1,hi-1)]else (o++[e])++[(lo,hi-1)]:=by
 simp only[X4,Bu2,Btp,Bsw];split
 ·simp
 ·rfl
def A9c(h:E5 out)(hl:∀r∈out,r.2+1≤lo)(h1:1≤lo)(h2:lo<hi)(h3:hi≤281474976710656) :
  E5 (X4 out lo hi)∧(∀r∈X4 out lo hi,r.2+1≤hi)∧(∀n,Eb (X4 out lo hi) n=true↔Eb out n=true∨(lo≤n∧n<hi))∧(X4 out lo hi).length≤out.length+1:=by
 rcases Fi out with rfl|⟨o,e,rfl⟩
 ·refine⟨⟨?_,by simp[X4]⟩,?_,?_,by simp[X4]⟩
  ·intro r hr;simp[X4]at hr;subst hr;rw[Bt];simp only;omega
  ·intro r hr;simp[X4]at hr;subst hr;simp only;omega
  ·intro n;simp only[X4,List.getLast?_nil,Eb,Bt1,Btk,Bt2,Js,Bt,Bqs,Bvn];omega
 ·have he:=Bt.1 (h.may e (by simp));have hel:=hl e (by simp);have hap:=h.apart;rw[Bqr]at hap;obtain⟨p1,_,p3⟩:=hap;rw[A6f];split
  ·rename_i heq;refine⟨⟨?_,?_⟩,?_,?_,by simp⟩
   ·intro r hr;rcases Bp4.1 hr with hr|hr
    ·exact h.may r (by simp[hr])
    ·simp at hr;subst hr;rw[Bt];simp only;omega
   ·rw[Bqr];refine⟨p1,by simp,fun a ha b hb=>?_⟩;simp at hb;subst hb;exact p3 a ha e (by simp)
   ·intro r hr;rcases Bp4.1 hr with hr|hr
    ·have:=hl r (by simp[hr]);omega
    ·simp at hr;subst hr;simp only;omega
   ·intro n;rw[Cm,Cm];simp only[Eb,Bt1,Btk,Bt2,Br3,Js,Bt];constructor
    ·rintro (h|h)
     ·exact .inl (.inl h)
     ·omega
    ·rintro ((h|h)|h)
     ·exact .inl h
     ·exact .inr (by omega)
     ·exact .inr (by omega)
  ·rename_i hne;refine⟨⟨?_,?_⟩,?_,?_,by simp⟩
   ·intro r hr;rcases Bp4.1 hr with hr|hr
    ·exact h.may r hr
    ·simp at hr;subst hr;rw[Bt];simp only;omega
   ·rw[Bqr];refine⟨h.apart,by simp,fun a ha b hb=>?_⟩;simp at hb;subst hb;simp only;rcases Bp4.1 ha with ha|ha
    ·have:=p3 a ha e (by simp);omega
    ·simp at ha;subst ha;omega
   ·intro r hr;rcases Bp4.1 hr with hr|hr
    ·have:=hl r hr;omega
    ·simp at hr;subst hr;simp only;omega
   ·intro n;rw[Cm];simp only[Eb,Bt1,Btk,Bt2,Br3,Js,Bt];constructor
    ·rintro (h|h)
     ·exact .inl h
     ·omega
    ·rintro (h|h)
     ·exact .inl h
     ·exact .inr (by omega)
structure A9d(P:List Int)(f:Int→Bool)(k:Nat)(out:List Cl):Prop where
 ch:E5 out
 hi:∀p,P[k]? = some p→∀r∈out,r.2+1≤p
 len:out.length≤k
 Eb:∀n,Eb out n=true↔f n=true∧∃p,P[k]? = some p∧n<p
def Api(h:Akp P f):A9d P f 0 []:=by
 refine⟨.nil,by simp,by simp,fun n=>?_⟩;rw[Vg];simp only[Bqs,false_iff];rintro ⟨h1,p,hp,hn⟩;obtain⟨k,a,b,x1,x2,x3,x4⟩:=h.low n h1;obtain⟨l0,rfl⟩:=Bp2.1 hp;obtain⟨lk,rfl⟩:=Bp2.1 x1;rcases Br8 k with h0|h0
 ·subst h0;omega
 ·have:=Bqk.1 h.asc 0 k l0 lk h0;omega
def B7e(h:Akp P f)(h0:P[k]? = some lo)(h1:P[k+1]? = some hi):lo<hi∧1≤lo∧hi≤281474976710656:=by have a:=h.rng lo (Bpu h0);have b:=h.rng hi (Bpu h1);obtain⟨l0,rfl⟩:=Bp2.1 h0;obtain⟨l1,rfl⟩:=Bp2.1 h1;have:=Bqk.1 h.asc k (k+1) l0 l1 (by omega);omega
def B4n(ht:Akp P f)(h:A9d P f k out)(h0:P[k]? = some lo)(h1:P[k+1]? = some hi)(hc:f lo=true):A9d P f (k+1) (X4 out lo hi):=by
 obtain⟨e1,e2,e3⟩:=B7e ht h0 h1;obtain⟨s1,s2,s3,s4⟩:=A9c h.ch (h.hi lo h0) e2 e1 e3;refine⟨s1,fun p hp=>?_,by have:=h.len;omega,fun n=>?_⟩
 ·rw[h1]at hp;cases hp;exact s2
 ·rw[s3 n,h.Eb n,h0,h1];simp only[Bp0,Buw];constructor
  ·rintro (⟨a1,a2⟩|⟨a1,a2⟩)
   ·exact⟨a1,by omega⟩
   ·exact⟨by rw[ht.seg k lo hi n h0 h1 a1 a2];exact hc,a2⟩
  ·rintro ⟨a1,a2⟩;by_cases h:n<lo
   ·exact .inl ⟨a1,h⟩
   ·exact .inr ⟨by omega,a2⟩
def Axv(ht:Akp P f)(h:A9d P f k out)(h0:P[k]? = some lo)(h1:P[k+1]? = some hi)(hc:f lo=false):A9d P f (k+1) out:=by
 obtain⟨e1,e2,e3⟩:=B7e ht h0 h1;refine⟨h.ch,fun p hp r hr=>?_,by have:=h.len;omega,fun n=>?_⟩
 ·rw[h1]at hp;cases hp;have:=h.hi lo h0 r hr;omega
 ·rw[h.Eb n,h0,h1];simp only[Bp0,Buw];constructor
  ·rintro ⟨a1,a2⟩;exact⟨a1,by omega⟩
  ·rintro ⟨a1,a2⟩;by_cases h:n<lo
   ·exact⟨a1,h⟩
   ·rw[ht.seg k lo hi n h0 h1 (by omega) a2,hc]at a1;cases a1
def Axw(ht:Akp P f)(h:A9d P f k out)(hk:P.length≤k+1)(hk2:k<P.length∨P.length=0)(n:Int):Pc.Eb out n=f n:=by
 rw[Bqq,h.Eb n];constructor
 ·exact fun hh=>hh.1
 ·intro hc;refine⟨hc,?_⟩;obtain⟨j,a,b,x1,x2,x3,x4⟩:=ht.low n hc;obtain⟨lj,rfl⟩:=Bp2.1 x2;have Gv:k<P.length:=by omega
  refine⟨P[k],get? Gv,?_⟩;rcases Brq (j+1) k with h|h
  ·have:=Bqk.1 ht.asc (j+1) k lj Gv h;omega
  ·have:j+1=k:=by omega
   subst this;omega
end Go.Proofs.Pc
namespace Go.Proofs
open Go.Shelf
def Tryz.Axx:Go.Shelf.Ren:=⟨fun|6=>123|15=>98|14=>97|28=>139|29=>140|20=>131|21=>132|22=>133|23=>134|24=>135|25=>136|26=>137|27=>138|46=>159|47=>160|48=>161|49=>162|50=>163|57=>190|n=>n,fun|22=>27|24=>26|25=>75|3=>3|39=>143|0=>0|53=>175|55=>23|4=>4|46=>168|45=>167|50=>172|5=>5|9=>9|66=>190|70=>194|76=>216|77=>217|n=>n,fun|n=>n⟩
def Tryz.Bf9:Go.Proofs.SlLaysF0.n6 prog Tryz.Axx:={
 mixed:=by kernel_rfl
 f6:=⟨f123.name,by decide,func123.trans (Bpj some (by kernel_rfl))⟩
 f14:=⟨f97.name,by decide,func97.trans (Bpj some (by kernel_rfl))⟩
 f15:=func98.trans (Bpj some (by kernel_rfl))
 f20:=⟨f131.name,by decide,func131.trans (Bpj some (by kernel_rfl))⟩
 f21:=⟨f132.name,by decide,func132.trans (Bpj some (by kernel_rfl))⟩
 f22:=⟨f133.name,by decide,func133.trans (Bpj some (by kernel_rfl))⟩
 f23:=⟨f134.name,by decide,func134.trans (Bpj some (by kernel_rfl))⟩
 f24:=⟨f135.name,by decide,func135.trans (Bpj some (by kernel_rfl))⟩
 f25:=⟨f136.name,by decide,func136.trans (Bpj some (by kernel_rfl))⟩
 f26:=⟨f137.name,by decide,func137.trans (Bpj some (by kernel_rfl))⟩
 f27:=⟨f138.name,by decide,func138.trans (Bpj some (by kernel_rfl))⟩
 f28:=func139.trans (Bpj some (by kernel_rfl))
 f29:=func140.trans (Bpj some (by kernel_rfl))
 f46:=⟨f159.name,by decide,func159.trans (Bpj some (by kernel_rfl))⟩
 f47:=func160.trans (Bpj some (by kernel_rfl))
 f48:=func161.trans (Bpj some (by kernel_rfl))
 f49:=⟨f162.name,by decide,func162.trans (Bpj some (by kernel_rfl))⟩
 f50:=⟨f163.name,by decide,func163.trans (Bpj some (by kernel_rfl))⟩
 f57:=⟨f190.name,by decide,func190.trans (Bpj some (by kernel_rfl))⟩
 t0:=underlying0
 a0:=isAgg0
 z0:=sizeOf0
 v0:=zeroValue0
 t3:=underlying3
 a3:=isAgg3
 z3:=sizeOf3
 v3:=zeroValue3
 t4:=underlying4
 a4:=isAgg4
 z4:=sizeOf4
 v4:=zeroValue4
 t5:=underlying5
 a5:=isAgg5
 z5:=sizeOf5
 v5:=zeroValue5
 t9:=underlying9
 a9:=isAgg9
 z9:=sizeOf9
 v9:=zeroValue9
 t22:=underlying27
 a22:=isAgg27
 z22:=sizeOf27
 v22:=zeroValue27
 t25:=underlying75
 a25:=isAgg75
 z25:=sizeOf75
 v25:=zeroValue75
 t39:=underlying143
 a39:=isAgg143
 z39:=sizeOf143
 v39:=zeroValue143
 t45:=underlying167
 a45:=isAgg167
 z45:=sizeOf167
 v45:=zeroValue167
 t46:=underlying168
 a46:=isAgg168
 z46:=sizeOf168
 v46:=zeroValue168
 t50:=underlying172
 a50:=isAgg172
 z50:=sizeOf172
 v50:=zeroValue172
 t53:=underlying175
 a53:=isAgg175
 z53:=sizeOf175
 v53:=zeroValue175
 t55:=underlying23
 a55:=isAgg23
 z55:=sizeOf23
 v55:=zeroValue23
 t66:=underlying190
 a66:=isAgg190
 z66:=sizeOf190
 v66:=zeroValue190
 t70:=underlying194
 a70:=isAgg194
 z70:=sizeOf194
 v70:=zeroValue194
 t76:=underlying216
 a76:=isAgg216
 z76:=sizeOf216
 v76:=zeroValue216
 t77:=underlying217
 a77:=isAgg217
 z77:=sizeOf217
 v77:=zeroValue217 }
def Tryz.Axy:Go.Shelf.Ren:=⟨fun|6=>150|15=>98|14=>169|28=>139|29=>140|20=>193|21=>194|22=>195|23=>196|24=>197|25=>198|26=>199|27=>200|46=>207|47=>160|48=>161|49=>208|50=>209|57=>212|n=>n,fun|22=>107|24=>149|25=>186|3=>3|39=>143|0=>0|53=>175|55=>23|4=>4|46=>168|45=>167|50=>172|5=>5|9=>9|66=>190|70=>194|76=>216|77=>217|n=>n,fun|n=>n⟩
def Tryz.Abt:Go.Proofs.SlLaysF0.n6 prog Tryz.Axy:={
 mixed:=by kernel_rfl
 f6:=⟨f150.name,by decide,func150.trans (Bpj some (by kernel_rfl))⟩
 f14:=⟨f169.name,by decide,func169.trans (Bpj some (by kernel_rfl))⟩
 f15:=func98.trans (Bpj some (by kernel_rfl))
 f20:=⟨f193.name,by decide,func193.trans (Bpj some (by kernel_rfl))⟩
 f21:=⟨f194.name,by decide,func194.trans (Bpj some (by kernel_rfl))⟩
 f22:=⟨f195.name,by decide,func195.trans (Bpj some (by kernel_rfl))⟩
 f23:=⟨f196.name,by decide,func196.trans (Bpj some (by kernel_rfl))⟩
 f24:=⟨f197.name,by decide,func197.trans (Bpj some (by kernel_rfl))⟩
 f25:=⟨f198.name,by decide,func198.trans (Bpj some (by kernel_rfl))⟩
 f26:=⟨f199.name,by decide,func199.trans (Bpj some (by kernel_rfl))⟩
 f27:=⟨f200.name,by decide,func200.trans (Bpj some (by kernel_rfl))⟩
 f28:=func139.trans (Bpj some (by kernel_rfl))
 f29:=func140.trans (Bpj some (by kernel_rfl))
 f46:=⟨f207.name,by decide,func207.trans (Bpj some (by kernel_rfl))⟩
 f47:=func160.trans (Bpj some (by kernel_rfl))
 f48:=func161.trans (Bpj some (by kernel_rfl))
 f49:=⟨f208.name,by decide,func208.trans (Bpj some (by kernel_rfl))⟩
 f50:=⟨f209.name,by decide,func209.trans (Bpj some (by kernel_rfl))⟩
 f57:=⟨f212.name,by decide,func212.trans (Bpj some (by kernel_rfl))⟩
 t0:=underlying0
 a0:=isAgg0
 z0:=sizeOf0
 v0:=zeroValue0
 t3:=underlying3
 a3:=isAgg3
 z3:=sizeOf3
 v3:=zeroValue3
 t4:=underlying4
 a4:=isAgg4
 z4:=sizeOf4
 v4:=zeroValue4
 t5:=underlying5
 a5:=isAgg5
 z5:=sizeOf5
 v5:=zeroValue5
 t9:=underlying9
 a9:=isAgg9
 z9:=sizeOf9
 v9:=zeroValue9
 t22:=underlying107
 a22:=isAgg107
 z22:=sizeOf107
 v22:=zeroValue107
 t25:=underlying186
 a25:=isAgg186
 z25:=sizeOf186
 v25:=zeroValue186
 t39:=underlying143
 a39:=isAgg143
 z39:=sizeOf143
 v39:=zeroValue143
 t45:=underlying167
 a45:=isAgg167
 z45:=sizeOf167
 v45:=zeroValue167
 t46:=underlying168
 a46:=isAgg168
 z46:=sizeOf168
 v46:=zeroValue168
 t50:=underlying172
 a50:=isAgg172
 z50:=sizeOf172
 v50:=zeroValue172
 t53:=underlying175
 a53:=isAgg175
 z53:=sizeOf175
 v53:=zeroValue175
 t55:=underlying23
 a55:=isAgg23
 z55:=sizeOf23
 v55:=zeroValue23
 t66:=underlying190
 a66:=isAgg190
 z66:=sizeOf190
 v66:=zeroValue190
 t70:=underlying194
 a70:=isAgg194
 z70:=sizeOf194
 v70:=zeroValue194
 t76:=underlying216
 a76:=isAgg216
 z76:=sizeOf216
 v76:=zeroValue216
 t77:=underlying217
 a77:=isAgg217
 z77:=sizeOf217
 v77:=zeroValue217 }
def Tryz.R9:Go.Shelf.Ren:=⟨fun|14=>152|20=>170|21=>171|22=>172|23=>173|24=>174|25=>175|26=>176|27=>177|46=>201|47=>160|48=>161|49=>202|50=>203|15=>98|57=>210|28=>139|29=>140|n=>n,fun|24=>109|22=>34|3=>3|25=>153|4=>4|0=>0|46=>168|45=>167|50=>172|66=>190|39=>143|55=>23|70=>194|76=>216|77=>217|53=>175|5=>5|9=>9|n=>n,fun|n=>n⟩
def Tryz.Akq:Go.Proofs.SlLaysF0.n14 prog Tryz.R9:={
 mixed:=by kernel_rfl
 f14:=⟨f152.name,by decide,func152.trans (Bpj some (by kernel_rfl))⟩
 f15:=func98.trans (Bpj some (by kernel_rfl))
 f20:=⟨f170.name,by decide,func170.trans (Bpj some (by kernel_rfl))⟩
 f21:=⟨f171.name,by decide,func171.trans (Bpj some (by kernel_rfl))⟩
 f22:=⟨f172.name,by decide,func172.trans (Bpj some (by kernel_rfl))⟩
 f23:=⟨f173.name,by decide,func173.trans (Bpj some (by kernel_rfl))⟩
 f24:=⟨f174.name,by decide,func174.trans (Bpj some (by kernel_rfl))⟩
 f25:=⟨f175.name,by decide,func175.trans (Bpj some (by kernel_rfl))⟩
 f26:=⟨f176.name,by decide,func176.trans (Bpj some (by kernel_rfl))⟩
 f27:=⟨f177.name,by decide,func177.trans (Bpj some (by kernel_rfl))⟩
 f28:=func139.trans (Bpj some (by kernel_rfl))
 f29:=func140.trans (Bpj some (by kernel_rfl))
 f46:=⟨f201.name,by decide,func201.trans (Bpj some (by kernel_rfl))⟩
 f47:=func160.trans (Bpj some (by kernel_rfl))
 f48:=func161.trans (Bpj some (by kernel_rfl))
 f49:=⟨f202.name,by decide,func202.trans (Bpj some (by kernel_rfl))⟩
 f50:=⟨f203.name,by decide,func203.trans (Bpj some (by kernel_rfl))⟩
 f57:=⟨f210.name,by decide,func210.trans (Bpj some (by kernel_rfl))⟩
 t0:=underlying0
 a0:=isAgg0
 z0:=sizeOf0
 v0:=zeroValue0
 t3:=underlying3
 a3:=isAgg3
 z3:=sizeOf3
 v3:=zeroValue3
 t4:=underlying4
 a4:=isAgg4
 z4:=sizeOf4
 v4:=zeroValue4
 t5:=underlying5
 a5:=isAgg5
 z5:=sizeOf5
 v5:=zeroValue5
 t9:=underlying9
 a9:=isAgg9
 z9:=sizeOf9
 v9:=zeroValue9
 t22:=underlying34
 a22:=isAgg34
 z22:=sizeOf34
 v22:=zeroValue34
 t25:=underlying153
 a25:=isAgg153
 z25:=sizeOf153
 v25:=zeroValue153
 t39:=underlying143
 a39:=isAgg143
 z39:=sizeOf143
 v39:=zeroValue143
 t45:=underlying167
 a45:=isAgg167
 z45:=sizeOf167
 v45:=zeroValue167
 t46:=underlying168
 a46:=isAgg168
 z46:=sizeOf168
 v46:=zeroValue168
 t50:=underlying172
 a50:=isAgg172
 z50:=sizeOf172
 v50:=zeroValue172
 t53:=underlying175
 a53:=isAgg175
 z53:=sizeOf175
 v53:=zeroValue175
 t55:=underlying23
 a55:=isAgg23
 z55:=sizeOf23
 v55:=zeroValue23
 t66:=underlying190
 a66:=isAgg190
 z66:=sizeOf190
 v66:=zeroValue190
 t70:=underlying194
 a70:=isAgg194
 z70:=sizeOf194
 v70:=zeroValue194
 t76:=underlying216
 a76:=isAgg216
 z76:=sizeOf216
 v76:=zeroValue216
 t77:=underlying217
 a77:=isAgg217
 z77:=sizeOf217
 v77:=zeroValue217 }
def Tryz.Ane:Go.Shelf.Ren:=⟨fun|6=>129|15=>98|14=>158|28=>139|29=>140|20=>127|21=>183|22=>184|23=>185|24=>186|25=>187|26=>188|27=>189|46=>204|47=>160|48=>161|49=>205|50=>206|57=>211|n=>n,fun|22=>32|24=>29|25=>84|3=>3|39=>143|0=>0|53=>175|55=>23|4=>4|46=>168|45=>167|50=>172|5=>5|9=>9|66=>190|70=>194|76=>216|77=>217|n=>n,fun|n=>n⟩
def Tryz.B7f:Go.Proofs.SlLaysF0.n6 prog Tryz.Ane:={
 mixed:=by kernel_rfl
 f6:=⟨f129.name,by decide,func129.trans (Bpj some (by kernel_rfl))⟩
 f14:=⟨f158.name,by decide,func158.trans (Bpj some (by kernel_rfl))⟩
 f15:=func98.trans (Bpj some (by kernel_rfl))
 f20:=⟨f127.name,by decide,func127.trans (Bpj some (by kernel_rfl))⟩
 f21:=⟨f183.name,by decide,func183.trans (Bpj some (by kernel_rfl))⟩
 f22:=⟨f184.name,by decide,func184.trans (Bpj some (by kernel_rfl))⟩
 f23:=⟨f185.name,by decide,func185.trans (Bpj some (by kernel_rfl))⟩
 f24:=⟨f186.name,by decide,func186.trans (Bpj some (by kernel_rfl))⟩
 f25:=⟨f187.name,by decide,func187.trans (Bpj some (by kernel_rfl))⟩
 f26:=⟨f188.name,by decide,func188.trans (Bpj some (by kernel_rfl))⟩
 f27:=⟨f189.name,by decide,func189.trans (Bpj some (by kernel_rfl))⟩
 f28:=func139.trans (Bpj some (by kernel_rfl))
 f29:=func140.trans (Bpj some (by kernel_rfl))
 f46:=⟨f204.name,by decide,func204.trans (Bpj some (by kernel_rfl))⟩
 f47:=func160.trans (Bpj some (by kernel_rfl))
 f48:=func161.trans (Bpj some (by kernel_rfl))
 f49:=⟨f205.name,by decide,func205.trans (Bpj some (by kernel_rfl))⟩
 f50:=⟨f206.name,by decide,func206.trans (Bpj some (by kernel_rfl))⟩
 f57:=⟨f211.name,by decide,func211.trans (Bpj some (by kernel_rfl))⟩
 t0:=underlying0
 a0:=isAgg0
 z0:=sizeOf0
 v0:=zeroValue0
 t3:=underlying3
 a3:=isAgg3
 z3:=sizeOf3
 v3:=zeroValue3
 t4:=underlying4
 a4:=isAgg4
 z4:=sizeOf4
 v4:=zeroValue4
 t5:=underlying5
 a5:=isAgg5
 z5:=sizeOf5
 v5:=zeroValue5
 t9:=underlying9
 a9:=isAgg9
 z9:=sizeOf9
 v9:=zeroValue9
 t22:=underlying32
 a22:=isAgg32
 z22:=sizeOf32
 v22:=zeroValue32
 t25:=underlying84
 a25:=isAgg84
 z25:=sizeOf84
 v25:=zeroValue84
 t39:=underlying143
 a39:=isAgg143
 z39:=sizeOf143
 v39:=zeroValue143
 t45:=underlying167
 a45:=isAgg167
 z45:=sizeOf167
 v45:=zeroValue167
 t46:=underlying168
 a46:=isAgg168
 z46:=sizeOf168
 v46:=zeroValue168
 t50:=underlying172
 a50:=isAgg172
 z50:=sizeOf172
 v50:=zeroValue172
 t53:=underlying175
 a53:=isAgg175
 z53:=sizeOf175
 v53:=zeroValue175
 t55:=underlying23
 a55:=isAgg23
 z55:=sizeOf23
 v55:=zeroValue23
 t66:=underlying190
 a66:=isAgg190
 z66:=sizeOf190
 v66:=zeroValue190
 t70:=underlying194
 a70:=isAgg194
 z70:=sizeOf194
 v70:=zeroValue194
 t76:=underlying216
 a76:=isAgg216
 z76:=sizeOf216
 v76:=zeroValue216
 t77:=underlying217
 a77:=isAgg217
 z77:=sizeOf217
 v77:=zeroValue217 }
def Tryz.Tu:Go.Shelf.Ren:=⟨fun|14=>97|20=>131|21=>132|22=>133|23=>134|24=>135|25=>136|26=>137|27=>138|46=>159|47=>160|48=>161|49=>162|50=>163|15=>98|57=>190|28=>139|29=>140|n=>n,fun|24=>26|22=>27|3=>3|25=>75|4=>4|0=>0|46=>168|45=>167|50=>172|66=>190|39=>143|55=>23|70=>194|76=>216|77=>217|53=>175|5=>5|9=>9|n=>n,fun|n=>n⟩
def Tryz.Atn:Go.Proofs.SlLaysF0.n14 prog Tryz.Tu:={
 mixed:=by kernel_rfl
 f14:=⟨f97.name,by decide,func97.trans (Bpj some (by kernel_rfl))⟩
 f15:=func98.trans (Bpj some (by kernel_rfl))
 f20:=⟨f131.name,by decide,func131.trans (Bpj some (by kernel_rfl))⟩
 f21:=⟨f132.name,by decide,func132.trans (Bpj some (by kernel_rfl))⟩
 f22:=⟨f133.name,by decide,func133.trans (Bpj some (by kernel_rfl))⟩
 f23:=⟨f134.name,by decide,func134.trans (Bpj some (by kernel_rfl))⟩
 f24:=⟨f135.name,by decide,func135.trans (Bpj some (by kernel_rfl))⟩
 f25:=⟨f136.name,by decide,func136.trans (Bpj some (by kernel_rfl))⟩
 f26:=⟨f137.name,by decide,func137.trans (Bpj some (by kernel_rfl))⟩
 f27:=⟨f138.name,by decide,func138.trans (Bpj some (by kernel_rfl))⟩
 f28:=func139.trans (Bpj some (by kernel_rfl))
 f29:=func140.trans (Bpj some (by kernel_rfl))
 f46:=⟨f159.name,by decide,func159.trans (Bpj some (by kernel_rfl))⟩
 f47:=func160.trans (Bpj some (by kernel_rfl))
 f48:=func161.trans (Bpj some (by kernel_rfl))
 f49:=⟨f162.name,by decide,func162.trans (Bpj some (by kernel_rfl))⟩
 f50:=⟨f163.name,by decide,func163.trans (Bpj some (by kernel_rfl))⟩
 f57:=⟨f190.name,by decide,func190.trans (Bpj some (by kernel_rfl))⟩
 t0:=underlying0
 a0:=isAgg0
 z0:=sizeOf0
 v0:=zeroValue0
 t3:=underlying3
 a3:=isAgg3
 z3:=sizeOf3
 v3:=zeroValue3
 t4:=underlying4
 a4:=isAgg4
 z4:=sizeOf4
 v4:=zeroValue4
 t5:=underlying5
 a5:=isAgg5
 z5:=sizeOf5
 v5:=zeroValue5
 t9:=underlying9
 a9:=isAgg9
 z9:=sizeOf9
 v9:=zeroValue9
 t22:=underlying27
 a22:=isAgg27
 z22:=sizeOf27
 v22:=zeroValue27
 t25:=underlying75
 a25:=isAgg75
 z25:=sizeOf75
 v25:=zeroValue75
 t39:=underlying143
 a39:=isAgg143
 z39:=sizeOf143
 v39:=zeroValue143
 t45:=underlying167
 a45:=isAgg167
 z45:=sizeOf167
 v45:=zeroValue167
 t46:=underlying168
 a46:=isAgg168
 z46:=sizeOf168
 v46:=zeroValue168
 t50:=underlying172
 a50:=isAgg172
 z50:=sizeOf172
 v50:=zeroValue172
 t53:=underlying175
 a53:=isAgg175
 z53:=sizeOf175
 v53:=zeroValue175
 t55:=underlying23
 a55:=isAgg23
 z55:=sizeOf23
 v55:=zeroValue23
 t66:=underlying190
 a66:=isAgg190
 z66:=sizeOf190
 v66:=zeroValue190
 t70:=underlying194
 a70:=isAgg194
 z70:=sizeOf194
 v70:=zeroValue194
 t76:=underlying216
 a76:=isAgg216
 z76:=sizeOf216
 v76:=zeroValue216
 t77:=underlying217
 a77:=isAgg217
 z77:=sizeOf217
 v77:=zeroValue217 }
end Go.Proofs
namespace Go.Proofs.Xg
open Go Go.Xl Go.Ab Go.Proofs
def mixed:prog.follows .mixedOrders=true:=by kernel_rfl
@[reducible] def Ag:Ty:=(.pair (.int .u16) (.int .u64))
@[reducible] def tEvent:Ty:=(.pair Ag (.pair .u8 (.pair (.int .u64) (.pair .u8 (.pair .str (.sl Ag))))))
@[reducible] def B4:Ty:=(.pair (.int .u64) (.int .u64))
@[reducible] def Ak:Ty:=(.pair (.int .u16) (.sl B4))
def Em(N:Nat):Bb [(.int .u64)] (A3 (Al [.bool])):=fun(x:Int)=>some (x != x)
variable(N:Nat)
def A9e:=Bs [] [] N 95 .lf [(.int .u64)] [.bool] (Em N) mixed func95 rfl (by decide) rfl (by kernel_rfl)
def By:Bb [(.int .u64),(.int .u64)] (A3 (Al [A0])):=fun(x Bh:Int)=>Option.bind (Em N x) fun(y:Bool)=>Option.bind (Em N Bh) fun(Dv:Bool)=>bif y then bif Dv then some 0 else some (-1)else
 bif Dv then some 1 else bif decide (x<Bh)then some (-1)else bif decide (Bh<x)then some 1 else some 0
def Ex:=Bs [A9e N] [] N 45 .lf [(.int .u64),(.int .u64)] [A0] (By N) mixed func45 rfl (by decide) rfl (by kernel_rfl)
def I4(N:Nat):Bb [(.int .u16)] (A3 (Al [.bool])):=fun(x:Int)=>some (x != x)
def A9f:=Bs [] [] N 116 .lf [(.int .u16)] [.bool] (I4 N) mixed func116 rfl (by decide) rfl (by kernel_rfl)
def Gk:Bb [(.int .u16),(.int .u16)] (A3 (Al [A0])):=fun(x Bh:Int)=>Option.bind (I4 N x) fun(y:Bool)=>Option.bind (I4 N Bh) fun(Dv:Bool)=>bif y then bif Dv then some 0 else some (-1)else
 bif Dv then some 1 else bif decide (x<Bh)then some (-1)else bif decide (Bh<x)then some 1 else some 0
def J4:=Bs [A9f N] [] N 81 .lf [(.int .u16),(.int .u16)] [A0] (Gk N) mixed func81 rfl (by decide) rfl (by kernel_rfl)
def Sj:Bb [Ag,Ag] (A3 (Al [A0])):=fun(x Bh:Bwo)=>Option.bind (Gk N x.1 Bh.1) fun(y:Int)=>bif y != 0 then some y else Option.bind (By N x.2 Bh.2) fun(y:Int)=>some y
def Apj:Awq prog [Ex N,J4 N] [] N f33 .lf [Ag,Ag] [A0]=Sj N:=by kernel_rfl
def W4:Ft prog:=Bek 33 f33 _ [Ag,Ag] [A0] (Sj N) mixed func33 (.mk' func33 rfl (by decide)) rfl (Apj N)
def N3(N:Nat):O8 [] (A3 (Al (Wu Ag [.s]))):=some []
def Fx:A2 (Ag:Ty).T→Nat→O8 [] (A3 (A2 (Ag:Ty).T×Rv [.s])):=fun(l:Bwx) (n:Nat)=>bif decide ((↑n:Int)<2)then some (l,n)else iter (fun(rec:Bwr×Unit×Unit×A2 Bwo×Unit→A3 (A2 Bwo×Nat))
 (z:Bwr×Unit×Unit×A2 Bwo×Unit)=>bif decide (z.1.1<(↑n:Int))then bif decide (0≤z.1.1)&&decide (z.1.1<(↑n:Int))then z.2.2.2.1[0+z.1.1.toNat]?.bind fun(e:Bwo)=>bif decide (0≤i64.wrap (z.1.1-1))&&decide
 (i64.wrap (z.1.1-1)<(↑n:Int))then z.2.2.2.1[0+(i64.wrap (z.1.1-1)).toNat]?.bind fun(Mn:Bwo)=>bif e.1==Mn.1&&e.2==Mn.2 then bif Fb z.1.1 (↑n:Int) n then iter (fun(rec:Bwt×Unit×Unit×A2 Bwo×Unit→Option
 (A2 Bwo×Nat)) (Ea:Bwt×Unit×Unit×A2 Bwo×Unit)=>bif decide (Ea.1.2.1<(↑((↑n:Int).toNat-z.1.1.toNat):Int))then bif decide (0≤Ea.1.2.1)&&decide (Ea.1.2.1<(↑((↑n:Int).toNat-z.1.1.toNat):Int))then
 Ea.2.2.2.1[0+z.1.1.toNat+Ea.1.2.1.toNat]?.bind fun(e:Bwo)=>bif decide (0≤i64.wrap (Ea.1.2.1-1))&&decide (i64.wrap (Ea.1.2.1-1)<(↑((↑n:Int).toNat-z.1.1.toNat):Int))then
 Ea.2.2.2.1[0+z.1.1.toNat+(i64.wrap (Ea.1.2.1-1)).toNat]?.bind fun(e_2:Bwo)=>bif !(e.1==e_2.1&&e.2==e_2.2)then bif decide (0≤Ea.1.2.1)&&decide (Ea.1.2.1<(↑((↑n:Int).toNat-z.1.1.toNat):Int))then
 Ea.2.2.2.1[0+z.1.1.toNat+Ea.1.2.1.toNat]?.bind fun(e:Bwo)=>bif decide (0≤Ea.1.1)&&decide (Ea.1.1<(↑n:Int))then Ea.2.2.2.1[0+Ea.1.1.toNat]?.bind fun(e_3:Bwo)=>rec ((i64.wrap (Ea.1.1+1),i64.wrap
 (Ea.1.2.1+1),()),(),(),Ea.2.2.2.1.set (0+Ea.1.1.toNat) e,())else none else none else rec ((Ea.1.1,i64.wrap (Ea.1.2.1+1),()),(),(),Ea.2.2.2.1,())else none else none else bif Fb Ea.1.1 (↑n:Int) n then bif Fb 0
 Ea.1.1 n then some (List.take (0+Ea.1.1.toNat) Ea.2.2.2.1,Ea.1.1.toNat-0)else none else none) N ((z.1.1,1,()),(),(),z.2.2.2.1,())else none else rec ((i64.wrap (z.1.1+1),()),(),(),z.2.2.2.1,())else none else none
 else some (z.2.2.2.1,n)) N ((1,()),(),(),l,())
def Yb:=B40 [] [] N 124 (A1 (A1 (.seq (A1 (.blk (.loop ⟨[(3,.d A0)],[],[0],[],[],[(1,.arr Ag)]⟩ (A1 (.seq (.blk (A1 (.cond (A1 (.seq (A1 (.blk (.loop ⟨[(3,.d A0),(5,.d A0)],[],[0,4],[],[],[(1,.arr Ag)]⟩ .lf))) .lf)) .lf))) .lf))))) .lf))) (A1 (A1 (.seq (A1 (.blk (.loop ⟨[(3,.d A0)],[],[0],[],[],[]⟩ (A1 (.seq (.blk (A1 (.cond (A1 (.seq (A1 (.blk (.loop ⟨[(3,.d A0),(5,.d A0)],[],[0,4],[],[],[]⟩ .lf))) .lf)) .lf))) .lf))))) .lf))) Ag [] [.s] (Fx N) (N3 N) mixed func124 rfl (by decide) rfl (by kernel_rfl) (by kernel_rfl)
def T6:Bb [B4,B4] (A3 (Al [A0])):=fun(x Bh:Bwo)=>Option.bind (By N x.1 Bh.1) fun(y:Int)=>some y
def A7v:Awq prog [Ex N] [] N f151 .lf [B4,B4] [A0]=T6 N:=by kernel_rfl
def Anf:Ft prog:=Bek 151 f151 _ [B4,B4] [A0] (T6 N) mixed func151 (.mk' func151 rfl (by decide)) rfl (A7v N)
def T7:Bb [Ak,Ak] (A3 (Al [A0])):=fun(x Bh:Bwp)=>Option.bind (Gk N x.1 Bh.1) fun(y:Int)=>some y
def A7w:Awq prog [J4 N] [] N f114 .lf [Ak,Ak] [A0]=T7 N:=by kernel_rfl
def Ang:Ft prog:=Bek 114 f114 _ [Ak,Ak] [A0] (T7 N) mixed func114 (.mk' func114 rfl (by decide)) rfl (A7w N)
def Zk:Bb [tEvent,tEvent] (A3 (Al [A0])):=fun(x Bh:Bwo×UInt8×Int×UInt8×A2 UInt8×A2 Bwo)=>Option.bind (Sj N x.1 Bh.1) fun(y:Int)=>some y
def Anh:Awq prog [W4 N] [] N f130 .lf [tEvent,tEvent] [A0]=Zk N:=by kernel_rfl
open Go.Sort Go.Shelf Go.RowKit Go.Lib
def Apk(N:Nat):Aec (Ajs prog 118 Ag) [.d (.sl Ag)] (A8u Ag 16) [] :=
 Awv (own:=[5,7]) (N:=N) (an:=.lf) mixed func118 rfl (fun y r=>by kernel_rfl) (by kernel_rfl) (fun a cap=>by kernel_rfl)
def A0n:Ft prog:=Bn8 118 Ag [.d (.sl Ag)] (A8u Ag 16) (.mk' func118 rfl (by decide)) (Apk N)
def Fy(N:Nat):Bb [(.sl Ag)] (A3 (Al [(.sl Ag)])):=Aju Ag 16
def Yc:Ft prog:=B3v 118 [(.sl Ag)] [(.sl Ag)] (Fy N) (.mk' func118 rfl (by decide)) (Asx (Apk N))
def Du(x y:Int×Int):Int:=if x.1<y.1 then -1 else if y.1<x.1 then 1 else if x.2<y.2 then -1 else if y.2<x.2 then 1 else 0
theorem Ato(x y:Int×Int):Sj N x y=some (Du x y):=by
 simp only[Sj,Gk,By,I4,Em,Du,cond_eq_ite,Bow]
 grind
def Axz(x y:Int×Int):Mj prog 33 (A7 [.d (Ag.xv x),.d (Ag.xv y)]) X0 (.d (.sc (.int .i64 (Du x y)))) X0 :=
 (Sa (Γ:=[Ex 0,J4 0]) (own:=[]) (N:=0) (an:=.lf) (args:=[Ag,Ag]) (res:=[.int .i64]) mixed func33 rfl) x y _ ((Bun (Bun (Apj 0) x) y).trans (Ato 0 x y))
theorem Q1(x y:Int×Int):ltOf Du x y=decide (x.1<y.1∨x.1=y.1∧x.2<y.2):=by
 unfold ltOf Du
 grind
def T9:SWO (ltOf Du) where
 irrefl x:=by rw[Q1];simp
 trans x y z h1 h2:=by rw[Q1]at *;simp at *;omega
 ntrans x y z h1 h2:=by rw[Q1]at *;simp at *;omega
def A6g(x y:Int×Int)(h1:ltOf Du x y=false)(h2:ltOf Du y x=false):x=y:=by rw[Q1]at *;simp at *;obtain⟨a,b⟩:=x;obtain⟨c,d⟩:=y;simp at *;omega
def B7g:Ag.Plain:=⟨fun x=>rfl⟩
def De(d:A2 (Int×Int)):A2 (Int×Int):=d.mergeSort fun x y=>!(ltOf Du) y x
def B7h:Aoy prog 123 33 Ag De :=
 Anb Tryz.Bf9 (by kernel_rfl) B7g rfl isAgg26 sizeOf26 (.mk' func123 rfl (by decide)) Du T9 A6g (.mk' func33 rfl (by decide)) Axz
def X5(N:Nat):Ft prog:=mkSort B7h
def Agh(x y:Int×Int):Int:=if x.1<y.1 then -1 else if y.1<x.1 then 1 else 0
theorem Bfa(x y:Int×Int):T6 N x y=some (Agh x y):=by
 simp only[T6,By,Em,Agh,cond_eq_ite,Bow]
 grind
def B7i(x y:Int×Int):Mj prog 151 (A7 [.d (B4.xv x),.d (B4.xv y)]) X0 (.d (.sc (.int .i64 (Agh x y)))) X0 :=
 (Sa (Γ:=[Ex 0]) (own:=[]) (N:=0) (an:=.lf) (args:=[B4,B4]) (res:=[.int .i64]) mixed func151 rfl) x y _ ((Bun (Bun (A7v 0) x) y).trans (Bfa 0 x y))
theorem Atp(x y:Int×Int):ltOf Agh x y=decide (x.1<y.1):=by
 unfold ltOf Agh
 grind
def B4o:SWO (ltOf Agh) where
 irrefl x:=by rw[Atp];simp
 trans x y z h1 h2:=by rw[Atp]at *;simp at *;omega
 ntrans x y z h1 h2:=by rw[Atp]at *;simp at *;omega
def B7j:B4.Plain:=⟨fun x=>rfl⟩
def Df(d:Bwx):A2 Bwo:=B76 B4 (ltOf Agh) d
def B7k:Aoy prog 150 151 B4 Df :=
 B1b Tryz.Abt (by kernel_rfl) B7j rfl isAgg149 sizeOf149 (.mk' func150 rfl (by decide)) Agh B4o (.mk' func151 rfl (by decide)) B7i
def X6(N:Nat):Ft prog:=mkSort B7k
def Vh(d:A2 (Int×Int)):(Df d).Perm d∧(Df d).Pairwise (fun x y=>x.1≤y.1):=by obtain⟨h1,h2⟩:=Apc (T:=B4) B4o d;refine⟨h1,h2.imp fun {x y} h=>?_⟩;rw[Atp]at h;simpa using h
def Uj(x y:Int×A2 (Int×Int)):Int:=if x.1<y.1 then -1 else if y.1<x.1 then 1 else 0
theorem Bfb(x y:Int×A2 (Int×Int)):T7 N x y=some (Uj x y):=by
 simp only[T7,Gk,I4,Uj,cond_eq_ite,Bow]
 grind
def B7l(x y:Int×A2 (Int×Int)):Mj prog 114 (A7 [.d (Ak.xv x),.d (Ak.xv y)]) X0 (.d (.sc (.int .i64 (Uj x y)))) X0 :=
 (Sa (Γ:=[J4 0]) (own:=[]) (N:=0) (an:=.lf) (args:=[Ak,Ak]) (res:=[.int .i64]) mixed func114 rfl) x y _ ((Bun (Bun (A7w 0) x) y).trans (Bfb 0 x y))
theorem A6h(x y:Int×A2 (Int×Int)):ltOf Uj x y=decide (x.1<y.1):=by
 unfold ltOf Uj
 grind
def A0o:SWO (ltOf Uj) where
 irrefl x:=by rw[A6h];simp
 trans x y z h1 h2:=by rw[A6h]at *;simp at *;omega
 ntrans x y z h1 h2:=by rw[A6h]at *;simp at *;omega
def Po(d:A2 (Int×A2 (Int×Int))):A2 (Int×A2 (Int×Int)):=Lo Uj d
def A4l(d:A2 (Int×A2 (Int×Int))):Bool:=K8 Uj d
set_option maxHeartbeats 2000000 in
def B1h:Bbv prog Tryz.R9 113 where
 L:=Tryz.Akq
 none:=by
  intro p cap fv w;have L:=Tryz.Akq;have mixed:=L.mixed;have e14:∀args w,(callFunc 152 args).run prog w = .ok (.enter 152 args) w:=L.f14.enters rfl;have e15:∀args w,(callFunc 98 args).run prog w = .ok (.enter 98 args) w:=enters_of L.f15 (by kernel_rfl) rfl;have hp:=fun lim W=>AnyF.pdqsortCmpFunc_none (P:=prog) (ρ:=Tryz.R9) L p cap lim fv W
  have hl:∀W,Calls prog (Tryz.R9.f 15) #[.int .u64 0] W fun e w'=>e = .returned (.int .i64 (Lib.bitLen 0:Nat))∧w'=W:=fun W=>by
   have h:=Any.bits_Len (Bvl (P:=prog) (ρ:=Tryz.R9) { L with }) 0 W (by omega) (by omega);exact h
  change ∀lim W,Calls prog 152 _ W _ at hp;change ∀W,Calls prog 98 _ W _ at hl;have t0:=underlying0;have t3:=underlying3;have a3:=isAgg3;have z3:=sizeOf3;have v3:=zeroValue3;have t39:=underlying143;have a39:=isAgg143;have z39:=sizeOf143;have v39:=zeroValue143;have t22:=underlying35;have a22:=isAgg35;have z22:=sizeOf35;have v22:=zeroValue35
  go_enter func113,ntmps113
  go_wp2_with (first|(go_at_fn (98);refine(hl _).mono ?_;rintro e w' ⟨rfl,rfl⟩)|(go_at_fn (152);refine(hp _ _).mono ?_;rintro e w' ⟨rfl,rfl⟩))
  go_end0
  exact⟨rfl,rfl⟩
 some:=by
  intro p n lim cap q fv w Q hpv hn hl hp;subst hpv;have L:=Tryz.Akq;have mixed:=L.mixed;have e14:∀args w,(callFunc 152 args).run prog w = .ok (.enter 152 args) w:=L.f14.enters rfl;have e15:∀args w,(callFunc 98 args).run prog w = .ok (.enter 98 args) w:=enters_of L.f15 (by kernel_rfl) rfl;change Calls prog 152 _ w _ at hp;change Calls prog 98 _ w _ at hl;have wr:u64.wrap (n:Int)=n:=by simp[IntKind.wrap,IntKind.bits,IntKind.signed];omega
  have t0:=underlying0;have t3:=underlying3;have a3:=isAgg3;have z3:=sizeOf3;have v3:=zeroValue3;have t39:=underlying143;have a39:=isAgg143;have z39:=sizeOf143;have v39:=zeroValue143;have t22:=underlying35;have a22:=isAgg35;have z22:=sizeOf35;have v22:=zeroValue35
  go_enter func113,ntmps113
  go_wp2_with (first|(go_at_fn (98);refine hl.mono ?_;rintro e w' ⟨rfl,rfl⟩)|(go_at_fn (152);refine hp.mono ?_;rintro e w' ⟨rfl,hq⟩))
  go_end0
  exact⟨rfl,hq⟩
def B1i:A96 prog 113 114 Ak Uj A4l Po :=
 Agc (T:=Ak) B1h rfl isAgg109 sizeOf109 (.mk' func113 rfl (by decide)) Uj A0o (.mk' func114 rfl (by decide)) B7l
def X7(N:Nat):Ft prog:=Ath B1i
def Ra(d:A2 (Int×Int)):A2 (Int×Int):=Lo Du d
def A9g(d:A2 (Int×Int)):Bool:=K8 Du d
set_option maxHeartbeats 2000000 in
def B7m:Bbv prog Tryz.Tu 49 where
 L:=Tryz.Atn
 none:=by
  intro p cap fv w;have L:=Tryz.Atn;have mixed:=L.mixed;have e14:∀args w,(callFunc 97 args).run prog w = .ok (.enter 97 args) w:=L.f14.enters rfl;have e15:∀args w,(callFunc 98 args).run prog w = .ok (.enter 98 args) w:=enters_of L.f15 (by kernel_rfl) rfl;have hp:=fun lim W=>AnyF.pdqsortCmpFunc_none (P:=prog) (ρ:=Tryz.Tu) L p cap lim fv W
  have hl:∀W,Calls prog (Tryz.Tu.f 15) #[.int .u64 0] W fun e w'=>e = .returned (.int .i64 (Lib.bitLen 0:Nat))∧w'=W:=fun W=>by
   have h:=Any.bits_Len (Bvl (P:=prog) (ρ:=Tryz.Tu) { L with }) 0 W (by omega) (by omega);exact h
  change ∀lim W,Calls prog 97 _ W _ at hp;change ∀W,Calls prog 98 _ W _ at hl;have t0:=underlying0;have t3:=underlying3;have a3:=isAgg3;have z3:=sizeOf3;have v3:=zeroValue3;have t39:=underlying143;have a39:=isAgg143;have z39:=sizeOf143;have v39:=zeroValue143;have t22:=underlying53;have a22:=isAgg53;have z22:=sizeOf53;have v22:=zeroValue53
  go_enter func49,ntmps49
  go_wp2_with (first|(go_at_fn (98);refine(hl _).mono ?_;rintro e w' ⟨rfl,rfl⟩)|(go_at_fn (97);refine(hp _ _).mono ?_;rintro e w' ⟨rfl,rfl⟩))
  go_end0
  exact⟨rfl,rfl⟩
 some:=by
  intro p n lim cap q fv w Q hpv hn hl hp;subst hpv;have L:=Tryz.Atn;have mixed:=L.mixed;have e14:∀args w,(callFunc 97 args).run prog w = .ok (.enter 97 args) w:=L.f14.enters rfl;have e15:∀args w,(callFunc 98 args).run prog w = .ok (.enter 98 args) w:=enters_of L.f15 (by kernel_rfl) rfl;change Calls prog 97 _ w _ at hp;change Calls prog 98 _ w _ at hl;have wr:u64.wrap (n:Int)=n:=by simp[IntKind.wrap,IntKind.bits,IntKind.signed];omega
  have t0:=underlying0;have t3:=underlying3;have a3:=isAgg3;have z3:=sizeOf3;have v3:=zeroValue3;have t39:=underlying143;have a39:=isAgg143;have z39:=sizeOf143;have v39:=zeroValue143;have t22:=underlying53;have a22:=isAgg53;have z22:=sizeOf53;have v22:=zeroValue53
  go_enter func49,ntmps49
  go_wp2_with (first|(go_at_fn (98);refine hl.mono ?_;rintro e w' ⟨rfl,rfl⟩)|(go_at_fn (97);refine hp.mono ?_;rintro e w' ⟨rfl,hq⟩))
  go_end0
  exact⟨rfl,hq⟩
def B7n:A96 prog 49 33 Ag Du A9g Ra :=
 Agc (T:=Ag) B7m rfl isAgg26 sizeOf26 (.mk' func49 rfl (by decide)) Du T9 (.mk' func33 rfl (by decide)) Axz
def Yd(N:Nat):Ft prog:=Ath B7n
def Cn(x y:(Int×Int)×UInt8×Int×UInt8×A2 UInt8×A2 (Int×Int)):Int:=Du x.1 y.1
def Bfc(x y:(Int×Int)×UInt8×Int×UInt8×A2 UInt8×A2 (Int×Int)):Zk N x y=some (Cn x y):=by simp only[Zk,Ato,Bow];rfl
def B7o(x y:(Int×Int)×UInt8×Int×UInt8×A2 UInt8×A2 (Int×Int)):Mj prog 130 (A7 [.d (tEvent.xv x),.d (tEvent.xv y)]) X0 (.d (.sc (.int .i64 (Cn x y)))) X0 :=
 (Sa (Γ:=[W4 0]) (own:=[]) (N:=0) (an:=.lf) (args:=[tEvent,tEvent]) (res:=[.int .i64]) mixed func130 rfl) x y _ ((Bun (Bun (Anh 0) x) y).trans (Bfc 0 x y))
def K9:SWO (ltOf Cn) where
 irrefl x:=T9.irrefl _
 trans x y z:=T9.trans _ _ _
 ntrans x y z:=T9.ntrans _ _ _
def Hx(d:A2 ((Int×Int)×UInt8×Int×UInt8×A2 UInt8×A2 (Int×Int))):A2 ((Int×Int)×UInt8×Int×UInt8×A2 UInt8×A2 (Int×Int)):=Lo Cn d
def Rb(d:A2 ((Int×Int)×UInt8×Int×UInt8×A2 UInt8×A2 (Int×Int))):Bool:=K8 Cn d
def Ay0:A96 prog 129 130 tEvent Cn Rb Hx :=
 B1c (T:=tEvent) Tryz.B7f (by kernel_rfl) rfl isAgg29 sizeOf29 (.mk' func129 rfl (by decide)) Cn K9 (.mk' func130 rfl (by decide)) B7o
def B2(N:Nat):Ft prog:=Ath Ay0
end Go.Proofs.Xg
