import Derived.Test.YtgoagklpjloboaaGreatDoorZb
import Derived.Test.YtgoagklpjloboaaGreatDoorZa
import Derived.RangeFuncLeaves
import Derived.RangeFuncRecord
import Derived.RangeFuncCalls
import Derived.RangeFuncIn
import Derived.RangeFuncSeq
import Derived.TacticsIn
set_option linter.all false
open Go.IntKind (i64 u64 u16)
noncomputable section
namespace Go.Xl
open Go.Ab
section
variable{P:Program}{R:Type}
def A8k(P:Program)(t:TypeId):A3 (Ty×Ty) :=
 match P.underlying t with
 |some (.map k e)=>match Avq P 9 k,Avq P 9 e with
  |some kt,some vt=>cond (Aiw P k kt) (some (kt,vt)) none
  |_,_=>none
 |_=>none
def A1f(P:Program)(t:TypeId)(kt:Ty):A3 TypeId :=
 match P.underlying t with
 |some (.map k e)=>cond (Aiw P k kt) (some e) none
 |_=>none
variable{t e:TypeId}{kt vt:Ty}
def Wp(h:A1f P t kt=some e):Aw4 P t kt vt e:=by
 unfold A1f at h;split at h
 ·rename_i k e' hu;cases hk:Aiw P k kt with
  |false=>simp[hk]at h
  |true =>simp only[hk,Bov,Bp0]at h;subst h;exact⟨_,hu,Ba5 hk⟩
 ·cases h
variable{k:Nat}
def Zc{objs:A2 (Nat×A9)}{y:A9}(h:lk k objs=some y):(A4 objs).lookup k=some y.o:=by exact Hy h
def zeroV(P:Program)(e:TypeId)(vt:Ty):Option vt.T :=
 match P.info? e with
 |some i=>match i.zero with
  |some zv=>match Ais P e vt with
   |some lz=>cond (A1e zv) (cond vt.agg (some lz.2) none) (cond vt.agg none (some lz.2))
   |none=>none
  |none=>none
 |none=>none
def Aw6{z:vt.T}(h:zeroV P e vt=some z):∃l i zv,Ais P e vt=some (l,z)∧P.info? e=some i∧i.zero=some zv∧A1e zv=vt.agg:=by
 unfold zeroV at h;split at h
 ·rename_i i hi;split at h
  ·rename_i zv hz;split at h
   ·rename_i lz hl;refine⟨lz.1,i,zv,?_,hi,hz,?_⟩
    ·cases ha:A1e zv<;>cases hg:vt.agg<;>simp[ha,hg]at h<;>(subst h;exact hl)
    ·cases ha:A1e zv<;>cases hg:vt.agg<;>simp[ha,hg]at h<;>rfl
   ·cases h
  ·cases h
 ·cases h
def Aj0(P:Program)(st:Af)(o:Oper)(t:TypeId)(r:A3 Operand)(K:Out→A3 R):A3 R :=
 match r with
 |none=>match A8k P t,newName o with
  |some ts,some m=>cond (fresh m st) (K ⟨.new [(m,.map ts.1 ts.2 [] 0)],.nm m .m,[],(m,.map ts.1 ts.2 [] 0)::st.objs,st.live,[m],[m]⟩) none
  |_,_=>none
 |some _=>none
variable{y x:Operand}{o:Oper}{st:Af}{r a c b since last clock m:Nat}
def Aw7{rs:A3 Operand}{K:Out→A3 R}{r:R}(ho:o.op = .makeMap t rs)(h:Aj0 P st o t rs K=some r):∃out,K out=some r∧Bp P o st out:=by
 unfold Aj0 at h;split at h
 ·split at h
  ·rename_i ts m hm hn;cases hf:fresh m st with
   |false=>simp[hf]at h
   |true =>
    simp only[hf,Bov]at h;obtain⟨h1,h2⟩:=Tg hf;refine⟨_,h,⟨by simp[Ay],?_,fun j z hj hz=>?_⟩⟩
    ·exact⟨⟨rfl,rfl⟩,B0d (kt:=ts.1) (vt:=ts.2) m ho (Th h1) h2⟩
    ·rw[Dz (by simpa using hj)]at hz;exact hz
  ·cases h
 ·cases h
def Ba7{vt:Ty}(ok:Bool)(x:Option vt.T)(z:vt.T):XV:=cond ok (.F2 [.d (vt.xv (x.getD z)),.d (.b x.isSome)]) (.d (vt.xv (x.getD z)))
def B3b(ok:Bool)(x:Option vt.T)(z:vt.T):(Ba7 ok x z).a=Art ok x z:=by cases ok<;>cases x<;>rfl
variable{ok:Bool}
def An0{X:A5}{a:kt.T}{l:A2 Value}{z:vt.T}{i:TypeInfo}{zv:Value}(ho:o.op = .lookup t x y ok)(hm:Aw4 P t kt vt e)
  (hz:Ais P e vt=some (l,z)) (hi:P.info? e=some i) (hzv:i.zero=some zv) (hg:A1e zv=vt.agg) :
  Bi P o [(x,.d (.sc (.map none))),(y,.d (kt.dv a))] X X [] (Art ok (none:Option vt.T) z) :=
 .quiet fun _ _ g w ac hr Au=>by
  obtain⟨kty,hu,hK⟩:=hm.und;have h1:=(Is Au).Ap;have h2:ac.eval y=kt.Eh a:=by
   have:=Y4 Au;cases this with
   |d _ _ h=>exact kt.A3t hK.key h
  simp only at h1;have hf:=hK.find a w [] [] rfl;have hc:=hK.check true 9998 a w;simp only[K5,Bti]at hf;refine⟨if ok then .tuple #[zv,.bool false]else zv,?_,A8j (B3a hz hi hzv hg)⟩;simp[execOp,ho,h1,h2,Instr.lookup,Bq5,Bpb hu,Bpr,Bsm,hc,hf,zeroValue,typeInfo,hi,hzv]
def Arw(P:Program)(st:Af)(t:TypeId)(x y:Operand)(ok:Bool)(K:Out→A3 R):A3 R :=
 match Av st x with
 |some (.nm k .m)=>match lk k st.objs with
  |some (.map kt vt es c)=>match A1f P t kt,xd st y with
   |some e,some a=>match kt.A87 a,zeroV P e vt with
    |some a,some z=>K ⟨.look [k],Ba7 ok (Ml a es) z,[(x,.nm k .m),(y,.d (kt.xv a))],st.objs,st.live,[],[]⟩
    |_,_=>none
   |_,_=>none
  |_=>none
 |some (.d (.v (.map none)))=>match A8k P t,xd st y with
  |some ts,some a=>match A1f P t ts.1 with
   |some e=>match ts.1.A87 a,zeroV P e ts.2 with
    |some a,some z=>K (B0 st (Ba7 ok none z) [(x,.d (.v (.map none))),(y,.d (ts.1.xv a))])
    |_,_=>none
   |none=>none
  |_,_=>none
 |_=>none
def A02{x:XD}{a:kt.T}(h:xd st y=some x)(hd:kt.A87 x=some a):Dx st.im y (.d (kt.dv a)):=Aar h (kt.Nq hd)
def B0f{K:Out→A3 R}{r:R}(ho:o.op = .lookup t x y ok)(h:Arw P st t x y ok K=some r):∃out,K out=some r∧Bp P o st out:=by
 unfold Arw at h;split at h
 ·rename_i k hx;split at h
  ·rename_i kt vt es c hk;split at h
   ·rename_i e a0 hm hy;split at h
    ·rename_i a z ha hz;obtain⟨l,i,zv,z1,z2,z3,z4⟩:=Aw6 hz;refine⟨_,h,⟨?_,⟨rfl,rfl,rfl,fun X hX=>?_⟩,fun _ _ _ h=>h⟩⟩
     ·intro p hp;simp only[Ay,Bp3,Bpz,Boz,Bpt,Bqy]at hp;rcases hp with rfl|rfl
      ·exact Aj hx
      ·exact A02 hy ha
     ·have:=B6f (P:=P) (X:=X) (k:=k) (es:=es) (clock:=c) (a:=a) ho (Wp hm) z1 z2 z3 z4 ((hX k (by simp)).trans (Zc hk));rw[B3b];exact this
    ·cases h
   ·cases h
  ·cases h
 ·rename_i hx;split at h
  ·rename_i ts a0 hm hy;split at h
   ·rename_i e he;split at h
    ·rename_i a z ha hz;obtain⟨l,i,zv,z1,z2,z3,z4⟩:=Aw6 hz;refine⟨_,h,Aa ?_ fun X=>?_⟩
     ·intro p hp;simp only[Ay,Bp3,Bpz,Boz,Bpt,Bqy]at hp;rcases hp with rfl|rfl
      ·exact Aj hx
      ·exact A02 hy ha
     ·rw[B3b];exact An0 (a:=a) ho (Wp he) z1 z2 z3 z4
    ·cases h
   ·cases h
  ·cases h
 ·cases h
def A1g(P:Program)(st:Af)(t:TypeId)(x y u:Operand)(K:Out→A3 R):A3 R :=
 match Av st x with
 |some (.nm k .m)=>match lk k st.objs with
  |some (.map kt vt es c)=>match A1f P t kt,xd st y,xd st u with
   |some e,some a,some v=>match kt.A87 a,vt.A87 v with
    |some a,some v=>K ⟨.put k (.map kt vt (Mm a v c es) (Rt a es c)),.d (.v undef),[(x,.nm k .m),(y,.d (kt.xv a)),(u,.d (vt.xv v))],Lg k (.map kt vt (Mm a v c es) (Rt a es c)) st.objs,st.live,[],[k]⟩
    |_,_=>none
   |_,_,_=>none
  |_=>none
 |_=>none
def A7o{u:Operand}{K:Out→A3 R}{r:R}(ho:o.op = .mapUpdate t x y u∨o.op = .insert t x y u)(h:A1g P st t x y u K=some r):∃out,K out=some r∧Bp P o st out:=by
 unfold A1g at h;split at h
 ·rename_i k hx;split at h
  ·rename_i kt vt es c hk;split at h
   ·rename_i e a0 v0 hm hy hu;split at h
    ·rename_i a v ha hv;refine⟨_,h,⟨?_,⟨⟨K4 hk rfl rfl,rfl⟩,rfl,rfl,fun X hX=>?_⟩,fun j z hj hz=>?_⟩⟩
     ·intro p hp;simp only[Ay,Bp3,Bpz,Boz,Bpt,Bqy]at hp;rcases hp with rfl|rfl|rfl
      ·exact Aj hx
      ·exact A02 hy ha
      ·exact A02 hu hv
     ·exact Aru (P:=P) (X:=X) (k:=k) (es:=es) (clock:=c) (a:=a) (v:=v) ho (Wp (vt:=vt) hm) (hX.trans (Zc hk))
     ·simp only[Boz,Bpt,Bqy]at hj
      rwa [Nu _ _ _ _ hj]at hz
    ·cases h
   ·cases h
  ·cases h
 ·cases h
def Bi5:XV→Bool
 |.nm _ .m=>true
 |.d (.v (.map none))=>true
 |_=>false
def Arx(P:Program)(st:Af)(ts:Array TypeId)(x:Operand)(K:Out→A3 R):A3 R :=
 match ts[0]? with
 |some t=>match Av st x with
  |some (.nm k .m)=>match lk k st.objs with
   |some (.map kt vt es c)=>match A1f P t kt with
    |some e=>K ⟨.look [k],.d (.i .i64 es.length),[(x,.nm k .m)],st.objs,st.live,[],[]⟩
    |none=>none
   |_=>none
  |some (.d (.v (.map none)))=>match A8k P t with
   |some ks=>K (B0 st (.d (.i .i64 0)) [(x,.d (.v (.map none)))])
   |none=>none
  |_=>none
 |none=>none
def Aj1{ks:Ty×Ty}(h:A8k P t=some ks):∃k e,P.underlying t=some (.map k e):=by
 unfold A8k at h;split at h
 ·rename_i k e hu;exact⟨k,e,hu⟩
 ·cases h
def B0g{ts:Array TypeId}{K:Out→A3 R}{r:R}(ho:o.op = .call { callee:=.builtin .len,args:=#[x],argTypes:=ts })(h:Arx P st ts x K=some r):∃out,K out=some r∧Bp P o st out:=by
 unfold Arx at h;split at h
 ·rename_i t h0;split at h
  ·rename_i k hx;split at h
   ·rename_i kt vt es c hk;split at h
    ·rename_i e hm;refine⟨_,h,⟨Cy hx,⟨rfl,rfl,rfl,fun X hX=>?_⟩,fun _ _ _ h=>h⟩⟩;exact B0e (P:=P) (X:=X) (k:=k) (es:=es) (clock:=c) ho h0 (Wp (vt:=vt) hm) ((hX k (by simp)).trans (Zc hk))
    ·cases h
   ·cases h
  ·rename_i hx;split at h
   ·rename_i ks hm;obtain⟨kk,e,hu⟩:=Aj1 hm;refine⟨_,h,Aa (Cy hx) fun X=>?_⟩;refine .quiet fun _ _ g w ac hr Au=>?_
    have h1:=(Is Au).Ap;simp only at h1;refine⟨.int .i64 0,?_,.H4 _ _ _⟩;simp[execOp,ho,resolve,invoke,builtin,Builtin.len_,h0,h1,Bpb hu,goInt]
   ·cases h
  ·cases h
 ·cases h
def Adw(P:Program)(st:Af)(o:Oper)(t:TypeId)(x:Operand)(K:Out→A3 R):A3 R :=
 match Av st x,newName o with
 |some (.nm k .m),some m=>match lk k st.objs with
  |some (.map kt vt es c)=>match A1f P t kt with
   |some e=>cond (Nat.beq k m) none (cond (fresh m st) (K ⟨.all,.nm m (.p 0),[(x,.nm k .m)],(m,.Jo k c [] c)::st.objs,st.live,[m],[m]⟩) none)
   |none=>none
  |_=>none
 |some (.d (.v (.map none))),some m=>match A8k P t with
  |some ks=>cond (fresh m st) (K ⟨.all,.nm m (.p 0),[(x,.d (.v (.map none)))],(m,.Dl)::st.objs,st.live,[m],[m]⟩) none
  |none=>none
 |_,_=>none
def Ary{K:Out→A3 R}{r:R}(ho:o.op = .range t x)(h:Adw P st o t x K=some r):∃out,K out=some r∧Bp P o st out:=by
 unfold Adw at h;split at h
 ·rename_i k m hx hm;split at h
  ·rename_i kt vt es c hk;split at h
   ·rename_i e he;cases hne:Nat.beq k m with
    |true=>simp[hne]at h
    |false =>
    cases hf:fresh m st with
    |false=>simp[hne,hf]at h
    |true =>
     simp only[hne,hf,Bov,Box]at h;obtain⟨h1,h2⟩:=Tg hf;refine⟨_,h,⟨Cy hx,?_,fun j z hj hz=>?_⟩⟩
     ·exact Arv (P:=P) (X:=st.X) (k:=k) (m:=m) (es:=es) (clock:=c) ho (Wp (vt:=vt) he) (Zc hk) (Th h1) h2 (Brd hne)
     ·rw[Dz (by simpa using hj)]at hz;exact hz
   ·cases h
  ·cases h
 ·rename_i m hx hm;split at h
  ·rename_i ks hks;cases hf:fresh m st with
   |false=>simp[hf]at h
   |true =>
    simp only[hf,Bov]at h;obtain⟨h1,h2⟩:=Tg hf;obtain⟨kk,e,hu⟩:=Aj1 hks;refine⟨_,h,⟨Cy hx,?_,fun j z hj hz=>?_⟩⟩
    ·intro nm Ej B g w ac hr Au next Q hn
     have e1:=(Is Au).Ap;simp only at e1;obtain⟨r1,r2⟩:=hr.newObj (Th h1) h2 (.mapIter none 0 #[] 0) .Dl (by
      intro g' w' _ hw;exact .Dl hw)
     unfold Oper.wp;have:(execOp ac.eval o).run P w = .ok (.value (.pointer (some ⟨w.heap.size,0,none⟩))) (w.alloc (.mapIter none 0 #[] 0)):=by simp only[execOp,ho,e1];simp[Instr.range,Bpb hu]
     rw[this];refine hn _ _ _ r1 r2 ?_;show RA _ _ (.ptr m 0) _;have:=RA.ptr (g:={ g with ρ:=O6 g.ρ m w.heap.size }) (w:=w.alloc (.mapIter none 0 #[] 0)) m 0;simpa[Ac]using this
    ·rw[Dz (by simpa using hj)]at hz;exact hz
  ·cases h
 ·cases h
def Wq{α R:Type}(l:A2 α)(z:A3 R)(f:α→A3 R):A3 R :=
 open Classical in if l = [] then z else if h : ∃ r, ∀ x ∈ l, f x = some r then some h.choose else none
def Vx{α R:Type}(z:A3 R)(f:α→A3 R):Wq [] z f=z:=by simp[Wq]
def A8l{α R:Type}{l:A2 α}{z:A3 R}{f:α→A3 R}{r:R}(h:Wq l z f=some r):(l=[]∧z=some r)∨(l≠[]∧∀x∈l,f x=some r):=by
 unfold Wq at h;split at h
 ·rename_i hl;exact .inl ⟨hl,h⟩
 ·rename_i hl;split at h
  ·rename_i hx;right;refine⟨hl,?_⟩;have:=hx.choose_spec;cases h;exact this
  ·cases h
def A03{α R:Type}{l:A2 α}{z:A3 R}{f:α→A3 R}{r:R}(hl:l≠[])(h:∀x∈l,f x=some r):Wq l z f=some r:=by unfold Wq;rw[Bpp hl];have hx:∃r,∀x∈l,f x=some r:=⟨r,h⟩;rw[dif_pos hx];obtain⟨a,ha⟩:=Bua l hl;have h1:=hx.choose_spec a ha;rw[h a ha]at h1;exact h1.symm
def OpD(P:Program)(o:Oper)(rd:A2 (Operand×AV))(X:A5)(outs:A2 (AV×A5)):Prop :=
 ∀(nm:A2 Nat),(∀j∈nm,j<1000)→∀(B:B8) (g:Gh) (w:World) (a:Act),HR nm B g w X→(∀p∈rd,RA g w p.2 (a.eval p.1)) →
  ∀(next:Act→World→Prop) (Q:Exit→Act→World→Prop),
   (∀p∈outs,∀g' w' v,HR nm B g' w' p.2→Trans [] g w g' w'→RA g' w' p.1 v→next (a.put o.dst v) w')→o.wp P a w next Q
def Rw.Wq{S:Sig}{ops:Array Oper}{i:Nat}{Boq:A2 Nat}{st:St}{K:St→Prop}{rd:A2 (Operand×AV)}{outs:A2 (AV×A5)}(ho:ops[i]? = some o)(hg:Guard ops st o.guard true)(ht:OpD P o rd st.X outs)(hs:Ks st rd)(hd:Jl S.N o.dst=true)
  (h:∀p∈outs,Rw P S ops Boq ⟨Dm o.dst p.1 st.env,p.2⟩ K):Rw P S ops (i::Boq) st K:=by
 intro B g w a Q hsr hq;unfold wpOps;simp only[ho,hg.wanted hsr,Brg];refine .inl (ht S.names S.small B g w a hsr.hr (fun p hp=>(hs.all p hp).ra hsr) _ Q ?_);intro p hp g' w' v hX htr hv;exact h p hp B g' w' _ Q (hsr.put htr rfl hX hd hv) hq
def Cb{α:Type}(seen:A2 Nat)(es:A2 (Nat×α)):A2 (Nat×α):=es.filter fun e=>!seen.contains e.1
def A6w{α:Type}(since last:Nat)(es:A2 (Nat×α)):Bool:=es.all fun e=>decide (e.1<since)&&decide (e.1<last)
section
variable{o:Oper}{X:A5}{kt vt:Ty}
variable{w:World}{s:Array Nat}{g:Gh}
def R1{x:A3 Nat}(hr:w.heap[r]? = some (.mapIter x a s c)):(getObj r).run P w = .ok (.mapIter x a s c) w:=by simp[getObj,Sem.run,hr]
def A3u{x:A3 Nat}(hr:w.heap[r]? = some (.mapIter x a s c))(o':Obj):(setObj r o').run P w = .ok () { w with heap:=w.heap.setIfInBounds r o' }:=by simp[setObj,Sem.run,hr]
def Adx{seen:Array Nat}(h:Bv g w b (.Jo k since seen last)):w.heap[b]? = some (.mapIter (some (g.ρ k)) since seen last):=by
 cases h with
 |Jo _ _ _ _ h=>exact h
def Aof{es:G0 kt vt}{C2:Array MapEntry}{seen:A2 Nat}(hw:Agx kt vt g w b es clock C2)(hold:A6w since last es=true) :
  (C2.filter fun e=>!(seen.toArray.contains e.born)).size=(Cb seen es).length ∧
  (∀(i:Nat) x e,(Cb seen es)[i]? = some x→(C2.filter fun e=>!(seen.toArray.contains e.born))[i]? = some e→e.born=x.1∧e.key=kt.Eh x.2.1∧RD g.γ w (vt.dv x.2.2) e.val) ∧
  (∀e∈C2,e.born<since∧e.born<last):=by
 have hb:∀e∈C2.toList,∃x∈es,e.born=x.1∧e.key=kt.Eh x.2.1∧RD g.γ w (vt.dv x.2.2) e.val:=by
  intro e he;obtain⟨i,hi⟩:=Br9.1 he;have Bg:i<es.length:=by have:=(Bp2.1 hi).1;rw[hw.len];simpa using this
  exact⟨es[i],Bqi Bg,hw.at' i es[i] e (by simp[Bg]) (by simpa using hi)⟩
 have hall:∀e∈C2,e.born<since∧e.born<last:=by intro e he;obtain⟨x,hx,h1,_⟩:=hb e (by simpa using he);have:=Bqb.1 hold x hx;simp only[Bq4,Bsf]at this;rw[h1];exact this
 have B34:∀(l:A2 MapEntry) (m:A2 (Nat×kt.T×vt.T)),l.length=m.length→(∀(i:Nat) x e,m[i]? = some x→l[i]? = some e→e.born=x.1∧e.key=kt.Eh x.2.1∧RD g.γ w (vt.dv x.2.2) e.val) →
   (l.filter fun e=>!(seen.toArray.contains e.born)).length=(Cb seen m).length ∧
   ∀(i:Nat) x e,(Cb seen m)[i]? = some x→(l.filter fun e=>!(seen.toArray.contains e.born))[i]? = some e→e.born=x.1∧e.key=kt.Eh x.2.1∧RD g.γ w (vt.dv x.2.2) e.val:=by
  intro l;induction l with
  |nil =>
   intro m hm _;cases m with
   |nil=>exact⟨rfl,by simp[Cb]⟩
   |cons _ _=>simp at hm
  |cons e l ih =>
   intro m hm hr;cases m with
   |nil=>simp at hm
   |cons x m =>
    obtain⟨i1,i2⟩:=ih m (by simpa using hm) (fun i y q h1 h2=>hr (i+1) y q (by simpa using h1) (by simpa using h2));have h0:=hr 0 x e rfl rfl;have hc:seen.toArray.contains e.born=seen.contains x.1:=by rw[h0.1];simp
    unfold Cb;rw[Br4,Br4,hc];cases seen.contains x.1 with
    |true=>simpa[Cb]using And.intro i1 i2
    |false =>
     simp only[Brm,Brg,Bpk];refine⟨by simpa[Cb]using i1,?_⟩;intro i y q h1 h2;cases i with
     |zero=>simp at h1 h2;subst h1;subst h2;exact h0
     |succ i=>exact i2 i y q (by simpa[Cb]using h1) (by simpa using h2)
 obtain⟨p1,p2⟩:=B34 C2.toList es (by simpa using hw.len.symm) (fun i x e hx he=>hw.at' i x e hx (by simpa using he));refine⟨?_,?_,hall⟩
 ·rw[← p1,← Brk,Array.toList_filter]
 ·intro i x e hx he;refine p2 i x e hx ?_;rw[← Br7,Array.toList_filter]at he;exact he
def Aw8{seen:A2 Nat}{es:G0 kt vt}(ho:o.op = .next x false)(S8:kt.key=true)(hm:X.objs.lookup m=some (.Jo k since seen.toArray last))(hk:X.objs.lookup k=some (A6v kt vt es clock))
  (hold:A6w since last es=true) (hne:Cb seen es≠[]) :
  OpD P o [(x,.ptr m 0)] X ((Cb seen es).map fun e=>(.F2 [.d (.sc (.bool true)),.d (kt.dv e.2.1),.d (vt.dv e.2.2)],⟨Ab.setObj m (.Jo k since (seen++[e.1]).toArray clock) X.objs,X.live⟩)):=by
 intro nm Ej B g w ac hr Au next Q hn
 have e1:=(Is Au).Ko;simp only at e1;have hb:=Adx (hr.objs m _ hm);obtain⟨C2,hw⟩:=A1d S8 (hr.objs k _ hk);obtain⟨f1,f2,f3⟩:=Aof (seen:=seen) hw hold;have Pt:=R1 (P:=P) hb;have Ba8:=Bry (P:=P) hw.heap;have Zt:=A3u (P:=P) hb;have Bg:g.ρ m<w.heap.size:=(Bpo.1 hb).1;obtain⟨L,hL⟩:∃L,L=C2.filter fun e=>!(seen.toArray.contains e.born):=⟨_,rfl⟩
 rw[← hL]at f1 f2;have Aw9:0<L.size:=by rw[f1];exact Bsp.2 hne
 have Bkk:L.filter (fun e=>decide (e.born<since))=L:=by rw[Array.filter_eq_self];intro e he;rw[hL]at he;exact Bp7 (f3 e (Array.mem_filter.1 he).1).1
 have Bkl:L.filter (fun e=>decide (e.born≥since))=#[]:=by rw[Array.filter_eq_empty_iff];intro e he;rw[hL]at he;have:=(f3 e (Array.mem_filter.1 he).1).1;simp;omega
 have Bi6:(!seen.toArray.isEmpty && !C2.isEmpty&&C2.all fun e=>decide (e.born≥last))=false:=by
  cases hae:C2.isEmpty with
  |true=>simp
  |false =>
   have A35:0<C2.size:=by
    cases hs:C2.size with
    |zero =>have:C2=#[]:=Bqm hs;subst this;simp at hae
    |succ n=>omega
   have:(C2.all fun e=>decide (e.born≥last))=false:=by rw[Bsz];intro h;have h2:=Array.all_eq_true.1 h 0 A35;have h3:=(f3 C2[0] (Bvi A35)).2;simp at h2;omega
   rw[this];simp
 have pick:∀(j:Nat) (hj:j<L.size) (w1:World),(HR nm B g w1 X∧Trans [] g w g w1∧w1.heap=w.heap)→
   ∀(Cg:(execOp ac.eval o).run P w = .ok (.value (.tuple #[.bool true,L[j].key,L[j].val])) { w1 with heap:=w1.heap.setIfInBounds (g.ρ m) (.mapIter (some (g.ρ k)) since (seen.toArray.push L[j].born) clock) }),Oper.upon P o ac next Q ((execOp ac.eval o).run P w):=by
  intro j hj w1 ⟨hr1,ht1,hh⟩ Cg;have hju:j<(Cb seen es).length:=by rw[← f1];exact hj
  obtain⟨q1,q2,q3⟩:=f2 j (Cb seen es)[j] L[j] (by simp[hju]) (by simp[hj]);have hb1:w1.heap[g.ρ m]? = some (.mapIter (some (g.ρ k)) since seen.toArray last):=by rw[hh];exact hb
  obtain⟨r1,r2⟩:=hr1.write (w':={ w1 with heap:=w1.heap.setIfInBounds (g.ρ m) (.mapIter (some (g.ρ k)) since (seen.toArray.push L[j].born) clock) }) (o':=.Jo k since (seen++[(Cb seen es)[j].1]).toArray clock) hm (by simp) ⟨rfl,rfl,rfl,Bpa _⟩
   (by intro b Fp;simp[Brl Fp]) (fun _=>.Jo _ _ _ _ (by simp[hh,Bg,q1])) (by
    intro sh hsh;simp[World.shape?,hb1]at hsh)
  rw[Cg];refine hn _ (Bpe (f:=fun e:Nat×kt.T×vt.T=>((.F2 [.d (.sc (.bool true)),.d (kt.dv e.2.1),.d (vt.dv e.2.2)],⟨Ab.setObj m (.Jo k since (seen++[e.1]).toArray clock) X.objs,X.live⟩):AV×A5)) (Bqi hju)) g _ _ r1 (ht1.trans r2) ?_;have hle:=(ht1.trans r2).le;refine .F2 _ _ rfl fun i c u hc hu=>?_
  rcases i with _|_|_|i
  ·simp at hc hu;subst hc;subst hu;exact .H4 _ _ _
  ·simp at hc hu;subst hc;subst hu;refine .d _ _ ?_;rw[q2];exact kt.B39 _ S8
  ·simp at hc hu;subst hc;subst hu;exact .d _ _ (q3.mono hle)
  ·simp at hc
 have Mr:∀(j:Nat) (hj:j<L.size),((#[]:Array (A3 MapEntry))++(L++#[]).map some)[j]? = some (some L[j]):=by intro j hj;simp[hj]
 have Bmr:L.isEmpty=false:=by
  cases h:L.isEmpty with
  |false=>rfl
  |true =>
   have:L=#[]:=by simpa using h
   rw[this]at Aw9;simp at Aw9
 unfold Oper.wp;have Bgm:∀(w1:World) (j:Nat) (hj:j<L.size),w1.heap=w.heap→(choose (.mapNext L.size)).run P w = .ok j w1 →
   (execOp ac.eval o).run P w = .ok (.value (.tuple #[.bool true,L[j].key,L[j].val])) { w1 with heap:=w1.heap.setIfInBounds (g.ρ m) (.mapIter (some (g.ρ k)) since (seen.toArray.push L[j].born) clock) }:=by
  intro w1 j hj hh hch;have Bkm:=A3u (P:=P) (w:=w1) (r:=g.ρ m) (by rw[hh];exact hb);simp only[execOp,ho,e1,Instr.next,Bq5,Pt,Ba8,Bpr,Bi6,← hL,Bkk,Bkl,Bmr,Bqs,Bre,Bsm];have Hc:((#[]:Array (A3 MapEntry))++(L++#[]).map some).size=L.size:=by simp
  rw[Hc,hch];simp only[Bpr,Mr j hj,Bq5,Bkm,Bsm]
 have hch:=run_choose_drew P w (.mapNext L.size);by_cases hf:(Question.mapNext L.size).forced=true
 ·rw[Bq6 hf]at hch;exact pick 0 Aw9 w ⟨hr,.refl _ _ _,rfl⟩ (Bgm w 0 Aw9 rfl hch)
 ·rw[Bpp hf]at hch;have hj:(Question.mapNext L.size).cut (w.tape w.drawn (.mapNext L.size))<L.size:=Btz _ Aw9;obtain⟨d1,d2⟩:=hr.drew;exact pick _ hj w.drew ⟨d1,d2,rfl⟩ (Bgm w.drew _ hj rfl hch)
def Arz{seen:A2 Nat}{es:G0 kt vt}(ho:o.op = .next x false)(S8:kt.key=true)(hm:X.objs.lookup m=some (.Jo k since seen.toArray last))(hk:X.objs.lookup k=some (A6v kt vt es clock))
  (hold:A6w since last es=true) (hne:Cb seen es=[]):Bi P o [(x,.ptr m 0)] X X [] (.F2 [.d (.sc (.bool false))]) :=
 .quiet fun _ _ g w ac hr Au=>by
  have e1:=(Is Au).Ko;simp only at e1;have hb:=Adx (hr.objs m _ hm);obtain⟨C2,hw⟩:=A1d S8 (hr.objs k _ hk);obtain⟨f1,f2,f3⟩:=Aof (seen:=seen) hw hold;have Pt:=R1 (P:=P) hb;have Ba8:=Bry (P:=P) hw.heap;have hL:(C2.filter fun e=>!(seen.toArray.contains e.born))=#[]:=Bqm (by rw[f1,hne];rfl);have Bi6:(!seen.toArray.isEmpty && !C2.isEmpty&&C2.all fun e=>decide (e.born≥last))=false:=by
   cases hae:C2.isEmpty with
   |true=>simp
   |false =>
    have A35:0<C2.size:=by
     cases hs:C2.size with
     |zero =>have:C2=#[]:=Bqm hs;subst this;simp at hae
     |succ n=>omega
    have:(C2.all fun e=>decide (e.born≥last))=false:=by rw[Bsz];intro h;have h2:=Array.all_eq_true.1 h 0 A35;have h3:=(f3 C2[0] (Bvi A35)).2;simp at h2;omega
    rw[this];simp
  refine⟨.tuple #[.bool false],?_,?_⟩
  ·simp only[execOp,ho,e1,Instr.next,Bq5,Pt,Ba8,Bpr,Bi6,hL,Bqs,Bre,Bsm];have hch:=run_choose_drew P w (.mapNext 1);rw[Bq6 (by rfl)]at hch;simp[Question.forced]
  ·refine .F2 _ _ rfl fun i c u hc hu=>?_
   rcases i with _|i
   ·simp at hc hu;subst hc;subst hu;exact .H4 _ _ _
   ·simp at hc
def Awa(ho:o.op = .next x false)(hm:X.objs.lookup m=some .Dl):Bi P o [(x,.ptr m 0)] X X [] (.F2 [.d (.sc (.bool false))]) :=
 .quiet fun _ _ g w ac hr Au=>by
  have e1:=(Is Au).Ko;simp only at e1;have hb:w.heap[g.ρ m]? = some (.mapIter none 0 #[] 0):=by
   cases hr.objs m _ hm with
   |Dl h=>exact h
  have Pt:=R1 (P:=P) hb;refine⟨.tuple #[.bool false],?_,?_⟩
  ·simp only[execOp,ho,e1,Instr.next,Bq5,Pt,Bpr,Bsm]
  ·refine .F2 _ _ rfl fun i c u hc hu=>?_
   rcases i with _|i
   ·simp at hc hu;subst hc;subst hu;exact .H4 _ _ _
   ·simp at hc
end
def Afn(st:Af)(x:Operand)(m k since clock:Nat)(seen:A2 Nat)(kt vt:Ty)(e:Nat×kt.T×vt.T):Out :=
 ⟨.all,.F2 [.d (.b true),.d (kt.xv e.2.1),.d (vt.xv e.2.2)],[(x,.nm m (.p 0))],Lg m (.Jo k since (seen++[e.1]) clock) st.objs,st.live,[],[m]⟩
def B0h(st:Af)(x:Operand)(K:Out→A3 R):A3 R :=
 match Av st x with
 |some (.nm m (.p 0))=>match lk m st.objs with
  |some (.Jo k since seen last)=>match lk k st.objs with
   |some (.map kt vt es clock)=>cond kt.key (cond (A6w since last es)
     (Wq (Cb seen es) (K ⟨.look [m,k],.F2 [.d (.b false)],[(x,.nm m (.p 0))],st.objs,st.live,[],[]⟩) fun e=>K (Afn st x m k since clock seen kt vt e)) none) none
   |_=>none
  |some .Dl=>K ⟨.look [m],.F2 [.d (.b false)],[(x,.nm m (.p 0))],st.objs,st.live,[],[]⟩
  |_=>none
 |_=>none
structure Bgn(P:Program)(o:Oper)(st:Af)(rd:List (Operand×XV))(outs:List Out):Prop where
 Rr:∀p∈Ay rd,Dx st.im p.1 p.2
 F:∀out∈outs,out.F=[]
 op:OpD P o (Ay rd) st.X (outs.map fun out=>(out.res.a,out.X))
 ol:∀out∈outs,∀k x,k∉out.ol→lk k out.objs=some x→lk k st.objs=some x
def B6g{K:Out→A3 R}{r:R}(ho:o.op = .next x false)(h:B0h st x K=some r):(∃out,K out=some r∧Bp P o st out)∨∃rd outs,(∀out∈outs,K out=some r)∧Bgn P o st rd outs:=by
 unfold B0h at h;split at h
 ·rename_i m hx;split at h
  ·rename_i k since seen last hm;split at h
   ·rename_i kt vt es clock hk;cases S8:kt.key with
    |false=>simp[S8]at h
    |true =>
    cases hold:A6w since last es with
    |false=>simp[S8,hold]at h
    |true =>
     simp only[S8,hold,Bov]at h;have Uc:st.X.objs.lookup m=some (.Jo k since seen.toArray last):=Zc hm;have Lb:st.X.objs.lookup k=some (A6v kt vt es clock):=Zc hk;rcases A8l h with ⟨hl,hz⟩|⟨hl,hf⟩
     ·left;refine⟨_,hz,⟨Cy hx,⟨rfl,rfl,rfl,fun X hX=>?_⟩,fun _ _ _ h=>h⟩⟩;exact Arz ho S8 ((hX m (by simp)).trans Uc) ((hX k (by simp)).trans Lb) hold hl
     ·right;refine⟨[(x,.nm m (.p 0))],(Cb seen es).map (Afn st x m k since clock seen kt vt),?_,⟨Cy hx,?_,?_,?_⟩⟩
      ·intro out Agv;obtain⟨e,he,rfl⟩:=Bpc.1 Agv;exact hf e he
      ·intro out Agv;obtain⟨e,he,rfl⟩:=Bpc.1 Agv;rfl
      ·have:=Aw8 (P:=P) ho S8 Uc Lb hold hl;rw[Brv];have e2:(fun e:Nat×kt.T×vt.T=>(((Afn st x m k since clock seen kt vt e).res.a,(Afn st x m k since clock seen kt vt e).X):AV×A5))=fun e=>(.F2 [.d (.sc (.bool true)),.d (kt.dv e.2.1),.d (vt.dv e.2.2)],⟨Ab.setObj m (.Jo k since (seen++[e.1]).toArray clock) st.X.objs,st.X.live⟩):=by funext e;have hp:Yl m (.Jo k since (seen++[e.1]) clock) st.objs=true:=K4 hm rfl rfl;simp only[Afn,Out.X,V8 hp];rfl
       show OpD P o _ st.X ((Cb seen es).map fun e=>((Afn st x m k since clock seen kt vt e).res.a,(Afn st x m k since clock seen kt vt e).X));rw[e2];exact this
      ·intro out Agv j z hj hz;obtain⟨e,he,rfl⟩:=Bpc.1 Agv;simp only[Afn,Boz,Bpt,Bqy]at hj hz
       rwa [Nu _ _ _ _ hj]at hz
   ·cases h
  ·rename_i hm;left;refine⟨_,h,⟨Cy hx,⟨rfl,rfl,rfl,fun X hX=>?_⟩,fun _ _ _ h=>h⟩⟩;exact Awa ho ((hX m (by simp)).trans (Zc hm))
  ·cases h
 ·cases h
end
noncomputable abbrev Awb(kt vt:Ty):Type:=Nat×kt.T×Bool×List vt.T
noncomputable abbrev K6(kt vt:Ty):Type:=A2 (Awb kt vt)
def Rz{kt vt:Ty}(es:K6 kt vt):G0 kt (.sl vt):=es.map fun e=>(e.1,e.2.1,e.2.2.2)
def A04{kt vt:Ty}(a:kt.T):K6 kt vt→A3 (Nat×Bool×List vt.T)
 |[]=>none
 |e::r=>bif kt.eqv a e.2.1 then some (e.1,e.2.2)else A04 a r
def Kf{kt vt:Ty}(a:kt.T)(v:List vt.T)(f:Bool)(clock:Nat):K6 kt vt→K6 kt vt
 |[]=>[(clock,a,f,v)]
 |e::r=>bif kt.eqv a e.2.1 then (e.1,a,f,v)::r else e::Kf a v f clock r
def Ql{kt vt:Ty}(a:kt.T):K6 kt vt→K6 kt vt
 |[]=>[]
 |e::r=>bif kt.eqv a e.2.1 then (e.1,e.2.1,false,e.2.2.2)::r else e::Ql a r
def Aj2{kt vt:Ty}(a:kt.T)(es:K6 kt vt):List vt.T:=match A04 a es with|some e=>e.2.2|none=>[]
def Afo{kt vt:Ty}(a:kt.T)(es:K6 kt vt):Bool:=match A04 a es with|some e=>e.2.1|none=>true
def B6h{kt vt:Ty}(a:kt.T)(es:K6 kt vt):Bool:=match A04 a es with|some _=>true|none=>false
def Ut{kt vt:Ty}(a:kt.T)(es:K6 kt vt)(clock:Nat):Nat:=match A04 a es with|some e=>e.1|none=>clock
section
variable{kt vt:Ty}
def Aj3(es:K6 kt vt):(Rz es).map (·.2.1)=es.map (·.2.1):=by simp[Rz,Brv,Bsd]
theorem As0(a:kt.T)(v:List vt.T)(f:Bool)(c:Nat):∀es:K6 kt vt,Rz (Kf a v f c es)=Mm a (vt:=.sl vt) v c (Rz es)
 |[]=>rfl
 |e::r=>by
  have ih:=As0 a v f c r;simp only[Kf,Rz,Bp3,Mm]at ih⊢;cases kt.eqv a e.2.1 with
  |true=>rfl
  |false=>simp only[Box,Bp3,ih]
theorem As1(a:kt.T):∀es:K6 kt vt,Rz (Ql a es)=Rz es
 |[]=>rfl
 |e::r=>by
  have ih:=As1 a r;simp only[Ql,Rz,Bp3]at ih⊢;cases kt.eqv a e.2.1 with
  |true=>rfl
  |false=>simp only[Box,Bp3,ih]
theorem Ady(a:kt.T):∀es:K6 kt vt,A04 a es=(K5 kt a (es.map (·.2.1))).bind fun j=>es[j]?.map fun e=>(e.1,e.2.2)
 |[]=>rfl
 |e::r=>by
  simp only[A04,Bp3,K5];cases kt.eqv a e.2.1 with
  |true=>rfl
  |false =>simp only[Box,Bqs,Bre,Ady a r];cases K5 kt a (r.map (·.2.1))<;>simp
def An1(a:kt.T)(es:K6 kt vt):Nat:=(K5 kt a (es.map (·.2.1))).getD es.length
def Aog(a:kt.T)(e:Nat×kt.T×Bool×List vt.T)(r:K6 kt vt):An1 a (e::r)=bif kt.eqv a e.2.1 then 0 else An1 a r+1:=by
 simp only[An1,Bp3,K5];cases kt.eqv a e.2.1 with
 |true=>rfl
 |false =>simp only[Bqs,Bre,Box,Bpk];cases K5 kt a (r.map (·.2.1))<;>simp
theorem B3c(a:kt.T):∀es:K6 kt vt,(Ql a es).length=es.length∧∀(j:Nat) (x':Awb kt vt),(Ql a es)[j]? = some x'→∃x:Awb kt vt,es[j]? = some x∧x'.1=x.1∧x'.2.1=x.2.1∧x'.2.2.2=x.2.2.2∧(x'.2.2.1=true→x.2.2.1=true∧j≠An1 a es)
 |[]=>⟨rfl,by simp[Ql]⟩
 |e::r=>by
  obtain⟨i1,i2⟩:=B3c a r;rw[Aog];simp only[Ql];cases kt.eqv a e.2.1 with
  |true =>
   simp only[Bov,Bpk,Bum];intro j x' hx;cases j with
   |zero=>simp at hx;subst hx;exact⟨e,rfl,rfl,rfl,rfl,by simp⟩
   |succ j=>simp at hx;exact⟨x',by simpa using hx,rfl,rfl,rfl,fun h=>⟨h,by omega⟩⟩
  |false =>
   simp only[Box,Bpk,i1,Bum];intro j x' hx;cases j with
   |zero=>simp at hx;subst hx;exact⟨e,rfl,rfl,rfl,rfl,fun h=>⟨h,by omega⟩⟩
   |succ j =>obtain⟨x,a1,a2,a3,a4,a5⟩:=i2 j x' (by simpa using hx);exact⟨x,by simpa using a1,a2,a3,a4,fun h=>⟨(a5 h).1,by have:=(a5 h).2;omega⟩⟩
theorem Ab7(a:kt.T)(v:List vt.T)(f:Bool)(c:Nat):∀(es:K6 kt vt) (j:Nat) (x:Awb kt vt),(Kf a v f c es)[j]? = some x→(j=An1 a es∧x.2.2.1=f∧x.1=Ut a es c)∨(j≠An1 a es∧es[j]? = some x)
 |[],j,x,h=>by
  cases j with
  |zero=>simp[Kf]at h;subst h;exact .inl ⟨rfl,rfl,rfl⟩
  |succ j=>simp[Kf]at h
 |e::r,j,x,h=>by
  rw[Aog];simp only[Kf]at h;cases he:kt.eqv a e.2.1 with
  |true =>
   rw[he]at h;simp only[Bov]at h⊢;cases j with
   |zero=>simp at h;subst h;exact .inl ⟨rfl,rfl,by simp[Ut,A04,he]⟩
   |succ j=>exact .inr ⟨by omega,by simpa using h⟩
  |false =>
   rw[he]at h;simp only[Box]at h⊢;have hb:Ut a (e::r) c=Ut a r c:=by simp[Ut,A04,he]
   rw[hb];cases j with
   |zero=>exact .inr ⟨by omega,by simpa using h⟩
   |succ j =>
    rcases Ab7 a v f c r j x (by simpa using h)with ⟨h1,h2,h3⟩|⟨h1,h2⟩
    ·exact .inl ⟨by omega,h2,h3⟩
    ·exact .inr ⟨by omega,by simpa using h2⟩
theorem Aoh(a:kt.T)(v:List vt.T)(f f':Bool)(c:Nat):∀es:K6 kt vt,(Kf a v f' c es).length=(Kf a v f c es).length∧∀(j:Nat) (x':Awb kt vt),(Kf a v f' c es)[j]? = some x'→∃x:Awb kt vt,(Kf a v f c es)[j]? = some x∧x'.1=x.1∧x'.2.1=x.2.1∧x'.2.2.2=x.2.2.2
 |[]=>by
  refine⟨rfl,fun j x' h=>?_⟩;cases j with
  |zero=>simp[Kf]at h;subst h;exact⟨_,rfl,rfl,rfl,rfl⟩
  |succ j=>simp[Kf]at h
 |e::r=>by
  obtain⟨i1,i2⟩:=Aoh a v f f' c r;simp only[Kf];cases kt.eqv a e.2.1 with
  |true =>
   simp only[Bov,Bpk,Bum];intro j x' h;cases j with
   |zero=>simp at h;subst h;exact⟨_,rfl,rfl,rfl,rfl⟩
   |succ j=>simp at h;exact⟨x',by simpa using h,rfl,rfl,rfl⟩
  |false =>
   simp only[Box,Bpk,i1,Bum];intro j x' h;cases j with
   |zero=>simp at h;subst h;exact⟨_,rfl,rfl,rfl,rfl⟩
   |succ j =>obtain⟨x,a1,a2⟩:=i2 j x' (by simpa using h);exact⟨x,by simpa using a1,a2⟩
variable{clock L b:Nat}{g:Gh}{w:World}{C2:Array MapEntry}
def B3d{a:kt.T}{es:K6 kt vt}{j:Nat}{x:Nat×kt.T×Bool×List vt.T}(hx:es[j]? = some x)(hj:j≠An1 a es)(Bg:∀p∈es,p.1<clock)(hnd:(es.map (·.1)).Nodup):x.1≠Ut a es clock:=by
 unfold Ut;rw[Ady];unfold An1 at hj;cases hk:K5 kt a (es.map (·.2.1)) with
 |none =>have:=Bg x (Bpu hx);simp only[Bti];omega
 |some i =>
  rw[hk]at hj;simp only[Btj]at hj;have hi:=A1c hk;rw[Bpl]at hi;simp only[Bow,Bpd hi,Bq8];intro he;obtain⟨hjl,hje⟩:=Bp2.1 hx;have hp:=Bqk.1 hnd;rcases Bvj j i with h1|h1|h1
  ·have:=hp j i (by simpa using hjl) (by simpa using hi) h1;simp[hje,he]at this
  ·exact hj h1
  ·have:=hp i j (by simpa using hi) (by simpa using hjl) h1;simp[hje,he]at this
noncomputable abbrev Tl(L:Nat)(kt vt:Ty)(es:K6 kt vt)(clock:Nat):Ob:=(A9.Cf L kt vt es clock).o
def lT(es:K6 kt vt):B5j:=es.map fun e=>(e.1,A2n (kt.dv e.2.1),e.2.2.1,e.2.2.2.map vt.ds)
structure Awc(kt vt:Ty)(L:Nat)(g:Gh)(w:World)(b:Nat)(es:K6 kt vt)(clock:Nat)(C2:Array MapEntry):Prop where
 m:Agx kt (.sl vt) g w b (Rz es) clock C2
 t:∀(j:Nat) x e,es[j]? = some x→C2[j]? = some e→x.2.2.1=true→(g.β L).isSome→Ad0 g w L x.1 vt.size e.val
def B3e{es:K6 kt vt}(hk:kt.key=true)(h:Bv g w b (Tl L kt vt es clock)):∃C2,Awc kt vt L g w b es clock C2:=by
 cases h with
 |Cf _ _ l c C2 h1 h2 h3 h4 h5 =>
  have Pt:∀(i:Nat) x,es[i]? = some x→(es.map fun e=>(e.1,A2n (kt.dv e.2.1),e.2.2.1,e.2.2.2.map vt.ds))[i]? = some (x.1,A2n (kt.dv x.2.1),x.2.2.1,x.2.2.2.map vt.ds):=fun i x hx=>by rw[Bp1,hx];rfl
  have hat:∀(i:Nat) x e,es[i]? = some x→C2[i]? = some e→e.born=x.1∧e.key=kt.Eh x.2.1∧RD g.γ w (.sl vt.size (x.2.2.2.map vt.ds)) e.val:=by intro i x e hx he;obtain⟨a1,a2,a3,_⟩:=h3 i _ e (Pt i x hx) he;rw[kt.Ahc _ hk]at a2;exact⟨a1,a2,a3⟩
  have hlen:es.length=C2.size:=by simpa using h2
  refine⟨C2,⟨h1,by simpa[Rz]using hlen,?_,?_,?_,?_⟩,?_⟩
  ·rw[Aj3];apply Bsc;intro i;rw[Bp1,Bp1,Bp1,Br7];by_cases hi:i<C2.size
   ·have M9:i<es.length:=by omega
    rw[Bpq hi,Bpd M9];have:=(hat i es[i] C2[i] (by simp[M9]) (by simp[hi])).2.1;simp[this]
   ·rw[Bs8 (by omega),Bqz (by omega)];rfl
  ·intro i x e hx he;simp only[Rz,Bp1,Bp8]at hx;obtain⟨y,hy,rfl⟩:=hx;exact hat i y e hy he
  ·intro p hp;simp only[Rz,Bpc]at hp;obtain⟨y,hy,rfl⟩:=hp;exact h4 _ (Bpe (f:=fun e:Nat×kt.T×Bool×List vt.T=>(e.1,A2n (kt.dv e.2.1),e.2.2.1,e.2.2.2.map vt.ds)) hy)
  ·simpa[Rz,Brv,Bsd]using h5
  ·intro j x e hx he hf hL;exact(h3 j _ e (Pt j x hx) he).2.2.2 hf hL
def Awc.rel{es:K6 kt vt}(hk:kt.key=true)(h:Awc kt vt L g w b es clock C2):Bv g w b (Tl L kt vt es clock):=by
 have hf:∀(i:Nat) x,es[i]? = some x→(Rz es)[i]? = some (x.1,x.2.1,x.2.2.2):=fun i x hx=>by simp[Rz,hx]
 refine .Cf L vt.size _ clock C2 h.m.heap (by have:=h.m.len;simpa[Rz]using this) ?_ ?_ ?_
 ·intro i x e hx he;rw[Bp1,Bp8]at hx;obtain⟨y,hy,rfl⟩:=hx;obtain⟨a1,a2,a3⟩:=h.m.at' i _ e (hf i y hy) he;simp only[kt.Ahc _ hk];exact⟨a1,a2,a3,fun h1 h2=>h.t i y e hy he h1 h2⟩
 ·intro p hp;rw[Bpc]at hp;obtain⟨y,hy,rfl⟩:=hp;exact h.m.lt _ (Bpe (f:=fun e:Nat×kt.T×Bool×List vt.T=>(e.1,e.2.1,e.2.2.2)) hy)
 ·have:=h.m.nodup;simpa[Rz,Brv,Bsd]using this
theorem Awc.lt{es:K6 kt vt}(h:Awc kt vt L g w b es clock C2):∀p∈es,p.1<clock:=fun y hy=>h.m.lt _ (Bpe (f:=fun e:Nat×kt.T×Bool×List vt.T=>(e.1,e.2.1,e.2.2.2)) hy)
theorem Awc.nodup{es:K6 kt vt}(h:Awc kt vt L g w b es clock C2):(es.map (·.1)).Nodup:=by have:=h.m.nodup;simpa[Rz,Brv,Bsd]using this
def Awd{es es':K6 kt vt}(hl:es'.length=es.length)(h:∀(j:Nat) (x':Awb kt vt),es'[j]? = some x'→∃x:Awb kt vt,es[j]? = some x∧x'.1=x.1∧x'.2.1=x.2.1∧x'.2.2.2=x.2.2.2):Av7 (lT es) (lT es'):=by
 refine⟨by simp[lT,hl],fun j x' hx=>?_⟩;simp only[lT,Bp1,Bp8]at hx;obtain⟨y,hy,rfl⟩:=hx;obtain⟨x,a1,a2,a3,a4⟩:=h j y hy;refine⟨(x.1,A2n (kt.dv x.2.1),x.2.2.1,x.2.2.2.map vt.ds),by simp[lT,a1],a2,?_,?_⟩
 ·simp only[a3]
 ·simp only[a4]
end
section
variable{P:Program}{o:Oper}{X:A5}{kt vt:Ty}
variable{t e:TypeId}{g:Gh}{w:World}{ok:Bool}{n k L clock:Nat}{x y:Operand}
def Awe(k L:Nat)(ho:o.op = .makeMap t none)(hk:X.objs.lookup k=none)(hX:B1 [k] X=true)(hL:L∉X.live)(hXL:B1 [L] X=true) :
  Bi P o [] X ⟨(k,Tl L kt vt [] 0)::X.objs,L::X.live⟩ [L,k] (.mp k):=by
 intro nm Ej B g w a hr Au next Q hn
 obtain⟨hr1,ht1⟩:=hr.Ps hL none hXL (by simp);obtain⟨h1,h2⟩:=hr1.newObj (k:=k) hk hX (.map #[] 0) (Tl L kt vt [] 0) (by
  intro g' w' _ hw;exact .Cf L vt.size [] 0 #[] hw rfl (by simp) (by simp) (by simp))
 unfold Oper.wp;have:(execOp a.eval o).run P w = .ok (.value (.map (some w.heap.size))) (w.alloc (.map #[] 0)):=by simp[execOp,ho,Instr.makeMap]
 rw[this];refine hn _ _ _ h1 (ht1.trans h2) (.nm _ _ _ ?_);show Value.map (some w.heap.size) = .map (some (O6 g.ρ k w.heap.size k));rw[Ac]
def B0i{vt:Ty}(ok:Bool)(n:Nat)(l:List vt.T)(b:Bool):AV:=if ok then .F2 [.Be n vt.size (l.map vt.ds),.d (.bool b)]else .Be n vt.size (l.map vt.ds)
def B6i{l:List vt.T}{u:Value}{b:Bool}(h:RA g w (.Be n vt.size (l.map vt.ds)) u):RA g w (B0i ok n l b) (if ok then .tuple #[u,.bool b]else u):=by
 cases ok with
 |false=>exact h
 |true =>
  refine .F2 _ _ rfl fun i c x hc hx=>?_
  rcases i with _|_|i
  ·simp at hc hx;subst hc;subst hx;exact h
  ·simp at hc hx;subst hc;subst hx;exact .H4 _ _ _
  ·simp at hc
def Ab8:Value→A3 Nat
 |.slice (some a) _ _=>some a.block
 |_=>none
def B0j{es:K6 kt vt}{a:kt.T}{i:TypeInfo}(ho:o.op = .lookup t x y ok)(hm:Aw4 P t kt (.sl vt) e)(hi:P.info? e=some i)(hz:i.zero=some (.slice none 0 0))
  (hk:X.objs.lookup k=some (Tl L kt vt es clock)) (Qe:Zx k L X) (hf:Afo a es=true) (hn:n∉X.live) (hnX:B1 [n] ⟨Ab.setObj k (Tl L kt vt (Ql a es) clock) X.objs,X.live⟩=true) (hL:L∈X.live) :
  Bi P o [(x,.mp k),(y,.d (kt.dv a))] X ⟨Ab.setObj k (Tl L kt vt (Ql a es) clock) X.objs,n::X.live⟩ [L,n] (B0i ok n (Aj2 a es) (B6h a es)):=by
 intro nm Ej B g w ac hr Au next Q Ek
 obtain⟨kty,hu,hK⟩:=hm.und;have h1:=(Is Au).Ad1;have h2:ac.eval y=kt.Eh a:=by
  have:=Y4 Au;cases this with
  |d _ _ h=>exact kt.A3t hK.key h
 simp only at h1;obtain⟨C2,hw⟩:=B3e hK.key (hr.objs k _ hk);have hLs:(g.β L).isSome:=(hr.live L).1 hL;have hfd:=hw.m.find hK a;have hc:=hK.check C2.isEmpty 9998 a w;have Pt:=Bry (P:=P) hw.m.heap;have hlen:es.length=C2.size:=by have:=hw.m.len;simpa[Rz]using this
 obtain⟨val,Cg,hval,Aa3⟩:∃val,(execOp ac.eval o).run P w = .ok (.value (if ok then .tuple #[val,.bool (B6h a es)]else val)) w∧RD g.γ w (.sl vt.size ((Aj2 a es).map vt.ds)) val∧Ad0 g w L (Ut a es clock) vt.size val:=by
  rw[Aj3]at hfd;have hth:=Ady a es;cases hj:K5 kt a (es.map (·.2.1)) with
  |none =>
   rw[hj]at hfd hth;simp only[Bti]at hfd hth;refine⟨.slice none 0 0,?_,?_,trivial⟩
   ·simp only[execOp,ho,h1,h2,Instr.lookup,Bq5,Bpb hu,Bpr,Bsm,Pt,hc,hfd];simp[zeroValue,typeInfo,hi,hz,B6h,hth]
   ·simp only[Aj2,hth,Bpz];exact .nil _ _ _ fun _=>rfl
  |some j =>
   have Gb:=A1c hj;rw[Bpl]at Gb;have hja:j<C2.size:=by omega
   rw[hj]at hfd hth;simp only[Bow,Bpq hja,Bq8]at hfd;simp only[Bow,Bpd Gb,Bq8]at hth;refine⟨C2[j].val,?_,?_,?_⟩
   ·simp only[execOp,ho,h1,h2,Instr.lookup,Bq5,Bpb hu,Bpr,Bsm,Pt,hc,hfd];simp[B6h,hth]
   ·have:=(hw.m.at' j (es[j].1,es[j].2.1,es[j].2.2.2) C2[j] (by simp[Rz,Gb]) (by simp[hja])).2.2;simp only[Aj2,hth];exact this
   ·have hfl:es[j].2.2.1=true:=by simpa[Afo,hth]using hf
    have:=hw.t j es[j] C2[j] (by simp[Gb]) (by simp[hja]) hfl hLs;simp only[Ut,hth];exact this
 have Av3:=B3c a es;obtain⟨hr1,ht1⟩:=hr.Bk2 (i:=Ut a es clock) (l:=lT es) (l':=lT (Ql a es)) hk Qe (Awd Av3.1 fun j x' hx=>by
   obtain⟨x,a1,a2,a3,a4,_⟩:=Av3.2 j x' hx;exact⟨x,a1,a2,a3,a4⟩) (by
  intro j x' x hx' hx Ba9;simp only[lT,Bp1,Bp8]at hx hx';obtain⟨y',hy',rfl⟩:=hx';obtain⟨y0,hy,rfl⟩:=hx;obtain⟨x,a1,a2,a3,a4,a5⟩:=Av3.2 j y' hy';rw[hy]at a1;cases a1;obtain⟨b1,b2⟩:=a5 Ba9;exact⟨b1,B3d hy b2 hw.lt hw.nodup⟩)
 obtain⟨hr2,Wb⟩:=hr1.Ps (m:=n) hn (Ab8 val) hnX (by
  intro b hb;cases val with
  |slice ad len cap =>
   cases ad with
   |none=>simp[Ab8]at hb
   |some ad =>
    simp only[Ab8,Bp0]at hb;subst hb;obtain⟨q1,q2,q3,q4⟩:=Aa3;refine⟨hr.eta.lt L _ _ hLs q2,hr.eta.new L _ _ hLs q2,fun j p hj=>?_,fun m hm=>hr.eta.Be L _ _ m hLs q2 hm,fun L' i' hL' he=>?_⟩
    ·obtain⟨q,hq⟩:=Yj hk hj;exact hr.eta.obj L _ _ j q hLs q2 hq
    ·simp only at he hL';by_cases hl:L'=L
     ·subst hl;rw[Ac]at he;by_cases M9:i'=Ut a es clock
      ·subst M9;rw[Ac]at he;cases he
      ·rw[Ae _ _ M9]at he;exact M9 (hr.eta.inj _ _ _ _ _ hLs hLs he q2).2
     ·rw[Ae _ _ hl]at he;exact hl (hr.eta.inj _ _ _ _ _ hL' hLs he q2).1
  |_=>simp[Ab8]at hb)
 unfold Oper.wp;rw[Cg];refine Ek _ w _ hr2 (ht1.trans Wb) (B6i (.Be n vt.size _ none _ hval ?_));cases val with
 |slice ad len cap =>
  cases ad with
  |none=>trivial
  |some ad =>obtain⟨q1,q2,q3,q4⟩:=Aa3;intro ob' No;simp only[Ac,Bp0]at No;exact⟨q1,No.symm,q3,q4,by simp⟩
 |_=>trivial
theorem A7p(k:Nat)(o o':Ob):∀l:A2 (Nat×Ob),Ab.setObj k o (Ab.setObj k o' l)=Ab.setObj k o l
 |[]=>by simp[Ab.setObj]
 |(j,p)::r=>by
  simp only[Ab.setObj];by_cases h:j=k
  ·simp[h,Ab.setObj]
  ·simp only[Bpp h,Ab.setObj,A7p k o o' r]
def Agx.update{b:Nat}{es:G0 kt vt}{C2:Array MapEntry}{kty:TypeId}(hw:Agx kt vt g w b es clock C2)(hu:P.underlying t=some (.map kty e))(hK:A2o P kty kt)(a:kt.T)(v:vt.T)(val:Value)(h3:RD g.γ w (vt.dv v) val) :
  ∃as',(Instr.mapUpdate t (.map (some b)) (kt.Eh a) val).run P w = .ok () { w with heap:=w.heap.setIfInBounds b (.map as' (Rt a es clock)) } ∧
   (∀w',w'.heap[b]? = some (.map as' (Rt a es clock))→LeD g.γ w g.γ w'→Agx kt vt g w' b (Mm a v clock es) (Rt a es clock) as') ∧
   ∀(j:Nat) e',as'[j]? = some e'→(j=(K5 kt a (es.map (·.2.1))).getD es.length∧e'.val=val)∨(j≠(K5 kt a (es.map (·.2.1))).getD es.length∧C2[j]? = some e'):=by
 have hf:=hw.find hK a;have hc:=hK.check false 9998 a w;have hst:=hK.stays a w;have Pt:=Bry (P:=P) hw.heap;have Zt:=Ab6 (P:=P) hw.heap;have ec:=Aoe a es clock;cases hj:K5 kt a (es.map (·.2.1)) with
 |none =>
  rw[hj]at hf;simp only[Bti]at hf;rw[hj]at ec;simp only at ec;rw[ec,Adu hj];refine⟨C2.push { key:=kt.Eh a,val:=val,born:=clock },?_,?_,?_⟩
  ·simp only[Instr.mapUpdate,Bq5,Bpb hu,Bpr,Pt,hc,hf,Zt]
  ·intro w' Fp hle;refine⟨Fp,by simp[hw.len],by simp[hw.keys],?_,?_,?_⟩
   ·intro i q m hq Uc;by_cases hi:i<es.length
    ·rw[Bs9 hi]at hq;rw[Btm,Bpp (by rw[← hw.len];omega)]at Uc;have:=hw.at' i q m hq Uc;exact⟨this.1,this.2.1,this.2.2.mono hle⟩
    ·rw[Brs (by omega)]at hq;have hi0:i=es.length:=by
      by_cases h0:i-es.length=0
      ·omega
      ·rw[Bqz (by simp;omega)]at hq;cases hq
     subst hi0;simp at hq;rw[hw.len]at Uc;simp at Uc;subst hq;subst Uc;exact⟨rfl,rfl,h3.mono hle⟩
   ·intro p hp;rcases Bp4.1 hp with hp|hp
    ·have:=hw.lt p hp;omega
    ·simp at hp;subst hp;exact Bsr _
   ·rw[Bpn,Btu];refine⟨hw.nodup,by simp,?_⟩;intro p hp q hq;simp at hq;subst hq;obtain⟨y',hy',rfl⟩:=Bpc.1 hp;have:=hw.lt y' hy';omega
  ·intro j e' he;simp only[Option.getD_none];rw[Btm,← hw.len]at he;split at he
   ·rename_i hjj;cases he;exact .inl ⟨hjj,rfl⟩
   ·rename_i hjj;exact .inr ⟨hjj,he⟩
 |some j =>
  have Gb:=A1c hj;rw[Bpl]at Gb;have hja:j<C2.size:=by rw[← hw.len];exact Gb
  have hat:=Ars hK.key hj;rw[Bp1,Bpd Gb]at hat;simp only[Bq8,Bp0]at hat;have hkj:C2[j].key=kt.Eh a:=by rw[(hw.at' j es[j] C2[j] (by simp[Gb]) (by simp[hja])).2.1,hat]
  rw[hj]at hf;simp only[Bow,Bpq hja,Bq8]at hf;rw[hj]at ec;simp only at ec;rw[ec,Adv hj];refine⟨C2.modify j fun q=>{ q with key:=kt.Eh a,val:=val },?_,?_,?_⟩
  ·simp only[Instr.mapUpdate,Bq5,Bpb hu,Bpr,Pt,hc,hf,Bpq hja,Bq8,Btj,hkj,hst,Zt]
  ·intro w' Fp hle;have Ba6:∀(i:Nat) q m,(es.modify j fun q=>(q.1,a,v))[i]? = some q→(C2.modify j fun q=>{ q with key:=kt.Eh a,val:=val })[i]? = some m→m.born=q.1∧m.key=kt.Eh q.2.1∧RD g.γ w' (vt.dv q.2.2) m.val:=by
    intro i q m hq Uc;rw[List.getElem?_modify]at hq;rw[Bql]at Uc;by_cases hij:j=i
    ·subst hij;rw[Bpd Gb]at hq;rw[Bpq hja]at Uc;simp at hq Uc;subst hq;subst Uc;exact⟨(hw.at' j es[j] C2[j] (by simp[Gb]) (by simp[hja])).1,rfl,h3.mono hle⟩
    ·rw[Bpp hij]at Uc;simp only[hij,Bre]at hq;have:=hw.at' i q m (by simpa using hq) Uc;exact⟨this.1,this.2.1,this.2.2.mono hle⟩
   refine⟨Fp,by simp[hw.len],?_,Ba6,?_,?_⟩
   ·apply Bsc;intro i;rw[Bp1,Bp1,Bp1,Br7];by_cases hi:i<C2.size
    ·have M9:i<es.length:=by rw[hw.len];exact hi
     have hA:i<(C2.modify j fun q=>{ q with key:=kt.Eh a,val:=val }).size:=by simpa using hi
     have hE:i<(es.modify j fun q=>(q.1,a,v)).length:=by simpa using M9
     rw[Bpq hA,Bpd hE];have:=(Ba6 i _ _ (Bpd hE) (Bpq hA)).2.1;simp only[Bq8,this]
    ·rw[Bs8 (by simpa using hi),Bqz (by simp[hw.len];omega)];rfl
   ·intro p hp;have h5:p.1∈((es.modify j fun q=>(q.1,a,v)).map (·.1)):=Bpe (f:=(·.1)) hp;rw[R0 (fun q:Nat×kt.T×vt.T=>q.1) (fun q:Nat×kt.T×vt.T=>(q.1,a,v)) (fun _=>rfl) es j]at h5;obtain⟨q,hq,he⟩:=Bpc.1 h5;rw[← he];exact hw.lt q hq
   ·rw[R0 (fun q:Nat×kt.T×vt.T=>q.1) (fun q:Nat×kt.T×vt.T=>(q.1,a,v)) (fun _=>rfl) es j];exact hw.nodup
  ·intro i e' he;simp only[Btj];rw[Bql]at he;by_cases hij:j=i
   ·subst hij;rw[Bq6 rfl,Bpq hja]at he;simp at he;subst he;exact .inl ⟨rfl,rfl⟩
   ·rw[Bpp hij]at he;exact .inr ⟨Brl hij,he⟩
def An2{u:Operand}{es:K6 kt vt}{a:kt.T}{v:List vt.T}{ty:A3 TypeId}(ho:o.op = .mapUpdate t x y u∨o.op = .insert t x y u)(hm:Aw4 P t kt (.sl vt) e)
  (hk:X.objs.lookup k=some (Tl L kt vt es clock)) (Qe:Zx k L X) (hnl:n∈X.live) :
  Bi P o [(x,.mp k),(y,.d (kt.dv a)),(u,.Be n vt.size (v.map vt.ds) ty)] X ⟨Ab.setObj k (Tl L kt vt (Kf a v true clock es) (Rt a (Rz es) clock)) X.objs,X.live.filter (· != n)⟩ [L] (.d (.sc undef)):=by
 intro nm Ej B g w ac hr Au next Q hn
 obtain⟨kty,hu,hK⟩:=hm.und;have h1:=(Is Au).Ad1;have h2:ac.eval y=kt.Eh a:=by
  have:=Y4 Au;cases this with
  |d _ _ h=>exact kt.A3t hK.key h
 obtain⟨h3,h4⟩:RD g.γ w ((Ty.sl vt).dv v) (ac.eval u)∧A7g g w n vt.size ty (ac.eval u):=by
  have:=rd2 Au;cases this with
  |Be _ _ _ _ _ h h'=>exact⟨h,h'⟩
 simp only at h1;obtain⟨C2,hw⟩:=B3e hK.key (hr.objs k _ hk);obtain⟨as',e1,e2,e3⟩:=hw.m.update hu hK a v (ac.eval u) h3;rw[Aj3]at e3;have hJ:(K5 kt a (es.map (·.2.1))).getD (Rz es).length=An1 a es:=by simp[An1,Rz]
 rw[hJ]at e3;have Bg:g.ρ k<w.heap.size:=(Bpo.1 hw.m.heap).1;obtain⟨w1,hw1⟩:∃w1:World,w1 = { w with heap:=w.heap.setIfInBounds (g.ρ k) (.map as' (Rt a (Rz es) clock)) }:=⟨_,rfl⟩;have hb1:w1.heap[g.ρ k]? = some (.map as' (Rt a (Rz es) clock)):=by rw[hw1];simp[Bg]
 obtain⟨hr1,ht1⟩:=hr.write (w':=w1) (o':=Tl L kt vt (Kf a v false clock es) (Rt a (Rz es) clock)) hk (by rw[hw1];simp) (by rw[hw1];exact⟨rfl,rfl,rfl,Bpa _⟩)
  (by intro b Fp;rw[hw1];simp[Brl Fp]) (fun ht=>Awc.rel hK.key (C2:=as') ⟨by rw[As0];exact e2 w1 hb1 ht.le,by
   intro j q m hq Uc hfl hL;rcases Ab7 a v false clock es j q hq with ⟨p1,p2,p3⟩|⟨p1,p2⟩
   ·rw[p2]at hfl;cases hfl
   ·rcases e3 j m Uc with ⟨r1,r2⟩|⟨r1,r2⟩
    ·exact(p1 r1).elim
    ·exact(hw.t j q m p2 r2 hfl hL).D4 ht (by simp) hL⟩) (by
   intro sh hsh;simp[World.shape?,hw.m.heap]at hsh)
 obtain⟨ob,Ga⟩:∃ob,g.β n=some ob:=Bps.1 ((hr.live n).1 hnl);have h4':A7g g w1 n vt.size ty (ac.eval u):=h4.D4 ht1 (by simp);obtain⟨hr2,Wb⟩:=hr1.Ah5 n;have hk2:(Ab.setObj k (Tl L kt vt (Kf a v false clock es) (Rt a (Rz es) clock)) X.objs).lookup k=some (Tl L kt vt (Kf a v false clock es) (Rt a (Rz es) clock)):=by rw[Ax,Bq6 rfl]
 have B2t:=Aoh a v false true clock es;obtain⟨hr3,ht3⟩:=hr2.Bk4 (i:=Ut a es clock) (ob:=Ab8 (ac.eval u)) (l:=lT (Kf a v false clock es)) (l':=lT (Kf a v true clock es)) (L:=L) hk2 (by
   intro j p hj hp;simp only at hp;rw[Ax,Bpp hj]at hp;exact Qe j p hj hp) (by
   intro b hb;have Amj:g.β n=some (some b):=by
    generalize ac.eval u=val at hb h4;cases val with
    |slice ad len cap =>
     cases ad with
     |none=>simp[Ab8]at hb
     |some ad =>simp only[Ab8,Bp0]at hb;subst hb;rw[Ga,(h4 ob Ga).2.1]
    |_=>simp[Ab8]at hb
   refine⟨hr1.C7 n b Amj,hr1.C3 n b Amj,fun j p hj=>hr1.Ba n b j p Amj hj,fun m hm=>?_,hr1.eta.A7i Amj⟩;by_cases he:m=n
   ·subst he;simp[Ac]at hm
   ·simp only[Ae _ _ he]at hm;exact he (hr1.Bw m n b hm Amj)) (Awd B2t.1 B2t.2) (by
   intro j x' x0 hx' hx Ba9;simp only[lT,Bp1,Bp8]at hx hx';obtain⟨y',hy',rfl⟩:=hx';obtain⟨y0,hy0,rfl⟩:=hx;rcases Ab7 a v true clock es j y' hy' with ⟨p1,p2,p3⟩|⟨p1,p2⟩
   ·right;rcases Ab7 a v false clock es j y0 hy0 with ⟨r1,r2,r3⟩|⟨r1,r2⟩
    ·refine⟨r3,?_⟩;intro bs m hbs Uc;simp only at hbs;rw[hb1]at hbs;cases hbs;rcases e3 j m Uc with ⟨s1,s2⟩|⟨s1,s2⟩
     ·rw[s2];generalize ac.eval u=val at h4';cases val with
      |slice ad len cap =>
       cases ad with
       |none=>trivial
       |some ad =>obtain⟨q1,q2,q3,q4,_⟩:=h4' ob Ga;refine⟨q1,?_,q3,q4⟩;simp only[Ac,Ab8]
      |_=>trivial
     ·exact(s1 p1).elim
    ·exact(r1 p1).elim
   ·left;rcases Ab7 a v false clock es j y0 hy0 with ⟨r1,r2,r3⟩|⟨r1,r2⟩
    ·exact(p1 r1).elim
    ·rw[p2]at r2;cases r2;exact⟨Ba9,B3d p2 p1 hw.lt hw.nodup⟩)
 have Cg:(execOp ac.eval o).run P w = .ok .skip w1:=by rw[hw1];rcases ho with ho|ho<;>simp[execOp,ho,h1,h2,e1]
 unfold Oper.wp;rw[Cg];have hX:Ab.setObj k (Tl L kt vt (Kf a v true clock es) (Rt a (Rz es) clock)) (Ab.setObj k (Tl L kt vt (Kf a v false clock es) (Rt a (Rz es) clock)) X.objs)=Ab.setObj k (Tl L kt vt (Kf a v true clock es) (Rt a (Rz es) clock)) X.objs:=A7p _ _ _ _;have Bkn:HR nm B _ w1 ⟨Ab.setObj k (Tl L kt vt (Kf a v true clock es) (Rt a (Rz es) clock)) (Ab.setObj k (Tl L kt vt (Kf a v false clock es) (Rt a (Rz es) clock)) X.objs),X.live.filter (· != n)⟩:=hr3;rw[hX]at Bkn;exact hn _ _ undef Bkn ((ht1.trans Wb).trans ht3) (.H4 _ _ _)
end
section
variable{P:Program}{R:Type}
def Adz(m:Nat):Nat:=500000+m
def Bec(P:Program)(t:TypeId):A3 (Ty×Ty) :=
 match A8k P t with
 |some (kt,.sl vt)=>some (kt,vt)
 |_=>none
def Ae0(P:Program)(st:Af)(o:Oper)(t:TypeId)(r:A3 Operand)(K:Out→A3 R):A3 R :=
 match r with
 |none=>match Bec P t,newName o with
  |some ts,some m=>cond (fresh m st) (cond (Qy (Adz m) st.live st) (K ⟨.all,.nm m .m,[],(m,.Cf (Adz m) ts.1 ts.2 [] 0)::st.objs,Adz m::st.live,[Adz m,m],[m]⟩) none) none
  |_,_=>none
 |some _=>none
variable{o:Oper}{st:Af}{t:TypeId}{vt:Ty}{x y:Operand}
def As2{rs:A3 Operand}{K:Out→A3 R}{r:R}(ho:o.op = .makeMap t rs)(h:Ae0 P st o t rs K=some r):∃out,K out=some r∧Bp P o st out:=by
 unfold Ae0 at h;split at h
 ·split at h
  ·rename_i ts m hm hn;cases hf:fresh m st with
   |false=>simp[hf]at h
   |true =>
   cases hl:Qy (Adz m) st.live st with
   |false=>simp[hf,hl]at h
   |true =>
    simp only[hf,hl,Bov]at h;obtain⟨h1,h2⟩:=Tg hf;obtain⟨h3,h4⟩:=Vw hl;refine⟨_,h,⟨by simp[Ay],?_,fun j z hj hz=>?_⟩⟩
    ·exact Awe (kt:=ts.1) (vt:=ts.2) m (Adz m) ho (Th h1) h2 h3 h4
    ·rw[Dz (by simpa using hj)]at hz;exact hz
  ·cases h
 ·cases h
def A05(k L:Nat)(st:Af):Bool:=Fk [L] (Lg k (.Vt [] 0) st.objs)
def Ab9{k L:Nat}(hp:Yl k (.Vt [] 0) st.objs=true)(h:A05 k L st=true):Zx k L st.X:=by
 have h1:=V7 (live:=st.live) h;intro j o hj ho;have h2:(A4 (Lg k (.Vt [] 0) st.objs)).lookup j=some o:=by rw[V8 hp,Ax,Bpp hj];exact ho
 rcases Hj h1 h2 with h3|h3
 ·cases h3
 ·exact h3
def As3(P:Program)(e:TypeId):Bool :=
 match P.info? e with
 |some i=>match i.zero with
  |some (.slice none 0 0)=>true
  |_=>false
 |none=>false
def B6j{e:TypeId}(h:As3 P e=true):∃i,P.info? e=some i∧i.zero=some (.slice none 0 0):=by
 unfold As3 at h;split at h
 ·rename_i i hi;split at h
  ·rename_i hz;exact⟨i,hi,hz⟩
  ·cases h
 ·cases h
def Bi7{vt:Ty}(ok:Bool)(n:Nat)(l:List vt.T)(b:Bool):XV:=cond ok (.F2 [.Be n vt l none,.d (.b b)]) (.Be n vt l none)
def Bi8(ok:Bool)(n:Nat)(l:List vt.T)(b:Bool):(Bi7 ok n l b).a=B0i ok n l b:=by cases ok<;>rfl
def Aj4(P:Program)(st:Af)(o:Oper)(t:TypeId)(x y:Operand)(ok:Bool)(K:Out→A3 R):A3 R :=
 match Av st x with
 |some (.nm k .m)=>match lk k st.objs with
  |some (.Cf L kt vt es c)=>match A1f P t kt,xd st y,Ail o with
   |some e,some a,some n=>match kt.A87 a with
    |some a=>cond (As3 P e) (cond (inl L st.live) (cond (inl n st.live) none (cond (A05 k L st) (cond (Fk [n] (Lg k (.Cf L kt vt (Ql a es) c) st.objs)) (cond (Afo a es)
      (K ⟨.O7 k (.Cf L kt vt (Ql a es) c),Bi7 ok n (Aj2 a es) (B6h a es),[(x,.nm k .m),(y,.d (kt.xv a))],Lg k (.Cf L kt vt (Ql a es) c) st.objs,n::st.live,[L,n],[k]⟩) none) none) none)) none) none
    |_=>none
   |_,_,_=>none
  |_=>none
 |_=>none
def Awf{ok:Bool}{K:Out→A3 R}{r:R}(ho:o.op = .lookup t x y ok)(h:Aj4 P st o t x y ok K=some r):∃out,K out=some r∧Bp P o st out:=by
 unfold Aj4 at h;split at h
 ·rename_i k hx;split at h
  ·rename_i L kt vt es c hk;split at h
   ·rename_i e a0 n hm hy hn;split at h
    ·rename_i a ha;cases h1:As3 P e with
     |false=>simp[h1]at h
     |true =>
     cases h2:inl L st.live with
     |false=>simp[h1,h2]at h
     |true =>
     cases h3:inl n st.live with
     |true=>simp[h1,h2,h3]at h
     |false =>
     cases h4:A05 k L st with
     |false=>simp[h1,h2,h3,h4]at h
     |true =>
     cases h5:Fk [n] (Lg k (.Cf L kt vt (Ql a es) c) st.objs) with
     |false=>simp[h1,h2,h3,h4,h5]at h
     |true =>
     cases h6:Afo a es with
     |false=>simp[h1,h2,h3,h4,h5,h6]at h
     |true =>
      simp only[h1,h2,h3,h4,h5,h6,Bov,Box]at h;obtain⟨i,z1,z2⟩:=B6j h1;refine⟨_,h,⟨?_,?_,fun j z hj hz=>?_⟩⟩
      ·intro p hp;simp only[Ay,Bp3,Bpz,Boz,Bpt,Bqy]at hp;rcases hp with rfl|rfl
       ·exact Aj hx
       ·exact A02 hy ha
      ·have hfr:=V7 (live:=st.live) h5;have hp:Yl k (.Cf L kt vt (Ql a es) c) st.objs=true:=K4 hk rfl rfl;rw[V8 hp]at hfr;have:=B0j (P:=P) (X:=st.X) (k:=k) (L:=L) (n:=n) (es:=es) (clock:=c) (a:=a) ho (Wp (vt:=.sl vt) hm) z1 z2 (Zc hk) (Ab9 (K4 hk rfl rfl) h4) h6 (fun hh=>by rw[(Cx n st.live).2 hh]at h3;cases h3) hfr ((Cx L st.live).1 h2);refine⟨⟨hp,rfl⟩,?_⟩;show Bi P o _ st.X ⟨A4 (Lg k (.Cf L kt vt (Ql a es) c) st.objs),n::st.live⟩ [L,n] (Bi7 ok n (Aj2 a es) (B6h a es)).a;rw[V8 hp,Bi8];exact this
      ·simp only[Boz,Bpt,Bqy]at hj
       rwa [Nu _ _ _ _ hj]at hz
    ·cases h
   ·cases h
  ·cases h
 ·cases h
def Yr(P:Program)(st:Af)(t:TypeId)(x y u:Operand)(K:Out→A3 R):A3 R :=
 match Av st x with
 |some (.nm k .m)=>match lk k st.objs with
  |some (.Cf L kt vt es c)=>match A1f P t kt,xd st y,Av st u with
   |some e,some a,some (.Be n vt' l ty)=>match kt.A87 a with
    |some a=>if h:vt'.Jm vt=true then
      cond (inl n st.live) (cond (A05 k L st)
       (K ⟨.O7 k (.Cf L kt vt (Kf a (Ty.Am h▸l:List vt.T) true c es) (Rt a (Rz es) c)),.d (.v undef),[(x,.nm k .m),(y,.d (kt.xv a)),(u,.Be n vt' l ty)],Lg k (.Cf L kt vt (Kf a (Ty.Am h▸l:List vt.T) true c es) (Rt a (Rz es) c)) st.objs,Qr n st.live,[L],[k]⟩) none) none
      else none
    |_=>none
   |_,_,_=>none
  |_=>none
 |_=>none
def A3v{u:Operand}{K:Out→A3 R}{r:R}(ho:o.op = .mapUpdate t x y u∨o.op = .insert t x y u)(h:Yr P st t x y u K=some r):∃out,K out=some r∧Bp P o st out:=by
 unfold Yr at h;split at h
 ·rename_i k hx;split at h
  ·rename_i L kt vt es c hk;split at h
   ·rename_i e a0 n vt' l ty hm hy hu;split at h
    ·rename_i a ha;split at h
     ·rename_i he;have e0:=Ty.Am he;subst e0;cases h1:inl n st.live with
      |false=>simp[h1]at h
      |true =>
      cases h2:A05 k L st with
      |false=>simp[h1,h2]at h
      |true =>
       simp only[h1,h2,Bov]at h;refine⟨_,h,⟨?_,?_,fun j z hj hz=>?_⟩⟩
       ·intro p hp;simp only[Ay,Bp3,Bpz,Boz,Bpt,Bqy]at hp;rcases hp with rfl|rfl|rfl
        ·exact Aj hx
        ·exact A02 hy ha
        ·exact Aj hu
       ·have:=An2 (P:=P) (X:=st.X) (k:=k) (L:=L) (n:=n) (es:=es) (clock:=c) (a:=a) (v:=l) (ty:=ty) ho (Wp (vt:=.sl vt') hm) (Zc hk) (Ab9 (K4 hk rfl rfl) h2) ((Cx n st.live).1 h1);have hp:Yl k (.Cf L kt vt' (Kf a l true c es) (Rt a (Rz es) c)) st.objs=true:=K4 hk rfl rfl;refine⟨⟨hp,rfl⟩,?_⟩;show Bi P o _ st.X ⟨A4 (Lg k _ st.objs),_⟩ [L] _;rw[V8 hp];exact this
       ·simp only[Boz,Bpt,Bqy]at hj
        rwa [Nu _ _ _ _ hj]at hz
     ·cases h
    ·cases h
   ·cases h
  ·cases h
 ·cases h
def A5w(st:Af)(x:Operand):Bool :=
 match Av st x with
 |some (.nm k .m)=>match lk k st.objs with
  |some (.Cf _ _ _ _ _)=>true
  |_=>false
 |_=>false
def Bed:A9→A9
 |.Cf _ kt vt es c=>.map kt (.sl vt) (Rz es) c
 |o=>o
def Ae1:A9→Bool
 |.Cf _ _ _ _ _=>true
 |_=>false
def A3w:A2 (Nat×A9)→A2 (Nat×A9)
 |[]=>[]
 |p::r=>(p.1,Bed p.2)::A3w r
def Aba:A2 (Nat×A9)→A2 Nat
 |[]=>[]
 |p::r=>cond (Ae1 p.2) (p.1::Aba r) (Aba r)
def Baa(st:Af):Af:=⟨st.env,A3w st.objs,st.live,st.wl,Aba st.objs++st.ol⟩
theorem B3f(k:Nat):∀l:A2 (Nat×A9),lk k (A3w l)=(lk k l).map Bed
 |[]=>rfl
 |p::r=>by
  simp only[A3w,F9];cases Nat.beq p.1 k with
  |true=>rfl
  |false=>exact B3f k r
def B6k(o:A9):(Bed o).C1=o.C1:=by cases o<;>rfl
theorem As4:∀l:A2 (Nat×A9),Dp (A3w l)=Dp l
 |[]=>rfl
 |p::r=>by simp only[A3w,Dp,B6k,As4 r]
theorem Afp{k:Nat}{o:A9}:∀ {l:A2 (Nat×A9)},lk k l=some o→Ae1 o=true→k∈Aba l
 |[],h,_=>by cases h
 |p::r,h,hm=>by
  simp only[F9]at h;simp only[Aba];cases hb:Nat.beq p.1 k with
  |true =>rw[hb]at h;simp only[Bov,Bp0]at h;rw[h,hm,Bov,Boy hb];exact Bp6
  |false =>
   rw[hb]at h;simp only[Box]at h;have:=Afp h hm;cases Ae1 p.2 with
   |true=>exact Bp5 _ this
   |false=>exact this
def Aj5{o:A9}(h:Ae1 o=false):Bed o=o:=by cases o<;>first|rfl|cases h
def B6l{kt:Ty}(es:K6 kt vt):Ud vt.size (lT es)=(Rz es).map fun e=>(e.1,A2n (kt.dv e.2.1),(Ty.sl vt).dv e.2.2):=by simp only[Ud,lT,Rz,Brv];rfl
def SR.fg{S:Sig}{B:B8}{g:Gh}{w:World}{a:Act}(h:SR S B g w st.im a):SR S B g w (Baa st).im a:=by
 refine⟨h.defers,h.size,?_,h.env⟩;refine h.hr.plain rfl ?_ ?_
 ·intro k hk;show((A4 (A3w st.objs)).lookup k).isSome;have hk:((A4 st.objs).lookup k).isSome:=hk;unfold A4 at hk⊢;rw[Br0,Wk]at hk⊢;rw[B3f,As4];cases hl:lk k st.objs with
  |none=>rw[hl]at hk;exact hk
  |some o=>rfl
 ·intro k o' hk;have hk:(A4 (A3w st.objs)).lookup k=some o':=hk;show(A4 st.objs).lookup k=some o'∨∃L sz l c,(A4 st.objs).lookup k=_∧_;unfold A4 at hk⊢;rw[Br0,Wk]at hk⊢;rw[B3f,As4]at hk;cases hl:lk k st.objs with
  |none=>rw[hl]at hk;exact .inl hk
  |some o =>
   rw[hl]at hk;simp only[Bq8,Bsw,Bp0]at hk⊢;subst hk;cases hm:Ae1 o with
   |false=>left;rw[Aj5 hm]
   |true =>
    right;cases o with
    |Cf L kt vt es c =>refine⟨L,vt.size,lT es,c,rfl,?_⟩;rw[B6l];rfl
    |_=>cases hm
end
section
variable(kt vt:Ty)
@[reducible] def Bko (es:K6 kt vt):G0 kt (.sl vt):=Rz es
@[reducible] def Bkp (a:kt.T) (v:List vt.T) (f:Bool) (clock:Nat) (es:K6 kt vt):K6 kt vt:=Kf a v f clock es
@[reducible] def Bgo (a:kt.T) (es:K6 kt vt):K6 kt vt:=Ql a es
@[reducible] def Bab (a:kt.T) (es:K6 kt vt):List vt.T:=Aj2 a es
@[reducible] def Bac (a:kt.T) (es:K6 kt vt):Bool:=Afo a es
@[reducible] def B3g (a:kt.T) (es:G0 kt vt):Option vt.T:=Ml a es
@[reducible] def B3h (a:kt.T) (v:vt.T) (clock:Nat) (es:G0 kt vt):G0 kt vt:=Mm a v clock es
@[reducible] def Awg (a:kt.T) (es:G0 kt vt) (clock:Nat):Nat:=Rt a es clock
end
variable{t e t' k':TypeId}{kt vt:Ty}{k r a c b since last clock m L n:Nat}{y x u:Operand}{o:Oper}{st:Af}{rs:A3 Operand}{X:A5}{ok:Bool}{i:TypeInfo}{S:Sig}{w:World}{s:Array Nat}{g:Gh}{C2:Array MapEntry}{P:Program}
def Afq{k:TypeId}(ht:P.underlying t=some (.map k e))(p:A3 Nat)(w:World):(Op.equal t (.map p) (.map none)).run P w = .ok p.isNone w:=by
 have h:∀d:Nat,(Op.equalIn (d+1) t (.map p) (.map none)).run P w = .ok p.isNone w:=by intro d;cases p<;>simp[Op.equalIn,Bpb ht]
 exact h 9999
def Afr(neg:Bool)(t:TypeId)(x y:Operand)(p q:A3 Nat):eqGuard (Tk neg) t x y (.map p) (.map q)=pure ():=by cases neg<;>rfl
def B0k(neg:Bool)(ho:o.op = .binOp (Tk neg) t x y t')(ht:P.underlying t=some (.map k' e)) :
  Bi P o [(x,.nm k .m),(y,.d (.sc (.map none)))] X X [] (.d (.sc (.bool neg))) :=
 .quiet fun _ _ g w ac _ Au=>by
  have h1:=Is Au;have h2:=(Y4 Au).Ap;simp only at h1 h2;have hv:ac.eval x = .map (some (g.ρ k)):=by cases h1 with|nm _ _ _ h=>exact h
  refine⟨_,?_,.H4 _ _ _⟩;simp only[execOp,ho,hv,h2];rw[Afr];cases neg<;>simp[Tk,binOp,Afq ht]
def B0l(neg:Bool)(ho:o.op = .binOp (Tk neg) t x y t')(ht:P.underlying t=some (.map k' e)) :
  Bi P o [(x,.d (.sc (.map none))),(y,.d (.sc (.map none)))] X X [] (.d (.sc (.bool (!neg)))) :=
 .quiet fun _ _ g w ac _ Au=>by
  have h1:=(Is Au).Ap;have h2:=(Y4 Au).Ap;simp only at h1 h2;refine⟨_,?_,.H4 _ _ _⟩;simp only[execOp,ho,h1,h2];rw[Afr];cases neg<;>simp[Tk,binOp,Afq ht]
section
variable{P:Program}{R:Type}
end
def Ys{c:Call}{l:A2 Operand}(h:c.args.toList=l):c.args=l.toArray:=by rw[← h]
def o2{α:Type}{b:Bool}{x:A3 α}{r:α}(h:cond b x none=some r):b=true∧x=some r:=by
 cases b with
 |true=>exact⟨rfl,h⟩
 |false=>cases h
end Go.Xl
namespace Go.Ab
section
variable{P:Program}{o:Oper}{X:A5}
theorem Aoi{α:Type}(zs:A2 α):∀(n:Nat) (j:Nat),j<n*zs.length→((List.replicate n zs).flatten)[j]? = zs[j % zs.length]?
 |0,j,h=>by omega
 |n+1,j,h=>by
  rw[Buz,Bqt,Bqh];split
  ·rename_i Bg;rw[Bvp Bg]
  ·rename_i hge;rw[Aoi zs n (j-zs.length) (by rw[Brj]at h;omega)];congr 1;exact(Nat.mod_eq_sub_mod (by omega)).symm
def Ae2(m:Nat){t e:TypeId}{n:Nat}{Bon:Array (Nat×Operand)}{zs out xs:A2 AV}{i:TypeInfo}{z:Value}(ho:o.op = .buildSlice t n Bon)(ht:P.underlying t=some (.slice e))
  (hi:P.info? e=some i) (hz:i.zero=some z) (hzs:W9 zs z.cells.toList) (hzl:z.cells.size=i.size) (hx:xs.length=Bon.size) (Je:xs.all A6q=true)
  (hf:Yh (fun j=>some (j*i.size,i.size)) ((List.replicate n zs).flatten) ((Bon.toList.map (·.1)).zip xs)=some out)
  (Zu:n*i.size≤16777216) (hk:X.objs.lookup m=none) (hX:B1 [m] X=true) (hfr:Bq [m] out=true) :
  Bi P o ((Bon.toList.map (·.2)).zip xs) X ⟨(m,.cells out (some e))::X.objs,X.live⟩ [m] (.nm m (.s 0 n i.size)):=by
 intro nm Ej B g w a hr Au next Q hn
 unfold Oper.wp;have Bi9:zs.length=i.size:=by have h1:zs.length=z.cells.toList.length:=(hzs.ra g w).1;rw[h1,Brk,hzl]
 generalize A2f:((Array.range (n*i.size)).map fun x=>(if n*i.size=0 then #[]else z.cells)[x % (if n*i.size=0 then #[]else z.cells).size]!)=Aa9;have Ahx:Aa9.size=n*i.size:=by subst A2f;simp
 have hfl:((List.replicate n zs).flatten).length=n*i.size:=by simp[Bi9]
 obtain⟨Cc,A7h,Gu,hc'⟩:=Ahr (g:=g) (w:=w) (place:=fun j=>some (j*i.size,i.size)) ((Bon.toList.map (·.1)).zip xs) (Bon.toList.map fun p=>(p.1,a.eval p.2)) ((List.replicate n zs).flatten) Aa9 out
  (by simp[hx]) (by
   intro j p q hp hq;rw[Bp1,Bp8]at hq;obtain⟨r,hr',rfl⟩:=hq;rw[Bsa]at hp;obtain⟨h1,h2⟩:=hp;rw[Bp1,hr']at h1;refine⟨by simpa using h1.symm,?_⟩;exact Au (r.2,p.2) (Bpu (i:=j) (by
    rw[Bsa];exact⟨by rw[Bp1,hr'];rfl,h2⟩))) (by
   rw[Bqb];intro p hp;exact Bqb.1 Je p.2 (Bvw hp).2) (by rw[hfl,Ahx]) (by
   intro j x v hx' hv;have Bg:j<n*i.size:=by have:=(Bp2.1 hx').1;omega
   have h0:¬(n*i.size=0):=by omega
   have A35:0<i.size:=by
    rcases Br8 i.size with h|h
    ·rw[h]at Bg;simp at Bg
    ·exact h
   rw[Aoi zs n j (by rw[Bi9];exact Bg)]at hx';rw[← A2f,Array.getElem?_map]at hv;simp only[h0,Bre]at hv;rw[Array.getElem?_range,Bq6 Bg]at hv;simp only[Bq8,Bp0]at hv;have hm:j % z.cells.size<z.cells.size:=Btz _ (by omega);refine(hzs.ra g w).2 (j % zs.length) x v hx' ?_;rw[Br7,Bi9,← hzl,← hv];rw[Bud z.cells _ hm];simp[hm]) hf
 have Cg:(execOp a.eval o).run P w = .ok (.value (.slice (some ⟨w.heap.size,0,none⟩) n n)) (w.alloc (.cells Cc e)):=by
  simp only[execOp,ho,Instr.buildSlice];have h24:¬(n*i.size>2 ^ 24):=by omega
  by_cases h0:n*i.size=0
  ·have e0:Aa9=#[]:=Bqm (by omega);subst e0;have Pr:Instr.fill (fun j=>some (j*i.size,i.size)) #[] (Bon.toList.map fun p=>(p.1,a.eval p.2))=some Cc:=A7h;simp only[Bq5,Bpb ht,Bpr,run_sizeOf hi,h0,Brg];simp[Buh,Pr,Go.newRow]
  ·simp only[h0,Bre]at A2f;have Pr:Instr.fill (fun j=>some (j*i.size,i.size)) Aa9 (Bon.toList.map fun p=>(p.1,a.eval p.2))=some Cc:=A7h;simp only[Bq5,Bpb ht,Bpr,run_sizeOf hi,h24,Bre,h0];simp[zeroValue,typeInfo,hi,hz,A2f,Pr,Go.newRow]
 have hlen:∀(Bon:A2 (Nat×AV)) (cs out:A2 AV),Yh (fun j=>some (j*i.size,i.size)) cs Bon=some out→out.length=cs.length:=by
  intro Bon;induction Bon with
  |nil=>intro cs out h;simp[Yh]at h;rw[h]
  |cons p r ih =>
   intro cs out h;simp only[Yh]at h;split at h
   ·rename_i hc;rw[ih _ _ h,Z6 (by omega)]
   ·cases h
 have Bkq:=hlen _ _ _ hf;rw[hfl]at Bkq;obtain⟨hr2,Wb⟩:=hr.newObj (k:=m) hk hX (.cells Cc e) (.cells out (some e)) (by
  intro g' w' ht' hw';exact .cells _ _ Cc e hw' (Bwk Gu) (fun j y v hy hv=>(hc' j y v hy hv).mono ht' (Pj (Mo hfr hy))) (fun _ e=>(Brf e).symm))
 rw[Cg];refine hn _ _ _ hr2 Wb (.nm _ _ _ ?_);simp only[Ac];exact⟨n,0,Bpa _,rfl,.inr rfl,e,Cc.size,by unfold World.shape?;rw[Bs1],by omega⟩
end
end Go.Ab
namespace Go.Xl
open Go.Ab
section
variable{P:Program}
def c2{α:Type}{b:Bool}{x:A3 α}{y:α}(h:cond b x none=some y):b=true∧x=some y:=by cases b<;>simp at h⊢;exact h
def Bee(n:Nat)(zs:A2 XV):A2 XV:=match n with
 |0=>[]
 |n+1=>zs++Bee n zs
theorem Bad(zs:A2 XV):∀n,A7 (Bee n zs)=(List.replicate n (A7 zs)).flatten
 |0=>rfl
 |n+1=>by simp only[Bee,Dc,Bad zs n,Buz,Bqt]
def plN(sz:Nat):Nat→Nat→A2 (Nat×Nat)
 |_,0=>[]
 |j,n+1=>(j*sz,sz)::plN sz (j+1) n
theorem B3i(sz:Nat):∀(n j k:Nat) p,(plN sz j n)[k]? = some p→p=((j+k)*sz,sz)
 |0,j,k,p,h=>by simp[plN]at h
 |n+1,j,k,p,h=>by
  cases k with
  |zero=>simp[plN]at h;rw[← h];rfl
  |succ k =>simp only[plN,Bvv]at h;rw[B3i sz n (j+1) k p h];congr 2;omega
theorem Awh{f g:Nat→A3 (Nat×Nat)}(h:∀i p,f i=some p→g i=some p):∀(Bon:A2 (Nat×AV)) (cs out:A2 AV),Yh f cs Bon=some out→Yh g cs Bon=some out
 |[],cs,out,hf=>hf
 |p::r,cs,out,hf=>by
  simp only[Yh]at hf⊢;cases hp:f p.1 with
  |none=>rw[hp]at hf;cases hf
  |some q =>
   rw[hp]at hf;rw[h _ _ hp];simp only at hf⊢;split at hf
   ·rename_i hc;rw[Bq6 hc];exact Awh h r _ _ hf
   ·cases hf
def As5(P:Program)(st:Af)(o:Oper)(t:TypeId)(n:Nat)(Bon:Array (Nat×Operand)):A3 Out :=
 match P.underlying t with
 |some (.slice e)=>match P.info? e with
  |some i=>match i.zero with
   |some z=>match newName o,Bx st (Bon.toList.map (·.2)) with
    |some m,some vs =>
     cond (Nat.beq z.cells.size i.size) (cond (S7 vs) (match Ao7 (plN i.size 0 n) (Bee n (z.cells.toList.map fun v=>.d (Wm v))) ((Bon.toList.map (·.1)).zip vs) with
      |some out=>cond (Nat.ble (n*i.size) 16777216) (cond (fresh m st) (cond (Bq [m] (A7 out)) (some ⟨.all,.nm m (.s 0 n i.size),(Bon.toList.map (·.2)).zip vs,(m,.cells out (some e))::st.objs,st.live,[m],[m]⟩) none) none) none
      |none=>none) none) none
    |_,_=>none
   |none=>none
  |none=>none
 |_=>none
variable{o:Oper}{st:Af}{t:TypeId}{out:Out}{x:Operand}
def B0m{n:Nat}{Bon:Array (Nat×Operand)}(ho:o.op = .buildSlice t n Bon)(h:As5 P st o t n Bon=some out):Bp P o st out:=by
 unfold As5 at h;split at h
 ·rename_i e ht;split at h
  ·rename_i i hi;split at h
   ·rename_i z hz;split at h
    ·rename_i m vs hm Pk;cases h1:Nat.beq z.cells.size i.size with
     |false=>simp[h1]at h
     |true =>
     cases h2:S7 vs with
     |false=>simp[h1,h2]at h
     |true =>
     simp only[h1,h2,Bov]at h;split at h
     ·rename_i cs Rq;cases h3:Nat.ble (n*i.size) 16777216 with
      |false=>simp[h3]at h
      |true =>
      cases h4:fresh m st with
      |false=>simp[h3,h4]at h
      |true =>
      cases h5:Bq [m] (A7 cs) with
      |false=>simp[h3,h4,h5]at h
      |true =>
      simp only[h3,h4,h5,Bov,Bp0]at h;subst h;obtain⟨f1,f2⟩:=Tg h4;refine⟨Yo Pk,?_,fun j z hj hz=>?_⟩
      ·have hf:=Ar2 Rq;rw[Bgk,Bad]at hf;have:=Ae2 (P:=P) (X:=st.X) (xs:=A7 vs) m ho ht hi hz (Ar1 z.cells.toList) (Boy h1) (by rw[Ah,Hz Pk];simp) (A3n h2)
        (Awh (fun j p hp=>by have:=B3i _ _ _ _ _ hp;rw[Bq7]at this;rw[this]) _ _ _ hf) (Bpf h3) (Th f1) f2 h5
       rw[J0];exact this
      ·rw[Dz (by simpa using hj)]at hz;exact hz
     ·cases h
    ·cases h
   ·cases h
  ·cases h
 ·cases h
def Bae(P:Program)(st:Af)(ts:Array TypeId)(x:Operand):A3 Out :=
 match Av st x with
 |some (.nm k (.s off len sz))=>match ts[0]? with
  |some t=>match P.underlying t with
   |some (.slice _)=>some (B0 st (.d (.i .i64 (len:Int))) [(x,.nm k (.s off len sz))])
   |_=>none
  |none=>none
 |_=>none
def Baf{ts:Array TypeId}(ho:o.op = .call { callee:=.builtin .len,args:=#[x],argTypes:=ts })(h:Bae P st ts x=some out):Bp P o st out:=by
 unfold Bae at h;split at h
 ·rename_i k off len sz hx;split at h
  ·rename_i t ht0;split at h
   ·rename_i e ht;cases h;exact Aa (Cy hx) fun X=>Ai8 ho ht0 ht
   ·cases h
  ·cases h
 ·cases h
def As6(P:Program)(st:Af)(t:TypeId)(x y:Operand):A3 Out :=
 match Av st x with
 |some (.nm k (.s off len sz))=>match Fa P t,xd st y,Amw st y with
  |some (_,sz',_),some b,some n=>cond (Nat.beq sz' sz) (cond (decide (0≤n∧n<(len:Int))) (some (B0 st (.nm k (.p (off+n.toNat*sz))) [(x,.nm k (.s off len sz)),(y,.d b)])) none) none
  |_,_,_=>none
 |_=>none
def B0o{y:Operand}(ho:o.op = .indexAddr t x y)(h:As6 P st t x y=some out):Bp P o st out:=by
 unfold As6 at h;split at h
 ·rename_i k off len sz hx;split at h
  ·rename_i e sz' by0 b n hs hb hn;cases h1:Nat.beq sz' sz with
   |false=>simp[h1]at h
   |true =>
   cases h2:decide (0≤n∧n<(len:Int)) with
   |false=>simp[h1,h2]at h
   |true =>
   simp only[h1,h2,Bov,Bp0]at h;subst h;have e1:=Boy h1;subst e1;obtain⟨c0,c1⟩:=Bte h2;obtain⟨a,kk,ha,had⟩:=Qf hn;rw[hb]at ha;cases ha;refine Aa ?_ fun X=>?_
   ·intro p hp;simp only[Ay,Bp3,Bpz,Boz,Bpt,Bqy]at hp;rcases hp with rfl|rfl
    ·exact Aj hx
    ·exact A2h hb
   ·have:=Zw (P:=P) (X:=X) (k:=k) (off:=off) (j:=kk) ho (C4 hs) c0 c1;simp only[Ay,Bp3,Bpz,XV.a,had];exact this
  ·cases h
 ·cases h
structure XG where
 run:Program→Oper→Af→Option Out
end
end Go.Xl
namespace Go.Ab
variable{B:B8}{g:Gh}{w:World}{X:A5}
def HR.beta{nm:A2 Nat}(h:HR nm B g w X)(hl:X.live=[])(n:Nat):g.β n=none:=by
 have:=h.live n;rw[hl]at this;cases hb:g.β n with
 |none=>rfl
 |some x=>rw[hb]at this;simp at this
def HR.Bia{nm:A2 Nat}(h:HR nm B g w X)(hl:X.live=[]):HR nm (B8.of g w X) g w X :=
 ⟨fun k hk=>⟨rfl,(h.D4 k hk).2⟩,h.Ip,Bpa _,⟨rfl,rfl,rfl,Bpa _⟩,.refl _ _,fun _ _ _=>⟨rfl,rfl⟩,h.objs,h.Fq,h.Br,fun k o hk=>.inr (.inl ⟨k,o,hk,rfl⟩),h.live,h.Bw,h.Ba,
  fun n b hn=>.inr (.inr ⟨n,hn⟩),h.C7,.off (h.beta hl)⟩
section
variable{P:Program}{F:Fence}{n:Nat}{ops:Array Oper}{Q:Exit→Act→World→Prop}{a:Act}{w:World}{Boq:A2 Oper}{o:Oper}
end
structure Bo1(w:World)(m it:Nat)(es:Array MapEntry)(clock:Nat)(seen:List Nat):Prop where
 map:w.heap[m]? = some (.map es clock)
 iter:w.heap[it]? = some (.mapIter (some m) clock seen.toArray clock)
mutual
def A06:AV→Bool
 |.d _=>true
 |.nm _ _=>true
 |.Be _ _ _ _=>false
 |.Vs _ _ _=>false
 |.F2 l=>Ef l
 |.agg l=>Ef l
 |.F1 _ l=>Ef l
def Ef:List AV→Bool
 |[]=>true
 |x::r=>A06 x&&Ef r
end
def Wr{l:A2 AV}(h:Ef l=true){i:Nat}{x:AV}(hx:l[i]? = some x):A06 x=true:=by
 induction l generalizing i with
 |nil=>simp at hx
 |cons y r ih =>
  simp only[Ef,Bq4]at h;cases i with
  |zero=>simp at hx;subst hx;exact h.1
  |succ i=>exact ih h.2 (by simpa using hx)
def V9:Ob→Bool
 |.cells cs _=>Ef cs
 |.Cf _ _ _ _=>false
 |_=>true
variable{gc:Gh}{f:Nat→Nat}{ns:A2 Nat}
theorem RA.pull(hγ:gc.γ=g.γ)(hρ:∀k,gc.ρ k=g.ρ (f k)):∀(x:AV) (v:Value),A06 x=true→RA g w (Dk f x) v→RA gc w x v
 |.d x,v,_,h=>by
  simp only[Dk]at h;cases h with
  |d _ _ h=>exact .d _ _ (hγ▸h)
 |.nm k p,v,hn,h=>by
  simp only[Dk]at h;cases h with
  |nm _ _ _ h=>exact .nm k p v (by rw[hρ k];exact h)
 |.Be n sz es ty,v,hn,h=>by simp[A06]at hn
 |.Vs n e cs,v,hn,h=>by simp[A06]at hn
 |.F2 l,v,hn,h=>by
  simp only[Dk,G3]at h;cases h with
  |F2 _ vs hl hx =>
   refine .F2 l vs (by simpa using hl) fun i x v h1 h2=>?_
   have:SizeOf.sizeOf x<SizeOf.sizeOf l:=Br6 (Bpu h1);exact RA.pull hγ hρ x v (Wr (by simpa[A06]using hn) h1) (hx i _ v (by rw[Bp1,h1];rfl) h2)
 |.agg l,v,hn,h=>by
  simp only[Dk,G3]at h;cases h with
  |agg _ vs hl hx =>
   refine .agg l vs (by simpa using hl) fun i x v h1 h2=>?_
   have:SizeOf.sizeOf x<SizeOf.sizeOf l:=Br6 (Bpu h1);exact RA.pull hγ hρ x v (Wr (by simpa[A06]using hn) h1) (hx i _ v (by rw[Bp1,h1];rfl) h2)
 |.F1 c l,v,hn,h=>by
  simp only[Dk,G3]at h;cases h with
  |F1 _ _ vs hl hx =>
   refine .F1 c l vs (by simpa using hl) fun i x v h1 h2=>?_
   have:SizeOf.sizeOf x<SizeOf.sizeOf l:=Br6 (Bpu h1);exact RA.pull hγ hρ x v (Wr (by simpa[A06]using hn) h1) (hx i _ v (by rw[Bp1,h1];rfl) h2)
termination_by x=>x
theorem Bv.pull(hγ:gc.γ=g.γ)(hρ:∀k,gc.ρ k=g.ρ (f k)){b:Nat}{o:Ob}(hn:V9 o=true)(h:Bv g w b (E6 f o)):Bv gc w b o:=by
 cases o with
 |cells cs ty =>
  simp only[E6,G3]at h;cases h with
  |cells _ _ arr T hb hl hc h4 =>refine .cells cs ty arr T hb (by simpa using hl) (fun i x v hx hv=>?_) h4;exact RA.pull hγ hρ x v (Wr (by simpa[V9]using hn) hx) (hc i _ v (by rw[Bp1,hx];rfl) hv)
 |map l c =>
  simp only[E6]at h;cases h with
  |map _ _ es hb hl hc h4 h5=>exact .map l c es hb hl (fun i x e hx he=>⟨(hc i x e hx he).1,(hc i x e hx he).2.1,hγ▸(hc i x e hx he).2.2⟩) h4 h5
 |Vt s pos=>simp only[E6]at h;cases h with|Vt _ _ hb=>exact .Vt s pos hb
 |Jo k since seen last =>
  simp only[E6]at h;cases h with
  |Jo _ _ _ _ hb=>exact .Jo k since seen last (by rw[hρ k];exact hb)
 |Dl=>simp only[E6]at h;cases h with|Dl hb=>exact .Dl hb
 |Cf L sz l c=>simp[V9]at hn
def Gh.pull(g:Gh)(f:Nat→Nat):Gh:={ γ:=g.γ,β:=fun _=>none,ρ:=fun k=>g.ρ (f k) }
variable{Y:A5}
theorem HR.pull{nm:A2 Nat}(hr:HR nm B g w X)(hl:Y.live=[])(Vu:∀k o,Y.objs.lookup k=some o→X.objs.lookup (f k)=some (E6 f o))
  (Aq7:∀k k' o o',Y.objs.lookup k=some o→Y.objs.lookup k'=some o'→f k=f k'→k=k') (hnt:∀k o,Y.objs.lookup k=some o→V9 o=true)
  (hns:∀k∈ns,f k=k∧k∈nm∧(Y.objs.lookup k).isSome):HR ns B (g.pull f) w Y:=by
 refine⟨?_,hr.Ip,hr.base,hr.io,hr.le,hr.frame,?_,?_,?_,?_,?_,by simp[Gh.pull],by simp[Gh.pull],by simp[Gh.pull],by simp[Gh.pull],.off fun _=>rfl⟩
 ·intro k hk;obtain⟨h1,h2,h3⟩:=hns k hk;exact⟨by show g.ρ (f k)=_;rw[h1];exact(hr.D4 k h2).1,h3⟩
 ·intro k o hk;exact Bv.pull (g:=g) (gc:=g.pull f) (f:=f) rfl (fun _=>rfl) (hnt k o hk) (hr.objs _ _ (Vu k o hk))
 ·intro k o hk;exact hr.Fq _ _ (Vu k o hk)
 ·intro k k' o o' hk Lb he;exact Aq7 k k' o o' hk Lb (hr.Br _ _ _ _ (Vu k o hk) (Vu k' o' Lb) he)
 ·intro k o hk;exact hr.Ca _ _ (Vu k o hk)
 ·intro n;rw[hl];simp[Gh.pull]
def Awi(P:Program)(f:FuncId)(ns:A2 Nat)(args:A2 AV)(gs:A2 (Nat×AV))(X:A5)(res:AV)(X':A5):Prop :=
 ∀(g:Gh) (w:World) (vs:Array Value),HR ns (B8.of g w X) g w X→GH g w gs→args.length=vs.size →
  (∀(i:Nat) x v,args[i]? = some x→vs[i]? = some v→RA g w x v) →
  Calls P f vs w fun e w'=>∃g' v,e = .returned v∧RA g' w' res v∧HR ns (B8.of g w X) g' w' X'
structure As7(ns:List Nat)(X Xc Cw Y:A5)(f:Nat→Nat)(F:List Nat):Prop where
 live:Xc.live=[]∧Cw.live=[]∧Y.live=X.live
 Tf:∀k o,Xc.objs.lookup k=some o→X.objs.lookup (f k)=some (E6 f o)
 Bms:∀k o,Xc.objs.lookup k=some o→V9 o=true
 Bkr:∀k o,Cw.objs.lookup k=some o→∃ks,Iu ks o=true∧∀j∈ks,(Cw.objs.lookup j).isSome
 inj:∀k k',(Xc.objs.lookup k).isSome∨(Cw.objs.lookup k).isSome→(Xc.objs.lookup k').isSome∨(Cw.objs.lookup k').isSome→f k=f k'→k=k'
 nsi:∀k∈ns,(Xc.objs.lookup k).isSome∧(Cw.objs.lookup k).isSome
 yin:∀k o,Cw.objs.lookup k=some o→Y.objs.lookup (f k)=some (E6 f o)
 Bmt:∀j o,Y.objs.lookup j=some o→(∃k,(Cw.objs.lookup k).isSome∧f k=j)∨(X.objs.lookup j=some o∧(∀k,(Xc.objs.lookup k).isSome→f k≠j)∧(F=[]∨F4 F o=true))
 D4:∀j<1000,(X.objs.lookup j).isSome→(Y.objs.lookup j).isSome∧∀k,f k=j→(Cw.objs.lookup k).isSome→k∈ns
 free:∀k,(Cw.objs.lookup k).isSome→k∈ns∨f k∈F
def Ws{α:Type}{x:A3 α}(h:x.isSome):∃y,x=some y:=Bps.1 h
section
variable{P:Program}{X:A5}
def Awi.use{fn:FuncId}{xs:A2 AV}{gs:A2 (Nat×AV)}{res:AV}{Xc Cw:A5}(hs:Awi P fn ns xs gs Xc res Cw)(hgd:Az (gs.map (·.2))=true){F:A2 Nat}(hc:As7 ns X Xc Cw Y f F)
  (hd:Ef xs=true) (Vv:∃ks,Cd ks res=true∧∀j∈ks,(Cw.objs.lookup j).isSome) {nm:A2 Nat} (Ej:∀j∈nm,j<1000)   
  (hr:HR nm B g w X) (hgs:GH g w gs) {vs:Array Value} (hl:xs.length=vs.size) (Pk:∀(i:Nat) x v,(Db f xs)[i]? = some x→vs[i]? = some v→RA g w x v) :
  Calls P fn vs w fun e w'=>∃v g',e = .returned v∧HR nm B g' w' Y∧Trans F g w g' w'∧RA g' w' (Dk f res) v:=by
 classical
 let gc:Gh:=g.pull f;have h0:HR ns (B8.of gc w Xc) gc w Xc:=by have h1:HR [] B gc w Xc:=hr.pull hc.live.1 hc.Tf (fun k k' o o' hk Lb he=>hc.inj k k' (.inl (by rw[hk];rfl)) (.inl (by rw[Lb];rfl)) he) hc.Bms (by simp);have h2:=h1.Bia hc.live.1;exact⟨fun k hk=>⟨rfl,(hc.nsi k hk).1⟩,h2.Ip,h2.base,h2.io,h2.le,h2.frame,h2.objs,h2.Fq,h2.Br,h2.Ca,h2.live,h2.Bw,h2.Ba,h2.C3,h2.C7,h2.eta⟩
 have hgc:GH gc w gs:=by intro p hp;have h1:=hgs p hp;obtain⟨i,hi⟩:=Bu0 hp;exact h1.data (Ix hgd (i:=i) (by rw[Bp1,hi];rfl)) (.refl _ _)
 have:=hs gc w vs h0 hgc hl fun i x v hx hv=>RA.pull (g:=g) (gc:=g.pull f) (f:=f) rfl (fun _=>rfl) x v (Wr hd hx) (Pk i _ v (by rw[G3,Bp1,hx];rfl) hv)
 refine this.mono ?_;rintro e w' ⟨g1,v,rfl,Ua,h1⟩;let ρ':Nat→Nat:=fun j=>if h:∃k,(Cw.objs.lookup k).isSome∧f k=j then g1.ρ h.choose else g.ρ j
 have Hr:∀k,(Cw.objs.lookup k).isSome→ρ' (f k)=g1.ρ k:=by intro k hk;have h:∃k',(Cw.objs.lookup k').isSome∧f k'=f k:=⟨k,hk,rfl⟩;have:=hc.inj _ _ (.inr h.choose_spec.1) (.inr hk) h.choose_spec.2;simp only[ρ',h,dif_pos];rw[this]
 have D5:∀j,(∀k,(Cw.objs.lookup k).isSome→f k≠j)→ρ' j=g.ρ j:=by
  intro j hj;have:¬ ∃k,(Cw.objs.lookup k).isSome∧f k=j:=fun⟨k,h,e⟩=>hj k h e
  simp only[ρ',this,dif_neg,not_false_iff]
 have hold:∀k∈ns,g1.ρ k=g.ρ (f k):=fun k hk=>(h1.D4 k hk).1
 have hna:∀b,(¬ ∃k o,Xc.objs.lookup k=some o∧g.ρ (f k)=b)→¬(B8.of gc w Xc).allowed b:=by
  rintro b hb (⟨k,o,hk,he⟩|⟨n,hn⟩)
  ·exact hb ⟨k,o,hk,he⟩
  ·cases hn
 have Qs:∀b,b<w.heap.size→(¬ ∃k o,Xc.objs.lookup k=some o∧g.ρ (f k)=b)→w'.heap[b]? = w.heap[b]?∧g1.γ b=g.γ b:=fun b hb hn=>h1.frame b hb (hna b hn)
 have Hc:w.heap.size≤w'.heap.size:=h1.base;have hle:LeD g.γ w g1.γ w':=h1.le;have A38:∀n b,g.β n=some (some b)→w'.heap[b]? = w.heap[b]?∧g1.γ b=g.γ b:=by intro n b hn;refine Qs b (hr.C7 n b hn) ?_;rintro ⟨k,o,hk,he⟩;exact hr.Ba n b _ _ hn (hc.Tf k o hk) he.symm
 have A39:∀L i b,(g.β L).isSome→g.η L i=some b→w'.heap[b]? = w.heap[b]?∧g1.γ b=g.γ b:=by intro L i b hL hb;refine Qs b (hr.eta.lt L i b hL hb) ?_;rintro ⟨k,o,hk,he⟩;exact hr.eta.obj L i b _ _ hL hb (hc.Tf k o hk) he.symm
 have A3a:∀j o,X.objs.lookup j=some o→(∀k,(Xc.objs.lookup k).isSome→f k≠j)→w'.heap[g.ρ j]? = w.heap[g.ρ j]?∧g1.γ (g.ρ j)=g.γ (g.ρ j):=by intro j o hj hne;refine Qs _ (Et (hr.objs j o hj)) ?_;rintro ⟨k,o',hk,he⟩;exact hne k (by rw[hk];rfl) (hr.Br _ _ _ _ (hc.Tf k o' hk) hj he)
 have As8:∀k o,Cw.objs.lookup k=some o→w.heap.size≤g1.ρ k∨∃k0 o0,Xc.objs.lookup k0=some o0∧g1.ρ k=g.ρ (f k0):=by
  intro k o hk;rcases h1.Ca k o hk with h|h|⟨n,hn⟩
  ·exact .inl h
  ·obtain⟨k0,o0,h2,h3⟩:=h;exact .inr ⟨k0,o0,h2,h3.symm⟩
  ·cases hn
 have ht:Trans F g w { γ:=g1.γ,β:=g.β,ρ:=ρ',η:=g.η } w':=by
  refine⟨hle,?_,fun n ob _ he=>⟨he,fun b hb=>⟨(A38 n b (hb▸he)).2,(A38 n b (hb▸he)).1⟩⟩,fun L _ hL=>⟨rfl,fun i b hb=>⟨(A39 L i b hL hb).2,(A39 L i b hL hb).1⟩⟩⟩;intro j hj;simp only;by_cases h:∃k,(Cw.objs.lookup k).isSome∧f k=j
  ·obtain⟨k,hk,rfl⟩:=h;rw[Hr k hk];rcases hc.free k hk with h|h
   ·exact hold k h
   ·exact(hj h).elim
  ·exact D5 j fun k hk e=>h ⟨k,hk,e⟩
 have hY:∀j o,Y.objs.lookup j=some o→(∃k o',Cw.objs.lookup k=some o'∧f k=j∧o=E6 f o')∨((∀k,(Cw.objs.lookup k).isSome→f k≠j)∧X.objs.lookup j=some o∧(∀k,(Xc.objs.lookup k).isSome→f k≠j)∧(F=[]∨F4 F o=true)):=by
  intro j o hj;by_cases h:∃k,(Cw.objs.lookup k).isSome∧f k=j
  ·obtain⟨k,hk,rfl⟩:=h;obtain⟨o',ho'⟩:=Ws hk;have:=hc.yin k o' ho';rw[hj]at this;exact .inl ⟨k,o',ho',rfl,by simpa using this⟩
  ·rcases hc.Bmt j o hj with h2|h2
   ·exact(h h2).elim
   ·exact .inr ⟨fun k hk e=>h ⟨k,hk,e⟩,h2⟩
 have A1h:∀k o,Cw.objs.lookup k=some o→ρ' (f k)=g1.ρ k:=fun k o hk=>Hr k (by rw[hk];rfl)
 have mix:∀k o,Cw.objs.lookup k=some o→∀j p,X.objs.lookup j=some p→(∀k,(Xc.objs.lookup k).isSome→f k≠j)→g1.ρ k≠g.ρ j:=by
  intro k o hk j p hj hne he;rcases As8 k o hk with h|⟨k0,o0,h2,h3⟩
  ·have:=Et (hr.objs j p hj);omega
  ·rw[h3]at he;exact hne k0 (by rw[h2];rfl) (hr.Br _ _ _ _ (hc.Tf k0 o0 h2) hj he)
 refine⟨v,{ γ:=g1.γ,β:=g.β,ρ:=ρ',η:=g.η },rfl,⟨?_,h1.Ip,Bqf hr.base Hc,⟨h1.io.1.trans hr.io.1,h1.io.2.1.trans hr.io.2.1,h1.io.2.2.1.trans hr.io.2.2.1,Bqf hr.io.2.2.2 h1.io.2.2.2⟩,hr.le.trans hle,?_,?_,?_,?_,?_,?_,hr.Bw,?_,hr.C3,?_,hr.eta.step (fun L hL=>.inl ⟨hL,rfl⟩) Hc (fun n b hb=>.inl ⟨n,hb⟩) fun j o hj=>?_⟩,ht,?_⟩
 ·intro j hj;obtain⟨h2,h3⟩:=hr.D4 j hj;obtain⟨h4,h5⟩:=hc.D4 j (Ej j hj) h3;refine⟨?_,h4⟩;simp only;by_cases h:∃k,(Cw.objs.lookup k).isSome∧f k=j
  ·obtain⟨k,hk,rfl⟩:=h;rw[Hr k hk,hold k (h5 k rfl hk)];exact h2
  ·rw[D5 j fun k hk e=>h ⟨k,hk,e⟩];exact h2
 ·intro b hb hnb;have h2:=hr.frame b hb hnb;have h3:=Qs b (Bqv hb hr.base) (by
   rintro ⟨k,o,hk,he⟩;rcases hr.Ca _ _ (hc.Tf k o hk)with h|h
   ·rw[he]at h;omega
   ·rw[he]at h;exact hnb h)
  exact⟨h3.1.trans h2.1,h3.2.trans h2.2⟩
 ·intro j o hj;rcases hY j o hj with ⟨k,o',hk,rfl,rfl⟩|⟨hne,Gb,Ub,hfr⟩
  ·simp only;rw[A1h k o' hk];obtain⟨ks,q1,q2⟩:=hc.Bkr k o' hk;exact Bv.Ant (g:={ γ:=g1.γ,β:=g.β,ρ:=ρ',η:=g.η }) (gc:=g1) rfl (fun j hj=>Hr j (q2 j hj)) q1 (h1.objs _ _ hk)
  ·simp only;rw[D5 j hne];exact(hr.objs j o Gb).D4 ht (A3a j o Gb Ub).1 hfr
 ·intro j o hj;rcases hY j o hj with ⟨k,o',hk,rfl,rfl⟩|⟨hne,Gb,Ub,hfr⟩
  ·simp only;rw[A1h k o' hk];exact h1.Fq _ _ hk
  ·simp only;rw[D5 j hne,(A3a j o Gb Ub).2];exact hr.Fq j o Gb
 ·intro j j' o o' hj Gb he;simp only at he;rcases hY j o hj with ⟨k,p,hk,e1,_⟩|⟨hne,hj1,Bmu,_⟩<;>rcases hY j' o' Gb with ⟨k',q,Lb,e2,_⟩|⟨Ub,Auw,Bks,_⟩
  ·rw[← e1,← e2]at he⊢;rw[A1h k p hk,A1h k' q Lb]at he;rw[h1.Br _ _ _ _ hk Lb he]
  ·rw[← e1,A1h k p hk,D5 j' Ub]at he;exact(mix k p hk j' o' Auw Bks he).elim
  ·rw[← e2,A1h k' q Lb,D5 j hne]at he;exact(mix k' q Lb j o hj1 Bmu he.symm).elim
  ·rw[D5 j hne,D5 j' Ub]at he;exact hr.Br j j' o o' hj1 Auw he
 ·intro j o hj;rcases hY j o hj with ⟨k,o',hk,rfl,rfl⟩|⟨hne,Gb,Ub,hfr⟩
  ·simp only;rw[A1h k o' hk];rcases As8 k o' hk with h|⟨k0,o0,h2,h3⟩
   ·exact .inl (Bqf hr.base h)
   ·rw[h3];exact hr.Ca _ _ (hc.Tf k0 o0 h2)
  ·simp only;rw[D5 j hne];exact hr.Ca j o Gb
 ·intro n;rw[hc.live.2.2];exact hr.live n
 ·intro n b j o hn hj;rcases hY j o hj with ⟨k,o',hk,rfl,rfl⟩|⟨hne,Gb,Ub,hfr⟩
  ·simp only;rw[A1h k o' hk];rcases As8 k o' hk with h|⟨k0,o0,h2,h3⟩
   ·have:=hr.C7 n b hn;omega
   ·rw[h3];exact hr.Ba n b _ _ hn (hc.Tf k0 o0 h2)
  ·simp only;rw[D5 j hne];exact hr.Ba n b j o hn Gb
 ·intro n b hn;exact Bqv (hr.C7 n b hn) Hc
 ·rcases hY j o hj with ⟨k,o',hk,rfl,rfl⟩|⟨hne,Gb,Ub,hfr⟩
  ·simp only;rw[A1h k o' hk];rcases As8 k o' hk with h|⟨k0,o0,h2,h3⟩
   ·exact .inr (.inl h)
   ·exact .inl ⟨f k0,_,hc.Tf k0 o0 h2,h3⟩
  ·simp only;rw[D5 j hne];exact .inl ⟨j,o,Gb,rfl⟩
 ·obtain⟨ks,q1,q2⟩:=Vv;exact RA.Ant (g:={ γ:=g1.γ,β:=g.β,ρ:=ρ',η:=g.η }) (gc:=g1) rfl (fun j hj=>Hr j (q2 j hj)) Ua q1
end
end Go.Ab
namespace Go.Xl
open Go.Ab
section
variable{P:Program}
def A3x{kt vt:Ty}(b:Nat):G0 kt vt→A3 (Nat×kt.T×vt.T)
 |[]=>none
 |e::r=>cond (Nat.beq e.1 b) (some e) (A3x b r)
theorem Aoj{kt vt:Ty}{b:Nat}{e:Nat×kt.T×vt.T}:∀ {l:G0 kt vt},A3x b l=some e→e.1=b∧∃i:Nat,l[i]? = some e
 |[],h=>by simp[A3x]at h
 |x::r,h=>by
  simp only[A3x]at h;cases hb:Nat.beq x.1 b with
  |true =>simp only[hb,Bov,Bp0]at h;subst h;exact⟨Boy hb,0,rfl⟩
  |false =>simp only[hb,Box]at h;obtain⟨h1,i,h2⟩:=Aoj h;exact⟨h1,i+1,by simpa using h2⟩
def P5:A2 Nat→A3 (A2 Nat×Nat)
 |[]=>none
 |[b]=>some ([],b)
 |a::r=>match P5 r with
  |some (p,b)=>some (a::p,b)
  |none=>none
theorem Awj:∀ {l p:A2 Nat} {b:Nat},P5 l=some (p,b)→l=p++[b]
 |[],p,b,h=>by simp[P5]at h
 |[x],p,b,h=>by
  simp only[P5,Bp0,Bpm]at h;obtain⟨rfl,rfl⟩:=h;rfl
 |a::c::r,p,b,h=>by
  simp only[P5]at h;split at h
  ·rename_i p' b' h';simp only[Bp0,Bpm]at h;obtain⟨rfl,rfl⟩:=h;have:=Awj (l:=c::r) h';rw[this];rfl
  ·cases h
variable{m clock since:Nat}
def B0p{w:World}{it:Nat}{es:Array MapEntry}{seen:A2 Nat}{e:MapEntry}(hm:w.heap[m]? = some (.map es clock))(hi:w.heap[it]? = some (.mapIter (some m) since (seen++[e.born]).toArray clock))(he:e∈es)(hnd:(es.toList.map (·.born)).Nodup) :
  (Instr.entry (.pointer (some ⟨it,0,none⟩))).run P w = .ok (.tuple #[e.key,e.val]) w:=by
 have hg:=R1 (P:=P) hi;have hgm:=Bry (P:=P) hm;have hf:es.find? (fun x=>x.born==e.born)=some e:=by
  rw[← Array.find?_toList];have:∀l:A2 MapEntry,(l.map (·.born)).Nodup→e∈l→l.find? (fun x=>x.born==e.born)=some e:=by
   intro l;induction l with
   |nil=>intro _ h;simp at h
   |cons x r ih =>
    intro hn hm;simp only[Bp3,Bqg]at hn;rw[List.find?_cons];rcases Boz.1 hm with rfl|hm
    ·simp
    ·have hne:(x.born==e.born)=false:=by simp only[Bsb];intro hx;exact hn.1 (hx▸Bpe (f:=(·.born)) hm)
     rw[hne];exact ih hn.2 hm
  exact this _ hnd (by simpa using he)
 simp only[Instr.entry,Bq5,hg,Bpr];simp[hf,hgm,Result.andThen]
variable{o:Oper}{x:Operand}
def As9{X:A5}{kt vt:Ty}{k:Nat}{seen:A2 Nat}{es:G0 kt vt}{e:Nat×kt.T×vt.T}{i:Nat}(ho:o.op = .entry x)(S8:kt.key=true)
  (hm:X.objs.lookup m=some (.Jo k since (seen++[e.1]).toArray clock)) (hk:X.objs.lookup k=some (A6v kt vt es clock)) (he:es[i]? = some e) :
  Bi P o [(x,.ptr m 0)] X X [] (.F2 [.d (kt.dv e.2.1),.d (vt.dv e.2.2)]) :=
 .quiet fun _ _ g w ac hr Au=>by
  have e1:=(Is Au).Ko;simp only at e1;have hb:=Adx (hr.objs m _ hm);obtain⟨C2,hw⟩:=A1d S8 (hr.objs k _ hk);have hi:i<C2.size:=by have:=(Bp2.1 he).1;rw[hw.len]at this;exact this
  obtain⟨q1,q2,q3⟩:=hw.at' i e C2[i] he (by simp[hi]);have hnd:(C2.toList.map (·.born)).Nodup:=by
   have:C2.toList.map (·.born)=es.map (·.1):=by
    apply Bsc;intro j;simp only[Bp1];cases h1:es[j]? with
    |none =>
     have:C2.size≤j:=by have:=List.getElem?_eq_none_iff.1 h1;rw[hw.len]at this;exact this
     rw[Bqz (by simpa using this)];rfl
    |some y =>
     have hj:j<C2.size:=by have:=(Bp2.1 h1).1;rw[hw.len]at this;exact this
     have:=(hw.at' j y C2[j] h1 (by simp[hj])).1;simp[hj,this]
   rw[this];exact hw.nodup
  refine⟨.tuple #[C2[i].key,C2[i].val],?_,?_⟩
  ·have:=B0p (P:=P) (e:=C2[i]) (seen:=seen) hw.heap (by rw[q1];exact hb) (Bvi hi) hnd;simp only[execOp,ho,e1,this,Bq5,Bpr,Bsm]
  ·refine .F2 _ _ rfl fun i c u hc hu=>?_
   rcases i with _|_|i
   ·simp at hc hu;subst hc;subst hu;refine .d _ _ ?_;rw[q2];exact kt.B39 _ S8
   ·simp at hc hu;subst hc;subst hu;exact .d _ _ q3
   ·simp at hc
def B0q(st:Af)(x:Operand):A3 Out :=
 match Av st x with
 |some (.nm m (.p 0))=>match lk m st.objs with
  |some (.Jo k since seen last)=>match lk k st.objs,P5 seen with
   |some (.map kt vt es clock),some (p,b)=>cond kt.key (cond (Nat.beq clock last) (match A3x b es with
    |some e=>some ⟨.look [m,k],.F2 [.d (kt.xv e.2.1),.d (vt.xv e.2.2)],[(x,.nm m (.p 0))],st.objs,st.live,[],[]⟩
    |none=>none) none) none
   |_,_=>none
  |_=>none
 |_=>none
def B6m{st:Af}{out:Out}(ho:o.op = .entry x)(h:B0q st x=some out):Bp P o st out:=by
 unfold B0q at h;split at h
 rotate_left
 ·cases h
 rename_i m hx;split at h
 rotate_left
 ·cases h
 rename_i k since seen last hm;split at h
 rotate_left
 ·cases h
 rename_i kt vt es clock p b hk hl;obtain⟨S8,h1⟩:=c2 h;clear h;obtain⟨hcl,h⟩:=c2 h1;clear h1;replace hcl:=Boy hcl;subst hcl;cases he:A3x b es with
 |none=>rw[he]at h;cases h
 |some e =>
 rw[he]at h;simp only[Bp0]at h;subst h;obtain⟨e1,i,e2⟩:=Aoj he;have hs:=Awj hl;rw[← e1]at hs;refine⟨Cy hx,⟨rfl,rfl,rfl,fun X hX=>?_⟩,fun _ _ _ h=>h⟩;refine As9 (k:=k) (i:=i) (seen:=p) (since:=since) (clock:=clock) (es:=es) ho S8 ?_ ?_ e2
 ·rw[← hs];exact(hX m (by simp)).trans (Zc hm)
 ·exact(hX k (by simp)).trans (Pv hk)
end
def A6{α β:Type}(x:A3 α)(a:β)(f:α→β):β :=
 match x with
 |none=>a
 |some y=>f y
section
variable{P:Program}{R:Type}
def Asa(st:Af)(x:Operand)(K:Out→A3 R):A3 R :=
 match Av st x with
 |some (.nm m (.p 0))=>match lk m st.objs with
  |some (.Jo k since seen last)=>match lk k st.objs with
   |some (.map kt vt es clock)=>cond kt.key (cond (Nat.beq clock last) (A6 (P5 seen) none fun p=>A6 (A3x p.2 es) none fun e =>
    K ⟨.look [m,k],.F2 [.d (kt.xv e.2.1),.d (vt.xv e.2.2)],[(x,.nm m (.p 0))],st.objs,st.live,[],[]⟩) none) none
   |_=>none
  |_=>none
 |_=>none
variable{o:Oper}
def B0r{st:Af}{x:Operand}{K:Out→A3 R}{r:R}(ho:o.op = .entry x)(h:Asa st x K=some r):∃out,K out=some r∧Bp P o st out:=by
 unfold Asa at h;split at h
 ·rename_i m hx;split at h
  ·rename_i k since seen last hm;split at h
   ·rename_i kt vt es clock hk;cases h1:kt.key with
    |false=>simp[h1]at h
    |true =>
    cases h2:Nat.beq clock last with
    |false=>simp[h1,h2]at h
    |true =>
     simp only[h1,h2,Bov]at h;cases h3:P5 seen with
     |none=>rw[h3]at h;cases h
     |some p =>
      rw[h3]at h;simp only[A6]at h;cases h4:A3x p.2 es with
      |none=>rw[h4]at h;cases h
      |some e =>rw[h4]at h;refine⟨_,h,B6m ho ?_⟩;obtain⟨p1,p2⟩:=p;simp only at h4;unfold B0q;simp only[hx,hm,hk,h3,h1,h2,Bov,h4]
   ·cases h
  ·cases h
 ·cases h
def B3j(x:A3 Out)(K:Out→A3 R):A3 R :=
 match x with
 |some out=>K out
 |none=>none
def A8m{x:A3 Out}{K:Out→A3 R}{r:R}(h:B3j x K=some r):∃out,x=some out∧K out=some r:=by
 cases x with
 |none=>cases h
 |some out=>exact⟨out,rfl,h⟩
def B3k(P:Program)(t:TypeId):Bool :=
 match P.underlying t with
 |some (.slice e)=>match P.underlying e with
  |some (.map _ _)=>true
  |_=>false
 |_=>false
def Bag(st:Af)(x:Operand):Bool :=
 match Av st x with
 |some (.nm _ (.s _ _ _))=>true
 |_=>false
def B3l(st:Af)(c:Call):Bool :=
 match c.callee with
 |.builtin .len=>match c.args.toList with
  |[x]=>Bag st x
  |_=>false
 |_=>false
def Bah(P:Program)(st:Af)(c:Call)(K:Out→A3 R):A3 R :=
 match c.callee with
 |.builtin .len=>match c.args.toList with
  |[x]=>B3j (Bae P st c.argTypes x) K
  |_=>none
 |_=>none
def Bai{st:Af}{c:Call}{K:Out→A3 R}{r:R}(ho:o.op = .call c)(h:Bah P st c K=some r):∃out,K out=some r∧Bp P o st out:=by
 obtain⟨cal,args,ts⟩:=c;unfold Bah at h;simp only at h;split at h
 ·split at h
  ·rename_i x hl;have:=Ys (c:=⟨.builtin .len,args,ts⟩) hl;simp only at this;subst this;obtain⟨out,h1,h2⟩:=A8m h;exact⟨out,h2,Baf ho h1⟩
  ·cases h
 ·cases h
end
structure Ft(P:Program) where
 id:FuncId
 run:{R:Type}→Oper→Af→List XV→(Out→Option R)→Option R
 ok:∀ {R:Type} (o:Oper) (st:Af) (args:Array Operand) (ts:Array TypeId) (vs:List XV) (K:Out→Option R) (r:R),
  o.op = .call { callee:=.value (.func id),args:=args,argTypes:=ts }→Bx st args.toList=some vs→run o st vs K=some r→∃out,K out=some r∧Bp P o st out
 Bib:{R:Type}→Oper→Af→List XV→List XV→(Out→Option R)→Option R:=fun _ _ _ _ _=>none
 cok:∀ {R:Type} (o:Oper) (st:Af) (t:Tmp) (Jd:List XV) (args:Array Operand) (ts:Array TypeId) (vs:List XV) (K:Out→Option R) (r:R),
  o.op = .call { callee:=.value (.tmp t),args:=args,argTypes:=ts }→Av st (.tmp t)=some (.F1 id Jd)→Bx st args.toList=some vs→Bib o st Jd vs K=some r→∃out,K out=some r∧Bp P o st out:=by
  intros;contradiction
def Awk{P:Program}(f:FuncId):A2 (Ft P)→A3 (Ft P)
 |[]=>none
 |e::r=>cond (Nat.beq e.id f) (some e) (Awk f r)
theorem Aj6{P:Program}{f:FuncId}:∀ {l:A2 (Ft P)} {e:Ft P},Awk f l=some e→e.id=f
 |[],e,h=>by cases h
 |a::r,e,h=>by
  simp only[Awk]at h;cases hb:Nat.beq a.id f with
  |true=>simp only[hb,Bov,Bp0]at h;subst h;exact Boy hb
  |false=>simp only[hb,Box]at h;exact Aj6 h
def R2(f:FuncId)(o:Oper):Oper :=
 match o.op with
 |.call c=>{ o with op:=.call { c with callee:=.value (.func f) } }
 |_=>o
def Out.B3m(out:Out)(p:Operand×XV):Out:={ out with rd:=p::out.rd }
variable{w:World}{m clock since k d off:Nat}{o:Oper}{X:A5}{x y:XV}{out:Out}{f:FuncId}{F ns kl:A2 Nat}{t:Ty}{s0 s:Af}{b:Bool}{p:A3 Bool}
def Pw{P:Program}{c:Operand}{args:Array Operand}{ts:Array TypeId}{rd:A2 (Operand×AV)}{X':A5}{res:AV}
  (ho:o.op = .call { callee:=.value c,args:=args,argTypes:=ts }) (h:Bi P (R2 f o) rd X X' F res):Bi P o ((c,.F1 f [])::rd) X X' F res:=by
 intro nm Ej B g w a hr Au next Q hn
 have e1:=Au _ (Bp6 ..);simp only at e1;have hc:a.eval c = .func (.func f) #[] #[]:=by
  generalize a.eval c=vc at e1;cases e1 with
  |F1 _ _ vs hlen Pk =>
   have:vs=#[]:=by apply Bqm;simpa using hlen.symm
   rw[this]
 have hd:(R2 f o).dst=o.dst:=by unfold R2;rw[ho]
 have h1:=h nm Ej B g w a hr (fun p hp=>Au p (Bp5 _ hp)) next Q (by rw[hd];exact hn)
 unfold Oper.wp at h1⊢;have e:execOp a.eval (R2 f o)=execOp a.eval o:=by unfold R2;simp only[ho,execOp,resolve];simp only[hc];rfl
 rw[e]at h1;unfold Oper.upon at h1⊢;rw[hd]at h1;exact h1
theorem Bp.callee{P:Program}{o:Oper}{st:Af}{out:Out}{t:Tmp}{f:FuncId}{args:Array Operand}{ts:Array TypeId}(ho:o.op = .call { callee:=.value (.tmp t),args:=args,argTypes:=ts })
  (hs:Av st (.tmp t)=some (.F1 f [])) (h:Bp P (R2 f o) st out):Bp P o st (out.B3m (.tmp t,.F1 f [])):=by
 refine⟨?_,?_,h.ol⟩
 ·intro p hp;simp only[Out.B3m,Ay,Bp3,Boz]at hp;rcases hp with rfl|hp
  ·exact Aj (x:=.tmp t) hs
  ·exact h.Rr p hp
 ·have:=h.op;have e:Ay (out.B3m (.tmp t,.F1 f [])).rd=(.tmp t,.F1 f [])::Ay out.rd:=rfl;show match out.Ur with|.none=>_|.look ks=>_|.put k c=>_|.all=>_|.lab=>_|.O7 k c=>_|.new os=>_
  cases he:out.Ur with
  |none=>rw[he]at this;exact⟨this.1,this.2.1,this.2.2.1,fun X=>Pw ho (this.2.2.2 X)⟩
  |look ks=>rw[he]at this;exact⟨this.1,this.2.1,this.2.2.1,fun X hX=>Pw ho (this.2.2.2 X hX)⟩
  |put k c=>rw[he]at this;exact⟨this.1,this.2.1,this.2.2.1,fun X hX=>Pw ho (this.2.2.2 X hX)⟩
  |all=>rw[he]at this;exact Pw ho this
  |lab=>rw[he]at this;exact⟨this.1,Pw ho this.2⟩
  |O7 k c=>rw[he]at this;exact⟨this.1,Pw ho this.2⟩
  |new os=>rw[he]at this;exact⟨this.1,Pw ho this.2⟩
section
variable{P:Program}{R:Type}
def B0s(P:Program)(st:Af)(op:BinOp)(t:TypeId)(x y:Operand)(K:Out→A3 R):A3 R :=
 match y with
 |.const (.map none)=>match Aob op,P.underlying t with
  |some neg,some (.map _ _)=>match Av st x with
   |some (.nm k .m)=>K (B0 st (.d (.b neg)) [(x,.nm k .m),(.const (.map none),.d (.v (.map none)))])
   |some (.d (.v (.map none)))=>K (B0 st (.d (.b (!neg))) [(x,.d (.v (.map none))),(.const (.map none),.d (.v (.map none)))])
   |_=>none
  |_,_=>none
 |_=>Ba0 P st op t x y K
def B6n{st:Af}{op:BinOp}{t t':TypeId}{x y:Operand}{K:Out→A3 R}{r:R}(ho:o.op = .binOp op t x y t')(h:B0s P st op t x y K=some r):∃out,K out=some r∧Bp P o st out:=by
 have hy:Dx st.im (.const (.map none)) (.d (.sc (.map none))):=Aj (st:=st) (x:=.const (.map none)) (v:=.d (.v (.map none))) rfl;unfold B0s at h;split at h
 ·split at h
  ·rename_i neg k' e hn hu;have:=Ab3 hn;subst this;split at h
   ·rename_i k hx;refine⟨_,h,Aa ?_ fun X=>B0k neg ho hu⟩;intro p hp;simp only[Ay,Bp3,Bpz,Boz,Bpt,Bqy]at hp;rcases hp with rfl|rfl
    ·exact Aj hx
    ·exact hy
   ·rename_i hx;refine⟨_,h,Aa ?_ fun X=>B0l neg ho hu⟩;intro p hp;simp only[Ay,Bp3,Bpz,Boz,Bpt,Bqy]at hp;rcases hp with rfl|rfl
    ·exact Aj hx
    ·exact hy
   ·cases h
  ·cases h
 ·exact Ba1 ho h
end
section
variable(P:Program)(Γ:A2 (Ft P))(own:A2 Nat){R:Type}
def Abb(own:A2 Nat)(o:Oper):Bool :=
 match o.dst with
 |some d=>inl d own
 |none=>false
def Baj(st:Af)(x:Operand):Bool :=
 match Av st x with
 |some v=>Bi5 v
 |none=>false
structure XF where
 run:(P:Program)→(R:Type)→List (Ft P)→List Nat→Oper→Af→(Out→Option R)→Option R
def Bak(c:Call):XF :=
 match c.callee with
 |.builtin .len=>⟨fun P R Γ own o st K=>match c.args.toList with
  |[x]=>cond (Baj st x) (Arx P st c.argTypes x K) (Arb P st c.argTypes x K)
  |_=>none⟩
 |.builtin .cap=>⟨fun P R Γ own o st K=>match c.args.toList with
  |[x]=>Bi3 P st c.argTypes x K
  |_=>none⟩
 |.builtin .max=>⟨fun P R Γ own o st K=>match c.args.toList with
  |[x,y]=>Ar8 st false x y K
  |_=>none⟩
 |.builtin .append=>⟨fun P R Γ own o st K=>match c.args.toList with
  |[x,y]=>cond (Abb own o) (Arc P st o c.argTypes x y K) (cond (Ahb P c.argTypes) (Arr P st o c.argTypes x y K) (Ar9 P st o c.argTypes x y K))
  |_=>none⟩
 |.builtin .clear=>⟨fun P R Γ own o st K=>match c.args.toList with
  |[x]=>B00 P st c.argTypes x K
  |_=>none⟩
 |.builtin .unsafeSliceData=>⟨fun P R Γ own o st K=>match c.args.toList with
  |[x]=>A8g P st o x K
  |_=>none⟩
 |.builtin .unsafeString=>⟨fun P R Γ own o st K=>match c.args.toList with
  |[x,y]=>A3s P st c.argTypes x y K
  |_=>none⟩
 |.value (.func f)=>⟨fun P R Γ own o st K=>match Awk f Γ,Bx st c.args.toList with
  |some e,some vs=>e.run o st vs K
  |_,_=>none⟩
 |.value (.tmp t)=>⟨fun P R Γ own o st K=>match Av st (.tmp t) with
  |some (.F1 f Jd)=>match Awk f Γ,Bx st c.args.toList with
   |some e,some vs=>match Jd with
    |[]=>e.run (R2 f o) st vs fun out=>K (out.B3m (.tmp t,.F1 f []))
    |x::r=>e.Bib o st (x::r) vs K
   |_,_=>none
  |_=>none⟩
 |_=>⟨fun P R Γ own o st K=>none⟩
def Bal(o:Oper)(st:Af)(c:Call)(K:Out→A3 R):A3 R:=(Bak c).run P R Γ own o st K
def Bam{st:Af}{c:Call}{K:Out→A3 R}{r:R}(ho:o.op = .call c)(h:Bal P Γ own o st c K=some r):∃out,K out=some r∧Bp P o st out:=by
 obtain⟨cal,args,ts⟩:=c;unfold Bal Bak at h;dsimp only at h;split at h<;>dsimp only at h
 ·split at h
  ·rename_i x hl;have:=Ys (c:=⟨.builtin .len,args,ts⟩) hl;simp only at this;subst this;cases hm:Baj st x with
   |true=>rw[hm]at h;exact B0g ho h
   |false=>rw[hm]at h;exact Azy ho h
  ·cases h
 ·split at h
  ·rename_i x hl;have:=Ys (c:=⟨.builtin .len,args,ts⟩) hl;simp only at this;subst this;exact Beb ho h
  ·cases h
 ·split at h
  ·rename_i x y hl;have:=Ys (c:=⟨.builtin .len,args,ts⟩) hl;simp only at this;subst this;exact Bea ho h
  ·cases h
 ·split at h
  ·rename_i x y hl;have:=Ys (c:=⟨.builtin .len,args,ts⟩) hl;simp only at this;subst this;cases hw:Abb own o with
   |true=>simp only[hw,Bov]at h;exact Azz ho h
   |false =>
    simp only[hw,Box]at h;cases hb:Ahb P ts with
    |true=>rw[hb]at h;exact B0c ho hb h
    |false=>rw[hb]at h;exact Azx ho h
  ·cases h
 ·split at h
  ·rename_i x hl;have:=Ys (c:=⟨.builtin .len,args,ts⟩) hl;simp only at this;subst this;exact B64 ho h
  ·cases h
 ·split at h
  ·rename_i x hl;have:=Ys (c:=⟨.builtin .len,args,ts⟩) hl;simp only at this;subst this;exact Amy ho h
  ·cases h
 ·split at h
  ·rename_i x y hl;have:=Ys (c:=⟨.builtin .len,args,ts⟩) hl;simp only at this;subst this;exact Aiu ho h
  ·cases h
 ·rename_i f;split at h
  ·rename_i e vs he Pk;have:=Aj6 he;subst this;exact e.ok o st args ts vs K r ho Pk h
  ·cases h
 ·rename_i t;split at h
  ·rename_i f Jd B6o;split at h
   ·rename_i e vs he Pk;have:=Aj6 he;subst this;split at h
    ·obtain⟨out,h1,h2⟩:=e.ok (R2 e.id o) st args ts vs _ r (by unfold R2;rw[ho]) Pk h;exact⟨_,h1,h2.callee ho B6o⟩
    ·exact e.cok o st t _ args ts vs K r ho B6o Pk h
   ·cases h
  ·cases h
 ·cases h
def Ae3(o:Oper)(st:Af)(f:FuncId)(first Jd:Array Operand)(K:Out→A3 R):A3 R :=
 match first.toList with
 |[]=>match Bx st Jd.toList with
  |some vs=>K (B0 st (.F1 f vs) (Jd.toList.zip vs))
  |none=>none
 |_=>none
def Asb{st:Af}{first Jd:Array Operand}{K:Out→A3 R}{r:R}(ho:o.op = .makeFunc (.func f) first Jd)(h:Ae3 o st f first Jd K=some r):∃out,K out=some r∧Bp P o st out:=by
 unfold Ae3 at h;split at h
 ·rename_i hf;have hf:first=#[]:=by apply Bqm;rw[← Brk,hf];rfl
  subst hf;split at h
  ·rename_i vs hv;refine⟨_,h,Aa (Yo hv) fun X=>?_⟩;refine .quiet fun _ _ g w a _ Au=>⟨.func (.func f) #[] (Jd.map a.eval),?_,?_⟩
   ·simp only[execOp,ho,Instr.makeFunc];simp
   ·refine .F1 f _ _ (by rw[Ah,Hz hv];simp) ?_;rw[J0]at Au;exact Wd Au
  ·cases h
 ·cases h
def Bic{R:Type}(st:Af)(x:Operand)(K:Out→A3 R):A3 R :=
 match Av st x with
 |some (.os k ty a n)=>match lk k st.objs with
  |some (.arr u l)=>cond (u.Jm ty) (cond (Nat.ble 1000 k) (cond (cond (Nat.ble (a+n) l.length) (H7 k st.objs) false)
    (K ⟨.all,.d (.sl u ((l.drop a).take n)),[(x,.os k ty a n)],D7 k st.objs,st.live,[],[k]⟩) none) none) none
  |_=>none
 |_=>Avk st x K
def Bef{P:Program}{st:Af}{x:Operand}{R:Type}{K:Out→A3 R}{r:R}(ho:o.op = .move x∨o.op = .assign x)(h:Bic st x K=some r):∃out,K out=some r∧Bp P o st out:=by
 unfold Bic at h;split at h
 ·rename_i k ty a n hv;split at h
  ·rename_i u l hk;cases h1:u.Jm ty with
   |false=>simp[h1]at h
   |true =>
   cases h2:Nat.ble 1000 k with
   |false=>simp[h1,h2]at h
   |true =>
   cases h4:cond (Nat.ble (a+n) l.length) (H7 k st.objs) false with
   |false=>simp[h1,h2,h4]at h
   |true =>
    obtain⟨h3,h5⟩:=Aic h4;simp only[h1,h2,h4,Bov]at h;have e1:=Ty.Am h1;subst e1;have e2:=Bpf h2;have e3:=Bpf h3;refine⟨_,h,⟨Cy hv,?_,fun k' x' Lb hx=>?_⟩⟩
    ·show Bi P o [(x,(XV.os k u a n).a)] st.X ⟨A4 (D7 k st.objs),st.live⟩ [] (.d (.sl u.size (((l.drop a).take n).map u.ds)));have hX:Ab.Aw k st.X=⟨A4 (D7 k st.objs),st.live⟩:=by rw[Qz h5];rfl
     have hl:st.X.objs.lookup k=some (.cells ((l.map u.ds).flatten.map .d) none):=by show(A4 st.objs).lookup k=_;exact Hy hk
     intro nm We B g w act hr Au next Q hn
     have hnk:k∉nm:=fun hm=>by have:=We k hm;omega
     obtain⟨f1,f2,f3⟩:=hr.freeze (k:=k) (sz:=u.size) (es:=l.map u.ds) hnk hl (by
      intro i cs Rq;rw[Bp1,Bp8]at Rq;obtain⟨y,_,rfl⟩:=Rq;exact u.Cj y)
     rw[hX]at f1;have hv':=Is Au;have hd:=f3 a n (act.eval x) (by simpa using e3) hv';rw[← Bt0,← Bsj]at hd;have he:(execOp act.eval o).run P w = .ok (.value (act.eval x)) w:=by rcases ho with ho|ho<;>simp[execOp,ho]
     unfold Oper.wp;rw[he];exact hn _ w _ f1 f2 hd
    ·simp only[Bpg]at Lb;exact Tj hx
  ·cases h
 ·exact Aid ho h
def Bkt(op:Op):XF :=
 match op with
 |.move x=>⟨fun P R Γ own o st K=>Avk st x K⟩
 |.assign x=>⟨fun P R Γ own o st K=>cond (Abb own o) (Bic st x K) (Avk st x K)⟩
 |.pick c x y=>⟨fun P R Γ own o st K=>B9m st c x y K⟩
 |.alloc t=>⟨fun P R Γ own o st K=>Aoa P (Abb own o) st o t K⟩
 |.box t x=>⟨fun P R Γ own o st K=>Bi1 st o t x K⟩
 |.build t ps=>⟨fun P R Γ own o st K=>Azr P st t ps K⟩
 |.buildSlice t n ps=>⟨fun P R Γ own o st K=>cond (Abb own o) (Adk P st o t n ps K) (cond (Ab2 n ps.toList) (Adl P st o t K) (cond (B3k P t) (B3j (As5 P st o t n ps) K) (A3o P st t n ps K)))⟩
 |.load t x=>⟨fun P R Γ own o st K=>Ba4 P st t x K⟩
 |.store t x y=>⟨fun P R Γ own o st K=>Azp P st t x y K⟩
 |.nilCheck x=>⟨fun P R Γ own o st K=>Bhx st x K⟩
 |.binOp op t x y _=>⟨fun P R Γ own o st K=>B0s P st op t x y K⟩
 |.unOp op _ x=>⟨fun P R Γ own o st K=>xUn st op x K⟩
 |.convert s d x=>⟨fun P R Γ own o st K=>B0b P st s d x K⟩
 |.slice t x lo hi mx=>⟨fun P R Γ own o st K=>Ado P st t x lo hi mx K⟩
 |.fieldAddr t x n=>⟨fun P R Γ own o st K=>A8c P st t x n K⟩
 |.field t x n=>⟨fun P R Γ own o st K=>Azs P st t x n K⟩
 |.indexAddr t x y=>⟨fun P R Γ own o st K=>cond (Bag st x) (B3j (As6 P st t x y) K) (Adi P st t x y K)⟩
 |.entry x=>⟨fun P R Γ own o st K=>Asa st x K⟩
 |.index t x y=>⟨fun P R Γ own o st K=>Ar7 P st t x y K⟩
 |.extract x i=>⟨fun P R Γ own o st K=>Aie st x i K⟩
 |.call c=>⟨fun P R Γ own o st K=>cond (B3l st c) (Bah P st c K) (Bal P Γ own o st c K)⟩
 |.makeFunc (.func f) first Jd=>⟨fun P R Γ own o st K=>Ae3 o st f first Jd K⟩
 |.range t x=>⟨fun P R Γ own o st K=>Adw P st o t x K⟩
 |.makeMap t rs=>⟨fun P R Γ own o st K=>cond (Abb own o) (Ae0 P st o t rs K) (Aj0 P st o t rs K)⟩
 |.lookup t x y ok=>⟨fun P R Γ own o st K=>cond (A5w st x) (Aj4 P st o t x y ok K) (Arw P st t x y ok K)⟩
 |.mapUpdate t x y u=>⟨fun P R Γ own o st K=>cond (A5w st x) (Yr P st t x y u K) (A1g P st t x y u K)⟩
 |.insert t x y u=>⟨fun P R Γ own o st K=>cond (A5w st x) (Yr P st t x y u K) (A1g P st t x y u K)⟩
 |_=>⟨fun P R Γ own o st K=>none⟩
def xop(o:Oper)(st:Af)(K:Out→A3 R):A3 R:=(Bkt o.op).run P R Γ own o st K
def Asd{st:Af}{K:Out→A3 R}{r:R}(h:xop P Γ own o st K=some r):∃out,K out=some r∧Bp P o st out:=by
 unfold xop Bkt at h;split at h<;>rename_i ho<;>dsimp only at h
 ·exact Aid (.inl ho) h
 ·cases hf:Abb own o with
  |true=>rw[hf]at h;exact Bef (.inr ho) h
  |false=>rw[hf]at h;exact Aid (.inr ho) h
 ·exact B9n ho h
 ·exact Arj ho h
 ·exact Be7 ho h
 ·exact B60 ho h
 ·rename_i t n ps;cases hw:Abb own o with
  |true=>simp only[hw,Bov]at h;exact Arf ho h
  |false =>
   simp only[hw,Box]at h;cases he:Ab2 n ps.toList with
   |true=>simp only[he,Bov]at h;exact Arh ho he h
   |false =>
    simp only[he,Box]at h;cases hq:B3k P t with
    |true =>rw[hq,Bov]at h;obtain⟨out,h1,h2⟩:=A8m h;exact⟨out,h2,B0m ho h1⟩
    |false=>rw[hq,Box]at h;exact Aih ho h
 ·exact B6e ho h
 ·exact B5x ho h
 ·exact Be3 ho h
 ·exact B6n ho h
 ·exact Bhw ho h
 ·exact B6d ho h
 ·exact Arl ho h
 ·exact Amv ho h
 ·exact B61 ho h
 ·rename_i t x y;cases hq:Bag st x with
  |true =>rw[hq,Bov]at h;obtain⟨out,h1,h2⟩:=A8m h;exact⟨out,h2,B0o ho h1⟩
  |false=>rw[hq,Box]at h;exact Ar6 ho h
 ·exact B0r ho h
 ·exact Azu ho h
 ·exact Avm ho h
 ·rename_i c;cases hq:B3l st c with
  |true=>rw[hq,Bov]at h;exact Bai ho h
  |false=>rw[hq,Box]at h;exact Bam P Γ own ho h
 ·exact Asb P ho h
 ·exact Ary ho h
 ·cases hw:Abb own o with
  |true=>rw[hw]at h;exact As2 ho h
  |false=>rw[hw]at h;exact Aw7 ho h
 ·rename_i t x y ok;cases hm:A5w st x with
  |true=>rw[hm]at h;exact Awf ho h
  |false=>rw[hm]at h;exact B0f ho h
 ·rename_i t x y u;cases hm:A5w st x with
  |true=>rw[hm]at h;exact A3v (.inl ho) h
  |false=>rw[hm]at h;exact A7o (.inl ho) h
 ·rename_i t x y u;cases hm:A5w st x with
  |true=>rw[hm]at h;exact A3v (.inr ho) h
  |false=>rw[hm]at h;exact A7o (.inr ho) h
 ·cases h
def Ase(draw:Bool)(o:Oper)(st:Af)(K:Out→A3 R):A3 R :=
 match o.op with
 |.next x str=>cond str (xop P Γ own o st K) (cond draw none (B0h st x K))
 |_=>xop P Γ own o st K
structure Inv(s0 s:Af):Prop where
 env:∀t x,t∉s.wl→lk t s.env=some x→lk t s0.env=some x
 objs:∀k x,k∉s.ol→lk k s.objs=some x→lk k s0.objs=some x
def Inv.refl(s:Af):Inv s s:=⟨fun _ _ _ h=>h,fun _ _ _ h=>h⟩
def Amu.e:Amu→A5→Ms
 |.none,_=>.none
 |.look ks,_=>.look ks
 |.put k c,_=>.put k c.o
 |.all,X=>.all X
 |.lab,X=>.lab X.live
 |.O7 k c,X=>.O7 k c.o X.live
 |.new os,X=>.new (A4 os) X.live
def Out.st(out:Out)(o:Oper)(st:Af):Af:=⟨B9j o.dst out.res st.env,out.objs,out.live,Bdx o.dst st.wl,out.ol++st.ol⟩
def Out.it(out:Out)(o:Oper):It:=⟨o,true,Ay out.rd,out.Ur.e out.X,out.F,out.res.a⟩
def A3y(o:Oper)(st:Af):Af:=⟨B9j o.dst (.d (.v undef)) st.env,st.objs,st.live,Bdx o.dst st.wl,st.ol⟩
def Aj7(o:Oper):It:=⟨o,false,[],.none,[],.d (.sc undef)⟩
def K7(d:Nat)(b:Bool)(st:Af):Af:=⟨(d,.d (.b b))::st.env,st.objs,st.live,st.wl,st.ol⟩
def Abc:XV→Bool
 |.d (.v (.tuple vs))=>Nat.beq vs.size 0
 |_=>false
def Ae4(ops:Array Oper)(j:Nat):A3 Nat :=
 match ops[j]? with
 |some o=>o.dst
 |none=>none
variable(nt:Nat)
def A3z(ops:Array Oper)(draw:Bool)(Gc:A2 (Nat×XV))(K:Af→A3 R):A2 Oper→A2 It→Af→A3 R
 |[],Ar,st=>cond draw (cond (Aq9 ops (Ds Gc) Ar) (K st) none) (K st)
 |o::Boq,Ar,st =>
  cond (Jl nt o.dst)
   (match o.guard with
   |none=>Ase P Γ own draw o st fun out=>cond (cond draw true (M7 out.F (Ds st.env))) (A3z ops draw Gc K Boq (Ar++[out.it o]) (out.st o st)) none
   |some (j,Bop) =>
    match Ae4 ops j with
    |none=>none
    |some d =>
     match lk d st.env with
     |some (.d (.b b)) =>
      cond b
       (cond Bop (Ase P Γ own draw o (K7 d true st) fun out=>cond (cond draw true (M7 out.F (Ds (K7 d true st).env))) (A3z ops draw Gc K Boq (Ar++[out.it o]) (out.st o (K7 d true st))) none)
        (A3z ops draw Gc K Boq (Ar++[Aj7 o]) (A3y o (K7 d true st))))
       (cond Bop (A3z ops draw Gc K Boq (Ar++[Aj7 o]) (A3y o (K7 d false st)))
        (Ase P Γ own draw o (K7 d false st) fun out=>cond (cond draw true (M7 out.F (Ds (K7 d false st).env))) (A3z ops draw Gc K Boq (Ar++[out.it o]) (out.st o (K7 d false st))) none))
     |some v=>cond (Abc v) (A3z ops draw Gc K Boq (Ar++[Aj7 o]) (A3y o st)) none
     |none=>none) none
end
section
variable{P:Program}{Γ:A2 (Ft P)}{own:A2 Nat}{R:Type}
def Bp.opT{st:Af}(h:Bp P o st out):Bi P o (Ay out.rd) st.X out.X out.F out.res.a:=by
 have hop:=h.op;unfold Out.X;split at hop
 ·obtain⟨h1,h2,h3,h4⟩:=hop;rw[h1,h2,h3];exact h4 st.X
 ·obtain⟨h1,h2,h3,h4⟩:=hop;rw[h1,h2,h3];exact h4 st.X fun _ _=>rfl
 ·obtain⟨⟨h0,h1⟩,h2,h3,h4⟩:=hop;rw[h1,h2,h3,V8 h0];exact h4 st.X rfl
 ·exact hop
 ·exact hop.2
 ·exact hop.2
 ·exact hop.2
def Out.Ban(out:Out)(o:Oper)(st:Af):(out.st o st).im=⟨Dm o.dst out.res.a st.im.env,out.X⟩:=by simp only[Out.st,Af.im,Af.X,B9k,Out.X]
def Aok(o:Oper)(st:Af):(A3y o st).im=⟨Dm o.dst (.d (.sc undef)) st.im.env,st.X⟩:=by simp only[A3y,Af.im,Af.X,B9k];rfl
def A5x(d:Nat)(b:Bool)(st:Af):(K7 d b st).im=⟨(d,.d (.sc (.bool b)))::st.im.env,st.X⟩:=rfl
theorem P6{st:St}:∀ {l:A2 (Operand×AV)},(∀p∈l,Dx st p.1 p.2)→Ks st l
 |[],_=>.nil
 |(x,v)::r,h=>.cons (h (x,v) Bp6) (P6 fun p hp=>h p (Bp5 _ hp))
def B0t{st:Af}{t:Nat}{wl:A2 Nat}(ht:t∉Bdx o.dst wl)(h:lk t (B9j o.dst x st.env)=some y):t∉wl∧lk t st.env=some y:=by
 cases hd:o.dst with
 |none=>rw[hd]at ht h;exact⟨ht,h⟩
 |some d =>rw[hd]at ht h;simp only[Bdx,Boz,Bt5]at ht;simp only[B9j]at h;rw[Dz ht.1]at h;exact⟨ht.2,h⟩
def Inv.op{st:Af}(h:Inv s0 st)(Je:Bp P o st out):Inv s0 (out.st o st):=by
 refine⟨fun t x ht hx=>?_,fun k x hk hx=>?_⟩
 ·obtain⟨h1,h2⟩:=B0t (st:=st) ht hx;exact h.env t x h1 h2
 ·simp only[Out.st,Bp4,Bt5]at hk hx;exact h.objs k x hk.2 (Je.ol k x hk.1 hx)
def Inv.dem{st:Af}(h:Inv s0 st)(ol:∀k x,k∉out.ol→lk k out.objs=some x→lk k st.objs=some x):Inv s0 (out.st o st):=by
 refine⟨fun t x ht hx=>?_,fun k x hk hx=>?_⟩
 ·obtain⟨h1,h2⟩:=B0t (st:=st) ht hx;exact h.env t x h1 h2
 ·simp only[Out.st,Bp4,Bt5]at hk hx;exact h.objs k x hk.2 (ol k x hk.1 hx)
def Beg{draw:Bool}{st:Af}{K:Out→A3 R}{r:R}(h:Ase P Γ own draw o st K=some r):(∃out,K out=some r∧Bp P o st out)∨∃rd outs,(∀out∈outs,K out=some r)∧Bgn P o st rd outs:=by
 unfold Ase at h;split at h
 ·rename_i x str ho;cases str with
  |true=>exact .inl (Asd P Γ own h)
  |false =>
   simp only[Box]at h;cases draw with
   |true=>cases h
   |false=>exact B6g ho h
 ·exact .inl (Asd P Γ own h)
def B6p{st:Af}{K:Out→A3 R}{r:R}(h:Ase P Γ own true o st K=some r):∃out,K out=some r∧Bp P o st out:=by
 unfold Ase at h;split at h
 ·rename_i x str ho;cases str with
  |true=>exact Asd P Γ own h
  |false=>cases h
 ·exact Asd P Γ own h
def Inv.skip{st:Af}(h:Inv s0 st):Inv s0 (A3y o st):=by refine⟨fun t x ht hx=>?_,fun k x hk hx=>h.objs k x hk hx⟩;obtain⟨h1,h2⟩:=B0t (st:=st) ht hx;exact h.env t x h1 h2
def Inv.Asf{st:Af}(h:Inv s0 st)(hd:lk d st.env=some (.d (.b b))):Inv s0 (K7 d b st):=by
 refine⟨fun t x ht hx=>?_,fun k x hk hx=>h.objs k x hk hx⟩;simp only[K7]at ht hx;by_cases he:t=d
 ·subst he;simp[F9]at hx;subst hx;exact h.env t _ ht hd
 ·rw[Dz he]at hx;exact h.env t x ht hx
def Pm{st:Af}(h:lk d st.env=some x):st.im.env.lookup d=some x.a:=by show(Ds st.env).lookup d=_;rw[A88,h];rfl
def Aj8(h:Abc x=true):x.a = .d (.sc undef):=by
 unfold Abc at h;split at h
 ·rename_i vs;have:=Boy h;have:vs=#[]:=Bqm this;subst this;rfl
 ·cases h
def B6q(s0:Af)(K:Af→A3 R)(r:R)(s:St):Prop:=∃Bd,s=Bd.im∧Inv s0 Bd∧K Bd=some r
theorem Ahd{S:Sig}{ops:Array Oper}{Gc:A2 (Nat×XV)}{K:Af→A3 R}{r:R}{s0:Af}:∀(l:A2 Oper) (i:Nat) (Ar:A2 It) (st:Af),(∀(j:Nat) o,l[j]? = some o→ops[i+j]? = some o) →
  Inv s0 st→A3z P Γ own S.N ops false Gc K l Ar st=some r→Rw P S ops (List.range' i l.length) st.im (B6q s0 K r)
 |[],i,Ar,st,hl,hi,h=>by
  simp only[A3z,Box]at h;exact Rw.done ⟨st,rfl,hi,h⟩
 |o::Boq,i,Ar,st,hl,hi,h=>by
  have ho:ops[i]? = some o:=hl 0 o rfl;have Aol:∀(j:Nat) o,Boq[j]? = some o→ops[i+1+j]? = some o:=by intro j o' hj;have:=hl (j+1) o' (by simpa using hj);rw[show i+1+j=i+(j+1) by omega];exact this
  simp only[A3z]at h;cases hd:Jl S.N o.dst with
  |false=>simp[hd]at h
  |true =>
   simp only[hd,Bov]at h;have run:∀(st:Af),Inv s0 st→Guard ops st.im o.guard true→(Ase P Γ own false o st fun out=>cond (cond false true (M7 out.F (Ds st.env))) (A3z P Γ own S.N ops false Gc K Boq (Ar++[out.it o]) (out.st o st)) none)=some r →
     Rw P S ops (List.range' i (o::Boq).length) st.im (B6q s0 K r):=by
    intro st hi hg h;rcases Beg h with ⟨out,h1,Je⟩|⟨rd,outs,hall,Je⟩
    ·cases hf:M7 out.F (Ds st.env) with
     |false=>simp[hf]at h1
     |true =>simp only[hf,Box,Bov]at h1;simp only[Bpk,Bth];refine Rw.opg ho hg Je.opT (P6 Je.Rr) hf hd ?_;rw[← Out.Ban];exact Ahd Boq (i+1) _ _ Aol (hi.op Je) h1
    ·simp only[Bpk,Bth];refine Rw.Wq ho hg Je.op (P6 Je.Rr) hd ?_;intro p hp;obtain⟨out,Agv,rfl⟩:=Bpc.1 hp;have h1:=hall out Agv;have hf:M7 out.F (Ds st.env)=true:=by rw[Je.F out Agv];rfl
     simp only[hf,Box,Bov]at h1;show Rw P S ops _ ⟨Dm o.dst out.res.a st.im.env,out.X⟩ _;rw[← Out.Ban];exact Ahd Boq (i+1) _ _ Aol (hi.dem (fun k x=>Je.ol out Agv k x)) h1
   have skip:∀(st:Af),Inv s0 st→Guard ops st.im o.guard false→A3z P Γ own S.N ops false Gc K Boq (Ar++[Aj7 o]) (A3y o st)=some r →
     Rw P S ops (List.range' i (o::Boq).length) st.im (B6q s0 K r):=by
    intro st hi hg h;simp only[Bpk,Bth];refine Rw.skip ho hg hd ?_;have:=Ahd Boq (i+1) _ _ Aol hi.skip h;rw[Aok]at this;exact this
   split at h
   ·rename_i hg;exact run st hi (Anw hg) h
   ·rename_i j Bop hg;unfold Ae4 at h;split at h
    ·cases h
    ·rename_i d hgs;split at hgs
     ·rename_i oj hoj;split at h
      ·rename_i b hb;have Mk:=Pm hb;refine Rw.cases (d:=d) Mk (fun hbt=>?_) (fun hbt=>?_)
       ·subst hbt;change Rw P S ops _ (K7 d true st).im _;have Aj9:(K7 d true st).im.env.lookup d=some (.d (.sc (.bool true))):=by rw[A5x];simp
        cases Bop with
        |true =>simp only[Bov]at h;exact run _ (hi.Asf hb) (A5h hg hoj hgs Aj9) h
        |false =>simp only[Bov,Box]at h;exact skip _ (hi.Asf hb) (A5i hg hoj hgs Aj9 rfl) h
       ·subst hbt;change Rw P S ops _ (K7 d false st).im _;have Aj9:(K7 d false st).im.env.lookup d=some (.d (.sc (.bool false))):=by rw[A5x];simp
        cases Bop with
        |true =>simp only[Bov,Box]at h;exact skip _ (hi.Asf hb) (A5i hg hoj hgs Aj9 rfl) h
        |false =>simp only[Box]at h;exact run _ (hi.Asf hb) (A5h hg hoj hgs Aj9) h
      ·rename_i v hv Bid;cases hu:Abc v with
       |false=>simp[hu]at h
       |true =>simp only[hu,Bov]at h;have Mk:=Pm Bid;rw[Aj8 hu]at Mk;exact skip st hi (Afg hg hoj hgs Mk) h
      ·cases h
     ·cases hgs
theorem Asg{S:Sig}{ops:Array Oper}{Gc:A2 (Nat×XV)}{K:Af→A3 R}{r:R}{s0:Af}:∀(l:A2 Oper) (i:Nat) (Ar:A2 It) (st:Af),(∀(j:Nat) o,l[j]? = some o→ops[i+j]? = some o) →
  Inv s0 st→A3z P Γ own S.N ops true Gc K l Ar st=some r→Dw P S ops i l.length st.im Ar (Ds Gc) (B6q s0 K r)
 |[],i,Ar,st,hl,hi,h=>by
  simp only[A3z,Bov]at h;cases hd:Aq9 ops (Ds Gc) Ar with
  |false=>simp[hd]at h
  |true =>simp only[hd,Bov]at h;exact Dw.fin (fun _=>Aux hd) ⟨st,rfl,hi,h⟩
 |o::Boq,i,Ar,st,hl,hi,h=>by
  have ho:ops[i]? = some o:=hl 0 o rfl;have Aol:∀(j:Nat) o,Boq[j]? = some o→ops[i+1+j]? = some o:=by intro j o' hj;have:=hl (j+1) o' (by simpa using hj);rw[show i+1+j=i+(j+1) by omega];exact this
  simp only[A3z]at h;cases hd:Jl S.N o.dst with
  |false=>simp[hd]at h
  |true =>
   simp only[hd,Bov]at h;have run:∀(st:Af),Inv s0 st→Guard ops st.im o.guard true→(Ase P Γ own true o st fun out=>cond (cond true true (M7 out.F (Ds st.env))) (A3z P Γ own S.N ops true Gc K Boq (Ar++[out.it o]) (out.st o st)) none)=some r →
     Dw P S ops i (o::Boq).length st.im Ar (Ds Gc) (B6q s0 K r):=by
    intro st hi hg h;obtain⟨out,h1,Je⟩:=B6p h;simp only[Bov]at h1;have ih:=Asg Boq (i+1) _ _ Aol (hi.op Je) h1;rw[Out.Ban]at ih;have hop:=Je.op;simp only[Bpk];split at hop
    ·rename_i he;obtain⟨a1,a2,a3,a4⟩:=hop;refine Dw.op ho hg a4 (P6 Je.Rr) hd ?_;have e:out.it o=⟨o,true,Ay out.rd,.none,[],out.res.a⟩:=by simp only[Out.it,he,Amu.e,a3]
     rw[e]at ih;have e2:out.X=st.im.X:=by simp only[Out.X,Af.im,Af.X,a1,a2]
     rw[e2]at ih;exact ih
    ·rename_i ks he;obtain⟨a1,a2,a3,a4⟩:=hop;refine Dw.look (ks:=ks) ho hg a4 (P6 Je.Rr) hd ?_;have e:out.it o=⟨o,true,Ay out.rd,.look ks,[],out.res.a⟩:=by simp only[Out.it,he,Amu.e,a3]
     rw[e]at ih;have e2:out.X=st.im.X:=by simp only[Out.X,Af.im,Af.X,a1,a2]
     rw[e2]at ih;exact ih
    ·rename_i k c he;obtain⟨⟨a0,a1⟩,a2,a3,a4⟩:=hop;refine Dw.put (k:=k) (c:=c.o) ho hg a4 (P6 Je.Rr) hd ?_;have e:out.it o=⟨o,true,Ay out.rd,.put k c.o,[],out.res.a⟩:=by simp only[Out.it,he,Amu.e,a3]
     rw[e]at ih;have e2:out.X=⟨Ab.setObj k c.o st.im.X.objs,st.im.X.live⟩:=by simp only[Out.X,Af.im,Af.X,a1,a2,V8 a0]
     rw[e2]at ih;exact ih
    ·rename_i he;refine Dw.Ur ho hg hop (P6 Je.Rr) hd ?_;have e:out.it o=⟨o,true,Ay out.rd,.all out.X,out.F,out.res.a⟩:=by simp only[Out.it,he,Amu.e]
     rw[e]at ih;exact ih
    ·rename_i he;obtain⟨a1,a4⟩:=hop;have e2:out.X=⟨st.im.X.objs,out.live⟩:=by simp only[Out.X,Af.im,Af.X,a1]
     rw[e2]at a4 ih;refine Dw.lab (L:=out.live) ho hg a4 (P6 Je.Rr) hd ?_;have e:out.it o=⟨o,true,Ay out.rd,.lab out.live,out.F,out.res.a⟩:=by simp only[Out.it,he,Amu.e,Out.X]
     rw[e]at ih;exact ih
    ·rename_i k c he;obtain⟨⟨a0,a1⟩,a4⟩:=hop;have e2:out.X=⟨Ab.setObj k c.o st.im.X.objs,out.live⟩:=by simp only[Out.X,Af.im,Af.X,a1,V8 a0]
     rw[e2]at a4 ih;refine Dw.O7 (L:=out.live) ho hg a4 (P6 Je.Rr) hd ?_;have e:out.it o=⟨o,true,Ay out.rd,.O7 k c.o out.live,out.F,out.res.a⟩:=by simp only[Out.it,he,Amu.e,Out.X]
     rw[e]at ih;exact ih
    ·rename_i os he;obtain⟨⟨a0,a1⟩,a4⟩:=hop;have e2:out.X=⟨A4 os++st.im.X.objs,out.live⟩:=by simp only[Out.X,Af.im,Af.X,a1,Bhn a0]
     rw[e2]at a4 ih;refine Dw.new (L:=out.live) ho hg a4 (P6 Je.Rr) hd ?_;have e:out.it o=⟨o,true,Ay out.rd,.new (A4 os) out.live,out.F,out.res.a⟩:=by simp only[Out.it,he,Amu.e,Out.X]
     rw[e]at ih;exact ih
   have skip:∀(st:Af),Inv s0 st→Guard ops st.im o.guard false→A3z P Γ own S.N ops true Gc K Boq (Ar++[Aj7 o]) (A3y o st)=some r →
     Dw P S ops i (o::Boq).length st.im Ar (Ds Gc) (B6q s0 K r):=by
    intro st hi hg h;simp only[Bpk];refine Dw.skip ho hg hd ?_;have:=Asg Boq (i+1) _ _ Aol hi.skip h;rw[Aok]at this;exact this
   split at h
   ·rename_i hg;exact run st hi (Anw hg) h
   ·rename_i j Bop hg;unfold Ae4 at h;split at h
    ·cases h
    ·rename_i d hgs;split at hgs
     ·rename_i oj hoj;split at h
      ·rename_i b hb;have Mk:=Pm hb;refine Dw.cases (d:=d) Mk (fun hbt=>?_) (fun hbt=>?_)
       ·subst hbt;change Dw P S ops i _ (K7 d true st).im Ar (Ds Gc) _;have Aj9:(K7 d true st).im.env.lookup d=some (.d (.sc (.bool true))):=by rw[A5x];simp
        cases Bop with
        |true =>simp only[Bov]at h;exact run _ (hi.Asf hb) (A5h hg hoj hgs Aj9) h
        |false =>simp only[Bov,Box]at h;exact skip _ (hi.Asf hb) (A5i hg hoj hgs Aj9 rfl) h
       ·subst hbt;change Dw P S ops i _ (K7 d false st).im Ar (Ds Gc) _;have Aj9:(K7 d false st).im.env.lookup d=some (.d (.sc (.bool false))):=by rw[A5x];simp
        cases Bop with
        |true =>simp only[Bov,Box]at h;exact skip _ (hi.Asf hb) (A5i hg hoj hgs Aj9 rfl) h
        |false =>simp only[Box]at h;exact run _ (hi.Asf hb) (A5h hg hoj hgs Aj9) h
      ·rename_i v hv Bid;cases hu:Abc v with
       |false=>simp[hu]at h
       |true =>simp only[hu,Bov]at h;have Mk:=Pm Bid;rw[Aj8 hu]at Mk;exact skip st hi (Afg hg hoj hgs Mk) h
      ·cases h
     ·cases hgs
end
def pkM:Nat:=777777777
def A07(off:Nat):PK:=cond (Nat.ble 900000000 off) (.s 0 ((off-900000000)/1000) ((off-900000000) % 1000)) (cond (Nat.beq off pkM) .m (.p off))
def B6r(p:PK)(off:Nat):Bool :=
 match p with
 |.p o=>cond (Nat.ble 900000000 off) false (cond (Nat.beq off pkM) false (Nat.beq o off))
 |.m=>cond (Nat.ble 900000000 off) false (Nat.beq off pkM)
 |.s o l z=>cond (Nat.ble 900000000 off) (cond (Nat.beq o 0) (cond (Nat.beq l ((off-900000000)/1000)) (Nat.beq z ((off-900000000) % 1000)) false) false) false
 |_=>false
def B3n{p:PK}(h:B6r p off=true):p=A07 off:=by
 unfold B6r at h;unfold A07;cases hB:Nat.ble 900000000 off with
 |true =>
  split at h
  ·rw[hB]at h;cases h
  ·rw[hB]at h;cases h
  ·rename_i o l z;rw[hB,Bov]at h;cases h1:Nat.beq o 0 with
   |false=>rw[h1]at h;cases h
   |true =>
   cases h2:Nat.beq l ((off-900000000)/1000) with
   |false=>rw[h1,h2]at h;cases h
   |true =>rw[h1,h2]at h;simp only[Bov]at h⊢;rw[Boy h1,Boy h2,Boy h]
  ·cases h
 |false =>
  simp only[Box];split at h
  ·rw[hB,Box]at h;cases hb:Nat.beq off pkM with
   |true=>simp[hb]at h
   |false =>simp only[hb,Box]at h;rw[Boy h];rfl
  ·rw[hB,Box]at h;rw[h];rfl
  ·rw[hB]at h;cases h
  ·cases h
def A40(p:A3 Bool):XV:=.d (.v (match p with
 |some true=>.pointer none
 |some false=>.map none
 |none=>.slice none 0 0))
def A1i(p:A3 Bool):XV→Bool
 |.d (.v (.pointer none))=>match p with
  |some true=>true
  |_=>false
 |.d (.v (.map none))=>match p with
  |some false=>true
  |_=>false
 |.d (.v (.slice none 0 0))=>match p with
  |none=>true
  |_=>false
 |_=>false
def Ae5{v:XV}(h:A1i p v=true):v=A40 p:=by
 unfold A1i at h;split at h
 ·split at h
  ·rfl
  ·cases h
 ·split at h
  ·rfl
  ·cases h
 ·split at h
  ·rfl
  ·cases h
 ·cases h
inductive VK where
 |d (t:Ty)
 |Be (n:Nat) (t:Ty) (ty:Option TypeId)
 |p (k off:Nat)
 |z (k off:Nat)
 |os (k:Nat) (t:Ty)
 |Px (p:Option Bool)
@[match_pattern,reducible] def VK.Nw:VK:=.Px (some false)
@[reducible] def VK.T:VK→Type
 |.d t=>t.T
 |.Be _ t _=>List t.T
 |.p _ _=>Unit
 |.z _ _=>Bool
 |.os _ _=>Nat
 |.Px _=>Unit
def VK.val:(v:VK)→v.T→XV
 |.d t,x=>.d (t.xv x)
 |.Be n t ty,l=>.Be n t l ty
 |.p k off,_=>.nm k (A07 off)
 |.z k off,b=>.nm k (.z b off)
 |.os k t,n=>.os k t 0 n
 |.Px q,_=>A40 q
def VK.cells:(v:VK)→v.T→A2 XV
 |.d t,x=>(t.enc x).map .d
 |.Be n t ty,l=>[.Be n t l ty]
 |.p k off,_=>[.nm k (A07 off)]
 |.z k off,b=>[.nm k (.z b off)]
 |.os k t,n=>[.os k t 0 n]
 |.Px q,_=>[A40 q]
def S0(t:Ty):XV→Option t.T
 |.d x=>t.A87 x
 |.Be _ u l _=>t.A87 (.sl u l)
 |.agg cs=>match Adq cs with
  |some ds=>t.A87 (.agg ds)
  |none=>none
 |_=>none
def Bie(k off:Nat):Ya (XV.nm k (.p off)).a (.d XD.pp.d):=by
 intro g w v hr;simp only[XV.a]at hr;cases hr with
 |nm _ _ _ h=>exact .d _ _ (.any _ _ ⟨_,h⟩ (by rw[show v=_ from h];rfl))
def A08{y:t.T}(h:S0 t x=some y):Ya x.a (.d (t.dv y)):=by
 unfold S0 at h;split at h
 ·exact Ya.d (t.Nq h)
 ·rename_i n u l ty;have:=t.Nq h;intro g w v hr;exact Ya.d this g w v (Ya.Be _ _ _ _ g w v hr)
 ·rename_i cs;split at h
  ·rename_i ds hds;have h1:=Aw2 (.agg cs);simp only[B38,hds]at h1;have:=t.Nq h;intro g w v hr;exact Ya.d this g w v (h1 g w v hr)
  ·cases h
 ·cases h
def Ash(t:Ty):XV→Option t.T
 |.nm _ (.p _)=>t.A87 .pp
 |x=>S0 t x
def Aom{y:t.T}(h:Ash t x=some y):Ya x.a (.d (t.dv y)):=by
 unfold Ash at h;split at h
 ·have:=t.Nq h;intro g w v hr;exact Ya.d this g w v (Bie _ _ g w v hr)
 ·exact A08 h
def Beh(Bku Bop:A3 TypeId):Bool :=
 match Bop with
 |none=>true
 |some e=>match Bku with
  |some e'=>Nat.beq e' e
  |none=>false
noncomputable abbrev Lab:=A2 (Nat×A3 Nat)
def Abd(n:Nat)(t:Ty)(ty:A3 TypeId):XV→A3 (List t.T×Lab)
 |.Be m u l Y8=>if h:u.Jm t=true then cond (Beh Y8 ty) (some (Ty.Am h▸l,[(n,some m)])) none else none
 |.d (.v (.slice none 0 0))=>some ([],[(n,none)])
 |_=>none
def Abe(k off:Nat):XV→A3 (Unit×Lab)
 |.nm k' p=>cond (Nat.beq k' k) (cond (B6r p off) (some ((),[])) none) none
 |_=>none
def Awl(k off:Nat):XV→A3 (Bool×Lab)
 |.nm k' (.p Rs)=>cond (Nat.beq k' k) (cond (Nat.beq Rs off) (some (false,[])) none) none
 |.nm k' (.z b Rs)=>cond (Nat.beq k' k) (cond (Nat.beq Rs off) (some (b,[])) none) none
 |.d (.v (.pointer none))=>some (true,[])
 |_=>none
def Aja(k:Nat)(t:Ty):XV→A3 (Nat×Lab)
 |.os k' t' a n=>cond (Nat.beq k' k) (cond (t'.Jm t) (cond (Nat.beq a 0) (some (n,[])) none) none) none
 |_=>none
def Ajb(p:A3 Bool)(x:XV):A3 (Unit×Lab):=cond (A1i p x) (some ((),[])) none
def VK.proj:(v:VK)→XV→A3 (v.T×Lab)
 |.d t=>fun x=>match S0 t x with
  |some y=>some (y,[])
  |none=>none
 |.Be n t ty=>Abd n t ty
 |.p k off=>Abe k off
 |.z k off=>Awl k off
 |.os k t=>Aja k t
 |.Px q=>Ajb q
inductive OK where
 |arr (t:Ty)
 |Vt
 |map (k v:Ty)
 |Jo (m:Nat)
 |Dl
 |Cf (L:Nat) (k v:Ty)
 |abs (h:Nat) (S:Sh) (ty:Option TypeId)
@[reducible] def OK.T:OK→Type
 |.arr t=>List t.T
 |.Vt=>A2 UInt8×Nat
 |.map k v=>A2 (Nat×k.T×v.T)×Nat
 |.Jo _=>Nat×A2 Nat×Nat
 |.Dl=>Unit
 |.Cf _ k v=>A2 (Nat×k.T×Bool×List v.T)×Nat
 |.abs _ S _=>S.T
def OK.ob:(o:OK)→o.T→A9
 |.arr t,l=>.arr t l
 |.Vt,x=>.Vt x.1 x.2
 |.map k v,x=>.map k v x.1 x.2
 |.Jo m,x=>.Jo m x.1 x.2.1 x.2.2
 |.Dl,_=>.Dl
 |.Cf L k v,x=>.Cf L k v x.1 x.2
 |.abs h S ty,x=>.abs h S ty x
def OK.dec:(o:OK)→A9→Option o.T
 |.arr t,.arr u l=>if h:u.Jm t=true then some (Ty.Am h▸l)else none
 |.Vt,.Vt s p=>some (s,p)
 |.map k v,.map k' v' es c=>if h:k'.Jm k=true then if h':v'.Jm v=true then some (Ty.Am h▸Ty.Am h'▸es,c)else none else none
 |.Jo m,.Jo m' a b c=>cond (Nat.beq m' m) (some (a,b,c)) none
 |.Dl,.Dl=>some ()
 |.Cf L k v,.Cf L' k' v' es c=>if h:k'.Jm k=true then if h':v'.Jm v=true then cond (Nat.beq L' L) (some (Ty.Am h▸Ty.Am h'▸es,c)) none else none else none
 |.abs h S ty,.abs h' S' Y8 x=>if e:S'.Jm S=true then cond (Nat.beq h' h) (cond (Y8==ty) (some (Sh.Am e▸x)) none) none else none
 |_,_=>none
def OK.Asi{o:OK}{x:A9}{y:o.T}(h:o.dec x=some y):x=o.ob y:=by
 unfold OK.dec at h;split at h
 ·split at h
  ·rename_i he;have e:=Ty.Am he;subst e;cases h;rfl
  ·cases h
 ·cases h;rfl
 ·split at h
  ·rename_i he;split at h
   ·rename_i he';have e:=Ty.Am he;have e':=Ty.Am he';subst e;subst e';cases h;rfl
   ·cases h
  ·cases h
 ·rename_i m m' a b c;cases hb:Nat.beq m' m with
  |false=>simp[hb]at h
  |true =>simp only[hb,Bov,Bp0]at h;subst h;rw[Boy hb];rfl
 ·rfl
 ·rename_i L k v L' k' v' es c;split at h
  ·rename_i he;split at h
   ·rename_i he';cases hb:Nat.beq L' L with
    |false=>simp[hb]at h
    |true =>have e:=Ty.Am he;have e':=Ty.Am he';subst e;subst e';simp only[hb,Bov,Bp0]at h;subst h;rw[Boy hb];rfl
   ·cases h
  ·cases h
 ·rename_i h1 S ty h1' S' Y8 x;split at h
  ·rename_i he;have e:=Sh.Am he;cases hb:Nat.beq h1' h1 with
   |false=>simp[hb]at h
   |true =>
    cases ht:Y8==ty with
    |false=>simp[hb,ht]at h
    |true =>subst e;simp only[hb,ht,Bov,Bp0]at h;subst h;rw[Boy hb,eq_of_beq ht];rfl
  ·cases h
 ·cases h
def OK.okp(ns:A2 Nat):OK→Bool
 |.Jo m=>cond (inl m ns) false true
 |.Cf L _ _=>cond (inl L ns) false true
 |.abs _ _ _=>Y9 ns
 |_=>true
def A1j(ns:A2 Nat):A2 (Nat×OK)→Bool
 |[]=>true
 |p::r=>cond (p.2.okp ns) (A1j ns r) false
structure Cut where
 vars:List (Tmp×VK)
 objs:List (Nat×List VK×Option TypeId)
 Yt:List Tmp
 P7:List Nat
 own:List (Tmp×Nat×Ty):=[]
 R3:List (Nat×OK):=[]
@[reducible] def Ajc:A2 (Tmp×VK)→Type
 |[]=>Unit
 |p::r=>p.2.T×Ajc r
@[reducible] def A8n:A2 VK→Type
 |[]=>Unit
 |v::r=>v.T×A8n r
@[reducible] def Afs:A2 (Nat×A2 VK×A3 TypeId)→Type
 |[]=>Unit
 |p::r=>A8n p.2.1×Afs r
@[reducible] def A6x:A2 (Tmp×Nat×Ty)→Type
 |[]=>Unit
 |p::r=>A3 (List p.2.2.T×Nat)×A6x r
@[reducible] def Aft:A2 (Nat×OK)→Type
 |[]=>Unit
 |p::r=>p.2.T×Aft r
@[reducible] def Cut.T (c:Cut):Type:=Ajc c.vars×Afs c.objs×A6x c.own×Aft c.R3
def Va:(l:A2 (Tmp×Nat×Ty))→A6x l→A2 (Nat×XV)
 |[],_=>[]
 |p::r,x=>(p.1,match x.1 with
  |none=>.d (.v (.slice none 0 0))
  |some y=>.os p.2.1 p.2.2 0 y.2)::Va r x.2
def Sz:(l:A2 (Tmp×Nat×Ty))→A6x l→A2 (Nat×A9)
 |[],_=>[]
 |p::r,x=>match x.1 with
  |none=>Sz r x.2
  |some y=>(p.2.1,.arr p.2.2 y.1)::Sz r x.2
def Ma:(l:A2 (Nat×OK))→Aft l→A2 (Nat×A9)
 |[],_=>[]
 |p::r,x=>(p.1,p.2.ob x.1)::Ma r x.2
def ownNames:A2 (Tmp×Nat×Ty)→A2 Nat
 |[]=>[]
 |p::r=>p.2.1::ownNames r
def Fc:A2 (Nat×OK)→A2 Nat
 |[]=>[]
 |p::r=>p.1::Fc r
def Cut.others(c:Cut):A2 Nat:=(c.objs.map (·.1)++Fc c.R3)++c.P7
def Yu:(l:A2 (Tmp×VK))→Ajc l→A2 (Nat×XV)
 |[],_=>[]
 |p::r,x=>(p.1,p.2.val x.1)::Yu r x.2
def Lh:(l:A2 VK)→A8n l→A2 XV
 |[],_=>[]
 |v::r,x=>v.cells x.1++Lh r x.2
def R4:(l:A2 (Nat×A2 VK×A3 TypeId))→Afs l→A2 (Nat×A9)
 |[],_=>[]
 |p::r,x=>(p.1,.cells (Lh p.2.1 x.1) p.2.2)::R4 r x.2
def A1k(env:A2 (Nat×XV)):A2 Tmp→A2 (Nat×XV)
 |[]=>[]
 |t::r=>match lk t env with
  |some x=>(t,x)::A1k env r
  |none=>A1k env r
def Mv(objs:A2 (Nat×A9)):A2 Nat→A2 (Nat×A9)
 |[]=>[]
 |t::r=>match lk t objs with
  |some x=>(t,x)::Mv objs r
  |none=>Mv objs r
def Mw:A2 (Tmp×VK)→A2 Nat
 |[]=>[]
 |(_,.Be n _ _)::r=>n::Mw r
 |(_,.d _)::r=>Mw r
 |(_,.p _ _)::r=>Mw r
 |(_,.z _ _)::r=>Mw r
 |(_,.os _ _)::r=>Mw r
 |(_,.Px _)::r=>Mw r
def Ki:A2 VK→A2 Nat
 |[]=>[]
 |.Be n _ _::r=>n::Ki r
 |.d _::r=>Ki r
 |.p _ _::r=>Ki r
 |.z _ _::r=>Ki r
 |.os _ _::r=>Ki r
 |.Px _::r=>Ki r
def A1l:A2 (Nat×A2 VK×A3 TypeId)→A2 Nat
 |[]=>[]
 |p::r=>Ki p.2.1++A1l r
def Cut.E9(c:Cut):A2 Nat:=Mw c.vars++A1l c.objs
def Bei(n:Nat)(live acc:A2 Nat):A2 Nat:=cond (inl n live) (cond (inl n acc) acc (n::acc)) acc
def Ae6(live:A2 Nat):A2 XV→A2 Nat→A2 Nat
 |[],acc=>acc
 |.Be n _ _ _::r,acc=>Ae6 live r (Bei n live acc)
 |_::r,acc=>Ae6 live r acc
def Asj(live:A2 Nat):A2 (Nat×XV)→A2 Nat→A2 Nat
 |[],acc=>acc
 |(_,.Be n _ _ _)::r,acc=>Asj live r (Bei n live acc)
 |_::r,acc=>Asj live r acc
def Abf(live:A2 Nat):A2 (Nat×A9)→A2 Nat→A2 Nat
 |[],acc=>acc
 |(_,.cells cs _)::r,acc=>Abf live r (Ae6 live cs acc)
 |(_,.Cf L _ _ _ _)::r,acc=>Abf live r (Bei L live acc)
 |_::r,acc=>Abf live r acc
def Ajd(live:A2 Nat):A2 (Nat×OK)→A2 Nat→A2 Nat
 |[],acc=>acc
 |(_,.Cf L _ _)::r,acc=>Ajd live r (Bei L live acc)
 |_::r,acc=>Ajd live r acc
def Wt(s0:Af)(c:Cut):A2 Nat:=Ajd s0.live c.R3 (Abf s0.live (Mv s0.objs c.P7) (Asj s0.live (A1k s0.env c.Yt) []))
def gen(s0:Af)(c:Cut)(x:c.T):Af :=
 ⟨Yu c.vars x.1++(Va c.own x.2.2.1++A1k s0.env c.Yt),R4 c.objs x.2.1++(Sz c.own x.2.2.1++(Ma c.R3 x.2.2.2++Mv s0.objs c.P7)),c.E9++Wt s0 c,[],[]⟩
def Tm(env:A2 (Nat×XV)):(l:A2 (Tmp×VK))→A3 (Ajc l×Lab)
 |[]=>some ((),[])
 |p::r=>match lk p.1 env with
  |some v=>match p.2.proj v with
   |some (x,σ)=>match Tm env r with
    |some (xs,τ)=>some ((x,xs),σ++τ)
    |none=>none
   |none=>none
  |none=>none
def Aje:A2 XV→A3 (A2 XD)
 |[]=>some []
 |x::r=>match x.asD,Aje r with
  |some y,some l=>some (y::l)
  |_,_=>none
theorem Ae7:∀ {cs:A2 XV} {ds:A2 XD},Aje cs=some ds→cs.length=ds.length∧∀(i:Nat) x y,cs[i]? = some x→ds[i]? = some y→Ya x.a (.d y.d)
 |[],ds,h=>by simp[Aje]at h;subst h;exact⟨rfl,by simp⟩
 |x::r,ds,h=>by
  simp only[Aje]at h;split at h
  ·rename_i y l hy hl;cases h;obtain⟨h1,h2⟩:=Ae7 hl;refine⟨by simp[h1],fun i a b ha hb=>?_⟩;cases i with
   |zero=>simp at ha hb;subst ha;subst hb;exact Ba3 hy
   |succ i=>exact h2 i a b (by simpa using ha) (by simpa using hb)
  ·cases h
def C5:(l:A2 VK)→A2 XV→A3 (A8n l×Lab)
 |[],cs=>match cs with
  |[]=>some ((),[])
  |_=>none
 |.d t::r,cs=>match Aje (cs.take t.size) with
  |some ds=>match t.dec ds with
   |some (x,[])=>match C5 r (cs.drop t.size) with
    |some (xs,τ)=>some ((x,xs),τ)
    |none=>none
   |_=>none
  |none=>none
 |.p k off::r,cs=>match cs with
  |c::Y3=>match (VK.p k off).proj c with
   |some (x,σ)=>match C5 r Y3 with
    |some (xs,τ)=>some ((x,xs),σ++τ)
    |none=>none
   |none=>none
  |[]=>none
 |.z k off::r,cs=>match cs with
  |c::Y3=>match (VK.z k off).proj c with
   |some (x,σ)=>match C5 r Y3 with
    |some (xs,τ)=>some ((x,xs),σ++τ)
    |none=>none
   |none=>none
  |[]=>none
 |.os k t::r,cs=>match cs with
  |c::Y3=>match (VK.os k t).proj c with
   |some (x,σ)=>match C5 r Y3 with
    |some (xs,τ)=>some ((x,xs),σ++τ)
    |none=>none
   |none=>none
  |[]=>none
 |.Px q::r,cs=>match cs with
  |c::Y3=>match (VK.Px q).proj c with
   |some (x,σ)=>match C5 r Y3 with
    |some (xs,τ)=>some ((x,xs),σ++τ)
    |none=>none
   |none=>none
  |[]=>none
 |.Be n t ty::r,cs=>match cs with
  |c::Y3=>match (VK.Be n t ty).proj c with
   |some (x,σ)=>match C5 r Y3 with
    |some (xs,τ)=>some ((x,xs),σ++τ)
    |none=>none
   |none=>none
  |[]=>none
def Abg(a b:A3 TypeId):Bool :=
 match a,b with
 |none,none=>true
 |some x,some y=>Nat.beq x y
 |_,_=>false
def Ajf{a b:A3 TypeId}(h:Abg a b=true):a=b:=by
 unfold Abg at h;split at h
 ·rfl
 ·rw[Boy h]
 ·cases h
def Tn(objs:A2 (Nat×A9)):(l:A2 (Nat×A2 VK×A3 TypeId))→A3 (Afs l×Lab)
 |[]=>some ((),[])
 |p::r=>match lk p.1 objs with
  |some (.cells cs ty)=>cond (Abg ty p.2.2) (match C5 p.2.1 cs with
   |some (x,σ)=>match Tn objs r with
    |some (xs,τ)=>some ((x,xs),σ++τ)
    |none=>none
   |none=>none) none
  |_=>none
def Jr(env:A2 (Nat×XV))(objs:A2 (Nat×A9)):(l:A2 (Tmp×Nat×Ty))→A3 (A6x l×A2 (Nat×Nat))
 |[]=>some ((),[])
 |p::r=>match lk p.1 env,Jr env objs r with
  |some (.os k ty a len),some (xs,τ)=>match lk k objs with
   |some (.arr tu l)=>if h:tu.Jm p.2.2=true then cond (ty.Jm p.2.2) (cond (Nat.beq a 0) (some ((some (Ty.Am h▸l,len),xs),(p.2.1,k)::τ)) none) none else none
   |_=>none
  |some (.d (.v (.slice none 0 0))),some (xs,τ)=>some ((none,xs),τ)
  |_,_=>none
def A41(objs:A2 (Nat×A9)):(l:A2 (Nat×OK))→A3 (Aft l)
 |[]=>some ()
 |p::r=>match lk p.1 objs,A41 objs r with
  |some o,some xs=>match p.2.dec o with
   |some y=>some (y,xs)
   |none=>none
  |_,_=>none
def A5y(s:Af)(ns:A2 Nat):A2 Tmp→Bool
 |[]=>true
 |t::r=>cond (inl t s.wl) false (match lk t s.env with
  |some x=>cond (Gi ns x.a) (A5y s ns r) false
  |none=>false)
def Yv(F:A2 Nat):A9→Bool
 |.cells cs _=>Bq F (A7 cs)
 |.Jo m _ _ _=>cond (inl m F) false true
 |.Cf m _ _ _ _=>cond (inl m F) false true
 |.abs _ _ _ _=>Y9 F
 |_=>true
def Ajg{o:A9}(h:Yv F o=true):F4 F o.o=true:=by
 have con:∀m,(cond (inl m F) false true)=true→(!F.contains m)=true:=by
  intro m hm;cases hc:F.contains m with
  |false=>rfl
  |true=>rw[(Cx m F).2 (Bqc.1 hc)]at hm;cases hm
 cases o with
 |cells cs ty=>exact h
 |arr t l=>exact A3e F t l
 |Vt s pos=>rfl
 |map kt vt es c=>rfl
 |Dl=>rfl
 |bts e l=>exact P1 F _
 |Cf m kt vt es c=>exact con m h
 |Jo m since seen last=>exact con m h
 |abs h' S ty x=>exact S.Ku h _ _ _
def Asl{o:A9}(h:Yv F o=true):∀p∈o.C1,Y9 F=true∧F4 F p.2=true:=by
 cases o with
 |abs h' S ty x=>exact fun p hp=>⟨h,S.Ns h _ _ _ p hp⟩
 |_=>intro p hp;cases hp
def A09(s:Af)(ns:A2 Nat):A2 Nat→Bool
 |[]=>true
 |t::r=>cond (inl t s.ol) false (match lk t s.objs with
  |some x=>cond (Yv ns x) (A09 s ns r) false
  |none=>false)
def Kw:Lab→A2 Nat
 |[]=>[]
 |(_,some m)::r=>m::Kw r
 |(_,none)::r=>Kw r
def An3(a b:A2 Nat):Bool :=
 match a with
 |[]=>true
 |x::r=>cond (inl x b) (An3 r b) false
def I0:A2 Nat→Bool
 |[]=>true
 |x::r=>cond (inl x r) false (I0 r)
def slotsOf:A2 (Tmp×VK)→A2 Nat
 |[]=>[]
 |p::r=>p.1::slotsOf r
def Ii:A2 (Nat×A2 VK×A3 TypeId)→A2 Nat
 |[]=>[]
 |p::r=>p.1::Ii r
def apart(a b:A2 Nat):Bool :=
 match a with
 |[]=>true
 |x::r=>cond (inl x b) false (apart r b)
theorem apart_spec:∀ {a b:A2 Nat},apart a b=true→∀x∈a,x∉b
 |[],b,_=>by simp
 |y::r,b,h=>by
  simp only[apart]at h;cases hy:inl y b with
  |true=>simp[hy]at h
  |false =>
   simp only[hy,Box]at h;intro x hx;rcases Boz.1 hx with rfl|hx
   ·intro hm;rw[(Cx _ _).2 hm]at hy;cases hy
   ·exact apart_spec h x hx
def Li:A2 (Tmp×Nat×Ty)→A2 Nat
 |[]=>[]
 |p::r=>p.1::Li r
def VK.okp(ns:A2 Nat):VK→Bool
 |.p k _=>cond (inl k ns) false true
 |.z k _=>cond (inl k ns) false true
 |.os k _=>cond (inl k ns) false true
 |_=>true
def A42(ns:A2 Nat):A2 (Tmp×VK)→Bool
 |[]=>true
 |p::r=>cond (p.2.okp ns) (A42 ns r) false
def Vb(ns:A2 Nat):A2 VK→Bool
 |[]=>true
 |p::r=>cond (p.okp ns) (Vb ns r) false
def A43(ns:A2 Nat):A2 (Nat×A2 VK×A3 TypeId)→Bool
 |[]=>true
 |p::r=>cond (Vb ns p.2.1) (A43 ns r) false
def B3o{α:Type}(c:Cut)(ν:A2 (Nat×Nat))(x:A3 α):A3 α :=
 cond (I0 (ownNames c.own)) (cond (apart (ownNames c.own) c.others) (cond (I0 (ν.map (·.2))) (cond (apart (ν.map (·.2)) c.others) (cond ((ownNames c.own).all (Nat.ble 1000)) (cond (apart c.E9 (ownNames c.own)) (cond (A42 (ownNames c.own) c.vars) (cond (A43 (ownNames c.own) c.objs) (cond (A1j (c.E9++ownNames c.own) c.R3) x none) none) none) none) none) none) none) none) none
def proj(nm:A2 Nat)(kl:A2 Nat)(c:Cut)(s:Af):Option c.T :=
 match Tm s.env c.vars,Tn s.objs c.objs,Jr s.env s.objs c.own,A41 s.objs c.R3 with
 |some (x,σ),some (y,τ),some (u,ν),some v =>
  cond (A5y s (c.E9++ownNames c.own) c.Yt) (cond (A09 s (c.E9++ownNames c.own) c.P7) (cond (An3 (Kw (σ++τ)++kl) s.live)
   (cond (I0 (Kw (σ++τ)++kl)) (cond (I0 (c.E9++kl)) (cond (cond (An3 nm c.others) (P2 s.objs) false) (cond (apart c.Yt (slotsOf c.vars++Li c.own)) (cond (apart c.P7 (Ii c.objs++(ownNames c.own++Fc c.R3))) (B3o c ν (some (x,y,u,v))) none) none) none) none) none) none) none) none
 |_,_,_,_=>none
def Bkv(g:Gh)(τ:Lab)(Wt:A2 Nat)(ν:A2 (Nat×Nat)):Gh :=
 {g with ρ:=fun j=>match lk j ν with|some k=>g.ρ k|none=>g.ρ j,β:=fun n=>cond (inl n Wt) (g.β n) (match lk n τ with
  |some (some m)=>g.β m
  |some none=>some none
  |none=>none),η:=fun n=>cond (inl n Wt) (g.η n) fun _=>none }
theorem Vy:∀ {a b:A2 Nat},An3 a b=true→∀x∈a,x∈b
 |[],b,_=>by simp
 |y::r,b,h=>by
  simp only[An3]at h;cases hy:inl y b with
  |false=>simp[hy]at h
  |true =>
   simp only[hy,Bov]at h;intro x hx;rcases Boz.1 hx with rfl|hx
   ·exact(Cx _ _).1 hy
   ·exact Vy h x hx
theorem Ch:∀ {a:A2 Nat},I0 a=true→a.Nodup
 |[],_=>.nil
 |y::r,h=>by
  simp only[I0]at h;cases hy:inl y r with
  |true=>simp[hy]at h
  |false =>simp only[hy,Box]at h;refine Bqg.2 ⟨fun hm=>?_,Ch h⟩;rw[(Cx _ _).2 hm]at hy;cases hy
variable{c:Cut}{v:VK}{σ:Lab}{g g':Gh}{S:Sig}
def VK.A5z{y:v.T}(h:v.proj x=some (y,σ)){u:Value}(hγ:g'.γ=g.γ)(hρ:∀k,k∉ns→g'.ρ k=g.ρ k)(Je:v.okp ns=true)
  (hσ:∀n m,(n,some m)∈σ→∀ob,g'.β n=some ob→g.β m=some ob) (hr:RA g w x.a u):RA g' w (v.val y).a u:=by
 cases v with
 |d t =>
  simp only[VK.proj]at h;split at h
  ·rename_i y' hy;cases h;have hle:Ya x.a (.d (t.dv y)):=A08 hy;have:=hle g w u hr;cases this with
   |d _ _ h1=>exact .d _ _ (hγ▸h1)
  ·cases h
 |Be n t ty =>
  change Abd n t ty x=some (y,σ)at h;unfold Abd at h;split at h
  ·rename_i m u' l' Bif;split at h
   ·rename_i he;have e0:=Ty.Am he;subst e0;cases ht:Beh Bif ty with
    |false=>simp[ht]at h
    |true =>
     simp only[ht,Bov,Bp0,Bpm]at h;obtain⟨rfl,rfl⟩:=h;simp only[XV.a]at hr;cases hr with
     |Be _ _ _ _ _ h1 h2 =>
      refine .Be _ _ _ _ _ (hγ▸h1) ?_;unfold A7g at h2⊢;split at h2
      ·rename_i a len cap;intro ob Ga;obtain⟨a1,a2,a3,a4,a5⟩:=h2 ob (hσ n m (by simp) ob Ga);refine⟨a1,a2,by rw[hγ];exact a3,a4,fun e hte=>?_⟩;refine a5 e ?_;subst hte;simp only[Beh]at ht;split at ht
       ·rw[Boy ht]
       ·cases ht
      ·trivial
   ·cases h
  ·simp only[Bp0,Bpm]at h;obtain⟨rfl,rfl⟩:=h;simp only[XV.a,XD.d]at hr;cases hr with
   |d _ _ h1 =>cases h1;exact .Be _ _ _ _ _ (.nil _ none 0 fun _=>rfl) trivial
  ·cases h
 |p k off =>
  change Abe k off x=some (y,σ)at h;unfold Abe at h;split at h
  ·rename_i k' Rs;cases h1:Nat.beq k' k with
   |false=>simp[h1]at h
   |true =>
    cases h2:B6r Rs off with
    |false=>simp[h1,h2]at h
    |true =>
     have e1:=Boy h1;have e2:=B3n h2;subst e1;subst e2;simp only[XV.a]at hr;cases hr with
     |nm _ _ _ h=>exact .nm _ _ _ (by
       rw[hρ]
       ·exact h
       ·intro hm;simp[VK.okp,(Cx _ _).2 hm]at Je)
  ·cases h
 |os k t =>
  change Aja k t x=some (y,σ)at h;have hk:k∉ns:=by intro hm;simp[VK.okp,(Cx _ _).2 hm]at Je
  unfold Aja at h;split at h
  ·rename_i k' t' a n;cases h1:Nat.beq k' k with
   |false=>simp[h1]at h
   |true =>
    cases h2:t'.Jm t with
    |false=>simp[h1,h2]at h
    |true =>
     cases h3:Nat.beq a 0 with
     |false=>simp[h1,h2,h3]at h
     |true =>
      have e1:=Boy h1;have e2:=Ty.Am h2;have e3:=Boy h3;subst e1;subst e2;subst e3;simp only[h1,h2,h3,Bov,Bp0,Bpm]at h;obtain⟨rfl,rfl⟩:=h;simp only[XV.a]at hr;cases hr with
      |nm _ _ _ h=>exact .nm _ _ _ (by rw[hρ _ hk];exact h)
  ·cases h
 |Px q =>
  change Ajb q x=some (y,σ)at h;unfold Ajb at h;cases hp:A1i q x with
  |false=>rw[hp]at h;cases h
  |true =>
   rw[hp,Bov]at h;cases h;have e:=Ae5 hp;subst e;unfold A40 at hr;cases hr with
   |d _ _ h1=>exact .d _ _ (hγ▸h1)
 |z k off =>
  change Awl k off x=some (y,σ)at h;have hk:k∉ns:=by intro hm;simp[VK.okp,(Cx _ _).2 hm]at Je
  unfold Awl at h;split at h
  ·rename_i k' Rs;cases h1:Nat.beq k' k with
   |false=>simp[h1]at h
   |true =>
    cases h2:Nat.beq Rs off with
    |false=>simp[h1,h2]at h
    |true =>
     have e1:=Boy h1;have e2:=Boy h2;subst e1;subst e2;simp only[h1,h2,Bov,Bp0,Bpm]at h;obtain⟨rfl,rfl⟩:=h;simp only[XV.a]at hr;cases hr with
     |nm _ _ _ h=>exact .nm _ _ _ (by rw[hρ _ hk];exact h)
  ·rename_i k' b Rs;cases h1:Nat.beq k' k with
   |false=>simp[h1]at h
   |true =>
    cases h2:Nat.beq Rs off with
    |false=>simp[h1,h2]at h
    |true =>
     have e1:=Boy h1;have e2:=Boy h2;subst e1;subst e2;simp only[h1,h2,Bov,Bp0,Bpm]at h;obtain⟨rfl,rfl⟩:=h;simp only[XV.a]at hr;cases hr with
     |nm _ _ _ h=>exact .nm _ _ _ (by rw[hρ _ hk];exact h)
  ·cases h;simp only[XV.a,XD.d]at hr;cases hr with
   |d _ _ h1 =>cases h1;exact .nm _ _ _ rfl
  ·cases h
def Abh{n:Nat}{ty:A3 TypeId}{y:List t.T}(h:Abd n t ty x=some (y,σ)):σ.map (·.1)=[n]:=by
 unfold Abd at h;split at h
 ·split at h
  ·rename_i m u' l' Bif he;cases ht:Beh Bif ty with
   |false=>simp[ht]at h
   |true=>simp only[ht,Bov,Bp0,Bpm]at h;rw[← h.2];rfl
  ·cases h
 ·simp only[Bp0,Bpm]at h;rw[← h.2];rfl
 ·cases h
def B0u{y:t.T}(h:(VK.d t).proj x=some (y,σ)):σ=[]:=by
 simp only[VK.proj]at h;split at h
 ·cases h;rfl
 ·cases h
def Ajh{y:Unit}(h:(VK.p k off).proj x=some (y,σ)):σ=[]:=by
 change Abe k off x=some (y,σ)at h;unfold Abe at h;split at h
 ·rename_i k' Rs;cases h1:Nat.beq k' k with
  |false=>simp[h1]at h
  |true =>
   cases h2:B6r Rs off with
   |false=>simp[h1,h2]at h
   |true=>simp only[h1,h2,Bov,Bp0,Bpm]at h;exact h.2.symm
 ·cases h
def Aji{y:Bool}(h:(VK.z k off).proj x=some (y,σ)):σ=[]:=by
 change Awl k off x=some (y,σ)at h;unfold Awl at h;split at h
 ·rename_i k' Rs;cases h1:Nat.beq k' k with
  |false=>simp[h1]at h
  |true =>
   cases h2:Nat.beq Rs off with
   |false=>simp[h1,h2]at h
   |true=>simp only[h1,h2,Bov,Bp0,Bpm]at h;exact h.2.symm
 ·rename_i k' b Rs;cases h1:Nat.beq k' k with
  |false=>simp[h1]at h
  |true =>
   cases h2:Nat.beq Rs off with
   |false=>simp[h1,h2]at h
   |true=>simp only[h1,h2,Bov,Bp0,Bpm]at h;exact h.2.symm
 ·cases h;rfl
 ·cases h
def Afu{y:Nat}(h:(VK.os k t).proj x=some (y,σ)):σ=[]:=by
 change Aja k t x=some (y,σ)at h;unfold Aja at h;split at h
 ·rename_i k' t' a n;cases h1:Nat.beq k' k<;>cases h2:t'.Jm t<;>cases h3:Nat.beq a 0<;>simp[h1,h2,h3]at h;exact h.2
 ·cases h
def Afv{y:Unit}(h:(VK.Px p).proj x=some (y,σ)):σ=[]:=by
 change Ajb p x=some (y,σ)at h;unfold Ajb at h;cases hp:A1i p x with
 |false=>simp[hp]at h
 |true=>simp[hp]at h;exact h
theorem A7q{env:A2 (Nat×XV)}:∀ {l:A2 (Tmp×VK)} {x:Ajc l} {σ:Lab},Tm env l=some (x,σ)→σ.map (·.1)=Mw l
 |[],x,σ,h=>by simp[Tm]at h;rw[h];rfl
 |(t,v)::r,x,σ,h=>by
  unfold Tm at h;split at h
  ·rename_i z hz;split at h
   ·rename_i y σ1 hy;split at h
    ·rename_i ys τ hys;simp only[Bp0,Bpm]at h;rw[← h.2,Bpn,A7q hys];cases v with
     |d t=>rw[B0u hy];rfl
     |Be n t ty=>rw[Abh hy];rfl
     |p k off=>rw[Ajh hy];rfl
     |z k off=>rw[Aji hy];rfl
     |os k t=>rw[Afu hy];rfl
     |Px p=>rw[Afv hy];rfl
    ·cases h
   ·cases h
  ·cases h
theorem I1:∀ {l:A2 VK} {cs:A2 XV} {x:A8n l} {σ:Lab},C5 l cs=some (x,σ)→σ.map (·.1)=Ki l
 |[],cs,x,σ,h=>by
  unfold C5 at h;split at h
  ·cases h;rfl
  ·cases h
 |.d t::r,cs,x,σ,h=>by
  unfold C5 at h;split at h
  ·split at h
   ·split at h
    ·rename_i ys τ hys;cases h;exact I1 (l:=r) hys
    ·cases h
   ·cases h
  ·cases h
 |.p k off::r,cs,x,σ,h=>by
  unfold C5 at h;split at h
  ·split at h
   ·rename_i y σ1 hy;split at h
    ·rename_i ys τ hys;cases h;rw[Bpn,Ajh hy,I1 hys];rfl
    ·cases h
   ·cases h
  ·cases h
 |.z k off::r,cs,x,σ,h=>by
  unfold C5 at h;split at h
  ·split at h
   ·rename_i y σ1 hy;split at h
    ·rename_i ys τ hys;cases h;rw[Bpn,Aji hy,I1 hys];rfl
    ·cases h
   ·cases h
  ·cases h
 |.os k t::r,cs,x,σ,h=>by
  unfold C5 at h;split at h
  ·split at h
   ·rename_i y σ1 hy;split at h
    ·rename_i ys τ hys;cases h;rw[Bpn,Afu hy,I1 hys];rfl
    ·cases h
   ·cases h
  ·cases h
 |.Px p::r,cs,x,σ,h=>by
  unfold C5 at h;split at h
  ·split at h
   ·rename_i y σ1 hy;split at h
    ·rename_i ys τ hys;cases h;rw[Bpn,Afv hy,I1 hys];rfl
    ·cases h
   ·cases h
  ·cases h
 |.Be n t ty::r,cs,x,σ,h=>by
  unfold C5 at h;split at h
  ·split at h
   ·rename_i y σ1 hy;split at h
    ·rename_i ys τ hys;cases h;rw[Bpn,Abh hy,I1 hys];rfl
    ·cases h
   ·cases h
  ·cases h
theorem A7r{objs:A2 (Nat×A9)}:∀ {l:A2 (Nat×A2 VK×A3 TypeId)} {x:Afs l} {σ:Lab},Tn objs l=some (x,σ)→σ.map (·.1)=A1l l
 |[],x,σ,h=>by simp[Tn]at h;rw[h];rfl
 |p::r,x,σ,h=>by
  unfold Tn at h;split at h
  ·rename_i cs ty hk;cases ht:Abg ty p.2.2 with
   |false=>simp[ht]at h
   |true =>
    simp only[ht,Bov]at h;split at h
    ·rename_i y σ1 hy;split at h
     ·rename_i ys τ hys;cases h;rw[Bpn,I1 hy,A7r hys];rfl
     ·cases h
    ·cases h
  ·cases h
def Pn(g:Gh)(w:World)(cs:A2 XV)(vs:A2 Value):Prop:=∀(i:Nat) x v,cs[i]? = some x→vs[i]? = some v→RA g w x.a v
theorem Pn.split{g:Gh}{w:World}{a b:A2 XV}{vs:A2 Value}(h:Pn g w a (vs.take a.length))(h':Pn g w b (vs.drop a.length)):Pn g w (a++b) vs:=by
 intro i x v hx hv;rw[Bqh]at hx;split at hx
 ·rename_i Bg;refine h i x v hx ?_;rw[Bqj,Bq6 Bg];exact hv
 ·refine h' (i-a.length) x v hx ?_;rw[Bqn,show a.length+(i-a.length)=i by omega];exact hv
theorem Awm:∀ {cs:A2 XV} {ds:A2 XD},A3l cs=some ds→cs=ds.map .d
 |[],ds,h=>by simp[A3l]at h;subst h;rfl
 |x::r,ds,h=>by
  cases x with
  |d x =>
   simp only[A3l]at h;split at h
   ·rename_i l hl;cases h;rw[Awm hl];rfl
   ·cases h
  |_=>simp[A3l]at h
def Fe{r:A2 VK}(h:Vb ns (v::r)=true):v.okp ns=true∧Vb ns r=true:=by
 simp only[Vb]at h;cases hv:v.okp ns with
 |false=>simp[hv]at h
 |true=>simp only[hv,Bov]at h;exact⟨rfl,h⟩
theorem Kx{g g':Gh}{w:World}{ns:A2 Nat}(hγ:g'.γ=g.γ)(hρ:∀k,k∉ns→g'.ρ k=g.ρ k):∀ {l:A2 VK} {cs:A2 XV} {x:A8n l} {σ:Lab} {vs:A2 Value},Vb ns l=true→C5 l cs=some (x,σ) →
  (∀n m,(n,some m)∈σ→∀ob,g'.β n=some ob→g.β m=some ob)→Pn g w cs vs→Pn g' w (Lh l x) vs∧(Lh l x).length=cs.length
 |[],cs,x,σ,vs,Je,h,hσ,hc=>by
  unfold C5 at h;split at h
  ·exact⟨fun i x v hx=>by simp[Lh]at hx,rfl⟩
  ·cases h
 |.d t::r,cs,x,σ,vs,Je,h,hσ,hc=>by
  unfold C5 at h;split at h
  ·rename_i ds hds;split at h
   ·rename_i y hy;split at h
    ·rename_i ys τ hys;cases h;obtain⟨zs,hz,hle⟩:=t.Wh hy;simp only[D1,Bq0]at hz;subst hz;have hm:=Ae7 hds;have hlen:ds.length=t.size:=by rw[← Gj,hle.length,Ty.Cj]
     have Bof:t.size≤cs.length:=by have:(cs.take t.size).length=ds.length:=hm.1;rw[Bq1,hlen]at this;omega
     have ih:=Kx hγ hρ (vs:=vs.drop t.size) (Fe Je).2 hys hσ (by
      intro i x v hx hv;rw[Bqn]at hx hv;exact hc _ x v hx hv)
     simp only[Lh,VK.cells];refine⟨Pn.split ?_ (by simpa[Ty.A86]using ih.1),by simp[Ty.A86,ih.2];omega⟩;intro i x v hx hv;rw[Bp1,Bp8]at hx;obtain⟨z,hz,rfl⟩:=hx;simp only[Bpl]at hv;rw[Bqj]at hv;split at hv
     ·have hd:(t.ds y)[i]? = some z.d:=by rw[← Ty.Mu,He,Bp1,hz];rfl
      obtain⟨u,hu,Bmv⟩:=hle.get hd;rw[He,Bp1,Bp8]at hu;obtain⟨u',hu',rfl⟩:=hu;have hi:i<t.size:=by have:=(Bp2.1 hu').1;omega
      obtain⟨c0,Rq⟩:∃c0,cs[i]? = some c0:=⟨_,Bpd (by omega)⟩;have hct:(cs.take t.size)[i]? = some c0:=by rw[Bqj,Bq6 hi];exact Rq
      have:=hm.2 i c0 u' hct hu' g w v (hc i _ v Rq hv);have:=Ya.d Bmv g w v this;simp only[XV.a];cases this with
      |d _ _ h1=>exact .d _ _ (hγ▸h1)
     ·cases hv
    ·cases h
   ·cases h
  ·cases h
 |.Be n t ty::r,cs,x,σ,vs,Je,h,hσ,hc=>by
  unfold C5 at h;split at h
  ·rename_i c Y3;split at h
   ·rename_i y σ1 hy;split at h
    ·rename_i ys τ hys;cases h;have ih:=Kx hγ hρ (vs:=vs.drop 1) (Fe Je).2 hys (fun n m hm=>hσ n m (Bph _ hm)) (by
      intro i x v hx hv;rw[Bqn]at hv;exact hc (i+1) x v (by simpa using hx) (by rw[Bsy];exact hv))
     simp only[Lh,VK.cells];refine⟨Pn.split (a:=[_]) ?_ (by simpa using ih.1),by simp[ih.2]⟩;intro i x v hx hv;cases i with
     |succ i=>simp at hx
     |zero =>
      simp at hx;subst hx;have hv':vs[0]? = some v:=by rw[Bqj]at hv;simpa using hv
      exact VK.A5z (v:=.Be n t ty) hy hγ hρ (Fe Je).1 (fun n m hm=>hσ n m (Bpi _ hm)) (hc 0 c v rfl hv')
    ·cases h
   ·cases h
  ·cases h
 |.p k off::r,cs,x,σ,vs,Je,h,hσ,hc=>by
  unfold C5 at h;split at h
  ·rename_i c Y3;split at h
   ·rename_i y σ1 hy;split at h
    ·rename_i ys τ hys;cases h;have ih:=Kx hγ hρ (vs:=vs.drop 1) (Fe Je).2 hys (fun n m hm=>hσ n m (Bph _ hm)) (by
      intro i x v hx hv;rw[Bqn]at hv;exact hc (i+1) x v (by simpa using hx) (by rw[Bsy];exact hv))
     simp only[Lh,VK.cells];refine⟨Pn.split (a:=[_]) ?_ (by simpa using ih.1),by simp[ih.2]⟩;intro i x v hx hv;cases i with
     |succ i=>simp at hx
     |zero =>
      simp at hx;subst hx;have hv':vs[0]? = some v:=by rw[Bqj]at hv;simpa using hv
      exact VK.A5z (v:=.p k off) hy hγ hρ (Fe Je).1 (fun n m hm=>hσ n m (Bpi _ hm)) (hc 0 c v rfl hv')
    ·cases h
   ·cases h
  ·cases h
 |.z k off::r,cs,x,σ,vs,Je,h,hσ,hc=>by
  unfold C5 at h;split at h
  ·rename_i c Y3;split at h
   ·rename_i y σ1 hy;split at h
    ·rename_i ys τ hys;cases h;have ih:=Kx hγ hρ (vs:=vs.drop 1) (Fe Je).2 hys (fun n m hm=>hσ n m (Bph _ hm)) (by
      intro i x v hx hv;rw[Bqn]at hv;exact hc (i+1) x v (by simpa using hx) (by rw[Bsy];exact hv))
     simp only[Lh,VK.cells];refine⟨Pn.split (a:=[_]) ?_ (by simpa using ih.1),by simp[ih.2]⟩;intro i x v hx hv;cases i with
     |succ i=>simp at hx
     |zero =>
      simp at hx;subst hx;have hv':vs[0]? = some v:=by rw[Bqj]at hv;simpa using hv
      exact VK.A5z (v:=.z k off) hy hγ hρ (Fe Je).1 (fun n m hm=>hσ n m (Bpi _ hm)) (hc 0 c v rfl hv')
    ·cases h
   ·cases h
  ·cases h
 |.os k t::r,cs,x,σ,vs,Je,h,hσ,hc=>by
  unfold C5 at h;split at h
  ·rename_i c Y3;split at h
   ·rename_i y σ1 hy;split at h
    ·rename_i ys τ hys;cases h;have ih:=Kx hγ hρ (vs:=vs.drop 1) (Fe Je).2 hys (fun n m hm=>hσ n m (Bph _ hm)) (by
      intro i x v hx hv;rw[Bqn]at hv;exact hc (i+1) x v (by simpa using hx) (by rw[Bsy];exact hv))
     simp only[Lh,VK.cells];refine⟨Pn.split (a:=[_]) ?_ (by simpa using ih.1),by simp[ih.2]⟩;intro i x v hx hv;cases i with
     |succ i=>simp at hx
     |zero =>
      simp at hx;subst hx;have hv':vs[0]? = some v:=by rw[Bqj]at hv;simpa using hv
      exact VK.A5z (v:=.os k t) hy hγ hρ (Fe Je).1 (fun n m hm=>hσ n m (Bpi _ hm)) (hc 0 c v rfl hv')
    ·cases h
   ·cases h
  ·cases h
 |.Px p::r,cs,x,σ,vs,Je,h,hσ,hc=>by
  unfold C5 at h;split at h
  ·rename_i c Y3;split at h
   ·rename_i y σ1 hy;split at h
    ·rename_i ys τ hys;cases h;have ih:=Kx hγ hρ (vs:=vs.drop 1) (Fe Je).2 hys (fun n m hm=>hσ n m (Bph _ hm)) (by
      intro i x v hx hv;rw[Bqn]at hv;exact hc (i+1) x v (by simpa using hx) (by rw[Bsy];exact hv))
     simp only[Lh,VK.cells];refine⟨Pn.split (a:=[_]) ?_ (by simpa using ih.1),by simp[ih.2]⟩;intro i x v hx hv;cases i with
     |succ i=>simp at hx
     |zero =>
      simp at hx;subst hx;have hv':vs[0]? = some v:=by rw[Bqj]at hv;simpa using hv
      exact VK.A5z (v:=.Px p) hy hγ hρ (Fe Je).1 (fun n m hm=>hσ n m (Bpi _ hm)) (hc 0 c v rfl hv')
    ·cases h
   ·cases h
  ·cases h
theorem G5{α:Type}{k:Nat}{x:α}:∀ {l:A2 (Nat×α)},lk k l=some x→(k,x)∈l
 |[],h=>by cases h
 |p::r,h=>by
  simp only[F9]at h;cases hb:Nat.beq p.1 k with
  |true =>simp only[hb,Bov,Bp0]at h;have:=Boy hb;subst h;subst this;exact Bp6
  |false =>simp only[hb,Box]at h;exact Bp5 _ (G5 h)
theorem B3p{α:Type}{k:Nat}:∀ {l:A2 (Nat×α)},lk k l=none→k∉l.map (·.1)
 |[],_=>by simp
 |p::r,h=>by
  simp only[F9]at h;cases hb:Nat.beq p.1 k with
  |true=>simp[hb]at h
  |false =>simp only[hb,Box]at h;have:p.1≠k:=Brd hb;simp only[Bp3,Boz,Bt5];exact⟨Brl this,B3p h⟩
def Ae8{α:Type}{l:A2 (Nat×α)}(h:k∈l.map (·.1)):∃x,lk k l=some x:=by
 cases hl:lk k l with
 |some x=>exact⟨x,rfl⟩
 |none=>exact absurd h (B3p hl)
theorem Ae9{α:Type}{k:Nat}{x:α}:∀ {l:A2 (Nat×α)},(l.map (·.1)).Nodup→(k,x)∈l→lk k l=some x
 |[],_,h=>by simp at h
 |p::r,hnd,h=>by
  simp only[Bp3,Bqg]at hnd;simp only[F9];rcases Boz.1 h with h'|h'
  ·subst h';simp
  ·have hne:p.1≠k:=fun he=>hnd.1 (he▸Bpe (f:=(·.1)) h')
   rw[nbF hne];exact Ae9 hnd.2 h'
def Afw{v:Tmp×VK}{r:A2 (Tmp×VK)}(h:A42 ns (v::r)=true):v.2.okp ns=true∧A42 ns r=true:=by
 simp only[A42]at h;cases hv:v.2.okp ns with
 |false=>simp[hv]at h
 |true=>simp only[hv,Bov]at h;exact⟨rfl,h⟩
def Afx{v:Nat×A2 VK×A3 TypeId}{r:A2 (Nat×A2 VK×A3 TypeId)}(h:A43 ns (v::r)=true):Vb ns v.2.1=true∧A43 ns r=true:=by
 simp only[A43]at h;cases hv:Vb ns v.2.1 with
 |false=>simp[hv]at h
 |true=>simp only[hv,Bov]at h;exact⟨rfl,h⟩
theorem Abi{env:A2 (Nat×XV)}:∀ {l:A2 (Tmp×VK)} {x:Ajc l} {σ:Lab} {t:Nat} {y:XV},Tm env l=some (x,σ)→(t,y)∈Yu l x →
  ∃(v:VK) (z:XV) (u:v.T) (σ':Lab),lk t env=some z∧v.proj z=some (u,σ')∧y=v.val u∧(∀p∈σ',p∈σ)∧∀ns,A42 ns l=true→v.okp ns=true
 |[],x,σ,t,y,h,hm=>by simp[Yu]at hm
 |p::r,x,σ,t,y,h,hm=>by
  unfold Tm at h;split at h
  ·rename_i z hz;split at h
   ·rename_i u σ1 hu;split at h
    ·rename_i ys τ hys;cases h;simp only[Yu,Boz]at hm;rcases hm with hm|hm
     ·cases hm;exact⟨p.2,z,u,σ1,hz,hu,rfl,fun q hq=>Bpi _ hq,fun ns hn=>(Afw hn).1⟩
     ·obtain⟨v,z,u,σ',h1,h2,h3,h4,h5⟩:=Abi hys hm;exact⟨v,z,u,σ',h1,h2,h3,fun q hq=>Bph _ (h4 q hq),fun ns hn=>h5 ns (Afw hn).2⟩
    ·cases h
   ·cases h
  ·cases h
theorem A1m{objs:A2 (Nat×A9)}:∀ {l:A2 (Nat×A2 VK×A3 TypeId)} {x:Afs l} {σ:Lab} {k:Nat} {y:A9},Tn objs l=some (x,σ)→(k,y)∈R4 l x →
  ∃(vs:A2 VK) (cs:A2 XV) (ty:A3 TypeId) (u:A8n vs) (σ':Lab),lk k objs=some (.cells cs ty)∧C5 vs cs=some (u,σ')∧y = .cells (Lh vs u) ty∧(∀p∈σ',p∈σ)∧k∈l.map (·.1)∧∀ns,A43 ns l=true→Vb ns vs=true
 |[],x,σ,k,y,h,hm=>by simp[R4]at hm
 |p::r,x,σ,k,y,h,hm=>by
  unfold Tn at h;split at h
  ·rename_i cs ty hk;cases ht:Abg ty p.2.2 with
   |false=>simp[ht]at h
   |true =>
    simp only[ht,Bov]at h;have:=Ajf ht;split at h
    ·rename_i u σ1 hu;split at h
     ·rename_i ys τ hys;cases h;simp only[R4,Boz]at hm;rcases hm with hm|hm
      ·cases hm;exact⟨p.2.1,cs,ty,u,σ1,hk,hu,by rw[this],fun q hq=>Bpi _ hq,Bp6,fun ns hn=>(Afx hn).1⟩
      ·obtain⟨vs,cs,ty,u,σ',h1,h2,h3,h4,h6,h5⟩:=A1m hys hm;exact⟨vs,cs,ty,u,σ',h1,h2,h3,fun q hq=>Bph _ (h4 q hq),Bp5 _ h6,fun ns hn=>h5 ns (Afx hn).2⟩
     ·cases h
    ·cases h
  ·cases h
theorem Yw{env:A2 (Nat×XV)}:∀ {l:A2 Tmp} {t:Nat} {y:XV},(t,y)∈A1k env l→t∈l∧lk t env=some y
 |[],t,y,h=>by simp[A1k]at h
 |a::r,t,y,h=>by
  unfold A1k at h;split at h
  ·rename_i x hx;rcases Boz.1 h with h|h
   ·cases h;exact⟨Bp6,hx⟩
   ·have:=Yw h;exact⟨Bp5 _ this.1,this.2⟩
  ·have:=Yw h;exact⟨Bp5 _ this.1,this.2⟩
theorem Nx{objs:A2 (Nat×A9)}:∀ {l:A2 Nat} {t:Nat} {y:A9},(t,y)∈Mv objs l→t∈l∧lk t objs=some y
 |[],t,y,h=>by simp[Mv]at h
 |a::r,t,y,h=>by
  unfold Mv at h;split at h
  ·rename_i x hx;rcases Boz.1 h with h|h
   ·cases h;exact⟨Bp6,hx⟩
   ·have:=Nx h;exact⟨Bp5 _ this.1,this.2⟩
  ·have:=Nx h;exact⟨Bp5 _ this.1,this.2⟩
def B94{a:Nat}{l:A2 Nat}(hw:inl a l=false):a∉l:=by intro hm;rw[(Cx _ _).2 hm]at hw;cases hw
theorem Abj{s:Af}{ns:A2 Nat}:∀ {l:A2 Tmp},A5y s ns l=true→∀t∈l,t∉s.wl∧∃x,lk t s.env=some x∧Gi ns x.a=true
 |[],_=>by simp
 |a::r,h=>by
  unfold A5y at h;cases hw:inl a s.wl with
  |true=>simp[hw]at h
  |false =>
   simp only[hw,Box]at h;split at h
   ·rename_i x hx;cases hf:Gi ns x.a with
    |false=>simp[hf]at h
    |true =>
     simp only[hf,Bov]at h;intro t ht;rcases Boz.1 ht with rfl|ht
     ·exact⟨B94 hw,x,hx,hf⟩
     ·exact Abj h t ht
   ·cases h
theorem A7s{s:Af}{ns:A2 Nat}:∀ {l:A2 Nat},A09 s ns l=true→∀t∈l,t∉s.ol∧∃x,lk t s.objs=some x∧Yv ns x=true
 |[],_=>by simp
 |a::r,h=>by
  unfold A09 at h;cases hw:inl a s.ol with
  |true=>simp[hw]at h
  |false =>
   simp only[hw,Box]at h;split at h
   ·rename_i x hx;cases hf:Yv ns x with
    |false=>simp[hf]at h
    |true =>
     simp only[hf,Bov]at h;intro t ht;rcases Boz.1 ht with rfl|ht
     ·exact⟨B94 hw,x,hx,hf⟩
     ·exact A7s h t ht
   ·cases h
theorem Mx:∀ {τ:Lab} {m:Nat},m∈Kw τ↔∃n,(n,some m)∈τ
 |[],m=>by simp[Kw]
 |(n,some k)::r,m=>by
  simp only[Kw,Boz,Mx (τ:=r),Bpm,Bp0];constructor
  ·rintro (rfl|⟨n',h⟩)
   ·exact⟨n,.inl ⟨rfl,rfl⟩⟩
   ·exact⟨n',.inr h⟩
  ·rintro ⟨n',⟨rfl,rfl⟩|h⟩
   ·exact .inl rfl
   ·exact .inr ⟨n',h⟩
 |(n,none)::r,m=>by
  simp only[Kw,Boz,Mx (τ:=r),Bpm,reduceCtorEq,and_false,Bvn]
theorem A44:∀ {τ:Lab} {n n' m:Nat},(Kw τ).Nodup→(n,some m)∈τ→(n',some m)∈τ→n=n'
 |[],n,n',m,_,h,_=>by simp at h
 |(a,some k)::r,n,n',m,hnd,h,h'=>by
  simp only[Kw,Bqg]at hnd;rcases Boz.1 h with h1|h1<;>rcases Boz.1 h' with h2|h2
  ·cases h1;cases h2;rfl
  ·cases h1;exact absurd (Mx.2 ⟨n',h2⟩) hnd.1
  ·cases h2;exact absurd (Mx.2 ⟨n,h1⟩) hnd.1
  ·exact A44 hnd.2 h1 h2
 |(a,none)::r,n,n',m,hnd,h,h'=>by
  simp only[Kw]at hnd;simp only[Boz,Bpm,reduceCtorEq,and_false,Bvn]at h h';exact A44 hnd h h'
def B6s{l:A2 (Nat×XV)}{t:Nat}{x:AV}(h:(Ds l).lookup t=some x):∃y,lk t l=some y∧x=y.a:=by rw[A88]at h;obtain⟨y,hy,rfl⟩:=Bp8.1 h;exact⟨y,hy,rfl⟩
theorem A1n{env:A2 (Nat×XV)}{objs:A2 (Nat×A9)}:∀ {l:A2 (Tmp×Nat×Ty)} {x:A6x l} {ν:A2 (Nat×Nat)} {t:Nat} {y:XV},Jr env objs l=some (x,ν)→(t,y)∈Va l x →
  (y = .d (.v (.slice none 0 0))∧lk t env=some y)∨∃(n k:Nat) (ty:Ty) (len:Nat),(n,k)∈ν∧lk t env=some (.os k ty 0 len)∧y = .os n ty 0 len
 |[],x,ν,t,y,h,hm=>by simp[Va]at hm
 |p::r,x,ν,t,y,h,hm=>by
  unfold Jr at h;split at h
  ·rename_i k ty a len xs τ hv hr;split at h
   ·rename_i tu l hk;split at h
    ·rename_i he;cases h1:ty.Jm p.2.2 with
     |false=>simp[h1]at h
     |true =>
     cases h2:Nat.beq a 0 with
     |false=>simp[h1,h2]at h
     |true =>
      simp only[h1,h2,Bov,Bp0,Bpm]at h;obtain⟨rfl,rfl⟩:=h;have e1:=Ty.Am h1;have e2:=Boy h2;subst e2;simp only[Va,Boz]at hm;rcases hm with hm|hm
      ·cases hm;exact .inr ⟨p.2.1,k,ty,len,Bp6,hv,by rw[e1]⟩
      ·rcases A1n hr hm with h|⟨n,k',Y8,Bmw,h1,h2,h3⟩
       ·exact .inl h
       ·exact .inr ⟨n,k',Y8,Bmw,Bp5 _ h1,h2,h3⟩
    ·cases h
   ·cases h
  ·rename_i xs τ hv hr;simp only[Bp0,Bpm]at h;obtain⟨rfl,rfl⟩:=h;simp only[Va,Boz]at hm;rcases hm with hm|hm
   ·cases hm;exact .inl ⟨rfl,hv⟩
   ·exact A1n hr hm
  ·cases h
theorem Yx{env:A2 (Nat×XV)}{objs:A2 (Nat×A9)}:∀ {l:A2 (Tmp×Nat×Ty)} {x:A6x l} {ν:A2 (Nat×Nat)} {n k:Nat},Jr env objs l=some (x,ν)→(n,k)∈ν→∃y,lk k objs=some y
 |[],x,ν,n,k,h,hm=>by
  simp only[Jr,Bp0,Bpm]at h;obtain⟨_,rfl⟩:=h;cases hm
 |p::r,x,ν,n,k,h,hm=>by
  unfold Jr at h;split at h
  ·rename_i k' ty a len xs τ hv hr;split at h
   ·rename_i tu l hk;split at h
    ·rename_i he;cases h1:ty.Jm p.2.2 with
     |false=>simp[h1]at h
     |true =>
     cases h2:Nat.beq a 0 with
     |false=>simp[h1,h2]at h
     |true =>
      simp only[h1,h2,Bov,Bp0,Bpm]at h;obtain⟨rfl,rfl⟩:=h;rcases Boz.1 hm with hm|hm
      ·cases hm;exact⟨_,hk⟩
      ·exact Yx hr hm
    ·cases h
   ·cases h
  ·rename_i xs τ hv hr;simp only[Bp0,Bpm]at h;obtain⟨rfl,rfl⟩:=h;exact Yx hr hm
  ·cases h
theorem A1o{env:A2 (Nat×XV)}{objs:A2 (Nat×A9)}:∀ {l:A2 (Tmp×Nat×Ty)} {x:A6x l} {ν:A2 (Nat×Nat)} {n:Nat} {y:A9},Jr env objs l=some (x,ν)→(n,y)∈Sz l x →
  ∃k,(n,k)∈ν∧lk k objs=some y
 |[],x,ν,t,y,h,hm=>by simp[Sz]at hm
 |p::r,x,ν,t,y,h,hm=>by
  unfold Jr at h;split at h
  ·rename_i k ty a len xs τ hv hr;split at h
   ·rename_i tu l hk;split at h
    ·rename_i he;cases h1:ty.Jm p.2.2 with
     |false=>simp[h1]at h
     |true =>
     cases h2:Nat.beq a 0 with
     |false=>simp[h1,h2]at h
     |true =>
      simp only[h1,h2,Bov,Bp0,Bpm]at h;obtain⟨rfl,rfl⟩:=h;simp only[Sz,Boz]at hm;rcases hm with hm|hm
      ·cases hm;refine⟨k,Bp6,?_⟩;rw[hk];have e0:=Ty.Am he;obtain⟨a1,a2,a3⟩:=p;simp only at he e0⊢;subst e0;rfl
      ·obtain⟨k',h1,h2⟩:=A1o hr hm;exact⟨k',Bp5 _ h1,h2⟩
    ·cases h
   ·cases h
  ·rename_i xs τ hv hr;simp only[Bp0,Bpm]at h;obtain⟨rfl,rfl⟩:=h;exact A1o hr hm
  ·cases h
theorem T0{env:A2 (Nat×XV)}{objs:A2 (Nat×A9)}:∀ {l:A2 (Tmp×Nat×Ty)} {x:A6x l} {ν:A2 (Nat×Nat)},Jr env objs l=some (x,ν)→∀p∈ν,p.1∈ownNames l
 |[],x,ν,h=>by simp[Jr]at h;simp[h]
 |p::r,x,ν,h=>by
  unfold Jr at h;split at h
  ·rename_i k ty a len xs τ hv hr;split at h
   ·split at h
    ·cases h1:ty.Jm p.2.2 with
     |false=>simp[h1]at h
     |true =>
     cases h2:Nat.beq a 0 with
     |false=>simp[h1,h2]at h
     |true =>
      simp only[h1,h2,Bov,Bp0,Bpm]at h;obtain⟨rfl,rfl⟩:=h;intro q hq;rcases Boz.1 hq with rfl|hq
      ·exact Bp6
      ·exact Bp5 _ (T0 hr q hq)
    ·cases h
   ·cases h
  ·rename_i xs τ hv hr;simp only[Bp0,Bpm]at h;obtain⟨rfl,rfl⟩:=h;intro q hq;exact Bp5 _ (T0 hr q hq)
  ·cases h
theorem Zd{env:A2 (Nat×XV)}{objs:A2 (Nat×A9)}:∀ {l:A2 (Tmp×Nat×Ty)} {x:A6x l} {ν:A2 (Nat×Nat)},Jr env objs l=some (x,ν)→(ownNames l).Nodup→(ν.map (·.1)).Nodup
 |[],x,ν,h,_=>by simp[Jr]at h;simp[h]
 |p::r,x,ν,h,hnd=>by
  simp only[ownNames,Bqg]at hnd;unfold Jr at h;split at h
  ·rename_i k ty a len xs τ hv hr;split at h
   ·split at h
    ·cases h1:ty.Jm p.2.2 with
     |false=>simp[h1]at h
     |true =>
     cases h2:Nat.beq a 0 with
     |false=>simp[h1,h2]at h
     |true =>simp only[h1,h2,Bov,Bp0,Bpm]at h;obtain⟨rfl,rfl⟩:=h;simp only[Bp3,Bqg];refine⟨fun hm=>?_,Zd hr hnd.2⟩;obtain⟨q,hq,he⟩:=Bpc.1 hm;exact hnd.1 (he▸T0 hr q hq)
    ·cases h
   ·cases h
  ·rename_i xs τ hv hr;simp only[Bp0,Bpm]at h;obtain⟨rfl,rfl⟩:=h;exact Zd hr hnd.2
  ·cases h
theorem A1p{objs:A2 (Nat×A9)}:∀ {l:A2 (Nat×OK)} {x:Aft l} {k:Nat} {y:A9},A41 objs l=some x→(k,y)∈Ma l x→lk k objs=some y∧k∈Fc l
 |[],x,k,y,h,hm=>by simp[Ma]at hm
 |p::r,x,k,y,h,hm=>by
  unfold A41 at h;split at h
  ·rename_i o xs hk hr;split at h
   ·rename_i z he;cases h;simp only[Ma,Boz]at hm;rcases hm with hm|hm
    ·cases hm;refine⟨?_,Bp6⟩;rw[hk,OK.Asi he]
    ·obtain⟨h1,h2⟩:=A1p hr hm;exact⟨h1,Bp5 _ h2⟩
   ·cases h
  ·cases h
def A60{a b:A2 Nat}(h:(a++b).Nodup):a.Nodup∧b.Nodup∧∀x∈a,x∉b:=by rw[Btu]at h;exact⟨h.1,h.2.1,fun x hx hb=>h.2.2 x hx x hb rfl⟩
theorem My:∀ {l:A2 (Tmp×Nat×Ty)} {x:A6x l} {n:Nat} {y:A9},(n,y)∈Sz l x→n∈ownNames l∧∃t u,y = .arr t u
 |[],x,n,y,h=>by simp[Sz]at h
 |p::r,x,n,y,h=>by
  unfold Sz at h;split at h
  ·exact⟨Bp5 _ (My h).1,(My h).2⟩
  ·rcases Boz.1 h with h|h
   ·cases h;exact⟨Bp6,_,_,rfl⟩
   ·exact⟨Bp5 _ (My h).1,(My h).2⟩
theorem Abk{ns:A2 Nat}:∀ {l:A2 (Nat×OK)} {x:Aft l} {n:Nat} {y:A9},A1j ns l=true→(n,y)∈Ma l x→F4 ns y.o=true
 |[],x,n,y,ho,h=>by simp[Ma]at h
 |(q,ok)::r,x,n,y,ho,h=>by
  have ho':ok.okp ns=true∧A1j ns r=true:=by
   simp only[A1j]at ho;cases hx:ok.okp ns with
   |false=>simp[hx]at ho
   |true=>simp only[hx,Bov]at ho;exact⟨rfl,ho⟩
  unfold Ma at h;rcases Boz.1 h with h|h
  ·cases h;cases ok with
   |arr t=>exact A3e _ _ _
   |Jo m =>
    have h1:=ho'.1;simp only[OK.okp]at h1;show(!ns.contains m)=true;cases hc:ns.contains m with
    |false=>rfl
    |true=>rw[(Cx m ns).2 (Bqc.1 hc)]at h1;cases h1
   |Cf m k v =>
    have h1:=ho'.1;simp only[OK.okp]at h1;show(!ns.contains m)=true;cases hc:ns.contains m with
    |false=>rfl
    |true=>rw[(Cx m ns).2 (Bqc.1 hc)]at h1;cases h1
   |abs h' S ty=>exact S.Ku ho'.1 _ _ _
   |_=>rfl
  ·exact Abk ho'.2 h
theorem Abl{ns:A2 Nat}:∀ {l:A2 (Nat×OK)} {x:Aft l} {n:Nat} {y:A9},A1j ns l=true→(n,y)∈Ma l x→∀p∈y.C1,Y9 ns=true∧F4 ns p.2=true
 |[],x,n,y,ho,h=>by simp[Ma]at h
 |(q,ok)::r,x,n,y,ho,h=>by
  obtain⟨h1,h2⟩:=Ai (a:=ok.okp ns) (b:=A1j ns r) ho;unfold Ma at h;rcases Boz.1 h with h|h
  ·cases h;cases ok with
   |abs h' S ty=>exact fun p hp=>⟨h1,S.Ns h1 _ _ _ p hp⟩
   |_=>intro p hp;cases hp
  ·exact Abl h2 h
theorem Ze:∀(l:A2 (Nat×OK)) (x:Aft l),(Ma l x).map (·.1)=Fc l
 |[],x=>rfl
 |p::r,x=>by simp only[Ma,Bp3,Fc,Ze r]
theorem A7t:∀(l:A2 (Nat×A2 VK×A3 TypeId)) (y:Afs l),(R4 l y).map (·.1)=l.map (·.1)
 |[],y=>rfl
 |p::r,y=>by simp only[R4,Bp3,A7t r]
def Ajj{α:Type}{ν:A2 (Nat×Nat)}{x:A3 α}{y:α}(h:B3o c ν x=some y):(ownNames c.own).Nodup∧(∀k∈ownNames c.own,k∉c.others)∧(ν.map (·.2)).Nodup∧(∀k∈ν.map (·.2),k∉c.others) ∧
  (∀k∈ownNames c.own,1000≤k)∧(∀k∈c.E9,k∉ownNames c.own)∧A42 (ownNames c.own) c.vars=true∧A43 (ownNames c.own) c.objs=true∧A1j (c.E9++ownNames c.own) c.R3=true∧x=some y:=by
 unfold B3o at h;cases h1:I0 (ownNames c.own) with
 |false=>simp[h1]at h
 |true =>
 cases h2:apart (ownNames c.own) c.others with
 |false=>simp[h1,h2]at h
 |true =>
 cases h3:I0 (ν.map (·.2)) with
 |false=>simp[h1,h2,h3]at h
 |true =>
 cases h4:apart (ν.map (·.2)) c.others with
 |false=>simp[h1,h2,h3,h4]at h
 |true =>
 cases h5:(ownNames c.own).all (Nat.ble 1000) with
 |false=>simp only[h1,h2,h3,h4,h5,Bov,Box]at h;cases h
 |true =>
 cases h6:apart c.E9 (ownNames c.own) with
 |false=>simp only[h1,h2,h3,h4,h5,h6,Bov,Box]at h;cases h
 |true =>
 cases h7:A42 (ownNames c.own) c.vars with
 |false=>simp only[h1,h2,h3,h4,h5,h6,h7,Bov,Box]at h;cases h
 |true =>
 cases h8:A43 (ownNames c.own) c.objs with
 |false=>simp only[h1,h2,h3,h4,h5,h6,h7,h8,Bov,Box]at h;cases h
 |true =>
 cases h9:A1j (c.E9++ownNames c.own) c.R3 with
 |false=>simp only[h1,h2,h3,h4,h5,h6,h7,h8,h9,Bov,Box]at h;cases h
 |true =>simp only[h1,h2,h3,h4,h5,h6,h7,h8,h9,Bov]at h;exact⟨Ch h1,apart_spec h2,Ch h3,apart_spec h4,fun k hk=>Bpf (Bqb.1 h5 k hk),apart_spec h6,rfl,rfl,rfl,h⟩
def Aon{nm:A2 Nat}{x:c.T}(h:proj nm kl c s=some x):∃(σ τ0:Lab) (ν:A2 (Nat×Nat)),Tm s.env c.vars=some (x.1,σ)∧Tn s.objs c.objs=some (x.2.1,τ0) ∧
  Jr s.env s.objs c.own=some (x.2.2.1,ν)∧A41 s.objs c.R3=some x.2.2.2∧A5y s (c.E9++ownNames c.own) c.Yt=true∧A09 s (c.E9++ownNames c.own) c.P7=true ∧
  (∀n∈Kw (σ++τ0)++kl,n∈s.live)∧(Kw (σ++τ0)++kl).Nodup∧(c.E9++kl).Nodup∧(∀k∈nm,k∈c.others)∧(∀t∈c.Yt,t∉slotsOf c.vars++Li c.own) ∧
  (∀k∈c.P7,k∉Ii c.objs++(ownNames c.own++Fc c.R3))∧B3o c ν (some x)=some x∧P2 s.objs=true:=by
 unfold proj at h;split at h
 ·rename_i x1 σ y1 τ0 u1 ν v1 hx hy hu hv;cases h1:A5y s (c.E9++ownNames c.own) c.Yt with
  |false=>simp[h1]at h
  |true =>
  cases h2:A09 s (c.E9++ownNames c.own) c.P7 with
  |false=>simp[h1,h2]at h
  |true =>
  cases h3:An3 (Kw (σ++τ0)++kl) s.live with
  |false=>simp only[h1,h2,h3,Bov,Box]at h;cases h
  |true =>
  cases h4:I0 (Kw (σ++τ0)++kl) with
  |false=>simp only[h1,h2,h3,h4,Bov,Box]at h;cases h
  |true =>
  cases h5:I0 (c.E9++kl) with
  |false=>simp only[h1,h2,h3,h4,h5,Bov,Box]at h;cases h
  |true =>
  cases h60:cond (An3 nm c.others) (P2 s.objs) false with
  |false=>simp only[h1,h2,h3,h4,h5,h60,Bov,Box]at h;cases h
  |true =>
  obtain⟨h6,h61⟩:=Ai h60;cases h7:apart c.Yt (slotsOf c.vars++Li c.own) with
  |false=>simp only[h1,h2,h3,h4,h5,h60,h7,Bov,Box]at h;cases h
  |true =>
  cases h8:apart c.P7 (Ii c.objs++(ownNames c.own++Fc c.R3)) with
  |false=>simp only[h1,h2,h3,h4,h5,h60,h7,h8,Bov,Box]at h;cases h
  |true =>simp only[h1,h2,h3,h4,h5,h60,h7,h8,Bov]at h;have h9:=(Ajj h).2.2.2.2.2.2.2.2.2;cases h9;exact⟨σ,τ0,ν,hx,hy,hu,hv,rfl,rfl,Vy h3,Ch h4,Ch h5,Vy h6,apart_spec h7,apart_spec h8,h,h61⟩
 ·cases h
def RA.Awn{k' len sz:Nat}{v:Value}(h:RA g w (.osl k off len sz) v)(hk:g'.ρ k'=g.ρ k):RA g' w (.osl k' off len sz) v:=by
 cases h with
 |nm _ _ _ h=>exact .nm _ _ _ (by rw[hk];exact h)
def Vz{nm:A2 Nat}{x:c.T}(h:proj nm (Wt s0 c) c s=some x)(hi1:∀t∈c.Yt,∀x,t∉s.wl→lk t s.env=some x→lk t s0.env=some x)
  (hi2:∀k∈c.P7,∀x,k∉s.ol→lk k s.objs=some x→lk k s0.objs=some x)  {B:B8}   {a:Act} (hs:SR S B g w s.im a)
  (We:S.names=nm):∃g',SR S B g' w (gen s0 c x).im a:=by
 generalize Gv:Wt s0 c=kl at h;obtain⟨σ,τ0,ν,hx,hy,hu,hv,h1,h2,l3,l4,l5,l6,l7,l8,Bkw,Bkx⟩:=Aon h;obtain⟨w1,w2,w3,w4,w5,w6,w7,w8,w9,-⟩:=Ajj Bkw;generalize hτ:σ++τ0=τ at l3 l4;have k1:=Abj h1;have k2:=A7s h2;obtain⟨n4a,n4b,n4c⟩:=A60 l4;obtain⟨n5a,n5b,n5c⟩:=A60 l5;have Bao:τ.map (·.1)=c.E9:=by rw[← hτ,Bpn,A7q hx,A7r hy];rfl
 have Bmx:=Zd hu w1;have Bmy:=T0 hu;have hr:=hs.hr;let g':=Bkv g τ kl ν;have hβ:∀n,g'.β n=cond (inl n kl) (g.β n) (match lk n τ with|some (some m)=>g.β m|some none=>some none|none=>none):=fun n=>rfl
 have hρ:∀k,k∉ownNames c.own→g'.ρ k=g.ρ k:=by
  intro k hk;show(match lk k ν with|some k=>g.ρ k|none=>g.ρ k)=g.ρ k;cases hl:lk k ν with
  |none=>rfl
  |some z=>exact absurd (Bmy _ (G5 hl)) hk
 have Bgp:∀n k,(n,k)∈ν→g'.ρ n=g.ρ k:=by intro n k hm;show(match lk n ν with|some k=>g.ρ k|none=>g.ρ n)=g.ρ k;rw[Ae9 Bmx hm]
 have βkeep:∀n,n∈kl→g'.β n=g.β n:=by intro n hn;rw[hβ,(Cx _ _).2 hn];rfl
 have βnew:∀n m,(n,some m)∈τ→g'.β n=g.β m:=by
  intro n m hm;have hn:n∈c.E9:=by rw[← Bao];exact Bpe (f:=(·.1)) hm
  have hk:inl n kl=false:=by
   cases hh:inl n kl with
   |false=>rfl
   |true=>exact absurd ((Cx _ _).1 hh) (n5c n hn)
  rw[hβ,hk,Ae9 (by rw[Bao];exact n5a) hm];rfl
 have βother:∀n,n∉c.E9→n∉kl→g'.β n=none:=by
  intro n hn hk;have Lb:inl n kl=false:=by
   cases hh:inl n kl with
   |false=>rfl
   |true=>exact absurd ((Cx _ _).1 hh) hk
  rw[hβ,Lb];cases hl:lk n τ with
  |none=>rfl
  |some z=>exact absurd (by rw[← Bao];exact Bpe (f:=(·.1)) (G5 hl)) hn
 have βsrc:∀n b,g'.β n=some (some b)→(n∈kl∧g.β n=some (some b))∨∃m,(n,some m)∈τ∧g.β m=some (some b):=by
  intro n b hb;by_cases hk:n∈kl
  ·exact .inl ⟨hk,by rw[← βkeep n hk];exact hb⟩
  ·by_cases hn:n∈c.E9
   ·rw[← Bao]at hn;obtain⟨z,hz⟩:=Ae8 hn;cases z with
    |some m=>exact .inr ⟨m,G5 hz,by rw[← βnew n m (G5 hz)];exact hb⟩
    |none =>
     have Lb:inl n kl=false:=by
      cases hh:inl n kl with
      |false=>rfl
      |true=>exact absurd ((Cx _ _).1 hh) hk
     rw[hβ,Lb,hz]at hb;simp at hb
   ·rw[βother n hn hk]at hb;cases hb
 have hη:∀n,g'.η n=cond (inl n kl) (g.η n) (fun _=>none):=fun n=>rfl
 have ηkeep:∀n,n∈kl→g'.η n=g.η n:=by intro n hn;rw[hη,(Cx _ _).2 hn];rfl
 have ηoff:∀n,n∉kl→∀i,g'.η n i=none:=by
  intro n hn i;rw[hη];cases hh:inl n kl with
  |false=>rfl
  |true=>exact absurd ((Cx _ _).1 hh) hn
 have ht:Trans (c.E9++ownNames c.own) g w g' w:=by
  refine⟨.refl _ _,fun k hk=>hρ k fun hm=>hk (Bph _ hm),fun n ob hn he=>?_,fun L hL he=>?_⟩
  ·by_cases hk:n∈kl
   ·exact⟨by rw[← βkeep n hk];exact he,fun _ _=>⟨rfl,rfl⟩⟩
   ·rw[βother n (fun hm=>hn (Bpi _ hm)) hk]at he;cases he
  ·by_cases hk:L∈kl
   ·exact⟨ηkeep L hk,fun _ _ _=>⟨rfl,rfl⟩⟩
   ·rw[βother L (fun hm=>hL (Bpi _ hm)) hk]at he;cases he
 have hσ:∀n m,(n,some m)∈τ→∀ob,g'.β n=some ob→g.β m=some ob:=fun n m hm ob he=>by rw[← βnew n m hm];exact he
 have Asm:∀k,k∈c.others→k∉ownNames c.own:=fun k hk hm=>w2 k hm hk
 have A2l:∀k o,(A4 (gen s0 c x).objs).lookup k=some o→∃k0 p,s.im.X.objs.lookup k0=some p∧g'.ρ k=g.ρ k0∧Bv g' w (g.ρ k0) o∧((k,k0)∈ν∨(k0=k∧k∈c.others)∨(k0=k∧H0≤k∧∀j y,lk j s.objs=some y→j<H0)):=by
  intro k o hk;rcases A3h hk with ⟨y,hyl,rfl⟩|⟨⟨q,y⟩,hq,ho⟩
  rotate_left
  ·have hge:H0≤k:=A9.Nr (Fs ho);have src:lk q s.objs=some y∧∀p∈y.C1,Y9 (c.E9++ownNames c.own)=true∧F4 (c.E9++ownNames c.own) p.2=true:=by
    rcases Bp4.1 hq with hm|hm
    ·obtain⟨vs,cs,ty,u,σ',e1,e2,rfl,e4,e5,e6⟩:=A1m hy hm;cases ho
    ·rcases Bp4.1 hm with hm|hm
     ·obtain⟨_,t,u,rfl⟩:=My hm;cases ho
     ·rcases Bp4.1 hm with hm|hm
      ·obtain⟨q1,q2⟩:=A1p hv hm;exact⟨q1,Abl w9 hm⟩
      ·obtain⟨hk1,hk2⟩:=Nx hm;obtain⟨q1,z,q2,q3⟩:=k2 q hk1;have:=hi2 q hk1 z q1 q2;rw[hk2]at this;cases this;exact⟨q2,Asl q3⟩
   have hl:s.im.X.objs.lookup k=some o:=Ade Bkx (G5 src.1) ho;have Asn:∀j y,lk j s.objs=some y→j<H0:=by
    rcases Kv Bkx with e|e
    ·rw[A9.H6 (Gw e _ (G5 src.1))]at ho;cases ho
    ·intro j y' hj;exact e.2 _ (G5 hj)
   have hno:k∉ownNames c.own:=by intro Oy;have:=Qw (src.2 _ (Fs ho)).1 k (Bph _ Oy);omega
   exact⟨k,_,hl,hρ k hno,(hr.objs k _ hl).D4 ht rfl (.inr (src.2 _ (Fs ho)).2),.inr (.inr ⟨rfl,hge,Asn⟩)⟩
  have hm:=G5 hyl;rcases Bp4.1 hm with hm|hm
  ·obtain⟨vs,cs,ty,u,σ',e1,e2,rfl,e4,e5,e6⟩:=A1m hy hm;have Y5:k∈c.others:=Bpi _ (Bpi _ e5);refine⟨k,_,Ao5 e1,hρ k (Asm k Y5),?_,.inr (.inl ⟨rfl,Y5⟩)⟩;have:=hr.objs k _ (Ao5 e1);cases this with
   |cells _ _ arr T r1 r2 r3 r4 =>
    have pc:=Kx (g:=g) (g':=g') (w:=w) (ns:=ownNames c.own) (vs:=arr.toList) rfl hρ (e6 _ w8) e2 (fun n m hm=>hσ n m (by rw[← hτ];exact Bph _ (e4 _ hm))) (by
     intro i x v hx hv;exact r3 i x.a v (by rw[Lf,hx];rfl) (by simpa using hv))
    refine .cells _ _ arr T r1 (by rw[Ah,pc.2,← Ah];exact r2) ?_ r4;intro i x v hx hv;rw[Lf,Bp8]at hx;obtain⟨z,hz,rfl⟩:=hx;exact pc.1 i z v hz (by simpa using hv)
  ·rcases Bp4.1 hm with hm|hm
   ·obtain⟨k0,q1,q2⟩:=A1o hu hm;obtain⟨_,t,u,rfl⟩:=My hm;exact⟨k0,_,Pv q2,Bgp _ _ q1,(hr.objs k0 _ (Pv q2)).D4 ht rfl (.inr (A3e _ _ _)),.inl q1⟩
   ·rcases Bp4.1 hm with hm|hm
    ·obtain⟨q1,q2⟩:=A1p hv hm;have Y5:k∈c.others:=Bpi _ (Bph _ q2);exact⟨k,_,Pv q1,hρ k (Asm k Y5),(hr.objs k _ (Pv q1)).D4 ht rfl (.inr (Abk w9 hm)),.inr (.inl ⟨rfl,Y5⟩)⟩
    ·obtain⟨hk1,hk2⟩:=Nx hm;obtain⟨q1,z,q2,q3⟩:=k2 k hk1;have:=hi2 k hk1 z q1 q2;rw[hk2]at this;cases this;have hl:s.im.X.objs.lookup k=some y.o:=by show(A4 s.objs).lookup k=_;exact Hy q2
     have Y5:k∈c.others:=Bph _ hk1;exact⟨k,_,hl,hρ k (Asm k Y5),(hr.objs k _ hl).D4 ht rfl (.inr (Ajg q3)),.inr (.inl ⟨rfl,Y5⟩)⟩
 refine⟨g',hs.defers,hs.size,?_,?_⟩
 ·refine⟨?_,hr.Ip,hr.base,hr.io,hr.le,hr.frame,?_,?_,?_,?_,?_,?_,?_,?_,?_,hr.eta.Aun (fun L hL=>?_) (Bpa _) (fun n b hn=>?_) (fun k o hk=>?_)⟩
  rotate_right 3
  ·by_cases hk:L∈kl
   ·exact .inl ⟨by rw[← βkeep L hk];exact hL,ηkeep L hk⟩
   ·exact .inr (ηoff L hk)
  ·rcases βsrc n b hn with ⟨a1,a2⟩|⟨m,a1,a2⟩
   ·exact hr.eta.B8g a2
   ·exact hr.eta.B8g a2
  ·obtain⟨k0,p,hp,he,_⟩:=A2l k o hk;rw[he];exact hr.eta.B58 hp
  ·intro k hk;have Lb:=l6 k (We▸hk);refine⟨(hρ k (Asm k Lb)).trans (hr.D4 k hk).1,?_⟩;show((A4 (gen s0 c x).objs).lookup k).isSome=true;have key:k∈(gen s0 c x).objs.map (·.1):=by
    unfold gen;simp only[Bpn,A7t,Ze,Bp4];unfold Cut.others at Lb;simp only[Bp4]at Lb;rcases Lb with (hm|hm)|hm
    ·exact .inl hm
    ·exact .inr (.inr (.inl hm))
    ·refine .inr (.inr (.inr ?_));obtain⟨q1,z,q2,q3⟩:=k2 k hm;have hz:=hi2 k hm z q1 q2;have:∀(l:A2 Nat),k∈l→k∈(Mv s0.objs l).map (·.1):=by
      intro l;induction l with
      |nil=>simp
      |cons j r ih =>
       intro hj;unfold Mv;rcases Boz.1 hj with rfl|hj
       ·rw[hz];exact Bp6
       ·split
        ·exact Bp5 _ (ih hj)
        ·exact ih hj
     exact this _ hm
   obtain⟨z,hz⟩:=Ae8 key;rw[Pv hz];rfl
  ·intro k o hk;obtain⟨k0,p,hp,he,ho,_⟩:=A2l k o hk;rw[he];exact ho
  ·intro k o hk;obtain⟨k0,p,hp,he,_⟩:=A2l k o hk;show g.γ (g'.ρ k)=0;rw[he];exact hr.Fq k0 p hp
  ·intro k k' o o' hk Lb he;obtain⟨k0,p,hp,e1,_,d1⟩:=A2l k o hk;obtain⟨k0',q,hq,e2,_,d2⟩:=A2l k' o' Lb;have he':g.ρ k0=g.ρ k0':=by rw[← e1,← e2];exact he
   have:=hr.Br k0 k0' p q hp hq he';subst this;rcases d1 with d1|⟨d1,d1'⟩|⟨d1,d1',Bmz⟩<;>rcases d2 with d2|⟨d2,d2'⟩|⟨d2,d2',Bn0⟩
   ·have inj:∀(ν:A2 (Nat×Nat)),(ν.map (·.2)).Nodup→(k,k0)∈ν→(k',k0)∈ν→k=k':=by
     intro ν;induction ν with
     |nil=>intro _ h;simp at h
     |cons p r ih =>
      intro hnd h h';simp only[Bp3,Bqg]at hnd;rcases Boz.1 h with z|z<;>rcases Boz.1 h' with z'|z'
      ·subst z;cases z';rfl
      ·subst z;exact absurd (Bpc.2 ⟨_,z',rfl⟩) hnd.1
      ·subst z';exact absurd (Bpc.2 ⟨_,z,rfl⟩) hnd.1
      ·exact ih hnd.2 z z'
    exact inj ν w3 d1 d2
   ·subst d2;exact absurd d2' (w4 _ (Bpe (f:=(·.2)) d1))
   ·subst d2;obtain⟨y,hy⟩:=Yx hu d1;have:=Bn0 _ _ hy;omega
   ·subst d1;exact absurd d1' (w4 _ (Bpe (f:=(·.2)) d2))
   ·exact d1.symm.trans d2
   ·exact d1.symm.trans d2
   ·subst d1;obtain⟨y,hy⟩:=Yx hu d2;have:=Bmz _ _ hy;omega
   ·exact d1.symm.trans d2
   ·exact d1.symm.trans d2
  ·intro k o hk;obtain⟨k0,p,hp,he,_⟩:=A2l k o hk;show B.n0≤g'.ρ k∨B.allowed (g'.ρ k);rw[he];exact hr.Ca k0 p hp
  ·intro n;show n∈c.E9++Wt s0 c↔_;rw[Gv];rw[Bp4];constructor
   ·rintro (hn|hn)
    ·have Ke:=hn;rw[← Bao]at Ke;obtain⟨z,hz⟩:=Ae8 Ke;cases z with
     |some m =>rw[βnew n m (G5 hz)];exact(hr.live m).1 (l3 m (Bpi _ (Mx.2 ⟨n,G5 hz⟩)))
     |none =>
      have Lb:inl n kl=false:=by
       cases hh:inl n kl with
       |false=>rfl
       |true=>exact absurd ((Cx _ _).1 hh) (n5c n hn)
      rw[hβ,Lb,hz];rfl
    ·rw[βkeep n hn];exact(hr.live n).1 (l3 n (Bph _ hn))
   ·intro hn;by_cases hk:n∈kl
    ·exact .inr hk
    ·by_cases hl:n∈c.E9
     ·exact .inl hl
     ·rw[βother n hl hk]at hn;cases hn
  ·intro n m b hn hm;rcases βsrc n b hn with ⟨a1,a2⟩|⟨p,a1,a2⟩<;>rcases βsrc m b hm with ⟨b1,b2⟩|⟨q,b1,b2⟩
   ·exact hr.Bw n m b a2 b2
   ·have:=hr.Bw n q b a2 b2;subst this;exact absurd a1 (n4c n (Mx.2 ⟨m,b1⟩))
   ·have:=hr.Bw p m b a2 b2;subst this;exact absurd b1 (n4c p (Mx.2 ⟨n,a1⟩))
   ·have:=hr.Bw p q b a2 b2;subst this;exact A44 n4a a1 b1
  ·intro n b k o hn hk;obtain⟨k0,p,hp,he,_⟩:=A2l k o hk;rw[he];rcases βsrc n b hn with ⟨a1,a2⟩|⟨m,a1,a2⟩
   ·exact hr.Ba n b k0 p a2 hp
   ·exact hr.Ba m b k0 p a2 hp
  ·intro n b hn;rcases βsrc n b hn with ⟨a1,a2⟩|⟨m,a1,a2⟩
   ·exact hr.C3 n b a2
   ·exact hr.C3 m b a2
  ·intro n b hn;rcases βsrc n b hn with ⟨a1,a2⟩|⟨m,a1,a2⟩
   ·exact hr.C7 n b a2
   ·exact hr.C7 m b a2
 ·intro t y hty;obtain⟨z,hz,rfl⟩:=B6s hty;rcases Bp4.1 (G5 hz)with hm|hm
  ·obtain⟨v,z0,u,σ',e1,e2,rfl,e4,e5⟩:=Abi hx hm;obtain⟨val,hv,Ua⟩:=hs.env t z0.a (Pm e1);exact⟨val,hv,VK.A5z (g:=g) (g':=g') (w:=w) (ns:=ownNames c.own) e2 rfl hρ (e5 _ w7) (fun n m hm=>hσ n m (by rw[← hτ];exact Bpi _ (e4 _ hm))) Ua⟩
  ·rcases Bp4.1 hm with hm|hm
   ·rcases A1n hu hm with ⟨rfl,e1⟩|⟨n,k,ty,len,e1,e2,rfl⟩
    ·obtain⟨val,hv,Ua⟩:=hs.env t _ (Pm e1);exact⟨val,hv,Ua.mono ht (.d _)⟩
    ·obtain⟨val,hv,Ua⟩:=hs.env t _ (Pm e2);exact⟨val,hv,RA.Awn Ua (Bgp _ _ e1)⟩
   ·obtain⟨hk1,hk2⟩:=Yw hm;obtain⟨q1,z1,q2,q3⟩:=k1 t hk1;have:=hi1 t hk1 z1 q1 q2;rw[hk2]at this;cases this;obtain⟨val,hv,Ua⟩:=hs.env t z.a (Pm q2);exact⟨val,hv,Ua.mono ht (Pj q3)⟩
def B0v{nm:A2 Nat}{x:c.T}(h:proj nm kl c s=some x):(∀t∈c.Yt,t∉slotsOf c.vars++Li c.own)∧∀k∈c.P7,k∉Ii c.objs++(ownNames c.own++Fc c.R3):=by obtain⟨σ,τ0,ν,hx,hy,hu,hv,h1,h2,l3,l4,l5,l6,l7,l8,Bkw⟩:=Aon h;exact⟨l7,l8⟩
inductive An where
 |lf
 |seq (a b:An)
 |join (c:Cut) (a b:An)
 |cond (a b:An)
 |blk (a:An)
 |loop (c:Cut) (a:An)
 |stop
 |fg (a b:An)
 |fz (ts:List Nat) (a b:An)
 |alt (c:Cut) (a:An) (r:An)
 |rnd (a:An) (r:An)
 |sel (k:Nat) (a b:An)
def An.l:An→An
 |.seq a _=>a
 |.cond a _=>a
 |.blk a=>a
 |.join _ a _=>a
 |.loop _ a=>a
 |.lf=>.lf
 |.stop=>.lf
 |.fg a _=>a
 |.fz _ a _=>a
 |.alt _ a _=>a
 |.rnd a _=>a
 |.sel _ a _=>a
def An.r:An→An
 |.seq _ b=>b
 |.cond _ b=>b
 |.join _ _ b=>b
 |_=>.lf
def B0w{R:Type}:An→A3 R→A3 R
 |.stop,_=>none
 |_,x=>x
def Afy{R:Type}{an:An}{x:A3 R}{r:R}(h:B0w an x=some r):x=some r:=by cases an<;>first|exact h|cases h
def iter{σ:Type}{R:Type}(f:(σ→A3 R)→σ→A3 R):Nat→σ→A3 R
 |0,_=>none
 |n+1,x=>f (iter f n) x
def Bn{σ:Type}{R:Type}(k:σ→A3 R)(f:(σ→A3 R)→A3 R):A3 R:=f k
def T1{R:Type}:(l:A2 (Tmp×Nat×Ty))→A6x l→(A6x l→A3 R)→A3 R
 |[],u,K=>K u
 |_::r,u,K=>A6 u.1 (T1 r u.2 fun v=>K (none,v)) (fun y=>T1 r u.2 fun v=>K (some y,v))
theorem Mz{R:Type}:∀(l:A2 (Tmp×Nat×Ty)) (u:A6x l) (K:A6x l→A3 R),T1 l u K=K u
 |[],u,K=>rfl
 |p::r,u,K=>by
  obtain⟨a,v⟩:=u;unfold T1;cases a with
  |none=>exact Mz r v _
  |some y=>exact Mz r v _
def fzK{R:Type}:A2 Nat→Af→(Af→A3 R)→A3 R
 |[],s,K=>K s
 |t::ts,s,K=>match lk t s.env with
  |some (.os k ty a n)=>match lk k s.objs with
   |some (.arr u l)=>cond (u.Jm ty) (cond (Nat.ble 1000 k) (cond (cond (Nat.ble (a+n) l.length) (H7 k s.objs) false)
     (fzK ts ⟨(t,.d (.sl u ((l.drop a).take n)))::s.env,D7 k s.objs,s.live,t::s.wl,k::s.ol⟩ K) none) none) none
   |_=>none
  |_=>fzK ts s K
def Bap(i j:Nat):Bool:=Nat.beq i j
def base(st:Af):Af:=⟨st.env,st.objs,st.live,[],[]⟩
def Uu(c:Cut)(st s:Af):Af:=⟨s.env,s.objs,s.live,s.wl++((slotsOf c.vars++Li c.own)++st.wl),s.ol++((Ii c.objs++(ownNames c.own++Fc c.R3))++st.ol)⟩
def A8o(st s:Af):Af:=⟨s.env,s.objs,s.live,s.wl++st.wl,s.ol++st.ol⟩
section
variable(P:Program)(Γ:A2 (Ft P))(own nm:A2 Nat)(nt N:Nat){R:Type}
def J1(f:Af→A3 R)(K:Exit→Af→A3 R):Exit→Af→A3 R
 |.normal,s=>f s
 |e,s=>K e s
def B3r(id:Nat)(K:Exit→Af→A3 R):Exit→Af→A3 R
 |.exit j,s=>cond (Bap j id) (K .normal s) (K (.exit j) s)
 |e,s=>K e s
def Vc{α β γ:Type}(x:α ⊕ β)(f:α→γ)(g:β→γ):γ :=
 match x with
 |.inl a=>f a
 |.inr b=>g b
@[reducible] def An.MT:An→Type
 |.alt c _ r=>c.T ⊕ r.MT
 |.loop c _=>c.T
 |_=>Empty
def An.B0n:An→A2 Cut
 |.alt c _ r=>c::r.B0n
 |.loop c _=>[c]
 |_=>[]
def B3s(c:Cut):A2 Cut→Bool
 |[]=>true
 |d::r=>cond (apart c.Yt (slotsOf d.vars++Li d.own)) (cond (apart c.P7 (Ii d.objs++(ownNames d.own++Fc d.R3))) (B3s c r) false) false
def Aso(all:A2 Cut):A2 Cut→Bool
 |[]=>true
 |c::r=>cond (B3s c all) (Aso all r) false
def Aoo(nm:A2 Nat)(st s:Af):(an:An)→Option an.MT
 |.alt c _ r=>match proj nm (Wt (base st) c) c s with
  |some z=>some (.inl z)
  |none=>match Aoo nm st s r with
   |some z=>some (.inr z)
   |none=>none
 |.loop c _=>proj nm (Wt (base st) c) c s
 |.lf=>none
 |.seq _ _=>none
 |.join _ _ _=>none
 |.cond _ _=>none
 |.blk _=>none
 |.stop=>none
 |.fg _ _=>none
 |.fz _ _ _=>none
 |.rnd _ _=>none
 |.sel _ _ _=>none
def B0x{R:Type}(E:An→Af→(Exit→Af→A3 R)→A3 R)(An4:Af→A3 R)(st:Af)(K:Exit→Af→A3 R):(an:An)→an.MT→A3 R
 |.alt c x r,z=>Vc z (fun z=>T1 c.own z.2.2.1 fun u=>E x (gen (base st) c (z.1,z.2.1,u,z.2.2.2)) (J1 An4 (fun e s=>K e (Uu c st s)))) (fun z=>B0x E An4 st K r z)
 |.loop c x,z=>T1 c.own z.2.2.1 fun u=>E x (gen (base st) c (z.1,z.2.1,u,z.2.2.2)) (J1 An4 (fun e s=>K e (Uu c st s)))
 |.lf,_=>none
 |.seq _ _,_=>none
 |.join _ _ _,_=>none
 |.cond _ _,_=>none
 |.blk _,_=>none
 |.stop,_=>none
 |.fg _ _,_=>none
 |.fz _ _ _,_=>none
 |.rnd _ _,_=>none
 |.sel _ _ _,_=>none
def rounds{R:Type}(E:An→Af→(Exit→Af→A3 R)→A3 R)(K:Exit→Af→A3 R):An→Af→A3 R
 |.rnd a r,st=>E a st (J1 (fun s=>rounds E K r s) K)
 |.lf,_=>none
 |.seq _ _,_=>none
 |.join _ _ _,_=>none
 |.cond _ _,_=>none
 |.blk _,_=>none
 |.stop,_=>none
 |.fg _ _,_=>none
 |.fz _ _ _,_=>none
 |.loop _ _,_=>none
 |.alt _ _ _,_=>none
 |.sel _ _ _,_=>none
def Bn4(k:Nat)(l:A2 (Nat×A9)):Bool:=match lk k l with|some _=>true|none=>false
def Bgq(l:A2 (Nat×A9)):An→An
 |.sel k a b=>cond (Bn4 k l) a b
 |a=>a
def An.Bej:An→Nat
 |.rnd _ r=>r.Bej+1
 |_=>0
def Asp(x:Operand)(b:Bool)(st:Af):Af :=
 match x with
 |.tmp t=>K7 t b st
 |_=>st
def exec:Code→An→Af→(Exit→Af→A3 R)→A3 R
 |.skip,_,st,K=>K .normal st
 |.label _,_,st,K=>K .normal st
 |.exit id,_,st,K=>K (.exit id) st
 |.ret,_,st,K=>K .ret st
 |.region _ ops draw,_,st,K=>A3z P Γ own nt ops draw st.env (K .normal) ops.toList [] st
 |.seq a b,an,st,K =>
  match an with
  |.join c x y =>
   Bn (fun z=>T1 c.own z.2.2.1 fun u=>exec b y (Uu c st (gen (base st) c (z.1,z.2.1,u,z.2.2.2))) K)
    (fun k=>exec a x (base st) (J1 (fun s=>Option.bind (proj nm (Wt (base st) c) c s) k) (fun e s=>K e (A8o st s))))
  |.fg x y=>exec a x st (J1 (fun s=>exec b y (Baa s) K) K)
  |.fz ts x y=>exec a x st (J1 (fun s=>fzK ts s fun s'=>exec b y s' K) K)
  |_=>exec a an.l st (J1 (fun s=>exec b an.r s K) K)
 |.cond c a b,an,st,K =>
  match Av st c with
  |some (.d (.b v))=>cond v (B0w an.l (exec a an.l (Asp c true st) K)) (B0w an.r (exec b an.r (Asp c false st) K))
  |_=>none
 |.block id c,an,st,K=>exec c an.l st (B3r id K)
 |.loop b,an,st,K =>
  match Bgq st.objs an with
  |.rnd x y=>rounds (exec b) K (.rnd x y) st
  |.alt c x r=>cond (Aso (An.alt c x r).B0n (An.alt c x r).B0n) (Option.bind (Aoo nm st (base st) (.alt c x r)) (iter (fun rec z=>B0x (exec b) (fun s=>Option.bind (Aoo nm st s (.alt c x r)) rec) st K (.alt c x r) z) N)) none
  |.loop c x=>Option.bind (proj nm (Wt (base st) c) c (base st)) (iter (fun rec z=>T1 c.own z.2.2.1 fun u=>exec b x (gen (base st) c (z.1,z.2.1,u,z.2.2.2)) (J1 (fun s=>Option.bind (proj nm (Wt (base st) c) c s) rec) (fun e s=>K e (Uu c st s)))) N)
  |_=>none
 |_,_,_,_=>none
end
section
variable{P:Program}{Γ:A2 (Ft P)}{own nm:A2 Nat}{N:Nat}{R:Type}
def Awo(s0:Af)(K:Exit→Af→A3 R)(r:R):Exit→St→Prop:=fun e s=>∃Bd,s=Bd.im∧Inv s0 Bd∧K e Bd=some r
theorem Abm{t:Nat}{y:XV}:∀(l:A2 (Tmp×VK)) (x:Ajc l),(t,y)∈Yu l x→t∈slotsOf l
 |[],x,h=>by simp[Yu]at h
 |p::r,x,h=>by
  simp only[Yu,Boz]at h;simp only[slotsOf,Boz];rcases h with h|h
  ·cases h;exact .inl rfl
  ·exact .inr (Abm r _ h)
theorem Abn{t:Nat}{y:XV}:∀(l:A2 (Tmp×Nat×Ty)) (x:A6x l),(t,y)∈Va l x→t∈Li l
 |[],x,h=>by simp[Va]at h
 |p::r,x,h=>by
  simp only[Va,Boz]at h;simp only[Li,Boz];rcases h with h|h
  ·cases h;exact .inl rfl
  ·exact .inr (Abn r _ h)
theorem Abo{k:Nat}{y:A9}:∀(l:A2 (Nat×A2 VK×A3 TypeId)) (x:Afs l),(k,y)∈R4 l x→k∈Ii l
 |[],x,h=>by simp[R4]at h
 |p::r,x,h=>by
  simp only[R4,Boz]at h;simp only[Ii,Boz];rcases h with h|h
  ·cases h;exact .inl rfl
  ·exact .inr (Abo r _ h)
def B0y{x:c.T}{t:Nat}(h:lk t (gen s0 c x).env=some y):t∈slotsOf c.vars++Li c.own∨lk t s0.env=some y:=by
 rcases Bp4.1 (G5 h)with hm|hm
 ·exact .inl (Bpi _ (Abm _ _ hm))
 ·rcases Bp4.1 hm with hm|hm
  ·exact .inl (Bph _ (Abn _ _ hm))
  ·exact .inr (Yw hm).2
def Asq{x:c.T}{t:Nat}{y:A9}(h:lk t (gen s0 c x).objs=some y):t∈Ii c.objs++(ownNames c.own++Fc c.R3)∨lk t s0.objs=some y:=by
 rcases Bp4.1 (G5 h)with hm|hm
 ·exact .inl (Bpi _ (Abo _ _ hm))
 ·rcases Bp4.1 hm with hm|hm
  ·exact .inl (Bph _ (Bpi _ (My hm).1))
  ·rcases Bp4.1 hm with hm|hm
   ·exact .inl (Bph _ (Bph _ (by rw[← Ze];exact Bpe (f:=(·.1)) hm)))
   ·exact .inr (Nx hm).2
theorem Inv.Uu{s0 st s:Af}{c:Cut}{x:c.T}(h:Inv s0 st)(h':Inv (gen (base st) c x) s):Inv s0 (Uu c st s):=by
 refine⟨fun t y ht hy=>?_,fun k y hk hy=>?_⟩
 ·unfold Xl.Uu at ht hy;simp only at ht hy;rw[Bp4,Bp4 (s:=slotsOf c.vars++Li c.own),Bt5,Bt5]at ht;have h1:=h'.env t y ht.1 hy;rcases B0y h1 with h2|h2
  ·exact absurd h2 ht.2.1
  ·exact h.env t y ht.2.2 h2
 ·unfold Xl.Uu at hk hy;simp only at hk hy;rw[Bp4,Bp4 (s:=Ii c.objs++(ownNames c.own++Fc c.R3)),Bt5,Bt5]at hk;have h1:=h'.objs k y hk.1 hy;rcases Asq h1 with h2|h2
  ·exact absurd h2 hk.2.1
  ·exact h.objs k y hk.2.2 h2
theorem Inv.A8o{s0 st s:Af}(h:Inv s0 st)(h':Inv (base st) s):Inv s0 (A8o st s):=by
 refine⟨fun t y ht hy=>?_,fun k y hk hy=>?_⟩
 ·simp only[Xl.A8o,Bp4,Bt5]at ht hy;exact h.env t y ht.2 (h'.env t y ht.1 hy)
 ·simp only[Xl.A8o,Bp4,Bt5]at hk hy;exact h.objs k y hk.2 (h'.objs k y hk.1 hy)
def Inv.fg(h:Inv s0 s):Inv s0 (Baa s):=by
 refine⟨h.env,fun k x hk hx=>?_⟩;simp only[Baa,Bp4,Bt5]at hk hx;rw[B3f]at hx;cases hl:lk k s.objs with
 |none=>rw[hl]at hx;cases hx
 |some o =>
  rw[hl]at hx;simp only[Bq8,Bp0]at hx;cases hm:Ae1 o with
  |true=>exact absurd (Afp hl hm) hk.1
  |false =>rw[Aj5 hm]at hx;subst hx;exact h.objs k o hk.2 hl
theorem Asr{S:Sig}{R:Type}{K:Af→A3 R}{r:R}{s0:Af}:∀(ts:A2 Nat) (s:Af),Inv s0 s→fzK ts s K=some r →
  ∃s',K s'=some r∧Inv s0 s'∧∀(B:B8) (g:Gh) (w:World) (a:Act),SR S B g w s.im a→∃g',SR S B g' w s'.im a
 |[],s,hi,h=>⟨s,h,hi,fun B g w a hs=>⟨g,hs⟩⟩
 |t::ts,s,hi,h=>by
  unfold fzK at h;split at h
  ·rename_i k ty a n ht;split at h
   ·rename_i u l hk;cases h1:u.Jm ty with
    |false=>simp[h1]at h
    |true =>
    cases h2:Nat.ble 1000 k with
    |false=>simp[h1,h2]at h
    |true =>
    cases h4:cond (Nat.ble (a+n) l.length) (H7 k s.objs) false with
    |false=>simp[h1,h2,h4]at h
    |true =>
     obtain⟨h3,h5⟩:=Aic h4;simp only[h1,h2,h4,Bov]at h;have e1:=Ty.Am h1;subst e1;have e2:=Bpf h2;have e3:=Bpf h3;have M9:Inv s0 ⟨(t,.d (.sl u ((l.drop a).take n)))::s.env,D7 k s.objs,s.live,t::s.wl,k::s.ol⟩:=by
      refine⟨fun t' x ht' hx=>?_,fun k' x Lb hx=>?_⟩
      ·simp only[Boz,Bt5]at ht';rw[Dz ht'.1]at hx;exact hi.env t' x ht'.2 hx
      ·simp only[Boz,Bt5]at Lb;exact hi.objs k' x Lb.2 (Tj hx)
     obtain⟨s',q1,q2,q3⟩:=Asr ts _ M9 h;refine⟨s',q1,q2,fun B g w act hs=>?_⟩;have We:k∉S.names:=fun hm=>by have:=S.small k hm;omega
     have ho:s.im.X.objs.lookup k=some (.cells ((l.map u.ds).flatten.map .d) none):=Pv hk;obtain⟨f1,f2,f3⟩:=hs.hr.freeze (k:=k) (sz:=u.size) (es:=l.map u.ds) We ho (by
      intro i cs Rq;rw[Bp1,Bp8]at Rq;obtain⟨x,_,rfl⟩:=Rq;exact u.Cj x)
     have hX:Ab.Aw k s.im.X=⟨A4 (D7 k s.objs),s.live⟩:=by rw[Qz h5];rfl
     rw[hX]at f1;refine q3 B _ w act ⟨hs.defers,hs.size,f1,?_⟩;intro t' x hx;have hx:(Ds ((t,.d (.sl u ((l.drop a).take n)))::s.env)).lookup t'=some x:=hx;rw[A88]at hx;by_cases he:t'=t
     ·subst he;simp only[F9,Bsx,Bov,Bq8,Bp0]at hx;subst hx;obtain⟨v,hv,hr⟩:=hs.env t' (XV.os k u a n).a (by
       show(Ds s.env).lookup t'=_;rw[A88,ht];rfl)
      refine⟨v,hv,?_⟩;have:=f3 a n v (by simpa using e3) hr;rw[← Bt0,← Bsj]at this;exact this
     ·rw[Dz he,← A88]at hx;obtain⟨v,hv,hr⟩:=hs.env t' x hx;exact⟨v,hv,hr.mono f2 (.nil _)⟩
   ·cases h
  ·exact Asr ts s hi h
def Aop{st:Af}{x:Operand}(hx:Av st x=some (.d (.b b)))(hi:Inv s0 st) :
  Inv s0 (Asp x b st)∧∀(B:B8) (g:Gh) (w:World) (a:Act),SR S B g w st.im a→SR S B g w (Asp x b st).im a:=by
 cases x with
 |tmp t =>replace hx:=(Dq hx).2;exact⟨hi.Asf hx,fun B g w a h=>h.known (Pm hx)⟩
 |const v=>exact⟨hi,fun _ _ _ _ h=>h⟩
 |func f=>exact⟨hi,fun _ _ _ _ h=>h⟩
 |global g=>exact⟨hi,fun _ _ _ _ h=>h⟩
def Ajk(ops:Array Oper):∀(j:Nat) o,ops.toList[j]? = some o→ops[0+j]? = some o:=by intro j o h;rw[Bq7];simpa using h
def A8p{c:Code}{Q Q':Exit→St→Prop}{st:St}(h:AWp P S c Q st)(hq:∀e s,Q e s→∀(B:B8) (g:Gh) (w:World) (a:Act),SR S B g w s a→∃s' g',Q' e s'∧SR S B g' w s' a):AWp P S c Q' st:=by intro B g w a hs;refine Btw (h B g w a hs) ?_;rintro e a' w' ⟨s,g',q,Gu⟩;exact hq e s q B g' w' a' Gu
theorem Ajl{c:Cut}:∀ {l:A2 Cut},B3s c l=true→∀d∈l,(∀t∈c.Yt,t∉slotsOf d.vars++Li d.own)∧∀k∈c.P7,k∉Ii d.objs++(ownNames d.own++Fc d.R3)
 |[],_,d,hd=>by cases hd
 |e::r,h,d,hd=>by
  obtain⟨h1,h⟩:=Ai h;obtain⟨h2,h⟩:=Ai h;rcases Boz.1 hd with rfl|hd
  ·exact⟨apart_spec h1,apart_spec h2⟩
  ·exact Ajl h d hd
theorem Afz{all:A2 Cut}:∀ {l:A2 Cut},Aso all l=true→∀c∈l,B3s c all=true
 |[],_,c,hc=>by cases hc
 |e::r,h,c,hc=>by
  obtain⟨h1,h⟩:=Ai h;rcases Boz.1 hc with rfl|hc
  ·exact h1
  ·exact Afz h c hc
structure Baq(nm:List Nat)(st:Af)(an:An)(z:an.MT)(c:Cut)(x:An)(y:c.T):Prop where
 mem:c∈an.B0n
 run:∀(R:Type) (E:An→Af→(Exit→Af→Option R)→Option R) (An4:Af→Option R) (K:Exit→Af→Option R),B0x E An4 st K an z=E x (gen (base st) c y) (J1 An4 (fun e s=>K e (Uu c st s)))
theorem Ajm{nm:A2 Nat}{st s:Af}:∀(an:An) (z:an.MT),Aoo nm st s an=some z→∃c x y,proj nm (Wt (base st) c) c s=some y∧Baq nm st an z c x y
 |.alt c x r,z,h=>by
  unfold Aoo at h;split at h
  ·rename_i y hy;cases h;exact⟨c,x,y,hy,⟨Bp6,fun R E An4 K=>by simp only[B0x,Vc];exact Mz _ _ _⟩⟩
  ·split at h
   ·rename_i w hw;cases h;obtain⟨c',x',y,h1,h2⟩:=Ajm r w hw;exact⟨c',x',y,h1,⟨Bp5 _ h2.mem,fun R E An4 K=>by simp only[B0x,Vc];exact h2.run R E An4 K⟩⟩
   ·cases h
 |.loop c x,z,h=>⟨c,x,z,h,⟨Bp6,fun R E An4 K=>by simp only[B0x];exact Mz _ _ _⟩⟩
 |.lf,_,h=>by cases h
 |.seq _ _,_,h=>by cases h
 |.join _ _ _,_,h=>by cases h
 |.cond _ _,_,h=>by cases h
 |.blk _,_,h=>by cases h
 |.stop,_,h=>by cases h
 |.fg _ _,_,h=>by cases h
 |.fz _ _ _,_,h=>by cases h
 |.rnd _ _,_,h=>by cases h
 |.sel _ _ _,_,h=>by cases h
def S9(hm:P.follows .mixedOrders=true)(We:S.names=nm):∀(c:Code) (an:An) (st s0:Af) (K:Exit→Af→A3 R) (r:R),Inv s0 st →
  exec P Γ own nm S.N N c an st K=some r→AWp P S c (Awo s0 K r) st.im:=by
 intro c;induction c with
 |skip=>intro an st s0 K r hi h;exact B8h ⟨st,rfl,hi,h⟩
 |label l=>intro an st s0 K r hi h;exact B59 ⟨st,rfl,hi,h⟩
 |exit id=>intro an st s0 K r hi h;exact B8i ⟨st,rfl,hi,h⟩
 |ret=>intro an st s0 K r hi h;exact Bdb ⟨st,rfl,hi,h⟩
 |region id ops draw =>
  intro an st s0 K r hi h;simp only[exec]at h;cases draw with
  |false =>have:=Ahd (S:=S) ops.toList 0 [] st (Ajk ops) hi h;refine Bhg (n:=ops.toList.length) (by simp) ?_;rw[Buu];exact this
  |true =>have:=Asg (S:=S) ops.toList 0 [] st (Ajk ops) hi h;exact Bhi ops.toList.length hm this
 |seq a b iha ihb =>
  intro an st s0 K r hi h;have plain:exec P Γ own nm S.N N a an.l st (J1 (fun s=>exec P Γ own nm S.N N b an.r s K) K)=some r→AWp P S (.seq a b) (Awo s0 K r) st.im:=by
   intro h;refine Ah4 (A30 (iha _ st s0 _ r hi h) ?_);rintro e s ⟨Bd,rfl,M9,hk⟩;cases e with
   |normal=>exact ihb _ Bd s0 K r M9 hk
   |_=>exact⟨Bd,rfl,M9,hk⟩
  unfold exec at h;split at h
  ·rename_i cut x y;unfold Bn at h;refine Ah4 (A30 (iha x (base st) (base st) _ r (.refl _) h) ?_);rintro e s ⟨Bd,rfl,M9,hk⟩;cases e with
   |normal =>simp only[J1,Bq3]at hk;obtain⟨z,hz,hk⟩:=hk;rw[Mz]at hk;intro B g w act hs;obtain⟨g',Gu⟩:=Vz (s0:=base st) hz (fun t _=>M9.env t) (fun k _=>M9.objs k) hs We;refine ihb y (Uu cut st (gen (base st) cut z)) s0 K r (hi.Uu (.refl _)) hk B g' w act Gu
   |_=>exact⟨A8o st Bd,rfl,hi.A8o M9,hk⟩
  ·rename_i x y;refine Ah4 (A30 (iha x st s0 _ r hi h) ?_);rintro e s ⟨Bd,rfl,M9,hk⟩;cases e with
   |normal=>exact fun B g w act hs=>ihb y (Baa Bd) s0 K r M9.fg hk B g w act (SR.fg hs)
   |_=>exact⟨Bd,rfl,M9,hk⟩
  ·rename_i ts x y;refine Ah4 (A30 (iha x st s0 _ r hi h) ?_);rintro e s ⟨Bd,rfl,M9,hk⟩;cases e with
   |normal =>obtain⟨s',q1,q2,q3⟩:=Asr (S:=S) ts Bd M9 hk;exact fun B g w act hs=>let ⟨g',Gu⟩:=q3 B g w act hs;ihb y s' s0 K r q2 q1 B g' w act Gu
   |_=>exact⟨Bd,rfl,M9,hk⟩
  ·exact plain h
 |cond c a b iha ihb =>
  intro an st s0 K r hi h;unfold exec at h;split at h
  ·rename_i v hv;have Aad:=Aj hv;refine B8j (b:=v) Aad (fun hb=>?_) (fun hb=>?_)
   ·subst hb;simp only[Bov]at h;replace h:=Afy h;obtain⟨k1,k2⟩:=Aop (S:=S) hv hi;intro B g w act hs;exact iha _ _ s0 K r k1 h B g w act (k2 B g w act hs)
   ·subst hb;simp only[Box]at h;replace h:=Afy h;obtain⟨k1,k2⟩:=Aop (S:=S) hv hi;intro B g w act hs;exact ihb _ _ s0 K r k1 h B g w act (k2 B g w act hs)
  ·cases h
 |block id c ih =>
  intro an st s0 K r hi h;simp only[exec]at h;refine B5a (A30 (ih _ st s0 _ r hi h) ?_);rintro e s ⟨Bd,rfl,M9,hk⟩;cases e with
  |exit j =>
   simp only[B3r,Bap]at hk;simp only[Ayy];cases hb:Nat.beq j id with
   |true =>simp only[hb,Bov]at hk;rw[Bq6 (Boy hb)];exact⟨Bd,rfl,M9,hk⟩
   |false =>simp only[hb,Box]at hk;rw[Bpp (Brd hb)];exact⟨Bd,rfl,M9,hk⟩
  |_=>exact⟨Bd,rfl,M9,hk⟩
 |loop b ih =>
  intro an st s0 K r hi h;unfold exec at h;generalize Bgq st.objs an=an at h;split at h
  ·rename_i x0 y0;generalize An.rnd x0 y0=all at h;refine Ahk (fun n s=>∃an Bd,an.Bej=n∧Inv s0 Bd∧rounds (fun an st K=>exec P Γ own nm S.N N b an st K) K an Bd=some r∧s=Bd.im) all.Bej ⟨all,st,rfl,hi,h,rfl⟩ ?_;rintro n s ⟨an,Bd,hn,M9,hr,rfl⟩;cases an with
   |rnd x y =>
    refine A8p (ih x Bd s0 _ r M9 hr) ?_;rintro e s ⟨st2,rfl,hi2,hk⟩ B g w act hs;cases e with
    |normal=>exact⟨_,g,⟨y.Bej,by rw[← hn];exact Bsr _,y,st2,rfl,hi2,hk,rfl⟩,hs⟩
    |_=>exact⟨_,g,⟨st2,rfl,hi2,hk⟩,hs⟩
   |_=>cases hr
  ·rename_i Bn5 x0 r0;generalize hall:An.alt Bn5 x0 r0=all at h;cases hap:Aso all.B0n all.B0n with
   |false=>rw[hap]at h;cases h
   |true =>
   rw[hap,Bov]at h;obtain⟨z0,hz0,h⟩:=Bq3.1 h;obtain⟨cut,x,y0,hy0,hat⟩:=Ajm all z0 hz0;intro B g w act hs;obtain⟨g',Gu⟩:=Vz (s0:=base st) hy0 (fun _ _ _ _ h=>h) (fun _ _ _ _ h=>h) hs We;generalize hf:(fun(rec:all.MT→A3 R) (z:all.MT)=>B0x (fun an st K=>exec P Γ own nm S.N N b an st K) (fun s=>Option.bind (Aoo nm st s all) rec) st K all z)=f at h;have key:∀(n:Nat) (z:all.MT) (cut:Cut) (x:An) (y:cut.T),Baq nm st all z cut x y→iter f n z=some r→AWp P S (.loop b) (Awo s0 K r) (gen (base st) cut y).im:=by
    intro n z cut x y hat hn;refine Ahk (fun n s=>∃z cut x,∃y:cut.T,Baq nm st all z cut x y∧iter f n z=some r∧s=(gen (base st) cut y).im) n ⟨z,cut,x,y,hat,hn,rfl⟩ ?_;rintro n s ⟨z,cut,x,y,hat,hn,rfl⟩;cases n with
    |zero=>simp[iter]at hn
    |succ n =>
     simp only[iter]at hn;rw[← hf]at hn;replace hn:=(hat.run R _ _ _).symm.trans hn;refine A8p (ih x _ (gen (base st) cut y) _ r (.refl _) hn) ?_;rintro e s ⟨Bd,rfl,M9,hk⟩ B g w act hs;cases e with
     |normal =>simp only[J1,Bq3]at hk;obtain⟨z',hz',hk⟩:=hk;obtain⟨Bl0,x',y',hy',Bl1⟩:=Ajm all z' hz';obtain⟨ap1,ap2⟩:=Ajl (Afz hap Bl0 Bl1.mem) cut hat.mem;obtain⟨g',Gu⟩:=Vz (s:=Bd) (s0:=base st) hy' (fun t ht y hw hy=>(B0y (M9.env t y hw hy)).resolve_left (ap1 t ht)) (fun k hk y hw hy=>(Asq (M9.objs k y hw hy)).resolve_left (ap2 k hk)) hs We;exact⟨_,g',⟨n,Bsr n,z',Bl0,x',y',Bl1,by rw[hf]at hk;exact hk,rfl⟩,Gu⟩
     |_=>exact⟨_,g,⟨Uu cut st Bd,rfl,hi.Uu M9,hk⟩,hs⟩
   exact key N z0 cut x y0 hat h B g' w act Gu
  ·rename_i cut x;obtain⟨z0,hz0,h⟩:=Bq3.1 h;intro B g w act hs;obtain⟨g',Gu⟩:=Vz (s0:=base st) hz0 (fun _ _ _ _ h=>h) (fun _ _ _ _ h=>h) hs We;generalize hf:(fun(rec:cut.T→A3 R) (z:cut.T)=>T1 cut.own z.2.2.1 fun u=>exec P Γ own nm S.N N b x (gen (base st) cut (z.1,z.2.1,u,z.2.2.2)) (J1 (fun s=>Option.bind (proj nm (Wt (base st) cut) cut s) rec) (fun e s=>K e (Uu cut st s))))=f at h;have key:∀(n:Nat) (z:cut.T),iter f n z=some r→AWp P S (.loop b) (Awo s0 K r) (gen (base st) cut z).im:=by
    intro n z hn;refine Ahk (fun n s=>∃z,iter f n z=some r∧s=(gen (base st) cut z).im) n ⟨z,hn,rfl⟩ ?_;rintro n s ⟨z,hn,rfl⟩;cases n with
    |zero=>simp[iter]at hn
    |succ n =>
     simp only[iter]at hn;rw[← hf]at hn;replace hn:=(Mz _ _ _).symm.trans hn;refine A8p (ih x _ (gen (base st) cut z) _ r (.refl _) hn) ?_;rintro e s ⟨Bd,rfl,M9,hk⟩ B g w act hs;cases e with
     |normal =>simp only[J1,Bq3]at hk;obtain⟨z',hz',hk⟩:=hk;obtain⟨ap1,ap2⟩:=B0v hz';obtain⟨g',Gu⟩:=Vz (s:=Bd) (s0:=base st) hz' (fun t ht y hw hy=>(B0y (M9.env t y hw hy)).resolve_left (ap1 t ht)) (fun k hk y hw hy=>(Asq (M9.objs k y hw hy)).resolve_left (ap2 k hk)) hs We;exact⟨_,g',⟨n,Bsr n,z',by rw[hf]at hk;exact hk,rfl⟩,Gu⟩
     |_=>exact⟨_,g,⟨Uu cut st Bd,rfl,hi.Uu M9,hk⟩,hs⟩
   exact key N z0 h B g' w act Gu
  ·cases h
 |_ =>
  intros
  simp_all [exec]
end
end Go.Xl
abbrev A0:Go.Xl.Ty:=.int .i64
abbrev A1:Go.Xl.An→Go.Xl.An:=.seq .lf
namespace Go.Xl
open Go.Ab
@[reducible] def Bb:A2 Ty→Type→Type
 |[],R=>R
 |t::r,R=>t.T→Bb r R
@[reducible] def Al:A2 Ty→Type
 |[]=>Unit
 |[t]=>t.T
 |t::u::r=>t.T×Al (u::r)
def B0z:(ts:A2 Ty)→Al ts→A2 XV
 |[],_=>[]
 |[t],x=>[.d (t.xv x)]
 |t::u::r,x=>.d (t.xv x.1)::B0z (u::r) x.2
def Lj:A2 XV→XV
 |[x]=>x
 |l=>.F2 l
def Uv(ts:A2 Ty)(x:Al ts):XV:=Lj (B0z ts x)
def R5(l:A2 XV):(Lj l).a=A0x (A7 l):=by
 cases l with
 |nil=>rfl
 |cons x r=>cases r<;>rfl
def Zf:(ts:A2 Ty)→A2 XV→A3 (Al ts)
 |[],[]=>some ()
 |[t],[x]=>Ash t x
 |t::u::r,x::xs=>match Ash t x,Zf (u::r) xs with
  |some y,some ys=>some (y,ys)
  |_,_=>none
 |_,_=>none
inductive Ru:List AV→List AV→Prop
 |nil:Ru [] []
 |cons {x y:AV} {r s:List AV}:Ya x y→Ru r s→Ru (x::r) (y::s)
variable{a b:A2 AV}{xs l m vs:A2 XV}{res:AV}{v:XV}{t:Ty}
theorem Ru.length(h:Ru a b):a.length=b.length:=by
 induction h with
 |nil=>rfl
 |cons _ _ ih=>simp[ih]
def Ru.get(h:Ru a b):∀ {i:Nat} {y:AV},b[i]? = some y→∃x,a[i]? = some x∧Ya x y:=by
 induction h with
 |nil=>intro i y hy;simp at hy
 |cons h1 _ ih =>
  intro i y hy;cases i with
  |zero=>simp at hy;subst hy;exact⟨_,rfl,h1⟩
  |succ i=>simp at hy;simpa using ih hy
theorem Ru.F2{a b:A2 AV}(h:Ru a b):Ya (.F2 a) (.F2 b):=by
 intro g w v hr;cases hr with
 |F2 _ vs hl hc =>
  refine .F2 b vs (h.length▸hl) fun i c u hb hu=>?_
  obtain⟨x,hx,hle⟩:=h.get hb;exact hle _ _ _ (hc i x u hx hu)
theorem Aoq:∀ {ts:A2 Ty} {xs:A2 XV} {y:Al ts},Zf ts xs=some y→Ru (A7 xs) (A7 (B0z ts y))
 |[],xs,y,h=>by
  cases xs with
  |nil=>exact .nil
  |cons _ _=>simp[Zf]at h
 |[t],xs,y,h=>by
  cases xs with
  |nil=>simp[Zf]at h
  |cons x r =>
   cases r with
   |nil=>exact .cons (Aom h) .nil
   |cons _ _=>simp[Zf]at h
 |t::u::r,xs,y,h=>by
  cases xs with
  |nil=>simp[Zf]at h
  |cons x xs =>
   simp only[Zf]at h;split at h
   ·rename_i y1 ys h1 h2;cases h;exact .cons (Aom h1) (Aoq h2)
   ·cases h
def Awp{ts:A2 Ty}{y:Al ts}(h:Zf ts xs=some y):Ya (Lj xs).a (Uv ts y).a:=by
 have hl:=Aoq h;unfold Uv;rw[R5,R5];generalize A7 xs=a at hl;generalize A7 (B0z ts y)=b at hl;cases hl with
 |nil=>exact .refl _
 |cons h1 h2 =>
  cases h2 with
  |nil=>exact h1
  |cons h3 h4=>exact(Ru.cons h1 (.cons h3 h4)).F2
def Abp(P:Program)(st:Af):A2 ResultVar→A3 (A2 XV)
 |[]=>some []
 |.tmp t::r=>match Av st (.tmp t),Abp P st r with
  |some x,some l=>some (x::l)
  |_,_=>none
 |.cell a ty::r=>match Av st (.tmp a),tyI P ty,Abp P st r with
  |some (.nm k (.p off)),some (agg,sz),some l=>match lk k st.objs with
   |some (.cells cs _)=>cond agg (cond (Nat.ble (off+sz) cs.length) (some (Avn ((cs.drop off).take sz)::l)) none)
     (cond (Nat.beq sz 1) (match cs[off]? with
      |some v=>some (v::l)
      |none=>none) none)
   |_=>none
  |_,_,_=>none
theorem T2{P:Program}{st:Af}:∀ {rs:A2 ResultVar} {xs:A2 XV},Abp P st rs=some xs→RVs P st.im rs (A7 xs)
 |[],xs,h=>by simp[Abp]at h;subst h;exact .nil
 |.tmp t::r,xs,h=>by
  simp only[Abp]at h;split at h
  ·rename_i x l hx hl;cases h;exact .cons _ _ _ _ (.tmp t _ (Dq hx).1 (.eq _ (Pm (Dq hx).2))) (T2 hl)
  ·cases h
 |.cell a ty::r,xs,h=>by
  simp only[Abp]at h;split at h
  ·rename_i k off agg sz l ha ht hl;have hT:=Ym ht;split at h
   ·rename_i cs oty hk;have Lb:=Ao5 hk;cases agg with
    |true =>
     simp only[Bov]at h;cases hb:Nat.ble (off+sz) cs.length with
     |false=>simp[hb]at h
     |true =>simp only[hb,Bov,Bp0]at h;subst h;simp only[A7];refine .cons _ _ _ _ (.cell a ty k off _ (Dq ha).1 (.eq _ (Pm (Dq ha).2)) (.agg sz (A7 cs) oty _ hT Lb (by rw[Ah];exact Bpf hb) ?_)) (T2 hl);rw[Aqz,A5p,A5q]
    |false =>
     simp only[Box]at h;cases hb:Nat.beq sz 1 with
     |false=>simp[hb]at h
     |true =>
      have:=Boy hb;subst this;simp only[hb,Bov]at h;split at h
      ·rename_i v hv;cases h;exact .cons _ _ _ _ (.cell a ty k off _ (Dq ha).1 (.eq _ (Pm (Dq ha).2)) (.one (A7 cs) oty _ hT Lb (by rw[Lf,hv];rfl))) (T2 hl)
      ·cases h
   ·cases h
  ·cases h
def A8q:Nat→A2 XV→A2 (Nat×XV)
 |_,[]=>[]
 |n,x::r=>(n,x)::A8q (n+1) r
def A61(n:Nat)(l:A2 XV):Ds (A8q n l)=A2e n (A7 l):=by
 induction l generalizing n with
 |nil=>rfl
 |cons x r ih=>simp only[A8q,Ds,Bp3,A7,A2e]at ih⊢;rw[ih]
def frz:A2 XV→A2 (Nat×A9)→A3 (A2 XV×A2 (Nat×A9))
 |[],objs=>some ([],objs)
 |.os k t a len::r,objs=>match lk k objs with
  |some (.arr u l)=>cond (u.Jm t) (cond (cond (Nat.ble (a+len) l.length) (H7 k objs) false) (match frz r (D7 k objs) with
   |some (ys,o)=>some (.d (.sl u ((l.drop a).take len))::ys,o)
   |none=>none) none) none
  |_=>none
 |x::r,objs=>match frz r objs with
  |some (ys,o)=>some (x::ys,o)
  |none=>none
inductive A8r(g:Gh)(g':Gh)(w:World):List XV→List XV→Prop
 |nil:A8r g g' w [] []
 |cons {x y:XV} {r s:List XV}:(∀v,RA g w x.a v→RA g' w y.a v)→A8r g g' w r s→A8r g g' w (x::r) (y::s)
variable{g g':Gh}{w:World}{P:Program}{own F ls:A2 Nat}{N:Nat}{st:Af}{objs:A2 (Nat×A9)}
def A8r.pre{g1:Gh}(h:A8r g1 g' w l m)(ht:Trans [] g w g1 w):A8r g g' w l m:=by
 induction h with
 |nil=>exact .nil
 |cons h1 _ ih=>exact .cons (fun v hv=>h1 v (hv.mono ht (.nil _))) ih
theorem A8r.length(h:A8r g g' w l m):l.length=m.length:=by
 induction h with
 |nil=>rfl
 |cons _ _ ih=>simp[ih]
def A8r.get(h:A8r g g' w l m):∀ {i:Nat} {y:XV},m[i]? = some y→∃x,l[i]? = some x∧∀v,RA g w x.a v→RA g' w y.a v:=by
 induction h with
 |nil=>intro i y hy;simp at hy
 |cons h1 _ ih =>
  intro i y hy;cases i with
  |zero=>simp at hy;subst hy;exact⟨_,rfl,h1⟩
  |succ i=>simp at hy;simpa using ih hy
theorem A8r.Lj{g g':Gh}{w:World}{l m:A2 XV}(h:A8r g g' w l m){v:Value}(hr:RA g w (Lj l).a v):RA g' w (Lj m).a v:=by
 have F2:∀l m:A2 XV,A8r g g' w l m→RA g w (.F2 (A7 l)) v→RA g' w (.F2 (A7 m)) v:=by
  intro l m h hr;cases hr with
  |F2 _ vs hl hc =>
   refine .F2 _ vs (by rw[Ah,← h.length,← Ah];exact hl) fun i c u hb hu=>?_
   rw[Lf,Bp8]at hb;obtain⟨y,hy,rfl⟩:=hb;obtain⟨x,hx,hxy⟩:=h.get hy;exact hxy u (hc i x.a u (by rw[Lf,hx];rfl) hu)
 cases h with
 |nil=>exact F2 [] [] .nil hr
 |cons h1 h2 =>
  cases h2 with
  |nil=>exact h1 v hr
  |cons h3 h4=>exact F2 _ _ (.cons h1 (.cons h3 h4)) hr
theorem Ass{B:B8}{w:World}{live:A2 Nat}:∀ {xs ys:A2 XV} {objs Aor:A2 (Nat×A9)},frz xs objs=some (ys,Aor)→∀g,HR [] B g w ⟨A4 objs,live⟩ →
  ∃g',HR [] B g' w ⟨A4 Aor,live⟩∧Trans [] g w g' w∧A8r g g' w xs ys
 |[],ys,objs,Aor,h,g,hr=>by
  simp only[frz,Bp0,Bpm]at h;obtain⟨rfl,rfl⟩:=h;exact⟨g,hr,.refl _ _ _,.nil⟩
 |x::r,ys,objs,Aor,h,g,hr=>by
  have other:(match frz r objs with|some (ys,o)=>some (x::ys,o)|none=>none)=some (ys,Aor)→∃g',HR [] B g' w ⟨A4 Aor,live⟩∧Trans [] g w g' w∧A8r g g' w (x::r) ys:=by
   intro h;split at h
   ·rename_i zs o hz;cases h;obtain⟨g',h1,h2,h3⟩:=Ass hz g hr;exact⟨g',h1,h2,.cons (fun v hv=>hv.mono h2 (.nil _)) h3⟩
   ·cases h
  cases x with
  |os k t a len =>
   simp only[frz]at h;split at h
   ·rename_i u l hk;cases h1:u.Jm t with
    |false=>simp[h1]at h
    |true =>
    cases h4:cond (Nat.ble (a+len) l.length) (H7 k objs) false with
    |false=>simp[h1,h4]at h
    |true =>
     obtain⟨h2,h6⟩:=Aic h4;simp only[h1,h4,Bov]at h;split at h
     ·rename_i zs o hz;cases h;have:=Ty.Am h1;subst this;have ho:=Pv hk;obtain⟨f1,f2,f3⟩:=hr.freeze (k:=k) (sz:=u.size) (es:=l.map u.ds) (ty:=none) (by simp) ho (by
       intro i cs hc;rw[Bp1,Bp8]at hc;obtain⟨y,_,rfl⟩:=hc;exact u.Cj y)
      have e:Ab.Aw k ⟨A4 objs,live⟩=⟨A4 (D7 k objs),live⟩:=by rw[Qz h6];rfl
      rw[e]at f1;obtain⟨g',h3,h4,h5⟩:=Ass hz _ f1;refine⟨g',h3,f2.trans h4,.cons (fun v hv=>?_) (h5.pre f2)⟩;have hle:=Bpf h2;have:=f3 a len v (by simpa using hle) hv;have:=this.mono h4 (.nil _);simp only[XV.a,XD.d];rw[Bsj,Bt0];exact this
     ·cases h
   ·cases h
  |_=>exact other h
def B6t{R:Type}:A2 XV→A2 (Nat×A9)→(A2 XV→A3 R)→A3 R
 |[],_,K=>K []
 |.os k t a len::r,objs,K=>match lk k objs with
  |some (.arr u l)=>cond (u.Jm t) (cond (cond (Nat.ble (a+len) l.length) (H7 k objs) false) (B6t r (D7 k objs) fun ys=>K (.d (.sl u ((l.drop a).take len))::ys)) none) none
  |_=>none
 |x::r,objs,K=>B6t r objs fun ys=>K (x::ys)
theorem A62{R:Type}{y:R}:∀ {xs:A2 XV} {objs:A2 (Nat×A9)} {K:A2 XV→A3 R},B6t xs objs K=some y→∃ys o,frz xs objs=some (ys,o)∧K ys=some y
 |[],objs,K,h=>⟨[],objs,rfl,h⟩
 |x::r,objs,K,h=>by
  have other:(B6t r objs fun ys=>K (x::ys))=some y→∃ys o,(match frz r objs with|some (ys,o)=>some (x::ys,o)|none=>none)=some (ys,o)∧K ys=some y:=by intro h;obtain⟨ys,o,h1,h2⟩:=A62 h;exact⟨x::ys,o,by rw[h1],h2⟩
  cases x with
  |os k t a len =>
   simp only[B6t]at h;split at h
   ·rename_i u l hk;cases h1:u.Jm t with
    |false=>simp[h1]at h
    |true =>
    cases h2:cond (Nat.ble (a+len) l.length) (H7 k objs) false with
    |false=>simp[h1,h2]at h
    |true =>simp only[h1,h2,Bov]at h;obtain⟨ys,o,h3,h4⟩:=A62 h;exact⟨.d (.sl u ((l.drop a).take len))::ys,o,by simp only[frz,hk,h1,h2,h3,Bov],h4⟩
   ·cases h
  |_=>exact other h
def A63(P:Program)(fn:Func)(res:A2 Ty)(s:Af):A3 (Al res) :=
 match Abp P s fn.results.toList with
 |some xs=>B6t xs s.objs fun ys=>Zf res ys
 |none=>none
def finish(P:Program)(fn:Func)(res:A2 Ty):Exit→Af→A3 (Al res)
 |.ret,s=>A63 P fn res s
 |.normal,s=>A63 P fn res s
 |_,_=>none
def B6u(P:Program)(Γ:A2 (Ft P))(own:A2 Nat)(N:Nat)(fn:Func)(an:An)(res:A2 Ty)(xs:A2 XV):A3 (Al res) :=
 match fn.body with
 |some c=>cond (Nat.ble fn.ntmps GB) (exec P Γ own [] fn.ntmps N c an ⟨A8q 0 xs,[],[],[],[]⟩ (finish P fn res)) none
 |none=>none
def Aos{α:Type}{n:Nat}{x:A3 α}{y:α}(h:cond (Nat.ble n GB) x none=some y):n≤GB∧x=some y:=by
 cases hb:Nat.ble n GB with
 |false=>simp[hb]at h
 |true=>exact⟨Bpf hb,by simpa[hb]using h⟩
variable{f:FuncId}{fn:Func}{an:An}{B:B8}
def Ajn{Γ:A2 (Ft P)}{res:A2 Ty}{y:Al res}(hm:P.follows .mixedOrders=true)(hf:P.funcs[f]? = some fn)
  (hn:Nat.ble xs.length fn.ntmps=true) (h:B6u P Γ own N fn an res xs=some y):Mj P f (A7 xs) X0 (Uv res y).a X0:=by
 unfold B6u at h;split at h
 ·rename_i c hc;obtain⟨hG,h⟩:=Aos h;have hs:=S9 (S:=⟨fn.ntmps,[],by simp⟩) hm rfl c an ⟨A8q 0 xs,[],[],[],[]⟩ ⟨A8q 0 xs,[],[],[],[]⟩ _ _ (.refl _) h;have key:∀s',∀zs,Abp P s' fn.results.toList=some zs→Zf res zs=some y→True:=fun _ _ _ _=>trivial
  intro g w vs hr hl ha;refine Buk hf hc (Btw (hs (B8.of g w X0) g w _ ?_) ?_)
  ·refine⟨rfl,?_,hr,?_⟩
   ·have:=Bpf hn;rw[Ah]at hl;simp;omega
   ·intro t x hx;have hx':(A2e 0 (A7 xs)).lookup t=some x:=by rw[← A61];exact hx
    obtain⟨_,hx'⟩:=Nn hx';rw[Bs3]at hx';have Bg:t<vs.size:=by have:=(Bp2.1 hx').1;omega
    refine⟨vs[t],?_,ha t x _ hx' (by simp[Bg])⟩;have:=Bpf hn;rw[Ah]at hl;rw[S2 (by omega)];simp[Bsv,Bg]
  ·rintro e a' w' ⟨s,g',⟨Bd,rfl,hi,hk⟩,Gu⟩;have fin:A63 P fn res Bd=some y →
     a'.defers=[]∧∃v,(results fn a'.tmps).run P w' = .ok v w'∧∃g' v_1,Ending.returned v=Ending.returned v_1∧RA g' w' (Uv res y).a v_1∧HR (X0.objs.map (·.1)) (B8.of g w X0) g' w' X0:=by
    intro h;unfold A63 at h;split at h
    ·rename_i zs h1;obtain⟨ys,o,h2,h⟩:=A62 h
     ·obtain⟨v,hv,Ua⟩:=Mq (T2 h1) Gu;obtain⟨g1,hr1,ht1,has⟩:=Ass h2 g' Gu.hr;have hs1:SR ⟨fn.ntmps,[],by simp⟩ (B8.of g w X0) g1 w' ⟨[],⟨A4 o,Bd.live⟩⟩ a':=⟨Gu.defers,Gu.size,hr1,by simp⟩;have hw:Auo [] ⟨[],⟨A4 o,Bd.live⟩⟩ ⟨[],X0⟩:=⟨by simp,by simp[X0],by simp[X0],by simp⟩;obtain⟨g'',ht,Aea⟩:=hs1.Aa4 hw;rw[← R5]at Ua;have Ajo:=(has.Lj Ua).mono ht (.nil _);exact⟨Gu.defers,v,hv,g'',v,rfl,Awp h g'' w' v Ajo,Aea.hr⟩
    ·cases h
   cases e with
   |ret=>exact fin hk
   |normal=>exact fin hk
   |_=>simp[finish]at hk
 ·cases h
def A45{α:Type}:(ts:A2 Ty)→(A2 XV→α)→A2 XV→Bb ts α
 |[],f,acc=>f acc
 |t::r,f,acc=>fun x=>A45 r f (acc++[.d (t.xv x)])
def Awq(P:Program)(Γ:A2 (Ft P))(own:A2 Nat)(N:Nat)(fn:Func)(an:An)(args res:A2 Ty):Bb args (A3 (Al res)) :=
 A45 args (fun xs=>B6u P Γ own N fn an res xs) []
def Ue(P:Program)(f:FuncId)(res:A2 Ty):(args:A2 Ty)→Bb args (A3 (Al res))→A2 XV→Prop
 |[],F,acc=>∀y,F=some y→Mj P f (A7 acc) X0 (Uv res y).a X0
 |t::r,F,acc=>∀x:t.T,Ue P f res r (F x) (acc++[.d (t.xv x)])
theorem A46{P:Program}{Γ:A2 (Ft P)}{own:A2 Nat}{N:Nat}{f:FuncId}{fn:Func}{an:An}{res:A2 Ty}(hm:P.follows .mixedOrders=true)(hf:P.funcs[f]? = some fn) :
  ∀(args:A2 Ty) (acc:A2 XV),Nat.ble (acc.length+args.length) fn.ntmps=true→Ue P f res args (A45 args (fun xs=>B6u P Γ own N fn an res xs) acc) acc
 |[],acc,hn=>fun y hy=>Ajn hm hf (by simpa using hn) hy
 |t::r,acc,hn=>fun x=>A46 hm hf r (acc++[.d (t.xv x)]) (by
   have:=Bpf hn;refine Bqd ?_;simp at this⊢;omega)
def Sa{Γ:A2 (Ft P)}{args res:A2 Ty}(hm:P.follows .mixedOrders=true)(hf:P.funcs[f]? = some fn)
  (hn:Nat.ble args.length fn.ntmps=true):Ue P f res args (Awq P Γ own N fn an args res) [] :=
 A46 hm hf args [] (by simpa using hn)
def A8s{β R:Type}:(ts:A2 Ty)→Bb ts (A3 β)→A2 Operand→A2 XV→A2 (Operand×XV)→(A3 β→A2 (Operand×XV)→A3 R)→A3 R
 |[],F,[],[],acc,K=>K F acc
 |t::r,F,x::ops,v::vs,acc,K=>match S0 t v with
  |some y=>A8s r (F y) ops vs (acc++[(x,.d (t.xv y))]) K
  |none=>none
 |_,_,_,_,_,_=>none
def B9(o:Oper):A2 Operand :=
 match o.op with
 |.call c=>c.args.toList
 |_=>[]
def B3t{R:Type}(args res:A2 Ty)(F:Bb args (A3 (Al res)))(o:Oper)(st:Af)(vs:A2 XV)(K:Out→A3 R):A3 R :=
 A8s args F (B9 o) vs [] fun Fv rd=>Option.bind Fv fun y=>K (B0 st (Uv res y) rd)
theorem Aot:∀(ts:A2 Ty) (y:Al ts),Az (A7 (B0z ts y))=true
 |[],_=>rfl
 |[t],y=>rfl
 |t::u::r,y=>by simp only[B0z,A7,Az,Aot (u::r) y.2];rfl
def A8t(ts:A2 Ty)(y:Al ts):Kq (Uv ts y).a=true:=by
 unfold Uv;rw[R5];have:=Aot ts y;cases h:A7 (B0z ts y) with
 |nil=>rfl
 |cons x r =>
  rw[h]at this;cases r with
  |nil=>simp only[A0x];simp only[Az,Bro]at this;exact this
  |cons z s=>simp only[A0x,Kq];exact this
variable{x:Operand}{o:Oper}
def Ew{ops:A2 Operand}(h:Bx st (x::ops)=some (v::vs)):Av st x=some v∧Bx st ops=some vs:=by
 simp only[Bx]at h;split at h
 ·rename_i a l ha hl;cases h;exact⟨ha,hl⟩
 ·cases h
def Py{y:t.T}(h:Av st x=some v)(hd:S0 t v=some y):Dx st.im x (.d (t.dv y)):=by
 cases v with
 |d u=>exact Aqv h (t.Nq hd)
 |Be n u l ty=>exact Aar (a:=.sl u l) (by simp[xd,h,XV.asD]) (t.Nq hd)
 |agg cs =>
  have hle:=A08 hd;cases x with
  |tmp t=>exact .tmp t _ (Dq h).1 (Z8 (Dq h).2 hle)
  |const u=>simp[Av]at h
  |func f=>simp[Av]at h
  |global k=>exact .Ahj k _ (Z8 h hle)
 |_=>simp[S0]at hd
theorem B3u{P:Program}{R:Type}{f:FuncId}{res:A2 Ty}{st:Af}{K:A3 (Al res)→A2 (Operand×XV)→A3 R}{r:R}:∀(ts:A2 Ty) (F:Bb ts (A3 (Al res))) (ops:A2 Operand) (vs:A2 XV) (acc:A2 (Operand×XV)) (Bf:A2 Operand) (axs:A2 XV),
  Ue P f res ts F axs→Bx st ops=some vs→acc=Bf.zip axs→Bf.length=axs.length→(∀p∈Ay acc,Dx st.im p.1 p.2)→Az (A7 axs)=true→A8s ts F ops vs acc K=some r →
  ∃(Fv:A3 (Al res)) (xs:A2 XV),xs.length=(Bf++ops).length∧(∀y,Fv=some y→Mj P f (A7 xs) X0 (Uv res y).a X0)∧Az (A7 xs)=true ∧
   (∀p∈Ay ((Bf++ops).zip xs),Dx st.im p.1 p.2)∧K Fv ((Bf++ops).zip xs)=some r
 |[],F,ops,vs,acc,Bf,axs,hs,hv,Aeb,hlen,A6y,hda,h=>by
  cases ops with
  |nil =>
   cases vs with
   |nil =>subst Aeb;exact⟨F,axs,by simp[hlen],hs,hda,by simpa using A6y,by rw[Bq0];exact h⟩
   |cons _ _=>simp[A8s]at h
  |cons _ _=>simp[A8s]at h
 |t::ts,F,ops,vs,acc,Bf,axs,hs,hv,Aeb,hlen,A6y,hda,h=>by
  cases ops with
  |nil=>simp[A8s]at h
  |cons x ops =>
   cases vs with
   |nil=>simp[A8s]at h
   |cons v vs =>
    simp only[A8s]at h;obtain⟨hx,Pk⟩:=Ew hv;split at h
    ·rename_i y hy;have:=B3u ts (F y) ops vs _ (Bf++[x]) (axs++[.d (t.xv y)]) (hs y) Pk (by rw[Aeb,Bt8 hlen];rfl) (by simp[hlen]) (by
      intro p hp;rw[Eu]at hp;rcases Bp4.1 hp with hp|hp
      ·exact A6y p hp
      ·simp only[Ay,Bp3,Bpz,Bpg]at hp;subst hp;exact Py hx hy) (by
      have:∀l:A2 AV,Az l=true→Az (l++[.d (t.dv y)])=true:=by
       intro l;induction l with
       |nil=>intro _;rfl
       |cons a r ih=>intro h;simp only[Az,Bq4,Br1]at h⊢;exact⟨h.1,ih h.2⟩
      rw[Dc];exact this _ hda) h
     simpa using this
    ·cases h
def B3v{P:Program}(id:FuncId)(args res:A2 Ty)(F:Bb args (A3 (Al res)))(hc:Ed P id)(hs:Ue P id res args F []):Ft P where
 id:=id
 run:=B3t args res F
 ok:=by
  intro R o st Bf ts vs K r ho hv h;unfold B3t at h;have e:B9 o=Bf.toList:=by simp[B9,ho]
  rw[e]at h;obtain⟨Fv,xs,h1,h2,h3,h4,h5⟩:=B3u (st:=st) args F Bf.toList vs [] [] [] hs hv rfl rfl (by simp[Ay]) rfl h;obtain⟨y,hy,hK⟩:=Bq3.1 h5;simp only[Bpx]at h1 h4 hK;refine⟨_,hK,Aa h4 fun X=>?_⟩;have:=Aq5 (X:=X) (xs:=A7 xs) ho hc (h2 y hy) (by rw[Ah,h1];simp) h3 (A8t res y);rw[J0];exact this
def Bek{P:Program}{Γ:A2 (Ft P)}{own:A2 Nat}{N:Nat}(id:FuncId)(fn:Func)(an:An)(args res:A2 Ty)(F:Bb args (A3 (Al res)))(hm:P.follows .mixedOrders=true)(hf:P.funcs[id]? = some fn)
  (hc:Ed P id) (hn:Nat.ble args.length fn.ntmps=true) (hE:Awq P Γ own N fn an args res=F):Ft P :=
 B3v id args res F hc (hE▸Sa hm hf hn)
def Bs {P : Program} (Γ : List (Ft P)) (own : List Nat) (N : Nat) (id : FuncId) {fn : Func} (an : An) (args res : List Ty) (F : Bb args (Option (Al res))) (hm : P.follows .mixedOrders = true) (hf : P.funcs[id]? = some fn) (hb : fn.body.isSome = true) (We : (fn.name == "runtime.NumGoroutine") = false) (hn : Nat.ble args.length fn.ntmps = true) (hE : Awq P Γ own N fn an args res = F) : Ft P := Bek id fn an args res F hm hf (.mk' hf hb We) hn hE
inductive AK where
 |d (t:Ty)
 |c (f:Nat)
@[reducible] def O8:A2 AK→Type→Type
 |[],R=>R
 |.d t::r,R=>t.T→O8 r R
 |.c _::r,R=>O8 r R
inductive RK where
 |d (t:Ty)
 |s
@[reducible] def RK.T:RK→Type
 |.d t=>t.T
 |.s=>Nat
@[reducible] def Rv:A2 RK→Type
 |[]=>Unit
 |[r]=>r.T
 |r::u::rs=>r.T×Rv (u::rs)
def RK.val(k:Nat)(t:Ty):(r:RK)→r.T→XV
 |.d u,x=>.d (u.xv x)
 |.s,n=>.os k t 0 n
def R6(k:Nat)(t:Ty):(rs:A2 RK)→Rv rs→A2 XV
 |[],_=>[]
 |[r],x=>[r.val k t x]
 |r::u::rs,x=>r.val k t x.1::R6 k t (u::rs) x.2
def Bar(t:Ty):XV→A3 Nat
 |.os k t' a n=>cond (Nat.beq k 1) (cond (t'.Jm t) (cond (Nat.beq a 0) (some n) none) none) none
 |_=>none
def RK.dec(t:Ty):(r:RK)→XV→Option r.T
 |.d u,x=>S0 u x
 |.s,x=>Bar t x
def Awr(t:Ty):(rs:A2 RK)→A2 XV→A3 (Rv rs)
 |[],[]=>some ()
 |[r],[x]=>r.dec t x
 |r::u::rs,x::xs=>match r.dec t x,Awr t (u::rs) xs with
  |some y,some ys=>some (y,ys)
  |_,_=>none
 |_,_=>none
def RK.Bas{r:RK}{x:XV}{y:r.T}(h:r.dec t x=some y):Ya x.a (r.val 1 t y).a:=by
 cases r with
 |d u=>exact A08 h
 |s =>
  change Bar t x=some y at h;unfold Bar at h;split at h
  ·rename_i k t' a n;cases h1:Nat.beq k 1 with
   |false=>simp[h1]at h
   |true =>
   cases h2:t'.Jm t with
   |false=>simp[h1,h2]at h
   |true =>
   cases h3:Nat.beq a 0 with
   |false=>simp[h1,h2,h3]at h
   |true =>simp only[h1,h2,h3,Bov,Bp0]at h;have e1:=Boy h1;have e2:=Ty.Am h2;have e3:=Boy h3;subst e1;subst e2;subst e3;subst h;exact .refl _
  ·cases h
theorem B3w{t:Ty}:∀ {rs:A2 RK} {xs:A2 XV} {y:Rv rs},Awr t rs xs=some y→Ru (A7 xs) (A7 (R6 1 t rs y))
 |[],xs,y,h=>by
  cases xs with
  |nil=>exact .nil
  |cons _ _=>simp[Awr]at h
 |[r],xs,y,h=>by
  cases xs with
  |nil=>simp[Awr]at h
  |cons x xs =>
   cases xs with
   |nil=>exact .cons (RK.Bas h) .nil
   |cons _ _=>simp[Awr]at h
 |r::u::rs,xs,y,h=>by
  cases xs with
  |nil=>simp[Awr]at h
  |cons x xs =>
   simp only[Awr]at h;split at h
   ·rename_i y1 ys h1 h2;cases h;exact .cons (RK.Bas h1) (B3w h2)
   ·cases h
theorem Ru.Lj{a b:A2 XV}(hl:Ru (A7 a) (A7 b)):Ya (Xl.Lj a).a (Xl.Lj b).a:=by
 rw[R5,R5];generalize A7 a=a at hl;generalize A7 b=b at hl;cases hl with
 |nil=>exact .refl _
 |cons h1 h2 =>
  cases h2 with
  |nil=>exact h1
  |cons h3 h4=>exact(Ru.cons h1 (.cons h3 h4)).F2
def Ast(P:Program)(fn:Func)(t:Ty)(rs:A2 RK)(s:Af):A3 (List t.T×Rv rs) :=
 match lk 1 s.objs with
 |some (.arr u l)=>if h:u.Jm t=true then match Abp P s fn.results.toList with
  |some xs=>match Awr t rs xs with
   |some y=>some ((Ty.Am h▸l:List t.T),y)
   |none=>none
  |none=>none else none
 |_=>none
def B3x(P:Program)(fn:Func)(t:Ty)(rs:A2 RK):Exit→Af→A3 (List t.T×Rv rs)
 |.ret,s=>Ast P fn t rs s
 |.normal,s=>Ast P fn t rs s
 |_,_=>none
def B3y(P:Program)(Γ:A2 (Ft P))(own:A2 Nat)(N:Nat)(fn:Func)(an:An)(t:Ty)(rs:A2 RK)(l:List t.T)(n:Nat)(xs:A2 XV):A3 (List t.T×Rv rs) :=
 match fn.body with
 |some c=>cond (Nat.ble fn.ntmps GB) (exec P Γ own [1] fn.ntmps N c an ⟨A8q 0 (.os 1 t 0 n::xs),[(1,.arr t l)],[],[],[]⟩ (B3x P fn t rs)) none
 |none=>none
def O1(t:Ty)(l:List t.T):A5:=⟨[(1,(A9.arr t l).o)],[]⟩
variable{rs:A2 RK}{ks:A2 AK}{X' X Y Xc Cw:A5}
def Aws{Γ:A2 (Ft P)}{l:List t.T}{n:Nat}{y:List t.T×Rv rs}(hm:P.follows .mixedOrders=true)(hf:P.funcs[f]? = some fn)
  (hn:Nat.ble (xs.length+1) fn.ntmps=true) (h:B3y P Γ own N fn an t rs l n xs=some y):Mj P f (A7 (.os 1 t 0 n::xs)) (O1 t l) (Lj (R6 1 t rs y.2)).a (O1 t y.1):=by
 unfold B3y at h;split at h
 ·rename_i c hc;obtain⟨hG,h⟩:=Aos h;have hs:=S9 (S:=⟨fn.ntmps,[1],by simp⟩) hm rfl c an _ _ _ _ (.refl _) h;intro g w vs hr hl ha;refine Buk hf hc (Btw (hs (B8.of g w (O1 t l)) g w _ ?_) ?_)
  ·refine⟨rfl,?_,hr,?_⟩
   ·have:=Bpf hn;rw[Ah]at hl;simp at hl⊢;omega
   ·intro s x hx;have hx':(A2e 0 (A7 (.os 1 t 0 n::xs))).lookup s=some x:=by rw[← A61];exact hx
    obtain⟨_,hx'⟩:=Nn hx';rw[Bs3]at hx';have Bg:s<vs.size:=by have:=(Bp2.1 hx').1;omega
    refine⟨vs[s],?_,ha s x _ hx' (by simp[Bg])⟩;have:=Bpf hn;rw[Ah,Bpk]at hl;rw[S2 (by omega)];simp[Bsv,Bg]
  ·rintro e a' w' ⟨s,g',⟨Bd,rfl,hi,hk⟩,Gu⟩;have fin:Ast P fn t rs Bd=some y →
     a'.defers=[]∧∃v,(results fn a'.tmps).run P w' = .ok v w'∧∃g' v_1,Ending.returned v=Ending.returned v_1∧RA g' w' (Lj (R6 1 t rs y.2)).a v_1∧HR ((O1 t l).objs.map (·.1)) (B8.of g w (O1 t l)) g' w' (O1 t y.1):=by
    intro h;unfold Ast at h;split at h
    ·rename_i u l' hk1;split at h
     ·rename_i hu;have:=Ty.Am hu;subst this;split at h
      ·rename_i zs h1;split at h
       ·rename_i z h2;cases h;obtain⟨v,hv,Ua⟩:=Mq (T2 h1) Gu;have hw:Auo [1] Bd.im ⟨[],O1 u l'⟩:=⟨by simp,by
         intro p hp;simp only[O1,Bpg]at hp;subst hp;exact Pv hk1,by simp[O1],by simp[O1]⟩
        obtain⟨g'',ht,Aea⟩:=Gu.Aa4 hw;have Ajo:=Ua.mono ht (.nil _);rw[← R5]at Ajo;exact⟨Gu.defers,v,hv,g'',v,rfl,(Ru.Lj (B3w h2)) g'' w' v Ajo,Aea.hr⟩
       ·cases h
      ·cases h
     ·cases h
    ·cases h
   cases e with
   |ret=>exact fin hk
   |normal=>exact fin hk
   |_=>simp[B3x]at hk
 ·cases h
def Aou{α:Type}:(ks:A2 AK)→(A2 XV→α)→A2 XV→O8 ks α
 |[],f,acc=>f acc
 |.d t::r,f,acc=>fun x=>Aou r f (acc++[.d (t.xv x)])
 |.c g::r,f,acc=>Aou r f (acc++[.F1 g []])
def B6v(P:Program)(Γ:A2 (Ft P))(own:A2 Nat)(N:Nat)(fn:Func)(an:An)(t:Ty)(ks:A2 AK)(rs:A2 RK)(l:List t.T)(n:Nat):O8 ks (A3 (List t.T×Rv rs)) :=
 Aou ks (fun xs=>B3y P Γ own N fn an t rs l n xs) []
def Aec{β:Type}(Q:β→A2 XV→Prop):(ks:A2 AK)→O8 ks (A3 β)→A2 XV→Prop
 |[],F,acc=>∀y,F=some y→Q y acc
 |.d u::r,F,acc=>∀x:u.T,Aec Q r (F x) (acc++[.d (u.xv x)])
 |.c g::r,F,acc=>Aec Q r F (acc++[.F1 g []])
def Asu(P:Program)(f:FuncId)(t:Ty)(rs:A2 RK)(l:List t.T)(n:Nat)(ks:A2 AK)(F:O8 ks (A3 (List t.T×Rv rs)))(acc:A2 XV):Prop :=
 Aec (fun y acc=>Mj P f (A7 (.os 1 t 0 n::acc)) (O1 t l) (Lj (R6 1 t rs y.2)).a (O1 t y.1)) ks F acc
theorem A64{β:Type}{Q:β→A2 XV→Prop}{B:A2 XV→A3 β}(m:Nat)(hB:∀acc,acc.length≤m→∀y,B acc=some y→Q y acc) :
  ∀(ks:A2 AK) (acc:A2 XV),acc.length+ks.length≤m→Aec Q ks (Aou ks B acc) acc
 |[],acc,hn=>fun y hy=>hB acc (by simpa using hn) y hy
 |.d u::r,acc,hn=>fun x=>A64 m hB r _ (by simp at hn⊢;omega)
 |.c g::r,acc,hn=>by
  simp only[Aec,Aou];exact A64 m hB r (acc++[.F1 g []]) (by simp at hn⊢;omega)
def Ajp{Γ:A2 (Ft P)}(hm:P.follows .mixedOrders=true)(hf:P.funcs[f]? = some fn)
  (hn:Nat.ble (ks.length+1) fn.ntmps=true) (l:List t.T) (n:Nat):Asu P f t rs l n ks (B6v P Γ own N fn an t ks rs l n) [] :=
by
 have h1:=Bpf hn;unfold Asu B6v;have hB:∀acc:A2 XV,acc.length≤fn.ntmps-1→∀y,B3y P Γ own N fn an t rs l n acc=some y→Mj P f (A7 (.os 1 t 0 n::acc)) (O1 t l) (Lj (R6 1 t rs y.2)).a (O1 t y.1) :=
  fun acc hl y hy=>Aws hm hf (Bqd (by omega)) hy
 exact A64 (Q:=fun(y:List t.T×Rv rs) acc=>Mj P f (A7 (.os 1 t 0 n::acc)) (O1 t l) (Lj (R6 1 t rs y.2)).a (O1 t y.1)) (fn.ntmps-1) hB ks [] (by simp;omega)
def Bat:XV→A3 Nat
 |.F1 g []=>some g
 |_=>none
def Bau{g:Nat}(h:Bat v=some g):v = .F1 g []:=by
 unfold Bat at h;split at h
 ·cases h;rfl
 ·cases h
def Abq{β R:Type}:(ks:A2 AK)→O8 ks (A3 β)→A2 Operand→A2 XV→A2 (Operand×XV)→(A3 β→A2 (Operand×XV)→A3 R)→A3 R
 |[],F,[],[],acc,K=>K F acc
 |.d t::r,F,x::ops,v::vs,acc,K=>match S0 t v with
  |some y=>Abq r (F y) ops vs (acc++[(x,.d (t.xv y))]) K
  |none=>none
 |.c g::r,F,x::ops,v::vs,acc,K=>match Bat v with
  |some g'=>cond (Nat.beq g' g) (Abq r F ops vs (acc++[(x,.F1 g [])]) K) none
  |none=>none
 |_,_,_,_,_,_=>none
def Ajq:XV→Bool
 |.d _=>true
 |.F1 _ []=>true
 |_=>false
def Yy:A2 XV→Bool
 |[]=>true
 |x::r=>cond (Ajq x) (Yy r) false
def Aov{a b:A2 XV}(ha:Yy a=true)(hb:Yy b=true):Yy (a++b)=true:=by
 induction a with
 |nil=>exact hb
 |cons x r ih =>
  simp only[Yy,Br1]at ha⊢;cases hx:Ajq x with
  |false=>simp[hx]at ha
  |true=>simp only[hx,Bov]at ha⊢;exact ih ha
def Bav{f:Nat→Nat}{x:XV}(h:Ajq x=true):Dk f x.a=x.a:=by unfold Ajq at h;split at h<;>first|rfl|cases h
theorem Aed{f:Nat→Nat}:∀ {l:A2 XV},Yy l=true→Db f (A7 l)=A7 l
 |[],_=>rfl
 |x::r,h=>by
  simp only[Yy]at h;cases hx:Ajq x with
  |false=>simp[hx]at h
  |true =>simp only[hx,Bov]at h;simp only[A7,Db,Bav hx,Aed h]
theorem A47{ks:A2 Nat}:∀ {l:A2 XV},Yy l=true→Bo ks (A7 l)=true
 |[],_=>rfl
 |x::r,h=>by
  simp only[Yy]at h;cases hx:Ajq x with
  |false=>simp[hx]at h
  |true =>
   simp only[hx,Bov]at h;have:Cd ks x.a=true:=by unfold Ajq at hx;split at hx<;>first|rfl|cases hx
   simp only[A7,Bo,this,A47 h,Bqo]
theorem Abr{β R:Type}{Q:β→A2 XV→Prop}{st:Af}{K:A3 β→A2 (Operand×XV)→A3 R}{r:R}:∀(ks:A2 AK) (F:O8 ks (A3 β)) (ops:A2 Operand) (vs:A2 XV) (acc:A2 (Operand×XV)) (Bf:A2 Operand) (axs:A2 XV),
  Aec Q ks F axs→Bx st ops=some vs→acc=Bf.zip axs→Bf.length=axs.length→(∀p∈Ay acc,Dx st.im p.1 p.2)→Yy axs=true→Abq ks F ops vs acc K=some r →
  ∃(Fv:A3 β) (xs:A2 XV),xs.length=(Bf++ops).length∧(∀y,Fv=some y→Q y xs)∧Yy xs=true ∧
   (∀p∈Ay ((Bf++ops).zip xs),Dx st.im p.1 p.2)∧K Fv ((Bf++ops).zip xs)=some r
 |[],F,ops,vs,acc,Bf,axs,hs,hv,Aeb,hlen,A6y,hda,h=>by
  cases ops with
  |nil =>
   cases vs with
   |nil =>subst Aeb;exact⟨F,axs,by simp[hlen],hs,hda,by simpa using A6y,by rw[Bq0];exact h⟩
   |cons _ _=>simp[Abq]at h
  |cons _ _=>simp[Abq]at h
 |.d u::ts,F,ops,vs,acc,Bf,axs,hs,hv,Aeb,hlen,A6y,hda,h=>by
  cases ops with
  |nil=>simp[Abq]at h
  |cons x ops =>
   cases vs with
   |nil=>simp[Abq]at h
   |cons v vs =>
    simp only[Abq]at h;obtain⟨hx,Pk⟩:=Ew hv;split at h
    ·rename_i y hy;have:=Abr ts (F y) ops vs _ (Bf++[x]) (axs++[.d (u.xv y)]) (hs y) Pk (by rw[Aeb,Bt8 hlen];rfl) (by simp[hlen]) (by
      intro p hp;rw[Eu]at hp;rcases Bp4.1 hp with hp|hp
      ·exact A6y p hp
      ·simp only[Ay,Bp3,Bpz,Bpg]at hp;subst hp;exact Py hx hy) (Aov hda rfl) h
     simpa using this
    ·cases h
 |.c g::ts,F,ops,vs,acc,Bf,axs,hs,hv,Aeb,hlen,A6y,hda,h=>by
  cases ops with
  |nil=>simp[Abq]at h
  |cons x ops =>
   cases vs with
   |nil=>simp[Abq]at h
   |cons v vs =>
    simp only[Abq]at h;obtain⟨hx,Pk⟩:=Ew hv;split at h
    ·rename_i g' hg;cases h1:Nat.beq g' g with
     |false=>simp[h1]at h
     |true =>
      simp only[h1,Bov]at h;have:=Boy h1;subst this;have:=Bau hg;subst this;have:=Abr ts F ops vs _ (Bf++[x]) (axs++[.F1 g' []]) hs Pk (by rw[Aeb,Bt8 hlen];rfl) (by simp[hlen]) (by
       intro p hp;rw[Eu]at hp;rcases Bp4.1 hp with hp|hp
       ·exact A6y p hp
       ·simp only[Ay,Bp3,Bpz,Bpg]at hp;subst hp;exact Aj hx) (Aov hda rfl) h
      simpa using this
    ·cases h
def Aee(f:Nat→Nat)(t:Ty)(l:List t.T):E6 f (A9.arr t l).o=(A9.arr t l).o:=by
 show Ob.cells (Db f _) none=_;congr 1;generalize (l.map t.ds).flatten=ds;induction ds with
 |nil=>rfl
 |cons x r ih=>simp only[Bp3,Db,Dk,ih]
theorem A48(ks:A2 Nat):∀(l:A2 D),Bo ks (l.map .d)=true
 |[]=>rfl
 |x::r=>by simp only[Bp3,Bo,Cd,A48 ks r,Bqo]
def Aef(ks:A2 Nat)(t:Ty)(l:List t.T):Iu ks (A9.arr t l).o=true:=A48 ks _
theorem Aow(k:Nat)(t:Ty):∀(rs:A2 RK) (y:Rv rs),Db (nf [(1,k)]) (A7 (R6 1 t rs y))=A7 (R6 k t rs y)
 |[],_=>rfl
 |[r],y=>by cases r<;>rfl
 |r::u::rs,y=>by
  simp only[R6,A7,Db,Aow k t (u::rs) y.2];congr 1;cases r<;>rfl
def B6w(k:Nat)(t:Ty)(rs:A2 RK)(y:Rv rs):Dk (nf [(1,k)]) (Lj (R6 1 t rs y)).a=(Lj (R6 k t rs y)).a:=by
 rw[R5,R5];have h:=Aow k t rs y;generalize A7 (R6 k t rs y)=m at h⊢;subst h;generalize A7 (R6 1 t rs y)=l;cases l with
 |nil=>rfl
 |cons x r=>cases r<;>rfl
theorem Ag0(t:Ty):∀(rs:A2 RK) (y:Rv rs),Bo [1] (A7 (R6 1 t rs y))=true
 |[],_=>rfl
 |[r],y=>by cases r<;>rfl
 |r::u::rs,y=>by
  have:Cd [1] (r.val 1 t y.1).a=true:=by cases r<;>rfl
  simp only[R6,A7,Bo,this,Ag0 t (u::rs) y.2,Bqo]
def Asv(t:Ty)(rs:A2 RK)(y:Rv rs):Cd [1] (Lj (R6 1 t rs y)).a=true:=by
 rw[R5];have:=Ag0 t rs y;generalize A7 (R6 1 t rs y)=l at this⊢;cases l with
 |nil=>rfl
 |cons x r =>
  cases r with
  |nil=>simp only[Bo,Bro]at this;exact this
  |cons z s=>exact this
def Bel{P:Program}{R:Type}(t:Ty)(ks:A2 AK)(rs:A2 RK)(F:List t.T→Nat→O8 ks (A3 (List t.T×Rv rs)))(o:Oper)(st:Af)(vs:A2 XV)(K:Out→A3 R):A3 R :=
 match B9 o,vs with
 |x::ops,.os k t' a n::vs=>match lk k st.objs with
  |some (.arr u l)=>if h:u.Jm t=true then cond (t'.Jm t) (cond (Nat.beq a 0)
    (Abq ks (F (Ty.Am h▸l:List t.T) n) ops vs [] fun Fv rd=>Option.bind Fv fun y =>
     K ⟨.put k (.arr t y.1),Lj (R6 k t rs y.2),(x,.os k t 0 n)::rd,Lg k (.arr t y.1) st.objs,st.live,[],[k]⟩) none) none else none
  |_=>none
 |_,_=>none
variable{ts:Array TypeId}{Bf:Array Operand}
def B3z{R:Type}{F:List t.T→Nat→O8 ks (A3 (List t.T×Rv rs))}(hc:Ed P f)(hs:∀l n,Asu P f t rs l n ks (F l n) []){K:Out→A3 R}{r:R}
  (ho:o.op = .call { callee:=.value (.func f),args:=Bf,argTypes:=ts }) (hv:Bx st Bf.toList=some vs) (h:Bel (P:=P) t ks rs F o st vs K=some r):∃out,K out=some r∧Bp P o st out:=by
 have e:B9 o=Bf.toList:=by simp[B9,ho]
 unfold Bel at h;rw[e]at h;split at h
 ·rename_i x ops k t' a n vs' hl;rw[hl]at hv;obtain⟨hx,Pk⟩:=Ew hv;split at h
  ·rename_i u l hk;split at h
   ·rename_i hu;have e2:=Ty.Am hu;subst e2;cases h2:t'.Jm u with
    |false=>simp[h2]at h
    |true =>
    cases h3:Nat.beq a 0 with
    |false=>simp[h2,h3]at h
    |true =>
     simp only[h2,h3,Bov]at h;have e3:=Ty.Am h2;have e4:=Boy h3;subst e3;subst e4;obtain⟨Fv,xs,h1,h2,h3,h4,h5⟩:=Abr (st:=st) ks (F l n) ops vs' [] [] [] (hs l n) Pk rfl rfl (by simp[Ay]) rfl h;obtain⟨y,hy,hK⟩:=Bq3.1 h5;simp only[Bpx]at h1 h4 hK;refine⟨_,hK,⟨?_,⟨⟨K4 hk rfl rfl,rfl⟩,rfl,rfl,fun X hX=>?_⟩,?_⟩⟩
     ·intro p hp;rcases Boz.1 hp with rfl|hp
      ·exact Aj hx
      ·exact h4 p hp
     ·have Mk:X.objs.lookup k=some (A9.arr t' l).o:=by rw[hX];exact Pv hk
      have hoc:Ah6 X (O1 t' l) (O1 t' y.1) (nf [(1,k)]) []:=by
       refine⟨⟨rfl,rfl⟩,?_,?_,?_,by simp[O1],by simp[O1],?_,?_,by simp[B1]⟩
       ·intro p hp;simp only[O1,Bpg]at hp;subst hp;simp only[Aee];exact Mk
       ·simp[O1,Aef]
       ·simp[O1,Aef]
       ·intro p hp;simp only[O1,Bpg]at hp;subst hp;exact .inl (by simp[O1])
       ·intro p hp;simp only[O1,Bpg]at hp;subst hp;simp[O1]
      have Us:=Afe (X:=X) [(1,k)] [] ho hc (h2 y hy) hoc (by
        have hl':Bf.size=ops.length+1:=by rw[← Brk,hl];rfl
        simp only[A7,Bpk,Ah,hl',h1]) (by
        simp only[A7,Bo,A47 h3,Bro];rfl) (Asv t' rs y.2)
      rw[hl]at Us;rw[B6w]at Us;have e5:Db (nf [(1,k)]) (A7 (.os 1 t' 0 n::xs))=A7 (.os k t' 0 n::xs):=by simp only[A7,Db,Aed h3];rfl
      rw[e5]at Us;have e6:Ay ((x,.os k t' 0 n)::ops.zip xs)=(x::ops).zip (A7 (.os k t' 0 n::xs)):=by rw[A7,Brx,← J0];rfl
      rw[e6];have e7:Pl (nf [(1,k)]) (O1 t' y.1).objs X.objs=Ab.setObj k (A9.arr t' y.1).o X.objs:=by simp only[O1,Pl,Aee];rfl
      rw[e7]at Us;exact Us
     ·intro j z hj hz;simp only[Bpg]at hj;rw[Nu _ _ _ _ hj]at hz;exact hz
   ·cases h
  ·cases h
 ·cases h
def mkO{P:Program}{Γ:A2 (Ft P)}{own:A2 Nat}{N:Nat}(id:FuncId)(fn:Func)(an:An)(t:Ty)(ks:A2 AK)(rs:A2 RK)(F:List t.T→Nat→O8 ks (A3 (List t.T×Rv rs)))(hm:P.follows .mixedOrders=true)(hf:P.funcs[id]? = some fn)
  (hc:Ed P id) (hn:Nat.ble (ks.length+1) fn.ntmps=true) (hE:B6v P Γ own N fn an t ks rs=F):Ft P where
 id:=id
 run:=Bel (P:=P) t ks rs F
 ok:=by intro R o st Bf ts vs K r ho hv h;exact B3z hc (fun l n=>hE▸Ajp hm hf hn l n) ho hv h
def Bn6 {P : Program} (Γ : List (Ft P)) (own : List Nat) (N : Nat) (id : FuncId) {fn : Func} (an : An) (t : Ty) (ks : List AK) (rs : List RK) (F : List t.T → Nat → O8 ks (Option (List t.T × Rv rs))) (hm : P.follows .mixedOrders = true) (hf : P.funcs[id]? = some fn) (hb : fn.body.isSome = true) (We : (fn.name == "runtime.NumGoroutine") = false) (hn : Nat.ble (ks.length + 1) fn.ntmps = true) (hE : B6v P Γ own N fn an t ks rs = F) : Ft P := mkO id fn an t ks rs F hm hf (.mk' hf hb We) hn hE
@[reducible] def RK.ty (t:Ty):RK→Ty
 |.d u=>u
 |.s=>.sl t
@[reducible] def Wu (t:Ty):A2 RK→A2 Ty
 |[]=>[]
 |r::rs=>r.ty t::Wu t rs
def Baw(P:Program)(Γ:A2 (Ft P))(own:A2 Nat)(N:Nat)(fn:Func)(an:An)(t:Ty)(ks:A2 AK)(rs:A2 RK):O8 ks (A3 (Al (Wu t rs))) :=
 Aou ks (fun xs=>B6u P Γ own N fn an (Wu t rs) (.d (.sl t [])::xs)) []
def Asw(P:Program)(f:FuncId)(t:Ty)(rs:A2 RK)(y:Al (Wu t rs))(acc:A2 XV):Prop :=
 Mj P f (A7 (.d (.sl t [])::acc)) X0 (Uv (Wu t rs) y).a X0
def Awt{Γ:A2 (Ft P)}(hm:P.follows .mixedOrders=true)(hf:P.funcs[f]? = some fn)
  (hn:Nat.ble (ks.length+1) fn.ntmps=true):Aec (Asw P f t rs) ks (Baw P Γ own N fn an t ks rs) []:=by
 have h1:=Bpf hn;have hB:∀acc:A2 XV,acc.length≤fn.ntmps-1→∀y,B6u P Γ own N fn an (Wu t rs) (.d (.sl t [])::acc)=some y→Asw P f t rs y acc :=
  fun acc hl y hy=>Ajn hm hf (Bqd (by simp;omega)) hy
 exact A64 (Q:=Asw P f t rs) (fn.ntmps-1) hB ks [] (by simp;omega)
def Bl2:XV→Bool
 |.os _ _ _ _=>true
 |_=>false
def Bax{P:Program}{R:Type}(t:Ty)(ks:A2 AK)(rs:A2 RK)(F:List t.T→Nat→O8 ks (A3 (List t.T×Rv rs)))(F0:O8 ks (A3 (Al (Wu t rs))))(o:Oper)(st:Af)(vs:A2 XV)(K:Out→A3 R):A3 R :=
 match B9 o,vs with
 |x::ops,v::vs'=>cond (Bl2 v) (Bel (P:=P) t ks rs F o st vs K) (match S0 (.sl t) v with
  |some []=>Abq ks F0 ops vs' [] fun Fv rd=>Option.bind Fv fun y=>K (B0 st (Uv (Wu t rs) y) ((x,.d (.sl t []))::rd))
  |_=>none)
 |_,_=>none
theorem Ajr:∀ {xs:A2 XV},Yy xs=true→Az (A7 xs)=true
 |[],_=>rfl
 |x::r,h=>by
  simp only[Yy]at h;cases hx:Ajq x with
  |false=>simp[hx]at h
  |true =>
   simp only[hx,Bov]at h;have:Kq x.a=true:=by unfold Ajq at hx;split at hx<;>first|rfl|cases hx
   simp only[A7,Az,this,Ajr h,Bqo]
def Bay{R:Type}{F:List t.T→Nat→O8 ks (A3 (List t.T×Rv rs))}{F0:O8 ks (A3 (Al (Wu t rs)))}(hc:Ed P f)(hs:∀l n,Asu P f t rs l n ks (F l n) [])(hs0:Aec (Asw P f t rs) ks F0 []){K:Out→A3 R}{r:R}
  (ho:o.op = .call { callee:=.value (.func f),args:=Bf,argTypes:=ts }) (hv:Bx st Bf.toList=some vs) (h:Bax (P:=P) t ks rs F F0 o st vs K=some r):∃out,K out=some r∧Bp P o st out:=by
 have e:B9 o=Bf.toList:=by simp[B9,ho]
 unfold Bax at h;rw[e]at h;split at h
 ·rename_i x ops v vs' hl;cases hos:Bl2 v with
  |true =>simp only[hos,Bov]at h;exact B3z hc hs ho hv h
  |false =>
   simp only[hos,Box]at h;rw[hl]at hv;obtain⟨hx,Pk⟩:=Ew hv;split at h
   ·rename_i hd;obtain⟨Fv,xs,h1,h2,h3,h4,h5⟩:=Abr (st:=st) ks F0 ops vs' [] [] [] hs0 Pk rfl rfl (by simp[Ay]) rfl h;obtain⟨y,hy,hK⟩:=Bq3.1 h5;simp only[Bpx]at h1 h4 hK;refine⟨_,hK,Aa ?_ fun X=>?_⟩
    ·intro p hp;rcases Boz.1 hp with rfl|hp
     ·exact Py hx hd
     ·exact h4 p hp
    ·have hl':Bf.size=ops.length+1:=by rw[← Brk,hl];rfl
     have:=Aq5 (X:=X) (xs:=A7 (.d (.sl t [])::xs)) ho hc (h2 y hy) (by simp only[A7,Bpk,Ah,hl',h1]) (by
      simp only[A7,Az,Ajr h3,Bro];rfl) (A8t _ y)
     have e6:Ay ((x,.d (.sl t []))::ops.zip xs)=(x::ops).zip (A7 (.d (.sl t [])::xs)):=by rw[A7,Brx,← J0];rfl
     rw[hl]at this;rw[e6];exact this
   ·cases h
 ·cases h
def Bn7{P:Program}{Γ:A2 (Ft P)}{own:A2 Nat}{N:Nat}(id:FuncId)(fn:Func)(an an0:An)(t:Ty)(ks:A2 AK)(rs:A2 RK)(F:List t.T→Nat→O8 ks (A3 (List t.T×Rv rs)))(F0:O8 ks (A3 (Al (Wu t rs))))(hm:P.follows .mixedOrders=true)(hf:P.funcs[id]? = some fn)
  (hc:Ed P id) (hn:Nat.ble (ks.length+1) fn.ntmps=true) (hE:B6v P Γ own N fn an t ks rs=F) (hE0:Baw P Γ own N fn an0 t ks rs=F0):Ft P where
 id:=id
 run:=Bax (P:=P) t ks rs F F0
 ok:=by intro R o st Bf ts vs K r ho hv h;exact Bay hc (fun l n=>hE▸Ajp hm hf hn l n) (hE0▸Awt hm hf hn) ho hv h
def B40 {P : Program} (Γ : List (Ft P)) (own : List Nat) (N : Nat) (id : FuncId) {fn : Func} (an an0 : An) (t : Ty) (ks : List AK) (rs : List RK) (F : List t.T → Nat → O8 ks (Option (List t.T × Rv rs))) (F0 : O8 ks (Option (Al (Wu t rs)))) (hm : P.follows .mixedOrders = true) (hf : P.funcs[id]? = some fn) (hb : fn.body.isSome = true) (We : (fn.name == "runtime.NumGoroutine") = false) (hn : Nat.ble (ks.length + 1) fn.ntmps = true) (hE : B6v P Γ own N fn an t ks rs = F) (hE0 : Baw P Γ own N fn an0 t ks rs = F0) : Ft P := Bn7 id fn an an0 t ks rs F F0 hm hf (.mk' hf hb We) hn hE hE0
def Baz(P:Program)(fn:Func)(t:Ty)(s:Af):A3 (A3 (List t.T×Nat)) :=
 match Abp P s fn.results.toList with
 |some [.os k t' a n]=>match lk k s.objs with
  |some (.arr u l)=>if h:u.Jm t=true then cond (t'.Jm t) (cond (Nat.beq a 0) (cond (Nat.ble 1000 k) (some (some ((Ty.Am h▸l:List t.T),n))) none) none) none else none
  |_=>none
 |some [x]=>match S0 (.sl t) x with
  |some l=>Dd l (some none) fun _ _=>none
  |none=>none
 |_=>none
def Abs(P:Program)(fn:Func)(t:Ty):Exit→Af→A3 (A3 (List t.T×Nat))
 |.ret,s=>Baz P fn t s
 |.normal,s=>Baz P fn t s
 |_,_=>none
def Awu(P:Program)(Γ:A2 (Ft P))(own:A2 Nat)(N:Nat)(fn:Func)(an:An)(t:Ty)(xs:A2 XV):A3 (A3 (List t.T×Nat)) :=
 match fn.body with
 |some c=>cond (Nat.ble fn.ntmps GB) (exec P Γ own [] fn.ntmps N c an ⟨A8q 0 xs,[],[],[],[]⟩ (Abs P fn t)) none
 |none=>none
def Ajs(P:Program)(f:FuncId)(t:Ty)(y:A3 (List t.T×Nat))(xs:A2 XV):Prop :=
 match y with
 |none=>Mj P f (A7 xs) X0 (.d (.sl t.size [])) X0
 |some z=>Mj P f (A7 xs) X0 (.osl 1 0 z.2 t.size) (O1 t z.1)
def Ag1{R:Type}{c:Code}{nm:A2 Nat}{Ej:∀j∈nm,j<1000}{s0:Af}{K:Exit→Af→A3 R}{r:R}
  (hf:P.funcs[f]? = some fn) (hc:fn.body=some c) (hn:xs.length≤fn.ntmps) (hG:fn.ntmps≤GB) (We:(A4 objs).map (·.1)=nm) (hs:AWp P ⟨fn.ntmps,nm,Ej⟩ c (Awo s0 K r) (Af.im ⟨A8q 0 xs,objs,[],[],[]⟩))
  (Bem:∀e Bd,K e Bd=some r→e = .ret∨e = .normal)
  (fin:∀B e Bd a' w' g',K e Bd=some r→SR ⟨fn.ntmps,nm,Ej⟩ B g' w' Bd.im a'→∃v g'',(results fn a'.tmps).run P w' = .ok v w'∧RA g'' w' res v∧HR nm B g'' w' X') :
  Mj P f (A7 xs) ⟨A4 objs,[]⟩ res X':=by
 subst We;intro g w vs hr hl ha;refine Buk hf hc (Btw (hs (B8.of g w ⟨A4 objs,[]⟩) g w _ ?_) ?_)
 ·refine⟨rfl,?_,hr,?_⟩
  ·rw[Ah]at hl;simp;omega
  ·intro t x hx;have hx':(A2e 0 (A7 xs)).lookup t=some x:=by rw[← A61];exact hx
   obtain⟨_,hx'⟩:=Nn hx';rw[Bs3]at hx';have Bg:t<vs.size:=by have:=(Bp2.1 hx').1;omega
   refine⟨vs[t],?_,ha t x _ hx' (by simp[Bg])⟩;rw[Ah]at hl;rw[S2 (by omega)];simp[Bsv,Bg]
 ·rintro e a' w' ⟨s,g',⟨Bd,rfl,hi,hk⟩,Gu⟩;obtain⟨v,g'',h1,h2,h3⟩:=fin _ e Bd a' w' g' hk Gu;have key:a'.defers=[]∧∃v,(results fn a'.tmps).run P w' = .ok v w'∧∃g' v_1,Ending.returned v=Ending.returned v_1∧RA g' w' res v_1∧HR ((A4 objs).map (·.1)) (B8.of g w ⟨A4 objs,[]⟩) g' w' X' :=
   ⟨Gu.defers,v,h1,g'',v,rfl,h2,h3⟩
  rcases Bem e Bd hk with rfl|rfl
  ·exact key
  ·exact key
def A49{Γ:A2 (Ft P)}{y:A3 (List t.T×Nat)}(hm:P.follows .mixedOrders=true)(hf:P.funcs[f]? = some fn)
  (hn:Nat.ble xs.length fn.ntmps=true) (h:Awu P Γ own N fn an t xs=some y):Ajs P f t y xs:=by
 unfold Awu at h;split at h
 ·rename_i c hc;obtain⟨hG,h⟩:=Aos h;have hs:=S9 (S:=⟨fn.ntmps,[],by simp⟩) hm rfl c an _ _ _ _ (.refl _) h;have Bem:∀e Bd,Abs P fn t e Bd=some y→e = .ret∨e = .normal:=by intro e Bd hk;cases e<;>simp_all [Abs]
  have S8:∀e Bd,Abs P fn t e Bd=some y→Baz P fn t Bd=some y:=by intro e Bd hk;cases e<;>simp_all [Abs]
  cases y with
  |none =>
   refine Ag1 (objs:=[]) (Ej:=by simp[A4,Dn,Dp]) hf hc (Bpf hn) hG rfl hs Bem fun B e Bd a' w' g' hk Gu=>?_
   have h:=S8 e Bd hk;unfold Baz at h;split at h
   ·split at h
    ·split at h
     ·rename_i k t' a n _ _ _ _ _ _;cases h2:t'.Jm t<;>cases h3:Nat.beq a 0<;>cases h4:Nat.ble 1000 k<;>simp[h2,h3,h4]at h
     ·cases h
    ·cases h
   ·rename_i x _ hx;split at h
    ·rename_i l hd;cases l with
     |cons _ _=>simp[Dd]at h
     |nil =>
     obtain⟨v,hv,Ua⟩:=Mq (T2 hx) Gu;have hw:Auo [] Bd.im ⟨[],X0⟩:=⟨by simp,by simp[X0],by simp[X0],by simp⟩;obtain⟨g'',ht,Aea⟩:=Gu.Aa4 hw;have Ajo:=Ua.mono ht (.nil _);exact⟨v,g'',hv,A08 hd g'' w' v Ajo,Aea.hr⟩
    ·cases h
   ·cases h
  |some z =>
   refine Ag1 (objs:=[]) (Ej:=by simp[A4,Dn,Dp]) hf hc (Bpf hn) hG rfl hs Bem fun B e Bd a' w' g' hk Gu=>?_
   have h:=S8 e Bd hk;unfold Baz at h;split at h
   ·rename_i k t' a n hx;split at h
    ·rename_i u l Gv;split at h
     ·rename_i hu;have:=Ty.Am hu;subst this;cases h2:t'.Jm u with
      |false=>simp[h2]at h
      |true =>
      cases h3:Nat.beq a 0 with
      |false=>simp[h2,h3]at h
      |true =>
      cases h4:Nat.ble 1000 k with
      |false=>simp[h2,h3,h4]at h
      |true =>
       simp only[h2,h3,h4,Bov,Bp0]at h;subst h;have e1:=Ty.Am h2;have e2:=Boy h3;have e3:=Bpf h4;subst e1;subst e2;obtain⟨v,hv,Ua⟩:=Mq (T2 hx) Gu;have hw:Auo [] Bd.im ⟨[],⟨[(k,(A9.arr t' l).o)],[]⟩⟩:=⟨by simp,by
        intro p hp;simp only[Bpg]at hp;subst hp;exact Pv Gv,by simp,by simp⟩
       obtain⟨g'',ht,Aea⟩:=Gu.Aa4 hw;have Ajo:=Ua.mono ht (.nil _);obtain⟨hr2,Wb⟩:=Aea.hr.Ad7 (k:=k) (m:=1) (o:=(A9.arr t' l).o) (by simp[A4,Dn,Dp]) (by simp[A4,Dn,Dp]) (by
        have:=A3e [1] t' l;simp[B1,this]) (by simp) (by omega)
       refine⟨v,_,hv,?_,hr2.alike ⟨fun j=>?_,rfl⟩⟩
       ·refine RA.Awn (g:=g'') (k:=k) ?_ (show O6 g''.ρ 1 (g''.ρ k) 1=g''.ρ k from Ac _ _ _);simp only[A7,A0x,XV.a,Bsh]at Ajo;exact Ajo
       ·simp only[O1,Bqa,Ab.Aw];by_cases hj:j=1
        ·subst hj;simp
        ·simp
     ·cases h
    ·cases h
   ·split at h
    ·rename_i l _;cases l<;>simp[Dd]at h
    ·cases h
   ·cases h
 ·cases h
def Big{P:Program}{R:Type}(t:Ty)(ks:A2 AK)(F:O8 ks (A3 (A3 (List t.T×Nat))))(o:Oper)(st:Af)(vs:A2 XV)(K:Out→A3 R):A3 R :=
 match newName o with
 |some m=>Abq ks F (B9 o) vs [] fun Fv rd=>Option.bind Fv fun y=>A6 y (K (B0 st (.d (.sl t [])) rd)) fun z =>cond (Iv [m] st) (K ⟨.all,.os m t 0 z.2,rd,(m,.arr t z.1)::D7 m st.objs,st.live,[m],[m]⟩) none
 |none=>none
def Bi.drop{rd:A2 (Operand×AV)}{m:Nat}(h:Bi P o rd (Ab.Aw m X) X' F res)(hm:1000≤m):Bi P o rd X X' F res:=by intro nm Ej B g w a hr Au;exact h nm Ej B g w a (hr.Aw fun hh=>by have:=Ej m hh;omega) Au
def Bi.Bih{rd:A2 (Operand×AV)}(h:Bi P o rd X X' F res)(e:Ab.Alike X' Y):Bi P o rd X Y F res:=by
 intro nm Ej B g w a hr Au next Q hn
 exact h nm Ej B g w a hr Au next Q fun g' w' v h1 h2 h3=>hn g' w' v (h1.alike e) h2 h3
def Ben{R:Type}{F:O8 ks (A3 (A3 (List t.T×Nat)))}(hc:Ed P f)(hs:Aec (Ajs P f t) ks F []){K:Out→A3 R}{r:R}
  (ho:o.op = .call { callee:=.value (.func f),args:=Bf,argTypes:=ts }) (hv:Bx st Bf.toList=some vs) (h:Big (P:=P) t ks F o st vs K=some r):∃out,K out=some r∧Bp P o st out:=by
 have e:B9 o=Bf.toList:=by simp[B9,ho]
 unfold Big at h;rw[e]at h;split at h
 ·rename_i m hm;obtain⟨Fv,xs,h1,h2,h3,h4,h5⟩:=Abr (st:=st) ks F Bf.toList vs [] [] [] hs hv rfl rfl (by simp[Ay]) rfl h;obtain⟨y,hy,hK⟩:=Bq3.1 h5;simp only[Bpx]at h1 h4 hK;have hd:=h2 y hy;cases y with
  |none =>
   simp only[A6]at hK;refine⟨_,hK,Aa h4 fun X=>?_⟩;have hda:Az (A7 xs)=true:=by
    clear h1 h2 h4 h5 hd hK hy;induction xs with
    |nil=>rfl
    |cons x r ih =>
     simp only[Yy]at h3;cases hx:Ajq x with
     |false=>simp[hx]at h3
     |true =>
      simp only[hx,Bov]at h3;have:Kq x.a=true:=by unfold Ajq at hx;split at hx<;>first|rfl|cases hx
      simp only[A7,Az,this,ih h3,Bqo]
   have:=Aq5 (X:=X) (xs:=A7 xs) ho hc hd (by rw[Ah,h1];simp) hda rfl;rw[J0];exact this
  |some z =>
   simp only[A6]at hK;cases h6:Iv [m] st with
   |false=>simp[h6]at hK
   |true =>
    simp only[h6,Bov]at hK;have hm1:=A19 hm;refine⟨_,hK,⟨h4,?_,fun j x hj hx=>?_⟩⟩
    ·refine Bi.drop (m:=m) ?_ hm1;have h6x:=h6;have hoc:Ah6 (Ab.Aw m st.X) X0 (O1 t z.1) (nf [(1,m)]) [m]:=by
      refine⟨⟨rfl,rfl⟩,by simp[X0],by simp[X0],by simp[O1,Aef],by simp[O1],by simp[X0],?_,by simp[X0],?_⟩
      ·intro p hp;simp only[O1,Bpg]at hp;subst hp;exact .inr ⟨by simp[nf],by simp[nf,Ab.Aw,Dj]⟩
      ·have h6:=Nt h6x;unfold B1 at h6⊢;simp only[Btd,Bta]at h6⊢;rw[Bqb]at h6⊢;intro p hp;simp only[Ab.Aw,Bpv]at hp;exact h6 p hp.1
     have Us:=Afe (X:=Ab.Aw m st.X) [(1,m)] [m] ho hc hd hoc (by rw[Ah,h1];simp) (A47 h3) rfl;rw[Aed h3,← J0]at Us;have e7:Pl (nf [(1,m)]) (O1 t z.1).objs (Ab.Aw m st.X).objs=Ab.setObj m (A9.arr t z.1).o (Ab.Aw m st.X).objs:=by simp only[O1,Pl,Aee];rfl
     rw[e7]at Us;have e8:Dk (nf [(1,m)]) (.osl 1 0 z.2 t.size)=(XV.os m t 0 z.2).a:=by simp only[XV.a,Bsh];rfl
     rw[e8]at Us;refine Bi.Bih Us ⟨fun j=>?_,rfl⟩;show(Ab.setObj m (A9.arr t z.1).o (Ab.Aw m st.X).objs).lookup j=(A4 ((m,A9.arr t z.1)::D7 m st.objs)).lookup j;rw[show A4 ((m,A9.arr t z.1)::D7 m st.objs)=(m,(A9.arr t z.1).o)::A4 (D7 m st.objs)from rfl,Ax,Bqa,Qz (Ti h6x)];by_cases hj:j=m
     ·subst hj;simp
     ·have:(j==m)=false:=by simpa using hj
      rw[Bpp hj,this];rfl
    ·simp only[Boz,Bpt,Bqy]at hj;rw[Dz hj]at hx;exact Tj hx
 ·cases h
def Bn8{P:Program}(id:FuncId)(t:Ty)(ks:A2 AK)(F:O8 ks (A3 (A3 (List t.T×Nat))))(hc:Ed P id)(hs:Aec (Ajs P id t) ks F []):Ft P where
 id:=id
 run:=Big (P:=P) t ks F
 ok:=by intro R o st Bf ts vs K r ho hv h;exact Ben hc hs ho hv h
open Go.Sort Go.Proofs
def Ty.Beo:(t:Ty)→t.T
 |.int _=>(0:Int)
 |.u8=>(0:UInt8)
 |.bool=>false
 |.str=>([]:A2 UInt8)
 |.sl _=>[]
 |.unit=>()
 |.pair a b=>(a.Beo,b.Beo)
 |.st1 a=>a.Beo
 |.tab _=>[]
 |.err=>false
 |.ic _ _=>none
 |.ptr=>()
def Bii:D→Value
 |.sc v=>v
 |_=>undef
def A1q:A2 D→Bool
 |[]=>true
 |.sc _::r=>A1q r
 |_::_=>false
theorem Ajt:∀ {l:A2 D},A1q l=true→(l.map Bii).map .sc=l
 |[],_=>rfl
 |.sc v::r,h=>by simp only[Bp3,Bii];rw[Ajt (l:=r) h]
 |.agg _::r,h=>by simp[A1q]at h
 |.sl _ _::r,h=>by simp[A1q]at h
 |.ep _::r,h=>by simp[A1q]at h
 |.any _::r,h=>by simp[A1q]at h
def Ty.Cz(t:Ty)(x:t.T):A2 Value:=(t.ds x).map Bii
structure Ty.Plain(t:Ty):Prop where
 ok:∀x:t.T,A1q (t.ds x)=true
theorem Ty.Plain.Cz(h:t.Plain)(x:t.T):(t.Cz x).map D.sc=t.ds x:=Ajt (h.ok x)
def Ty.A4a(t:Ty)(x:t.T):(t.Cz x).length=t.size:=by simp[Ty.Cz,Ty.Cj]
def Ty.Plain.flat(h:t.Plain)(l:List t.T):((l.map t.Cz).flatten.map fun v=>AV.d (.sc v))=((l.map t.ds).flatten.map .d):=by
 induction l with
 |nil=>rfl
 |cons x r ih =>simp only[Bp3,Bqt,Bpn,ih];rw[← h.Cz x,Brv];rfl
@[reducible] def Aox (T:Ty):Inhabited T.T:=⟨T.Beo⟩
structure Aoy(P:Program)(f c:FuncId)(T:Ty)(φ:List T.T→List T.T):Prop where
 plain:T.Plain
 ci:Ed P f
 len:∀d,(φ d).length=d.length
 none:∀p cap w,Calls P f #[.slice p 0 cap,.func (.func c) #[] #[]] w fun e w'=>e = .returned (.tuple #[])∧w'=w
 some:letI:=Aox T;∀(l:List T.T) blk cap w,l.length≤4611686018427387903→HoldsK T.Cz T.size w blk 0 l.toArray→blk<w.heap.size →
  Calls P f #[.slice (some ⟨blk,0,.none⟩) l.length cap,.func (.func c) #[] #[]] w fun e w'=>e = .returned (.tuple #[])∧∃n os,w'=sortWorldK T.Cz T.size w blk 0 n (φ l).toArray os
def Abt{P:Program}{R:Type}(c:FuncId)(T:Ty)(φ:A2 T.T→A2 T.T)(o:Oper)(st:Af)(vs:A2 XV)(K:Out→A3 R):A3 R :=
 match B9 o,vs with
 |[s,x],[v,.F1 c' []]=>cond (Nat.beq c' c) (match v with
  |.os k t a len=>match lk k st.objs with
   |some (.arr u l)=>if h:u.Jm T=true then cond (t.Jm T) (cond (Nat.beq a 0) (cond (Nat.ble len l.length) (cond (Nat.ble len 4611686018427387903)
     (K ⟨.put k (.arr T (φ ((Ty.Am h▸l:A2 T.T).take len)++(Ty.Am h▸l:A2 T.T).drop len)),.F2 [],[(s,.os k T 0 len),(x,.F1 c [])],
      Lg k (.arr T (φ ((Ty.Am h▸l:A2 T.T).take len)++(Ty.Am h▸l:A2 T.T).drop len)) st.objs,st.live,[],[k]⟩) none) none) none) none else none
   |_=>none
  |v=>match S0 (.sl T) v with
   |some []=>K (B0 st (.F2 []) [(s,.d (.sl T [])),(x,.F1 c [])])
   |_=>none) none
 |_,_=>none
def B10{R:Type}{c:FuncId}{T:Ty}{φ:A2 T.T→A2 T.T}(hS:Aoy P f c T φ){K:Out→A3 R}{r:R}
  (ho:o.op = .call { callee:=.value (.func f),args:=Bf,argTypes:=ts }) (hv:Bx st Bf.toList=some vs) (h:Abt (P:=P) c T φ o st vs K=some r):∃out,K out=some r∧Bp P o st out:=by
 have e:B9 o=Bf.toList:=by simp[B9,ho]
 unfold Abt at h;rw[e]at h;split at h
 ·rename_i s x v c' hl;have ho':o.op = .call { callee:=.value (.func f),args:=#[s,x],argTypes:=ts }:=by rw[ho,← hl]
  rw[hl]at hv;obtain⟨hs,hv⟩:=Ew hv;obtain⟨hx,_⟩:=Ew hv;cases h1:Nat.beq c' c with
  |false=>simp[h1]at h
  |true =>
  have e1:=Boy h1;subst e1;simp only[h1,Bov]at h;have sx:Dx st.im x (.F1 c' []):=Aj hx;split at h
  ·rename_i k t a len;split at h
   ·rename_i u l hk;split at h
    ·rename_i hu;have e2:=Ty.Am hu;subst e2;cases h2:t.Jm u with
     |false=>simp[h2]at h
     |true =>
     cases h3:Nat.beq a 0 with
     |false=>simp[h2,h3]at h
     |true =>
     cases h4:Nat.ble len l.length with
     |false=>simp[h2,h3,h4]at h
     |true =>
     cases h5:Nat.ble len 4611686018427387903 with
     |false=>simp only[h2,h3,h4,h5,Bov,Box]at h;cases h
     |true =>
      simp only[h2,h3,h4,h5,Bov]at h;have e3:=Ty.Am h2;have e4:=Boy h3;have e5:=Bpf h4;have e6:=Bpf h5;subst e3;subst e4;refine⟨_,h,⟨?_,⟨⟨K4 hk rfl rfl,rfl⟩,rfl,rfl,fun X hX=>?_⟩,?_⟩⟩
      ·intro p hp;simp only[Ay,Bp3,Bpz,Boz,Bpt,Bqy]at hp;rcases hp with rfl|rfl
       ·exact Aj hs
       ·exact sx
      ·have Mk:X.objs.lookup k=some (.cells ((l.map t.Cz).flatten.map fun v=>.d (.sc v)) none):=by rw[hX,show st.X.objs.lookup k=_ from Pv hk,hS.plain.flat];rfl
       have key:Bi P o (Ay [(s,.os k t 0 len),(x,.F1 c' [])]) X ⟨Ab.setObj k (A9.arr t (φ (l.take len)++l.drop len)).o X.objs,X.live⟩ [] (XV.F2 []).a:=by
        letI:=Aox t;have:=B99 (X:=X) (enc:=t.Cz) (sz:=t.size) t.A4a φ ho' hS.ci Mk e5 hS.len hS.none (fun blk cap w hH hb=>by
         have hd:(l.take len).length=len:=by simp;omega
         have:=hS.some (l.take len) blk cap w (by omega) hH hb;rw[hd]at this;exact this)
        rw[hS.plain.flat]at this;simp only[Ay,Bp3,Bpz,XV.a,Bsh,A7];exact this
       exact key
      ·intro j y hj hy;simp only[Bpg]at hj;rw[Nu _ _ _ _ hj]at hy;exact hy
    ·cases h
   ·cases h
  ·rename_i v hne;split at h
   ·rename_i hd;refine⟨_,h,Aa ?_ fun X=>?_⟩
    ·intro p hp;simp only[Ay,Bp3,Bpz,Boz,Bpt,Bqy]at hp;rcases hp with rfl|rfl
     ·exact Py hs hd
     ·exact sx
    ·exact Afi ho' hS.ci hS.none
   ·cases h
 ·cases h
def mkSort{P:Program}{f c:FuncId}{T:Ty}{φ:A2 T.T→A2 T.T}(hS:Aoy P f c T φ):Ft P where
 id:=f
 run:=Abt (P:=P) c T φ
 ok:=by intro R o st Bf ts vs K r ho hv h;exact B10 hS ho hv h
def A8u(t:Ty)(bytes:Nat)(l:List t.T):A3 (A3 (List t.T×Nat)) :=
 Dd l (some none) fun y r=>cond (Ao (y::r).length bytes) (some (some (y::r,(y::r).length))) none
def Ajs.empty(h:Ajs P f t (some ([],0)) xs):Ajs P f t none xs:=by
 intro g w vs hr hl ha;refine(h g w vs hr hl ha).mono ?_;rintro e w' ⟨g',v,rfl,h1,h2⟩;refine⟨g',v,rfl,?_,?_⟩
 ·obtain⟨cap,o,_,hv,_⟩:=RA.Sw h1;rw[hv];exact .d _ _ (.nil _ _ _ (by simp))
 ·refine(h2.Aw (k:=1) (by simp[X0])).alike ⟨fun j=>?_,rfl⟩;simp only[O1,Ab.Aw,X0];by_cases hj:j=1
  ·subst hj;rfl
  ·rfl
def Awv{bytes:Nat}(hm:P.follows .mixedOrders=true)(hf:P.funcs[f]? = some fn)(hn:Nat.ble 1 fn.ntmps=true)
  (h1:∀y r,Awu P [] own N fn an t [.d (.sl t (y::r))]=cond (Ao (0+(y::r).length) bytes) (some (some ([]++y::r,0+(y::r).length))) none)
  (h2:Awu P [] own N fn an t [.d (.v (.slice none 0 0))]=some none) (h3:∀a cap,Awu P [] own N fn an t [.d (.v (.slice (some a) 0 cap))]=some (some ([],0))) :
  Aec (Ajs P f t) [.d (.sl t)] (A8u t bytes) []:=by
 intro l y hy;cases l with
 |cons x r =>simp only[A8u,Dd]at hy;have h1':=h1 x r;rw[Bq7,Bpx]at h1';rw[← h1']at hy;exact A49 hm hf hn hy
 |nil =>
  simp only[A8u,Dd,Bp0]at hy;subst hy;have k2:=A49 (xs:=[.d (.v (.slice none 0 0))]) hm hf hn h2;have k3:=fun a cap=>(A49 (xs:=[.d (.v (.slice (some a) 0 cap))]) hm hf hn (h3 a cap)).empty
  intro g w vs hr hl ha;have Hc:vs.size=1:=by rw[← hl];rfl
  have e0:=ha 0 _ vs[0] rfl (by simp[Hc]);generalize hv:vs[0]=v at e0;have hp:∃p cap,v = .slice p 0 cap∧(p=none→cap=0):=by
   cases e0 with
   |d _ _ h =>
    cases h with
    |nil _ p cap h0=>exact⟨_,_,rfl,h0⟩
    |sl _ _ b off len cap hl=>subst hl;exact⟨_,_,rfl,by simp⟩
  obtain⟨p,cap,rfl,h0⟩:=hp;have args:∀x:XV,RA g w x.a (.slice p 0 cap)→∀(i:Nat) z u,(A7 [x])[i]? = some z→vs[i]? = some u→RA g w z u:=by
   intro x hx i z u hz hu;cases i with
   |zero =>
    simp only[A7,Bto,Bp0]at hz;subst hz;have:u=vs[0]:=by rw[Bpq (by omega)]at hu;exact(Brf hu).symm
    rw[this,hv];exact hx
   |succ i=>simp[A7]at hz
  cases p with
  |none =>have:=h0 rfl;subst this;exact k2 g w vs hr (by simpa[A7]using hl) (args _ (.d _ _ (.sc _)))
  |some a=>exact k3 a cap g w vs hr (by simpa[A7]using hl) (args _ (.d _ _ (.sc _)))
def Ajs.frozen{z:List t.T×Nat}(h:Ajs P f t (some z) xs)(hz:z.2≤z.1.length):Mj P f (A7 xs) X0 (.d (.sl t.size ((z.1.take z.2).map t.ds))) X0:=by
 intro g w vs hr hl ha;refine(h g w vs hr hl ha).mono ?_;rintro e w' ⟨g',v,rfl,h1,h2⟩;obtain⟨f1,f2,f3⟩:=HR.freeze (k:=1) (sz:=t.size) (es:=z.1.map t.ds) (ty:=none) h2 (by simp[X0]) rfl (by
  intro i cs hc;rw[Bp1,Bp8]at hc;obtain⟨y,_,rfl⟩:=hc;exact t.Cj y)
 refine⟨_,v,rfl,?_,f1.alike ⟨fun j=>?_,rfl⟩⟩
 ·have:=f3 0 z.2 v (by simpa using hz) (by simpa using h1);rw[Brr,← Bsj]at this;exact this
 ·simp only[O1,Ab.Aw,X0];by_cases hj:j=1
  ·subst hj;rfl
  ·rfl
def Aju(t:Ty)(bytes:Nat)(l:List t.T):A3 (List t.T) :=
 Dd l (some []) fun y r=>cond (Ao (y::r).length bytes) (some (y::r)) none
def Asx{bytes:Nat}(h:Aec (Ajs P f t) [.d (.sl t)] (A8u t bytes) []):Ue P f [.sl t] [.sl t] (Aju t bytes) []:=by
 intro l y hy;cases l with
 |nil =>simp only[Aju,Dd,Bp0]at hy;subst hy;exact h [] none rfl
 |cons x r =>
  simp only[Aju,Dd]at hy;cases hb:Ao (x::r).length bytes with
  |false=>simp only[hb,Box]at hy;cases hy
  |true =>simp only[hb,Bov,Bp0]at hy;subst hy;have:=h (x::r) (some (x::r,(x::r).length)) (by simp only[A8u,Dd,hb,Bov]);have:=this.frozen (Bpa _);rw[Bpy]at this;exact this
def GHold(g:Gh)(w:World)(gs:A2 (Nat×AV)):Prop:=∀p∈gs,RA g w p.2 (.pointer (some ⟨p.1,0,none⟩))
def DoesG(P:Program)(f:FuncId)(args:A2 AV)(gs:A2 (Nat×AV))(res:AV):Prop :=
 ∀(g:Gh) (w:World) (vs:Array Value),HR [] (B8.of g w X0) g w X0→GHold g w gs→args.length=vs.size →
  (∀(i:Nat) x v,args[i]? = some x→vs[i]? = some v→RA g w x v) →
  Calls P f vs w fun e w'=>∃g' v,e = .returned v∧RA g' w' res v∧HR [] (B8.of g w X0) g' w' X0
def DoesG.use{xs:A2 AV}{gs:A2 (Nat×AV)}(hs:DoesG P f xs gs res)(hd:Az xs=true)(hg:Az (gs.map (·.2))=true)(Vv:Kq res=true){nm:A2 Nat}
  (hr:HR nm B g w X) (hgs:GHold g w gs) {vs:Array Value} (hl:xs.length=vs.size) (Pk:∀(i:Nat) x v,xs[i]? = some x→vs[i]? = some v→RA g w x v) :
  Calls P f vs w fun e w'=>∃v g',e = .returned v∧HR nm B g' w' X∧Trans [] g w g' w'∧RA g' w' res v:=by
 have h0:HR [] (B8.of { g with β:=fun _=>none } w X0) { g with β:=fun _=>none } w X0 :=
  ⟨by simp,hr.Ip,Bpa _,⟨rfl,rfl,rfl,Bpa _⟩,.refl _ _,fun b _ _=>⟨rfl,rfl⟩,by simp[X0],by simp[X0],by simp[X0],by simp[X0],by simp[X0],by simp,by simp,by simp,by simp,.off fun _=>rfl⟩
 have Bhl:GHold { g with β:=fun _=>none } w gs:=by intro p hp;obtain⟨i,hi⟩:=Bu0 hp;exact(hgs p hp).data (Ix hg (i:=i) (by rw[Bp1,hi];rfl)) (.refl _ _)
 have:=hs { g with β:=fun _=>none } w vs h0 Bhl hl fun i x v hx hv=>(Pk i x v hx hv).data (Ix hd hx) (.refl _ _)
 refine this.mono ?_;rintro e w' ⟨gc,v,rfl,Ua,h1⟩;obtain⟨h2,h3⟩:=hr.Auv (gc:=gc) h1;exact⟨v,_,rfl,h2,h3,Ua.data Vv (.refl _ _)⟩
theorem Abu:∀ {l:A2 AV} (n:Nat),Az l=true→Az (l.take n)=true
 |[],n,_=>by simp[Az]
 |x::r,0,_=>rfl
 |x::r,n+1,h=>by
  simp only[Az,Bq4]at h;simp only[Btn,Az,Bq4];exact⟨h.1,Abu n h.2⟩
theorem Abv:∀ {l:A2 AV} (n:Nat),Az l=true→Az (l.drop n)=true
 |[],n,_=>by simp[Az]
 |x::r,0,h=>h
 |x::r,n+1,h=>by
  simp only[Az,Bq4]at h;exact Abv n h.2
theorem Yz:∀ {l:A2 AV} (ks:A2 Nat),Az l=true→Az ((ks.zip l).map (·.2))=true
 |[],ks,_=>by cases ks<;>rfl
 |x::r,[],_=>rfl
 |x::r,k::ks,h=>by
  simp only[Az,Bq4]at h;simp only[Brx,Bp3,Az,Bq4];exact⟨h.1,Yz ks h.2⟩
variable{args:Array Operand}
def Bb0{D2:A2 Nat}{xs:A2 AV}(ho:o.op = .call { callee:=.value (.func f),args:=args,argTypes:=ts })(hf:Ed P f)
  (hs:DoesG P f (xs.take args.size) (D2.zip (xs.drop args.size)) res) (hl:args.size≤xs.length) (hd:Az xs=true) (Vv:Kq res=true) :
  Bi P o ((args.toList++D2.map Operand.global).zip xs) X X [] res:=by
 intro nm Ej B g w a hr Au next Q hn
 have hz:(args.toList++D2.map Operand.global).zip xs=args.toList.zip (xs.take args.size)++(D2.map Operand.global).zip (xs.drop args.size):=by
  conv=>lhs;rw[← Bra args.size xs]
  rw[Bt8 (by simp;omega)]
 rw[hz]at Au;unfold Oper.wp;have:(execOp a.eval o).run P w = .ok (.enter f (args.map a.eval)) w:=by simp only[execOp,ho,resolve];simp[Act.eval,Deferred.ofValue,invoke,D0 hf]
 rw[this];have hG:GHold g w (D2.zip (xs.drop args.size)):=by
  intro p hp;have h1:(Operand.global p.1,p.2)∈(D2.map Operand.global).zip (xs.drop args.size):=by rw[Bvk,Bpc];exact⟨p,hp,rfl⟩
  exact Au _ (Bph _ h1)
 refine(hs.use (Abu _ hd) (Yz _ (Abv _ hd)) Vv hr hG (by simp;omega) (Wd fun p hp=>Au p (Bpi _ hp))).mono ?_;rintro e w' ⟨v,g',rfl,h1,h2,h3⟩;exact hn g' w' v h1 h2 h3
def glE:A2 Nat→A2 XV→A2 (Nat×XV)
 |k::ks,x::r=>(GB+k,x)::glE ks r
 |_,_=>[]
theorem Ahe:∀ {D2:A2 Nat} {xs:A2 XV} {t:Nat} {x:AV},(t,x)∈Ds (glE D2 xs)→∃k,t=GB+k∧(k,x)∈D2.zip (A7 xs)
 |[],xs,t,x,h=>by simp[glE,Ds]at h
 |k::ks,[],t,x,h=>by simp[glE,Ds]at h
 |k::ks,y::r,t,x,h=>by
  simp only[glE,Ds,Bp3,Boz,Bpm]at h;rcases h with ⟨rfl,rfl⟩|h
  ·exact⟨k,rfl,by simp[A7]⟩
  ·obtain⟨k',h1,h2⟩:=Ahe (D2:=ks) (xs:=r) (t:=t) (x:=x) (by simpa[Ds]using h);exact⟨k',h1,by simp only[A7,Brx];exact Bp5 _ h2⟩
def B41(P:Program)(Γ:A2 (Ft P))(own:A2 Nat)(N:Nat)(fn:Func)(an:An)(res:A2 Ty)(n:Nat)(D2:A2 Nat)(xs:A2 XV):A3 (Al res) :=
 match fn.body with
 |some c=>cond (Nat.ble fn.ntmps GB) (exec P Γ own [] fn.ntmps N c an ⟨A8q 0 (xs.take n)++glE D2 (xs.drop n),[],[],[],[]⟩ (finish P fn res)) none
 |none=>none
def Aww{Γ:A2 (Ft P)}{res:A2 Ty}{n:Nat}{D2:A2 Nat}{y:Al res}(hm:P.follows .mixedOrders=true)(hf:P.funcs[f]? = some fn)
  (hn:Nat.ble n fn.ntmps=true) (h:B41 P Γ own N fn an res n D2 xs=some y):DoesG P f (A7 (xs.take n)) (D2.zip (A7 (xs.drop n))) (Uv res y).a:=by
 unfold B41 at h;split at h
 ·rename_i c hc;obtain⟨hG,h⟩:=Aos h;have hs:=S9 (S:=⟨fn.ntmps,[],by simp⟩) hm rfl c an _ _ _ _ (.refl _) h;intro g w vs hr hgs hl ha;have hlen:(A7 (xs.take n)).length≤n:=by rw[Ah];simp;omega
  have Ke:=Bpf hn;refine Buk hf hc (Btw (hs (B8.of g w X0) g w _ ?_) ?_)
  ·refine⟨rfl,?_,hr,?_⟩
   ·simp;omega
   ·intro t x hx;have hx':(Ds (A8q 0 (xs.take n))++Ds (glE D2 (xs.drop n))).lookup t=some x:=by rw[Ds,Ds,← Bpn];exact hx
    rw[Br0,A61]at hx';cases h1:(A2e 0 (A7 (xs.take n))).lookup t with
    |some x1 =>
     rw[h1]at hx';simp only[Bsw,Bp0]at hx';subst hx';obtain⟨_,hx'⟩:=Nn h1;rw[Bs3]at hx';have Bg:t<vs.size:=by have:=(Bp2.1 hx').1;omega
     refine⟨vs[t],?_,ha t x1 _ hx' (by simp[Bg])⟩;rw[S2 (by omega)];simp[Bsv,Bg]
    |none =>rw[h1]at hx';simp only[Bt3]at hx';obtain⟨k,rfl,hk⟩:=Ahe (Da hx');exact⟨_,A0w k,hgs _ hk⟩
  ·rintro e a' w' ⟨s,g',⟨Bd,rfl,hi,hk⟩,Gu⟩;have fin:A63 P fn res Bd=some y →
     a'.defers=[]∧∃v,(results fn a'.tmps).run P w' = .ok v w'∧∃g' v_1,Ending.returned v=Ending.returned v_1∧RA g' w' (Uv res y).a v_1∧HR [] (B8.of g w X0) g' w' X0:=by
    intro h;unfold A63 at h;split at h
    ·rename_i zs h1;obtain⟨ys,o,h2,h⟩:=A62 h
     ·obtain⟨v,hv,Ua⟩:=Mq (T2 h1) Gu;obtain⟨g1,hr1,ht1,has⟩:=Ass h2 g' Gu.hr;have hs1:SR ⟨fn.ntmps,[],by simp⟩ (B8.of g w X0) g1 w' ⟨[],⟨A4 o,Bd.live⟩⟩ a':=⟨Gu.defers,Gu.size,hr1,by simp⟩;have hw:Auo [] ⟨[],⟨A4 o,Bd.live⟩⟩ ⟨[],X0⟩:=⟨by simp,by simp[X0],by simp[X0],by simp⟩;obtain⟨g'',ht,Aea⟩:=hs1.Aa4 hw;rw[← R5]at Ua;have Ajo:=(has.Lj Ua).mono ht (.nil _);exact⟨Gu.defers,v,hv,g'',v,rfl,Awp h g'' w' v Ajo,Aea.hr⟩
    ·cases h
   cases e with
   |ret=>exact fin hk
   |normal=>exact fin hk
   |_=>simp[finish]at hk
 ·cases h
def Aeg(P:Program)(Γ:A2 (Ft P))(own:A2 Nat)(N:Nat)(fn:Func)(an:An)(args res:A2 Ty)(n:Nat)(D2:A2 Nat):Bb args (A3 (Al res)) :=
 A45 args (fun xs=>B41 P Γ own N fn an res n D2 xs) []
def Aeh(P:Program)(f:FuncId)(res:A2 Ty)(n:Nat)(D2:A2 Nat):(args:A2 Ty)→Bb args (A3 (Al res))→A2 XV→Prop
 |[],F,acc=>∀y,F=some y→DoesG P f (A7 (acc.take n)) (D2.zip (A7 (acc.drop n))) (Uv res y).a
 |t::r,F,acc=>∀x:t.T,Aeh P f res n D2 r (F x) (acc++[.d (t.xv x)])
theorem Ag2{P:Program}{Γ:A2 (Ft P)}{own:A2 Nat}{N:Nat}{f:FuncId}{fn:Func}{an:An}{res:A2 Ty}{n:Nat}{D2:A2 Nat}(hm:P.follows .mixedOrders=true)(hf:P.funcs[f]? = some fn)(hn:Nat.ble n fn.ntmps=true) :
  ∀(args:A2 Ty) (acc:A2 XV),Aeh P f res n D2 args (A45 args (fun xs=>B41 P Γ own N fn an res n D2 xs) acc) acc
 |[],acc=>fun y hy=>Aww hm hf hn hy
 |t::r,acc=>fun x=>Ag2 hm hf hn r (acc++[.d (t.xv x)])
def Ajv{Γ:A2 (Ft P)}{args res:A2 Ty}{n:Nat}{D2:A2 Nat}(hm:P.follows .mixedOrders=true)(hf:P.funcs[f]? = some fn)
  (hn:Nat.ble n fn.ntmps=true):Aeh P f res n D2 args (Aeg P Γ own N fn an args res n D2) []:=Ag2 hm hf hn args []
def Asy:A2 Nat→A2 Operand
 |[]=>[]
 |k::r=>.global k::Asy r
def A0a(l:A2 Nat):Asy l=l.map Operand.global:=by
 induction l with
 |nil=>rfl
 |cons k r ih=>simp[Asy,ih]
def Asz{α:Type}:A2 α→A2 α→A2 α
 |[],b=>b
 |x::r,b=>x::Asz r b
def A65{α:Type}(a b:A2 α):Asz a b=a++b:=by
 induction a with
 |nil=>rfl
 |cons x r ih=>simp[Asz,ih]
def Awx{R:Type}(args res:A2 Ty)(n:Nat)(D2:A2 Nat)(F:Bb args (A3 (Al res)))(o:Oper)(st:Af)(vs:A2 XV)(K:Out→A3 R):A3 R :=
 cond (Nat.beq (B9 o).length n) (match Bx st (Asy D2) with
  |some us=>A8s args F (Asz (B9 o) (Asy D2)) (Asz vs us) [] fun Fv rd=>Option.bind Fv fun y=>K (B0 st (Uv res y) rd)
  |none=>none) none
theorem Lr{st:Af}:∀ {a b:A2 Operand} {u v:A2 XV},Bx st a=some u→Bx st b=some v→Bx st (a++b)=some (u++v)
 |[],b,u,v,h,h'=>by simp[Bx]at h;subst h;exact h'
 |x::a,b,u,v,h,h'=>by
  simp only[Bx]at h;split at h
  ·rename_i y l hy hl;cases h;simp only[Br1,Bx,hy,Lr hl h']
  ·cases h
theorem Awy{P:Program}{R:Type}{f:FuncId}{res:A2 Ty}{n:Nat}{D2:A2 Nat}{st:Af}{K:A3 (Al res)→A2 (Operand×XV)→A3 R}{r:R}:∀(ts:A2 Ty) (F:Bb ts (A3 (Al res))) (ops:A2 Operand) (vs:A2 XV) (acc:A2 (Operand×XV)) (Bf:A2 Operand) (axs:A2 XV),
  Aeh P f res n D2 ts F axs→Bx st ops=some vs→acc=Bf.zip axs→Bf.length=axs.length→(∀p∈Ay acc,Dx st.im p.1 p.2)→Az (A7 axs)=true→A8s ts F ops vs acc K=some r →
  ∃(Fv:A3 (Al res)) (xs:A2 XV),xs.length=(Bf++ops).length∧(∀y,Fv=some y→DoesG P f (A7 (xs.take n)) (D2.zip (A7 (xs.drop n))) (Uv res y).a)∧Az (A7 xs)=true ∧
   (∀p∈Ay ((Bf++ops).zip xs),Dx st.im p.1 p.2)∧K Fv ((Bf++ops).zip xs)=some r
 |[],F,ops,vs,acc,Bf,axs,hs,hv,Aeb,hlen,A6y,hda,h=>by
  cases ops with
  |nil =>
   cases vs with
   |nil =>subst Aeb;exact⟨F,axs,by simp[hlen],hs,hda,by simpa using A6y,by rw[Bq0];exact h⟩
   |cons _ _=>simp[A8s]at h
  |cons _ _=>simp[A8s]at h
 |t::ts,F,ops,vs,acc,Bf,axs,hs,hv,Aeb,hlen,A6y,hda,h=>by
  cases ops with
  |nil=>simp[A8s]at h
  |cons x ops =>
   cases vs with
   |nil=>simp[A8s]at h
   |cons v vs =>
    simp only[A8s]at h;obtain⟨hx,Pk⟩:=Ew hv;split at h
    ·rename_i y hy;have:=Awy ts (F y) ops vs _ (Bf++[x]) (axs++[.d (t.xv y)]) (hs y) Pk (by rw[Aeb,Bt8 hlen];rfl) (by simp[hlen]) (by
      intro p hp;rw[Eu]at hp;rcases Bp4.1 hp with hp|hp
      ·exact A6y p hp
      ·simp only[Ay,Bp3,Bpz,Bpg]at hp;subst hp;exact Py hx hy) (by
      have:∀l:A2 AV,Az l=true→Az (l++[.d (t.dv y)])=true:=by
       intro l;induction l with
       |nil=>intro _;rfl
       |cons a r ih=>intro h;simp only[Az,Bq4,Br1]at h⊢;exact⟨h.1,ih h.2⟩
      rw[Dc];exact this _ hda) h
     simpa using this
    ·cases h
def Bij{P:Program}(id:FuncId)(args res:A2 Ty)(n:Nat)(D2:A2 Nat)(F:Bb args (A3 (Al res)))(hc:Ed P id)(hs:Aeh P id res n D2 args F []):Ft P where
 id:=id
 run:=Awx args res n D2 F
 ok:=by
  intro R o st Bf ts vs K r ho hv h;unfold Awx at h;have e:B9 o=Bf.toList:=by simp[B9,ho]
  rw[e]at h;cases hb:Nat.beq Bf.toList.length n with
  |false=>rw[hb]at h;cases h
  |true =>
   have hn:=Boy hb;rw[hb,Bov]at h;split at h
   ·rename_i us hus;rw[A65,A65,A0a]at h;rw[A0a]at hus;obtain⟨Fv,xs,h1,h2,h3,h4,h5⟩:=Awy (st:=st) args F _ _ [] [] [] hs (Lr hv hus) rfl rfl (by simp[Ay]) rfl h;obtain⟨y,hy,hK⟩:=Bq3.1 h5;simp only[Bpx]at h1 h4 hK;refine⟨_,hK,Aa h4 fun X=>?_⟩;have hd:=h2 y hy;have hn2:n=Bf.size:=by rw[← hn];simp
    rw[hn2,A5p,A5q]at hd;have:=Bb0 (X:=X) (xs:=A7 xs) ho hc hd (by rw[Ah,h1];simp) h3 (A8t res y);rw[J0];exact this
   ·cases h
def A7u{P:Program}{Γ:A2 (Ft P)}{own:A2 Nat}{N:Nat}(id:FuncId)(fn:Func)(an:An)(args res:A2 Ty)(n:Nat)(D2:A2 Nat)(F:Bb args (A3 (Al res)))(hm:P.follows .mixedOrders=true)(hf:P.funcs[id]? = some fn)
  (hc:Ed P id) (hn:Nat.ble n fn.ntmps=true) (hE:Aeg P Γ own N fn an args res n D2=F):Ft P :=
 Bij id args res n D2 F hc (hE▸Ajv hm hf hn)
mutual
def XV.mp(f fl:Nat→Nat):XV→XV
 |.d x=>.d x
 |.nm k p=>.nm (f k) p
 |.Be n t l ty=>.Be (fl n) t l ty
 |.F2 l=>.F2 (mpL f fl l)
 |.agg l=>.agg (mpL f fl l)
 |.F1 g l=>.F1 g (mpL f fl l)
 |.os k t a len=>.os (f k) t a len
 |.el k t i fo=>.el (f k) t i fo
 |.Vs n e x l=>.Vs (fl n) e x l
def mpL(f fl:Nat→Nat):List XV→List XV
 |[]=>[]
 |x::r=>x.mp f fl::mpL f fl r
end
mutual
theorem XV.Bik(f fl:Nat→Nat):∀x:XV,(x.mp f fl).a=S5 f fl x.a
 |.d x=>rfl
 |.nm k p=>rfl
 |.Be n t l ty=>rfl
 |.F2 l=>by simp only[XV.mp,XV.a,S5,Ag3 f fl l]
 |.agg l=>by simp only[XV.mp,XV.a,S5,Ag3 f fl l]
 |.F1 g l=>by simp only[XV.mp,XV.a,S5,Ag3 f fl l]
 |.os k t a len=>rfl
 |.el k t i fo=>rfl
 |.Vs n e x l=>rfl
theorem Ag3(f fl:Nat→Nat):∀l:List XV,A7 (mpL f fl l)=Oz f fl (A7 l)
 |[]=>rfl
 |x::r=>by simp only[mpL,A7,Oz,XV.Bik f fl x,Ag3 f fl r]
end
def Abw(f fl:Nat→Nat)(l:A2 XV):mpL f fl l=l.map (XV.mp f fl):=by
 induction l with
 |nil=>rfl
 |cons x r ih=>simp[mpL,ih]
mutual
def XV.nms(ks ls:List Nat):XV→Bool
 |.d _=>true
 |.nm k _=>inl k ks
 |.Be n _ _ _=>inl n ls
 |.F2 l=>A8v ks ls l
 |.agg l=>A8v ks ls l
 |.F1 _ l=>A8v ks ls l
 |.os k _ _ _=>inl k ks
 |.el k _ _ _=>inl k ks
 |.Vs n _ _ _=>inl n ls
def A8v(ks ls:List Nat):List XV→Bool
 |[]=>true
 |x::r=>cond (x.nms ks ls) (A8v ks ls r) false
end
def A66{k:Nat}{l:A2 Nat}(h:inl k l=true):l.contains k=true:=Bqc.2 ((Cx k l).1 h)
mutual
theorem XV.Bb1{ks ls:List Nat}:∀ {x:XV},x.nms ks ls=true→H5 ks ls x.a=true
 |.d x,h=>rfl
 |.nm k p,h=>A66 h
 |.Be n t l ty,h=>A66 h
 |.F2 l,h=>by simp only[XV.nms]at h;simp only[XV.a,H5];exact A8w h
 |.agg l,h=>by simp only[XV.nms]at h;simp only[XV.a,H5];exact A8w h
 |.F1 g l,h=>by simp only[XV.nms]at h;simp only[XV.a,H5];exact A8w h
 |.os k t a len,h=>A66 h
 |.el k t i fo,h=>A66 h
 |.Vs n e x l,h=>A66 h
theorem A8w{ks ls:List Nat}:∀ {l:List XV},A8v ks ls l=true→Kt ks ls (A7 l)=true
 |[],h=>rfl
 |x::r,h=>by
  simp only[A8v]at h;cases hx:x.nms ks ls with
  |false=>simp[hx]at h
  |true =>simp only[hx,Bov]at h;simp only[A7,Kt,XV.Bb1 hx,A8w h,Bqo]
end
def A9.mp(f fl:Nat→Nat):A9→A9
 |.cells cs ty=>.cells (mpL f fl cs) ty
 |.arr t l=>.arr t l
 |.Vt s p=>.Vt s p
 |.map kt vt es c=>.map kt vt es c
 |.Jo m a b c=>.Jo (f m) a b c
 |.Dl=>.Dl
 |.bts e l=>.bts e l
 |.Cf L kt vt es c=>.Cf L kt vt es c
 |.abs h S ty x=>.abs h S ty x
def A9.Bb2(f fl:Nat→Nat)(o:A9):(o.mp f fl).plain=o.plain:=by cases o<;>rfl
theorem A4b(f fl:Nat→Nat):∀l:A2 D,Oz f fl (l.map .d)=l.map .d
 |[]=>rfl
 |x::r=>by simp only[Bp3,Oz,S5,A4b f fl r]
def A9.Bil(f fl:Nat→Nat){o:A9}(h:o.plain=true):(o.mp f fl).o=Lv f fl o.o:=by
 cases o with
 |abs=>cases h
 |cells cs ty=>simp only[A9.mp,A9.o,Lv,Ag3]
 |arr t l=>simp only[A9.mp,A9.o,Lv,A4b]
 |bts e l=>simp only[A9.mp,A9.o,Lv,A4b]
 |_=>rfl
def A9.nms(ks ls:A2 Nat):A9→Bool
 |.cells cs _=>A8v ks ls cs
 |.Jo m _ _ _=>inl m ks
 |.Cf _ _ _ _ _=>false
 |.abs _ _ _ _=>false
 |_=>true
def A9.Aoz{ks:A2 Nat}{o:A9}(h:o.nms ks ls=true):o.plain=true:=by cases o<;>first|rfl|cases h
theorem Zg(ks ls:A2 Nat):∀l:A2 D,Kt ks ls (l.map .d)=true
 |[]=>rfl
 |x::r=>by simp only[Bp3,Kt,H5,Zg ks ls r,Bqo]
def A9.Bl3{ks:A2 Nat}{o:A9}(h:o.nms ks ls=true):K3 ks ls o.o=true:=by
 cases o with
 |cells cs ty=>simp only[A9.nms]at h;simp only[A9.o,K3];exact A8w h
 |arr t l=>simp only[A9.o,K3];exact Zg _ _ _
 |bts e l=>simp only[A9.o,K3];exact Zg _ _ _
 |Jo m a b c=>exact A66 h
 |Cf L kt vt es c=>simp[A9.nms]at h
 |abs=>cases h
 |_=>rfl
def Vd(ks ls:A2 Nat):A2 (Nat×A9)→Bool
 |[]=>true
 |p::r=>cond (p.2.nms ks ls) (Vd ks ls r) false
theorem Ls{ks ls:A2 Nat}:∀ {l:A2 (Nat×A9)},Vd ks ls l=true→Dt l=true
 |[],_=>rfl
 |p::r,h=>by
  obtain⟨h1,h2⟩:=Ai (a:=p.2.nms ks ls) (b:=Vd ks ls r) h;simp only[Dt,A9.Aoz h1,Bov];exact Ls h2
theorem A8x{ks ls:A2 Nat}:∀ {l:A2 (Nat×A9)},Vd ks ls l=true→((A4 l).all fun p=>K3 ks ls p.2)=true
 |[],_=>rfl
 |p::r,h=>by
  simp only[Vd]at h;cases hx:p.2.nms ks ls with
  |false=>simp[hx]at h
  |true =>simp only[hx,Bov]at h;have:=A8x h;rw[Avi (by simp only[Dt,A9.Aoz hx,Bov];exact Ls h)];simp only[Bt9,A9.Bl3 hx,Bsn];exact this
def Abx(f fl:Nat→Nat):A2 (Nat×A9)→A2 (Nat×A9)→A2 (Nat×A9)
 |[],acc=>acc
 |p::r,acc=>Abx f fl r (Lg (f p.1) (p.2.mp f fl) acc)
theorem Ajw(f fl:Nat→Nat):∀ {l acc:A2 (Nat×A9)},Dt l=true→Dt acc=true→A4 (Abx f fl l acc)=Cr f fl (A4 l) (A4 acc)
 |[],acc,_,_=>rfl
 |p::r,acc,hl,ha=>by
  obtain⟨h1,h2⟩:=Ai (a:=p.2.plain) (b:=Dt r) hl;have hp:(p.2.mp f fl).plain=true:=by rw[A9.Bb2];exact h1
  have:=Ajw f fl (l:=r) (acc:=Lg (f p.1) (p.2.mp f fl) acc) h2 (A89 hp ha);rw[B9i hp ha,A9.Bil f fl h1]at this;rw[Avi hl];exact this
theorem Ag4(f fl:Nat→Nat):∀(l acc:A2 (Nat×A9)) (j:Nat),(∀p∈l,f p.1≠j)→lk j (Abx f fl l acc)=lk j acc
 |[],acc,j,h=>rfl
 |p::r,acc,j,h=>by
  simp only[Abx];rw[Ag4 f fl r _ j (fun q hq=>h q (Bp5 _ hq)),Nu _ _ _ _ (fun e=>h p (Bp6 ..) e.symm)]
inductive Agy:Ob→Ob→Prop
 |refl (o:Ob):Agy o o
 |cells {cs Y3:List AV} {ty Y8:Option TypeId}:cs.length=Y3.length→(∀(i:Nat) x y,cs[i]? = some x→Y3[i]? = some y→Ya x y)→(Y8=ty∨Y8=none)→Agy (.cells cs ty) (.cells Y3 Y8)
 |Cf (L sz:Nat) (l:List (Nat×Value×Bool×List (List D))) (c:Nat):Agy (.Cf L sz l c) (.map (Ud sz l) c)
def Ajx{b:Nat}{o o':Ob}(h:Bv g w b o)(hle:Agy o o'):Bv g w b o':=by
 cases hle with
 |refl=>exact h
 |Cf L sz l c =>
  cases h with
  |Cf _ _ _ _ es a1 a2 a3 a4 a5 =>
   refine .map _ c es a1 (by simpa[Ud]using a2) ?_ ?_ ?_
   ·intro i x e hx he;simp only[Ud,Bp1,Bp8]at hx;obtain⟨y,hy,rfl⟩:=hx;obtain⟨b1,b2,b3,_⟩:=a3 i y e hy he;exact⟨b1,b2,b3⟩
   ·intro q hq;simp only[Ud,Bpc]at hq;obtain⟨y,hy,rfl⟩:=hq;exact a4 y hy
   ·simpa[Ud,Brv,Bsd]using a5
 |cells hl hc ht =>
  cases h with
  |cells _ _ arr T h1 h2 h3 h4 =>
   refine .cells _ _ arr T h1 (hl▸h2) ?_ ?_
   ·intro i y v hy hv;have Bg:=(Bp2.1 hy).1;obtain⟨x,hx⟩:∃x,_=some x:=⟨_,Bpd (l:=_) (i:=i) (by rw[hl];exact Bg)⟩;exact hc i x y hx hy g w v (h3 i x v hx hv)
   ·intro t hh;rcases ht with e|e
    ·exact h4 t (e▸hh)
    ·rw[e]at hh;cases hh
def B42{nm:A2 Nat}(h:HR nm B g w X)(hle:∀k o',Y.objs.lookup k=some o'→∃o,X.objs.lookup k=some o∧Agy o o')
  (hk:∀k,(X.objs.lookup k).isSome→(Y.objs.lookup k).isSome) (hl:Y.live=X.live):HR nm B g w Y where
 D4 k hm:=⟨(h.D4 k hm).1,hk k (h.D4 k hm).2⟩
 Ip:=h.Ip
 base:=h.base
 io:=h.io
 le:=h.le
 frame:=h.frame
 objs k o' ho:=by obtain⟨o,h1,h2⟩:=hle k o' ho;exact Ajx (h.objs k o h1) h2
 Fq k o' ho:=by obtain⟨o,h1,h2⟩:=hle k o' ho;exact h.Fq k o h1
 Br k k' o o' ho ho':=by obtain⟨_,h1,_⟩:=hle k o ho;obtain⟨_,h2,_⟩:=hle k' o' ho';exact h.Br k k' _ _ h1 h2
 Ca k o' ho:=by obtain⟨o,h1,h2⟩:=hle k o' ho;exact h.Ca k o h1
 live n:=by rw[hl];exact h.live n
 Bw:=h.Bw
 Ba n b k o' hn ho:=by obtain⟨o,h1,h2⟩:=hle k o' ho;exact h.Ba n b k o hn h1
 C3:=h.C3
 C7:=h.C7
 eta:=h.eta.same (Bpa _) fun k o' ho=>let ⟨o,h1,_⟩:=hle k o' ho;⟨o,h1⟩
def Bb3{rd:A2 (Operand×AV)}(h:Bi P o rd Y X' F res)(hle:∀k o',Y.objs.lookup k=some o'→∃o,X.objs.lookup k=some o∧Agy o o')
  (hk:∀k,(X.objs.lookup k).isSome→(Y.objs.lookup k).isSome) (hl:Y.live=X.live):Bi P o rd X X' F res :=
 fun nm Ej B g w a hr=>h nm Ej B g w a (B42 hr hle hk hl)
def Agz{fn:FuncId}{c:Operand}{xs Jd:A2 AV}(f fl:Nat→Nat)(F:A2 Nat)
  (ho:o.op = .call { callee:=.value c,args:=args,argTypes:=ts }) (hf:Ed P fn) (hs:Mj P fn (xs++Jd) Xc res Cw) (hc:A13 X Xc Cw f fl F)
  (hl:xs.length=args.size) (hd:Kt (Xc.objs.map (·.1)) Xc.live (xs++Jd)=true) (Vv:H5 (Cw.objs.map (·.1)) Cw.live res=true) :
  Bi P o ((c,.F1 fn (Oz f fl Jd))::args.toList.zip (Oz f fl xs)) X ⟨Cr f fl Cw.objs X.objs,Hw fl X Xc Cw⟩ F (S5 f fl res):=by
 intro nm Ej B g w a hr Au next Q hn
 have e1:=Is Au;simp only at e1;unfold Oper.wp;generalize hcv:a.eval c=vc at e1;cases e1 with
 |F1 _ _ vs hlen Pk =>
  have:(execOp a.eval o).run P w = .ok (.enter fn (args.map a.eval++vs)) w:=by simp only[execOp,ho,resolve];simp[hcv,Deferred.ofValue,invoke,D0 hf]
  rw[this];have hm:∀l m:A2 AV,Oz f fl (l++m)=Oz f fl l++Oz f fl m:=fun l m=>by rw[Iz,Iz,Iz,Bpn]
  have hml:(Oz f fl xs).length=args.size:=by rw[Iz,Bpl,hl]
  have hmc:Jd.length=vs.size:=by rw[Iz,Bpl]at hlen;exact hlen
  refine(hs.Aqh hc hd Vv hr (vs:=args.map a.eval++vs) (by simp[hl,hmc]) ?_).mono ?_
  ·intro i x v hx hv;rw[hm,Bqh]at hx;split at hx
   ·rename_i Bg;rw[Brh (by simp;omega)]at hv;exact Wd (fun p hp=>Au p (Bp5 _ hp)) i x v hx hv
   ·rename_i hge;rw[Bso (by simp;omega)]at hv;refine Pk _ x v hx ?_;rw[hml];simpa using hv
  ·rintro e w' ⟨v,g',rfl,h1,h2,h3⟩;exact hn g' w' v h1 h2 h3
def An5{fn:FuncId}{D2:A2 Nat}{xs ys:A2 AV}(f fl:Nat→Nat)(F:A2 Nat)
  (ho:o.op = .call { callee:=.value (.func fn),args:=args,argTypes:=ts }) (hf:Ed P fn) (hs:Afh P fn xs (D2.zip ys) Xc res Cw) (hc:A13 X Xc Cw f fl F)
  (hl:xs.length=args.size) (hd:Kt (Xc.objs.map (·.1)) Xc.live xs=true) (hy:Az ys=true) (Vv:H5 (Cw.objs.map (·.1)) Cw.live res=true) :
  Bi P o (args.toList.zip (Oz f fl xs)++(D2.map Operand.global).zip ys) X ⟨Cr f fl Cw.objs X.objs,Hw fl X Xc Cw⟩ F (S5 f fl res):=by
 intro nm Ej B g w a hr Au next Q hn
 unfold Oper.wp;have:(execOp a.eval o).run P w = .ok (.enter fn (args.map a.eval)) w:=by simp only[execOp,ho,resolve];simp[Act.eval,Deferred.ofValue,invoke,D0 hf]
 rw[this];have hG:GH g w (D2.zip ys):=by
  intro p hp;have h1:(Operand.global p.1,p.2)∈(D2.map Operand.global).zip ys:=by rw[Bvk,Bpc];exact⟨p,hp,rfl⟩
  exact Au _ (Bph _ h1)
 refine(hs.Aqh (Yz _ hy) hc hd Vv hr hG (by simpa using hl) (Wd fun p hp=>Au p (Bpi _ hp))).mono ?_;rintro e w' ⟨v,g',rfl,h1,h2,h3⟩;exact hn g' w' v h1 h2 h3
inductive AS where
 |d (t:Ty)
 |p (k off:Nat)
 |os (k:Nat) (t:Ty)
 |F1 (f:Nat) (ps:List (Nat×Nat))
 |oa (k a:Nat) (t:Ty)
 |g (k:Nat) (t:Ty)
 |nil (p:Option Bool)
def At0:A2 AS→A2 Nat
 |[]=>[]
 |.g k _::r=>k::At0 r
 |_::r=>At0 r
def A8y:A2 AS→Nat
 |[]=>0
 |.g _ _::_=>0
 |_::r=>A8y r+1
structure Dr where
 args:List AS
 objs:List (Nat×List VK×Option TypeId)
 R3:List (Nat×OK)
 out:Cut
def Dr.names(S:Dr):A2 Nat:=Ii S.objs++Fc S.R3
def Dr.E9(S:Dr):A2 Nat:=A1l S.objs
def Dr.D2(S:Dr):A2 Nat:=At0 S.args
def Dr.n(S:Dr):Nat:=A8y S.args
def Dr.s0(S:Dr)(xs:A2 XV)(objs:A2 (Nat×A9)):Af:=⟨A8q 0 (xs.take S.n)++glE S.D2 (xs.drop S.n),objs,S.E9,[],[]⟩
@[reducible] def A8z:A2 AS→Type→Type
 |[],R=>R
 |.d t::r,R=>t.T→A8z r R
 |.p _ _::r,R=>A8z r R
 |.os _ _::r,R=>Nat→A8z r R
 |.oa _ _ _::r,R=>Nat→A8z r R
 |.F1 _ _::r,R=>A8z r R
 |.g _ t::r,R=>t.T→A8z r R
 |.nil _::r,R=>A8z r R
@[reducible] def Ajy:A2 VK→Type→Type
 |[],R=>R
 |.d t::r,R=>t.T→Ajy r R
 |.p _ _::r,R=>Ajy r R
 |.z _ _::r,R=>Bool→Ajy r R
 |.os _ _::r,R=>Nat→Ajy r R
 |.Px _::r,R=>Ajy r R
 |.Be _ t _::r,R=>List t.T→Ajy r R
@[reducible] def B6x:A2 (Nat×A2 VK×A3 TypeId)→Type→Type
 |[],R=>R
 |p::r,R=>Ajy p.2.1 (B6x r R)
@[reducible] def B6y:A2 (Nat×OK)→Type→Type
 |[],R=>R
 |p::r,R=>p.2.T→B6y r R
@[reducible] def Dr.Bb (S:Dr) (R:Type):Type:=A8z S.args (B6x S.objs (B6y S.R3 R))
def psX(ps:A2 (Nat×Nat)):A2 XV:=ps.map fun p=>.nm p.1 (A07 p.2)
def A4c{α:Type}:(l:A2 AS)→(A2 XV→α)→A2 XV→A8z l α
 |[],f,acc=>f acc
 |.d t::r,f,acc=>fun y=>A4c r f (acc++[.d (t.xv y)])
 |.p k off::r,f,acc=>A4c r f (acc++[.nm k (A07 off)])
 |.os k t::r,f,acc=>fun n=>A4c r f (acc++[.os k t 0 n])
 |.oa k a t::r,f,acc=>fun n=>A4c r f (acc++[.os k t a n])
 |.F1 g ps::r,f,acc=>A4c r f (acc++[.F1 g (psX ps)])
 |.g _ t::r,f,acc=>fun y=>A4c r f (acc++[.d (t.xv y)])
 |.nil p::r,f,acc=>A4c r f (acc++[A40 p])
def An6{α:Type}:(l:A2 VK)→(A2 XV→α)→A2 XV→Ajy l α
 |[],f,acc=>f acc
 |.d t::r,f,acc=>fun y=>An6 r f (acc++(t.enc y).map .d)
 |.p k off::r,f,acc=>An6 r f (acc++[.nm k (A07 off)])
 |.z k off::r,f,acc=>fun b=>An6 r f (acc++[.nm k (.z b off)])
 |.os k t::r,f,acc=>fun n=>An6 r f (acc++[.os k t 0 n])
 |.Px p::r,f,acc=>An6 r f (acc++[A40 p])
 |.Be n t ty::r,f,acc=>fun l=>An6 r f (acc++[.Be n t l ty])
def Bim{α:Type}:(l:A2 (Nat×A2 VK×A3 TypeId))→(A2 (Nat×A9)→α)→A2 (Nat×A9)→B6x l α
 |[],f,acc=>f acc
 |p::r,f,acc=>An6 p.2.1 (fun cs=>Bim r f (acc++[(p.1,.cells cs p.2.2)])) []
def Bin{α:Type}:(l:A2 (Nat×OK))→(A2 (Nat×A9)→α)→A2 (Nat×A9)→B6y l α
 |[],f,acc=>f acc
 |p::r,f,acc=>fun l=>Bin r f (acc++[(p.1,p.2.ob l)])
def J2{β:Type}(Q:β→A2 XV→Prop):(l:A2 AS)→A8z l β→A2 XV→Prop
 |[],F,acc=>Q F acc
 |.d t::r,F,acc=>∀y:t.T,J2 Q r (F y) (acc++[.d (t.xv y)])
 |.p k off::r,F,acc=>J2 Q r F (acc++[.nm k (A07 off)])
 |.os k t::r,F,acc=>∀n:Nat,J2 Q r (F n) (acc++[.os k t 0 n])
 |.oa k a t::r,F,acc=>∀n:Nat,J2 Q r (F n) (acc++[.os k t a n])
 |.F1 g ps::r,F,acc=>J2 Q r F (acc++[.F1 g (psX ps)])
 |.g _ t::r,F,acc=>∀y:t.T,J2 Q r (F y) (acc++[.d (t.xv y)])
 |.nil p::r,F,acc=>J2 Q r F (acc++[A40 p])
def Ajz{β:Type}(Q:β→A2 XV→Prop):(l:A2 VK)→Ajy l β→A2 XV→Prop
 |[],F,acc=>Q F acc
 |.d t::r,F,acc=>∀y:t.T,Ajz Q r (F y) (acc++(t.enc y).map .d)
 |.p k off::r,F,acc=>Ajz Q r F (acc++[.nm k (A07 off)])
 |.z k off::r,F,acc=>∀b:Bool,Ajz Q r (F b) (acc++[.nm k (.z b off)])
 |.os k t::r,F,acc=>∀n:Nat,Ajz Q r (F n) (acc++[.os k t 0 n])
 |.Px p::r,F,acc=>Ajz Q r F (acc++[A40 p])
 |.Be n t ty::r,F,acc=>∀l:List t.T,Ajz Q r (F l) (acc++[.Be n t l ty])
def Bep{β:Type}(Q:β→A2 (Nat×A9)→Prop):(l:A2 (Nat×A2 VK×A3 TypeId))→B6x l β→A2 (Nat×A9)→Prop
 |[],F,acc=>Q F acc
 |p::r,F,acc=>Ajz (fun F' cs=>Bep Q r F' (acc++[(p.1,.cells cs p.2.2)])) p.2.1 F []
def Beq{β:Type}(Q:β→A2 (Nat×A9)→Prop):(l:A2 (Nat×OK))→B6y l β→A2 (Nat×A9)→Prop
 |[],F,acc=>Q F acc
 |p::r,F,acc=>∀l:p.2.T,Beq Q r (F l) (acc++[(p.1,p.2.ob l)])
theorem To{α:Type}{Q:α→A2 XV→Prop}{f:A2 XV→α}(m:Nat)(h:∀acc,acc.length=m→Q (f acc) acc):∀(l:A2 AS) (acc:A2 XV),acc.length+l.length=m→J2 Q l (A4c l f acc) acc
 |[],acc,hm=>h acc (by simpa using hm)
 |.d t::r,acc,hm=>fun y=>To m h r _ (by simp at hm⊢;omega)
 |.p k off::r,acc,hm=>by
  simp only[J2,A4c];exact To m h r (acc++[.nm k (A07 off)]) (by simp at hm⊢;omega)
 |.os k t::r,acc,hm=>fun n=>To m h r _ (by simp at hm⊢;omega)
 |.oa k a t::r,acc,hm=>fun n=>To m h r _ (by simp at hm⊢;omega)
 |.F1 g ps::r,acc,hm=>by
  simp only[J2,A4c];exact To m h r (acc++[.F1 g (psX ps)]) (by simp at hm⊢;omega)
 |.g _ t::r,acc,hm=>fun y=>To m h r _ (by simp at hm⊢;omega)
 |.nil p::r,acc,hm=>by
  simp only[J2,A4c];exact To m h r (acc++[A40 p]) (by simp at hm⊢;omega)
theorem Wv{α:Type}{Q:α→A2 XV→Prop}{f:A2 XV→α}(h:∀acc,Q (f acc) acc):∀(l:A2 VK) (acc:A2 XV),Ajz Q l (An6 l f acc) acc
 |[],acc=>h acc
 |.d t::r,acc=>fun y=>Wv h r _
 |.p k off::r,acc=>by
  simp only[Ajz,An6];exact Wv h r (acc++[.nm k (A07 off)])
 |.z k off::r,acc=>fun b=>Wv h r _
 |.os k t::r,acc=>fun n=>Wv h r _
 |.Px p::r,acc=>by
  simp only[Ajz,An6];exact Wv h r (acc++[A40 p])
 |.Be n t ty::r,acc=>fun l=>Wv h r _
theorem Awz{α:Type}{Q:α→A2 (Nat×A9)→Prop}{f:A2 (Nat×A9)→α}(ns:A2 Nat)(h:∀acc,acc.map (·.1)=ns→Q (f acc) acc):∀(l:A2 (Nat×A2 VK×A3 TypeId)) (acc:A2 (Nat×A9)),acc.map (·.1)++Ii l=ns→Bep Q l (Bim l f acc) acc
 |[],acc,hm=>h acc (by simpa[Ii]using hm)
 |p::r,acc,hm=>Wv (fun cs=>Awz ns h r _ (by simpa[Ii]using hm)) p.2.1 []
theorem Ax0{α:Type}{Q:α→A2 (Nat×A9)→Prop}{f:A2 (Nat×A9)→α}(ns:A2 Nat)(h:∀acc,acc.map (·.1)=ns→Q (f acc) acc):∀(l:A2 (Nat×OK)) (acc:A2 (Nat×A9)),acc.map (·.1)++Fc l=ns→Beq Q l (Bin l f acc) acc
 |[],acc,hm=>h acc (by simpa[Fc]using hm)
 |p::r,acc,hm=>fun l=>Ax0 ns h r _ (by simpa[Fc]using hm)
section
variable(P:Program)(Γ:A2 (Ft P))(own:A2 Nat)(N:Nat)(fn:Func)(an:An)(S:Dr)
def Ber(S:Dr)(xs:A2 XV)(objs:A2 (Nat×A9))(s:Af):A3 S.out.T:=proj S.names (Wt (S.s0 xs objs) S.out) S.out s
def Bl4(S:Dr)(xs:A2 XV)(objs:A2 (Nat×A9)):Exit→Af→A3 S.out.T
 |.ret,s=>Ber S xs objs s
 |.normal,s=>Ber S xs objs s
 |_,_=>none
def Bb4(xs:A2 XV)(objs:A2 (Nat×A9)):A3 S.out.T :=
 match fn.body with
 |some c=>cond (Nat.ble fn.ntmps GB) (cond (Dt objs) (exec P Γ own S.names fn.ntmps N c an (S.s0 xs objs) (Bl4 S xs objs)) none) none
 |none=>none
def Bes:S.Bb (A3 S.out.T):=A4c S.args (fun xs=>Bim S.objs (fun os=>Bin S.R3 (fun os'=>Bb4 P Γ own N fn an S xs os') os) []) []
end
def Bb5(P:Program)(f:FuncId)(fn:Func)(S:Dr)(y:S.out.T)(xs:A2 XV)(objs:A2 (Nat×A9)):Prop :=
 objs.map (·.1)=S.names∧Dt objs=true∧∀rs,Abp P (gen (S.s0 xs objs) S.out y) fn.results.toList=some rs→Afh P f (A7 (xs.take S.n)) (S.D2.zip (A7 (xs.drop S.n))) ⟨A4 objs,S.E9⟩ (Lj rs).a (gen (S.s0 xs objs) S.out y).X
def Bb6(P:Program)(f:FuncId)(fn:Func)(S:Dr)(F:S.Bb (A3 S.out.T)):Prop :=
 J2 (fun F' xs=>Bep (fun F'' os=>Beq (fun F3 os'=>∀y,F3=some y→Bb5 P f fn S y xs os') S.R3 F'' os) S.objs F' []) S.args F []
def A90:A2 Nat→Bool
 |[]=>true
 |n::r=>cond (Nat.blt n 1000) (A90 r) false
theorem Ag5:∀ {l:A2 Nat},A90 l=true→∀j∈l,j<1000
 |[],_=>by simp
 |n::r,h=>by
  simp only[A90]at h;cases hb:Nat.blt n 1000 with
  |false=>simp[hb]at h
  |true =>
   simp only[hb,Bov]at h;intro j hj;rcases Boz.1 hj with rfl|hj
   ·simpa[Bqx]using hb
   ·exact Ag5 h j hj
def Aby(S:Dr):Bool:=match S.out.Yt with
 |[]=>true
 |_=>false
def Hm{l:A2 (Nat×A9)}(h:Dt l=true):(A4 l).map (·.1)=l.map (·.1):=by rw[A3g h];simp
variable{S:Dr}
def Ax1{Γ:A2 (Ft P)}{y:S.out.T}(hm:P.follows .mixedOrders=true)(hf:P.funcs[f]? = some fn)
  (hn:xs.length≤fn.ntmps) (Ej:A90 S.names=true) (hks:Aby S=true) (A4d:objs.map (·.1)=S.names) (h:Bb4 P Γ own N fn an S xs objs=some y):Bb5 P f fn S y xs objs:=by
 unfold Bb4 at h;split at h
 ·rename_i c hc;obtain⟨hG,h⟩:=Aos h;cases hna:Dt objs with
  |false=>rw[hna]at h;cases h
  |true =>
  rw[hna,Bov]at h;have hs:=S9 (S:=⟨fn.ntmps,S.names,Ag5 Ej⟩) hm rfl c an _ _ _ _ (.refl _) h;have Bna:S.out.Yt=[]:=by
   unfold Aby at hks;split at hks
   ·assumption
   ·cases hks
  refine⟨A4d,hna,fun rs hrs=>?_⟩;intro g w vs hr hgs hl ha;have We:(A4 objs).map (·.1)=S.names:=by rw[Hm hna,A4d]
  refine Buk hf hc (Btw (hs (B8.of g w ⟨A4 objs,S.E9⟩) g w _ ?_) ?_)
  ·rw[Ah,Bq1]at hl;refine⟨rfl,?_,?_,?_⟩
   ·simp;omega
   ·have:=hr;rw[We]at this;exact this
   ·intro s x hx;have hx':(Ds (A8q 0 (xs.take S.n))++Ds (glE S.D2 (xs.drop S.n))).lookup s=some x:=by rw[Ds,Ds,← Bpn];exact hx
    rw[Br0,A61]at hx';cases h1:(A2e 0 (A7 (xs.take S.n))).lookup s with
    |some x1 =>
     rw[h1]at hx';simp only[Bsw,Bp0]at hx';subst hx';obtain⟨_,hx'⟩:=Nn h1;rw[Bs3]at hx';have Bg:s<vs.size:=by have:=(Bp2.1 hx').1;rw[Ah,Bq1]at this;omega
     refine⟨vs[s],?_,ha s x1 _ hx' (by simp[Bg])⟩;rw[S2 (by omega)];simp[Bsv,Bg]
    |none =>rw[h1]at hx';simp only[Bt3]at hx';obtain⟨k,rfl,hk⟩:=Ahe (Da hx');exact⟨_,A0w k,hgs _ hk⟩
  ·rintro e a' w' ⟨s,g',⟨Bd,rfl,hi,hk⟩,Gu⟩;have fin:Ber S xs objs Bd=some y →
     a'.defers=[]∧∃v,(results fn a'.tmps).run P w' = .ok v w'∧∃g' v_1,Ending.returned v=Ending.returned v_1∧RA g' w' (Lj rs).a v_1∧HR ((A4 objs).map (·.1)) (B8.of g w ⟨A4 objs,S.E9⟩) g' w' (gen (S.s0 xs objs) S.out y).X:=by
    intro h;unfold Ber at h;obtain⟨g'',Aea⟩:=Vz h (by rw[Bna];simp) (fun k _ x hk hx=>hi.objs k x hk hx) Gu rfl;obtain⟨v,hv,Ua⟩:=Mq (T2 hrs) Aea;rw[← R5]at Ua;exact⟨Aea.defers,v,hv,g'',v,rfl,Ua,by rw[We];exact Aea.hr⟩
   cases e with
   |ret=>exact fin hk
   |normal=>exact fin hk
   |_=>simp[Bl4]at hk
 ·cases h
def B11{Γ:A2 (Ft P)}(hm:P.follows .mixedOrders=true)(hf:P.funcs[f]? = some fn)
  (hn:Nat.ble S.args.length fn.ntmps=true) (Ej:A90 S.names=true) (hks:Aby S=true):Bb6 P f fn S (Bes P Γ own N fn an S):=by
 unfold Bb6 Bes;refine To S.args.length (fun xs hxs=>?_) S.args [] (by simp);refine Awz (Ii S.objs) (fun os hos=>?_) S.objs [] (by simp);refine Ax0 S.names (fun os' Bnb=>?_) S.R3 os (by rw[hos];rfl);intro y hy;exact Ax1 hm hf (by have:=Bpf hn;omega) Ej hks Bnb hy
end Go.Xl
